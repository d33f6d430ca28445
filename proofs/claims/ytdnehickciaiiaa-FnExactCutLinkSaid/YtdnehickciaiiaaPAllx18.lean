/- Proved here: contracts of functions of the given program, or lemmas on them, for the laws of this seat. Written by xprint.py, a program of this session, on the ground of the kit's print; parts by hand: wip/x/ext. -/
import Derived.Test.YtdnehickciaiiaaPAllx0
import Derived.Test.YtdnehickciaiiaaPAllx2
import Derived.Test.YtdnehickciaiiaaPAllx3
import Derived.Test.YtdnehickciaiiaaPAllx5
import Derived.Test.YtdnehickciaiiaaPAllx17
namespace Go.Proofs.Ytdnehickciaiiaa.PAll
open Go.RowKit Go.Proofs.YtdnehickciaiiaaW.PrintWords Go.Proofs.YtdnehickciaiiaaW.PrintLast Go.Proofs.YtdnehickciaiiaaW.PrintMore
attribute [local go_sem] max2_int min2_int max_two min_two max_three min_three max_four min_four   -- for this text's walks alone
set_option linter.unusedVariables false
set_option linter.unusedSimpArgs false

/-! ### laws_FnExactCutLink: function 11 -/
mutual
def laws_FnExactCutLink.j0 : Nat → Int → Bool → Bool → Bool → Int → Int → List Int → Int → Int → List Int → Int → Int → List Int → Int → Int → List Int → Option (Bool)
 | 0, _, _, _, _, _, _, _, _, _, _, _, _, _, _, _, _ => none
 | k + 1, x1, x7, x10, x44, x771000, x771001, x771002, x784000, x784001, x784002, x790000, x790001, x790002, x797000, x797001, x797002 => if x44 = true then (some false) else ((laws_toRing.f k x771000 x771001 x771002).bind fun bt798 => ((laws_eqRing.f k x790000 x790001 x790002 bt798.1 bt798.2.1 bt798.2.2).bind fun t803 => (if t803 = true then ((laws_markRing.f k x790000 x790001 x790002 1).bind fun bt804 => (if bt804.1 < 0 then (laws_FnExactCutLink.j1 k x1 x7 true x771000 x771001 x771002 x784000 x784001 x784002 x797000 x797001 x797002) else ((laws_eqRing.f k x797000 x797001 x797002 x784000 x784001 x784002).bind fun t806 => (if t806 = true then (laws_FnExactCutLink.j1 k x1 x7 (x10 != x7) x771000 x771001 x771002 x784000 x784001 x784002 x797000 x797001 x797002) else (laws_FnExactCutLink.j1 k x1 x7 true x771000 x771001 x771002 x784000 x784001 x784002 x797000 x797001 x797002))))) else (some false))))
def laws_FnExactCutLink.j1 : Nat → Int → Bool → Bool → Int → Int → List Int → Int → Int → List Int → Int → Int → List Int → Option (Bool)
 | 0, _, _, _, _, _, _, _, _, _, _, _, _ => none
 | k + 1, x1, x7, x65, x771000, x771001, x771002, x784000, x784001, x784002, x797000, x797001, x797002 => if x65 = true then (some false) else ((laws_markRing.f k x797000 x797001 x797002 1).bind fun bt807 => ((laws_heldRing.f k x797000 x797001 bt807.2 1).bind fun t809 => (if t809 < 0 then (some false) else (if t809 = bt807.1 then ((laws_toRing.f k x771000 x771001 x771002).bind fun bt810 => ((impl_CutLink.f k bt810.1 bt810.2.1 bt810.2.2 x1).bind fun bt815 => ((laws_eqRing.f k bt815.1 bt815.2.1 bt815.2.2.1 x784000 x784001 x784002).bind fun t822 => (if t822 = true then (laws_FnExactCutLink.j2 k bt807.1 (bt815.2.2.2 != x7) x797000 x797001 bt807.2) else (laws_FnExactCutLink.j2 k bt807.1 true x797000 x797001 bt807.2))))) else (some false)))))
def laws_FnExactCutLink.j2 : Nat → Int → Bool → Int → Int → List Int → Option (Bool)
 | 0, _, _, _, _, _ => none
 | k + 1, x12, x92, x797000, x797001, x797002 => if x92 = true then (some false) else ((laws_heldRing.f k x797000 x797001 x797002 1).bind fun t823 => (if t823 < 0 then (some false) else (if t823 = x12 then (some true) else (some false))))
end
def laws_FnExactCutLink.f (k : Nat) (a0_0 : Int) (a0_1 : Int) (l0_2 : List Int) (a1 : Int) : Option (Bool) := (laws_szRing.f a0_0 a0_1 l0_2 1048576).bind fun t771 => (if t771 < 0 then (some true) else ((laws_toRing.f k a0_0 a0_1 l0_2).bind fun bt772 => ((spec_CutLink.f k bt772.1 bt772.2.1 bt772.2.2 a1).bind fun bt777 => ((laws_toRing.f k a0_0 a0_1 l0_2).bind fun bt784 => ((impl_CutLink.f k bt784.1 bt784.2.1 bt784.2.2 a1).bind fun bt790 => ((laws_eqRing.f k bt790.1 bt790.2.1 bt790.2.2.1 bt777.1 bt777.2.1 bt777.2.2.1).bind fun t797 => (if t797 = true then (laws_FnExactCutLink.j0 k a1 bt777.2.2.2 bt790.2.2.2 (bt790.2.2.2 != bt777.2.2.2) a0_0 a0_1 l0_2 bt777.1 bt777.2.1 bt777.2.2.1 bt784.1 bt784.2.1 bt784.2.2 bt790.1 bt790.2.1 bt790.2.2.1) else (laws_FnExactCutLink.j0 k a1 bt777.2.2.2 bt790.2.2.2 true a0_0 a0_1 l0_2 bt777.1 bt777.2.1 bt777.2.2.1 bt784.1 bt784.2.1 bt784.2.2 bt790.1 bt790.2.1 bt790.2.2.1))))))))
theorem laws_FnExactCutLink.mono_l : ∀ k, (∀ y0 y1 y2 y3 y4 y5 y6 y7 y8 y9 y10 y11 y12 y13 y14 y15, LeO (laws_FnExactCutLink.j0 k y0 y1 y2 y3 y4 y5 y6 y7 y8 y9 y10 y11 y12 y13 y14 y15) (laws_FnExactCutLink.j0 (k + 1) y0 y1 y2 y3 y4 y5 y6 y7 y8 y9 y10 y11 y12 y13 y14 y15)) ∧ (∀ y0 y1 y2 y3 y4 y5 y6 y7 y8 y9 y10 y11, LeO (laws_FnExactCutLink.j1 k y0 y1 y2 y3 y4 y5 y6 y7 y8 y9 y10 y11) (laws_FnExactCutLink.j1 (k + 1) y0 y1 y2 y3 y4 y5 y6 y7 y8 y9 y10 y11)) ∧ (∀ y0 y1 y2 y3 y4, LeO (laws_FnExactCutLink.j2 k y0 y1 y2 y3 y4) (laws_FnExactCutLink.j2 (k + 1) y0 y1 y2 y3 y4))
 | 0 => ⟨fun _ _ _ _ _ _ _ _ _ _ _ _ _ _ _ _ r h => by simp [laws_FnExactCutLink.j0] at h, fun _ _ _ _ _ _ _ _ _ _ _ _ r h => by simp [laws_FnExactCutLink.j1] at h, fun _ _ _ _ _ r h => by simp [laws_FnExactCutLink.j2] at h⟩
 | k + 1 => by
  obtain ⟨ih0, ih1, ih2⟩ := laws_FnExactCutLink.mono_l k
  refine ⟨?_, ?_, ?_⟩
  ·intro y0 y1 y2 y3 y4 y5 y6 y7 y8 y9 y10 y11 y12 y13 y14 y15
   unfold laws_FnExactCutLink.j0
   repeat' first
   | (with_reducible exact ih0 _ _ _ _ _ _ _ _ _ _ _ _ _ _ _ _)
   | (with_reducible exact ih1 _ _ _ _ _ _ _ _ _ _ _ _)
   | (with_reducible exact ih2 _ _ _ _ _)
   | (with_reducible exact impl_CutLink.mono _ _ _ _ _)
   | (with_reducible exact laws_eqRing.mono _ _ _ _ _ _ _)
   | (with_reducible exact laws_heldRing.mono _ _ _ _ _)
   | (with_reducible exact laws_markRing.mono _ _ _ _ _)
   | (with_reducible exact laws_toRing.mono _ _ _ _)
   | (with_reducible exact spec_CutLink.mono _ _ _ _ _)
   | (with_reducible exact LeO.refl _)
   | (with_reducible exact LeO.none _)
   | (with_reducible refine LeO.ite ?_ ?_)
   | (with_reducible refine LeO.bind ?_ (fun _ => ?_))
   | exact ih0 _ _ _ _ _ _ _ _ _ _ _ _ _ _ _ _
   | exact ih1 _ _ _ _ _ _ _ _ _ _ _ _
   | exact ih2 _ _ _ _ _
   | exact impl_CutLink.mono _ _ _ _ _
   | exact laws_eqRing.mono _ _ _ _ _ _ _
   | exact laws_heldRing.mono _ _ _ _ _
   | exact laws_markRing.mono _ _ _ _ _
   | exact laws_toRing.mono _ _ _ _
   | exact spec_CutLink.mono _ _ _ _ _
   | exact LeO.none _
   | refine LeO.ite ?_ ?_
   | refine LeO.bind ?_ (fun _ => ?_)
  ·intro y0 y1 y2 y3 y4 y5 y6 y7 y8 y9 y10 y11
   unfold laws_FnExactCutLink.j1
   repeat' first
   | (with_reducible exact ih0 _ _ _ _ _ _ _ _ _ _ _ _ _ _ _ _)
   | (with_reducible exact ih1 _ _ _ _ _ _ _ _ _ _ _ _)
   | (with_reducible exact ih2 _ _ _ _ _)
   | (with_reducible exact impl_CutLink.mono _ _ _ _ _)
   | (with_reducible exact laws_eqRing.mono _ _ _ _ _ _ _)
   | (with_reducible exact laws_heldRing.mono _ _ _ _ _)
   | (with_reducible exact laws_markRing.mono _ _ _ _ _)
   | (with_reducible exact laws_toRing.mono _ _ _ _)
   | (with_reducible exact spec_CutLink.mono _ _ _ _ _)
   | (with_reducible exact LeO.refl _)
   | (with_reducible exact LeO.none _)
   | (with_reducible refine LeO.ite ?_ ?_)
   | (with_reducible refine LeO.bind ?_ (fun _ => ?_))
   | exact ih0 _ _ _ _ _ _ _ _ _ _ _ _ _ _ _ _
   | exact ih1 _ _ _ _ _ _ _ _ _ _ _ _
   | exact ih2 _ _ _ _ _
   | exact impl_CutLink.mono _ _ _ _ _
   | exact laws_eqRing.mono _ _ _ _ _ _ _
   | exact laws_heldRing.mono _ _ _ _ _
   | exact laws_markRing.mono _ _ _ _ _
   | exact laws_toRing.mono _ _ _ _
   | exact spec_CutLink.mono _ _ _ _ _
   | exact LeO.none _
   | refine LeO.ite ?_ ?_
   | refine LeO.bind ?_ (fun _ => ?_)
  ·intro y0 y1 y2 y3 y4
   unfold laws_FnExactCutLink.j2
   repeat' first
   | (with_reducible exact ih0 _ _ _ _ _ _ _ _ _ _ _ _ _ _ _ _)
   | (with_reducible exact ih1 _ _ _ _ _ _ _ _ _ _ _ _)
   | (with_reducible exact ih2 _ _ _ _ _)
   | (with_reducible exact impl_CutLink.mono _ _ _ _ _)
   | (with_reducible exact laws_eqRing.mono _ _ _ _ _ _ _)
   | (with_reducible exact laws_heldRing.mono _ _ _ _ _)
   | (with_reducible exact laws_markRing.mono _ _ _ _ _)
   | (with_reducible exact laws_toRing.mono _ _ _ _)
   | (with_reducible exact spec_CutLink.mono _ _ _ _ _)
   | (with_reducible exact LeO.refl _)
   | (with_reducible exact LeO.none _)
   | (with_reducible refine LeO.ite ?_ ?_)
   | (with_reducible refine LeO.bind ?_ (fun _ => ?_))
   | exact ih0 _ _ _ _ _ _ _ _ _ _ _ _ _ _ _ _
   | exact ih1 _ _ _ _ _ _ _ _ _ _ _ _
   | exact ih2 _ _ _ _ _
   | exact impl_CutLink.mono _ _ _ _ _
   | exact laws_eqRing.mono _ _ _ _ _ _ _
   | exact laws_heldRing.mono _ _ _ _ _
   | exact laws_markRing.mono _ _ _ _ _
   | exact laws_toRing.mono _ _ _ _
   | exact spec_CutLink.mono _ _ _ _ _
   | exact LeO.none _
   | refine LeO.ite ?_ ?_
   | refine LeO.bind ?_ (fun _ => ?_)
theorem laws_FnExactCutLink.mono : ∀ a0 a1 a2 a3 k, LeO (laws_FnExactCutLink.f k a0 a1 a2 a3) (laws_FnExactCutLink.f (k + 1) a0 a1 a2 a3) := by
 intro a0 a1 a2 a3 k
 obtain ⟨ih0, ih1, ih2⟩ := laws_FnExactCutLink.mono_l k
 unfold laws_FnExactCutLink.f
 repeat' first
   | (with_reducible exact ih0 _ _ _ _ _ _ _ _ _ _ _ _ _ _ _ _)
   | (with_reducible exact ih1 _ _ _ _ _ _ _ _ _ _ _ _)
   | (with_reducible exact ih2 _ _ _ _ _)
   | (with_reducible exact impl_CutLink.mono _ _ _ _ _)
   | (with_reducible exact laws_eqRing.mono _ _ _ _ _ _ _)
   | (with_reducible exact laws_heldRing.mono _ _ _ _ _)
   | (with_reducible exact laws_markRing.mono _ _ _ _ _)
   | (with_reducible exact laws_toRing.mono _ _ _ _)
   | (with_reducible exact spec_CutLink.mono _ _ _ _ _)
   | (with_reducible exact LeO.refl _)
   | (with_reducible exact LeO.none _)
   | (with_reducible refine LeO.ite ?_ ?_)
   | (with_reducible refine LeO.bind ?_ (fun _ => ?_))
   | exact ih0 _ _ _ _ _ _ _ _ _ _ _ _ _ _ _ _
   | exact ih1 _ _ _ _ _ _ _ _ _ _ _ _
   | exact ih2 _ _ _ _ _
   | exact impl_CutLink.mono _ _ _ _ _
   | exact laws_eqRing.mono _ _ _ _ _ _ _
   | exact laws_heldRing.mono _ _ _ _ _
   | exact laws_markRing.mono _ _ _ _ _
   | exact laws_toRing.mono _ _ _ _
   | exact spec_CutLink.mono _ _ _ _ _
   | exact LeO.none _
   | refine LeO.ite ?_ ?_
   | refine LeO.bind ?_ (fun _ => ?_)
set_option maxHeartbeats 8000000 in
set_option maxRecDepth 100000 in
theorem laws_FnExactCutLink.calls (k : Nat) (a0_0 : Int) (a0_1 : Int) (A0_2 : Option Addr) (c0_2 : Nat) (l0_2 : List Int) (a1 : Int) (r : Bool) (w : World) (hr0_2 : Kd.C (Kd.int .i64) w A0_2 l0_2.length l0_2) (hc0_2 : l0_2.length ≤ c0_2) (h : laws_FnExactCutLink.f k a0_0 a0_1 l0_2 a1 = some r) :
  Calls Try.prog 11 #[.agg #[.int .i64 a0_0, .int .i64 a0_1, .slice A0_2 l0_2.length c0_2], .int .i64 a1] w fun e w' => e = .returned (.bool r) ∧ Below w.heap.size w w' := by
 have hu32 := Try.underlying32
 have hu25 := Try.underlying25
 have HR0_2 := Aside0.mk hr0_2
 have HC0_2 := Aside0.mk hc0_2
 clear hr0_2 hc0_2
 have HB := Aside0.mk (Below.refl w.heap.size w)
 have H : ((laws_szRing.f a0_0 a0_1 l0_2 1048576).bind fun t771 => (if t771 < 0 then (some true) else ((laws_toRing.f k a0_0 a0_1 l0_2).bind fun bt772 => ((spec_CutLink.f k bt772.1 bt772.2.1 bt772.2.2 a1).bind fun bt777 => ((laws_toRing.f k a0_0 a0_1 l0_2).bind fun bt784 => ((impl_CutLink.f k bt784.1 bt784.2.1 bt784.2.2 a1).bind fun bt790 => ((laws_eqRing.f k bt790.1 bt790.2.1 bt790.2.2.1 bt777.1 bt777.2.1 bt777.2.2.1).bind fun t797 => (if t797 = true then (laws_FnExactCutLink.j0 k a1 bt777.2.2.2 bt790.2.2.2 (bt790.2.2.2 != bt777.2.2.2) a0_0 a0_1 l0_2 bt777.1 bt777.2.1 bt777.2.2.1 bt784.1 bt784.2.1 bt784.2.2 bt790.1 bt790.2.1 bt790.2.2.1) else (laws_FnExactCutLink.j0 k a1 bt777.2.2.2 bt790.2.2.2 true a0_0 a0_1 l0_2 bt777.1 bt777.2.1 bt777.2.2.1 bt784.1 bt784.2.1 bt784.2.2 bt790.1 bt790.2.1 bt790.2.2.1))))))))) = some r := h
 clear h
 replace H := Option.bind_eq_some_iff.mp H
 obtain ⟨t771, A30, H⟩ := H
 replace H : (if t771 < 0 then (some true) else ((laws_toRing.f k a0_0 a0_1 l0_2).bind fun bt772 => ((spec_CutLink.f k bt772.1 bt772.2.1 bt772.2.2 a1).bind fun bt777 => ((laws_toRing.f k a0_0 a0_1 l0_2).bind fun bt784 => ((impl_CutLink.f k bt784.1 bt784.2.1 bt784.2.2 a1).bind fun bt790 => ((laws_eqRing.f k bt790.1 bt790.2.1 bt790.2.2.1 bt777.1 bt777.2.1 bt777.2.2.1).bind fun t797 => (if t797 = true then (laws_FnExactCutLink.j0 k a1 bt777.2.2.2 bt790.2.2.2 (bt790.2.2.2 != bt777.2.2.2) a0_0 a0_1 l0_2 bt777.1 bt777.2.1 bt777.2.2.1 bt784.1 bt784.2.1 bt784.2.2 bt790.1 bt790.2.1 bt790.2.2.1) else (laws_FnExactCutLink.j0 k a1 bt777.2.2.2 bt790.2.2.2 true a0_0 a0_1 l0_2 bt777.1 bt777.2.1 bt777.2.2.1 bt784.1 bt784.2.1 bt784.2.2 bt790.1 bt790.2.1 bt790.2.2.1)))))))) = some r := H
 have A3 := Aside0.mk A30
 clear A30
 by_cases c4 : t771 < 0
 ·rw [if_pos c4] at H
  have c4b0 : decide (t771 < 0) = true := decide_eq_true c4
  clear c4
  obtain rfl := Option.some.inj H
  go_enter Try.func11, Try.ntmps11
  go_wp2_with (first | ((with_reducible refine gate_dst (N := 2) rfl ?_); refine box_event ?hg (N := 2) ?hd (cs := #[.int .i64 a0_0, .int .i64 a0_1, .slice A0_2 l0_2.length c0_2]) (t := 32) ?hr ?_; (case hd => rfl); (case hg => rfl); (case hr => first | (go_simp; done) | (go_simp; rfl)); intro gb770 hg w5 hbox hb; have n0_ := Aside0.mk (below_step (by repeat (first | (with_reducible first | exact HB.out | apply below_alloc | apply pw_below_drewN | apply below_drew1) | exact HB.out)) hb); have n1_ := Aside0.mk (hbox); have n2_ := Aside0.mk ((by rw [hg]; exact (below_size (by repeat (first | (with_reducible first | exact HB.out | apply below_alloc | apply pw_below_drewN | apply below_drew1) | exact HB.out))) : w.heap.size ≤ gb770)); have n3_ := Aside0.mk ((by rw [hg]; exact (below_size (by repeat (first | (with_reducible first | exact HB.out | apply below_alloc | apply pw_below_drewN | apply below_drew1) | exact HB.out))) : w.heap.size ≤ gb770)); clear HB; have HB := n0_; have BK770 := n1_; have GW770 := n2_; have GE770 := n3_; clear n0_ n1_ n2_ n3_; clear hb hbox hg; have hcz6_0 : w5.cell? ⟨gb770, 0, none⟩ = some (.int .i64 a0_0) := (blk_cell BK770.out 0).trans rfl; have hcz6_1 : w5.cell? ⟨gb770, 1, none⟩ = some (.int .i64 a0_1) := (blk_cell BK770.out 1).trans rfl; have hcz6_2 : w5.cell? ⟨gb770, 2, none⟩ = some (.slice A0_2 l0_2.length c0_2) := (blk_cell BK770.out 2).trans rfl; have hfz6_0 := blk_frozen BK770.out 0; have hfz6_1 := blk_frozen BK770.out 1; have hfz6_2 := blk_frozen BK770.out 2) | ((with_reducible refine gate_callee (f := 20) rfl ?_); refine goesL_ (some 18) rfl rfl Try.func20 (by kernel_rfl) rfl #[.agg #[.int .i64 a0_0, .int .i64 a0_1, .slice A0_2 l0_2.length c0_2], .int .i64 1048576] rfl (by (try simp only [List.map_toArray, List.map_cons, List.map_nil]); first | done | rfl | (simp only [List.length_drop, List.length_take]; rfl)) ?_; (with_reducible refine (laws_szRing.calls a0_0 a0_1 _ _ l0_2 1048576 t771 _ ?side1 ?side2 A3.out).mono ?_); (case side1 => repeat (first | exact (Kd.C_below HR0_2.out HB.out) | (with_reducible refine Kd.C_alloc ?_ _) | (with_reducible refine Kd.C_drewN ?_ _) | (with_reducible refine Kd.C_drew ?_))); (case side2 => exact HC0_2.out); rintro e w7 ⟨rfl, hb⟩; refine ⟨_, rfl, ?_⟩; have n0_ := Aside0.mk (blk_below (g := gb770) (o := .cells #[.int .i64 a0_0, .int .i64 a0_1, .slice A0_2 l0_2.length c0_2] 32 (0, 0)) (by (with_reducible repeat (first | refine blk_drewN ?_ _ | refine blk_drew ?_ | refine blk_alloc ?_ _)); exact BK770.out) hb); have n1_ := Aside0.mk (below_step (by repeat (first | (with_reducible first | exact HB.out | apply below_alloc | apply pw_below_drewN | apply below_drew1 | refine below_set ?_ GE770.out) | exact HB.out)) hb); clear BK770; clear HB; have BK770 := n0_; have HB := n1_; clear n0_ n1_; (try clear hb); (try clear hb2); (try clear hk); (try clear hi)))
  go_ret
  exact ⟨by first | rfl | (simp [errW_none, errW_some] <;> rfl) | (simp [*, errW_none, errW_some] <;> rfl), by repeat (first | (with_reducible first | exact HB.out | apply below_alloc | apply pw_below_drewN | apply below_drew1 | refine below_set ?_ GE770.out) | exact HB.out)⟩
 ·rw [if_neg c4] at H
  have c4b0 : decide (t771 < 0) = false := decide_eq_false c4
  clear c4
  replace H := Option.bind_eq_some_iff.mp H
  obtain ⟨⟨t772, t773, t774⟩, A80, H⟩ := H
  replace H : ((spec_CutLink.f k t772 t773 t774 a1).bind fun bt777 => ((laws_toRing.f k a0_0 a0_1 l0_2).bind fun bt784 => ((impl_CutLink.f k bt784.1 bt784.2.1 bt784.2.2 a1).bind fun bt790 => ((laws_eqRing.f k bt790.1 bt790.2.1 bt790.2.2.1 bt777.1 bt777.2.1 bt777.2.2.1).bind fun t797 => (if t797 = true then (laws_FnExactCutLink.j0 k a1 bt777.2.2.2 bt790.2.2.2 (bt790.2.2.2 != bt777.2.2.2) a0_0 a0_1 l0_2 bt777.1 bt777.2.1 bt777.2.2.1 bt784.1 bt784.2.1 bt784.2.2 bt790.1 bt790.2.1 bt790.2.2.1) else (laws_FnExactCutLink.j0 k a1 bt777.2.2.2 bt790.2.2.2 true a0_0 a0_1 l0_2 bt777.1 bt777.2.1 bt777.2.2.1 bt784.1 bt784.2.1 bt784.2.2 bt790.1 bt790.2.1 bt790.2.2.1)))))) = some r := H
  have A8 := Aside0.mk A80
  clear A80
  replace H := Option.bind_eq_some_iff.mp H
  obtain ⟨⟨t777, t778, t779, t782⟩, A90, H⟩ := H
  replace H : ((laws_toRing.f k a0_0 a0_1 l0_2).bind fun bt784 => ((impl_CutLink.f k bt784.1 bt784.2.1 bt784.2.2 a1).bind fun bt790 => ((laws_eqRing.f k bt790.1 bt790.2.1 bt790.2.2.1 t777 t778 t779).bind fun t797 => (if t797 = true then (laws_FnExactCutLink.j0 k a1 t782 bt790.2.2.2 (bt790.2.2.2 != t782) a0_0 a0_1 l0_2 t777 t778 t779 bt784.1 bt784.2.1 bt784.2.2 bt790.1 bt790.2.1 bt790.2.2.1) else (laws_FnExactCutLink.j0 k a1 t782 bt790.2.2.2 true a0_0 a0_1 l0_2 t777 t778 t779 bt784.1 bt784.2.1 bt784.2.2 bt790.1 bt790.2.1 bt790.2.2.1))))) = some r := H
  have A9 := Aside0.mk A90
  clear A90
  replace H := Option.bind_eq_some_iff.mp H
  obtain ⟨⟨t784, t785, t786⟩, A100, H⟩ := H
  replace H : ((impl_CutLink.f k t784 t785 t786 a1).bind fun bt790 => ((laws_eqRing.f k bt790.1 bt790.2.1 bt790.2.2.1 t777 t778 t779).bind fun t797 => (if t797 = true then (laws_FnExactCutLink.j0 k a1 t782 bt790.2.2.2 (bt790.2.2.2 != t782) a0_0 a0_1 l0_2 t777 t778 t779 t784 t785 t786 bt790.1 bt790.2.1 bt790.2.2.1) else (laws_FnExactCutLink.j0 k a1 t782 bt790.2.2.2 true a0_0 a0_1 l0_2 t777 t778 t779 t784 t785 t786 bt790.1 bt790.2.1 bt790.2.2.1)))) = some r := H
  have A10 := Aside0.mk A100
  clear A100
  replace H := Option.bind_eq_some_iff.mp H
  obtain ⟨⟨t790, t791, t792, t795⟩, A110, H⟩ := H
  replace H : ((laws_eqRing.f k t790 t791 t792 t777 t778 t779).bind fun t797 => (if t797 = true then (laws_FnExactCutLink.j0 k a1 t782 t795 (t795 != t782) a0_0 a0_1 l0_2 t777 t778 t779 t784 t785 t786 t790 t791 t792) else (laws_FnExactCutLink.j0 k a1 t782 t795 true a0_0 a0_1 l0_2 t777 t778 t779 t784 t785 t786 t790 t791 t792))) = some r := H
  have A11 := Aside0.mk A110
  clear A110
  have HC12 := Aside0.mk H
  clear H
  go_enter Try.func11, Try.ntmps11
  go_upto_region 8 with (first | ((with_reducible refine gate_dst (N := 2) rfl ?_); refine box_event ?hg (N := 2) ?hd (cs := #[.int .i64 a0_0, .int .i64 a0_1, .slice A0_2 l0_2.length c0_2]) (t := 32) ?hr ?_; (case hd => rfl); (case hg => rfl); (case hr => first | (go_simp; done) | (go_simp; rfl)); intro gb770 hg w13 hbox hb; have n0_ := Aside0.mk (below_step (by repeat (first | (with_reducible first | exact HB.out | apply below_alloc | apply pw_below_drewN | apply below_drew1) | exact HB.out)) hb); have n1_ := Aside0.mk (hbox); have n2_ := Aside0.mk ((by rw [hg]; exact (below_size (by repeat (first | (with_reducible first | exact HB.out | apply below_alloc | apply pw_below_drewN | apply below_drew1) | exact HB.out))) : w.heap.size ≤ gb770)); have n3_ := Aside0.mk ((by rw [hg]; exact (below_size (by repeat (first | (with_reducible first | exact HB.out | apply below_alloc | apply pw_below_drewN | apply below_drew1) | exact HB.out))) : w.heap.size ≤ gb770)); clear HB; have HB := n0_; have BK770 := n1_; have GW770 := n2_; have GE770 := n3_; clear n0_ n1_ n2_ n3_; clear hb hbox hg; have hcz14_0 : w13.cell? ⟨gb770, 0, none⟩ = some (.int .i64 a0_0) := (blk_cell BK770.out 0).trans rfl; have hcz14_1 : w13.cell? ⟨gb770, 1, none⟩ = some (.int .i64 a0_1) := (blk_cell BK770.out 1).trans rfl; have hcz14_2 : w13.cell? ⟨gb770, 2, none⟩ = some (.slice A0_2 l0_2.length c0_2) := (blk_cell BK770.out 2).trans rfl; have hfz14_0 := blk_frozen BK770.out 0; have hfz14_1 := blk_frozen BK770.out 1; have hfz14_2 := blk_frozen BK770.out 2) | ((with_reducible refine gate_callee (f := 20) rfl ?_); refine goesL_ (some 18) rfl rfl Try.func20 (by kernel_rfl) rfl #[.agg #[.int .i64 a0_0, .int .i64 a0_1, .slice A0_2 l0_2.length c0_2], .int .i64 1048576] rfl (by (try simp only [List.map_toArray, List.map_cons, List.map_nil]); first | done | rfl | (simp only [List.length_drop, List.length_take]; rfl)) ?_; (with_reducible refine (laws_szRing.calls a0_0 a0_1 _ _ l0_2 1048576 t771 _ ?side1 ?side2 A3.out).mono ?_); (case side1 => repeat (first | exact (Kd.C_below HR0_2.out HB.out) | (with_reducible refine Kd.C_alloc ?_ _) | (with_reducible refine Kd.C_drewN ?_ _) | (with_reducible refine Kd.C_drew ?_))); (case side2 => exact HC0_2.out); rintro e w15 ⟨rfl, hb⟩; refine ⟨_, rfl, ?_⟩; have n0_ := Aside0.mk (blk_below (g := gb770) (o := .cells #[.int .i64 a0_0, .int .i64 a0_1, .slice A0_2 l0_2.length c0_2] 32 (0, 0)) (by (with_reducible repeat (first | refine blk_drewN ?_ _ | refine blk_drew ?_ | refine blk_alloc ?_ _)); exact BK770.out) hb); have n1_ := Aside0.mk (below_step (by repeat (first | (with_reducible first | exact HB.out | apply below_alloc | apply pw_below_drewN | apply below_drew1 | refine below_set ?_ GE770.out) | exact HB.out)) hb); clear BK770; clear HB; have BK770 := n0_; have HB := n1_; clear n0_ n1_; (try clear hb); (try clear hb2); (try clear hk); (try clear hi); have hcz16_0 : w15.cell? ⟨gb770, 0, none⟩ = some (.int .i64 a0_0) := (blk_cell BK770.out 0).trans rfl; have hcz16_1 : w15.cell? ⟨gb770, 1, none⟩ = some (.int .i64 a0_1) := (blk_cell BK770.out 1).trans rfl; have hcz16_2 : w15.cell? ⟨gb770, 2, none⟩ = some (.slice A0_2 l0_2.length c0_2) := (blk_cell BK770.out 2).trans rfl; have hfz16_0 := blk_frozen BK770.out 0; have hfz16_1 := blk_frozen BK770.out 1; have hfz16_2 := blk_frozen BK770.out 2) | ((with_reducible refine gate_callee (f := 22) rfl ?_); refine goesL_ (some 23) rfl rfl Try.func22 (by kernel_rfl) rfl #[.agg #[.int .i64 a0_0, .int .i64 a0_1, .slice A0_2 l0_2.length c0_2]] rfl (by (try simp only [List.map_toArray, List.map_cons, List.map_nil]); first | done | rfl | (simp only [List.length_drop, List.length_take]; rfl)) ?_; (with_reducible refine (laws_toRing.calls k a0_0 a0_1 _ _ l0_2 t772 t773 t774 _ ?side1 ?side2 A8.out).mono ?_); (case side1 => repeat (first | exact (Kd.C_below HR0_2.out HB.out) | (with_reducible refine Kd.C_alloc ?_ _) | (with_reducible refine Kd.C_drewN ?_ _) | (with_reducible refine Kd.C_drew ?_))); (case side2 => exact HC0_2.out); rintro e w17 ⟨v775, rfl, ho0, hb⟩; refine ⟨_, rfl, ?_⟩; have n0_ := Aside0.mk (Kd.R_lower ho0 (below_size (by repeat (first | (with_reducible first | exact HB.out | apply below_alloc | apply pw_below_drewN | apply below_drew1 | refine below_set ?_ GE770.out) | exact HB.out)))); have n1_ := Aside0.mk (blk_below (g := gb770) (o := .cells #[.int .i64 a0_0, .int .i64 a0_1, .slice A0_2 l0_2.length c0_2] 32 (0, 0)) (by (with_reducible repeat (first | refine blk_drewN ?_ _ | refine blk_drew ?_ | refine blk_alloc ?_ _)); exact BK770.out) hb); have n2_ := Aside0.mk (below_step (by repeat (first | (with_reducible first | exact HB.out | apply below_alloc | apply pw_below_drewN | apply below_drew1 | refine below_set ?_ GE770.out) | exact HB.out)) hb); clear BK770; clear HB; have HO776 := n0_; have BK770 := n1_; have HB := n2_; clear n0_ n1_ n2_; (try clear hb); (try clear hb2); (try clear hk); (try clear hi); (try clear ho0); obtain ⟨Ao18, co18, eo18⟩ := Kd.R_slice HO776.out; subst eo18) | ((with_reducible refine gate_callee (f := 37) rfl ?_); refine goesL_ (some 25) rfl rfl Try.func37 (by kernel_rfl) rfl #[.agg #[.int .i64 t772, .int .i64 t773, .slice Ao18 t774.length co18], .int .i64 a1] rfl (by (try simp only [List.map_toArray, List.map_cons, List.map_nil]); first | done | rfl | (simp only [List.length_drop, List.length_take]; rfl)) ?_; (with_reducible refine (spec_CutLink.calls k t772 t773 _ _ t774 a1 t777 t778 t779 t782 _ ?side1 ?side2 A9.out).mono ?_); (case side1 => repeat (first | exact (Kd.R_reads' HO776.out).2.2 | (with_reducible refine Kd.C_alloc ?_ _) | (with_reducible refine Kd.C_drewN ?_ _) | (with_reducible refine Kd.C_drew ?_))); (case side2 => exact (Kd.R_reads' HO776.out).2.1); rintro e w19 ⟨v780, rfl, ho0, hb⟩; refine ⟨_, rfl, ?_⟩; have n0_ := Aside0.mk (Kd.R_elder' (by (with_reducible repeat (first | apply Kd.R_alloc | apply Kd.R_drewN | apply Kd.R_drew)); exact HO776.out) (Kd.R_base ho0) hb); have n1_ := Aside0.mk (Kd.R_lower (Kd.R_new' ho0 (Kd.R_lt (by (with_reducible repeat (first | apply Kd.R_alloc | apply Kd.R_drewN | apply Kd.R_drew)); exact HO776.out))) (below_size (by repeat (first | (with_reducible first | exact HB.out | apply below_alloc | apply pw_below_drewN | apply below_drew1 | refine below_set ?_ GE770.out) | exact HB.out)))); have n2_ := Aside0.mk (blk_below (g := gb770) (o := .cells #[.int .i64 a0_0, .int .i64 a0_1, .slice A0_2 l0_2.length c0_2] 32 (0, 0)) (by (with_reducible repeat (first | refine blk_drewN ?_ _ | refine blk_drew ?_ | refine blk_alloc ?_ _)); exact BK770.out) hb); have n3_ := Aside0.mk (below_step (by repeat (first | (with_reducible first | exact HB.out | apply below_alloc | apply pw_below_drewN | apply below_drew1 | refine below_set ?_ GE770.out) | exact HB.out)) hb); clear HO776; clear BK770; clear HB; have HO776 := n0_; have HO781 := n1_; have BK770 := n2_; have HB := n3_; clear n0_ n1_ n2_ n3_; (try clear hb); (try clear hb2); (try clear hk); (try clear hi); (try clear ho0)) | ((with_reducible refine gate_dst (N := 6) rfl ?_); refine box_event ?hg (N := 6) ?hd (cs := #[.int .i64 0, .int .i64 0, .slice none 0 0]) (t := 25) ?hr ?_; (case hd => rfl); (case hg => rfl); (case hr => first | (go_simp; done) | (go_simp; rfl)); intro gb783 hg w20 hbox hb; have n0_ := Aside0.mk (Kd.R_below (by (with_reducible repeat (first | apply Kd.R_alloc | apply Kd.R_drewN | apply Kd.R_drew)); exact HO776.out) hb); have n1_ := Aside0.mk (Kd.R_below (by (with_reducible repeat (first | apply Kd.R_alloc | apply Kd.R_drewN | apply Kd.R_drew)); exact HO781.out) hb); have n2_ := Aside0.mk (blk_below (g := gb770) (o := .cells #[.int .i64 a0_0, .int .i64 a0_1, .slice A0_2 l0_2.length c0_2] 32 (0, 0)) (by (with_reducible repeat (first | refine blk_drewN ?_ _ | refine blk_drew ?_ | refine blk_alloc ?_ _)); exact BK770.out) hb); have n3_ := Aside0.mk (below_step (by repeat (first | (with_reducible first | exact HB.out | apply below_alloc | apply pw_below_drewN | apply below_drew1 | refine below_set ?_ GE770.out) | exact HB.out)) hb); have n4_ := Aside0.mk (hbox); have n5_ := Aside0.mk ((by rw [hg]; exact (below_size (by repeat (first | (with_reducible first | exact HB.out | apply below_alloc | apply pw_below_drewN | apply below_drew1 | refine below_set ?_ GE770.out) | exact HB.out))) : w.heap.size ≤ gb783)); have n6_ := Aside0.mk ((by rw [hg]; exact (below_size (by repeat (first | (with_reducible first | exact HB.out | apply below_alloc | apply pw_below_drewN | apply below_drew1 | refine below_set ?_ GE770.out) | exact HB.out))) : w.heap.size ≤ gb783)); have n7_ := Aside0.mk ((by rw [hg]; exact Nat.ne_of_lt (blk_lt (g := gb770) (o := .cells #[.int .i64 a0_0, .int .i64 a0_1, .slice A0_2 l0_2.length c0_2] 32 (0, 0)) (by (with_reducible repeat (first | refine blk_drewN ?_ _ | refine blk_drew ?_ | refine blk_alloc ?_ _)); exact BK770.out)) : gb770 ≠ gb783)); have n8_ := Aside0.mk ((by rw [hg]; exact Nat.ne_of_gt (blk_lt (g := gb770) (o := .cells #[.int .i64 a0_0, .int .i64 a0_1, .slice A0_2 l0_2.length c0_2] 32 (0, 0)) (by (with_reducible repeat (first | refine blk_drewN ?_ _ | refine blk_drew ?_ | refine blk_alloc ?_ _)); exact BK770.out)) : gb783 ≠ gb770)); clear HO776; clear HO781; clear BK770; clear HB; have HO776 := n0_; have HO781 := n1_; have BK770 := n2_; have HB := n3_; have BK783 := n4_; have GW783 := n5_; have GE783 := n6_; have NB770_783 := n7_; have NB783_770 := n8_; clear n0_ n1_ n2_ n3_ n4_ n5_ n6_ n7_ n8_; clear hb hbox hg; have hnb21 := NB783_770.out; have hnc21 := NB770_783.out; have hcz22_0 : w20.cell? ⟨gb783, 0, none⟩ = some (.int .i64 0) := (blk_cell BK783.out 0).trans rfl; have hcz22_1 : w20.cell? ⟨gb783, 1, none⟩ = some (.int .i64 0) := (blk_cell BK783.out 1).trans rfl; have hcz22_2 : w20.cell? ⟨gb783, 2, none⟩ = some (.slice none 0 0) := (blk_cell BK783.out 2).trans rfl; have hfz22_0 := blk_frozen BK783.out 0; have hfz22_1 := blk_frozen BK783.out 1; have hfz22_2 := blk_frozen BK783.out 2; obtain ⟨Ao23, co23, eo23⟩ := Kd.R_slice HO781.out; subst eo23; have hcz24_0 : w20.cell? ⟨gb770, 0, none⟩ = some (.int .i64 a0_0) := (blk_cell BK770.out 0).trans rfl; have hcz24_1 : w20.cell? ⟨gb770, 1, none⟩ = some (.int .i64 a0_1) := (blk_cell BK770.out 1).trans rfl; have hcz24_2 : w20.cell? ⟨gb770, 2, none⟩ = some (.slice A0_2 l0_2.length c0_2) := (blk_cell BK770.out 2).trans rfl; have hfz24_0 := blk_frozen BK770.out 0; have hfz24_1 := blk_frozen BK770.out 1; have hfz24_2 := blk_frozen BK770.out 2) | ((with_reducible refine gate_callee (f := 22) rfl ?_); refine goesL_ (some 29) rfl rfl Try.func22 (by kernel_rfl) rfl #[.agg #[.int .i64 a0_0, .int .i64 a0_1, .slice A0_2 l0_2.length c0_2]] rfl (by (try simp only [List.map_toArray, List.map_cons, List.map_nil]); first | done | rfl | (simp only [List.length_drop, List.length_take]; rfl)) ?_; (with_reducible refine (laws_toRing.calls k a0_0 a0_1 _ _ l0_2 t784 t785 t786 _ ?side1 ?side2 A10.out).mono ?_); (case side1 => exact Kd.C_below HR0_2.out (by repeat (first | (with_reducible first | exact HB.out | apply below_alloc | apply pw_below_drewN | apply below_drew1 | refine below_set ?_ GE770.out | refine below_set ?_ GE783.out) | exact HB.out))); (case side2 => exact HC0_2.out); rintro e w25 ⟨v787, rfl, ho0, hb⟩; refine ⟨_, rfl, ?_⟩; have n0_ := Aside0.mk (Kd.R_elder' (by (with_reducible repeat (first | apply Kd.R_alloc | apply Kd.R_drewN | apply Kd.R_drew)); exact (Kd.R_mono (Kd.R_far (p := ⟨gb783, 2, none⟩) (Kd.R_far (p := ⟨gb783, 1, none⟩) (Kd.R_far (p := ⟨gb783, 0, none⟩) (Kd.R_types HO776.out BK783.out (by decide)) (fun _ hk => hk.2) (.int .i64 t777)) (fun _ hk => hk.2) (.int .i64 t778)) (fun _ hk => hk.2) (.slice Ao23 t779.length co23)) (fun _ h_ => h_.1))) (Kd.R_base ho0) hb); have n1_ := Aside0.mk (Kd.R_elder' (by (with_reducible repeat (first | apply Kd.R_alloc | apply Kd.R_drewN | apply Kd.R_drew)); exact (Kd.R_mono (Kd.R_far (p := ⟨gb783, 2, none⟩) (Kd.R_far (p := ⟨gb783, 1, none⟩) (Kd.R_far (p := ⟨gb783, 0, none⟩) (Kd.R_types HO781.out BK783.out (by decide)) (fun _ hk => hk.2) (.int .i64 t777)) (fun _ hk => hk.2) (.int .i64 t778)) (fun _ hk => hk.2) (.slice Ao23 t779.length co23)) (fun _ h_ => h_.1))) (Kd.R_base ho0) hb); have n2_ := Aside0.mk (Kd.R_lower (Kd.R_new' (Kd.R_new' ho0 (Kd.R_lt (by (with_reducible repeat (first | apply Kd.R_alloc | apply Kd.R_drewN | apply Kd.R_drew)); exact (Kd.R_mono (Kd.R_far (p := ⟨gb783, 2, none⟩) (Kd.R_far (p := ⟨gb783, 1, none⟩) (Kd.R_far (p := ⟨gb783, 0, none⟩) (Kd.R_types HO776.out BK783.out (by decide)) (fun _ hk => hk.2) (.int .i64 t777)) (fun _ hk => hk.2) (.int .i64 t778)) (fun _ hk => hk.2) (.slice Ao23 t779.length co23)) (fun _ h_ => h_.1))))) (Kd.R_lt (by (with_reducible repeat (first | apply Kd.R_alloc | apply Kd.R_drewN | apply Kd.R_drew)); exact (Kd.R_mono (Kd.R_far (p := ⟨gb783, 2, none⟩) (Kd.R_far (p := ⟨gb783, 1, none⟩) (Kd.R_far (p := ⟨gb783, 0, none⟩) (Kd.R_types HO781.out BK783.out (by decide)) (fun _ hk => hk.2) (.int .i64 t777)) (fun _ hk => hk.2) (.int .i64 t778)) (fun _ hk => hk.2) (.slice Ao23 t779.length co23)) (fun _ h_ => h_.1))))) (below_size (by repeat (first | (with_reducible first | exact HB.out | apply below_alloc | apply pw_below_drewN | apply below_drew1 | refine below_set ?_ GE770.out | refine below_set ?_ GE783.out) | exact HB.out)))); have n3_ := Aside0.mk (blk_below (g := gb770) (o := .cells #[.int .i64 a0_0, .int .i64 a0_1, .slice A0_2 l0_2.length c0_2] 32 (0, 0)) (by (with_reducible repeat (first | refine blk_drewN ?_ _ | refine blk_drew ?_ | refine blk_alloc ?_ _)); refine blk_far ?_ NB770_783.out _; (with_reducible repeat (first | refine blk_drewN ?_ _ | refine blk_drew ?_ | refine blk_alloc ?_ _)); refine blk_far ?_ NB770_783.out _; (with_reducible repeat (first | refine blk_drewN ?_ _ | refine blk_drew ?_ | refine blk_alloc ?_ _)); refine blk_far ?_ NB770_783.out _; (with_reducible repeat (first | refine blk_drewN ?_ _ | refine blk_drew ?_ | refine blk_alloc ?_ _)); exact BK770.out) hb); have n4_ := Aside0.mk (blk_below (g := gb783) (o := .cells #[.int .i64 t777, .int .i64 t778, .slice Ao23 t779.length co23] 25 (0, 0)) (by (with_reducible repeat (first | refine blk_drewN ?_ _ | refine blk_drew ?_ | refine blk_alloc ?_ _)); refine blk_put (cs := #[.int .i64 t777, .int .i64 t778, .slice none 0 0]) ?_ 2 _ rfl; (with_reducible repeat (first | refine blk_drewN ?_ _ | refine blk_drew ?_ | refine blk_alloc ?_ _)); refine blk_put (cs := #[.int .i64 t777, .int .i64 0, .slice none 0 0]) ?_ 1 _ rfl; (with_reducible repeat (first | refine blk_drewN ?_ _ | refine blk_drew ?_ | refine blk_alloc ?_ _)); refine blk_put (cs := #[.int .i64 0, .int .i64 0, .slice none 0 0]) ?_ 0 _ rfl; (with_reducible repeat (first | refine blk_drewN ?_ _ | refine blk_drew ?_ | refine blk_alloc ?_ _)); exact BK783.out) hb); have n5_ := Aside0.mk (below_step (by repeat (first | (with_reducible first | exact HB.out | apply below_alloc | apply pw_below_drewN | apply below_drew1 | refine below_set ?_ GE770.out | refine below_set ?_ GE783.out) | exact HB.out)) hb); clear HO776; clear HO781; clear BK770; clear BK783; clear HB; have HO776 := n0_; have HO781 := n1_; have HO788 := n2_; have BK770 := n3_; have BK783 := n4_; have HB := n5_; clear n0_ n1_ n2_ n3_ n4_ n5_; (try clear hb); (try clear hb2); (try clear hk); (try clear hi); (try clear ho0)) | ((with_reducible refine gate_dst (N := 8) rfl ?_); refine box_event ?hg (N := 8) ?hd (cs := #[.int .i64 0, .int .i64 0, .slice none 0 0]) (t := 25) ?hr ?_; (case hd => rfl); (case hg => rfl); (case hr => first | (go_simp; done) | (go_simp; rfl)); intro gb789 hg w26 hbox hb; have n0_ := Aside0.mk (Kd.R_below (by (with_reducible repeat (first | apply Kd.R_alloc | apply Kd.R_drewN | apply Kd.R_drew)); exact HO776.out) hb); have n1_ := Aside0.mk (Kd.R_below (by (with_reducible repeat (first | apply Kd.R_alloc | apply Kd.R_drewN | apply Kd.R_drew)); exact HO781.out) hb); have n2_ := Aside0.mk (Kd.R_below (by (with_reducible repeat (first | apply Kd.R_alloc | apply Kd.R_drewN | apply Kd.R_drew)); exact HO788.out) hb); have n3_ := Aside0.mk (blk_below (g := gb770) (o := .cells #[.int .i64 a0_0, .int .i64 a0_1, .slice A0_2 l0_2.length c0_2] 32 (0, 0)) (by (with_reducible repeat (first | refine blk_drewN ?_ _ | refine blk_drew ?_ | refine blk_alloc ?_ _)); exact BK770.out) hb); have n4_ := Aside0.mk (blk_below (g := gb783) (o := .cells #[.int .i64 t777, .int .i64 t778, .slice Ao23 t779.length co23] 25 (0, 0)) (by (with_reducible repeat (first | refine blk_drewN ?_ _ | refine blk_drew ?_ | refine blk_alloc ?_ _)); exact BK783.out) hb); have n5_ := Aside0.mk (below_step (by repeat (first | (with_reducible first | exact HB.out | apply below_alloc | apply pw_below_drewN | apply below_drew1 | refine below_set ?_ GE770.out | refine below_set ?_ GE783.out) | exact HB.out)) hb); have n6_ := Aside0.mk (hbox); have n7_ := Aside0.mk ((by rw [hg]; exact (below_size (by repeat (first | (with_reducible first | exact HB.out | apply below_alloc | apply pw_below_drewN | apply below_drew1 | refine below_set ?_ GE770.out | refine below_set ?_ GE783.out) | exact HB.out))) : w.heap.size ≤ gb789)); have n8_ := Aside0.mk ((by rw [hg]; exact (below_size (by repeat (first | (with_reducible first | exact HB.out | apply below_alloc | apply pw_below_drewN | apply below_drew1 | refine below_set ?_ GE770.out | refine below_set ?_ GE783.out) | exact HB.out))) : w.heap.size ≤ gb789)); have n9_ := Aside0.mk ((by rw [hg]; exact Nat.ne_of_lt (blk_lt (g := gb770) (o := .cells #[.int .i64 a0_0, .int .i64 a0_1, .slice A0_2 l0_2.length c0_2] 32 (0, 0)) (by (with_reducible repeat (first | refine blk_drewN ?_ _ | refine blk_drew ?_ | refine blk_alloc ?_ _)); exact BK770.out)) : gb770 ≠ gb789)); have n10_ := Aside0.mk ((by rw [hg]; exact Nat.ne_of_gt (blk_lt (g := gb770) (o := .cells #[.int .i64 a0_0, .int .i64 a0_1, .slice A0_2 l0_2.length c0_2] 32 (0, 0)) (by (with_reducible repeat (first | refine blk_drewN ?_ _ | refine blk_drew ?_ | refine blk_alloc ?_ _)); exact BK770.out)) : gb789 ≠ gb770)); have n11_ := Aside0.mk ((by rw [hg]; exact Nat.ne_of_lt (blk_lt (g := gb783) (o := .cells #[.int .i64 t777, .int .i64 t778, .slice Ao23 t779.length co23] 25 (0, 0)) (by (with_reducible repeat (first | refine blk_drewN ?_ _ | refine blk_drew ?_ | refine blk_alloc ?_ _)); exact BK783.out)) : gb783 ≠ gb789)); have n12_ := Aside0.mk ((by rw [hg]; exact Nat.ne_of_gt (blk_lt (g := gb783) (o := .cells #[.int .i64 t777, .int .i64 t778, .slice Ao23 t779.length co23] 25 (0, 0)) (by (with_reducible repeat (first | refine blk_drewN ?_ _ | refine blk_drew ?_ | refine blk_alloc ?_ _)); exact BK783.out)) : gb789 ≠ gb783)); clear HO776; clear HO781; clear HO788; clear BK770; clear BK783; clear HB; have HO776 := n0_; have HO781 := n1_; have HO788 := n2_; have BK770 := n3_; have BK783 := n4_; have HB := n5_; have BK789 := n6_; have GW789 := n7_; have GE789 := n8_; have NB770_789 := n9_; have NB789_770 := n10_; have NB783_789 := n11_; have NB789_783 := n12_; clear n0_ n1_ n2_ n3_ n4_ n5_ n6_ n7_ n8_ n9_ n10_ n11_ n12_; clear hb hbox hg; have hnb27 := NB789_770.out; have hnc27 := NB770_789.out; have hnb28 := NB789_783.out; have hnc28 := NB783_789.out; have hcz29_0 : w26.cell? ⟨gb789, 0, none⟩ = some (.int .i64 0) := (blk_cell BK789.out 0).trans rfl; have hcz29_1 : w26.cell? ⟨gb789, 1, none⟩ = some (.int .i64 0) := (blk_cell BK789.out 1).trans rfl; have hcz29_2 : w26.cell? ⟨gb789, 2, none⟩ = some (.slice none 0 0) := (blk_cell BK789.out 2).trans rfl; have hfz29_0 := blk_frozen BK789.out 0; have hfz29_1 := blk_frozen BK789.out 1; have hfz29_2 := blk_frozen BK789.out 2; obtain ⟨Ao30, co30, eo30⟩ := Kd.R_slice HO788.out; subst eo30) | ((with_reducible refine gate_callee (f := 38) rfl ?_); refine goesL_ (some 33) rfl rfl Try.func38 (by kernel_rfl) rfl #[.agg #[.int .i64 t784, .int .i64 t785, .slice Ao30 t786.length co30], .int .i64 a1] rfl (by (try simp only [List.map_toArray, List.map_cons, List.map_nil]); first | done | rfl | (simp only [List.length_drop, List.length_take]; rfl)) ?_; (with_reducible refine (impl_CutLink.calls k t784 t785 _ _ t786 a1 t790 t791 t792 t795 _ ?side1 ?side2 A11.out).mono ?_); (case side1 => refine (Kd.R_reads' (e := 3) (base := w.heap.size) (ok := fun k_ => ((True ∧ some k_ ≠ (.slice Ao18 t774.length co18 : Value).ownBlock) ∧ some k_ ≠ (.slice Ao23 t779.length co23 : Value).ownBlock)) (n := t786.length) (c := co30) ?_).2.2; exact (by (with_reducible repeat (first | apply Kd.R_alloc | apply Kd.R_drewN | apply Kd.R_drew)); exact (Kd.R_mono (Kd.R_far (p := ⟨gb789, 2, none⟩) (Kd.R_far (p := ⟨gb789, 1, none⟩) (Kd.R_far (p := ⟨gb789, 0, none⟩) (Kd.R_types HO788.out BK789.out (by decide)) (fun _ hk => hk.2) (.int .i64 t784)) (fun _ hk => hk.2) (.int .i64 t785)) (fun _ hk => hk.2) (.slice Ao30 t786.length co30)) (fun _ h_ => h_.1)))); (case side2 => exact (Kd.R_reads' HO788.out).2.1); rintro e w31 ⟨v793, rfl, ho0, hb⟩; refine ⟨_, rfl, ?_⟩; have n0_ := Aside0.mk (Kd.R_elder' (by (with_reducible repeat (first | apply Kd.R_alloc | apply Kd.R_drewN | apply Kd.R_drew)); exact (Kd.R_mono (Kd.R_far (p := ⟨gb789, 2, none⟩) (Kd.R_far (p := ⟨gb789, 1, none⟩) (Kd.R_far (p := ⟨gb789, 0, none⟩) (Kd.R_types HO776.out BK789.out (by decide)) (fun _ hk => hk.2) (.int .i64 t784)) (fun _ hk => hk.2) (.int .i64 t785)) (fun _ hk => hk.2) (.slice Ao30 t786.length co30)) (fun _ h_ => h_.1))) (Kd.R_base ho0) hb); have n1_ := Aside0.mk (Kd.R_elder' (by (with_reducible repeat (first | apply Kd.R_alloc | apply Kd.R_drewN | apply Kd.R_drew)); exact (Kd.R_mono (Kd.R_far (p := ⟨gb789, 2, none⟩) (Kd.R_far (p := ⟨gb789, 1, none⟩) (Kd.R_far (p := ⟨gb789, 0, none⟩) (Kd.R_types HO781.out BK789.out (by decide)) (fun _ hk => hk.2) (.int .i64 t784)) (fun _ hk => hk.2) (.int .i64 t785)) (fun _ hk => hk.2) (.slice Ao30 t786.length co30)) (fun _ h_ => h_.1))) (Kd.R_base ho0) hb); have n2_ := Aside0.mk (Kd.R_elder' (by (with_reducible repeat (first | apply Kd.R_alloc | apply Kd.R_drewN | apply Kd.R_drew)); exact (Kd.R_mono (Kd.R_far (p := ⟨gb789, 2, none⟩) (Kd.R_far (p := ⟨gb789, 1, none⟩) (Kd.R_far (p := ⟨gb789, 0, none⟩) (Kd.R_types HO788.out BK789.out (by decide)) (fun _ hk => hk.2) (.int .i64 t784)) (fun _ hk => hk.2) (.int .i64 t785)) (fun _ hk => hk.2) (.slice Ao30 t786.length co30)) (fun _ h_ => h_.1))) (Kd.R_base ho0) hb); have n3_ := Aside0.mk (Kd.R_lower (Kd.R_new' (Kd.R_new' (Kd.R_new' ho0 (Kd.R_lt (by (with_reducible repeat (first | apply Kd.R_alloc | apply Kd.R_drewN | apply Kd.R_drew)); exact (Kd.R_mono (Kd.R_far (p := ⟨gb789, 2, none⟩) (Kd.R_far (p := ⟨gb789, 1, none⟩) (Kd.R_far (p := ⟨gb789, 0, none⟩) (Kd.R_types HO776.out BK789.out (by decide)) (fun _ hk => hk.2) (.int .i64 t784)) (fun _ hk => hk.2) (.int .i64 t785)) (fun _ hk => hk.2) (.slice Ao30 t786.length co30)) (fun _ h_ => h_.1))))) (Kd.R_lt (by (with_reducible repeat (first | apply Kd.R_alloc | apply Kd.R_drewN | apply Kd.R_drew)); exact (Kd.R_mono (Kd.R_far (p := ⟨gb789, 2, none⟩) (Kd.R_far (p := ⟨gb789, 1, none⟩) (Kd.R_far (p := ⟨gb789, 0, none⟩) (Kd.R_types HO781.out BK789.out (by decide)) (fun _ hk => hk.2) (.int .i64 t784)) (fun _ hk => hk.2) (.int .i64 t785)) (fun _ hk => hk.2) (.slice Ao30 t786.length co30)) (fun _ h_ => h_.1))))) (Kd.R_lt (by (with_reducible repeat (first | apply Kd.R_alloc | apply Kd.R_drewN | apply Kd.R_drew)); exact (Kd.R_mono (Kd.R_far (p := ⟨gb789, 2, none⟩) (Kd.R_far (p := ⟨gb789, 1, none⟩) (Kd.R_far (p := ⟨gb789, 0, none⟩) (Kd.R_types HO788.out BK789.out (by decide)) (fun _ hk => hk.2) (.int .i64 t784)) (fun _ hk => hk.2) (.int .i64 t785)) (fun _ hk => hk.2) (.slice Ao30 t786.length co30)) (fun _ h_ => h_.1))))) (below_size (by repeat (first | (with_reducible first | exact HB.out | apply below_alloc | apply pw_below_drewN | apply below_drew1 | refine below_set ?_ GE770.out | refine below_set ?_ GE783.out | refine below_set ?_ GE789.out) | exact HB.out)))); have n4_ := Aside0.mk (blk_below (g := gb770) (o := .cells #[.int .i64 a0_0, .int .i64 a0_1, .slice A0_2 l0_2.length c0_2] 32 (0, 0)) (by (with_reducible repeat (first | refine blk_drewN ?_ _ | refine blk_drew ?_ | refine blk_alloc ?_ _)); refine blk_far ?_ NB770_789.out _; (with_reducible repeat (first | refine blk_drewN ?_ _ | refine blk_drew ?_ | refine blk_alloc ?_ _)); refine blk_far ?_ NB770_789.out _; (with_reducible repeat (first | refine blk_drewN ?_ _ | refine blk_drew ?_ | refine blk_alloc ?_ _)); refine blk_far ?_ NB770_789.out _; (with_reducible repeat (first | refine blk_drewN ?_ _ | refine blk_drew ?_ | refine blk_alloc ?_ _)); exact BK770.out) hb); have n5_ := Aside0.mk (blk_below (g := gb783) (o := .cells #[.int .i64 t777, .int .i64 t778, .slice Ao23 t779.length co23] 25 (0, 0)) (by (with_reducible repeat (first | refine blk_drewN ?_ _ | refine blk_drew ?_ | refine blk_alloc ?_ _)); refine blk_far ?_ NB783_789.out _; (with_reducible repeat (first | refine blk_drewN ?_ _ | refine blk_drew ?_ | refine blk_alloc ?_ _)); refine blk_far ?_ NB783_789.out _; (with_reducible repeat (first | refine blk_drewN ?_ _ | refine blk_drew ?_ | refine blk_alloc ?_ _)); refine blk_far ?_ NB783_789.out _; (with_reducible repeat (first | refine blk_drewN ?_ _ | refine blk_drew ?_ | refine blk_alloc ?_ _)); exact BK783.out) hb); have n6_ := Aside0.mk (blk_below (g := gb789) (o := .cells #[.int .i64 t784, .int .i64 t785, .slice Ao30 t786.length co30] 25 (0, 0)) (by (with_reducible repeat (first | refine blk_drewN ?_ _ | refine blk_drew ?_ | refine blk_alloc ?_ _)); refine blk_put (cs := #[.int .i64 t784, .int .i64 t785, .slice none 0 0]) ?_ 2 _ rfl; (with_reducible repeat (first | refine blk_drewN ?_ _ | refine blk_drew ?_ | refine blk_alloc ?_ _)); refine blk_put (cs := #[.int .i64 t784, .int .i64 0, .slice none 0 0]) ?_ 1 _ rfl; (with_reducible repeat (first | refine blk_drewN ?_ _ | refine blk_drew ?_ | refine blk_alloc ?_ _)); refine blk_put (cs := #[.int .i64 0, .int .i64 0, .slice none 0 0]) ?_ 0 _ rfl; (with_reducible repeat (first | refine blk_drewN ?_ _ | refine blk_drew ?_ | refine blk_alloc ?_ _)); exact BK789.out) hb); have n7_ := Aside0.mk (below_step (by repeat (first | (with_reducible first | exact HB.out | apply below_alloc | apply pw_below_drewN | apply below_drew1 | refine below_set ?_ GE770.out | refine below_set ?_ GE783.out | refine below_set ?_ GE789.out) | exact HB.out)) hb); clear HO776; clear HO781; clear HO788; clear BK770; clear BK783; clear BK789; clear HB; have HO776 := n0_; have HO781 := n1_; have HO788 := n2_; have HO794 := n3_; have BK770 := n4_; have BK783 := n5_; have BK789 := n6_; have HB := n7_; clear n0_ n1_ n2_ n3_ n4_ n5_ n6_ n7_; (try clear hb); (try clear hb2); (try clear hk); (try clear hi); (try clear ho0)) | ((with_reducible refine gate_dst (N := 9) rfl ?_); refine box_event ?hg (N := 9) ?hd (cs := #[.int .i64 0, .int .i64 0, .slice none 0 0]) (t := 25) ?hr ?_; (case hd => rfl); (case hg => rfl); (case hr => first | (go_simp; done) | (go_simp; rfl)); intro gb796 hg w32 hbox hb; have n0_ := Aside0.mk (Kd.R_below (by (with_reducible repeat (first | apply Kd.R_alloc | apply Kd.R_drewN | apply Kd.R_drew)); exact HO776.out) hb); have n1_ := Aside0.mk (Kd.R_below (by (with_reducible repeat (first | apply Kd.R_alloc | apply Kd.R_drewN | apply Kd.R_drew)); exact HO781.out) hb); have n2_ := Aside0.mk (Kd.R_below (by (with_reducible repeat (first | apply Kd.R_alloc | apply Kd.R_drewN | apply Kd.R_drew)); exact HO788.out) hb); have n3_ := Aside0.mk (Kd.R_below (by (with_reducible repeat (first | apply Kd.R_alloc | apply Kd.R_drewN | apply Kd.R_drew)); exact HO794.out) hb); have n4_ := Aside0.mk (blk_below (g := gb770) (o := .cells #[.int .i64 a0_0, .int .i64 a0_1, .slice A0_2 l0_2.length c0_2] 32 (0, 0)) (by (with_reducible repeat (first | refine blk_drewN ?_ _ | refine blk_drew ?_ | refine blk_alloc ?_ _)); exact BK770.out) hb); have n5_ := Aside0.mk (blk_below (g := gb783) (o := .cells #[.int .i64 t777, .int .i64 t778, .slice Ao23 t779.length co23] 25 (0, 0)) (by (with_reducible repeat (first | refine blk_drewN ?_ _ | refine blk_drew ?_ | refine blk_alloc ?_ _)); exact BK783.out) hb); have n6_ := Aside0.mk (blk_below (g := gb789) (o := .cells #[.int .i64 t784, .int .i64 t785, .slice Ao30 t786.length co30] 25 (0, 0)) (by (with_reducible repeat (first | refine blk_drewN ?_ _ | refine blk_drew ?_ | refine blk_alloc ?_ _)); exact BK789.out) hb); have n7_ := Aside0.mk (below_step (by repeat (first | (with_reducible first | exact HB.out | apply below_alloc | apply pw_below_drewN | apply below_drew1 | refine below_set ?_ GE770.out | refine below_set ?_ GE783.out | refine below_set ?_ GE789.out) | exact HB.out)) hb); have n8_ := Aside0.mk (hbox); have n9_ := Aside0.mk ((by rw [hg]; exact (below_size (by repeat (first | (with_reducible first | exact HB.out | apply below_alloc | apply pw_below_drewN | apply below_drew1 | refine below_set ?_ GE770.out | refine below_set ?_ GE783.out | refine below_set ?_ GE789.out) | exact HB.out))) : w.heap.size ≤ gb796)); have n10_ := Aside0.mk ((by rw [hg]; exact (below_size (by repeat (first | (with_reducible first | exact HB.out | apply below_alloc | apply pw_below_drewN | apply below_drew1 | refine below_set ?_ GE770.out | refine below_set ?_ GE783.out | refine below_set ?_ GE789.out) | exact HB.out))) : w.heap.size ≤ gb796)); have n11_ := Aside0.mk ((by rw [hg]; exact Nat.ne_of_lt (blk_lt (g := gb770) (o := .cells #[.int .i64 a0_0, .int .i64 a0_1, .slice A0_2 l0_2.length c0_2] 32 (0, 0)) (by (with_reducible repeat (first | refine blk_drewN ?_ _ | refine blk_drew ?_ | refine blk_alloc ?_ _)); exact BK770.out)) : gb770 ≠ gb796)); have n12_ := Aside0.mk ((by rw [hg]; exact Nat.ne_of_gt (blk_lt (g := gb770) (o := .cells #[.int .i64 a0_0, .int .i64 a0_1, .slice A0_2 l0_2.length c0_2] 32 (0, 0)) (by (with_reducible repeat (first | refine blk_drewN ?_ _ | refine blk_drew ?_ | refine blk_alloc ?_ _)); exact BK770.out)) : gb796 ≠ gb770)); have n13_ := Aside0.mk ((by rw [hg]; exact Nat.ne_of_lt (blk_lt (g := gb783) (o := .cells #[.int .i64 t777, .int .i64 t778, .slice Ao23 t779.length co23] 25 (0, 0)) (by (with_reducible repeat (first | refine blk_drewN ?_ _ | refine blk_drew ?_ | refine blk_alloc ?_ _)); exact BK783.out)) : gb783 ≠ gb796)); have n14_ := Aside0.mk ((by rw [hg]; exact Nat.ne_of_gt (blk_lt (g := gb783) (o := .cells #[.int .i64 t777, .int .i64 t778, .slice Ao23 t779.length co23] 25 (0, 0)) (by (with_reducible repeat (first | refine blk_drewN ?_ _ | refine blk_drew ?_ | refine blk_alloc ?_ _)); exact BK783.out)) : gb796 ≠ gb783)); have n15_ := Aside0.mk ((by rw [hg]; exact Nat.ne_of_lt (blk_lt (g := gb789) (o := .cells #[.int .i64 t784, .int .i64 t785, .slice Ao30 t786.length co30] 25 (0, 0)) (by (with_reducible repeat (first | refine blk_drewN ?_ _ | refine blk_drew ?_ | refine blk_alloc ?_ _)); exact BK789.out)) : gb789 ≠ gb796)); have n16_ := Aside0.mk ((by rw [hg]; exact Nat.ne_of_gt (blk_lt (g := gb789) (o := .cells #[.int .i64 t784, .int .i64 t785, .slice Ao30 t786.length co30] 25 (0, 0)) (by (with_reducible repeat (first | refine blk_drewN ?_ _ | refine blk_drew ?_ | refine blk_alloc ?_ _)); exact BK789.out)) : gb796 ≠ gb789)); clear HO776; clear HO781; clear HO788; clear HO794; clear BK770; clear BK783; clear BK789; clear HB; have HO776 := n0_; have HO781 := n1_; have HO788 := n2_; have HO794 := n3_; have BK770 := n4_; have BK783 := n5_; have BK789 := n6_; have HB := n7_; have BK796 := n8_; have GW796 := n9_; have GE796 := n10_; have NB770_796 := n11_; have NB796_770 := n12_; have NB783_796 := n13_; have NB796_783 := n14_; have NB789_796 := n15_; have NB796_789 := n16_; clear n0_ n1_ n2_ n3_ n4_ n5_ n6_ n7_ n8_ n9_ n10_ n11_ n12_ n13_ n14_ n15_ n16_; clear hb hbox hg; have hnb33 := NB796_770.out; have hnc33 := NB770_796.out; have hnb34 := NB796_783.out; have hnc34 := NB783_796.out; have hnb35 := NB796_789.out; have hnc35 := NB789_796.out; have hcz36_0 : w32.cell? ⟨gb796, 0, none⟩ = some (.int .i64 0) := (blk_cell BK796.out 0).trans rfl; have hcz36_1 : w32.cell? ⟨gb796, 1, none⟩ = some (.int .i64 0) := (blk_cell BK796.out 1).trans rfl; have hcz36_2 : w32.cell? ⟨gb796, 2, none⟩ = some (.slice none 0 0) := (blk_cell BK796.out 2).trans rfl; have hfz36_0 := blk_frozen BK796.out 0; have hfz36_1 := blk_frozen BK796.out 1; have hfz36_2 := blk_frozen BK796.out 2; obtain ⟨Ao37, co37, eo37⟩ := Kd.R_slice HO794.out; subst eo37))
  (try simp only [Act.put, List.setIfInBounds_toArray, List.set_cons_zero, List.set_cons_succ])
  go_cut [44] (fun v44 wc => ∃ (kq : Nat) (x44_11 : Bool), v44 = .bool x44_11 ∧ Aside0 (laws_FnExactCutLink.j0 kq a1 t782 t795 x44_11 a0_0 a0_1 l0_2 t777 t778 t779 t784 t785 t786 t790 t791 t792 = some r) ∧ Aside0 (kq ≤ k) ∧ Aside0 (Kd.R (Kd.int .i64) 3 wc w.heap.size (fun k_ => some k_ ≠ ((.slice Ao30 t786.length co30) : Value).ownBlock ∧ some k_ ≠ ((.slice Ao37 t792.length co37) : Value).ownBlock) (.slice Ao23 t779.length co23) t779) ∧ Aside0 (Kd.R (Kd.int .i64) 3 wc w.heap.size (fun k_ => some k_ ≠ ((.slice Ao23 t779.length co23) : Value).ownBlock ∧ some k_ ≠ ((.slice Ao37 t792.length co37) : Value).ownBlock) (.slice Ao30 t786.length co30) t786) ∧ Aside0 (Kd.R (Kd.int .i64) 3 wc w.heap.size (fun k_ => some k_ ≠ ((.slice Ao23 t779.length co23) : Value).ownBlock ∧ some k_ ≠ ((.slice Ao30 t786.length co30) : Value).ownBlock) (.slice Ao37 t792.length co37) t792) ∧ Aside0 (wc.heap[gb770]? = some (.cells #[.int .i64 a0_0, .int .i64 a0_1, (.slice A0_2 l0_2.length c0_2)] 32 (0, 0))) ∧ Aside0 (wc.heap[gb783]? = some (.cells #[.int .i64 t777, .int .i64 t778, (.slice Ao23 t779.length co23)] 25 (0, 0))) ∧ Aside0 (wc.heap[gb789]? = some (.cells #[.int .i64 t784, .int .i64 t785, (.slice Ao30 t786.length co30)] 25 (0, 0))) ∧ Aside0 (wc.heap[gb796]? = some (.cells #[.int .i64 t790, .int .i64 t791, (.slice Ao37 t792.length co37)] 25 (0, 0))) ∧ Aside0 (Below w.heap.size w wc))
  case first =>
   have H := HC12.out
   clear HC12
   replace H := Option.bind_eq_some_iff.mp H
   obtain ⟨t797, A380, H⟩ := H
   replace H : (if t797 = true then (laws_FnExactCutLink.j0 k a1 t782 t795 (t795 != t782) a0_0 a0_1 l0_2 t777 t778 t779 t784 t785 t786 t790 t791 t792) else (laws_FnExactCutLink.j0 k a1 t782 t795 true a0_0 a0_1 l0_2 t777 t778 t779 t784 t785 t786 t790 t791 t792)) = some r := H
   have A38 := Aside0.mk A380
   clear A380
   by_cases c39 : t797 = true
   ·subst c39
    have H1 : (laws_FnExactCutLink.j0 k a1 t782 t795 (t795 != t782) a0_0 a0_1 l0_2 t777 t778 t779 t784 t785 t786 t790 t791 t792) = some r := by rw [if_pos rfl] at H; exact H
    clear H
    have H := H1
    clear H1
    have H' := Aside0.mk H
    clear H
    have hnb40 := NB796_770.out
    have hnc40 := NB770_796.out
    have hnb41 := NB796_783.out
    have hnc41 := NB783_796.out
    have hnb42 := NB796_789.out
    have hnc42 := NB789_796.out
    have hcz43_0 : w32.cell? ⟨gb796, 0, none⟩ = some (.int .i64 0) := (blk_cell BK796.out 0).trans rfl
    have hcz43_1 : w32.cell? ⟨gb796, 1, none⟩ = some (.int .i64 0) := (blk_cell BK796.out 1).trans rfl
    have hcz43_2 : w32.cell? ⟨gb796, 2, none⟩ = some (.slice none 0 0) := (blk_cell BK796.out 2).trans rfl
    have hfz43_0 := blk_frozen BK796.out 0
    have hfz43_1 := blk_frozen BK796.out 1
    have hfz43_2 := blk_frozen BK796.out 2
    have hnb44 := NB783_770.out
    have hnc44 := NB770_783.out
    have hnb45 := NB783_789.out
    have hnc45 := NB789_783.out
    have hcz46_0 : w32.cell? ⟨gb783, 0, none⟩ = some (.int .i64 t777) := (blk_cell BK783.out 0).trans rfl
    have hcz46_1 : w32.cell? ⟨gb783, 1, none⟩ = some (.int .i64 t778) := (blk_cell BK783.out 1).trans rfl
    have hcz46_2 : w32.cell? ⟨gb783, 2, none⟩ = some (.slice Ao23 t779.length co23) := (blk_cell BK783.out 2).trans rfl
    have hfz46_0 := blk_frozen BK783.out 0
    have hfz46_1 := blk_frozen BK783.out 1
    have hfz46_2 := blk_frozen BK783.out 2
    go_wp2_with (first | ((with_reducible refine gate_callee (f := 24) rfl ?_); refine goesL_ (some 38) rfl rfl Try.func24 (by kernel_rfl) rfl #[.agg #[.int .i64 t790, .int .i64 t791, .slice Ao37 t792.length co37], .agg #[.int .i64 t777, .int .i64 t778, .slice Ao23 t779.length co23]] rfl (by (try simp only [List.map_toArray, List.map_cons, List.map_nil]); first | done | rfl | (simp only [List.length_drop, List.length_take]; rfl)) ?_; (with_reducible refine (laws_eqRing.calls k t790 t791 _ _ t792 t777 t778 _ _ t779 true _ ?side1 ?side2 ?side3 ?side4 A38.out).mono ?_); (case side1 => refine (Kd.R_reads' (e := 3) (base := w.heap.size) (ok := fun k_ => (((True ∧ some k_ ≠ (.slice Ao18 t774.length co18 : Value).ownBlock) ∧ some k_ ≠ (.slice Ao23 t779.length co23 : Value).ownBlock) ∧ some k_ ≠ (.slice Ao30 t786.length co30 : Value).ownBlock)) (n := t792.length) (c := co37) ?_).2.2; exact (by (with_reducible repeat (first | apply Kd.R_alloc | apply Kd.R_drewN | apply Kd.R_drew)); exact (Kd.R_mono (Kd.R_far (p := ⟨gb796, 2, none⟩) (Kd.R_far (p := ⟨gb796, 1, none⟩) (Kd.R_far (p := ⟨gb796, 0, none⟩) (Kd.R_types HO794.out BK796.out (by decide)) (fun _ hk => hk.2) (.int .i64 t790)) (fun _ hk => hk.2) (.int .i64 t791)) (fun _ hk => hk.2) (.slice Ao37 t792.length co37)) (fun _ h_ => h_.1)))); (case side2 => exact (Kd.R_reads' HO794.out).2.1); (case side3 => refine (Kd.R_reads' (e := 3) (base := w.heap.size) (ok := fun k_ => (((True ∧ some k_ ≠ (.slice Ao18 t774.length co18 : Value).ownBlock) ∧ some k_ ≠ (.slice Ao30 t786.length co30 : Value).ownBlock) ∧ some k_ ≠ (.slice Ao37 t792.length co37 : Value).ownBlock)) (n := t779.length) (c := co23) ?_).2.2; exact (by (with_reducible repeat (first | apply Kd.R_alloc | apply Kd.R_drewN | apply Kd.R_drew)); exact (Kd.R_mono (Kd.R_far (p := ⟨gb796, 2, none⟩) (Kd.R_far (p := ⟨gb796, 1, none⟩) (Kd.R_far (p := ⟨gb796, 0, none⟩) (Kd.R_types HO781.out BK796.out (by decide)) (fun _ hk => hk.2) (.int .i64 t790)) (fun _ hk => hk.2) (.int .i64 t791)) (fun _ hk => hk.2) (.slice Ao37 t792.length co37)) (fun _ h_ => h_.1)))); (case side4 => exact (Kd.R_reads' HO781.out).2.1); rintro e w47 ⟨rfl, hb⟩; refine ⟨_, rfl, ?_⟩; have n0_ := Aside0.mk (Kd.R_below (by (with_reducible repeat (first | apply Kd.R_alloc | apply Kd.R_drewN | apply Kd.R_drew)); exact (Kd.R_mono (Kd.R_far (p := ⟨gb796, 2, none⟩) (Kd.R_far (p := ⟨gb796, 1, none⟩) (Kd.R_far (p := ⟨gb796, 0, none⟩) (Kd.R_types HO776.out BK796.out (by decide)) (fun _ hk => hk.2) (.int .i64 t790)) (fun _ hk => hk.2) (.int .i64 t791)) (fun _ hk => hk.2) (.slice Ao37 t792.length co37)) (fun _ h_ => h_.1))) hb); have n1_ := Aside0.mk (Kd.R_below (by (with_reducible repeat (first | apply Kd.R_alloc | apply Kd.R_drewN | apply Kd.R_drew)); exact (Kd.R_mono (Kd.R_far (p := ⟨gb796, 2, none⟩) (Kd.R_far (p := ⟨gb796, 1, none⟩) (Kd.R_far (p := ⟨gb796, 0, none⟩) (Kd.R_types HO781.out BK796.out (by decide)) (fun _ hk => hk.2) (.int .i64 t790)) (fun _ hk => hk.2) (.int .i64 t791)) (fun _ hk => hk.2) (.slice Ao37 t792.length co37)) (fun _ h_ => h_.1))) hb); have n2_ := Aside0.mk (Kd.R_below (by (with_reducible repeat (first | apply Kd.R_alloc | apply Kd.R_drewN | apply Kd.R_drew)); exact (Kd.R_mono (Kd.R_far (p := ⟨gb796, 2, none⟩) (Kd.R_far (p := ⟨gb796, 1, none⟩) (Kd.R_far (p := ⟨gb796, 0, none⟩) (Kd.R_types HO788.out BK796.out (by decide)) (fun _ hk => hk.2) (.int .i64 t790)) (fun _ hk => hk.2) (.int .i64 t791)) (fun _ hk => hk.2) (.slice Ao37 t792.length co37)) (fun _ h_ => h_.1))) hb); have n3_ := Aside0.mk (Kd.R_below (by (with_reducible repeat (first | apply Kd.R_alloc | apply Kd.R_drewN | apply Kd.R_drew)); exact (Kd.R_mono (Kd.R_far (p := ⟨gb796, 2, none⟩) (Kd.R_far (p := ⟨gb796, 1, none⟩) (Kd.R_far (p := ⟨gb796, 0, none⟩) (Kd.R_types HO794.out BK796.out (by decide)) (fun _ hk => hk.2) (.int .i64 t790)) (fun _ hk => hk.2) (.int .i64 t791)) (fun _ hk => hk.2) (.slice Ao37 t792.length co37)) (fun _ h_ => h_.1))) hb); have n4_ := Aside0.mk (blk_below (g := gb770) (o := .cells #[.int .i64 a0_0, .int .i64 a0_1, .slice A0_2 l0_2.length c0_2] 32 (0, 0)) (by (with_reducible repeat (first | refine blk_drewN ?_ _ | refine blk_drew ?_ | refine blk_alloc ?_ _)); refine blk_far ?_ NB770_796.out _; (with_reducible repeat (first | refine blk_drewN ?_ _ | refine blk_drew ?_ | refine blk_alloc ?_ _)); refine blk_far ?_ NB770_796.out _; (with_reducible repeat (first | refine blk_drewN ?_ _ | refine blk_drew ?_ | refine blk_alloc ?_ _)); refine blk_far ?_ NB770_796.out _; (with_reducible repeat (first | refine blk_drewN ?_ _ | refine blk_drew ?_ | refine blk_alloc ?_ _)); exact BK770.out) hb); have n5_ := Aside0.mk (blk_below (g := gb783) (o := .cells #[.int .i64 t777, .int .i64 t778, .slice Ao23 t779.length co23] 25 (0, 0)) (by (with_reducible repeat (first | refine blk_drewN ?_ _ | refine blk_drew ?_ | refine blk_alloc ?_ _)); refine blk_far ?_ NB783_796.out _; (with_reducible repeat (first | refine blk_drewN ?_ _ | refine blk_drew ?_ | refine blk_alloc ?_ _)); refine blk_far ?_ NB783_796.out _; (with_reducible repeat (first | refine blk_drewN ?_ _ | refine blk_drew ?_ | refine blk_alloc ?_ _)); refine blk_far ?_ NB783_796.out _; (with_reducible repeat (first | refine blk_drewN ?_ _ | refine blk_drew ?_ | refine blk_alloc ?_ _)); exact BK783.out) hb); have n6_ := Aside0.mk (blk_below (g := gb789) (o := .cells #[.int .i64 t784, .int .i64 t785, .slice Ao30 t786.length co30] 25 (0, 0)) (by (with_reducible repeat (first | refine blk_drewN ?_ _ | refine blk_drew ?_ | refine blk_alloc ?_ _)); refine blk_far ?_ NB789_796.out _; (with_reducible repeat (first | refine blk_drewN ?_ _ | refine blk_drew ?_ | refine blk_alloc ?_ _)); refine blk_far ?_ NB789_796.out _; (with_reducible repeat (first | refine blk_drewN ?_ _ | refine blk_drew ?_ | refine blk_alloc ?_ _)); refine blk_far ?_ NB789_796.out _; (with_reducible repeat (first | refine blk_drewN ?_ _ | refine blk_drew ?_ | refine blk_alloc ?_ _)); exact BK789.out) hb); have n7_ := Aside0.mk (blk_below (g := gb796) (o := .cells #[.int .i64 t790, .int .i64 t791, .slice Ao37 t792.length co37] 25 (0, 0)) (by (with_reducible repeat (first | refine blk_drewN ?_ _ | refine blk_drew ?_ | refine blk_alloc ?_ _)); refine blk_put (cs := #[.int .i64 t790, .int .i64 t791, .slice none 0 0]) ?_ 2 _ rfl; (with_reducible repeat (first | refine blk_drewN ?_ _ | refine blk_drew ?_ | refine blk_alloc ?_ _)); refine blk_put (cs := #[.int .i64 t790, .int .i64 0, .slice none 0 0]) ?_ 1 _ rfl; (with_reducible repeat (first | refine blk_drewN ?_ _ | refine blk_drew ?_ | refine blk_alloc ?_ _)); refine blk_put (cs := #[.int .i64 0, .int .i64 0, .slice none 0 0]) ?_ 0 _ rfl; (with_reducible repeat (first | refine blk_drewN ?_ _ | refine blk_drew ?_ | refine blk_alloc ?_ _)); exact BK796.out) hb); have n8_ := Aside0.mk (below_step (by repeat (first | (with_reducible first | exact HB.out | apply below_alloc | apply pw_below_drewN | apply below_drew1 | refine below_set ?_ GE770.out | refine below_set ?_ GE783.out | refine below_set ?_ GE789.out | refine below_set ?_ GE796.out) | exact HB.out)) hb); clear HO776; clear HO781; clear HO788; clear HO794; clear BK770; clear BK783; clear BK789; clear BK796; clear HB; have HO776 := n0_; have HO781 := n1_; have HO788 := n2_; have HO794 := n3_; have BK770 := n4_; have BK783 := n5_; have BK789 := n6_; have BK796 := n7_; have HB := n8_; clear n0_ n1_ n2_ n3_ n4_ n5_ n6_ n7_ n8_; (try clear hb); (try clear hb2); (try clear hk); (try clear hi)))
    go_meet
    case rel => exact ⟨_, ((t795 != t782)), (by first | rfl | (simp; done) | (simp [*]; done)), H', ⟨by first | omega | exact Nat.le_refl _⟩, ⟨by (with_reducible repeat (first | apply Kd.R_alloc | apply Kd.R_drewN | apply Kd.R_drew)); exact Kd.R_mono HO781.out (fun _ hk => ⟨hk.1.2, hk.2⟩)⟩, ⟨by (with_reducible repeat (first | apply Kd.R_alloc | apply Kd.R_drewN | apply Kd.R_drew)); exact Kd.R_mono HO788.out (fun _ hk => ⟨hk.1.2, hk.2⟩)⟩, ⟨by (with_reducible repeat (first | apply Kd.R_alloc | apply Kd.R_drewN | apply Kd.R_drew)); exact Kd.R_mono HO794.out (fun _ hk => ⟨hk.1.2, hk.2⟩)⟩, ⟨by (with_reducible repeat (first | refine blk_drewN ?_ _ | refine blk_drew ?_ | refine blk_alloc ?_ _)); exact BK770.out⟩, ⟨by (with_reducible repeat (first | refine blk_drewN ?_ _ | refine blk_drew ?_ | refine blk_alloc ?_ _)); exact BK783.out⟩, ⟨by (with_reducible repeat (first | refine blk_drewN ?_ _ | refine blk_drew ?_ | refine blk_alloc ?_ _)); exact BK789.out⟩, ⟨by (with_reducible repeat (first | refine blk_drewN ?_ _ | refine blk_drew ?_ | refine blk_alloc ?_ _)); exact BK796.out⟩, ⟨by repeat (first | (with_reducible first | exact HB.out | apply below_alloc | apply pw_below_drewN | apply below_drew1 | refine below_set ?_ GE770.out | refine below_set ?_ GE783.out | refine below_set ?_ GE789.out | refine below_set ?_ GE796.out) | exact HB.out)⟩⟩
   ·replace c39 := Bool.eq_false_iff.mpr c39
    subst c39
    have H1 : (laws_FnExactCutLink.j0 k a1 t782 t795 true a0_0 a0_1 l0_2 t777 t778 t779 t784 t785 t786 t790 t791 t792) = some r := by rw [if_neg (show ¬ (false = true) by decide)] at H; exact H
    clear H
    have H := H1
    clear H1
    have H' := Aside0.mk H
    clear H
    have hnb48 := NB796_770.out
    have hnc48 := NB770_796.out
    have hnb49 := NB796_783.out
    have hnc49 := NB783_796.out
    have hnb50 := NB796_789.out
    have hnc50 := NB789_796.out
    have hcz51_0 : w32.cell? ⟨gb796, 0, none⟩ = some (.int .i64 0) := (blk_cell BK796.out 0).trans rfl
    have hcz51_1 : w32.cell? ⟨gb796, 1, none⟩ = some (.int .i64 0) := (blk_cell BK796.out 1).trans rfl
    have hcz51_2 : w32.cell? ⟨gb796, 2, none⟩ = some (.slice none 0 0) := (blk_cell BK796.out 2).trans rfl
    have hfz51_0 := blk_frozen BK796.out 0
    have hfz51_1 := blk_frozen BK796.out 1
    have hfz51_2 := blk_frozen BK796.out 2
    have hnb52 := NB783_770.out
    have hnc52 := NB770_783.out
    have hnb53 := NB783_789.out
    have hnc53 := NB789_783.out
    have hcz54_0 : w32.cell? ⟨gb783, 0, none⟩ = some (.int .i64 t777) := (blk_cell BK783.out 0).trans rfl
    have hcz54_1 : w32.cell? ⟨gb783, 1, none⟩ = some (.int .i64 t778) := (blk_cell BK783.out 1).trans rfl
    have hcz54_2 : w32.cell? ⟨gb783, 2, none⟩ = some (.slice Ao23 t779.length co23) := (blk_cell BK783.out 2).trans rfl
    have hfz54_0 := blk_frozen BK783.out 0
    have hfz54_1 := blk_frozen BK783.out 1
    have hfz54_2 := blk_frozen BK783.out 2
    go_wp2_with (first | ((with_reducible refine gate_callee (f := 24) rfl ?_); refine goesL_ (some 38) rfl rfl Try.func24 (by kernel_rfl) rfl #[.agg #[.int .i64 t790, .int .i64 t791, .slice Ao37 t792.length co37], .agg #[.int .i64 t777, .int .i64 t778, .slice Ao23 t779.length co23]] rfl (by (try simp only [List.map_toArray, List.map_cons, List.map_nil]); first | done | rfl | (simp only [List.length_drop, List.length_take]; rfl)) ?_; (with_reducible refine (laws_eqRing.calls k t790 t791 _ _ t792 t777 t778 _ _ t779 false _ ?side1 ?side2 ?side3 ?side4 A38.out).mono ?_); (case side1 => refine (Kd.R_reads' (e := 3) (base := w.heap.size) (ok := fun k_ => (((True ∧ some k_ ≠ (.slice Ao18 t774.length co18 : Value).ownBlock) ∧ some k_ ≠ (.slice Ao23 t779.length co23 : Value).ownBlock) ∧ some k_ ≠ (.slice Ao30 t786.length co30 : Value).ownBlock)) (n := t792.length) (c := co37) ?_).2.2; exact (by (with_reducible repeat (first | apply Kd.R_alloc | apply Kd.R_drewN | apply Kd.R_drew)); exact (Kd.R_mono (Kd.R_far (p := ⟨gb796, 2, none⟩) (Kd.R_far (p := ⟨gb796, 1, none⟩) (Kd.R_far (p := ⟨gb796, 0, none⟩) (Kd.R_types HO794.out BK796.out (by decide)) (fun _ hk => hk.2) (.int .i64 t790)) (fun _ hk => hk.2) (.int .i64 t791)) (fun _ hk => hk.2) (.slice Ao37 t792.length co37)) (fun _ h_ => h_.1)))); (case side2 => exact (Kd.R_reads' HO794.out).2.1); (case side3 => refine (Kd.R_reads' (e := 3) (base := w.heap.size) (ok := fun k_ => (((True ∧ some k_ ≠ (.slice Ao18 t774.length co18 : Value).ownBlock) ∧ some k_ ≠ (.slice Ao30 t786.length co30 : Value).ownBlock) ∧ some k_ ≠ (.slice Ao37 t792.length co37 : Value).ownBlock)) (n := t779.length) (c := co23) ?_).2.2; exact (by (with_reducible repeat (first | apply Kd.R_alloc | apply Kd.R_drewN | apply Kd.R_drew)); exact (Kd.R_mono (Kd.R_far (p := ⟨gb796, 2, none⟩) (Kd.R_far (p := ⟨gb796, 1, none⟩) (Kd.R_far (p := ⟨gb796, 0, none⟩) (Kd.R_types HO781.out BK796.out (by decide)) (fun _ hk => hk.2) (.int .i64 t790)) (fun _ hk => hk.2) (.int .i64 t791)) (fun _ hk => hk.2) (.slice Ao37 t792.length co37)) (fun _ h_ => h_.1)))); (case side4 => exact (Kd.R_reads' HO781.out).2.1); rintro e w55 ⟨rfl, hb⟩; refine ⟨_, rfl, ?_⟩; have n0_ := Aside0.mk (Kd.R_below (by (with_reducible repeat (first | apply Kd.R_alloc | apply Kd.R_drewN | apply Kd.R_drew)); exact (Kd.R_mono (Kd.R_far (p := ⟨gb796, 2, none⟩) (Kd.R_far (p := ⟨gb796, 1, none⟩) (Kd.R_far (p := ⟨gb796, 0, none⟩) (Kd.R_types HO776.out BK796.out (by decide)) (fun _ hk => hk.2) (.int .i64 t790)) (fun _ hk => hk.2) (.int .i64 t791)) (fun _ hk => hk.2) (.slice Ao37 t792.length co37)) (fun _ h_ => h_.1))) hb); have n1_ := Aside0.mk (Kd.R_below (by (with_reducible repeat (first | apply Kd.R_alloc | apply Kd.R_drewN | apply Kd.R_drew)); exact (Kd.R_mono (Kd.R_far (p := ⟨gb796, 2, none⟩) (Kd.R_far (p := ⟨gb796, 1, none⟩) (Kd.R_far (p := ⟨gb796, 0, none⟩) (Kd.R_types HO781.out BK796.out (by decide)) (fun _ hk => hk.2) (.int .i64 t790)) (fun _ hk => hk.2) (.int .i64 t791)) (fun _ hk => hk.2) (.slice Ao37 t792.length co37)) (fun _ h_ => h_.1))) hb); have n2_ := Aside0.mk (Kd.R_below (by (with_reducible repeat (first | apply Kd.R_alloc | apply Kd.R_drewN | apply Kd.R_drew)); exact (Kd.R_mono (Kd.R_far (p := ⟨gb796, 2, none⟩) (Kd.R_far (p := ⟨gb796, 1, none⟩) (Kd.R_far (p := ⟨gb796, 0, none⟩) (Kd.R_types HO788.out BK796.out (by decide)) (fun _ hk => hk.2) (.int .i64 t790)) (fun _ hk => hk.2) (.int .i64 t791)) (fun _ hk => hk.2) (.slice Ao37 t792.length co37)) (fun _ h_ => h_.1))) hb); have n3_ := Aside0.mk (Kd.R_below (by (with_reducible repeat (first | apply Kd.R_alloc | apply Kd.R_drewN | apply Kd.R_drew)); exact (Kd.R_mono (Kd.R_far (p := ⟨gb796, 2, none⟩) (Kd.R_far (p := ⟨gb796, 1, none⟩) (Kd.R_far (p := ⟨gb796, 0, none⟩) (Kd.R_types HO794.out BK796.out (by decide)) (fun _ hk => hk.2) (.int .i64 t790)) (fun _ hk => hk.2) (.int .i64 t791)) (fun _ hk => hk.2) (.slice Ao37 t792.length co37)) (fun _ h_ => h_.1))) hb); have n4_ := Aside0.mk (blk_below (g := gb770) (o := .cells #[.int .i64 a0_0, .int .i64 a0_1, .slice A0_2 l0_2.length c0_2] 32 (0, 0)) (by (with_reducible repeat (first | refine blk_drewN ?_ _ | refine blk_drew ?_ | refine blk_alloc ?_ _)); refine blk_far ?_ NB770_796.out _; (with_reducible repeat (first | refine blk_drewN ?_ _ | refine blk_drew ?_ | refine blk_alloc ?_ _)); refine blk_far ?_ NB770_796.out _; (with_reducible repeat (first | refine blk_drewN ?_ _ | refine blk_drew ?_ | refine blk_alloc ?_ _)); refine blk_far ?_ NB770_796.out _; (with_reducible repeat (first | refine blk_drewN ?_ _ | refine blk_drew ?_ | refine blk_alloc ?_ _)); exact BK770.out) hb); have n5_ := Aside0.mk (blk_below (g := gb783) (o := .cells #[.int .i64 t777, .int .i64 t778, .slice Ao23 t779.length co23] 25 (0, 0)) (by (with_reducible repeat (first | refine blk_drewN ?_ _ | refine blk_drew ?_ | refine blk_alloc ?_ _)); refine blk_far ?_ NB783_796.out _; (with_reducible repeat (first | refine blk_drewN ?_ _ | refine blk_drew ?_ | refine blk_alloc ?_ _)); refine blk_far ?_ NB783_796.out _; (with_reducible repeat (first | refine blk_drewN ?_ _ | refine blk_drew ?_ | refine blk_alloc ?_ _)); refine blk_far ?_ NB783_796.out _; (with_reducible repeat (first | refine blk_drewN ?_ _ | refine blk_drew ?_ | refine blk_alloc ?_ _)); exact BK783.out) hb); have n6_ := Aside0.mk (blk_below (g := gb789) (o := .cells #[.int .i64 t784, .int .i64 t785, .slice Ao30 t786.length co30] 25 (0, 0)) (by (with_reducible repeat (first | refine blk_drewN ?_ _ | refine blk_drew ?_ | refine blk_alloc ?_ _)); refine blk_far ?_ NB789_796.out _; (with_reducible repeat (first | refine blk_drewN ?_ _ | refine blk_drew ?_ | refine blk_alloc ?_ _)); refine blk_far ?_ NB789_796.out _; (with_reducible repeat (first | refine blk_drewN ?_ _ | refine blk_drew ?_ | refine blk_alloc ?_ _)); refine blk_far ?_ NB789_796.out _; (with_reducible repeat (first | refine blk_drewN ?_ _ | refine blk_drew ?_ | refine blk_alloc ?_ _)); exact BK789.out) hb); have n7_ := Aside0.mk (blk_below (g := gb796) (o := .cells #[.int .i64 t790, .int .i64 t791, .slice Ao37 t792.length co37] 25 (0, 0)) (by (with_reducible repeat (first | refine blk_drewN ?_ _ | refine blk_drew ?_ | refine blk_alloc ?_ _)); refine blk_put (cs := #[.int .i64 t790, .int .i64 t791, .slice none 0 0]) ?_ 2 _ rfl; (with_reducible repeat (first | refine blk_drewN ?_ _ | refine blk_drew ?_ | refine blk_alloc ?_ _)); refine blk_put (cs := #[.int .i64 t790, .int .i64 0, .slice none 0 0]) ?_ 1 _ rfl; (with_reducible repeat (first | refine blk_drewN ?_ _ | refine blk_drew ?_ | refine blk_alloc ?_ _)); refine blk_put (cs := #[.int .i64 0, .int .i64 0, .slice none 0 0]) ?_ 0 _ rfl; (with_reducible repeat (first | refine blk_drewN ?_ _ | refine blk_drew ?_ | refine blk_alloc ?_ _)); exact BK796.out) hb); have n8_ := Aside0.mk (below_step (by repeat (first | (with_reducible first | exact HB.out | apply below_alloc | apply pw_below_drewN | apply below_drew1 | refine below_set ?_ GE770.out | refine below_set ?_ GE783.out | refine below_set ?_ GE789.out | refine below_set ?_ GE796.out) | exact HB.out)) hb); clear HO776; clear HO781; clear HO788; clear HO794; clear BK770; clear BK783; clear BK789; clear BK796; clear HB; have HO776 := n0_; have HO781 := n1_; have HO788 := n2_; have HO794 := n3_; have BK770 := n4_; have BK783 := n5_; have BK789 := n6_; have BK796 := n7_; have HB := n8_; clear n0_ n1_ n2_ n3_ n4_ n5_ n6_ n7_ n8_; (try clear hb); (try clear hb2); (try clear hk); (try clear hi)))
    go_meet
    case rel => exact ⟨_, (true), (by first | rfl | (simp; done) | (simp [*]; done)), H', ⟨by first | omega | exact Nat.le_refl _⟩, ⟨by (with_reducible repeat (first | apply Kd.R_alloc | apply Kd.R_drewN | apply Kd.R_drew)); exact Kd.R_mono HO781.out (fun _ hk => ⟨hk.1.2, hk.2⟩)⟩, ⟨by (with_reducible repeat (first | apply Kd.R_alloc | apply Kd.R_drewN | apply Kd.R_drew)); exact Kd.R_mono HO788.out (fun _ hk => ⟨hk.1.2, hk.2⟩)⟩, ⟨by (with_reducible repeat (first | apply Kd.R_alloc | apply Kd.R_drewN | apply Kd.R_drew)); exact Kd.R_mono HO794.out (fun _ hk => ⟨hk.1.2, hk.2⟩)⟩, ⟨by (with_reducible repeat (first | refine blk_drewN ?_ _ | refine blk_drew ?_ | refine blk_alloc ?_ _)); exact BK770.out⟩, ⟨by (with_reducible repeat (first | refine blk_drewN ?_ _ | refine blk_drew ?_ | refine blk_alloc ?_ _)); exact BK783.out⟩, ⟨by (with_reducible repeat (first | refine blk_drewN ?_ _ | refine blk_drew ?_ | refine blk_alloc ?_ _)); exact BK789.out⟩, ⟨by (with_reducible repeat (first | refine blk_drewN ?_ _ | refine blk_drew ?_ | refine blk_alloc ?_ _)); exact BK796.out⟩, ⟨by repeat (first | (with_reducible first | exact HB.out | apply below_alloc | apply pw_below_drewN | apply below_drew1 | refine below_set ?_ GE770.out | refine below_set ?_ GE783.out | refine below_set ?_ GE789.out | refine below_set ?_ GE796.out) | exact HB.out)⟩⟩
  case rest =>
   clear HC12
   try clear c1
   try clear c2
   try clear p2
   try clear c3
   try clear c4
   try clear c4b0
   try clear c5
   try clear c11
   try clear c20
   try clear c21
   try clear c22
   try clear c24
   try clear c27
   try clear c28
   try clear c33
   try clear c34
   try clear c35
   try clear c37
   try clear c38
   try clear c39
   try clear c40
   try clear c41
   try clear c42
   try clear c44
   try clear c45
   try clear c48
   try clear c49
   try clear c50
   try clear c52
   try clear c53
   try clear hcz14_0
   try clear hcz14_1
   try clear hcz14_2
   try clear hcz16_0
   try clear hcz16_1
   try clear hcz16_2
   try clear hcz22_0
   try clear hcz22_1
   try clear hcz22_2
   try clear hcz24_0
   try clear hcz24_1
   try clear hcz24_2
   try clear hcz29_0
   try clear hcz29_1
   try clear hcz29_2
   try clear hcz36_0
   try clear hcz36_1
   try clear hcz36_2
   try clear hcz43_0
   try clear hcz43_1
   try clear hcz43_2
   try clear hcz46_0
   try clear hcz46_1
   try clear hcz46_2
   try clear hcz51_0
   try clear hcz51_1
   try clear hcz51_2
   try clear hcz54_0
   try clear hcz54_1
   try clear hcz54_2
   try clear hcz6_0
   try clear hcz6_1
   try clear hcz6_2
   try clear hfz14_0
   try clear hfz14_1
   try clear hfz14_2
   try clear hfz16_0
   try clear hfz16_1
   try clear hfz16_2
   try clear hfz22_0
   try clear hfz22_1
   try clear hfz22_2
   try clear hfz24_0
   try clear hfz24_1
   try clear hfz24_2
   try clear hfz29_0
   try clear hfz29_1
   try clear hfz29_2
   try clear hfz36_0
   try clear hfz36_1
   try clear hfz36_2
   try clear hfz43_0
   try clear hfz43_1
   try clear hfz43_2
   try clear hfz46_0
   try clear hfz46_1
   try clear hfz46_2
   try clear hfz51_0
   try clear hfz51_1
   try clear hfz51_2
   try clear hfz54_0
   try clear hfz54_1
   try clear hfz54_2
   try clear hfz6_0
   try clear hfz6_1
   try clear hfz6_2
   obtain ⟨kq, x44_11, rfl, HA, HJ11, HO_784002, HO_790002, HO_797002, BK770, BK783, BK789, BK796, HB⟩ := hcut
   cases kq with
   | zero => exact absurd HA.out (by simp [laws_FnExactCutLink.j0])
   | succ kj11 =>
    have H := HA.out
    clear HA
    simp only [laws_FnExactCutLink.j0] at H
    by_cases c56 : x44_11 = true
    ·subst c56
     have H1 : (some false) = some r := by rw [if_pos rfl] at H; exact H
     clear H
     have H := H1
     clear H1
     obtain rfl := Option.some.inj H
     go_wp2
     go_ret
     exact ⟨by first | rfl | (simp [errW_none, errW_some] <;> rfl) | (simp [*, errW_none, errW_some] <;> rfl), by repeat (first | (with_reducible first | exact HB.out | apply below_alloc | apply pw_below_drewN | apply below_drew1 | refine below_set ?_ GE770.out | refine below_set ?_ GE783.out | refine below_set ?_ GE789.out | refine below_set ?_ GE796.out) | exact HB.out)⟩
    ·replace c56 := Bool.eq_false_iff.mpr c56
     subst c56
     have H1 : ((laws_toRing.f kj11 a0_0 a0_1 l0_2).bind fun bt798 => ((laws_eqRing.f kj11 t784 t785 t786 bt798.1 bt798.2.1 bt798.2.2).bind fun t803 => (if t803 = true then ((laws_markRing.f kj11 t784 t785 t786 1).bind fun bt804 => (if bt804.1 < 0 then (laws_FnExactCutLink.j1 kj11 a1 t782 true a0_0 a0_1 l0_2 t777 t778 t779 t790 t791 t792) else ((laws_eqRing.f kj11 t790 t791 t792 t777 t778 t779).bind fun t806 => (if t806 = true then (laws_FnExactCutLink.j1 kj11 a1 t782 (t795 != t782) a0_0 a0_1 l0_2 t777 t778 t779 t790 t791 t792) else (laws_FnExactCutLink.j1 kj11 a1 t782 true a0_0 a0_1 l0_2 t777 t778 t779 t790 t791 t792))))) else (some false)))) = some r := by rw [if_neg (show ¬ (false = true) by decide)] at H; exact H
     clear H
     have H := H1
     clear H1
     replace H := Option.bind_eq_some_iff.mp H
     obtain ⟨⟨t798, t799, t800⟩, A570, H⟩ := H
     replace H : ((laws_eqRing.f kj11 t784 t785 t786 t798 t799 t800).bind fun t803 => (if t803 = true then ((laws_markRing.f kj11 t784 t785 t786 1).bind fun bt804 => (if bt804.1 < 0 then (laws_FnExactCutLink.j1 kj11 a1 t782 true a0_0 a0_1 l0_2 t777 t778 t779 t790 t791 t792) else ((laws_eqRing.f kj11 t790 t791 t792 t777 t778 t779).bind fun t806 => (if t806 = true then (laws_FnExactCutLink.j1 kj11 a1 t782 (t795 != t782) a0_0 a0_1 l0_2 t777 t778 t779 t790 t791 t792) else (laws_FnExactCutLink.j1 kj11 a1 t782 true a0_0 a0_1 l0_2 t777 t778 t779 t790 t791 t792))))) else (some false))) = some r := H
     have A57 := Aside0.mk A570
     clear A570
     replace H := Option.bind_eq_some_iff.mp H
     obtain ⟨t803, A580, H⟩ := H
     replace H : (if t803 = true then ((laws_markRing.f kj11 t784 t785 t786 1).bind fun bt804 => (if bt804.1 < 0 then (laws_FnExactCutLink.j1 kj11 a1 t782 true a0_0 a0_1 l0_2 t777 t778 t779 t790 t791 t792) else ((laws_eqRing.f kj11 t790 t791 t792 t777 t778 t779).bind fun t806 => (if t806 = true then (laws_FnExactCutLink.j1 kj11 a1 t782 (t795 != t782) a0_0 a0_1 l0_2 t777 t778 t779 t790 t791 t792) else (laws_FnExactCutLink.j1 kj11 a1 t782 true a0_0 a0_1 l0_2 t777 t778 t779 t790 t791 t792))))) else (some false)) = some r := H
     have A58 := Aside0.mk A580
     clear A580
     by_cases c59 : t803 = true
     ·subst c59
      have H1 : ((laws_markRing.f kj11 t784 t785 t786 1).bind fun bt804 => (if bt804.1 < 0 then (laws_FnExactCutLink.j1 kj11 a1 t782 true a0_0 a0_1 l0_2 t777 t778 t779 t790 t791 t792) else ((laws_eqRing.f kj11 t790 t791 t792 t777 t778 t779).bind fun t806 => (if t806 = true then (laws_FnExactCutLink.j1 kj11 a1 t782 (t795 != t782) a0_0 a0_1 l0_2 t777 t778 t779 t790 t791 t792) else (laws_FnExactCutLink.j1 kj11 a1 t782 true a0_0 a0_1 l0_2 t777 t778 t779 t790 t791 t792))))) = some r := by rw [if_pos rfl] at H; exact H
      clear H
      have H := H1
      clear H1
      replace H := Option.bind_eq_some_iff.mp H
      obtain ⟨⟨t804, t805⟩, A600, H⟩ := H
      replace H : (if t804 < 0 then (laws_FnExactCutLink.j1 kj11 a1 t782 true a0_0 a0_1 l0_2 t777 t778 t779 t790 t791 t792) else ((laws_eqRing.f kj11 t790 t791 t792 t777 t778 t779).bind fun t806 => (if t806 = true then (laws_FnExactCutLink.j1 kj11 a1 t782 (t795 != t782) a0_0 a0_1 l0_2 t777 t778 t779 t790 t791 t792) else (laws_FnExactCutLink.j1 kj11 a1 t782 true a0_0 a0_1 l0_2 t777 t778 t779 t790 t791 t792)))) = some r := H
      have A60 := Aside0.mk A600
      clear A600
      have HC61 := Aside0.mk H
      clear H
      try go_wp2
      have n0_ := Aside0.mk (Kd.R_drew HO_784002.out)
      have n1_ := Aside0.mk (Kd.R_drew HO_790002.out)
      have n2_ := Aside0.mk (Kd.R_drew HO_797002.out)
      have n3_ := Aside0.mk (blk_drew BK770.out)
      have n4_ := Aside0.mk (blk_drew BK783.out)
      have n5_ := Aside0.mk (blk_drew BK789.out)
      have n6_ := Aside0.mk (blk_drew BK796.out)
      have n7_ := Aside0.mk (below_drew1 HB.out)
      clear HO_784002
      clear HO_790002
      clear HO_797002
      clear BK770
      clear BK783
      clear BK789
      clear BK796
      clear HB
      have HO_784002 := n0_
      have HO_790002 := n1_
      have HO_797002 := n2_
      have BK770 := n3_
      have BK783 := n4_
      have BK789 := n5_
      have BK796 := n6_
      have HB := n7_
      clear n0_ n1_ n2_ n3_ n4_ n5_ n6_ n7_
      refine start_ (n := 5) (S := fun w' => w'.cell? ⟨gb789, 0, none⟩ = some (.int .i64 t784) ∧ w'.cell? ⟨gb789, 1, none⟩ = some (.int .i64 t785) ∧ w'.cell? ⟨gb789, 2, none⟩ = some (.slice Ao30 t786.length co30) ∧ w'.cell? ⟨gb770, 0, none⟩ = some (.int .i64 a0_0) ∧ w'.cell? ⟨gb770, 1, none⟩ = some (.int .i64 a0_1) ∧ w'.cell? ⟨gb770, 2, none⟩ = some (.slice A0_2 l0_2.length c0_2)) (ds := []) #[false, false, false, false, false] (by kernel_rfl) rfl rfl ⟨(blk_cell BK789.out 0).trans rfl, (blk_cell BK789.out 1).trans rfl, (blk_cell BK789.out 2).trans rfl, (blk_cell BK770.out 0).trans rfl, (blk_cell BK770.out 1).trans rfl, (blk_cell BK770.out 2).trans rfl⟩ (fun hHeld => ?_)
      generalize wc.drew = w62 at HO_784002 HO_790002 HO_797002 BK770 BK783 BK789 BK796 HB hHeld ⊢
      refine take_ (i := 0) (N := some 45) (v := ?_) (a' := ?_) #[true, false, false, false, false] rfl rfl (by kernel_rfl) (fun _ _ _ h => h) (Or.inl ⟨by rfl, ?_⟩) hHeld ?_ ?_
      rotate_left
      ·rintro w' ⟨s0, s1, s2, s3, s4, s5⟩
       go_simp
       with_reducible rfl
      rotate_left
      ·simp only [Act.put, List.setIfInBounds_toArray, List.set_cons_zero, List.set_cons_succ, i64_w, i32_w]
       rfl
      refine take_ (i := 1) (N := some 46) (v := ?_) (a' := ?_) #[true, true, false, false, false] rfl rfl (by kernel_rfl) (fun _ _ _ h => h) (Or.inl ⟨by rfl, ?_⟩) hHeld ?_ ?_
      rotate_left
      ·rintro w' ⟨s0, s1, s2, s3, s4, s5⟩
       go_simp
       with_reducible rfl
      rotate_left
      ·simp only [Act.put, List.setIfInBounds_toArray, List.set_cons_zero, List.set_cons_succ, i64_w, i32_w]
       rfl
      refine one_ (i := 2) (N := some 47) #[true, true, true, false, false] rfl rfl (by kernel_rfl) (by decide) (fun K hK => ?_)
      refine goes_ Try.func22 (by kernel_rfl) rfl #[.agg #[.int .i64 a0_0, .int .i64 a0_1, .slice A0_2 l0_2.length c0_2]] (by rfl) rfl rfl (by (try simp only [List.map_toArray, List.map_cons, List.map_nil]); first | done | rfl | (simp only [List.length_drop, List.length_take]; rfl)) ?_
      with_reducible refine (laws_toRing.calls kj11 a0_0 a0_1 _ _ l0_2 t798 t799 t800 _ ?side1 ?side2 A57.out).mono ?_
      (case side1 => repeat (first | exact (Kd.C_below HR0_2.out HB.out) | (with_reducible refine Kd.C_alloc ?_ _) | (with_reducible refine Kd.C_drewN ?_ _) | (with_reducible refine Kd.C_drew ?_)))
      (case side2 => exact HC0_2.out)
      rintro e w63 ⟨v801, rfl, ho0, hb⟩
      refine ⟨_, rfl, ?_⟩
      have n0_ := Aside0.mk (Kd.R_elder' (by (with_reducible repeat (first | apply Kd.R_alloc | apply Kd.R_drewN | apply Kd.R_drew)); exact HO_784002.out) (Kd.R_base ho0) hb)
      have n1_ := Aside0.mk (Kd.R_elder' (by (with_reducible repeat (first | apply Kd.R_alloc | apply Kd.R_drewN | apply Kd.R_drew)); exact HO_790002.out) (Kd.R_base ho0) hb)
      have n2_ := Aside0.mk (Kd.R_elder' (by (with_reducible repeat (first | apply Kd.R_alloc | apply Kd.R_drewN | apply Kd.R_drew)); exact HO_797002.out) (Kd.R_base ho0) hb)
      have n3_ := Aside0.mk (Kd.R_lower (Kd.R_new' (Kd.R_new' (Kd.R_new' ho0 (Kd.R_lt (by (with_reducible repeat (first | apply Kd.R_alloc | apply Kd.R_drewN | apply Kd.R_drew)); exact HO_784002.out))) (Kd.R_lt (by (with_reducible repeat (first | apply Kd.R_alloc | apply Kd.R_drewN | apply Kd.R_drew)); exact HO_790002.out))) (Kd.R_lt (by (with_reducible repeat (first | apply Kd.R_alloc | apply Kd.R_drewN | apply Kd.R_drew)); exact HO_797002.out))) (below_size (by repeat (first | (with_reducible first | exact HB.out | apply below_alloc | apply pw_below_drewN | apply below_drew1 | refine below_set ?_ GE770.out | refine below_set ?_ GE783.out | refine below_set ?_ GE789.out | refine below_set ?_ GE796.out) | exact HB.out))))
      have n4_ := Aside0.mk (blk_below (g := gb770) (o := .cells #[.int .i64 a0_0, .int .i64 a0_1, .slice A0_2 l0_2.length c0_2] 32 (0, 0)) (by (with_reducible repeat (first | refine blk_drewN ?_ _ | refine blk_drew ?_ | refine blk_alloc ?_ _)); exact BK770.out) hb)
      have n5_ := Aside0.mk (blk_below (g := gb783) (o := .cells #[.int .i64 t777, .int .i64 t778, .slice Ao23 t779.length co23] 25 (0, 0)) (by (with_reducible repeat (first | refine blk_drewN ?_ _ | refine blk_drew ?_ | refine blk_alloc ?_ _)); exact BK783.out) hb)
      have n6_ := Aside0.mk (blk_below (g := gb789) (o := .cells #[.int .i64 t784, .int .i64 t785, .slice Ao30 t786.length co30] 25 (0, 0)) (by (with_reducible repeat (first | refine blk_drewN ?_ _ | refine blk_drew ?_ | refine blk_alloc ?_ _)); exact BK789.out) hb)
      have n7_ := Aside0.mk (blk_below (g := gb796) (o := .cells #[.int .i64 t790, .int .i64 t791, .slice Ao37 t792.length co37] 25 (0, 0)) (by (with_reducible repeat (first | refine blk_drewN ?_ _ | refine blk_drew ?_ | refine blk_alloc ?_ _)); exact BK796.out) hb)
      have n8_ := Aside0.mk (below_step (by repeat (first | (with_reducible first | exact HB.out | apply below_alloc | apply pw_below_drewN | apply below_drew1 | refine below_set ?_ GE770.out | refine below_set ?_ GE783.out | refine below_set ?_ GE789.out | refine below_set ?_ GE796.out) | exact HB.out)) hb)
      clear HO_784002
      clear HO_790002
      clear HO_797002
      clear BK770
      clear BK783
      clear BK789
      clear BK796
      clear HB
      have HO_784002 := n0_
      have HO_790002 := n1_
      have HO_797002 := n2_
      have HO802 := n3_
      have BK770 := n4_
      have BK783 := n5_
      have BK789 := n6_
      have BK796 := n7_
      have HB := n8_
      clear n0_ n1_ n2_ n3_ n4_ n5_ n6_ n7_ n8_
      (try clear hb)
      (try clear hb2)
      (try clear hk)
      (try clear hi)
      (try clear ho0)
      obtain ⟨Ao64, co64, eo64⟩ := Kd.R_slice HO802.out
      (first | subst eo64 | (injection eo64 with f1_ f2_ f3_; have f4_ := f1_.symm; have f5_ := f3_.symm; clear f1_ f2_ f3_; subst f4_; subst f5_))
      refine hK.out _ _ ⟨(blk_cell BK789.out 0).trans rfl, (blk_cell BK789.out 1).trans rfl, (blk_cell BK789.out 2).trans rfl, (blk_cell BK770.out 0).trans rfl, (blk_cell BK770.out 1).trans rfl, (blk_cell BK770.out 2).trans rfl⟩ (fun hHeld => ?_)
      clear hK K
      refine norm_ (a' := ?_) ?_ ?_
      rotate_left
      ·show Act.put _ (some 47) _ = _
       simp only [Act.put, List.setIfInBounds_toArray, List.set_cons_zero, List.set_cons_succ, i64_w, i32_w]
       rfl
      refine one_ (i := 3) (N := some 48) #[true, true, true, true, false] rfl rfl (by kernel_rfl) (by decide) (fun K hK => ?_)
      refine goes_ Try.func24 (by kernel_rfl) rfl #[.agg #[.int .i64 t784, .int .i64 t785, .slice Ao30 t786.length co30], .agg #[.int .i64 t798, .int .i64 t799, .slice Ao64 t800.length co64]] (by rfl) rfl rfl (by (try simp only [List.map_toArray, List.map_cons, List.map_nil]); first | done | rfl | (simp only [List.length_drop, List.length_take]; rfl)) ?_
      with_reducible refine (laws_eqRing.calls kj11 t784 t785 _ _ t786 t798 t799 _ _ t800 true _ ?side1 ?side2 ?side3 ?side4 A58.out).mono ?_
      (case side1 => repeat (first | exact (Kd.R_reads' HO_790002.out).2.2 | (with_reducible refine Kd.C_alloc ?_ _) | (with_reducible refine Kd.C_drewN ?_ _) | (with_reducible refine Kd.C_drew ?_)))
      (case side2 => exact (Kd.R_reads' HO_790002.out).2.1)
      (case side3 => repeat (first | exact (Kd.R_reads' HO802.out).2.2 | (with_reducible refine Kd.C_alloc ?_ _) | (with_reducible refine Kd.C_drewN ?_ _) | (with_reducible refine Kd.C_drew ?_)))
      (case side4 => exact (Kd.R_reads' HO802.out).2.1)
      rintro e w65 ⟨rfl, hb⟩
      refine ⟨_, rfl, ?_⟩
      have n0_ := Aside0.mk (Kd.R_below (by (with_reducible repeat (first | apply Kd.R_alloc | apply Kd.R_drewN | apply Kd.R_drew)); exact HO_784002.out) hb)
      have n1_ := Aside0.mk (Kd.R_below (by (with_reducible repeat (first | apply Kd.R_alloc | apply Kd.R_drewN | apply Kd.R_drew)); exact HO_790002.out) hb)
      have n2_ := Aside0.mk (Kd.R_below (by (with_reducible repeat (first | apply Kd.R_alloc | apply Kd.R_drewN | apply Kd.R_drew)); exact HO_797002.out) hb)
      have n3_ := Aside0.mk (Kd.R_below (by (with_reducible repeat (first | apply Kd.R_alloc | apply Kd.R_drewN | apply Kd.R_drew)); exact HO802.out) hb)
      have n4_ := Aside0.mk (blk_below (g := gb770) (o := .cells #[.int .i64 a0_0, .int .i64 a0_1, .slice A0_2 l0_2.length c0_2] 32 (0, 0)) (by (with_reducible repeat (first | refine blk_drewN ?_ _ | refine blk_drew ?_ | refine blk_alloc ?_ _)); exact BK770.out) hb)
      have n5_ := Aside0.mk (blk_below (g := gb783) (o := .cells #[.int .i64 t777, .int .i64 t778, .slice Ao23 t779.length co23] 25 (0, 0)) (by (with_reducible repeat (first | refine blk_drewN ?_ _ | refine blk_drew ?_ | refine blk_alloc ?_ _)); exact BK783.out) hb)
      have n6_ := Aside0.mk (blk_below (g := gb789) (o := .cells #[.int .i64 t784, .int .i64 t785, .slice Ao30 t786.length co30] 25 (0, 0)) (by (with_reducible repeat (first | refine blk_drewN ?_ _ | refine blk_drew ?_ | refine blk_alloc ?_ _)); exact BK789.out) hb)
      have n7_ := Aside0.mk (blk_below (g := gb796) (o := .cells #[.int .i64 t790, .int .i64 t791, .slice Ao37 t792.length co37] 25 (0, 0)) (by (with_reducible repeat (first | refine blk_drewN ?_ _ | refine blk_drew ?_ | refine blk_alloc ?_ _)); exact BK796.out) hb)
      have n8_ := Aside0.mk (below_step (by repeat (first | (with_reducible first | exact HB.out | apply below_alloc | apply pw_below_drewN | apply below_drew1 | refine below_set ?_ GE770.out | refine below_set ?_ GE783.out | refine below_set ?_ GE789.out | refine below_set ?_ GE796.out) | exact HB.out)) hb)
      clear HO_784002
      clear HO_790002
      clear HO_797002
      clear HO802
      clear BK770
      clear BK783
      clear BK789
      clear BK796
      clear HB
      have HO_784002 := n0_
      have HO_790002 := n1_
      have HO_797002 := n2_
      have HO802 := n3_
      have BK770 := n4_
      have BK783 := n5_
      have BK789 := n6_
      have BK796 := n7_
      have HB := n8_
      clear n0_ n1_ n2_ n3_ n4_ n5_ n6_ n7_ n8_
      (try clear hb)
      (try clear hb2)
      (try clear hk)
      (try clear hi)
      refine hK.out _ _ ⟨(blk_cell BK789.out 0).trans rfl, (blk_cell BK789.out 1).trans rfl, (blk_cell BK789.out 2).trans rfl, (blk_cell BK770.out 0).trans rfl, (blk_cell BK770.out 1).trans rfl, (blk_cell BK770.out 2).trans rfl⟩ (fun hHeld => ?_)
      clear hK K
      refine norm_ (a' := ?_) ?_ ?_
      rotate_left
      ·show Act.put _ (some 48) _ = _
       simp only [Act.put, List.setIfInBounds_toArray, List.set_cons_zero, List.set_cons_succ, i64_w, i32_w]
       rfl
      refine pure_ (i := 4) (N := some 49) (v := ?_) (a' := ?_) #[true, true, true, true, true] rfl rfl (by kernel_rfl) (fun _ _ _ h => h) (Or.inl ⟨by rfl, ?_⟩) ?_ ?_
      rotate_left
      ·intro w'
       go_simp
       with_reducible rfl
      rotate_left
      ·simp only [Act.put, List.setIfInBounds_toArray, List.set_cons_zero, List.set_cons_succ, i64_w, i32_w]
       rfl
      refine done_ (by kernel_rfl) ?_
      have hnb66 := NB789_770.out
      have hnc66 := NB770_789.out
      have hnb67 := NB789_783.out
      have hnc67 := NB783_789.out
      have hnb68 := NB789_796.out
      have hnc68 := NB796_789.out
      have hcz69_0 : w65.cell? ⟨gb789, 0, none⟩ = some (.int .i64 t784) := (blk_cell BK789.out 0).trans rfl
      have hcz69_1 : w65.cell? ⟨gb789, 1, none⟩ = some (.int .i64 t785) := (blk_cell BK789.out 1).trans rfl
      have hcz69_2 : w65.cell? ⟨gb789, 2, none⟩ = some (.slice Ao30 t786.length co30) := (blk_cell BK789.out 2).trans rfl
      have hfz69_0 := blk_frozen BK789.out 0
      have hfz69_1 := blk_frozen BK789.out 1
      have hfz69_2 := blk_frozen BK789.out 2
      go_upto_region 14 with (first | ((with_reducible refine gate_callee (f := 25) rfl ?_); refine goesL_ (some 52) rfl rfl Try.func25 (by kernel_rfl) rfl #[.agg #[.int .i64 t784, .int .i64 t785, .slice Ao30 t786.length co30], .int .i64 1] rfl (by (try simp only [List.map_toArray, List.map_cons, List.map_nil]); first | done | rfl | (simp only [List.length_drop, List.length_take]; rfl)) ?_; (with_reducible refine (laws_markRing.calls kj11 t784 t785 (fun k_ => some k_ = (.slice Ao30 t786.length co30 : Value).ownBlock) (.slice Ao30 t786.length co30) t786 1 t804 t805 w _ ?side1 ?side2 A60.out).mono ?_); (case side1 => repeat (first | (with_reducible first | exact HB.out | apply below_alloc | apply pw_below_drewN | apply below_drew1 | refine below_set ?_ GE770.out | refine below_set ?_ GE783.out | refine below_set ?_ GE789.out | refine below_set ?_ GE796.out) | exact HB.out)); (case side2 => exact Kd.R_tight rfl HO_790002.out); rintro e w70 ⟨rfl, hy0, hb, hkp⟩; refine ⟨_, rfl, ?_⟩; have n0_ := Aside0.mk (Kd.R_mono (ok' := fun k_ => some k_ ≠ (.slice Ao30 t786.length co30 : Value).ownBlock ∧ some k_ ≠ (.slice Ao37 t792.length co37 : Value).ownBlock ∧ some k_ ≠ (.slice Ao64 t800.length co64 : Value).ownBlock) (Kd.R_keptB (HO_784002.out) hkp (fun k_ hk_ hs_ => (hk_.1.1) hs_)) (fun k_ hk_ => ⟨hk_.1.1.1, hk_.1.1.2, hk_.1.2⟩)); have n1_ := Aside0.mk (Kd.R_reok rfl hy0 (fun k_ e_ => HO_790002.out.1 k_ e_)); have n2_ := Aside0.mk (Kd.R_mono (ok' := fun k_ => some k_ ≠ (.slice Ao23 t779.length co23 : Value).ownBlock ∧ some k_ ≠ (.slice Ao30 t786.length co30 : Value).ownBlock ∧ some k_ ≠ (.slice Ao64 t800.length co64 : Value).ownBlock) (Kd.R_keptB (HO_797002.out) hkp (fun k_ hk_ hs_ => (hk_.1.2) hs_)) (fun k_ hk_ => ⟨hk_.1.1.1, hk_.1.1.2, hk_.1.2⟩)); have n3_ := Aside0.mk (blk_kept (by (with_reducible repeat (first | refine blk_drewN ?_ _ | refine blk_drew ?_ | refine blk_alloc ?_ _)); exact BK770.out) hkp (fun hs_ => (fun e_ => (Kd.R_ne HO_790002.out BK770.out (by decide)) e_) hs_)); have n4_ := Aside0.mk (blk_kept (by (with_reducible repeat (first | refine blk_drewN ?_ _ | refine blk_drew ?_ | refine blk_alloc ?_ _)); exact BK783.out) hkp (fun hs_ => (fun e_ => (Kd.R_ne HO_790002.out BK783.out (by decide)) e_) hs_)); have n5_ := Aside0.mk (blk_kept (by (with_reducible repeat (first | refine blk_drewN ?_ _ | refine blk_drew ?_ | refine blk_alloc ?_ _)); exact BK789.out) hkp (fun hs_ => (fun e_ => (Kd.R_ne HO_790002.out BK789.out (by decide)) e_) hs_)); have n6_ := Aside0.mk (blk_kept (by (with_reducible repeat (first | refine blk_drewN ?_ _ | refine blk_drew ?_ | refine blk_alloc ?_ _)); exact BK796.out) hkp (fun hs_ => (fun e_ => (Kd.R_ne HO_790002.out BK796.out (by decide)) e_) hs_)); have n7_ := Aside0.mk (Kd.R_mono (ok' := fun k_ => some k_ ≠ (.slice Ao23 t779.length co23 : Value).ownBlock ∧ some k_ ≠ (.slice Ao30 t786.length co30 : Value).ownBlock ∧ some k_ ≠ (.slice Ao37 t792.length co37 : Value).ownBlock) (Kd.R_keptB (HO802.out) hkp (fun k_ hk_ hs_ => (hk_.1.2) hs_)) (fun k_ hk_ => ⟨hk_.1.1.1.2, hk_.1.1.2, hk_.1.2⟩)); have n8_ := Aside0.mk (hb); clear HO_784002; clear HO_790002; clear HO_797002; clear BK770; clear BK783; clear BK789; clear BK796; clear HO802; clear HB; have HO_784002 := n0_; have HO_790002 := n1_; have HO_797002 := n2_; have BK770 := n3_; have BK783 := n4_; have BK789 := n5_; have BK796 := n6_; have HO802 := n7_; have HB := n8_; clear n0_ n1_ n2_ n3_ n4_ n5_ n6_ n7_ n8_; (try clear hb); (try clear hkp); (try clear hy0)))
      (try simp only [Act.put, List.setIfInBounds_toArray, List.set_cons_zero, List.set_cons_succ])
      go_cut [65] (fun v65 wc => ∃ (kq : Nat) (x65_60 : Bool), v65 = .bool x65_60 ∧ Aside0 (laws_FnExactCutLink.j1 kq a1 t782 x65_60 a0_0 a0_1 l0_2 t777 t778 t779 t790 t791 t792 = some r) ∧ Aside0 (kq ≤ kj11) ∧ Aside0 (Kd.R (Kd.int .i64) 3 wc w.heap.size (fun k_ => some k_ ≠ ((.slice Ao30 t786.length co30) : Value).ownBlock ∧ some k_ ≠ ((.slice Ao37 t792.length co37) : Value).ownBlock) (.slice Ao23 t779.length co23) t779) ∧ Aside0 (Kd.R (Kd.int .i64) 3 wc w.heap.size (fun k_ => some k_ ≠ ((.slice Ao23 t779.length co23) : Value).ownBlock ∧ some k_ ≠ ((.slice Ao37 t792.length co37) : Value).ownBlock) (.slice Ao30 t786.length co30) t805) ∧ Aside0 (Kd.R (Kd.int .i64) 3 wc w.heap.size (fun k_ => some k_ ≠ ((.slice Ao23 t779.length co23) : Value).ownBlock ∧ some k_ ≠ ((.slice Ao30 t786.length co30) : Value).ownBlock) (.slice Ao37 t792.length co37) t792) ∧ Aside0 (wc.heap[gb770]? = some (.cells #[.int .i64 a0_0, .int .i64 a0_1, (.slice A0_2 l0_2.length c0_2)] 32 (0, 0))) ∧ Aside0 (wc.heap[gb783]? = some (.cells #[.int .i64 t777, .int .i64 t778, (.slice Ao23 t779.length co23)] 25 (0, 0))) ∧ Aside0 (wc.heap[gb789]? = some (.cells #[.int .i64 t784, .int .i64 t785, (.slice Ao30 t786.length co30)] 25 (0, 0))) ∧ Aside0 (wc.heap[gb796]? = some (.cells #[.int .i64 t790, .int .i64 t791, (.slice Ao37 t792.length co37)] 25 (0, 0))) ∧ Aside0 (Below w.heap.size w wc))
      case first =>
       have H := HC61.out
       clear HC61
       by_cases c71 : t804 < 0
       ·rw [if_pos c71] at H
        have c71b0 : decide (t804 < 0) = true := decide_eq_true c71
        clear c71
        (first | rw [c71b0] | (simp only [i64_w, i32_w]; rw [c71b0]) | skip)
        have H' := Aside0.mk H
        clear H
        go_wp2
        go_meet
        case rel => exact ⟨_, (true), (by first | rfl | (simp; done) | (simp [*]; done)), H', ⟨by have := HJ11.out; first | omega | exact Nat.le_refl _⟩, ⟨by (with_reducible repeat (first | apply Kd.R_alloc | apply Kd.R_drewN | apply Kd.R_drew)); exact Kd.R_mono HO_784002.out (fun _ hk => ⟨hk.1, hk.2.1⟩)⟩, ⟨by (with_reducible repeat (first | apply Kd.R_alloc | apply Kd.R_drewN | apply Kd.R_drew)); exact Kd.R_mono HO_790002.out (fun _ hk => ⟨hk.1.1, hk.1.2⟩)⟩, ⟨by (with_reducible repeat (first | apply Kd.R_alloc | apply Kd.R_drewN | apply Kd.R_drew)); exact Kd.R_mono HO_797002.out (fun _ hk => ⟨hk.1, hk.2.1⟩)⟩, ⟨by (with_reducible repeat (first | refine blk_drewN ?_ _ | refine blk_drew ?_ | refine blk_alloc ?_ _)); exact BK770.out⟩, ⟨by (with_reducible repeat (first | refine blk_drewN ?_ _ | refine blk_drew ?_ | refine blk_alloc ?_ _)); exact BK783.out⟩, ⟨by (with_reducible repeat (first | refine blk_drewN ?_ _ | refine blk_drew ?_ | refine blk_alloc ?_ _)); exact BK789.out⟩, ⟨by (with_reducible repeat (first | refine blk_drewN ?_ _ | refine blk_drew ?_ | refine blk_alloc ?_ _)); exact BK796.out⟩, ⟨by repeat (first | (with_reducible first | exact HB.out | apply below_alloc | apply pw_below_drewN | apply below_drew1 | refine below_set ?_ GE770.out | refine below_set ?_ GE783.out | refine below_set ?_ GE789.out | refine below_set ?_ GE796.out) | exact HB.out)⟩⟩
       ·rw [if_neg c71] at H
        have c71b0 : decide (t804 < 0) = false := decide_eq_false c71
        clear c71
        (first | rw [c71b0] | (simp only [i64_w, i32_w]; rw [c71b0]) | skip)
        replace H := Option.bind_eq_some_iff.mp H
        obtain ⟨t806, A720, H⟩ := H
        replace H : (if t806 = true then (laws_FnExactCutLink.j1 kj11 a1 t782 (t795 != t782) a0_0 a0_1 l0_2 t777 t778 t779 t790 t791 t792) else (laws_FnExactCutLink.j1 kj11 a1 t782 true a0_0 a0_1 l0_2 t777 t778 t779 t790 t791 t792)) = some r := H
        have A72 := Aside0.mk A720
        clear A720
        by_cases c73 : t806 = true
        ·subst c73
         have H1 : (laws_FnExactCutLink.j1 kj11 a1 t782 (t795 != t782) a0_0 a0_1 l0_2 t777 t778 t779 t790 t791 t792) = some r := by rw [if_pos rfl] at H; exact H
         clear H
         have H := H1
         clear H1
         have H' := Aside0.mk H
         clear H
         have hnb74 := NB796_770.out
         have hnc74 := NB770_796.out
         have hnb75 := NB796_783.out
         have hnc75 := NB783_796.out
         have hnb76 := NB796_789.out
         have hnc76 := NB789_796.out
         have hcz77_0 : w70.cell? ⟨gb796, 0, none⟩ = some (.int .i64 t790) := (blk_cell BK796.out 0).trans rfl
         have hcz77_1 : w70.cell? ⟨gb796, 1, none⟩ = some (.int .i64 t791) := (blk_cell BK796.out 1).trans rfl
         have hcz77_2 : w70.cell? ⟨gb796, 2, none⟩ = some (.slice Ao37 t792.length co37) := (blk_cell BK796.out 2).trans rfl
         have hfz77_0 := blk_frozen BK796.out 0
         have hfz77_1 := blk_frozen BK796.out 1
         have hfz77_2 := blk_frozen BK796.out 2
         have hnb78 := NB783_770.out
         have hnc78 := NB770_783.out
         have hnb79 := NB783_789.out
         have hnc79 := NB789_783.out
         have hcz80_0 : w70.cell? ⟨gb783, 0, none⟩ = some (.int .i64 t777) := (blk_cell BK783.out 0).trans rfl
         have hcz80_1 : w70.cell? ⟨gb783, 1, none⟩ = some (.int .i64 t778) := (blk_cell BK783.out 1).trans rfl
         have hcz80_2 : w70.cell? ⟨gb783, 2, none⟩ = some (.slice Ao23 t779.length co23) := (blk_cell BK783.out 2).trans rfl
         have hfz80_0 := blk_frozen BK783.out 0
         have hfz80_1 := blk_frozen BK783.out 1
         have hfz80_2 := blk_frozen BK783.out 2
         go_wp2_with (first | (go_at_call 24; (with_reducible refine (laws_eqRing.calls kj11 t790 t791 _ _ t792 t777 t778 _ _ t779 true _ ?side1 ?side2 ?side3 ?side4 A72.out).mono ?_); (case side1 => repeat (first | exact (Kd.R_reads' HO_797002.out).2.2 | (with_reducible refine Kd.C_alloc ?_ _) | (with_reducible refine Kd.C_drewN ?_ _) | (with_reducible refine Kd.C_drew ?_))); (case side2 => exact (Kd.R_reads' HO_797002.out).2.1); (case side3 => repeat (first | exact (Kd.R_reads' HO_784002.out).2.2 | (with_reducible refine Kd.C_alloc ?_ _) | (with_reducible refine Kd.C_drewN ?_ _) | (with_reducible refine Kd.C_drew ?_))); (case side4 => exact (Kd.R_reads' HO_784002.out).2.1); rintro e w81 ⟨rfl, hb⟩; have n0_ := Aside0.mk (Kd.R_below (by (with_reducible repeat (first | apply Kd.R_alloc | apply Kd.R_drewN | apply Kd.R_drew)); exact HO_784002.out) hb); have n1_ := Aside0.mk (Kd.R_below (by (with_reducible repeat (first | apply Kd.R_alloc | apply Kd.R_drewN | apply Kd.R_drew)); exact HO_790002.out) hb); have n2_ := Aside0.mk (Kd.R_below (by (with_reducible repeat (first | apply Kd.R_alloc | apply Kd.R_drewN | apply Kd.R_drew)); exact HO_797002.out) hb); have n3_ := Aside0.mk (Kd.R_below (by (with_reducible repeat (first | apply Kd.R_alloc | apply Kd.R_drewN | apply Kd.R_drew)); exact HO802.out) hb); have n4_ := Aside0.mk (blk_below (g := gb770) (o := .cells #[.int .i64 a0_0, .int .i64 a0_1, .slice A0_2 l0_2.length c0_2] 32 (0, 0)) (by (with_reducible repeat (first | refine blk_drewN ?_ _ | refine blk_drew ?_ | refine blk_alloc ?_ _)); exact BK770.out) hb); have n5_ := Aside0.mk (blk_below (g := gb783) (o := .cells #[.int .i64 t777, .int .i64 t778, .slice Ao23 t779.length co23] 25 (0, 0)) (by (with_reducible repeat (first | refine blk_drewN ?_ _ | refine blk_drew ?_ | refine blk_alloc ?_ _)); exact BK783.out) hb); have n6_ := Aside0.mk (blk_below (g := gb789) (o := .cells #[.int .i64 t784, .int .i64 t785, .slice Ao30 t786.length co30] 25 (0, 0)) (by (with_reducible repeat (first | refine blk_drewN ?_ _ | refine blk_drew ?_ | refine blk_alloc ?_ _)); exact BK789.out) hb); have n7_ := Aside0.mk (blk_below (g := gb796) (o := .cells #[.int .i64 t790, .int .i64 t791, .slice Ao37 t792.length co37] 25 (0, 0)) (by (with_reducible repeat (first | refine blk_drewN ?_ _ | refine blk_drew ?_ | refine blk_alloc ?_ _)); exact BK796.out) hb); have n8_ := Aside0.mk (below_step (by repeat (first | (with_reducible first | exact HB.out | apply below_alloc | apply pw_below_drewN | apply below_drew1 | refine below_set ?_ GE770.out | refine below_set ?_ GE783.out | refine below_set ?_ GE789.out | refine below_set ?_ GE796.out) | exact HB.out)) hb); clear HO_784002; clear HO_790002; clear HO_797002; clear HO802; clear BK770; clear BK783; clear BK789; clear BK796; clear HB; have HO_784002 := n0_; have HO_790002 := n1_; have HO_797002 := n2_; have HO802 := n3_; have BK770 := n4_; have BK783 := n5_; have BK789 := n6_; have BK796 := n7_; have HB := n8_; clear n0_ n1_ n2_ n3_ n4_ n5_ n6_ n7_ n8_; (try clear hb); (try clear hb2); (try clear hk); (try clear hi)))
         go_meet
         case rel => exact ⟨_, ((t795 != t782)), (by first | rfl | (simp; done) | (simp [*]; done)), H', ⟨by have := HJ11.out; first | omega | exact Nat.le_refl _⟩, ⟨by (with_reducible repeat (first | apply Kd.R_alloc | apply Kd.R_drewN | apply Kd.R_drew)); exact Kd.R_mono HO_784002.out (fun _ hk => ⟨hk.1, hk.2.1⟩)⟩, ⟨by (with_reducible repeat (first | apply Kd.R_alloc | apply Kd.R_drewN | apply Kd.R_drew)); exact Kd.R_mono HO_790002.out (fun _ hk => ⟨hk.1.1, hk.1.2⟩)⟩, ⟨by (with_reducible repeat (first | apply Kd.R_alloc | apply Kd.R_drewN | apply Kd.R_drew)); exact Kd.R_mono HO_797002.out (fun _ hk => ⟨hk.1, hk.2.1⟩)⟩, ⟨by (with_reducible repeat (first | refine blk_drewN ?_ _ | refine blk_drew ?_ | refine blk_alloc ?_ _)); exact BK770.out⟩, ⟨by (with_reducible repeat (first | refine blk_drewN ?_ _ | refine blk_drew ?_ | refine blk_alloc ?_ _)); exact BK783.out⟩, ⟨by (with_reducible repeat (first | refine blk_drewN ?_ _ | refine blk_drew ?_ | refine blk_alloc ?_ _)); exact BK789.out⟩, ⟨by (with_reducible repeat (first | refine blk_drewN ?_ _ | refine blk_drew ?_ | refine blk_alloc ?_ _)); exact BK796.out⟩, ⟨by repeat (first | (with_reducible first | exact HB.out | apply below_alloc | apply pw_below_drewN | apply below_drew1 | refine below_set ?_ GE770.out | refine below_set ?_ GE783.out | refine below_set ?_ GE789.out | refine below_set ?_ GE796.out) | exact HB.out)⟩⟩
        ·replace c73 := Bool.eq_false_iff.mpr c73
         subst c73
         have H1 : (laws_FnExactCutLink.j1 kj11 a1 t782 true a0_0 a0_1 l0_2 t777 t778 t779 t790 t791 t792) = some r := by rw [if_neg (show ¬ (false = true) by decide)] at H; exact H
         clear H
         have H := H1
         clear H1
         have H' := Aside0.mk H
         clear H
         have hnb82 := NB796_770.out
         have hnc82 := NB770_796.out
         have hnb83 := NB796_783.out
         have hnc83 := NB783_796.out
         have hnb84 := NB796_789.out
         have hnc84 := NB789_796.out
         have hcz85_0 : w70.cell? ⟨gb796, 0, none⟩ = some (.int .i64 t790) := (blk_cell BK796.out 0).trans rfl
         have hcz85_1 : w70.cell? ⟨gb796, 1, none⟩ = some (.int .i64 t791) := (blk_cell BK796.out 1).trans rfl
         have hcz85_2 : w70.cell? ⟨gb796, 2, none⟩ = some (.slice Ao37 t792.length co37) := (blk_cell BK796.out 2).trans rfl
         have hfz85_0 := blk_frozen BK796.out 0
         have hfz85_1 := blk_frozen BK796.out 1
         have hfz85_2 := blk_frozen BK796.out 2
         have hnb86 := NB783_770.out
         have hnc86 := NB770_783.out
         have hnb87 := NB783_789.out
         have hnc87 := NB789_783.out
         have hcz88_0 : w70.cell? ⟨gb783, 0, none⟩ = some (.int .i64 t777) := (blk_cell BK783.out 0).trans rfl
         have hcz88_1 : w70.cell? ⟨gb783, 1, none⟩ = some (.int .i64 t778) := (blk_cell BK783.out 1).trans rfl
         have hcz88_2 : w70.cell? ⟨gb783, 2, none⟩ = some (.slice Ao23 t779.length co23) := (blk_cell BK783.out 2).trans rfl
         have hfz88_0 := blk_frozen BK783.out 0
         have hfz88_1 := blk_frozen BK783.out 1
         have hfz88_2 := blk_frozen BK783.out 2
         go_wp2_with (first | (go_at_call 24; (with_reducible refine (laws_eqRing.calls kj11 t790 t791 _ _ t792 t777 t778 _ _ t779 false _ ?side1 ?side2 ?side3 ?side4 A72.out).mono ?_); (case side1 => repeat (first | exact (Kd.R_reads' HO_797002.out).2.2 | (with_reducible refine Kd.C_alloc ?_ _) | (with_reducible refine Kd.C_drewN ?_ _) | (with_reducible refine Kd.C_drew ?_))); (case side2 => exact (Kd.R_reads' HO_797002.out).2.1); (case side3 => repeat (first | exact (Kd.R_reads' HO_784002.out).2.2 | (with_reducible refine Kd.C_alloc ?_ _) | (with_reducible refine Kd.C_drewN ?_ _) | (with_reducible refine Kd.C_drew ?_))); (case side4 => exact (Kd.R_reads' HO_784002.out).2.1); rintro e w89 ⟨rfl, hb⟩; have n0_ := Aside0.mk (Kd.R_below (by (with_reducible repeat (first | apply Kd.R_alloc | apply Kd.R_drewN | apply Kd.R_drew)); exact HO_784002.out) hb); have n1_ := Aside0.mk (Kd.R_below (by (with_reducible repeat (first | apply Kd.R_alloc | apply Kd.R_drewN | apply Kd.R_drew)); exact HO_790002.out) hb); have n2_ := Aside0.mk (Kd.R_below (by (with_reducible repeat (first | apply Kd.R_alloc | apply Kd.R_drewN | apply Kd.R_drew)); exact HO_797002.out) hb); have n3_ := Aside0.mk (Kd.R_below (by (with_reducible repeat (first | apply Kd.R_alloc | apply Kd.R_drewN | apply Kd.R_drew)); exact HO802.out) hb); have n4_ := Aside0.mk (blk_below (g := gb770) (o := .cells #[.int .i64 a0_0, .int .i64 a0_1, .slice A0_2 l0_2.length c0_2] 32 (0, 0)) (by (with_reducible repeat (first | refine blk_drewN ?_ _ | refine blk_drew ?_ | refine blk_alloc ?_ _)); exact BK770.out) hb); have n5_ := Aside0.mk (blk_below (g := gb783) (o := .cells #[.int .i64 t777, .int .i64 t778, .slice Ao23 t779.length co23] 25 (0, 0)) (by (with_reducible repeat (first | refine blk_drewN ?_ _ | refine blk_drew ?_ | refine blk_alloc ?_ _)); exact BK783.out) hb); have n6_ := Aside0.mk (blk_below (g := gb789) (o := .cells #[.int .i64 t784, .int .i64 t785, .slice Ao30 t786.length co30] 25 (0, 0)) (by (with_reducible repeat (first | refine blk_drewN ?_ _ | refine blk_drew ?_ | refine blk_alloc ?_ _)); exact BK789.out) hb); have n7_ := Aside0.mk (blk_below (g := gb796) (o := .cells #[.int .i64 t790, .int .i64 t791, .slice Ao37 t792.length co37] 25 (0, 0)) (by (with_reducible repeat (first | refine blk_drewN ?_ _ | refine blk_drew ?_ | refine blk_alloc ?_ _)); exact BK796.out) hb); have n8_ := Aside0.mk (below_step (by repeat (first | (with_reducible first | exact HB.out | apply below_alloc | apply pw_below_drewN | apply below_drew1 | refine below_set ?_ GE770.out | refine below_set ?_ GE783.out | refine below_set ?_ GE789.out | refine below_set ?_ GE796.out) | exact HB.out)) hb); clear HO_784002; clear HO_790002; clear HO_797002; clear HO802; clear BK770; clear BK783; clear BK789; clear BK796; clear HB; have HO_784002 := n0_; have HO_790002 := n1_; have HO_797002 := n2_; have HO802 := n3_; have BK770 := n4_; have BK783 := n5_; have BK789 := n6_; have BK796 := n7_; have HB := n8_; clear n0_ n1_ n2_ n3_ n4_ n5_ n6_ n7_ n8_; (try clear hb); (try clear hb2); (try clear hk); (try clear hi)))
         go_meet
         case rel => exact ⟨_, (true), (by first | rfl | (simp; done) | (simp [*]; done)), H', ⟨by have := HJ11.out; first | omega | exact Nat.le_refl _⟩, ⟨by (with_reducible repeat (first | apply Kd.R_alloc | apply Kd.R_drewN | apply Kd.R_drew)); exact Kd.R_mono HO_784002.out (fun _ hk => ⟨hk.1, hk.2.1⟩)⟩, ⟨by (with_reducible repeat (first | apply Kd.R_alloc | apply Kd.R_drewN | apply Kd.R_drew)); exact Kd.R_mono HO_790002.out (fun _ hk => ⟨hk.1.1, hk.1.2⟩)⟩, ⟨by (with_reducible repeat (first | apply Kd.R_alloc | apply Kd.R_drewN | apply Kd.R_drew)); exact Kd.R_mono HO_797002.out (fun _ hk => ⟨hk.1, hk.2.1⟩)⟩, ⟨by (with_reducible repeat (first | refine blk_drewN ?_ _ | refine blk_drew ?_ | refine blk_alloc ?_ _)); exact BK770.out⟩, ⟨by (with_reducible repeat (first | refine blk_drewN ?_ _ | refine blk_drew ?_ | refine blk_alloc ?_ _)); exact BK783.out⟩, ⟨by (with_reducible repeat (first | refine blk_drewN ?_ _ | refine blk_drew ?_ | refine blk_alloc ?_ _)); exact BK789.out⟩, ⟨by (with_reducible repeat (first | refine blk_drewN ?_ _ | refine blk_drew ?_ | refine blk_alloc ?_ _)); exact BK796.out⟩, ⟨by repeat (first | (with_reducible first | exact HB.out | apply below_alloc | apply pw_below_drewN | apply below_drew1 | refine below_set ?_ GE770.out | refine below_set ?_ GE783.out | refine below_set ?_ GE789.out | refine below_set ?_ GE796.out) | exact HB.out)⟩⟩
      case rest =>
       clear HC61
       try clear c1
       try clear c2
       try clear p2
       try clear c3
       try clear c4
       try clear c4b0
       try clear c5
       try clear c6
       try clear c7
       try clear c8
       try clear c11
       try clear c20
       try clear c21
       try clear c22
       try clear c24
       try clear c25
       try clear c27
       try clear c28
       try clear c33
       try clear c34
       try clear c35
       try clear c37
       try clear c38
       try clear c39
       try clear c40
       try clear c41
       try clear c42
       try clear c44
       try clear c45
       try clear c48
       try clear c49
       try clear c50
       try clear c52
       try clear c53
       try clear c56
       try clear c59
       try clear c66
       try clear c67
       try clear c68
       try clear c71
       try clear c71b0
       try clear c73
       try clear c74
       try clear c75
       try clear c76
       try clear c78
       try clear c79
       try clear c82
       try clear c83
       try clear c84
       try clear c86
       try clear c87
       try clear hcz14_0
       try clear hcz14_1
       try clear hcz14_2
       try clear hcz16_0
       try clear hcz16_1
       try clear hcz16_2
       try clear hcz22_0
       try clear hcz22_1
       try clear hcz22_2
       try clear hcz24_0
       try clear hcz24_1
       try clear hcz24_2
       try clear hcz29_0
       try clear hcz29_1
       try clear hcz29_2
       try clear hcz36_0
       try clear hcz36_1
       try clear hcz36_2
       try clear hcz43_0
       try clear hcz43_1
       try clear hcz43_2
       try clear hcz46_0
       try clear hcz46_1
       try clear hcz46_2
       try clear hcz51_0
       try clear hcz51_1
       try clear hcz51_2
       try clear hcz54_0
       try clear hcz54_1
       try clear hcz54_2
       try clear hcz69_0
       try clear hcz69_1
       try clear hcz69_2
       try clear hcz6_0
       try clear hcz6_1
       try clear hcz6_2
       try clear hcz77_0
       try clear hcz77_1
       try clear hcz77_2
       try clear hcz80_0
       try clear hcz80_1
       try clear hcz80_2
       try clear hcz85_0
       try clear hcz85_1
       try clear hcz85_2
       try clear hcz88_0
       try clear hcz88_1
       try clear hcz88_2
       try clear hfz14_0
       try clear hfz14_1
       try clear hfz14_2
       try clear hfz16_0
       try clear hfz16_1
       try clear hfz16_2
       try clear hfz22_0
       try clear hfz22_1
       try clear hfz22_2
       try clear hfz24_0
       try clear hfz24_1
       try clear hfz24_2
       try clear hfz29_0
       try clear hfz29_1
       try clear hfz29_2
       try clear hfz36_0
       try clear hfz36_1
       try clear hfz36_2
       try clear hfz43_0
       try clear hfz43_1
       try clear hfz43_2
       try clear hfz46_0
       try clear hfz46_1
       try clear hfz46_2
       try clear hfz51_0
       try clear hfz51_1
       try clear hfz51_2
       try clear hfz54_0
       try clear hfz54_1
       try clear hfz54_2
       try clear hfz69_0
       try clear hfz69_1
       try clear hfz69_2
       try clear hfz6_0
       try clear hfz6_1
       try clear hfz6_2
       try clear hfz77_0
       try clear hfz77_1
       try clear hfz77_2
       try clear hfz80_0
       try clear hfz80_1
       try clear hfz80_2
       try clear hfz85_0
       try clear hfz85_1
       try clear hfz85_2
       try clear hfz88_0
       try clear hfz88_1
       try clear hfz88_2
       try clear p2
       obtain ⟨kq, x65_60, rfl, HA, HJ60, HO_784002, HO_790002, HO_797002, BK770, BK783, BK789, BK796, HB⟩ := hcut
       have hl790002_60 := (Kd.R_reads' HO_790002.out).1
       rw [hl790002_60] at HO_790002
       (try simp only [hl790002_60])
       (try simp only [hl790002_60] at BK770)
       (try simp only [hl790002_60] at BK783)
       (try simp only [hl790002_60] at BK789)
       (try simp only [hl790002_60] at BK796)
       (try simp only [hl790002_60] at HO_784002)
       (try simp only [hl790002_60] at HO_797002)
       cases kq with
       | zero => exact absurd HA.out (by simp [laws_FnExactCutLink.j1])
       | succ kj60 =>
        have H := HA.out
        clear HA
        simp only [laws_FnExactCutLink.j1] at H
        by_cases c90 : x65_60 = true
        ·subst c90
         have H1 : (some false) = some r := by rw [if_pos rfl] at H; exact H
         clear H
         have H := H1
         clear H1
         obtain rfl := Option.some.inj H
         go_wp2
         go_ret
         exact ⟨by first | rfl | (simp [errW_none, errW_some] <;> rfl) | (simp [*, errW_none, errW_some] <;> rfl), by repeat (first | (with_reducible first | exact HB.out | apply below_alloc | apply pw_below_drewN | apply below_drew1 | refine below_set ?_ GE770.out | refine below_set ?_ GE783.out | refine below_set ?_ GE789.out | refine below_set ?_ GE796.out) | exact HB.out)⟩
        ·replace c90 := Bool.eq_false_iff.mpr c90
         subst c90
         have H1 : ((laws_markRing.f kj60 t790 t791 t792 1).bind fun bt807 => ((laws_heldRing.f kj60 t790 t791 bt807.2 1).bind fun t809 => (if t809 < 0 then (some false) else (if t809 = bt807.1 then ((laws_toRing.f kj60 a0_0 a0_1 l0_2).bind fun bt810 => ((impl_CutLink.f kj60 bt810.1 bt810.2.1 bt810.2.2 a1).bind fun bt815 => ((laws_eqRing.f kj60 bt815.1 bt815.2.1 bt815.2.2.1 t777 t778 t779).bind fun t822 => (if t822 = true then (laws_FnExactCutLink.j2 kj60 bt807.1 (bt815.2.2.2 != t782) t790 t791 bt807.2) else (laws_FnExactCutLink.j2 kj60 bt807.1 true t790 t791 bt807.2))))) else (some false))))) = some r := by rw [if_neg (show ¬ (false = true) by decide)] at H; exact H
         clear H
         have H := H1
         clear H1
         replace H := Option.bind_eq_some_iff.mp H
         obtain ⟨⟨t807, t808⟩, A910, H⟩ := H
         replace H : ((laws_heldRing.f kj60 t790 t791 t808 1).bind fun t809 => (if t809 < 0 then (some false) else (if t809 = t807 then ((laws_toRing.f kj60 a0_0 a0_1 l0_2).bind fun bt810 => ((impl_CutLink.f kj60 bt810.1 bt810.2.1 bt810.2.2 a1).bind fun bt815 => ((laws_eqRing.f kj60 bt815.1 bt815.2.1 bt815.2.2.1 t777 t778 t779).bind fun t822 => (if t822 = true then (laws_FnExactCutLink.j2 kj60 t807 (bt815.2.2.2 != t782) t790 t791 t808) else (laws_FnExactCutLink.j2 kj60 t807 true t790 t791 t808))))) else (some false)))) = some r := H
         have A91 := Aside0.mk A910
         clear A910
         replace H := Option.bind_eq_some_iff.mp H
         obtain ⟨t809, A920, H⟩ := H
         replace H : (if t809 < 0 then (some false) else (if t809 = t807 then ((laws_toRing.f kj60 a0_0 a0_1 l0_2).bind fun bt810 => ((impl_CutLink.f kj60 bt810.1 bt810.2.1 bt810.2.2 a1).bind fun bt815 => ((laws_eqRing.f kj60 bt815.1 bt815.2.1 bt815.2.2.1 t777 t778 t779).bind fun t822 => (if t822 = true then (laws_FnExactCutLink.j2 kj60 t807 (bt815.2.2.2 != t782) t790 t791 t808) else (laws_FnExactCutLink.j2 kj60 t807 true t790 t791 t808))))) else (some false))) = some r := H
         have A92 := Aside0.mk A920
         clear A920
         by_cases c93 : t809 < 0
         ·rw [if_pos c93] at H
          have c93b0 : decide (t809 < 0) = true := decide_eq_true c93
          clear c93
          obtain rfl := Option.some.inj H
          have hnb94 := NB796_770.out
          have hnc94 := NB770_796.out
          have hnb95 := NB796_783.out
          have hnc95 := NB783_796.out
          have hnb96 := NB796_789.out
          have hnc96 := NB789_796.out
          have hcz97_0 : wc.cell? ⟨gb796, 0, none⟩ = some (.int .i64 t790) := (blk_cell BK796.out 0).trans rfl
          have hcz97_1 : wc.cell? ⟨gb796, 1, none⟩ = some (.int .i64 t791) := (blk_cell BK796.out 1).trans rfl
          have hcz97_2 : wc.cell? ⟨gb796, 2, none⟩ = some (.slice Ao37 t792.length co37) := (blk_cell BK796.out 2).trans rfl
          have hfz97_0 := blk_frozen BK796.out 0
          have hfz97_1 := blk_frozen BK796.out 1
          have hfz97_2 := blk_frozen BK796.out 2
          go_wp2_with (first | ((with_reducible refine gate_callee (f := 25) rfl ?_); refine goesL_ (some 68) rfl rfl Try.func25 (by kernel_rfl) rfl #[.agg #[.int .i64 t790, .int .i64 t791, .slice Ao37 t792.length co37], .int .i64 1] rfl (by (try simp only [List.map_toArray, List.map_cons, List.map_nil]); first | done | rfl | (simp only [List.length_drop, List.length_take]; rfl)) ?_; (with_reducible refine (laws_markRing.calls kj60 t790 t791 (fun k_ => some k_ = (.slice Ao37 t792.length co37 : Value).ownBlock) (.slice Ao37 t792.length co37) t792 1 t807 t808 w _ ?side1 ?side2 A91.out).mono ?_); (case side1 => repeat (first | (with_reducible first | exact HB.out | apply below_alloc | apply pw_below_drewN | apply below_drew1 | refine below_set ?_ GE770.out | refine below_set ?_ GE783.out | refine below_set ?_ GE789.out | refine below_set ?_ GE796.out) | exact HB.out)); (case side2 => exact Kd.R_tight rfl HO_797002.out); rintro e w98 ⟨rfl, hy0, hb, hkp⟩; refine ⟨_, rfl, ?_⟩; have n0_ := Aside0.mk (Kd.R_mono (ok' := fun k_ => some k_ ≠ (.slice Ao30 t805.length co30 : Value).ownBlock ∧ some k_ ≠ (.slice Ao37 t792.length co37 : Value).ownBlock) (Kd.R_keptB (HO_784002.out) hkp (fun k_ hk_ hs_ => (hk_.2) hs_)) (fun k_ hk_ => ⟨hk_.1.1, hk_.1.2⟩)); have n1_ := Aside0.mk (Kd.R_mono (ok' := fun k_ => some k_ ≠ (.slice Ao23 t779.length co23 : Value).ownBlock ∧ some k_ ≠ (.slice Ao37 t792.length co37 : Value).ownBlock) (Kd.R_keptB (HO_790002.out) hkp (fun k_ hk_ hs_ => (hk_.2) hs_)) (fun k_ hk_ => ⟨hk_.1.1, hk_.1.2⟩)); have n2_ := Aside0.mk (Kd.R_reok rfl hy0 (fun k_ e_ => HO_797002.out.1 k_ e_)); have n3_ := Aside0.mk (blk_kept (by (with_reducible repeat (first | refine blk_drewN ?_ _ | refine blk_drew ?_ | refine blk_alloc ?_ _)); exact BK770.out) hkp (fun hs_ => (fun e_ => (Kd.R_ne HO_797002.out BK770.out (by decide)) e_) hs_)); have n4_ := Aside0.mk (blk_kept (by (with_reducible repeat (first | refine blk_drewN ?_ _ | refine blk_drew ?_ | refine blk_alloc ?_ _)); exact BK783.out) hkp (fun hs_ => (fun e_ => (Kd.R_ne HO_797002.out BK783.out (by decide)) e_) hs_)); have n5_ := Aside0.mk (blk_kept (by (with_reducible repeat (first | refine blk_drewN ?_ _ | refine blk_drew ?_ | refine blk_alloc ?_ _)); exact BK789.out) hkp (fun hs_ => (fun e_ => (Kd.R_ne HO_797002.out BK789.out (by decide)) e_) hs_)); have n6_ := Aside0.mk (blk_kept (by (with_reducible repeat (first | refine blk_drewN ?_ _ | refine blk_drew ?_ | refine blk_alloc ?_ _)); exact BK796.out) hkp (fun hs_ => (fun e_ => (Kd.R_ne HO_797002.out BK796.out (by decide)) e_) hs_)); have n7_ := Aside0.mk (hb); clear HO_784002; clear HO_790002; clear HO_797002; clear BK770; clear BK783; clear BK789; clear BK796; clear HB; have HO_784002 := n0_; have HO_790002 := n1_; have HO_797002 := n2_; have BK770 := n3_; have BK783 := n4_; have BK789 := n5_; have BK796 := n6_; have HB := n7_; clear n0_ n1_ n2_ n3_ n4_ n5_ n6_ n7_; (try clear hb); (try clear hkp); (try clear hy0); have hcz99_0 : w98.cell? ⟨gb796, 0, none⟩ = some (.int .i64 t790) := (blk_cell BK796.out 0).trans rfl; have hcz99_1 : w98.cell? ⟨gb796, 1, none⟩ = some (.int .i64 t791) := (blk_cell BK796.out 1).trans rfl; have hcz99_2 : w98.cell? ⟨gb796, 2, none⟩ = some (.slice Ao37 t792.length co37) := (blk_cell BK796.out 2).trans rfl; have hfz99_0 := blk_frozen BK796.out 0; have hfz99_1 := blk_frozen BK796.out 1; have hfz99_2 := blk_frozen BK796.out 2) | ((with_reducible refine gate_callee (f := 26) rfl ?_); refine goesL_ (some 71) rfl rfl Try.func26 (by kernel_rfl) rfl #[.agg #[.int .i64 t790, .int .i64 t791, .slice Ao37 t808.length co37], .int .i64 1] rfl (by (try simp only [List.map_toArray, List.map_cons, List.map_nil]); first | done | (rw [show t808.length = t792.length from (Kd.R_reads' HO_797002.out).1.symm] <;> rfl) | rfl | (simp only [List.length_drop, List.length_take]; rfl)) ?_; (with_reducible refine (laws_heldRing.calls kj60 t790 t791 _ _ t808 1 t809 _ ?side1 ?side2 A92.out).mono ?_); (case side1 => repeat (first | exact (Kd.R_reads' HO_797002.out).2.2 | (with_reducible refine Kd.C_alloc ?_ _) | (with_reducible refine Kd.C_drewN ?_ _) | (with_reducible refine Kd.C_drew ?_))); (case side2 => rw [show t808.length = t792.length from (Kd.R_reads' HO_797002.out).1.symm]; exact (Kd.R_reads' HO_797002.out).2.1); rintro e w100 ⟨rfl, hb⟩; refine ⟨_, rfl, ?_⟩; have n0_ := Aside0.mk (Kd.R_below (by (with_reducible repeat (first | apply Kd.R_alloc | apply Kd.R_drewN | apply Kd.R_drew)); exact HO_784002.out) hb); have n1_ := Aside0.mk (Kd.R_below (by (with_reducible repeat (first | apply Kd.R_alloc | apply Kd.R_drewN | apply Kd.R_drew)); exact HO_790002.out) hb); have n2_ := Aside0.mk (Kd.R_below (by (with_reducible repeat (first | apply Kd.R_alloc | apply Kd.R_drewN | apply Kd.R_drew)); exact HO_797002.out) hb); have n3_ := Aside0.mk (blk_below (g := gb770) (o := .cells #[.int .i64 a0_0, .int .i64 a0_1, .slice A0_2 l0_2.length c0_2] 32 (0, 0)) (by (with_reducible repeat (first | refine blk_drewN ?_ _ | refine blk_drew ?_ | refine blk_alloc ?_ _)); exact BK770.out) hb); have n4_ := Aside0.mk (blk_below (g := gb783) (o := .cells #[.int .i64 t777, .int .i64 t778, .slice Ao23 t779.length co23] 25 (0, 0)) (by (with_reducible repeat (first | refine blk_drewN ?_ _ | refine blk_drew ?_ | refine blk_alloc ?_ _)); exact BK783.out) hb); have n5_ := Aside0.mk (blk_below (g := gb789) (o := .cells #[.int .i64 t784, .int .i64 t785, .slice Ao30 t805.length co30] 25 (0, 0)) (by (with_reducible repeat (first | refine blk_drewN ?_ _ | refine blk_drew ?_ | refine blk_alloc ?_ _)); exact BK789.out) hb); have n6_ := Aside0.mk (blk_below (g := gb796) (o := .cells #[.int .i64 t790, .int .i64 t791, .slice Ao37 t792.length co37] 25 (0, 0)) (by (with_reducible repeat (first | refine blk_drewN ?_ _ | refine blk_drew ?_ | refine blk_alloc ?_ _)); exact BK796.out) hb); have n7_ := Aside0.mk (below_step (by repeat (first | (with_reducible first | exact HB.out | apply below_alloc | apply pw_below_drewN | apply below_drew1 | refine below_set ?_ GE770.out | refine below_set ?_ GE783.out | refine below_set ?_ GE789.out | refine below_set ?_ GE796.out) | exact HB.out)) hb); clear HO_784002; clear HO_790002; clear HO_797002; clear BK770; clear BK783; clear BK789; clear BK796; clear HB; have HO_784002 := n0_; have HO_790002 := n1_; have HO_797002 := n2_; have BK770 := n3_; have BK783 := n4_; have BK789 := n5_; have BK796 := n6_; have HB := n7_; clear n0_ n1_ n2_ n3_ n4_ n5_ n6_ n7_; (try clear hb); (try clear hb2); (try clear hk); (try clear hi)))
          go_ret
          exact ⟨by first | rfl | (simp [errW_none, errW_some] <;> rfl) | (simp [*, errW_none, errW_some] <;> rfl), by repeat (first | (with_reducible first | exact HB.out | apply below_alloc | apply pw_below_drewN | apply below_drew1 | refine below_set ?_ GE770.out | refine below_set ?_ GE783.out | refine below_set ?_ GE789.out | refine below_set ?_ GE796.out) | exact HB.out)⟩
         ·rw [if_neg c93] at H
          have c93b0 : decide (t809 < 0) = false := decide_eq_false c93
          clear c93
          by_cases c101 : t809 = t807
          ·rw [if_pos c101] at H
           have c101b0 : (t809 == t807) = true := beq_iff_eq.mpr c101
           have c101b1 : (t809 != t807) = false := bne_eq_false_iff_eq.mpr c101
           clear c101
           replace H := Option.bind_eq_some_iff.mp H
           obtain ⟨⟨t810, t811, t812⟩, A1020, H⟩ := H
           replace H : ((impl_CutLink.f kj60 t810 t811 t812 a1).bind fun bt815 => ((laws_eqRing.f kj60 bt815.1 bt815.2.1 bt815.2.2.1 t777 t778 t779).bind fun t822 => (if t822 = true then (laws_FnExactCutLink.j2 kj60 t807 (bt815.2.2.2 != t782) t790 t791 t808) else (laws_FnExactCutLink.j2 kj60 t807 true t790 t791 t808)))) = some r := H
           have A102 := Aside0.mk A1020
           clear A1020
           replace H := Option.bind_eq_some_iff.mp H
           obtain ⟨⟨t815, t816, t817, t820⟩, A1030, H⟩ := H
           replace H : ((laws_eqRing.f kj60 t815 t816 t817 t777 t778 t779).bind fun t822 => (if t822 = true then (laws_FnExactCutLink.j2 kj60 t807 (t820 != t782) t790 t791 t808) else (laws_FnExactCutLink.j2 kj60 t807 true t790 t791 t808))) = some r := H
           have A103 := Aside0.mk A1030
           clear A1030
           have HC104 := Aside0.mk H
           clear H
           have hnb105 := NB796_770.out
           have hnc105 := NB770_796.out
           have hnb106 := NB796_783.out
           have hnc106 := NB783_796.out
           have hnb107 := NB796_789.out
           have hnc107 := NB789_796.out
           have hcz108_0 : wc.cell? ⟨gb796, 0, none⟩ = some (.int .i64 t790) := (blk_cell BK796.out 0).trans rfl
           have hcz108_1 : wc.cell? ⟨gb796, 1, none⟩ = some (.int .i64 t791) := (blk_cell BK796.out 1).trans rfl
           have hcz108_2 : wc.cell? ⟨gb796, 2, none⟩ = some (.slice Ao37 t792.length co37) := (blk_cell BK796.out 2).trans rfl
           have hfz108_0 := blk_frozen BK796.out 0
           have hfz108_1 := blk_frozen BK796.out 1
           have hfz108_2 := blk_frozen BK796.out 2
           go_upto_region 25 with (first | ((with_reducible refine gate_callee (f := 25) rfl ?_); refine goesL_ (some 68) rfl rfl Try.func25 (by kernel_rfl) rfl #[.agg #[.int .i64 t790, .int .i64 t791, .slice Ao37 t792.length co37], .int .i64 1] rfl (by (try simp only [List.map_toArray, List.map_cons, List.map_nil]); first | done | rfl | (simp only [List.length_drop, List.length_take]; rfl)) ?_; (with_reducible refine (laws_markRing.calls kj60 t790 t791 (fun k_ => some k_ = (.slice Ao37 t792.length co37 : Value).ownBlock) (.slice Ao37 t792.length co37) t792 1 t807 t808 w _ ?side1 ?side2 A91.out).mono ?_); (case side1 => repeat (first | (with_reducible first | exact HB.out | apply below_alloc | apply pw_below_drewN | apply below_drew1 | refine below_set ?_ GE770.out | refine below_set ?_ GE783.out | refine below_set ?_ GE789.out | refine below_set ?_ GE796.out) | exact HB.out)); (case side2 => exact Kd.R_tight rfl HO_797002.out); rintro e w109 ⟨rfl, hy0, hb, hkp⟩; refine ⟨_, rfl, ?_⟩; have n0_ := Aside0.mk (Kd.R_mono (ok' := fun k_ => some k_ ≠ (.slice Ao30 t805.length co30 : Value).ownBlock ∧ some k_ ≠ (.slice Ao37 t792.length co37 : Value).ownBlock) (Kd.R_keptB (HO_784002.out) hkp (fun k_ hk_ hs_ => (hk_.2) hs_)) (fun k_ hk_ => ⟨hk_.1.1, hk_.1.2⟩)); have n1_ := Aside0.mk (Kd.R_mono (ok' := fun k_ => some k_ ≠ (.slice Ao23 t779.length co23 : Value).ownBlock ∧ some k_ ≠ (.slice Ao37 t792.length co37 : Value).ownBlock) (Kd.R_keptB (HO_790002.out) hkp (fun k_ hk_ hs_ => (hk_.2) hs_)) (fun k_ hk_ => ⟨hk_.1.1, hk_.1.2⟩)); have n2_ := Aside0.mk (Kd.R_reok rfl hy0 (fun k_ e_ => HO_797002.out.1 k_ e_)); have n3_ := Aside0.mk (blk_kept (by (with_reducible repeat (first | refine blk_drewN ?_ _ | refine blk_drew ?_ | refine blk_alloc ?_ _)); exact BK770.out) hkp (fun hs_ => (fun e_ => (Kd.R_ne HO_797002.out BK770.out (by decide)) e_) hs_)); have n4_ := Aside0.mk (blk_kept (by (with_reducible repeat (first | refine blk_drewN ?_ _ | refine blk_drew ?_ | refine blk_alloc ?_ _)); exact BK783.out) hkp (fun hs_ => (fun e_ => (Kd.R_ne HO_797002.out BK783.out (by decide)) e_) hs_)); have n5_ := Aside0.mk (blk_kept (by (with_reducible repeat (first | refine blk_drewN ?_ _ | refine blk_drew ?_ | refine blk_alloc ?_ _)); exact BK789.out) hkp (fun hs_ => (fun e_ => (Kd.R_ne HO_797002.out BK789.out (by decide)) e_) hs_)); have n6_ := Aside0.mk (blk_kept (by (with_reducible repeat (first | refine blk_drewN ?_ _ | refine blk_drew ?_ | refine blk_alloc ?_ _)); exact BK796.out) hkp (fun hs_ => (fun e_ => (Kd.R_ne HO_797002.out BK796.out (by decide)) e_) hs_)); have n7_ := Aside0.mk (hb); clear HO_784002; clear HO_790002; clear HO_797002; clear BK770; clear BK783; clear BK789; clear BK796; clear HB; have HO_784002 := n0_; have HO_790002 := n1_; have HO_797002 := n2_; have BK770 := n3_; have BK783 := n4_; have BK789 := n5_; have BK796 := n6_; have HB := n7_; clear n0_ n1_ n2_ n3_ n4_ n5_ n6_ n7_; (try clear hb); (try clear hkp); (try clear hy0); have hcz110_0 : w109.cell? ⟨gb796, 0, none⟩ = some (.int .i64 t790) := (blk_cell BK796.out 0).trans rfl; have hcz110_1 : w109.cell? ⟨gb796, 1, none⟩ = some (.int .i64 t791) := (blk_cell BK796.out 1).trans rfl; have hcz110_2 : w109.cell? ⟨gb796, 2, none⟩ = some (.slice Ao37 t792.length co37) := (blk_cell BK796.out 2).trans rfl; have hfz110_0 := blk_frozen BK796.out 0; have hfz110_1 := blk_frozen BK796.out 1; have hfz110_2 := blk_frozen BK796.out 2) | ((with_reducible refine gate_callee (f := 26) rfl ?_); refine goesL_ (some 71) rfl rfl Try.func26 (by kernel_rfl) rfl #[.agg #[.int .i64 t790, .int .i64 t791, .slice Ao37 t808.length co37], .int .i64 1] rfl (by (try simp only [List.map_toArray, List.map_cons, List.map_nil]); first | done | (rw [show t808.length = t792.length from (Kd.R_reads' HO_797002.out).1.symm] <;> rfl) | rfl | (simp only [List.length_drop, List.length_take]; rfl)) ?_; (with_reducible refine (laws_heldRing.calls kj60 t790 t791 _ _ t808 1 t809 _ ?side1 ?side2 A92.out).mono ?_); (case side1 => repeat (first | exact (Kd.R_reads' HO_797002.out).2.2 | (with_reducible refine Kd.C_alloc ?_ _) | (with_reducible refine Kd.C_drewN ?_ _) | (with_reducible refine Kd.C_drew ?_))); (case side2 => rw [show t808.length = t792.length from (Kd.R_reads' HO_797002.out).1.symm]; exact (Kd.R_reads' HO_797002.out).2.1); rintro e w111 ⟨rfl, hb⟩; refine ⟨_, rfl, ?_⟩; have n0_ := Aside0.mk (Kd.R_below (by (with_reducible repeat (first | apply Kd.R_alloc | apply Kd.R_drewN | apply Kd.R_drew)); exact HO_784002.out) hb); have n1_ := Aside0.mk (Kd.R_below (by (with_reducible repeat (first | apply Kd.R_alloc | apply Kd.R_drewN | apply Kd.R_drew)); exact HO_790002.out) hb); have n2_ := Aside0.mk (Kd.R_below (by (with_reducible repeat (first | apply Kd.R_alloc | apply Kd.R_drewN | apply Kd.R_drew)); exact HO_797002.out) hb); have n3_ := Aside0.mk (blk_below (g := gb770) (o := .cells #[.int .i64 a0_0, .int .i64 a0_1, .slice A0_2 l0_2.length c0_2] 32 (0, 0)) (by (with_reducible repeat (first | refine blk_drewN ?_ _ | refine blk_drew ?_ | refine blk_alloc ?_ _)); exact BK770.out) hb); have n4_ := Aside0.mk (blk_below (g := gb783) (o := .cells #[.int .i64 t777, .int .i64 t778, .slice Ao23 t779.length co23] 25 (0, 0)) (by (with_reducible repeat (first | refine blk_drewN ?_ _ | refine blk_drew ?_ | refine blk_alloc ?_ _)); exact BK783.out) hb); have n5_ := Aside0.mk (blk_below (g := gb789) (o := .cells #[.int .i64 t784, .int .i64 t785, .slice Ao30 t805.length co30] 25 (0, 0)) (by (with_reducible repeat (first | refine blk_drewN ?_ _ | refine blk_drew ?_ | refine blk_alloc ?_ _)); exact BK789.out) hb); have n6_ := Aside0.mk (blk_below (g := gb796) (o := .cells #[.int .i64 t790, .int .i64 t791, .slice Ao37 t792.length co37] 25 (0, 0)) (by (with_reducible repeat (first | refine blk_drewN ?_ _ | refine blk_drew ?_ | refine blk_alloc ?_ _)); exact BK796.out) hb); have n7_ := Aside0.mk (below_step (by repeat (first | (with_reducible first | exact HB.out | apply below_alloc | apply pw_below_drewN | apply below_drew1 | refine below_set ?_ GE770.out | refine below_set ?_ GE783.out | refine below_set ?_ GE789.out | refine below_set ?_ GE796.out) | exact HB.out)) hb); clear HO_784002; clear HO_790002; clear HO_797002; clear BK770; clear BK783; clear BK789; clear BK796; clear HB; have HO_784002 := n0_; have HO_790002 := n1_; have HO_797002 := n2_; have BK770 := n3_; have BK783 := n4_; have BK789 := n5_; have BK796 := n6_; have HB := n7_; clear n0_ n1_ n2_ n3_ n4_ n5_ n6_ n7_; (try clear hb); (try clear hb2); (try clear hk); (try clear hi); have hnb112 := NB770_783.out; have hnc112 := NB783_770.out; have hnb113 := NB770_789.out; have hnc113 := NB789_770.out; have hcz114_0 : w111.cell? ⟨gb770, 0, none⟩ = some (.int .i64 a0_0) := (blk_cell BK770.out 0).trans rfl; have hcz114_1 : w111.cell? ⟨gb770, 1, none⟩ = some (.int .i64 a0_1) := (blk_cell BK770.out 1).trans rfl; have hcz114_2 : w111.cell? ⟨gb770, 2, none⟩ = some (.slice A0_2 l0_2.length c0_2) := (blk_cell BK770.out 2).trans rfl; have hfz114_0 := blk_frozen BK770.out 0; have hfz114_1 := blk_frozen BK770.out 1; have hfz114_2 := blk_frozen BK770.out 2) | ((with_reducible refine gate_callee (f := 22) rfl ?_); refine goesL_ (some 79) rfl rfl Try.func22 (by kernel_rfl) rfl #[.agg #[.int .i64 a0_0, .int .i64 a0_1, .slice A0_2 l0_2.length c0_2]] rfl (by (try simp only [List.map_toArray, List.map_cons, List.map_nil]); first | done | rfl | (simp only [List.length_drop, List.length_take]; rfl)) ?_; (with_reducible refine (laws_toRing.calls kj60 a0_0 a0_1 _ _ l0_2 t810 t811 t812 _ ?side1 ?side2 A102.out).mono ?_); (case side1 => repeat (first | exact (Kd.C_below HR0_2.out HB.out) | (with_reducible refine Kd.C_alloc ?_ _) | (with_reducible refine Kd.C_drewN ?_ _) | (with_reducible refine Kd.C_drew ?_))); (case side2 => exact HC0_2.out); rintro e w115 ⟨v813, rfl, ho0, hb⟩; refine ⟨_, rfl, ?_⟩; have n0_ := Aside0.mk (Kd.R_elder' (by (with_reducible repeat (first | apply Kd.R_alloc | apply Kd.R_drewN | apply Kd.R_drew)); exact HO_784002.out) (Kd.R_base ho0) hb); have n1_ := Aside0.mk (Kd.R_elder' (by (with_reducible repeat (first | apply Kd.R_alloc | apply Kd.R_drewN | apply Kd.R_drew)); exact HO_790002.out) (Kd.R_base ho0) hb); have n2_ := Aside0.mk (Kd.R_elder' (by (with_reducible repeat (first | apply Kd.R_alloc | apply Kd.R_drewN | apply Kd.R_drew)); exact HO_797002.out) (Kd.R_base ho0) hb); have n3_ := Aside0.mk (Kd.R_lower (Kd.R_new' (Kd.R_new' (Kd.R_new' ho0 (Kd.R_lt (by (with_reducible repeat (first | apply Kd.R_alloc | apply Kd.R_drewN | apply Kd.R_drew)); exact HO_784002.out))) (Kd.R_lt (by (with_reducible repeat (first | apply Kd.R_alloc | apply Kd.R_drewN | apply Kd.R_drew)); exact HO_790002.out))) (Kd.R_lt (by (with_reducible repeat (first | apply Kd.R_alloc | apply Kd.R_drewN | apply Kd.R_drew)); exact HO_797002.out))) (below_size (by repeat (first | (with_reducible first | exact HB.out | apply below_alloc | apply pw_below_drewN | apply below_drew1 | refine below_set ?_ GE770.out | refine below_set ?_ GE783.out | refine below_set ?_ GE789.out | refine below_set ?_ GE796.out) | exact HB.out)))); have n4_ := Aside0.mk (blk_below (g := gb770) (o := .cells #[.int .i64 a0_0, .int .i64 a0_1, .slice A0_2 l0_2.length c0_2] 32 (0, 0)) (by (with_reducible repeat (first | refine blk_drewN ?_ _ | refine blk_drew ?_ | refine blk_alloc ?_ _)); exact BK770.out) hb); have n5_ := Aside0.mk (blk_below (g := gb783) (o := .cells #[.int .i64 t777, .int .i64 t778, .slice Ao23 t779.length co23] 25 (0, 0)) (by (with_reducible repeat (first | refine blk_drewN ?_ _ | refine blk_drew ?_ | refine blk_alloc ?_ _)); exact BK783.out) hb); have n6_ := Aside0.mk (blk_below (g := gb789) (o := .cells #[.int .i64 t784, .int .i64 t785, .slice Ao30 t805.length co30] 25 (0, 0)) (by (with_reducible repeat (first | refine blk_drewN ?_ _ | refine blk_drew ?_ | refine blk_alloc ?_ _)); exact BK789.out) hb); have n7_ := Aside0.mk (blk_below (g := gb796) (o := .cells #[.int .i64 t790, .int .i64 t791, .slice Ao37 t792.length co37] 25 (0, 0)) (by (with_reducible repeat (first | refine blk_drewN ?_ _ | refine blk_drew ?_ | refine blk_alloc ?_ _)); exact BK796.out) hb); have n8_ := Aside0.mk (below_step (by repeat (first | (with_reducible first | exact HB.out | apply below_alloc | apply pw_below_drewN | apply below_drew1 | refine below_set ?_ GE770.out | refine below_set ?_ GE783.out | refine below_set ?_ GE789.out | refine below_set ?_ GE796.out) | exact HB.out)) hb); clear HO_784002; clear HO_790002; clear HO_797002; clear BK770; clear BK783; clear BK789; clear BK796; clear HB; have HO_784002 := n0_; have HO_790002 := n1_; have HO_797002 := n2_; have HO814 := n3_; have BK770 := n4_; have BK783 := n5_; have BK789 := n6_; have BK796 := n7_; have HB := n8_; clear n0_ n1_ n2_ n3_ n4_ n5_ n6_ n7_ n8_; (try clear hb); (try clear hb2); (try clear hk); (try clear hi); (try clear ho0); obtain ⟨Ao116, co116, eo116⟩ := Kd.R_slice HO814.out; subst eo116) | ((with_reducible refine gate_callee (f := 38) rfl ?_); refine goesL_ (some 81) rfl rfl Try.func38 (by kernel_rfl) rfl #[.agg #[.int .i64 t810, .int .i64 t811, .slice Ao116 t812.length co116], .int .i64 a1] rfl (by (try simp only [List.map_toArray, List.map_cons, List.map_nil]); first | done | rfl | (simp only [List.length_drop, List.length_take]; rfl)) ?_; (with_reducible refine (impl_CutLink.calls kj60 t810 t811 _ _ t812 a1 t815 t816 t817 t820 _ ?side1 ?side2 A103.out).mono ?_); (case side1 => repeat (first | exact (Kd.R_reads' HO814.out).2.2 | (with_reducible refine Kd.C_alloc ?_ _) | (with_reducible refine Kd.C_drewN ?_ _) | (with_reducible refine Kd.C_drew ?_))); (case side2 => exact (Kd.R_reads' HO814.out).2.1); rintro e w117 ⟨v818, rfl, ho0, hb⟩; refine ⟨_, rfl, ?_⟩; have n0_ := Aside0.mk (Kd.R_elder' (by (with_reducible repeat (first | apply Kd.R_alloc | apply Kd.R_drewN | apply Kd.R_drew)); exact HO_784002.out) (Kd.R_base ho0) hb); have n1_ := Aside0.mk (Kd.R_elder' (by (with_reducible repeat (first | apply Kd.R_alloc | apply Kd.R_drewN | apply Kd.R_drew)); exact HO_790002.out) (Kd.R_base ho0) hb); have n2_ := Aside0.mk (Kd.R_elder' (by (with_reducible repeat (first | apply Kd.R_alloc | apply Kd.R_drewN | apply Kd.R_drew)); exact HO_797002.out) (Kd.R_base ho0) hb); have n3_ := Aside0.mk (Kd.R_elder' (by (with_reducible repeat (first | apply Kd.R_alloc | apply Kd.R_drewN | apply Kd.R_drew)); exact HO814.out) (Kd.R_base ho0) hb); have n4_ := Aside0.mk (Kd.R_lower (Kd.R_new' (Kd.R_new' (Kd.R_new' (Kd.R_new' ho0 (Kd.R_lt (by (with_reducible repeat (first | apply Kd.R_alloc | apply Kd.R_drewN | apply Kd.R_drew)); exact HO_784002.out))) (Kd.R_lt (by (with_reducible repeat (first | apply Kd.R_alloc | apply Kd.R_drewN | apply Kd.R_drew)); exact HO_790002.out))) (Kd.R_lt (by (with_reducible repeat (first | apply Kd.R_alloc | apply Kd.R_drewN | apply Kd.R_drew)); exact HO_797002.out))) (Kd.R_lt (by (with_reducible repeat (first | apply Kd.R_alloc | apply Kd.R_drewN | apply Kd.R_drew)); exact HO814.out))) (below_size (by repeat (first | (with_reducible first | exact HB.out | apply below_alloc | apply pw_below_drewN | apply below_drew1 | refine below_set ?_ GE770.out | refine below_set ?_ GE783.out | refine below_set ?_ GE789.out | refine below_set ?_ GE796.out) | exact HB.out)))); have n5_ := Aside0.mk (blk_below (g := gb770) (o := .cells #[.int .i64 a0_0, .int .i64 a0_1, .slice A0_2 l0_2.length c0_2] 32 (0, 0)) (by (with_reducible repeat (first | refine blk_drewN ?_ _ | refine blk_drew ?_ | refine blk_alloc ?_ _)); exact BK770.out) hb); have n6_ := Aside0.mk (blk_below (g := gb783) (o := .cells #[.int .i64 t777, .int .i64 t778, .slice Ao23 t779.length co23] 25 (0, 0)) (by (with_reducible repeat (first | refine blk_drewN ?_ _ | refine blk_drew ?_ | refine blk_alloc ?_ _)); exact BK783.out) hb); have n7_ := Aside0.mk (blk_below (g := gb789) (o := .cells #[.int .i64 t784, .int .i64 t785, .slice Ao30 t805.length co30] 25 (0, 0)) (by (with_reducible repeat (first | refine blk_drewN ?_ _ | refine blk_drew ?_ | refine blk_alloc ?_ _)); exact BK789.out) hb); have n8_ := Aside0.mk (blk_below (g := gb796) (o := .cells #[.int .i64 t790, .int .i64 t791, .slice Ao37 t792.length co37] 25 (0, 0)) (by (with_reducible repeat (first | refine blk_drewN ?_ _ | refine blk_drew ?_ | refine blk_alloc ?_ _)); exact BK796.out) hb); have n9_ := Aside0.mk (below_step (by repeat (first | (with_reducible first | exact HB.out | apply below_alloc | apply pw_below_drewN | apply below_drew1 | refine below_set ?_ GE770.out | refine below_set ?_ GE783.out | refine below_set ?_ GE789.out | refine below_set ?_ GE796.out) | exact HB.out)) hb); clear HO_784002; clear HO_790002; clear HO_797002; clear HO814; clear BK770; clear BK783; clear BK789; clear BK796; clear HB; have HO_784002 := n0_; have HO_790002 := n1_; have HO_797002 := n2_; have HO814 := n3_; have HO819 := n4_; have BK770 := n5_; have BK783 := n6_; have BK789 := n7_; have BK796 := n8_; have HB := n9_; clear n0_ n1_ n2_ n3_ n4_ n5_ n6_ n7_ n8_ n9_; (try clear hb); (try clear hb2); (try clear hk); (try clear hi); (try clear ho0)) | ((with_reducible refine gate_dst (N := 14) rfl ?_); refine box_event ?hg (N := 14) ?hd (cs := #[.int .i64 0, .int .i64 0, .slice none 0 0]) (t := 25) ?hr ?_; (case hd => rfl); (case hg => rfl); (case hr => first | (go_simp; done) | (go_simp; rfl)); intro gb821 hg w118 hbox hb; have n0_ := Aside0.mk (Kd.R_below (by (with_reducible repeat (first | apply Kd.R_alloc | apply Kd.R_drewN | apply Kd.R_drew)); exact HO_784002.out) hb); have n1_ := Aside0.mk (Kd.R_below (by (with_reducible repeat (first | apply Kd.R_alloc | apply Kd.R_drewN | apply Kd.R_drew)); exact HO_790002.out) hb); have n2_ := Aside0.mk (Kd.R_below (by (with_reducible repeat (first | apply Kd.R_alloc | apply Kd.R_drewN | apply Kd.R_drew)); exact HO_797002.out) hb); have n3_ := Aside0.mk (Kd.R_below (by (with_reducible repeat (first | apply Kd.R_alloc | apply Kd.R_drewN | apply Kd.R_drew)); exact HO814.out) hb); have n4_ := Aside0.mk (Kd.R_below (by (with_reducible repeat (first | apply Kd.R_alloc | apply Kd.R_drewN | apply Kd.R_drew)); exact HO819.out) hb); have n5_ := Aside0.mk (blk_below (g := gb770) (o := .cells #[.int .i64 a0_0, .int .i64 a0_1, .slice A0_2 l0_2.length c0_2] 32 (0, 0)) (by (with_reducible repeat (first | refine blk_drewN ?_ _ | refine blk_drew ?_ | refine blk_alloc ?_ _)); exact BK770.out) hb); have n6_ := Aside0.mk (blk_below (g := gb783) (o := .cells #[.int .i64 t777, .int .i64 t778, .slice Ao23 t779.length co23] 25 (0, 0)) (by (with_reducible repeat (first | refine blk_drewN ?_ _ | refine blk_drew ?_ | refine blk_alloc ?_ _)); exact BK783.out) hb); have n7_ := Aside0.mk (blk_below (g := gb789) (o := .cells #[.int .i64 t784, .int .i64 t785, .slice Ao30 t805.length co30] 25 (0, 0)) (by (with_reducible repeat (first | refine blk_drewN ?_ _ | refine blk_drew ?_ | refine blk_alloc ?_ _)); exact BK789.out) hb); have n8_ := Aside0.mk (blk_below (g := gb796) (o := .cells #[.int .i64 t790, .int .i64 t791, .slice Ao37 t792.length co37] 25 (0, 0)) (by (with_reducible repeat (first | refine blk_drewN ?_ _ | refine blk_drew ?_ | refine blk_alloc ?_ _)); exact BK796.out) hb); have n9_ := Aside0.mk (below_step (by repeat (first | (with_reducible first | exact HB.out | apply below_alloc | apply pw_below_drewN | apply below_drew1 | refine below_set ?_ GE770.out | refine below_set ?_ GE783.out | refine below_set ?_ GE789.out | refine below_set ?_ GE796.out) | exact HB.out)) hb); have n10_ := Aside0.mk (hbox); have n11_ := Aside0.mk ((by rw [hg]; exact (below_size (by repeat (first | (with_reducible first | exact HB.out | apply below_alloc | apply pw_below_drewN | apply below_drew1 | refine below_set ?_ GE770.out | refine below_set ?_ GE783.out | refine below_set ?_ GE789.out | refine below_set ?_ GE796.out) | exact HB.out))) : w.heap.size ≤ gb821)); have n12_ := Aside0.mk ((by rw [hg]; exact (below_size (by repeat (first | (with_reducible first | exact HB.out | apply below_alloc | apply pw_below_drewN | apply below_drew1 | refine below_set ?_ GE770.out | refine below_set ?_ GE783.out | refine below_set ?_ GE789.out | refine below_set ?_ GE796.out) | exact HB.out))) : w.heap.size ≤ gb821)); have n13_ := Aside0.mk ((by rw [hg]; exact Nat.ne_of_lt (blk_lt (g := gb770) (o := .cells #[.int .i64 a0_0, .int .i64 a0_1, .slice A0_2 l0_2.length c0_2] 32 (0, 0)) (by (with_reducible repeat (first | refine blk_drewN ?_ _ | refine blk_drew ?_ | refine blk_alloc ?_ _)); exact BK770.out)) : gb770 ≠ gb821)); have n14_ := Aside0.mk ((by rw [hg]; exact Nat.ne_of_gt (blk_lt (g := gb770) (o := .cells #[.int .i64 a0_0, .int .i64 a0_1, .slice A0_2 l0_2.length c0_2] 32 (0, 0)) (by (with_reducible repeat (first | refine blk_drewN ?_ _ | refine blk_drew ?_ | refine blk_alloc ?_ _)); exact BK770.out)) : gb821 ≠ gb770)); have n15_ := Aside0.mk ((by rw [hg]; exact Nat.ne_of_lt (blk_lt (g := gb783) (o := .cells #[.int .i64 t777, .int .i64 t778, .slice Ao23 t779.length co23] 25 (0, 0)) (by (with_reducible repeat (first | refine blk_drewN ?_ _ | refine blk_drew ?_ | refine blk_alloc ?_ _)); exact BK783.out)) : gb783 ≠ gb821)); have n16_ := Aside0.mk ((by rw [hg]; exact Nat.ne_of_gt (blk_lt (g := gb783) (o := .cells #[.int .i64 t777, .int .i64 t778, .slice Ao23 t779.length co23] 25 (0, 0)) (by (with_reducible repeat (first | refine blk_drewN ?_ _ | refine blk_drew ?_ | refine blk_alloc ?_ _)); exact BK783.out)) : gb821 ≠ gb783)); have n17_ := Aside0.mk ((by rw [hg]; exact Nat.ne_of_lt (blk_lt (g := gb789) (o := .cells #[.int .i64 t784, .int .i64 t785, .slice Ao30 t805.length co30] 25 (0, 0)) (by (with_reducible repeat (first | refine blk_drewN ?_ _ | refine blk_drew ?_ | refine blk_alloc ?_ _)); exact BK789.out)) : gb789 ≠ gb821)); have n18_ := Aside0.mk ((by rw [hg]; exact Nat.ne_of_gt (blk_lt (g := gb789) (o := .cells #[.int .i64 t784, .int .i64 t785, .slice Ao30 t805.length co30] 25 (0, 0)) (by (with_reducible repeat (first | refine blk_drewN ?_ _ | refine blk_drew ?_ | refine blk_alloc ?_ _)); exact BK789.out)) : gb821 ≠ gb789)); have n19_ := Aside0.mk ((by rw [hg]; exact Nat.ne_of_lt (blk_lt (g := gb796) (o := .cells #[.int .i64 t790, .int .i64 t791, .slice Ao37 t792.length co37] 25 (0, 0)) (by (with_reducible repeat (first | refine blk_drewN ?_ _ | refine blk_drew ?_ | refine blk_alloc ?_ _)); exact BK796.out)) : gb796 ≠ gb821)); have n20_ := Aside0.mk ((by rw [hg]; exact Nat.ne_of_gt (blk_lt (g := gb796) (o := .cells #[.int .i64 t790, .int .i64 t791, .slice Ao37 t792.length co37] 25 (0, 0)) (by (with_reducible repeat (first | refine blk_drewN ?_ _ | refine blk_drew ?_ | refine blk_alloc ?_ _)); exact BK796.out)) : gb821 ≠ gb796)); clear HO_784002; clear HO_790002; clear HO_797002; clear HO814; clear HO819; clear BK770; clear BK783; clear BK789; clear BK796; clear HB; have HO_784002 := n0_; have HO_790002 := n1_; have HO_797002 := n2_; have HO814 := n3_; have HO819 := n4_; have BK770 := n5_; have BK783 := n6_; have BK789 := n7_; have BK796 := n8_; have HB := n9_; have BK821 := n10_; have GW821 := n11_; have GE821 := n12_; have NB770_821 := n13_; have NB821_770 := n14_; have NB783_821 := n15_; have NB821_783 := n16_; have NB789_821 := n17_; have NB821_789 := n18_; have NB796_821 := n19_; have NB821_796 := n20_; clear n0_ n1_ n2_ n3_ n4_ n5_ n6_ n7_ n8_ n9_ n10_ n11_ n12_ n13_ n14_ n15_ n16_ n17_ n18_ n19_ n20_; clear hb hbox hg; have hnb119 := NB821_770.out; have hnc119 := NB770_821.out; have hnb120 := NB821_783.out; have hnc120 := NB783_821.out; have hnb121 := NB821_789.out; have hnc121 := NB789_821.out; have hnb122 := NB821_796.out; have hnc122 := NB796_821.out; have hcz123_0 : w118.cell? ⟨gb821, 0, none⟩ = some (.int .i64 0) := (blk_cell BK821.out 0).trans rfl; have hcz123_1 : w118.cell? ⟨gb821, 1, none⟩ = some (.int .i64 0) := (blk_cell BK821.out 1).trans rfl; have hcz123_2 : w118.cell? ⟨gb821, 2, none⟩ = some (.slice none 0 0) := (blk_cell BK821.out 2).trans rfl; have hfz123_0 := blk_frozen BK821.out 0; have hfz123_1 := blk_frozen BK821.out 1; have hfz123_2 := blk_frozen BK821.out 2; obtain ⟨Ao124, co124, eo124⟩ := Kd.R_slice HO819.out; subst eo124))
           (try simp only [Act.put, List.setIfInBounds_toArray, List.set_cons_zero, List.set_cons_succ])
           go_cut [92] (fun v92 wc => ∃ (kq : Nat) (x92_103 : Bool), v92 = .bool x92_103 ∧ Aside0 (laws_FnExactCutLink.j2 kq t807 x92_103 t790 t791 t808 = some r) ∧ Aside0 (kq ≤ kj60) ∧ Aside0 (Kd.R (Kd.int .i64) 3 wc w.heap.size (fun k_ => some k_ ≠ ((.slice Ao30 t805.length co30) : Value).ownBlock ∧ some k_ ≠ ((.slice Ao37 t792.length co37) : Value).ownBlock ∧ some k_ ≠ ((.slice Ao124 t817.length co124) : Value).ownBlock) (.slice Ao23 t779.length co23) t779) ∧ Aside0 (Kd.R (Kd.int .i64) 3 wc w.heap.size (fun k_ => some k_ ≠ ((.slice Ao23 t779.length co23) : Value).ownBlock ∧ some k_ ≠ ((.slice Ao37 t792.length co37) : Value).ownBlock ∧ some k_ ≠ ((.slice Ao124 t817.length co124) : Value).ownBlock) (.slice Ao30 t805.length co30) t805) ∧ Aside0 (Kd.R (Kd.int .i64) 3 wc w.heap.size (fun k_ => some k_ ≠ ((.slice Ao23 t779.length co23) : Value).ownBlock ∧ some k_ ≠ ((.slice Ao30 t805.length co30) : Value).ownBlock ∧ some k_ ≠ ((.slice Ao124 t817.length co124) : Value).ownBlock) (.slice Ao37 t792.length co37) t808) ∧ Aside0 (Kd.R (Kd.int .i64) 3 wc w.heap.size (fun k_ => some k_ ≠ ((.slice Ao23 t779.length co23) : Value).ownBlock ∧ some k_ ≠ ((.slice Ao30 t805.length co30) : Value).ownBlock ∧ some k_ ≠ ((.slice Ao37 t792.length co37) : Value).ownBlock) (.slice Ao124 t817.length co124) t817) ∧ Aside0 (wc.heap[gb770]? = some (.cells #[.int .i64 a0_0, .int .i64 a0_1, (.slice A0_2 l0_2.length c0_2)] 32 (0, 0))) ∧ Aside0 (wc.heap[gb783]? = some (.cells #[.int .i64 t777, .int .i64 t778, (.slice Ao23 t779.length co23)] 25 (0, 0))) ∧ Aside0 (wc.heap[gb789]? = some (.cells #[.int .i64 t784, .int .i64 t785, (.slice Ao30 t805.length co30)] 25 (0, 0))) ∧ Aside0 (wc.heap[gb796]? = some (.cells #[.int .i64 t790, .int .i64 t791, (.slice Ao37 t792.length co37)] 25 (0, 0))) ∧ Aside0 (wc.heap[gb821]? = some (.cells #[.int .i64 t815, .int .i64 t816, (.slice Ao124 t817.length co124)] 25 (0, 0))) ∧ Aside0 (Below w.heap.size w wc))
           case first =>
            have H := HC104.out
            clear HC104
            replace H := Option.bind_eq_some_iff.mp H
            obtain ⟨t822, A1250, H⟩ := H
            replace H : (if t822 = true then (laws_FnExactCutLink.j2 kj60 t807 (t820 != t782) t790 t791 t808) else (laws_FnExactCutLink.j2 kj60 t807 true t790 t791 t808)) = some r := H
            have A125 := Aside0.mk A1250
            clear A1250
            by_cases c126 : t822 = true
            ·subst c126
             have H1 : (laws_FnExactCutLink.j2 kj60 t807 (t820 != t782) t790 t791 t808) = some r := by rw [if_pos rfl] at H; exact H
             clear H
             have H := H1
             clear H1
             have H' := Aside0.mk H
             clear H
             have hnb127 := NB821_770.out
             have hnc127 := NB770_821.out
             have hnb128 := NB821_783.out
             have hnc128 := NB783_821.out
             have hnb129 := NB821_789.out
             have hnc129 := NB789_821.out
             have hnb130 := NB821_796.out
             have hnc130 := NB796_821.out
             have hcz131_0 : w118.cell? ⟨gb821, 0, none⟩ = some (.int .i64 0) := (blk_cell BK821.out 0).trans rfl
             have hcz131_1 : w118.cell? ⟨gb821, 1, none⟩ = some (.int .i64 0) := (blk_cell BK821.out 1).trans rfl
             have hcz131_2 : w118.cell? ⟨gb821, 2, none⟩ = some (.slice none 0 0) := (blk_cell BK821.out 2).trans rfl
             have hfz131_0 := blk_frozen BK821.out 0
             have hfz131_1 := blk_frozen BK821.out 1
             have hfz131_2 := blk_frozen BK821.out 2
             have hnb132 := NB783_770.out
             have hnc132 := NB770_783.out
             have hnb133 := NB783_789.out
             have hnc133 := NB789_783.out
             have hnb134 := NB783_796.out
             have hnc134 := NB796_783.out
             have hcz135_0 : w118.cell? ⟨gb783, 0, none⟩ = some (.int .i64 t777) := (blk_cell BK783.out 0).trans rfl
             have hcz135_1 : w118.cell? ⟨gb783, 1, none⟩ = some (.int .i64 t778) := (blk_cell BK783.out 1).trans rfl
             have hcz135_2 : w118.cell? ⟨gb783, 2, none⟩ = some (.slice Ao23 t779.length co23) := (blk_cell BK783.out 2).trans rfl
             have hfz135_0 := blk_frozen BK783.out 0
             have hfz135_1 := blk_frozen BK783.out 1
             have hfz135_2 := blk_frozen BK783.out 2
             go_wp2_with (first | ((with_reducible refine gate_callee (f := 24) rfl ?_); refine goesL_ (some 86) rfl rfl Try.func24 (by kernel_rfl) rfl #[.agg #[.int .i64 t815, .int .i64 t816, .slice Ao124 t817.length co124], .agg #[.int .i64 t777, .int .i64 t778, .slice Ao23 t779.length co23]] rfl (by (try simp only [List.map_toArray, List.map_cons, List.map_nil]); first | done | rfl | (simp only [List.length_drop, List.length_take]; rfl)) ?_; (with_reducible refine (laws_eqRing.calls kj60 t815 t816 _ _ t817 t777 t778 _ _ t779 true _ ?side1 ?side2 ?side3 ?side4 A125.out).mono ?_); (case side1 => refine (Kd.R_reads' (e := 3) (base := w.heap.size) (ok := fun k_ => ((((True ∧ some k_ ≠ (.slice Ao23 t779.length co23 : Value).ownBlock) ∧ some k_ ≠ (.slice Ao30 t805.length co30 : Value).ownBlock) ∧ some k_ ≠ (.slice Ao37 t792.length co37 : Value).ownBlock) ∧ some k_ ≠ (.slice Ao116 t812.length co116 : Value).ownBlock)) (n := t817.length) (c := co124) ?_).2.2; exact (by (with_reducible repeat (first | apply Kd.R_alloc | apply Kd.R_drewN | apply Kd.R_drew)); exact (Kd.R_mono (Kd.R_far (p := ⟨gb821, 2, none⟩) (Kd.R_far (p := ⟨gb821, 1, none⟩) (Kd.R_far (p := ⟨gb821, 0, none⟩) (Kd.R_types HO819.out BK821.out (by decide)) (fun _ hk => hk.2) (.int .i64 t815)) (fun _ hk => hk.2) (.int .i64 t816)) (fun _ hk => hk.2) (.slice Ao124 t817.length co124)) (fun _ h_ => h_.1)))); (case side2 => exact (Kd.R_reads' HO819.out).2.1); (case side3 => refine (Kd.R_reads' (e := 3) (base := w.heap.size) (ok := fun k_ => (((some k_ ≠ (.slice Ao30 t805.length co30 : Value).ownBlock ∧ some k_ ≠ (.slice Ao37 t792.length co37 : Value).ownBlock) ∧ some k_ ≠ (.slice Ao116 t812.length co116 : Value).ownBlock) ∧ some k_ ≠ (.slice Ao124 t817.length co124 : Value).ownBlock)) (n := t779.length) (c := co23) ?_).2.2; exact (by (with_reducible repeat (first | apply Kd.R_alloc | apply Kd.R_drewN | apply Kd.R_drew)); exact (Kd.R_mono (Kd.R_far (p := ⟨gb821, 2, none⟩) (Kd.R_far (p := ⟨gb821, 1, none⟩) (Kd.R_far (p := ⟨gb821, 0, none⟩) (Kd.R_types HO_784002.out BK821.out (by decide)) (fun _ hk => hk.2) (.int .i64 t815)) (fun _ hk => hk.2) (.int .i64 t816)) (fun _ hk => hk.2) (.slice Ao124 t817.length co124)) (fun _ h_ => h_.1)))); (case side4 => exact (Kd.R_reads' HO_784002.out).2.1); rintro e w136 ⟨rfl, hb⟩; refine ⟨_, rfl, ?_⟩; have n0_ := Aside0.mk (Kd.R_below (by (with_reducible repeat (first | apply Kd.R_alloc | apply Kd.R_drewN | apply Kd.R_drew)); exact (Kd.R_mono (Kd.R_far (p := ⟨gb821, 2, none⟩) (Kd.R_far (p := ⟨gb821, 1, none⟩) (Kd.R_far (p := ⟨gb821, 0, none⟩) (Kd.R_types HO_784002.out BK821.out (by decide)) (fun _ hk => hk.2) (.int .i64 t815)) (fun _ hk => hk.2) (.int .i64 t816)) (fun _ hk => hk.2) (.slice Ao124 t817.length co124)) (fun _ h_ => h_.1))) hb); have n1_ := Aside0.mk (Kd.R_below (by (with_reducible repeat (first | apply Kd.R_alloc | apply Kd.R_drewN | apply Kd.R_drew)); exact (Kd.R_mono (Kd.R_far (p := ⟨gb821, 2, none⟩) (Kd.R_far (p := ⟨gb821, 1, none⟩) (Kd.R_far (p := ⟨gb821, 0, none⟩) (Kd.R_types HO_790002.out BK821.out (by decide)) (fun _ hk => hk.2) (.int .i64 t815)) (fun _ hk => hk.2) (.int .i64 t816)) (fun _ hk => hk.2) (.slice Ao124 t817.length co124)) (fun _ h_ => h_.1))) hb); have n2_ := Aside0.mk (Kd.R_below (by (with_reducible repeat (first | apply Kd.R_alloc | apply Kd.R_drewN | apply Kd.R_drew)); exact (Kd.R_mono (Kd.R_far (p := ⟨gb821, 2, none⟩) (Kd.R_far (p := ⟨gb821, 1, none⟩) (Kd.R_far (p := ⟨gb821, 0, none⟩) (Kd.R_types HO_797002.out BK821.out (by decide)) (fun _ hk => hk.2) (.int .i64 t815)) (fun _ hk => hk.2) (.int .i64 t816)) (fun _ hk => hk.2) (.slice Ao124 t817.length co124)) (fun _ h_ => h_.1))) hb); have n3_ := Aside0.mk (Kd.R_below (by (with_reducible repeat (first | apply Kd.R_alloc | apply Kd.R_drewN | apply Kd.R_drew)); exact (Kd.R_mono (Kd.R_far (p := ⟨gb821, 2, none⟩) (Kd.R_far (p := ⟨gb821, 1, none⟩) (Kd.R_far (p := ⟨gb821, 0, none⟩) (Kd.R_types HO814.out BK821.out (by decide)) (fun _ hk => hk.2) (.int .i64 t815)) (fun _ hk => hk.2) (.int .i64 t816)) (fun _ hk => hk.2) (.slice Ao124 t817.length co124)) (fun _ h_ => h_.1))) hb); have n4_ := Aside0.mk (Kd.R_below (by (with_reducible repeat (first | apply Kd.R_alloc | apply Kd.R_drewN | apply Kd.R_drew)); exact (Kd.R_mono (Kd.R_far (p := ⟨gb821, 2, none⟩) (Kd.R_far (p := ⟨gb821, 1, none⟩) (Kd.R_far (p := ⟨gb821, 0, none⟩) (Kd.R_types HO819.out BK821.out (by decide)) (fun _ hk => hk.2) (.int .i64 t815)) (fun _ hk => hk.2) (.int .i64 t816)) (fun _ hk => hk.2) (.slice Ao124 t817.length co124)) (fun _ h_ => h_.1))) hb); have n5_ := Aside0.mk (blk_below (g := gb770) (o := .cells #[.int .i64 a0_0, .int .i64 a0_1, .slice A0_2 l0_2.length c0_2] 32 (0, 0)) (by (with_reducible repeat (first | refine blk_drewN ?_ _ | refine blk_drew ?_ | refine blk_alloc ?_ _)); refine blk_far ?_ NB770_821.out _; (with_reducible repeat (first | refine blk_drewN ?_ _ | refine blk_drew ?_ | refine blk_alloc ?_ _)); refine blk_far ?_ NB770_821.out _; (with_reducible repeat (first | refine blk_drewN ?_ _ | refine blk_drew ?_ | refine blk_alloc ?_ _)); refine blk_far ?_ NB770_821.out _; (with_reducible repeat (first | refine blk_drewN ?_ _ | refine blk_drew ?_ | refine blk_alloc ?_ _)); exact BK770.out) hb); have n6_ := Aside0.mk (blk_below (g := gb783) (o := .cells #[.int .i64 t777, .int .i64 t778, .slice Ao23 t779.length co23] 25 (0, 0)) (by (with_reducible repeat (first | refine blk_drewN ?_ _ | refine blk_drew ?_ | refine blk_alloc ?_ _)); refine blk_far ?_ NB783_821.out _; (with_reducible repeat (first | refine blk_drewN ?_ _ | refine blk_drew ?_ | refine blk_alloc ?_ _)); refine blk_far ?_ NB783_821.out _; (with_reducible repeat (first | refine blk_drewN ?_ _ | refine blk_drew ?_ | refine blk_alloc ?_ _)); refine blk_far ?_ NB783_821.out _; (with_reducible repeat (first | refine blk_drewN ?_ _ | refine blk_drew ?_ | refine blk_alloc ?_ _)); exact BK783.out) hb); have n7_ := Aside0.mk (blk_below (g := gb789) (o := .cells #[.int .i64 t784, .int .i64 t785, .slice Ao30 t805.length co30] 25 (0, 0)) (by (with_reducible repeat (first | refine blk_drewN ?_ _ | refine blk_drew ?_ | refine blk_alloc ?_ _)); refine blk_far ?_ NB789_821.out _; (with_reducible repeat (first | refine blk_drewN ?_ _ | refine blk_drew ?_ | refine blk_alloc ?_ _)); refine blk_far ?_ NB789_821.out _; (with_reducible repeat (first | refine blk_drewN ?_ _ | refine blk_drew ?_ | refine blk_alloc ?_ _)); refine blk_far ?_ NB789_821.out _; (with_reducible repeat (first | refine blk_drewN ?_ _ | refine blk_drew ?_ | refine blk_alloc ?_ _)); exact BK789.out) hb); have n8_ := Aside0.mk (blk_below (g := gb796) (o := .cells #[.int .i64 t790, .int .i64 t791, .slice Ao37 t792.length co37] 25 (0, 0)) (by (with_reducible repeat (first | refine blk_drewN ?_ _ | refine blk_drew ?_ | refine blk_alloc ?_ _)); refine blk_far ?_ NB796_821.out _; (with_reducible repeat (first | refine blk_drewN ?_ _ | refine blk_drew ?_ | refine blk_alloc ?_ _)); refine blk_far ?_ NB796_821.out _; (with_reducible repeat (first | refine blk_drewN ?_ _ | refine blk_drew ?_ | refine blk_alloc ?_ _)); refine blk_far ?_ NB796_821.out _; (with_reducible repeat (first | refine blk_drewN ?_ _ | refine blk_drew ?_ | refine blk_alloc ?_ _)); exact BK796.out) hb); have n9_ := Aside0.mk (blk_below (g := gb821) (o := .cells #[.int .i64 t815, .int .i64 t816, .slice Ao124 t817.length co124] 25 (0, 0)) (by (with_reducible repeat (first | refine blk_drewN ?_ _ | refine blk_drew ?_ | refine blk_alloc ?_ _)); refine blk_put (cs := #[.int .i64 t815, .int .i64 t816, .slice none 0 0]) ?_ 2 _ rfl; (with_reducible repeat (first | refine blk_drewN ?_ _ | refine blk_drew ?_ | refine blk_alloc ?_ _)); refine blk_put (cs := #[.int .i64 t815, .int .i64 0, .slice none 0 0]) ?_ 1 _ rfl; (with_reducible repeat (first | refine blk_drewN ?_ _ | refine blk_drew ?_ | refine blk_alloc ?_ _)); refine blk_put (cs := #[.int .i64 0, .int .i64 0, .slice none 0 0]) ?_ 0 _ rfl; (with_reducible repeat (first | refine blk_drewN ?_ _ | refine blk_drew ?_ | refine blk_alloc ?_ _)); exact BK821.out) hb); have n10_ := Aside0.mk (below_step (by repeat (first | (with_reducible first | exact HB.out | apply below_alloc | apply pw_below_drewN | apply below_drew1 | refine below_set ?_ GE770.out | refine below_set ?_ GE783.out | refine below_set ?_ GE789.out | refine below_set ?_ GE796.out | refine below_set ?_ GE821.out) | exact HB.out)) hb); clear HO_784002; clear HO_790002; clear HO_797002; clear HO814; clear HO819; clear BK770; clear BK783; clear BK789; clear BK796; clear BK821; clear HB; have HO_784002 := n0_; have HO_790002 := n1_; have HO_797002 := n2_; have HO814 := n3_; have HO819 := n4_; have BK770 := n5_; have BK783 := n6_; have BK789 := n7_; have BK796 := n8_; have BK821 := n9_; have HB := n10_; clear n0_ n1_ n2_ n3_ n4_ n5_ n6_ n7_ n8_ n9_ n10_; (try clear hb); (try clear hb2); (try clear hk); (try clear hi)))
             go_meet
             case rel => exact ⟨_, ((t820 != t782)), (by first | rfl | (simp; done) | (simp [*]; done)), H', ⟨by have := HJ11.out; have := HJ60.out; first | omega | exact Nat.le_refl _⟩, ⟨by (try simp only [hl790002_60]); (with_reducible repeat (first | apply Kd.R_alloc | apply Kd.R_drewN | apply Kd.R_drew)); exact Kd.R_mono HO_784002.out (fun _ hk => ⟨hk.1.1.1, ⟨hk.1.1.2, hk.2⟩⟩)⟩, ⟨by (try simp only [hl790002_60]); (with_reducible repeat (first | apply Kd.R_alloc | apply Kd.R_drewN | apply Kd.R_drew)); exact Kd.R_mono HO_790002.out (fun _ hk => ⟨hk.1.1.1, ⟨hk.1.1.2, hk.2⟩⟩)⟩, ⟨by (try simp only [hl790002_60]); (with_reducible repeat (first | apply Kd.R_alloc | apply Kd.R_drewN | apply Kd.R_drew)); exact Kd.R_mono HO_797002.out (fun _ hk => ⟨hk.1.1.1, ⟨hk.1.1.2, hk.2⟩⟩)⟩, ⟨by (try simp only [hl790002_60]); (with_reducible repeat (first | apply Kd.R_alloc | apply Kd.R_drewN | apply Kd.R_drew)); exact Kd.R_mono HO819.out (fun _ hk => ⟨hk.1.1.1.2, ⟨hk.1.1.2, hk.1.2⟩⟩)⟩, ⟨by (try simp only [hl790002_60]); (with_reducible repeat (first | refine blk_drewN ?_ _ | refine blk_drew ?_ | refine blk_alloc ?_ _)); exact BK770.out⟩, ⟨by (try simp only [hl790002_60]); (with_reducible repeat (first | refine blk_drewN ?_ _ | refine blk_drew ?_ | refine blk_alloc ?_ _)); exact BK783.out⟩, ⟨by (try simp only [hl790002_60]); (with_reducible repeat (first | refine blk_drewN ?_ _ | refine blk_drew ?_ | refine blk_alloc ?_ _)); exact BK789.out⟩, ⟨by (try simp only [hl790002_60]); (with_reducible repeat (first | refine blk_drewN ?_ _ | refine blk_drew ?_ | refine blk_alloc ?_ _)); exact BK796.out⟩, ⟨by (try simp only [hl790002_60]); (with_reducible repeat (first | refine blk_drewN ?_ _ | refine blk_drew ?_ | refine blk_alloc ?_ _)); exact BK821.out⟩, ⟨by repeat (first | (with_reducible first | exact HB.out | apply below_alloc | apply pw_below_drewN | apply below_drew1 | refine below_set ?_ GE770.out | refine below_set ?_ GE783.out | refine below_set ?_ GE789.out | refine below_set ?_ GE796.out | refine below_set ?_ GE821.out) | exact HB.out)⟩⟩
            ·replace c126 := Bool.eq_false_iff.mpr c126
             subst c126
             have H1 : (laws_FnExactCutLink.j2 kj60 t807 true t790 t791 t808) = some r := by rw [if_neg (show ¬ (false = true) by decide)] at H; exact H
             clear H
             have H := H1
             clear H1
             have H' := Aside0.mk H
             clear H
             have hnb137 := NB821_770.out
             have hnc137 := NB770_821.out
             have hnb138 := NB821_783.out
             have hnc138 := NB783_821.out
             have hnb139 := NB821_789.out
             have hnc139 := NB789_821.out
             have hnb140 := NB821_796.out
             have hnc140 := NB796_821.out
             have hcz141_0 : w118.cell? ⟨gb821, 0, none⟩ = some (.int .i64 0) := (blk_cell BK821.out 0).trans rfl
             have hcz141_1 : w118.cell? ⟨gb821, 1, none⟩ = some (.int .i64 0) := (blk_cell BK821.out 1).trans rfl
             have hcz141_2 : w118.cell? ⟨gb821, 2, none⟩ = some (.slice none 0 0) := (blk_cell BK821.out 2).trans rfl
             have hfz141_0 := blk_frozen BK821.out 0
             have hfz141_1 := blk_frozen BK821.out 1
             have hfz141_2 := blk_frozen BK821.out 2
             have hnb142 := NB783_770.out
             have hnc142 := NB770_783.out
             have hnb143 := NB783_789.out
             have hnc143 := NB789_783.out
             have hnb144 := NB783_796.out
             have hnc144 := NB796_783.out
             have hcz145_0 : w118.cell? ⟨gb783, 0, none⟩ = some (.int .i64 t777) := (blk_cell BK783.out 0).trans rfl
             have hcz145_1 : w118.cell? ⟨gb783, 1, none⟩ = some (.int .i64 t778) := (blk_cell BK783.out 1).trans rfl
             have hcz145_2 : w118.cell? ⟨gb783, 2, none⟩ = some (.slice Ao23 t779.length co23) := (blk_cell BK783.out 2).trans rfl
             have hfz145_0 := blk_frozen BK783.out 0
             have hfz145_1 := blk_frozen BK783.out 1
             have hfz145_2 := blk_frozen BK783.out 2
             go_wp2_with (first | ((with_reducible refine gate_callee (f := 24) rfl ?_); refine goesL_ (some 86) rfl rfl Try.func24 (by kernel_rfl) rfl #[.agg #[.int .i64 t815, .int .i64 t816, .slice Ao124 t817.length co124], .agg #[.int .i64 t777, .int .i64 t778, .slice Ao23 t779.length co23]] rfl (by (try simp only [List.map_toArray, List.map_cons, List.map_nil]); first | done | rfl | (simp only [List.length_drop, List.length_take]; rfl)) ?_; (with_reducible refine (laws_eqRing.calls kj60 t815 t816 _ _ t817 t777 t778 _ _ t779 false _ ?side1 ?side2 ?side3 ?side4 A125.out).mono ?_); (case side1 => refine (Kd.R_reads' (e := 3) (base := w.heap.size) (ok := fun k_ => ((((True ∧ some k_ ≠ (.slice Ao23 t779.length co23 : Value).ownBlock) ∧ some k_ ≠ (.slice Ao30 t805.length co30 : Value).ownBlock) ∧ some k_ ≠ (.slice Ao37 t792.length co37 : Value).ownBlock) ∧ some k_ ≠ (.slice Ao116 t812.length co116 : Value).ownBlock)) (n := t817.length) (c := co124) ?_).2.2; exact (by (with_reducible repeat (first | apply Kd.R_alloc | apply Kd.R_drewN | apply Kd.R_drew)); exact (Kd.R_mono (Kd.R_far (p := ⟨gb821, 2, none⟩) (Kd.R_far (p := ⟨gb821, 1, none⟩) (Kd.R_far (p := ⟨gb821, 0, none⟩) (Kd.R_types HO819.out BK821.out (by decide)) (fun _ hk => hk.2) (.int .i64 t815)) (fun _ hk => hk.2) (.int .i64 t816)) (fun _ hk => hk.2) (.slice Ao124 t817.length co124)) (fun _ h_ => h_.1)))); (case side2 => exact (Kd.R_reads' HO819.out).2.1); (case side3 => refine (Kd.R_reads' (e := 3) (base := w.heap.size) (ok := fun k_ => (((some k_ ≠ (.slice Ao30 t805.length co30 : Value).ownBlock ∧ some k_ ≠ (.slice Ao37 t792.length co37 : Value).ownBlock) ∧ some k_ ≠ (.slice Ao116 t812.length co116 : Value).ownBlock) ∧ some k_ ≠ (.slice Ao124 t817.length co124 : Value).ownBlock)) (n := t779.length) (c := co23) ?_).2.2; exact (by (with_reducible repeat (first | apply Kd.R_alloc | apply Kd.R_drewN | apply Kd.R_drew)); exact (Kd.R_mono (Kd.R_far (p := ⟨gb821, 2, none⟩) (Kd.R_far (p := ⟨gb821, 1, none⟩) (Kd.R_far (p := ⟨gb821, 0, none⟩) (Kd.R_types HO_784002.out BK821.out (by decide)) (fun _ hk => hk.2) (.int .i64 t815)) (fun _ hk => hk.2) (.int .i64 t816)) (fun _ hk => hk.2) (.slice Ao124 t817.length co124)) (fun _ h_ => h_.1)))); (case side4 => exact (Kd.R_reads' HO_784002.out).2.1); rintro e w146 ⟨rfl, hb⟩; refine ⟨_, rfl, ?_⟩; have n0_ := Aside0.mk (Kd.R_below (by (with_reducible repeat (first | apply Kd.R_alloc | apply Kd.R_drewN | apply Kd.R_drew)); exact (Kd.R_mono (Kd.R_far (p := ⟨gb821, 2, none⟩) (Kd.R_far (p := ⟨gb821, 1, none⟩) (Kd.R_far (p := ⟨gb821, 0, none⟩) (Kd.R_types HO_784002.out BK821.out (by decide)) (fun _ hk => hk.2) (.int .i64 t815)) (fun _ hk => hk.2) (.int .i64 t816)) (fun _ hk => hk.2) (.slice Ao124 t817.length co124)) (fun _ h_ => h_.1))) hb); have n1_ := Aside0.mk (Kd.R_below (by (with_reducible repeat (first | apply Kd.R_alloc | apply Kd.R_drewN | apply Kd.R_drew)); exact (Kd.R_mono (Kd.R_far (p := ⟨gb821, 2, none⟩) (Kd.R_far (p := ⟨gb821, 1, none⟩) (Kd.R_far (p := ⟨gb821, 0, none⟩) (Kd.R_types HO_790002.out BK821.out (by decide)) (fun _ hk => hk.2) (.int .i64 t815)) (fun _ hk => hk.2) (.int .i64 t816)) (fun _ hk => hk.2) (.slice Ao124 t817.length co124)) (fun _ h_ => h_.1))) hb); have n2_ := Aside0.mk (Kd.R_below (by (with_reducible repeat (first | apply Kd.R_alloc | apply Kd.R_drewN | apply Kd.R_drew)); exact (Kd.R_mono (Kd.R_far (p := ⟨gb821, 2, none⟩) (Kd.R_far (p := ⟨gb821, 1, none⟩) (Kd.R_far (p := ⟨gb821, 0, none⟩) (Kd.R_types HO_797002.out BK821.out (by decide)) (fun _ hk => hk.2) (.int .i64 t815)) (fun _ hk => hk.2) (.int .i64 t816)) (fun _ hk => hk.2) (.slice Ao124 t817.length co124)) (fun _ h_ => h_.1))) hb); have n3_ := Aside0.mk (Kd.R_below (by (with_reducible repeat (first | apply Kd.R_alloc | apply Kd.R_drewN | apply Kd.R_drew)); exact (Kd.R_mono (Kd.R_far (p := ⟨gb821, 2, none⟩) (Kd.R_far (p := ⟨gb821, 1, none⟩) (Kd.R_far (p := ⟨gb821, 0, none⟩) (Kd.R_types HO814.out BK821.out (by decide)) (fun _ hk => hk.2) (.int .i64 t815)) (fun _ hk => hk.2) (.int .i64 t816)) (fun _ hk => hk.2) (.slice Ao124 t817.length co124)) (fun _ h_ => h_.1))) hb); have n4_ := Aside0.mk (Kd.R_below (by (with_reducible repeat (first | apply Kd.R_alloc | apply Kd.R_drewN | apply Kd.R_drew)); exact (Kd.R_mono (Kd.R_far (p := ⟨gb821, 2, none⟩) (Kd.R_far (p := ⟨gb821, 1, none⟩) (Kd.R_far (p := ⟨gb821, 0, none⟩) (Kd.R_types HO819.out BK821.out (by decide)) (fun _ hk => hk.2) (.int .i64 t815)) (fun _ hk => hk.2) (.int .i64 t816)) (fun _ hk => hk.2) (.slice Ao124 t817.length co124)) (fun _ h_ => h_.1))) hb); have n5_ := Aside0.mk (blk_below (g := gb770) (o := .cells #[.int .i64 a0_0, .int .i64 a0_1, .slice A0_2 l0_2.length c0_2] 32 (0, 0)) (by (with_reducible repeat (first | refine blk_drewN ?_ _ | refine blk_drew ?_ | refine blk_alloc ?_ _)); refine blk_far ?_ NB770_821.out _; (with_reducible repeat (first | refine blk_drewN ?_ _ | refine blk_drew ?_ | refine blk_alloc ?_ _)); refine blk_far ?_ NB770_821.out _; (with_reducible repeat (first | refine blk_drewN ?_ _ | refine blk_drew ?_ | refine blk_alloc ?_ _)); refine blk_far ?_ NB770_821.out _; (with_reducible repeat (first | refine blk_drewN ?_ _ | refine blk_drew ?_ | refine blk_alloc ?_ _)); exact BK770.out) hb); have n6_ := Aside0.mk (blk_below (g := gb783) (o := .cells #[.int .i64 t777, .int .i64 t778, .slice Ao23 t779.length co23] 25 (0, 0)) (by (with_reducible repeat (first | refine blk_drewN ?_ _ | refine blk_drew ?_ | refine blk_alloc ?_ _)); refine blk_far ?_ NB783_821.out _; (with_reducible repeat (first | refine blk_drewN ?_ _ | refine blk_drew ?_ | refine blk_alloc ?_ _)); refine blk_far ?_ NB783_821.out _; (with_reducible repeat (first | refine blk_drewN ?_ _ | refine blk_drew ?_ | refine blk_alloc ?_ _)); refine blk_far ?_ NB783_821.out _; (with_reducible repeat (first | refine blk_drewN ?_ _ | refine blk_drew ?_ | refine blk_alloc ?_ _)); exact BK783.out) hb); have n7_ := Aside0.mk (blk_below (g := gb789) (o := .cells #[.int .i64 t784, .int .i64 t785, .slice Ao30 t805.length co30] 25 (0, 0)) (by (with_reducible repeat (first | refine blk_drewN ?_ _ | refine blk_drew ?_ | refine blk_alloc ?_ _)); refine blk_far ?_ NB789_821.out _; (with_reducible repeat (first | refine blk_drewN ?_ _ | refine blk_drew ?_ | refine blk_alloc ?_ _)); refine blk_far ?_ NB789_821.out _; (with_reducible repeat (first | refine blk_drewN ?_ _ | refine blk_drew ?_ | refine blk_alloc ?_ _)); refine blk_far ?_ NB789_821.out _; (with_reducible repeat (first | refine blk_drewN ?_ _ | refine blk_drew ?_ | refine blk_alloc ?_ _)); exact BK789.out) hb); have n8_ := Aside0.mk (blk_below (g := gb796) (o := .cells #[.int .i64 t790, .int .i64 t791, .slice Ao37 t792.length co37] 25 (0, 0)) (by (with_reducible repeat (first | refine blk_drewN ?_ _ | refine blk_drew ?_ | refine blk_alloc ?_ _)); refine blk_far ?_ NB796_821.out _; (with_reducible repeat (first | refine blk_drewN ?_ _ | refine blk_drew ?_ | refine blk_alloc ?_ _)); refine blk_far ?_ NB796_821.out _; (with_reducible repeat (first | refine blk_drewN ?_ _ | refine blk_drew ?_ | refine blk_alloc ?_ _)); refine blk_far ?_ NB796_821.out _; (with_reducible repeat (first | refine blk_drewN ?_ _ | refine blk_drew ?_ | refine blk_alloc ?_ _)); exact BK796.out) hb); have n9_ := Aside0.mk (blk_below (g := gb821) (o := .cells #[.int .i64 t815, .int .i64 t816, .slice Ao124 t817.length co124] 25 (0, 0)) (by (with_reducible repeat (first | refine blk_drewN ?_ _ | refine blk_drew ?_ | refine blk_alloc ?_ _)); refine blk_put (cs := #[.int .i64 t815, .int .i64 t816, .slice none 0 0]) ?_ 2 _ rfl; (with_reducible repeat (first | refine blk_drewN ?_ _ | refine blk_drew ?_ | refine blk_alloc ?_ _)); refine blk_put (cs := #[.int .i64 t815, .int .i64 0, .slice none 0 0]) ?_ 1 _ rfl; (with_reducible repeat (first | refine blk_drewN ?_ _ | refine blk_drew ?_ | refine blk_alloc ?_ _)); refine blk_put (cs := #[.int .i64 0, .int .i64 0, .slice none 0 0]) ?_ 0 _ rfl; (with_reducible repeat (first | refine blk_drewN ?_ _ | refine blk_drew ?_ | refine blk_alloc ?_ _)); exact BK821.out) hb); have n10_ := Aside0.mk (below_step (by repeat (first | (with_reducible first | exact HB.out | apply below_alloc | apply pw_below_drewN | apply below_drew1 | refine below_set ?_ GE770.out | refine below_set ?_ GE783.out | refine below_set ?_ GE789.out | refine below_set ?_ GE796.out | refine below_set ?_ GE821.out) | exact HB.out)) hb); clear HO_784002; clear HO_790002; clear HO_797002; clear HO814; clear HO819; clear BK770; clear BK783; clear BK789; clear BK796; clear BK821; clear HB; have HO_784002 := n0_; have HO_790002 := n1_; have HO_797002 := n2_; have HO814 := n3_; have HO819 := n4_; have BK770 := n5_; have BK783 := n6_; have BK789 := n7_; have BK796 := n8_; have BK821 := n9_; have HB := n10_; clear n0_ n1_ n2_ n3_ n4_ n5_ n6_ n7_ n8_ n9_ n10_; (try clear hb); (try clear hb2); (try clear hk); (try clear hi)))
             go_meet
             case rel => exact ⟨_, (true), (by first | rfl | (simp; done) | (simp [*]; done)), H', ⟨by have := HJ11.out; have := HJ60.out; first | omega | exact Nat.le_refl _⟩, ⟨by (try simp only [hl790002_60]); (with_reducible repeat (first | apply Kd.R_alloc | apply Kd.R_drewN | apply Kd.R_drew)); exact Kd.R_mono HO_784002.out (fun _ hk => ⟨hk.1.1.1, ⟨hk.1.1.2, hk.2⟩⟩)⟩, ⟨by (try simp only [hl790002_60]); (with_reducible repeat (first | apply Kd.R_alloc | apply Kd.R_drewN | apply Kd.R_drew)); exact Kd.R_mono HO_790002.out (fun _ hk => ⟨hk.1.1.1, ⟨hk.1.1.2, hk.2⟩⟩)⟩, ⟨by (try simp only [hl790002_60]); (with_reducible repeat (first | apply Kd.R_alloc | apply Kd.R_drewN | apply Kd.R_drew)); exact Kd.R_mono HO_797002.out (fun _ hk => ⟨hk.1.1.1, ⟨hk.1.1.2, hk.2⟩⟩)⟩, ⟨by (try simp only [hl790002_60]); (with_reducible repeat (first | apply Kd.R_alloc | apply Kd.R_drewN | apply Kd.R_drew)); exact Kd.R_mono HO819.out (fun _ hk => ⟨hk.1.1.1.2, ⟨hk.1.1.2, hk.1.2⟩⟩)⟩, ⟨by (try simp only [hl790002_60]); (with_reducible repeat (first | refine blk_drewN ?_ _ | refine blk_drew ?_ | refine blk_alloc ?_ _)); exact BK770.out⟩, ⟨by (try simp only [hl790002_60]); (with_reducible repeat (first | refine blk_drewN ?_ _ | refine blk_drew ?_ | refine blk_alloc ?_ _)); exact BK783.out⟩, ⟨by (try simp only [hl790002_60]); (with_reducible repeat (first | refine blk_drewN ?_ _ | refine blk_drew ?_ | refine blk_alloc ?_ _)); exact BK789.out⟩, ⟨by (try simp only [hl790002_60]); (with_reducible repeat (first | refine blk_drewN ?_ _ | refine blk_drew ?_ | refine blk_alloc ?_ _)); exact BK796.out⟩, ⟨by (try simp only [hl790002_60]); (with_reducible repeat (first | refine blk_drewN ?_ _ | refine blk_drew ?_ | refine blk_alloc ?_ _)); exact BK821.out⟩, ⟨by repeat (first | (with_reducible first | exact HB.out | apply below_alloc | apply pw_below_drewN | apply below_drew1 | refine below_set ?_ GE770.out | refine below_set ?_ GE783.out | refine below_set ?_ GE789.out | refine below_set ?_ GE796.out | refine below_set ?_ GE821.out) | exact HB.out)⟩⟩
           case rest =>
            clear HC104
            try clear c1
            try clear c2
            try clear p2
            try clear c3
            try clear c4
            try clear c4b0
            try clear c5
            try clear c6
            try clear c7
            try clear c8
            try clear c9
            try clear c10
            try clear c11
            try clear c12
            try clear c13
            try clear c14
            try clear c20
            try clear c21
            try clear c22
            try clear c24
            try clear c25
            try clear c26
            try clear c27
            try clear c28
            try clear c33
            try clear c34
            try clear c35
            try clear c37
            try clear c38
            try clear c39
            try clear c40
            try clear c41
            try clear c42
            try clear c44
            try clear c45
            try clear c48
            try clear c49
            try clear c50
            try clear c52
            try clear c53
            try clear c56
            try clear c59
            try clear c66
            try clear c67
            try clear c68
            try clear c71
            try clear c71b0
            try clear c73
            try clear c74
            try clear c75
            try clear c76
            try clear c78
            try clear c79
            try clear c82
            try clear c83
            try clear c84
            try clear c86
            try clear c87
            try clear c90
            try clear c93
            try clear c93b0
            try clear c94
            try clear c95
            try clear c96
            try clear c101
            try clear c101b0
            try clear c101b1
            try clear c105
            try clear c106
            try clear c107
            try clear c112
            try clear c113
            try clear c119
            try clear c120
            try clear c121
            try clear c122
            try clear c126
            try clear c127
            try clear c128
            try clear c129
            try clear c130
            try clear c132
            try clear c133
            try clear c134
            try clear c137
            try clear c138
            try clear c139
            try clear c140
            try clear c142
            try clear c143
            try clear c144
            try clear hcz108_0
            try clear hcz108_1
            try clear hcz108_2
            try clear hcz110_0
            try clear hcz110_1
            try clear hcz110_2
            try clear hcz114_0
            try clear hcz114_1
            try clear hcz114_2
            try clear hcz123_0
            try clear hcz123_1
            try clear hcz123_2
            try clear hcz131_0
            try clear hcz131_1
            try clear hcz131_2
            try clear hcz135_0
            try clear hcz135_1
            try clear hcz135_2
            try clear hcz141_0
            try clear hcz141_1
            try clear hcz141_2
            try clear hcz145_0
            try clear hcz145_1
            try clear hcz145_2
            try clear hcz14_0
            try clear hcz14_1
            try clear hcz14_2
            try clear hcz16_0
            try clear hcz16_1
            try clear hcz16_2
            try clear hcz22_0
            try clear hcz22_1
            try clear hcz22_2
            try clear hcz24_0
            try clear hcz24_1
            try clear hcz24_2
            try clear hcz29_0
            try clear hcz29_1
            try clear hcz29_2
            try clear hcz36_0
            try clear hcz36_1
            try clear hcz36_2
            try clear hcz43_0
            try clear hcz43_1
            try clear hcz43_2
            try clear hcz46_0
            try clear hcz46_1
            try clear hcz46_2
            try clear hcz51_0
            try clear hcz51_1
            try clear hcz51_2
            try clear hcz54_0
            try clear hcz54_1
            try clear hcz54_2
            try clear hcz69_0
            try clear hcz69_1
            try clear hcz69_2
            try clear hcz6_0
            try clear hcz6_1
            try clear hcz6_2
            try clear hcz77_0
            try clear hcz77_1
            try clear hcz77_2
            try clear hcz80_0
            try clear hcz80_1
            try clear hcz80_2
            try clear hcz85_0
            try clear hcz85_1
            try clear hcz85_2
            try clear hcz88_0
            try clear hcz88_1
            try clear hcz88_2
            try clear hcz97_0
            try clear hcz97_1
            try clear hcz97_2
            try clear hcz99_0
            try clear hcz99_1
            try clear hcz99_2
            try clear hfz108_0
            try clear hfz108_1
            try clear hfz108_2
            try clear hfz110_0
            try clear hfz110_1
            try clear hfz110_2
            try clear hfz114_0
            try clear hfz114_1
            try clear hfz114_2
            try clear hfz123_0
            try clear hfz123_1
            try clear hfz123_2
            try clear hfz131_0
            try clear hfz131_1
            try clear hfz131_2
            try clear hfz135_0
            try clear hfz135_1
            try clear hfz135_2
            try clear hfz141_0
            try clear hfz141_1
            try clear hfz141_2
            try clear hfz145_0
            try clear hfz145_1
            try clear hfz145_2
            try clear hfz14_0
            try clear hfz14_1
            try clear hfz14_2
            try clear hfz16_0
            try clear hfz16_1
            try clear hfz16_2
            try clear hfz22_0
            try clear hfz22_1
            try clear hfz22_2
            try clear hfz24_0
            try clear hfz24_1
            try clear hfz24_2
            try clear hfz29_0
            try clear hfz29_1
            try clear hfz29_2
            try clear hfz36_0
            try clear hfz36_1
            try clear hfz36_2
            try clear hfz43_0
            try clear hfz43_1
            try clear hfz43_2
            try clear hfz46_0
            try clear hfz46_1
            try clear hfz46_2
            try clear hfz51_0
            try clear hfz51_1
            try clear hfz51_2
            try clear hfz54_0
            try clear hfz54_1
            try clear hfz54_2
            try clear hfz69_0
            try clear hfz69_1
            try clear hfz69_2
            try clear hfz6_0
            try clear hfz6_1
            try clear hfz6_2
            try clear hfz77_0
            try clear hfz77_1
            try clear hfz77_2
            try clear hfz80_0
            try clear hfz80_1
            try clear hfz80_2
            try clear hfz85_0
            try clear hfz85_1
            try clear hfz85_2
            try clear hfz88_0
            try clear hfz88_1
            try clear hfz88_2
            try clear hfz97_0
            try clear hfz97_1
            try clear hfz97_2
            try clear hfz99_0
            try clear hfz99_1
            try clear hfz99_2
            try clear p2
            obtain ⟨kq, x92_103, rfl, HA, HJ103, HO_784002, HO_790002, HO_797002, HO_822002, BK770, BK783, BK789, BK796, BK821, HB⟩ := hcut
            have hl797002_103 := (Kd.R_reads' HO_797002.out).1
            rw [hl797002_103] at HO_797002
            (try simp only [hl797002_103])
            (try simp only [hl797002_103] at BK770)
            (try simp only [hl797002_103] at BK783)
            (try simp only [hl797002_103] at BK789)
            (try simp only [hl797002_103] at BK796)
            (try simp only [hl797002_103] at BK821)
            (try simp only [hl797002_103] at HO_784002)
            (try simp only [hl797002_103] at HO_790002)
            (try simp only [hl797002_103] at HO_822002)
            cases kq with
            | zero => exact absurd HA.out (by simp [laws_FnExactCutLink.j2])
            | succ kj103 =>
             have H := HA.out
             clear HA
             simp only [laws_FnExactCutLink.j2] at H
             by_cases c147 : x92_103 = true
             ·subst c147
              have H1 : (some false) = some r := by rw [if_pos rfl] at H; exact H
              clear H
              have H := H1
              clear H1
              obtain rfl := Option.some.inj H
              go_wp2
              go_ret
              exact ⟨by first | rfl | (simp [errW_none, errW_some] <;> rfl) | (simp [*, errW_none, errW_some] <;> rfl), by repeat (first | (with_reducible first | exact HB.out | apply below_alloc | apply pw_below_drewN | apply below_drew1 | refine below_set ?_ GE770.out | refine below_set ?_ GE783.out | refine below_set ?_ GE789.out | refine below_set ?_ GE796.out | refine below_set ?_ GE821.out) | exact HB.out)⟩
             ·replace c147 := Bool.eq_false_iff.mpr c147
              subst c147
              have H1 : ((laws_heldRing.f kj103 t790 t791 t808 1).bind fun t823 => (if t823 < 0 then (some false) else (if t823 = t807 then (some true) else (some false)))) = some r := by rw [if_neg (show ¬ (false = true) by decide)] at H; exact H
              clear H
              have H := H1
              clear H1
              replace H := Option.bind_eq_some_iff.mp H
              obtain ⟨t823, A1480, H⟩ := H
              replace H : (if t823 < 0 then (some false) else (if t823 = t807 then (some true) else (some false))) = some r := H
              have A148 := Aside0.mk A1480
              clear A1480
              by_cases c149 : t823 < 0
              ·rw [if_pos c149] at H
               have c149b0 : decide (t823 < 0) = true := decide_eq_true c149
               clear c149
               obtain rfl := Option.some.inj H
               have hnb150 := NB796_770.out
               have hnc150 := NB770_796.out
               have hnb151 := NB796_783.out
               have hnc151 := NB783_796.out
               have hnb152 := NB796_789.out
               have hnc152 := NB789_796.out
               have hnb153 := NB796_821.out
               have hnc153 := NB821_796.out
               have hcz154_0 : wc.cell? ⟨gb796, 0, none⟩ = some (.int .i64 t790) := (blk_cell BK796.out 0).trans rfl
               have hcz154_1 : wc.cell? ⟨gb796, 1, none⟩ = some (.int .i64 t791) := (blk_cell BK796.out 1).trans rfl
               have hcz154_2 : wc.cell? ⟨gb796, 2, none⟩ = some (.slice Ao37 t808.length co37) := (blk_cell BK796.out 2).trans rfl
               have hfz154_0 := blk_frozen BK796.out 0
               have hfz154_1 := blk_frozen BK796.out 1
               have hfz154_2 := blk_frozen BK796.out 2
               go_wp2_with (first | ((with_reducible refine gate_callee (f := 26) rfl ?_); refine goesL_ (some 95) rfl rfl Try.func26 (by kernel_rfl) rfl #[.agg #[.int .i64 t790, .int .i64 t791, .slice Ao37 t808.length co37], .int .i64 1] rfl (by (try simp only [List.map_toArray, List.map_cons, List.map_nil]); first | done | rfl | (simp only [List.length_drop, List.length_take]; rfl)) ?_; (with_reducible refine (laws_heldRing.calls kj103 t790 t791 _ _ t808 1 t823 _ ?side1 ?side2 A148.out).mono ?_); (case side1 => repeat (first | exact (Kd.R_reads' HO_797002.out).2.2 | (with_reducible refine Kd.C_alloc ?_ _) | (with_reducible refine Kd.C_drewN ?_ _) | (with_reducible refine Kd.C_drew ?_))); (case side2 => exact (Kd.R_reads' HO_797002.out).2.1); rintro e w155 ⟨rfl, hb⟩; refine ⟨_, rfl, ?_⟩; have n0_ := Aside0.mk (Kd.R_below (by (with_reducible repeat (first | apply Kd.R_alloc | apply Kd.R_drewN | apply Kd.R_drew)); exact HO_784002.out) hb); have n1_ := Aside0.mk (Kd.R_below (by (with_reducible repeat (first | apply Kd.R_alloc | apply Kd.R_drewN | apply Kd.R_drew)); exact HO_790002.out) hb); have n2_ := Aside0.mk (Kd.R_below (by (with_reducible repeat (first | apply Kd.R_alloc | apply Kd.R_drewN | apply Kd.R_drew)); exact HO_797002.out) hb); have n3_ := Aside0.mk (Kd.R_below (by (with_reducible repeat (first | apply Kd.R_alloc | apply Kd.R_drewN | apply Kd.R_drew)); exact HO_822002.out) hb); have n4_ := Aside0.mk (blk_below (g := gb770) (o := .cells #[.int .i64 a0_0, .int .i64 a0_1, .slice A0_2 l0_2.length c0_2] 32 (0, 0)) (by (with_reducible repeat (first | refine blk_drewN ?_ _ | refine blk_drew ?_ | refine blk_alloc ?_ _)); exact BK770.out) hb); have n5_ := Aside0.mk (blk_below (g := gb783) (o := .cells #[.int .i64 t777, .int .i64 t778, .slice Ao23 t779.length co23] 25 (0, 0)) (by (with_reducible repeat (first | refine blk_drewN ?_ _ | refine blk_drew ?_ | refine blk_alloc ?_ _)); exact BK783.out) hb); have n6_ := Aside0.mk (blk_below (g := gb789) (o := .cells #[.int .i64 t784, .int .i64 t785, .slice Ao30 t805.length co30] 25 (0, 0)) (by (with_reducible repeat (first | refine blk_drewN ?_ _ | refine blk_drew ?_ | refine blk_alloc ?_ _)); exact BK789.out) hb); have n7_ := Aside0.mk (blk_below (g := gb796) (o := .cells #[.int .i64 t790, .int .i64 t791, .slice Ao37 t808.length co37] 25 (0, 0)) (by (with_reducible repeat (first | refine blk_drewN ?_ _ | refine blk_drew ?_ | refine blk_alloc ?_ _)); exact BK796.out) hb); have n8_ := Aside0.mk (blk_below (g := gb821) (o := .cells #[.int .i64 t815, .int .i64 t816, .slice Ao124 t817.length co124] 25 (0, 0)) (by (with_reducible repeat (first | refine blk_drewN ?_ _ | refine blk_drew ?_ | refine blk_alloc ?_ _)); exact BK821.out) hb); have n9_ := Aside0.mk (below_step (by repeat (first | (with_reducible first | exact HB.out | apply below_alloc | apply pw_below_drewN | apply below_drew1 | refine below_set ?_ GE770.out | refine below_set ?_ GE783.out | refine below_set ?_ GE789.out | refine below_set ?_ GE796.out | refine below_set ?_ GE821.out) | exact HB.out)) hb); clear HO_784002; clear HO_790002; clear HO_797002; clear HO_822002; clear BK770; clear BK783; clear BK789; clear BK796; clear BK821; clear HB; have HO_784002 := n0_; have HO_790002 := n1_; have HO_797002 := n2_; have HO_822002 := n3_; have BK770 := n4_; have BK783 := n5_; have BK789 := n6_; have BK796 := n7_; have BK821 := n8_; have HB := n9_; clear n0_ n1_ n2_ n3_ n4_ n5_ n6_ n7_ n8_ n9_; (try clear hb); (try clear hb2); (try clear hk); (try clear hi)))
               go_ret
               exact ⟨by first | rfl | (simp [errW_none, errW_some] <;> rfl) | (simp [*, errW_none, errW_some] <;> rfl), by repeat (first | (with_reducible first | exact HB.out | apply below_alloc | apply pw_below_drewN | apply below_drew1 | refine below_set ?_ GE770.out | refine below_set ?_ GE783.out | refine below_set ?_ GE789.out | refine below_set ?_ GE796.out | refine below_set ?_ GE821.out) | exact HB.out)⟩
              ·rw [if_neg c149] at H
               have c149b0 : decide (t823 < 0) = false := decide_eq_false c149
               clear c149
               by_cases c156 : t823 = t807
               ·rw [if_pos c156] at H
                have c156b0 : (t823 == t807) = true := beq_iff_eq.mpr c156
                have c156b1 : (t823 != t807) = false := bne_eq_false_iff_eq.mpr c156
                clear c156
                obtain rfl := Option.some.inj H
                have hnb157 := NB796_770.out
                have hnc157 := NB770_796.out
                have hnb158 := NB796_783.out
                have hnc158 := NB783_796.out
                have hnb159 := NB796_789.out
                have hnc159 := NB789_796.out
                have hnb160 := NB796_821.out
                have hnc160 := NB821_796.out
                have hcz161_0 : wc.cell? ⟨gb796, 0, none⟩ = some (.int .i64 t790) := (blk_cell BK796.out 0).trans rfl
                have hcz161_1 : wc.cell? ⟨gb796, 1, none⟩ = some (.int .i64 t791) := (blk_cell BK796.out 1).trans rfl
                have hcz161_2 : wc.cell? ⟨gb796, 2, none⟩ = some (.slice Ao37 t808.length co37) := (blk_cell BK796.out 2).trans rfl
                have hfz161_0 := blk_frozen BK796.out 0
                have hfz161_1 := blk_frozen BK796.out 1
                have hfz161_2 := blk_frozen BK796.out 2
                go_wp2_with (first | ((with_reducible refine gate_callee (f := 26) rfl ?_); refine goesL_ (some 95) rfl rfl Try.func26 (by kernel_rfl) rfl #[.agg #[.int .i64 t790, .int .i64 t791, .slice Ao37 t808.length co37], .int .i64 1] rfl (by (try simp only [List.map_toArray, List.map_cons, List.map_nil]); first | done | rfl | (simp only [List.length_drop, List.length_take]; rfl)) ?_; (with_reducible refine (laws_heldRing.calls kj103 t790 t791 _ _ t808 1 t823 _ ?side1 ?side2 A148.out).mono ?_); (case side1 => repeat (first | exact (Kd.R_reads' HO_797002.out).2.2 | (with_reducible refine Kd.C_alloc ?_ _) | (with_reducible refine Kd.C_drewN ?_ _) | (with_reducible refine Kd.C_drew ?_))); (case side2 => exact (Kd.R_reads' HO_797002.out).2.1); rintro e w162 ⟨rfl, hb⟩; refine ⟨_, rfl, ?_⟩; have n0_ := Aside0.mk (Kd.R_below (by (with_reducible repeat (first | apply Kd.R_alloc | apply Kd.R_drewN | apply Kd.R_drew)); exact HO_784002.out) hb); have n1_ := Aside0.mk (Kd.R_below (by (with_reducible repeat (first | apply Kd.R_alloc | apply Kd.R_drewN | apply Kd.R_drew)); exact HO_790002.out) hb); have n2_ := Aside0.mk (Kd.R_below (by (with_reducible repeat (first | apply Kd.R_alloc | apply Kd.R_drewN | apply Kd.R_drew)); exact HO_797002.out) hb); have n3_ := Aside0.mk (Kd.R_below (by (with_reducible repeat (first | apply Kd.R_alloc | apply Kd.R_drewN | apply Kd.R_drew)); exact HO_822002.out) hb); have n4_ := Aside0.mk (blk_below (g := gb770) (o := .cells #[.int .i64 a0_0, .int .i64 a0_1, .slice A0_2 l0_2.length c0_2] 32 (0, 0)) (by (with_reducible repeat (first | refine blk_drewN ?_ _ | refine blk_drew ?_ | refine blk_alloc ?_ _)); exact BK770.out) hb); have n5_ := Aside0.mk (blk_below (g := gb783) (o := .cells #[.int .i64 t777, .int .i64 t778, .slice Ao23 t779.length co23] 25 (0, 0)) (by (with_reducible repeat (first | refine blk_drewN ?_ _ | refine blk_drew ?_ | refine blk_alloc ?_ _)); exact BK783.out) hb); have n6_ := Aside0.mk (blk_below (g := gb789) (o := .cells #[.int .i64 t784, .int .i64 t785, .slice Ao30 t805.length co30] 25 (0, 0)) (by (with_reducible repeat (first | refine blk_drewN ?_ _ | refine blk_drew ?_ | refine blk_alloc ?_ _)); exact BK789.out) hb); have n7_ := Aside0.mk (blk_below (g := gb796) (o := .cells #[.int .i64 t790, .int .i64 t791, .slice Ao37 t808.length co37] 25 (0, 0)) (by (with_reducible repeat (first | refine blk_drewN ?_ _ | refine blk_drew ?_ | refine blk_alloc ?_ _)); exact BK796.out) hb); have n8_ := Aside0.mk (blk_below (g := gb821) (o := .cells #[.int .i64 t815, .int .i64 t816, .slice Ao124 t817.length co124] 25 (0, 0)) (by (with_reducible repeat (first | refine blk_drewN ?_ _ | refine blk_drew ?_ | refine blk_alloc ?_ _)); exact BK821.out) hb); have n9_ := Aside0.mk (below_step (by repeat (first | (with_reducible first | exact HB.out | apply below_alloc | apply pw_below_drewN | apply below_drew1 | refine below_set ?_ GE770.out | refine below_set ?_ GE783.out | refine below_set ?_ GE789.out | refine below_set ?_ GE796.out | refine below_set ?_ GE821.out) | exact HB.out)) hb); clear HO_784002; clear HO_790002; clear HO_797002; clear HO_822002; clear BK770; clear BK783; clear BK789; clear BK796; clear BK821; clear HB; have HO_784002 := n0_; have HO_790002 := n1_; have HO_797002 := n2_; have HO_822002 := n3_; have BK770 := n4_; have BK783 := n5_; have BK789 := n6_; have BK796 := n7_; have BK821 := n8_; have HB := n9_; clear n0_ n1_ n2_ n3_ n4_ n5_ n6_ n7_ n8_ n9_; (try clear hb); (try clear hb2); (try clear hk); (try clear hi)))
                go_ret
                exact ⟨by first | rfl | (simp [errW_none, errW_some] <;> rfl) | (simp [*, errW_none, errW_some] <;> rfl), by repeat (first | (with_reducible first | exact HB.out | apply below_alloc | apply pw_below_drewN | apply below_drew1 | refine below_set ?_ GE770.out | refine below_set ?_ GE783.out | refine below_set ?_ GE789.out | refine below_set ?_ GE796.out | refine below_set ?_ GE821.out) | exact HB.out)⟩
               ·rw [if_neg c156] at H
                have c156b0 : (t823 == t807) = false := beq_eq_false_iff_ne.mpr c156
                have c156b1 : (t823 != t807) = true := bne_iff_ne.mpr c156
                obtain rfl := Option.some.inj H
                have hnb163 := NB796_770.out
                have hnc163 := NB770_796.out
                have hnb164 := NB796_783.out
                have hnc164 := NB783_796.out
                have hnb165 := NB796_789.out
                have hnc165 := NB789_796.out
                have hnb166 := NB796_821.out
                have hnc166 := NB821_796.out
                have hcz167_0 : wc.cell? ⟨gb796, 0, none⟩ = some (.int .i64 t790) := (blk_cell BK796.out 0).trans rfl
                have hcz167_1 : wc.cell? ⟨gb796, 1, none⟩ = some (.int .i64 t791) := (blk_cell BK796.out 1).trans rfl
                have hcz167_2 : wc.cell? ⟨gb796, 2, none⟩ = some (.slice Ao37 t808.length co37) := (blk_cell BK796.out 2).trans rfl
                have hfz167_0 := blk_frozen BK796.out 0
                have hfz167_1 := blk_frozen BK796.out 1
                have hfz167_2 := blk_frozen BK796.out 2
                go_wp2_with (first | ((with_reducible refine gate_callee (f := 26) rfl ?_); refine goesL_ (some 95) rfl rfl Try.func26 (by kernel_rfl) rfl #[.agg #[.int .i64 t790, .int .i64 t791, .slice Ao37 t808.length co37], .int .i64 1] rfl (by (try simp only [List.map_toArray, List.map_cons, List.map_nil]); first | done | rfl | (simp only [List.length_drop, List.length_take]; rfl)) ?_; (with_reducible refine (laws_heldRing.calls kj103 t790 t791 _ _ t808 1 t823 _ ?side1 ?side2 A148.out).mono ?_); (case side1 => repeat (first | exact (Kd.R_reads' HO_797002.out).2.2 | (with_reducible refine Kd.C_alloc ?_ _) | (with_reducible refine Kd.C_drewN ?_ _) | (with_reducible refine Kd.C_drew ?_))); (case side2 => exact (Kd.R_reads' HO_797002.out).2.1); rintro e w168 ⟨rfl, hb⟩; refine ⟨_, rfl, ?_⟩; have n0_ := Aside0.mk (Kd.R_below (by (with_reducible repeat (first | apply Kd.R_alloc | apply Kd.R_drewN | apply Kd.R_drew)); exact HO_784002.out) hb); have n1_ := Aside0.mk (Kd.R_below (by (with_reducible repeat (first | apply Kd.R_alloc | apply Kd.R_drewN | apply Kd.R_drew)); exact HO_790002.out) hb); have n2_ := Aside0.mk (Kd.R_below (by (with_reducible repeat (first | apply Kd.R_alloc | apply Kd.R_drewN | apply Kd.R_drew)); exact HO_797002.out) hb); have n3_ := Aside0.mk (Kd.R_below (by (with_reducible repeat (first | apply Kd.R_alloc | apply Kd.R_drewN | apply Kd.R_drew)); exact HO_822002.out) hb); have n4_ := Aside0.mk (blk_below (g := gb770) (o := .cells #[.int .i64 a0_0, .int .i64 a0_1, .slice A0_2 l0_2.length c0_2] 32 (0, 0)) (by (with_reducible repeat (first | refine blk_drewN ?_ _ | refine blk_drew ?_ | refine blk_alloc ?_ _)); exact BK770.out) hb); have n5_ := Aside0.mk (blk_below (g := gb783) (o := .cells #[.int .i64 t777, .int .i64 t778, .slice Ao23 t779.length co23] 25 (0, 0)) (by (with_reducible repeat (first | refine blk_drewN ?_ _ | refine blk_drew ?_ | refine blk_alloc ?_ _)); exact BK783.out) hb); have n6_ := Aside0.mk (blk_below (g := gb789) (o := .cells #[.int .i64 t784, .int .i64 t785, .slice Ao30 t805.length co30] 25 (0, 0)) (by (with_reducible repeat (first | refine blk_drewN ?_ _ | refine blk_drew ?_ | refine blk_alloc ?_ _)); exact BK789.out) hb); have n7_ := Aside0.mk (blk_below (g := gb796) (o := .cells #[.int .i64 t790, .int .i64 t791, .slice Ao37 t808.length co37] 25 (0, 0)) (by (with_reducible repeat (first | refine blk_drewN ?_ _ | refine blk_drew ?_ | refine blk_alloc ?_ _)); exact BK796.out) hb); have n8_ := Aside0.mk (blk_below (g := gb821) (o := .cells #[.int .i64 t815, .int .i64 t816, .slice Ao124 t817.length co124] 25 (0, 0)) (by (with_reducible repeat (first | refine blk_drewN ?_ _ | refine blk_drew ?_ | refine blk_alloc ?_ _)); exact BK821.out) hb); have n9_ := Aside0.mk (below_step (by repeat (first | (with_reducible first | exact HB.out | apply below_alloc | apply pw_below_drewN | apply below_drew1 | refine below_set ?_ GE770.out | refine below_set ?_ GE783.out | refine below_set ?_ GE789.out | refine below_set ?_ GE796.out | refine below_set ?_ GE821.out) | exact HB.out)) hb); clear HO_784002; clear HO_790002; clear HO_797002; clear HO_822002; clear BK770; clear BK783; clear BK789; clear BK796; clear BK821; clear HB; have HO_784002 := n0_; have HO_790002 := n1_; have HO_797002 := n2_; have HO_822002 := n3_; have BK770 := n4_; have BK783 := n5_; have BK789 := n6_; have BK796 := n7_; have BK821 := n8_; have HB := n9_; clear n0_ n1_ n2_ n3_ n4_ n5_ n6_ n7_ n8_ n9_; (try clear hb); (try clear hb2); (try clear hk); (try clear hi)))
                go_ret
                exact ⟨by first | rfl | (simp [errW_none, errW_some] <;> rfl) | (simp [*, errW_none, errW_some] <;> rfl), by repeat (first | (with_reducible first | exact HB.out | apply below_alloc | apply pw_below_drewN | apply below_drew1 | refine below_set ?_ GE770.out | refine below_set ?_ GE783.out | refine below_set ?_ GE789.out | refine below_set ?_ GE796.out | refine below_set ?_ GE821.out) | exact HB.out)⟩
          ·rw [if_neg c101] at H
           have c101b0 : (t809 == t807) = false := beq_eq_false_iff_ne.mpr c101
           have c101b1 : (t809 != t807) = true := bne_iff_ne.mpr c101
           obtain rfl := Option.some.inj H
           have hnb169 := NB796_770.out
           have hnc169 := NB770_796.out
           have hnb170 := NB796_783.out
           have hnc170 := NB783_796.out
           have hnb171 := NB796_789.out
           have hnc171 := NB789_796.out
           have hcz172_0 : wc.cell? ⟨gb796, 0, none⟩ = some (.int .i64 t790) := (blk_cell BK796.out 0).trans rfl
           have hcz172_1 : wc.cell? ⟨gb796, 1, none⟩ = some (.int .i64 t791) := (blk_cell BK796.out 1).trans rfl
           have hcz172_2 : wc.cell? ⟨gb796, 2, none⟩ = some (.slice Ao37 t792.length co37) := (blk_cell BK796.out 2).trans rfl
           have hfz172_0 := blk_frozen BK796.out 0
           have hfz172_1 := blk_frozen BK796.out 1
           have hfz172_2 := blk_frozen BK796.out 2
           go_wp2_with (first | ((with_reducible refine gate_callee (f := 25) rfl ?_); refine goesL_ (some 68) rfl rfl Try.func25 (by kernel_rfl) rfl #[.agg #[.int .i64 t790, .int .i64 t791, .slice Ao37 t792.length co37], .int .i64 1] rfl (by (try simp only [List.map_toArray, List.map_cons, List.map_nil]); first | done | rfl | (simp only [List.length_drop, List.length_take]; rfl)) ?_; (with_reducible refine (laws_markRing.calls kj60 t790 t791 (fun k_ => some k_ = (.slice Ao37 t792.length co37 : Value).ownBlock) (.slice Ao37 t792.length co37) t792 1 t807 t808 w _ ?side1 ?side2 A91.out).mono ?_); (case side1 => repeat (first | (with_reducible first | exact HB.out | apply below_alloc | apply pw_below_drewN | apply below_drew1 | refine below_set ?_ GE770.out | refine below_set ?_ GE783.out | refine below_set ?_ GE789.out | refine below_set ?_ GE796.out) | exact HB.out)); (case side2 => exact Kd.R_tight rfl HO_797002.out); rintro e w173 ⟨rfl, hy0, hb, hkp⟩; refine ⟨_, rfl, ?_⟩; have n0_ := Aside0.mk (Kd.R_mono (ok' := fun k_ => some k_ ≠ (.slice Ao30 t805.length co30 : Value).ownBlock ∧ some k_ ≠ (.slice Ao37 t792.length co37 : Value).ownBlock) (Kd.R_keptB (HO_784002.out) hkp (fun k_ hk_ hs_ => (hk_.2) hs_)) (fun k_ hk_ => ⟨hk_.1.1, hk_.1.2⟩)); have n1_ := Aside0.mk (Kd.R_mono (ok' := fun k_ => some k_ ≠ (.slice Ao23 t779.length co23 : Value).ownBlock ∧ some k_ ≠ (.slice Ao37 t792.length co37 : Value).ownBlock) (Kd.R_keptB (HO_790002.out) hkp (fun k_ hk_ hs_ => (hk_.2) hs_)) (fun k_ hk_ => ⟨hk_.1.1, hk_.1.2⟩)); have n2_ := Aside0.mk (Kd.R_reok rfl hy0 (fun k_ e_ => HO_797002.out.1 k_ e_)); have n3_ := Aside0.mk (blk_kept (by (with_reducible repeat (first | refine blk_drewN ?_ _ | refine blk_drew ?_ | refine blk_alloc ?_ _)); exact BK770.out) hkp (fun hs_ => (fun e_ => (Kd.R_ne HO_797002.out BK770.out (by decide)) e_) hs_)); have n4_ := Aside0.mk (blk_kept (by (with_reducible repeat (first | refine blk_drewN ?_ _ | refine blk_drew ?_ | refine blk_alloc ?_ _)); exact BK783.out) hkp (fun hs_ => (fun e_ => (Kd.R_ne HO_797002.out BK783.out (by decide)) e_) hs_)); have n5_ := Aside0.mk (blk_kept (by (with_reducible repeat (first | refine blk_drewN ?_ _ | refine blk_drew ?_ | refine blk_alloc ?_ _)); exact BK789.out) hkp (fun hs_ => (fun e_ => (Kd.R_ne HO_797002.out BK789.out (by decide)) e_) hs_)); have n6_ := Aside0.mk (blk_kept (by (with_reducible repeat (first | refine blk_drewN ?_ _ | refine blk_drew ?_ | refine blk_alloc ?_ _)); exact BK796.out) hkp (fun hs_ => (fun e_ => (Kd.R_ne HO_797002.out BK796.out (by decide)) e_) hs_)); have n7_ := Aside0.mk (hb); clear HO_784002; clear HO_790002; clear HO_797002; clear BK770; clear BK783; clear BK789; clear BK796; clear HB; have HO_784002 := n0_; have HO_790002 := n1_; have HO_797002 := n2_; have BK770 := n3_; have BK783 := n4_; have BK789 := n5_; have BK796 := n6_; have HB := n7_; clear n0_ n1_ n2_ n3_ n4_ n5_ n6_ n7_; (try clear hb); (try clear hkp); (try clear hy0); have hcz174_0 : w173.cell? ⟨gb796, 0, none⟩ = some (.int .i64 t790) := (blk_cell BK796.out 0).trans rfl; have hcz174_1 : w173.cell? ⟨gb796, 1, none⟩ = some (.int .i64 t791) := (blk_cell BK796.out 1).trans rfl; have hcz174_2 : w173.cell? ⟨gb796, 2, none⟩ = some (.slice Ao37 t792.length co37) := (blk_cell BK796.out 2).trans rfl; have hfz174_0 := blk_frozen BK796.out 0; have hfz174_1 := blk_frozen BK796.out 1; have hfz174_2 := blk_frozen BK796.out 2) | ((with_reducible refine gate_callee (f := 26) rfl ?_); refine goesL_ (some 71) rfl rfl Try.func26 (by kernel_rfl) rfl #[.agg #[.int .i64 t790, .int .i64 t791, .slice Ao37 t808.length co37], .int .i64 1] rfl (by (try simp only [List.map_toArray, List.map_cons, List.map_nil]); first | done | (rw [show t808.length = t792.length from (Kd.R_reads' HO_797002.out).1.symm] <;> rfl) | rfl | (simp only [List.length_drop, List.length_take]; rfl)) ?_; (with_reducible refine (laws_heldRing.calls kj60 t790 t791 _ _ t808 1 t809 _ ?side1 ?side2 A92.out).mono ?_); (case side1 => repeat (first | exact (Kd.R_reads' HO_797002.out).2.2 | (with_reducible refine Kd.C_alloc ?_ _) | (with_reducible refine Kd.C_drewN ?_ _) | (with_reducible refine Kd.C_drew ?_))); (case side2 => rw [show t808.length = t792.length from (Kd.R_reads' HO_797002.out).1.symm]; exact (Kd.R_reads' HO_797002.out).2.1); rintro e w175 ⟨rfl, hb⟩; refine ⟨_, rfl, ?_⟩; have n0_ := Aside0.mk (Kd.R_below (by (with_reducible repeat (first | apply Kd.R_alloc | apply Kd.R_drewN | apply Kd.R_drew)); exact HO_784002.out) hb); have n1_ := Aside0.mk (Kd.R_below (by (with_reducible repeat (first | apply Kd.R_alloc | apply Kd.R_drewN | apply Kd.R_drew)); exact HO_790002.out) hb); have n2_ := Aside0.mk (Kd.R_below (by (with_reducible repeat (first | apply Kd.R_alloc | apply Kd.R_drewN | apply Kd.R_drew)); exact HO_797002.out) hb); have n3_ := Aside0.mk (blk_below (g := gb770) (o := .cells #[.int .i64 a0_0, .int .i64 a0_1, .slice A0_2 l0_2.length c0_2] 32 (0, 0)) (by (with_reducible repeat (first | refine blk_drewN ?_ _ | refine blk_drew ?_ | refine blk_alloc ?_ _)); exact BK770.out) hb); have n4_ := Aside0.mk (blk_below (g := gb783) (o := .cells #[.int .i64 t777, .int .i64 t778, .slice Ao23 t779.length co23] 25 (0, 0)) (by (with_reducible repeat (first | refine blk_drewN ?_ _ | refine blk_drew ?_ | refine blk_alloc ?_ _)); exact BK783.out) hb); have n5_ := Aside0.mk (blk_below (g := gb789) (o := .cells #[.int .i64 t784, .int .i64 t785, .slice Ao30 t805.length co30] 25 (0, 0)) (by (with_reducible repeat (first | refine blk_drewN ?_ _ | refine blk_drew ?_ | refine blk_alloc ?_ _)); exact BK789.out) hb); have n6_ := Aside0.mk (blk_below (g := gb796) (o := .cells #[.int .i64 t790, .int .i64 t791, .slice Ao37 t792.length co37] 25 (0, 0)) (by (with_reducible repeat (first | refine blk_drewN ?_ _ | refine blk_drew ?_ | refine blk_alloc ?_ _)); exact BK796.out) hb); have n7_ := Aside0.mk (below_step (by repeat (first | (with_reducible first | exact HB.out | apply below_alloc | apply pw_below_drewN | apply below_drew1 | refine below_set ?_ GE770.out | refine below_set ?_ GE783.out | refine below_set ?_ GE789.out | refine below_set ?_ GE796.out) | exact HB.out)) hb); clear HO_784002; clear HO_790002; clear HO_797002; clear BK770; clear BK783; clear BK789; clear BK796; clear HB; have HO_784002 := n0_; have HO_790002 := n1_; have HO_797002 := n2_; have BK770 := n3_; have BK783 := n4_; have BK789 := n5_; have BK796 := n6_; have HB := n7_; clear n0_ n1_ n2_ n3_ n4_ n5_ n6_ n7_; (try clear hb); (try clear hb2); (try clear hk); (try clear hi)))
           go_ret
           exact ⟨by first | rfl | (simp [errW_none, errW_some] <;> rfl) | (simp [*, errW_none, errW_some] <;> rfl), by repeat (first | (with_reducible first | exact HB.out | apply below_alloc | apply pw_below_drewN | apply below_drew1 | refine below_set ?_ GE770.out | refine below_set ?_ GE783.out | refine below_set ?_ GE789.out | refine below_set ?_ GE796.out) | exact HB.out)⟩
     ·replace c59 := Bool.eq_false_iff.mpr c59
      subst c59
      have H1 : (some false) = some r := by rw [if_neg (show ¬ (false = true) by decide)] at H; exact H
      clear H
      have H := H1
      clear H1
      obtain rfl := Option.some.inj H
      try go_wp2
      have n0_ := Aside0.mk (Kd.R_drew HO_784002.out)
      have n1_ := Aside0.mk (Kd.R_drew HO_790002.out)
      have n2_ := Aside0.mk (Kd.R_drew HO_797002.out)
      have n3_ := Aside0.mk (blk_drew BK770.out)
      have n4_ := Aside0.mk (blk_drew BK783.out)
      have n5_ := Aside0.mk (blk_drew BK789.out)
      have n6_ := Aside0.mk (blk_drew BK796.out)
      have n7_ := Aside0.mk (below_drew1 HB.out)
      clear HO_784002
      clear HO_790002
      clear HO_797002
      clear BK770
      clear BK783
      clear BK789
      clear BK796
      clear HB
      have HO_784002 := n0_
      have HO_790002 := n1_
      have HO_797002 := n2_
      have BK770 := n3_
      have BK783 := n4_
      have BK789 := n5_
      have BK796 := n6_
      have HB := n7_
      clear n0_ n1_ n2_ n3_ n4_ n5_ n6_ n7_
      refine start_ (n := 5) (S := fun w' => w'.cell? ⟨gb789, 0, none⟩ = some (.int .i64 t784) ∧ w'.cell? ⟨gb789, 1, none⟩ = some (.int .i64 t785) ∧ w'.cell? ⟨gb789, 2, none⟩ = some (.slice Ao30 t786.length co30) ∧ w'.cell? ⟨gb770, 0, none⟩ = some (.int .i64 a0_0) ∧ w'.cell? ⟨gb770, 1, none⟩ = some (.int .i64 a0_1) ∧ w'.cell? ⟨gb770, 2, none⟩ = some (.slice A0_2 l0_2.length c0_2)) (ds := []) #[false, false, false, false, false] (by kernel_rfl) rfl rfl ⟨(blk_cell BK789.out 0).trans rfl, (blk_cell BK789.out 1).trans rfl, (blk_cell BK789.out 2).trans rfl, (blk_cell BK770.out 0).trans rfl, (blk_cell BK770.out 1).trans rfl, (blk_cell BK770.out 2).trans rfl⟩ (fun hHeld => ?_)
      generalize wc.drew = w176 at HO_784002 HO_790002 HO_797002 BK770 BK783 BK789 BK796 HB hHeld ⊢
      refine take_ (i := 0) (N := some 45) (v := ?_) (a' := ?_) #[true, false, false, false, false] rfl rfl (by kernel_rfl) (fun _ _ _ h => h) (Or.inl ⟨by rfl, ?_⟩) hHeld ?_ ?_
      rotate_left
      ·rintro w' ⟨s0, s1, s2, s3, s4, s5⟩
       go_simp
       with_reducible rfl
      rotate_left
      ·simp only [Act.put, List.setIfInBounds_toArray, List.set_cons_zero, List.set_cons_succ, i64_w, i32_w]
       rfl
      refine take_ (i := 1) (N := some 46) (v := ?_) (a' := ?_) #[true, true, false, false, false] rfl rfl (by kernel_rfl) (fun _ _ _ h => h) (Or.inl ⟨by rfl, ?_⟩) hHeld ?_ ?_
      rotate_left
      ·rintro w' ⟨s0, s1, s2, s3, s4, s5⟩
       go_simp
       with_reducible rfl
      rotate_left
      ·simp only [Act.put, List.setIfInBounds_toArray, List.set_cons_zero, List.set_cons_succ, i64_w, i32_w]
       rfl
      refine one_ (i := 2) (N := some 47) #[true, true, true, false, false] rfl rfl (by kernel_rfl) (by decide) (fun K hK => ?_)
      refine goes_ Try.func22 (by kernel_rfl) rfl #[.agg #[.int .i64 a0_0, .int .i64 a0_1, .slice A0_2 l0_2.length c0_2]] (by rfl) rfl rfl (by (try simp only [List.map_toArray, List.map_cons, List.map_nil]); first | done | rfl | (simp only [List.length_drop, List.length_take]; rfl)) ?_
      with_reducible refine (laws_toRing.calls kj11 a0_0 a0_1 _ _ l0_2 t798 t799 t800 _ ?side1 ?side2 A57.out).mono ?_
      (case side1 => repeat (first | exact (Kd.C_below HR0_2.out HB.out) | (with_reducible refine Kd.C_alloc ?_ _) | (with_reducible refine Kd.C_drewN ?_ _) | (with_reducible refine Kd.C_drew ?_)))
      (case side2 => exact HC0_2.out)
      rintro e w177 ⟨v801, rfl, ho0, hb⟩
      refine ⟨_, rfl, ?_⟩
      have n0_ := Aside0.mk (Kd.R_elder' (by (with_reducible repeat (first | apply Kd.R_alloc | apply Kd.R_drewN | apply Kd.R_drew)); exact HO_784002.out) (Kd.R_base ho0) hb)
      have n1_ := Aside0.mk (Kd.R_elder' (by (with_reducible repeat (first | apply Kd.R_alloc | apply Kd.R_drewN | apply Kd.R_drew)); exact HO_790002.out) (Kd.R_base ho0) hb)
      have n2_ := Aside0.mk (Kd.R_elder' (by (with_reducible repeat (first | apply Kd.R_alloc | apply Kd.R_drewN | apply Kd.R_drew)); exact HO_797002.out) (Kd.R_base ho0) hb)
      have n3_ := Aside0.mk (Kd.R_lower (Kd.R_new' (Kd.R_new' (Kd.R_new' ho0 (Kd.R_lt (by (with_reducible repeat (first | apply Kd.R_alloc | apply Kd.R_drewN | apply Kd.R_drew)); exact HO_784002.out))) (Kd.R_lt (by (with_reducible repeat (first | apply Kd.R_alloc | apply Kd.R_drewN | apply Kd.R_drew)); exact HO_790002.out))) (Kd.R_lt (by (with_reducible repeat (first | apply Kd.R_alloc | apply Kd.R_drewN | apply Kd.R_drew)); exact HO_797002.out))) (below_size (by repeat (first | (with_reducible first | exact HB.out | apply below_alloc | apply pw_below_drewN | apply below_drew1 | refine below_set ?_ GE770.out | refine below_set ?_ GE783.out | refine below_set ?_ GE789.out | refine below_set ?_ GE796.out) | exact HB.out))))
      have n4_ := Aside0.mk (blk_below (g := gb770) (o := .cells #[.int .i64 a0_0, .int .i64 a0_1, .slice A0_2 l0_2.length c0_2] 32 (0, 0)) (by (with_reducible repeat (first | refine blk_drewN ?_ _ | refine blk_drew ?_ | refine blk_alloc ?_ _)); exact BK770.out) hb)
      have n5_ := Aside0.mk (blk_below (g := gb783) (o := .cells #[.int .i64 t777, .int .i64 t778, .slice Ao23 t779.length co23] 25 (0, 0)) (by (with_reducible repeat (first | refine blk_drewN ?_ _ | refine blk_drew ?_ | refine blk_alloc ?_ _)); exact BK783.out) hb)
      have n6_ := Aside0.mk (blk_below (g := gb789) (o := .cells #[.int .i64 t784, .int .i64 t785, .slice Ao30 t786.length co30] 25 (0, 0)) (by (with_reducible repeat (first | refine blk_drewN ?_ _ | refine blk_drew ?_ | refine blk_alloc ?_ _)); exact BK789.out) hb)
      have n7_ := Aside0.mk (blk_below (g := gb796) (o := .cells #[.int .i64 t790, .int .i64 t791, .slice Ao37 t792.length co37] 25 (0, 0)) (by (with_reducible repeat (first | refine blk_drewN ?_ _ | refine blk_drew ?_ | refine blk_alloc ?_ _)); exact BK796.out) hb)
      have n8_ := Aside0.mk (below_step (by repeat (first | (with_reducible first | exact HB.out | apply below_alloc | apply pw_below_drewN | apply below_drew1 | refine below_set ?_ GE770.out | refine below_set ?_ GE783.out | refine below_set ?_ GE789.out | refine below_set ?_ GE796.out) | exact HB.out)) hb)
      clear HO_784002
      clear HO_790002
      clear HO_797002
      clear BK770
      clear BK783
      clear BK789
      clear BK796
      clear HB
      have HO_784002 := n0_
      have HO_790002 := n1_
      have HO_797002 := n2_
      have HO802 := n3_
      have BK770 := n4_
      have BK783 := n5_
      have BK789 := n6_
      have BK796 := n7_
      have HB := n8_
      clear n0_ n1_ n2_ n3_ n4_ n5_ n6_ n7_ n8_
      (try clear hb)
      (try clear hb2)
      (try clear hk)
      (try clear hi)
      (try clear ho0)
      obtain ⟨Ao178, co178, eo178⟩ := Kd.R_slice HO802.out
      (first | subst eo178 | (injection eo178 with f1_ f2_ f3_; have f4_ := f1_.symm; have f5_ := f3_.symm; clear f1_ f2_ f3_; subst f4_; subst f5_))
      refine hK.out _ _ ⟨(blk_cell BK789.out 0).trans rfl, (blk_cell BK789.out 1).trans rfl, (blk_cell BK789.out 2).trans rfl, (blk_cell BK770.out 0).trans rfl, (blk_cell BK770.out 1).trans rfl, (blk_cell BK770.out 2).trans rfl⟩ (fun hHeld => ?_)
      clear hK K
      refine norm_ (a' := ?_) ?_ ?_
      rotate_left
      ·show Act.put _ (some 47) _ = _
       simp only [Act.put, List.setIfInBounds_toArray, List.set_cons_zero, List.set_cons_succ, i64_w, i32_w]
       rfl
      refine one_ (i := 3) (N := some 48) #[true, true, true, true, false] rfl rfl (by kernel_rfl) (by decide) (fun K hK => ?_)
      refine goes_ Try.func24 (by kernel_rfl) rfl #[.agg #[.int .i64 t784, .int .i64 t785, .slice Ao30 t786.length co30], .agg #[.int .i64 t798, .int .i64 t799, .slice Ao178 t800.length co178]] (by rfl) rfl rfl (by (try simp only [List.map_toArray, List.map_cons, List.map_nil]); first | done | rfl | (simp only [List.length_drop, List.length_take]; rfl)) ?_
      with_reducible refine (laws_eqRing.calls kj11 t784 t785 _ _ t786 t798 t799 _ _ t800 false _ ?side1 ?side2 ?side3 ?side4 A58.out).mono ?_
      (case side1 => repeat (first | exact (Kd.R_reads' HO_790002.out).2.2 | (with_reducible refine Kd.C_alloc ?_ _) | (with_reducible refine Kd.C_drewN ?_ _) | (with_reducible refine Kd.C_drew ?_)))
      (case side2 => exact (Kd.R_reads' HO_790002.out).2.1)
      (case side3 => repeat (first | exact (Kd.R_reads' HO802.out).2.2 | (with_reducible refine Kd.C_alloc ?_ _) | (with_reducible refine Kd.C_drewN ?_ _) | (with_reducible refine Kd.C_drew ?_)))
      (case side4 => exact (Kd.R_reads' HO802.out).2.1)
      rintro e w179 ⟨rfl, hb⟩
      refine ⟨_, rfl, ?_⟩
      have n0_ := Aside0.mk (Kd.R_below (by (with_reducible repeat (first | apply Kd.R_alloc | apply Kd.R_drewN | apply Kd.R_drew)); exact HO_784002.out) hb)
      have n1_ := Aside0.mk (Kd.R_below (by (with_reducible repeat (first | apply Kd.R_alloc | apply Kd.R_drewN | apply Kd.R_drew)); exact HO_790002.out) hb)
      have n2_ := Aside0.mk (Kd.R_below (by (with_reducible repeat (first | apply Kd.R_alloc | apply Kd.R_drewN | apply Kd.R_drew)); exact HO_797002.out) hb)
      have n3_ := Aside0.mk (Kd.R_below (by (with_reducible repeat (first | apply Kd.R_alloc | apply Kd.R_drewN | apply Kd.R_drew)); exact HO802.out) hb)
      have n4_ := Aside0.mk (blk_below (g := gb770) (o := .cells #[.int .i64 a0_0, .int .i64 a0_1, .slice A0_2 l0_2.length c0_2] 32 (0, 0)) (by (with_reducible repeat (first | refine blk_drewN ?_ _ | refine blk_drew ?_ | refine blk_alloc ?_ _)); exact BK770.out) hb)
      have n5_ := Aside0.mk (blk_below (g := gb783) (o := .cells #[.int .i64 t777, .int .i64 t778, .slice Ao23 t779.length co23] 25 (0, 0)) (by (with_reducible repeat (first | refine blk_drewN ?_ _ | refine blk_drew ?_ | refine blk_alloc ?_ _)); exact BK783.out) hb)
      have n6_ := Aside0.mk (blk_below (g := gb789) (o := .cells #[.int .i64 t784, .int .i64 t785, .slice Ao30 t786.length co30] 25 (0, 0)) (by (with_reducible repeat (first | refine blk_drewN ?_ _ | refine blk_drew ?_ | refine blk_alloc ?_ _)); exact BK789.out) hb)
      have n7_ := Aside0.mk (blk_below (g := gb796) (o := .cells #[.int .i64 t790, .int .i64 t791, .slice Ao37 t792.length co37] 25 (0, 0)) (by (with_reducible repeat (first | refine blk_drewN ?_ _ | refine blk_drew ?_ | refine blk_alloc ?_ _)); exact BK796.out) hb)
      have n8_ := Aside0.mk (below_step (by repeat (first | (with_reducible first | exact HB.out | apply below_alloc | apply pw_below_drewN | apply below_drew1 | refine below_set ?_ GE770.out | refine below_set ?_ GE783.out | refine below_set ?_ GE789.out | refine below_set ?_ GE796.out) | exact HB.out)) hb)
      clear HO_784002
      clear HO_790002
      clear HO_797002
      clear HO802
      clear BK770
      clear BK783
      clear BK789
      clear BK796
      clear HB
      have HO_784002 := n0_
      have HO_790002 := n1_
      have HO_797002 := n2_
      have HO802 := n3_
      have BK770 := n4_
      have BK783 := n5_
      have BK789 := n6_
      have BK796 := n7_
      have HB := n8_
      clear n0_ n1_ n2_ n3_ n4_ n5_ n6_ n7_ n8_
      (try clear hb)
      (try clear hb2)
      (try clear hk)
      (try clear hi)
      refine hK.out _ _ ⟨(blk_cell BK789.out 0).trans rfl, (blk_cell BK789.out 1).trans rfl, (blk_cell BK789.out 2).trans rfl, (blk_cell BK770.out 0).trans rfl, (blk_cell BK770.out 1).trans rfl, (blk_cell BK770.out 2).trans rfl⟩ (fun hHeld => ?_)
      clear hK K
      refine norm_ (a' := ?_) ?_ ?_
      rotate_left
      ·show Act.put _ (some 48) _ = _
       simp only [Act.put, List.setIfInBounds_toArray, List.set_cons_zero, List.set_cons_succ, i64_w, i32_w]
       rfl
      refine pure_ (i := 4) (N := some 49) (v := ?_) (a' := ?_) #[true, true, true, true, true] rfl rfl (by kernel_rfl) (fun _ _ _ h => h) (Or.inl ⟨by rfl, ?_⟩) ?_ ?_
      rotate_left
      ·intro w'
       go_simp
       with_reducible rfl
      rotate_left
      ·simp only [Act.put, List.setIfInBounds_toArray, List.set_cons_zero, List.set_cons_succ, i64_w, i32_w]
       rfl
      refine done_ (by kernel_rfl) ?_
      try go_wp2
      go_ret
      exact ⟨by first | rfl | (simp [errW_none, errW_some] <;> rfl) | (simp [*, errW_none, errW_some] <;> rfl), by repeat (first | (with_reducible first | exact HB.out | apply below_alloc | apply pw_below_drewN | apply below_drew1 | refine below_set ?_ GE770.out | refine below_set ?_ GE783.out | refine below_set ?_ GE789.out | refine below_set ?_ GE796.out) | exact HB.out)⟩

/-- The pure statement of laws_FnExactCutLink. -/
def laws_FnExactCutLink.Pure : Prop := ∀ (a0_0 : Int) (a0_1 : Int) (l0_2 : List Int) (a1 : Int), (Lit.int .i64 a0_0).wf = true → (Lit.int .i64 a0_1).wf = true → (l0_2.length ≤ maxLen ∧ ∀ y0 ∈ l0_2, (Lit.int .i64 y0).wf = true) → (Lit.int .i64 a1).wf = true → ∃ k, laws_FnExactCutLink.f k a0_0 a0_1 l0_2 a1 = some true
theorem laws_FnExactCutLink.walk (P : laws_FnExactCutLink.Pure) (a0_0 : Int) (a0_1 : Int) (A0_2 : Option Addr) (c0_2 : Nat) (l0_2 : List Int) (a1 : Int) (w : World) (w0_0 : (Lit.int .i64 a0_0).wf = true) (w0_1 : (Lit.int .i64 a0_1).wf = true) (hr0_2 : Kd.C (Kd.int .i64) w A0_2 l0_2.length l0_2) (hc0_2 : l0_2.length ≤ c0_2) (hm0_2 : (l0_2.length ≤ maxLen ∧ ∀ y0 ∈ l0_2, (Lit.int .i64 y0).wf = true)) (w1 : (Lit.int .i64 a1).wf = true) :
  Calls Try.prog 11 #[.agg #[.int .i64 a0_0, .int .i64 a0_1, .slice A0_2 l0_2.length c0_2], .int .i64 a1] w fun e w' => e = .returned (.bool true) ∧ Below w.heap.size w w' := by
 obtain ⟨k, h⟩ := P a0_0 a0_1 l0_2 a1 w0_0 w0_1 hm0_2 w1
 refine (laws_FnExactCutLink.calls k a0_0 a0_1 _ _ l0_2 a1 true _ hr0_2 hc0_2 h).mono ?_
 rintro e w' ⟨rfl, hd⟩
 exact ⟨rfl, hd⟩

end Go.Proofs.Ytdnehickciaiiaa.PAll

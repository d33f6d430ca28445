/- Proved here: contracts of functions of the given program, or lemmas on them, for the laws of this seat. Written by xprint.py, a program of this session, on the ground of the kit's print; parts by hand: wip/x/ext. -/
import Derived.Test.YtdamdcdjodmemaaPAllx0
import Derived.Test.YtdamdcdjodmemaaPAllx1
import Derived.Test.YtdamdcdjodmemaaPAllx2
import Derived.Test.YtdamdcdjodmemaaPAllx3
import Derived.Test.YtdamdcdjodmemaaPAllx4
import Derived.Test.YtdamdcdjodmemaaPAllx5
import Derived.Test.YtdamdcdjodmemaaPAllx6
namespace Go.Proofs.Ytdamdcdjodmemaa.PAll
open Go.RowKit Go.Proofs.YtdamdcdjodmemaaW.PrintWords Go.Proofs.YtdamdcdjodmemaaW.PrintLast Go.Proofs.YtdamdcdjodmemaaW.PrintMore
attribute [local go_sem] max2_int min2_int max_two min_two max_three min_three max_four min_four   -- for this text's walks alone
set_option linter.unusedVariables false
set_option linter.unusedSimpArgs false

/-! ### laws_FnCutCable: function 7 -/
mutual
def laws_FnCutCable.j0 : Nat → Int → Bool → Bool → Bool → Int → List (S51) → List Int → List Int → Int → List (S51) → List Int → List Int → Int → List (S51) → List Int → List Int → Option (Bool)
 | 0,_,_,_,_,_,_,_,_,_,_,_,_,_,_,_,_ => none
 | k + 1,x4,x6,x8,x49,x442000,x442001,x442002,x442003,x454000,x454001,x454002,x454003,x466000,x466001,x466002,x466003 => if x49 = true then (if (x6 == x8) = true then (some ((x454001.length : Int) == (x466001.length : Int))) else (some false)) else (laws_FnCutCable.l0 k x4 (x442002.length : Int) 0 x442000 x442001 x442002 x442003 x454000 x454001 x454002 x454003)
def laws_FnCutCable.l0 : Nat → Int → Int → Int → Int → List (S51) → List Int → List Int → Int → List (S51) → List Int → List Int → Option (Bool)
 | 0,_,_,_,_,_,_,_,_,_,_,_ => none
 | k + 1,x4,x64,x65,x442000,x442001,x442002,x442003,x454000,x454001,x454002,x454003 => if x65 < x64 then ((impl_MatesOf.f k x442000 x442001 x442002 x442003 x65).bind fun t467 => ((impl_MatesOf.f k x454000 x454001 x454002 x454003 x65).bind fun t470 => (laws_FnCutCable.l1 k x4 t467 t470 x64 x65 t470 (t470.length : Int) 0 x442000 x442001 x442002 x442003 x454000 x454001 x454002 x454003))) else ((impl_NetValid.f x454000 x454001 x454002 x454003).bind fun t466 => (if t466 = true then (some ((x454001.length : Int) == (wrap64 ((x442001.length : Int) - 1)))) else (some false)))
def laws_FnCutCable.l1 : Nat → Int → List Int → List Int → Int → Int → List Int → Int → Int → Int → List (S51) → List Int → List Int → Int → List (S51) → List Int → List Int → Option (Bool)
 | 0,_,_,_,_,_,_,_,_,_,_,_,_,_,_,_,_ => none
 | k + 1,x4,x10,x11,x64,x65,x74,x75,x76,x442000,x442001,x442002,x442003,x454000,x454001,x454002,x454003 => if x76 < x75 then (if 0 ≤ x76 then (if x76 < (x74.length : Int) then ((laws_wnHas.f k x10 (rd x74 x76)).bind fun t474 => (if t474 = true then (laws_FnCutCable.l1 k x4 x10 x11 x64 x65 x74 x75 (wrap64 (x76 + 1)) x442000 x442001 x442002 x442003 x454000 x454001 x454002 x454003) else (some false))) else (none)) else (none)) else ((impl_TreeOf.f k x442000 x442001).bind fun t475 => ((laws_wnHas.f k t475 x4).bind fun t478 => (if t478 = true then (laws_FnCutCable.l0 k x4 x64 (wrap64 (x65 + 1)) x442000 x442001 x442002 x442003 x454000 x454001 x454002 x454003) else ((laws_wnInts.f k x10 x11).bind fun t479 => (if t479 = true then (laws_FnCutCable.l0 k x4 x64 (wrap64 (x65 + 1)) x442000 x442001 x442002 x442003 x454000 x454001 x454002 x454003) else (some false))))))
end
def laws_FnCutCable.f (k : Nat) (l0 : List Int) : Option (Bool):=if (l0.length : Int) > 1048576 then (some true) else ((spec_DrawCutCable.f k l0).bind fun bt430 => ((impl_CutCable.f k bt430.1 bt430.2.1 bt430.2.2.1 bt430.2.2.2.1 bt430.2.2.2.2).bind fun bt442 => ((spec_CutCable.f k bt430.1 bt430.2.1 bt430.2.2.1 bt430.2.2.2.1 bt430.2.2.2.2).bind fun bt454 => (if (bt442.2.2.2.2 != bt454.2.2.2.2) = true then (laws_FnCutCable.j0 k bt430.2.2.2.2 bt442.2.2.2.2 bt454.2.2.2.2 true bt430.1 bt430.2.1 bt430.2.2.1 bt430.2.2.2.1 bt442.1 bt442.2.1 bt442.2.2.1 bt442.2.2.2.1 bt454.1 bt454.2.1 bt454.2.2.1 bt454.2.2.2.1) else (if (bt442.2.1.length : Int) = (bt454.2.1.length : Int) then (laws_FnCutCable.j0 k bt430.2.2.2.2 bt442.2.2.2.2 bt454.2.2.2.2 (!bt442.2.2.2.2) bt430.1 bt430.2.1 bt430.2.2.1 bt430.2.2.2.1 bt442.1 bt442.2.1 bt442.2.2.1 bt442.2.2.2.1 bt454.1 bt454.2.1 bt454.2.2.1 bt454.2.2.2.1) else (laws_FnCutCable.j0 k bt430.2.2.2.2 bt442.2.2.2.2 bt454.2.2.2.2 true bt430.1 bt430.2.1 bt430.2.2.1 bt430.2.2.2.1 bt442.1 bt442.2.1 bt442.2.2.1 bt442.2.2.2.1 bt454.1 bt454.2.1 bt454.2.2.1 bt454.2.2.2.1))))))
theorem laws_FnCutCable.mono_l : ∀ k,(∀ y0 y1 y2 y3 y4 y5 y6 y7 y8 y9 y10 y11 y12 y13 y14 y15,LeO (laws_FnCutCable.j0 k y0 y1 y2 y3 y4 y5 y6 y7 y8 y9 y10 y11 y12 y13 y14 y15) (laws_FnCutCable.j0 (k + 1) y0 y1 y2 y3 y4 y5 y6 y7 y8 y9 y10 y11 y12 y13 y14 y15)) ∧ (∀ y0 y1 y2 y3 y4 y5 y6 y7 y8 y9 y10,LeO (laws_FnCutCable.l0 k y0 y1 y2 y3 y4 y5 y6 y7 y8 y9 y10) (laws_FnCutCable.l0 (k + 1) y0 y1 y2 y3 y4 y5 y6 y7 y8 y9 y10)) ∧ (∀ y0 y1 y2 y3 y4 y5 y6 y7 y8 y9 y10 y11 y12 y13 y14 y15,LeO (laws_FnCutCable.l1 k y0 y1 y2 y3 y4 y5 y6 y7 y8 y9 y10 y11 y12 y13 y14 y15) (laws_FnCutCable.l1 (k + 1) y0 y1 y2 y3 y4 y5 y6 y7 y8 y9 y10 y11 y12 y13 y14 y15))
 | 0 => ⟨fun _ _ _ _ _ _ _ _ _ _ _ _ _ _ _ _ r h => by simp [laws_FnCutCable.j0] at h,fun _ _ _ _ _ _ _ _ _ _ _ r h => by simp [laws_FnCutCable.l0] at h,fun _ _ _ _ _ _ _ _ _ _ _ _ _ _ _ _ r h => by simp [laws_FnCutCable.l1] at h⟩
 | k + 1 => by
  obtain ⟨ih0,ih1,ih2⟩:=laws_FnCutCable.mono_l k
  refine ⟨?_,?_,?_⟩
  ·intro y0 y1 y2 y3 y4 y5 y6 y7 y8 y9 y10 y11 y12 y13 y14 y15
   unfold laws_FnCutCable.j0
   repeat' first
   | (with_reducible exact ih0 _ _ _ _ _ _ _ _ _ _ _ _ _ _ _ _)
   | (with_reducible exact ih1 _ _ _ _ _ _ _ _ _ _ _)
   | (with_reducible exact ih2 _ _ _ _ _ _ _ _ _ _ _ _ _ _ _ _)
   | (with_reducible exact impl_CutCable.mono _ _ _ _ _ _)
   | (with_reducible exact impl_MatesOf.mono _ _ _ _ _ _)
   | (with_reducible exact impl_TreeOf.mono _ _ _)
   | (with_reducible exact laws_wnHas.mono _ _ _)
   | (with_reducible exact laws_wnInts.mono _ _ _)
   | (with_reducible exact spec_CutCable.mono _ _ _ _ _ _)
   | (with_reducible exact spec_DrawCutCable.mono _ _)
   | (with_reducible exact LeO.refl _)
   | (with_reducible exact LeO.none _)
   | (with_reducible refine LeO.ite ?_ ?_)
   | (with_reducible refine LeO.bind ?_ (fun _ => ?_))
   | exact ih0 _ _ _ _ _ _ _ _ _ _ _ _ _ _ _ _
   | exact ih1 _ _ _ _ _ _ _ _ _ _ _
   | exact ih2 _ _ _ _ _ _ _ _ _ _ _ _ _ _ _ _
   | exact impl_CutCable.mono _ _ _ _ _ _
   | exact impl_MatesOf.mono _ _ _ _ _ _
   | exact impl_TreeOf.mono _ _ _
   | exact laws_wnHas.mono _ _ _
   | exact laws_wnInts.mono _ _ _
   | exact spec_CutCable.mono _ _ _ _ _ _
   | exact spec_DrawCutCable.mono _ _
   | exact LeO.none _
   | refine LeO.ite ?_ ?_
   | refine LeO.bind ?_ (fun _ => ?_)
  ·intro y0 y1 y2 y3 y4 y5 y6 y7 y8 y9 y10
   unfold laws_FnCutCable.l0
   repeat' first
   | (with_reducible exact ih0 _ _ _ _ _ _ _ _ _ _ _ _ _ _ _ _)
   | (with_reducible exact ih1 _ _ _ _ _ _ _ _ _ _ _)
   | (with_reducible exact ih2 _ _ _ _ _ _ _ _ _ _ _ _ _ _ _ _)
   | (with_reducible exact impl_CutCable.mono _ _ _ _ _ _)
   | (with_reducible exact impl_MatesOf.mono _ _ _ _ _ _)
   | (with_reducible exact impl_TreeOf.mono _ _ _)
   | (with_reducible exact laws_wnHas.mono _ _ _)
   | (with_reducible exact laws_wnInts.mono _ _ _)
   | (with_reducible exact spec_CutCable.mono _ _ _ _ _ _)
   | (with_reducible exact spec_DrawCutCable.mono _ _)
   | (with_reducible exact LeO.refl _)
   | (with_reducible exact LeO.none _)
   | (with_reducible refine LeO.ite ?_ ?_)
   | (with_reducible refine LeO.bind ?_ (fun _ => ?_))
   | exact ih0 _ _ _ _ _ _ _ _ _ _ _ _ _ _ _ _
   | exact ih1 _ _ _ _ _ _ _ _ _ _ _
   | exact ih2 _ _ _ _ _ _ _ _ _ _ _ _ _ _ _ _
   | exact impl_CutCable.mono _ _ _ _ _ _
   | exact impl_MatesOf.mono _ _ _ _ _ _
   | exact impl_TreeOf.mono _ _ _
   | exact laws_wnHas.mono _ _ _
   | exact laws_wnInts.mono _ _ _
   | exact spec_CutCable.mono _ _ _ _ _ _
   | exact spec_DrawCutCable.mono _ _
   | exact LeO.none _
   | refine LeO.ite ?_ ?_
   | refine LeO.bind ?_ (fun _ => ?_)
  ·intro y0 y1 y2 y3 y4 y5 y6 y7 y8 y9 y10 y11 y12 y13 y14 y15
   unfold laws_FnCutCable.l1
   repeat' first
   | (with_reducible exact ih0 _ _ _ _ _ _ _ _ _ _ _ _ _ _ _ _)
   | (with_reducible exact ih1 _ _ _ _ _ _ _ _ _ _ _)
   | (with_reducible exact ih2 _ _ _ _ _ _ _ _ _ _ _ _ _ _ _ _)
   | (with_reducible exact impl_CutCable.mono _ _ _ _ _ _)
   | (with_reducible exact impl_MatesOf.mono _ _ _ _ _ _)
   | (with_reducible exact impl_TreeOf.mono _ _ _)
   | (with_reducible exact laws_wnHas.mono _ _ _)
   | (with_reducible exact laws_wnInts.mono _ _ _)
   | (with_reducible exact spec_CutCable.mono _ _ _ _ _ _)
   | (with_reducible exact spec_DrawCutCable.mono _ _)
   | (with_reducible exact LeO.refl _)
   | (with_reducible exact LeO.none _)
   | (with_reducible refine LeO.ite ?_ ?_)
   | (with_reducible refine LeO.bind ?_ (fun _ => ?_))
   | exact ih0 _ _ _ _ _ _ _ _ _ _ _ _ _ _ _ _
   | exact ih1 _ _ _ _ _ _ _ _ _ _ _
   | exact ih2 _ _ _ _ _ _ _ _ _ _ _ _ _ _ _ _
   | exact impl_CutCable.mono _ _ _ _ _ _
   | exact impl_MatesOf.mono _ _ _ _ _ _
   | exact impl_TreeOf.mono _ _ _
   | exact laws_wnHas.mono _ _ _
   | exact laws_wnInts.mono _ _ _
   | exact spec_CutCable.mono _ _ _ _ _ _
   | exact spec_DrawCutCable.mono _ _
   | exact LeO.none _
   | refine LeO.ite ?_ ?_
   | refine LeO.bind ?_ (fun _ => ?_)
theorem laws_FnCutCable.mono : ∀ a0 k,LeO (laws_FnCutCable.f k a0) (laws_FnCutCable.f (k + 1) a0):=by
 intro a0 k
 obtain ⟨ih0,ih1,ih2⟩:=laws_FnCutCable.mono_l k
 unfold laws_FnCutCable.f
 repeat' first
   | (with_reducible exact ih0 _ _ _ _ _ _ _ _ _ _ _ _ _ _ _ _)
   | (with_reducible exact ih1 _ _ _ _ _ _ _ _ _ _ _)
   | (with_reducible exact ih2 _ _ _ _ _ _ _ _ _ _ _ _ _ _ _ _)
   | (with_reducible exact impl_CutCable.mono _ _ _ _ _ _)
   | (with_reducible exact impl_MatesOf.mono _ _ _ _ _ _)
   | (with_reducible exact impl_TreeOf.mono _ _ _)
   | (with_reducible exact laws_wnHas.mono _ _ _)
   | (with_reducible exact laws_wnInts.mono _ _ _)
   | (with_reducible exact spec_CutCable.mono _ _ _ _ _ _)
   | (with_reducible exact spec_DrawCutCable.mono _ _)
   | (with_reducible exact LeO.refl _)
   | (with_reducible exact LeO.none _)
   | (with_reducible refine LeO.ite ?_ ?_)
   | (with_reducible refine LeO.bind ?_ (fun _ => ?_))
   | exact ih0 _ _ _ _ _ _ _ _ _ _ _ _ _ _ _ _
   | exact ih1 _ _ _ _ _ _ _ _ _ _ _
   | exact ih2 _ _ _ _ _ _ _ _ _ _ _ _ _ _ _ _
   | exact impl_CutCable.mono _ _ _ _ _ _
   | exact impl_MatesOf.mono _ _ _ _ _ _
   | exact impl_TreeOf.mono _ _ _
   | exact laws_wnHas.mono _ _ _
   | exact laws_wnInts.mono _ _ _
   | exact spec_CutCable.mono _ _ _ _ _ _
   | exact spec_DrawCutCable.mono _ _
   | exact LeO.none _
   | refine LeO.ite ?_ ?_
   | refine LeO.bind ?_ (fun _ => ?_)
def laws_FnCutCable.T11 : Bool × List (List Nat × List Nat):=(true,[([],[]),([],[]),([0,1],[0,1]),([],[]),([],[]),([3,4,2],[3,4]),([2,5,0,1,2],[2]),([5,6,0,1,2,3,4,5,6],[5])])
def laws_FnCutCable.B11 : List Nat:=[0,0,3,0,0,31,63,127]
theorem laws_FnCutCable.tab11 : rtab .any (opsOf Try.f7 11) = laws_FnCutCable.T11:=by kernel_rfl
theorem laws_FnCutCable.bits11 : waitsOk laws_FnCutCable.T11.2 laws_FnCutCable.B11 = true:=by kernel_rfl
set_option maxHeartbeats 8000000 in
set_option maxRecDepth 100000 in
theorem laws_FnCutCable.calls (k : Nat) (A0 : Option Addr) (c0 : Nat) (l0 : List Int) (r : Bool) (w : World) (hr0 : Kd.C (Kd.int .u8) w A0 l0.length l0) (hc0 : l0.length ≤ c0) (h : laws_FnCutCable.f k l0 = some r) :
  Calls Try.prog 7 #[.slice A0 l0.length c0] w fun e w' => e = .returned (.bool r) ∧ Below w.heap.size w w':=by
 have hu30:=Try.underlying30
 have HR0:=mk_ hr0
 have HC0:=mk_ hc0
 clear hr0 hc0
 have HB:=mk_ (Below.refl w.heap.size w)
 have H : (if (l0.length : Int) > 1048576 then (some true) else ((spec_DrawCutCable.f k l0).bind fun bt430 => ((impl_CutCable.f k bt430.1 bt430.2.1 bt430.2.2.1 bt430.2.2.2.1 bt430.2.2.2.2).bind fun bt442 => ((spec_CutCable.f k bt430.1 bt430.2.1 bt430.2.2.1 bt430.2.2.2.1 bt430.2.2.2.2).bind fun bt454 => (if (bt442.2.2.2.2 != bt454.2.2.2.2) = true then (laws_FnCutCable.j0 k bt430.2.2.2.2 bt442.2.2.2.2 bt454.2.2.2.2 true bt430.1 bt430.2.1 bt430.2.2.1 bt430.2.2.2.1 bt442.1 bt442.2.1 bt442.2.2.1 bt442.2.2.2.1 bt454.1 bt454.2.1 bt454.2.2.1 bt454.2.2.2.1) else (if (bt442.2.1.length : Int) = (bt454.2.1.length : Int) then (laws_FnCutCable.j0 k bt430.2.2.2.2 bt442.2.2.2.2 bt454.2.2.2.2 (!bt442.2.2.2.2) bt430.1 bt430.2.1 bt430.2.2.1 bt430.2.2.2.1 bt442.1 bt442.2.1 bt442.2.2.1 bt442.2.2.2.1 bt454.1 bt454.2.1 bt454.2.2.1 bt454.2.2.2.1) else (laws_FnCutCable.j0 k bt430.2.2.2.2 bt442.2.2.2.2 bt454.2.2.2.2 true bt430.1 bt430.2.1 bt430.2.2.1 bt430.2.2.2.1 bt442.1 bt442.2.1 bt442.2.2.1 bt442.2.2.2.1 bt454.1 bt454.2.1 bt454.2.2.1 bt454.2.2.2.1))))))) = some r:=h
 clear h
 by_cases c2 : (l0.length : Int) > 1048576
 ·rw [if_pos c2] at H
  have c2b0 : decide (1048576 < (l0.length : Int)) = true:=decide_eq_true c2
  have c2b1 : decide (1048576 < l0.length) = true:=decide_eq_true (by omega)
  clear c2
  obtain rfl:=Option.some.inj H
  go_enter Try.func7,Try.ntmps7
  go_wp2
  go_ret
  exact ⟨by first|rfl|(simp [errW_none,errW_some] <;> rfl)|(simp [*,errW_none,errW_some] <;> rfl),by repeat (first|(with_reducible first|exact HB.out|apply ba_|apply bn_|apply bd_)|exact HB.out)⟩
 ·rw [if_neg c2] at H
  have c2b0 : decide (1048576 < (l0.length : Int)) = false:=decide_eq_false c2
  have c2b1 : decide (1048576 < l0.length) = false:=decide_eq_false (by omega)
  clear c2
  replace H:=Option.bind_eq_some_iff.mp H
  obtain ⟨⟨t430,t431,t434,t437,t440⟩,A30,H⟩:=H
  replace H : ((impl_CutCable.f k t430 t431 t434 t437 t440).bind fun bt442 => ((spec_CutCable.f k t430 t431 t434 t437 t440).bind fun bt454 => (if (bt442.2.2.2.2 != bt454.2.2.2.2) = true then (laws_FnCutCable.j0 k t440 bt442.2.2.2.2 bt454.2.2.2.2 true t430 t431 t434 t437 bt442.1 bt442.2.1 bt442.2.2.1 bt442.2.2.2.1 bt454.1 bt454.2.1 bt454.2.2.1 bt454.2.2.2.1) else (if (bt442.2.1.length : Int) = (bt454.2.1.length : Int) then (laws_FnCutCable.j0 k t440 bt442.2.2.2.2 bt454.2.2.2.2 (!bt442.2.2.2.2) t430 t431 t434 t437 bt442.1 bt442.2.1 bt442.2.2.1 bt442.2.2.2.1 bt454.1 bt454.2.1 bt454.2.2.1 bt454.2.2.2.1) else (laws_FnCutCable.j0 k t440 bt442.2.2.2.2 bt454.2.2.2.2 true t430 t431 t434 t437 bt442.1 bt442.2.1 bt442.2.2.1 bt442.2.2.2.1 bt454.1 bt454.2.1 bt454.2.2.1 bt454.2.2.2.1))))) = some r:=H
  have A3:=mk_ A30
  clear A30
  replace H:=Option.bind_eq_some_iff.mp H
  obtain ⟨⟨t442,t443,t446,t449,t452⟩,A40,H⟩:=H
  replace H : ((spec_CutCable.f k t430 t431 t434 t437 t440).bind fun bt454 => (if (t452 != bt454.2.2.2.2) = true then (laws_FnCutCable.j0 k t440 t452 bt454.2.2.2.2 true t430 t431 t434 t437 t442 t443 t446 t449 bt454.1 bt454.2.1 bt454.2.2.1 bt454.2.2.2.1) else (if (t443.length : Int) = (bt454.2.1.length : Int) then (laws_FnCutCable.j0 k t440 t452 bt454.2.2.2.2 (!t452) t430 t431 t434 t437 t442 t443 t446 t449 bt454.1 bt454.2.1 bt454.2.2.1 bt454.2.2.2.1) else (laws_FnCutCable.j0 k t440 t452 bt454.2.2.2.2 true t430 t431 t434 t437 t442 t443 t446 t449 bt454.1 bt454.2.1 bt454.2.2.1 bt454.2.2.2.1)))) = some r:=H
  have A4:=mk_ A40
  clear A40
  replace H:=Option.bind_eq_some_iff.mp H
  obtain ⟨⟨t454,t455,t458,t461,t464⟩,A50,H⟩:=H
  replace H : (if (t452 != t464) = true then (laws_FnCutCable.j0 k t440 t452 t464 true t430 t431 t434 t437 t442 t443 t446 t449 t454 t455 t458 t461) else (if (t443.length : Int) = (t455.length : Int) then (laws_FnCutCable.j0 k t440 t452 t464 (!t452) t430 t431 t434 t437 t442 t443 t446 t449 t454 t455 t458 t461) else (laws_FnCutCable.j0 k t440 t452 t464 true t430 t431 t434 t437 t442 t443 t446 t449 t454 t455 t458 t461))) = some r:=H
  have A5:=mk_ A50
  clear A50
  have HC6:=mk_ H
  clear H
  go_enter Try.func7,Try.ntmps7
  go_upto_region 6 with (first|((with_reducible refine gate_callee (f:=29) rfl ?_);refine goesL_ (some 19) rfl rfl Try.func29 (by kernel_rfl) rfl #[.slice A0 l0.length c0] rfl qm_ ?_;(with_reducible refine (spec_DrawCutCable.calls k _ _ l0 t430 t431 t434 t437 t440 _ ?side1 ?side2 A3.out).mono ?_);(case side1 => repeat (first|exact HR0.out|(with_reducible refine ca_ ?_ _)|(with_reducible refine cn_ ?_ _)|(with_reducible refine cd_ ?_)));(case side2 => exact HC0.out);rintro e w7 ⟨v432,v435,v438,rfl,ho0,ho1,ho2,hb⟩;refine ⟨_,rfl,?_⟩;have n0_:=mk_ (Kd.R_lower ho0 (bz_ (qb_ HB)));have n1_:=mk_ (Kd.R_lower ho1 (bz_ (qb_ HB)));have n2_:=mk_ (Kd.Q_lower ho2 (bz_ (qb_ HB)));have n3_:=mk_ (st_ (qb_ HB) hb);clear HB;have HO433:=n0_;have HO436:=n1_;have HO439:=n2_;have HB:=n3_;clear n0_ n1_ n2_ n3_;(try clear hb);(try clear hb2);(try clear hk);(try clear hi);(try clear ho0);(try clear ho1);(try clear ho2))|((with_reducible refine gate_dst (N:=3) rfl ?_);(try (refine gate_guard (by rfl) ?_;dsimp only));refine box_event ?hg (N:=3) ?hd (cs:=#[.int .i64 0,.slice none 0 0,.slice none 0 0,.slice none 0 0]) (t:=30) ?hr ?_;(case hd => rfl);(case hg => rfl);(case hr => first|(go_simp;done)|(go_simp;rfl));intro gb441 hg w8 hbox hb;have n0_:=mk_ (rb_ (qr_ HO433) hb);have n1_:=mk_ (rb_ (qr_ HO436) hb);have n2_:=mk_ (Kd.Q_below (by (with_reducible repeat (first|apply Kd.Q_alloc|apply Kd.Q_drewN|apply Kd.Q_drew));exact HO439.out) hb);have n3_:=mk_ (st_ (qb_ HB) hb);have n4_:=mk_ (hbox);have n5_:=mk_ ((by rw [hg];exact (bz_ (qb_ HB)) : w.heap.size ≤ gb441));have n6_:=mk_ ((by rw [hg];exact (bz_ (qb_ HB)) : w.heap.size ≤ gb441));clear HO433;clear HO436;clear HO439;clear HB;have HO433:=n0_;have HO436:=n1_;have HO439:=n2_;have HB:=n3_;have BK441:=n4_;have GW441:=n5_;have GE441:=n6_;clear n0_ n1_ n2_ n3_ n4_ n5_ n6_;clear hb hbox hg;have hcz9_0 : w8.cell? ⟨gb441,0,none⟩ = some (.int .i64 0):=(bc_ BK441.out 0).trans rfl;have hcz9_1 : w8.cell? ⟨gb441,1,none⟩ = some (.slice none 0 0):=(bc_ BK441.out 1).trans rfl;have hcz9_2 : w8.cell? ⟨gb441,2,none⟩ = some (.slice none 0 0):=(bc_ BK441.out 2).trans rfl;have hcz9_3 : w8.cell? ⟨gb441,3,none⟩ = some (.slice none 0 0):=(bc_ BK441.out 3).trans rfl;have hfz9_0:=bf_ BK441.out 0;have hfz9_1:=bf_ BK441.out 1;have hfz9_2:=bf_ BK441.out 2;have hfz9_3:=bf_ BK441.out 3;obtain ⟨Ao10,co10,eo10⟩:=Kd.R_slice HO433.out;subst eo10;obtain ⟨Ao11,co11,eo11⟩:=Kd.R_slice HO436.out;subst eo11;obtain ⟨Ao12,co12,eo12,_⟩:=Kd.Q_slice HO439.out;subst eo12)|((with_reducible refine gate_callee (f:=27) rfl ?_);refine goesL_ (some 25) rfl rfl Try.func27 (by kernel_rfl) rfl #[.agg #[.int .i64 t430,.slice Ao10 t431.length co10,.slice Ao11 t434.length co11,.slice Ao12 t437.length co12],.int .i64 t440] rfl qm_ ?_;(with_reducible refine (impl_CutCable.calls k t430 _ _ t431 _ _ t434 _ _ t437 t440 t442 t443 t446 t449 t452 _ ?side1 ?side2 ?side3 ?side4 ?side5 ?side6 A4.out).mono ?_);(case side1 => refine (rr_ (e:=51) (base:=w.heap.size) (ok:=fun k_ => True) (n:=t431.length) (c:=co10) ?_).2.2;exact (by (with_reducible repeat (first|apply ra_|apply rn_|apply rd_));exact (rm_ (rf_ (p:=⟨gb441,3,none⟩) (rf_ (p:=⟨gb441,2,none⟩) (rf_ (p:=⟨gb441,1,none⟩) (rf_ (p:=⟨gb441,0,none⟩) (rt_ HO433.out BK441.out (by decide)) (fun _ hk => hk.2) (.int .i64 t430)) (fun _ hk => hk.2) (.slice Ao10 t431.length co10)) (fun _ hk => hk.2) (.slice Ao11 t434.length co11)) (fun _ hk => hk.2) (.slice Ao12 t437.length co12)) (fun _ h_ => h_.1))));(case side2 => exact (rr_ HO433.out).2.1);(case side3 => refine (rr_ (e:=3) (base:=w.heap.size) (ok:=fun k_ => some k_ ≠ (.slice Ao12 t437.length co12 : Value).ownBlock) (n:=t434.length) (c:=co11) ?_).2.2;exact (by (with_reducible repeat (first|apply ra_|apply rn_|apply rd_));exact (rm_ (rf_ (p:=⟨gb441,3,none⟩) (rf_ (p:=⟨gb441,2,none⟩) (rf_ (p:=⟨gb441,1,none⟩) (rf_ (p:=⟨gb441,0,none⟩) (rt_ HO436.out BK441.out (by decide)) (fun _ hk => hk.2) (.int .i64 t430)) (fun _ hk => hk.2) (.slice Ao10 t431.length co10)) (fun _ hk => hk.2) (.slice Ao11 t434.length co11)) (fun _ hk => hk.2) (.slice Ao12 t437.length co12)) (fun _ h_ => h_.1))));(case side4 => exact (rr_ HO436.out).2.1);(case side5 => refine (Kd.Q_reads' (e:=3) (base:=w.heap.size) (ok:=fun k_ => some k_ ≠ (.slice Ao11 t434.length co11 : Value).ownBlock) (n:=t437.length) (c:=co12) ?_).2.2;exact (by (with_reducible repeat (first|apply Kd.Q_alloc|apply Kd.Q_drewN|apply Kd.Q_drew));exact (Kd.Q_mono (Kd.Q_far (p:=⟨gb441,3,none⟩) (Kd.Q_far (p:=⟨gb441,2,none⟩) (Kd.Q_far (p:=⟨gb441,1,none⟩) (Kd.Q_far (p:=⟨gb441,0,none⟩) (Kd.Q_types HO439.out BK441.out (by decide)) (fun _ hk => hk.2) (.int .i64 t430)) (fun _ hk => hk.2) (.slice Ao10 t431.length co10)) (fun _ hk => hk.2) (.slice Ao11 t434.length co11)) (fun _ hk => hk.2) (.slice Ao12 t437.length co12)) (fun _ h_ => h_.1))));(case side6 => exact (Kd.Q_reads' HO439.out).2.1);rintro e w13 ⟨v444,v447,v450,rfl,ho0,ho1,ho2,hb⟩;refine ⟨_,rfl,?_⟩;have n0_:=mk_ (re_ (by (with_reducible repeat (first|apply ra_|apply rn_|apply rd_));exact (rm_ (rf_ (p:=⟨gb441,3,none⟩) (rf_ (p:=⟨gb441,2,none⟩) (rf_ (p:=⟨gb441,1,none⟩) (rf_ (p:=⟨gb441,0,none⟩) (rt_ HO433.out BK441.out (by decide)) (fun _ hk => hk.2) (.int .i64 t430)) (fun _ hk => hk.2) (.slice Ao10 t431.length co10)) (fun _ hk => hk.2) (.slice Ao11 t434.length co11)) (fun _ hk => hk.2) (.slice Ao12 t437.length co12)) (fun _ h_ => h_.1))) (Kd.R_base ho0) hb);have n1_:=mk_ (rm_ (Kd.R_told (Kd.R_told (Kd.R_old (by (with_reducible repeat (first|apply ra_|apply rn_|apply rd_));exact (rm_ (rf_ (p:=⟨gb441,3,none⟩) (rf_ (p:=⟨gb441,2,none⟩) (rf_ (p:=⟨gb441,1,none⟩) (rf_ (p:=⟨gb441,0,none⟩) (rt_ HO436.out BK441.out (by decide)) (fun _ hk => hk.2) (.int .i64 t430)) (fun _ hk => hk.2) (.slice Ao10 t431.length co10)) (fun _ hk => hk.2) (.slice Ao11 t434.length co11)) (fun _ hk => hk.2) (.slice Ao12 t437.length co12)) (fun _ h_ => h_.1))) hb) (Kd.R_base ho1)) (Kd.R_base ho2)) (fun _ h_ => h_.1));have n2_:=mk_ (Kd.Q_mono (Kd.Q_told (Kd.Q_told (Kd.Q_old (by (with_reducible repeat (first|apply Kd.Q_alloc|apply Kd.Q_drewN|apply Kd.Q_drew));exact (Kd.Q_mono (Kd.Q_far (p:=⟨gb441,3,none⟩) (Kd.Q_far (p:=⟨gb441,2,none⟩) (Kd.Q_far (p:=⟨gb441,1,none⟩) (Kd.Q_far (p:=⟨gb441,0,none⟩) (Kd.Q_types HO439.out BK441.out (by decide)) (fun _ hk => hk.2) (.int .i64 t430)) (fun _ hk => hk.2) (.slice Ao10 t431.length co10)) (fun _ hk => hk.2) (.slice Ao11 t434.length co11)) (fun _ hk => hk.2) (.slice Ao12 t437.length co12)) (fun _ h_ => h_.1))) hb) (Kd.R_base ho1)) (Kd.R_base ho2)) (fun _ h_ => h_.1));have n3_:=mk_ (Kd.R_lower (Kd.R_new' ho0 (Kd.R_lt (by (with_reducible repeat (first|apply ra_|apply rn_|apply rd_));exact (rm_ (rf_ (p:=⟨gb441,3,none⟩) (rf_ (p:=⟨gb441,2,none⟩) (rf_ (p:=⟨gb441,1,none⟩) (rf_ (p:=⟨gb441,0,none⟩) (rt_ HO433.out BK441.out (by decide)) (fun _ hk => hk.2) (.int .i64 t430)) (fun _ hk => hk.2) (.slice Ao10 t431.length co10)) (fun _ hk => hk.2) (.slice Ao11 t434.length co11)) (fun _ hk => hk.2) (.slice Ao12 t437.length co12)) (fun _ h_ => h_.1))))) (bz_ (qc_ HB GE441)));have n4_:=mk_ (Kd.R_lower (Kd.R_new' (Kd.R_new' ho1 (Kd.R_lt (by (with_reducible repeat (first|apply ra_|apply rn_|apply rd_));exact (rm_ (rf_ (p:=⟨gb441,3,none⟩) (rf_ (p:=⟨gb441,2,none⟩) (rf_ (p:=⟨gb441,1,none⟩) (rf_ (p:=⟨gb441,0,none⟩) (rt_ HO436.out BK441.out (by decide)) (fun _ hk => hk.2) (.int .i64 t430)) (fun _ hk => hk.2) (.slice Ao10 t431.length co10)) (fun _ hk => hk.2) (.slice Ao11 t434.length co11)) (fun _ hk => hk.2) (.slice Ao12 t437.length co12)) (fun _ h_ => h_.1))))) (Kd.Q_lt (by (with_reducible repeat (first|apply Kd.Q_alloc|apply Kd.Q_drewN|apply Kd.Q_drew));exact (Kd.Q_mono (Kd.Q_far (p:=⟨gb441,3,none⟩) (Kd.Q_far (p:=⟨gb441,2,none⟩) (Kd.Q_far (p:=⟨gb441,1,none⟩) (Kd.Q_far (p:=⟨gb441,0,none⟩) (Kd.Q_types HO439.out BK441.out (by decide)) (fun _ hk => hk.2) (.int .i64 t430)) (fun _ hk => hk.2) (.slice Ao10 t431.length co10)) (fun _ hk => hk.2) (.slice Ao11 t434.length co11)) (fun _ hk => hk.2) (.slice Ao12 t437.length co12)) (fun _ h_ => h_.1))))) (bz_ (qc_ HB GE441)));have n5_:=mk_ (Kd.R_lower (Kd.R_new' (Kd.R_new' ho2 (Kd.R_lt (by (with_reducible repeat (first|apply ra_|apply rn_|apply rd_));exact (rm_ (rf_ (p:=⟨gb441,3,none⟩) (rf_ (p:=⟨gb441,2,none⟩) (rf_ (p:=⟨gb441,1,none⟩) (rf_ (p:=⟨gb441,0,none⟩) (rt_ HO436.out BK441.out (by decide)) (fun _ hk => hk.2) (.int .i64 t430)) (fun _ hk => hk.2) (.slice Ao10 t431.length co10)) (fun _ hk => hk.2) (.slice Ao11 t434.length co11)) (fun _ hk => hk.2) (.slice Ao12 t437.length co12)) (fun _ h_ => h_.1))))) (Kd.Q_lt (by (with_reducible repeat (first|apply Kd.Q_alloc|apply Kd.Q_drewN|apply Kd.Q_drew));exact (Kd.Q_mono (Kd.Q_far (p:=⟨gb441,3,none⟩) (Kd.Q_far (p:=⟨gb441,2,none⟩) (Kd.Q_far (p:=⟨gb441,1,none⟩) (Kd.Q_far (p:=⟨gb441,0,none⟩) (Kd.Q_types HO439.out BK441.out (by decide)) (fun _ hk => hk.2) (.int .i64 t430)) (fun _ hk => hk.2) (.slice Ao10 t431.length co10)) (fun _ hk => hk.2) (.slice Ao11 t434.length co11)) (fun _ hk => hk.2) (.slice Ao12 t437.length co12)) (fun _ h_ => h_.1))))) (bz_ (qc_ HB GE441)));have n6_:=mk_ (blk_below (g:=gb441) (o:=.cells #[.int .i64 t430,.slice Ao10 t431.length co10,.slice Ao11 t434.length co11,.slice Ao12 t437.length co12] 30 (0,0)) (by (with_reducible repeat (first|refine kn_ ?_ _|refine kd_ ?_|refine ka_ ?_ _));refine blk_put (cs:=#[.int .i64 t430,.slice Ao10 t431.length co10,.slice Ao11 t434.length co11,.slice none 0 0]) ?_ 3 _ rfl;(with_reducible repeat (first|refine kn_ ?_ _|refine kd_ ?_|refine ka_ ?_ _));refine blk_put (cs:=#[.int .i64 t430,.slice Ao10 t431.length co10,.slice none 0 0,.slice none 0 0]) ?_ 2 _ rfl;(with_reducible repeat (first|refine kn_ ?_ _|refine kd_ ?_|refine ka_ ?_ _));refine blk_put (cs:=#[.int .i64 t430,.slice none 0 0,.slice none 0 0,.slice none 0 0]) ?_ 1 _ rfl;(with_reducible repeat (first|refine kn_ ?_ _|refine kd_ ?_|refine ka_ ?_ _));refine blk_put (cs:=#[.int .i64 0,.slice none 0 0,.slice none 0 0,.slice none 0 0]) ?_ 0 _ rfl;(with_reducible repeat (first|refine kn_ ?_ _|refine kd_ ?_|refine ka_ ?_ _));exact BK441.out) hb);have n7_:=mk_ (st_ (qc_ HB GE441) hb);clear HO433;clear HO436;clear HO439;clear BK441;clear HB;have HO433:=n0_;have HO436:=n1_;have HO439:=n2_;have HO445:=n3_;have HO448:=n4_;have HO451:=n5_;have BK441:=n6_;have HB:=n7_;clear n0_ n1_ n2_ n3_ n4_ n5_ n6_ n7_;(try clear hb);(try clear hb2);(try clear hk);(try clear hi);(try clear ho0);(try clear ho1);(try clear ho2))|((with_reducible refine gate_dst (N:=5) rfl ?_);(try (refine gate_guard (by rfl) ?_;dsimp only));refine box_event ?hg (N:=5) ?hd (cs:=#[.int .i64 0,.slice none 0 0,.slice none 0 0,.slice none 0 0]) (t:=30) ?hr ?_;(case hd => rfl);(case hg => rfl);(case hr => first|(go_simp;done)|(go_simp;rfl));intro gb453 hg w14 hbox hb;have n0_:=mk_ (rb_ (qr_ HO433) hb);have n1_:=mk_ (rb_ (qr_ HO436) hb);have n2_:=mk_ (Kd.Q_below (by (with_reducible repeat (first|apply Kd.Q_alloc|apply Kd.Q_drewN|apply Kd.Q_drew));exact HO439.out) hb);have n3_:=mk_ (rb_ (qr_ HO445) hb);have n4_:=mk_ (rb_ (qr_ HO448) hb);have n5_:=mk_ (rb_ (qr_ HO451) hb);have n6_:=mk_ (blk_below (g:=gb441) (o:=.cells #[.int .i64 t430,.slice Ao10 t431.length co10,.slice Ao11 t434.length co11,.slice Ao12 t437.length co12] 30 (0,0)) (qk_ BK441) hb);have n7_:=mk_ (st_ (qc_ HB GE441) hb);have n8_:=mk_ (hbox);have n9_:=mk_ ((by rw [hg];exact (bz_ (qc_ HB GE441)) : w.heap.size ≤ gb453));have n10_:=mk_ ((by rw [hg];exact (bz_ (qc_ HB GE441)) : w.heap.size ≤ gb453));have n11_:=mk_ ((by rw [hg];exact Nat.ne_of_lt (blk_lt (g:=gb441) (o:=.cells #[.int .i64 t430,.slice Ao10 t431.length co10,.slice Ao11 t434.length co11,.slice Ao12 t437.length co12] 30 (0,0)) (qk_ BK441)) : gb441 ≠ gb453));have n12_:=mk_ ((by rw [hg];exact Nat.ne_of_gt (blk_lt (g:=gb441) (o:=.cells #[.int .i64 t430,.slice Ao10 t431.length co10,.slice Ao11 t434.length co11,.slice Ao12 t437.length co12] 30 (0,0)) (qk_ BK441)) : gb453 ≠ gb441));clear HO433;clear HO436;clear HO439;clear HO445;clear HO448;clear HO451;clear BK441;clear HB;have HO433:=n0_;have HO436:=n1_;have HO439:=n2_;have HO445:=n3_;have HO448:=n4_;have HO451:=n5_;have BK441:=n6_;have HB:=n7_;have BK453:=n8_;have GW453:=n9_;have GE453:=n10_;have NB441_453:=n11_;have NB453_441:=n12_;clear n0_ n1_ n2_ n3_ n4_ n5_ n6_ n7_ n8_ n9_ n10_ n11_ n12_;clear hb hbox hg;have hnb15:=NB453_441.out;have hnc15:=NB441_453.out;have hcz16_0 : w14.cell? ⟨gb453,0,none⟩ = some (.int .i64 0):=(bc_ BK453.out 0).trans rfl;have hcz16_1 : w14.cell? ⟨gb453,1,none⟩ = some (.slice none 0 0):=(bc_ BK453.out 1).trans rfl;have hcz16_2 : w14.cell? ⟨gb453,2,none⟩ = some (.slice none 0 0):=(bc_ BK453.out 2).trans rfl;have hcz16_3 : w14.cell? ⟨gb453,3,none⟩ = some (.slice none 0 0):=(bc_ BK453.out 3).trans rfl;have hfz16_0:=bf_ BK453.out 0;have hfz16_1:=bf_ BK453.out 1;have hfz16_2:=bf_ BK453.out 2;have hfz16_3:=bf_ BK453.out 3;obtain ⟨Ao17,co17,eo17⟩:=Kd.R_slice HO445.out;subst eo17;obtain ⟨Ao18,co18,eo18⟩:=Kd.R_slice HO448.out;subst eo18;obtain ⟨Ao19,co19,eo19⟩:=Kd.R_slice HO451.out;subst eo19;have hcz20_0 : w14.cell? ⟨gb441,0,none⟩ = some (.int .i64 t430):=(bc_ BK441.out 0).trans rfl;have hcz20_1 : w14.cell? ⟨gb441,1,none⟩ = some (.slice Ao10 t431.length co10):=(bc_ BK441.out 1).trans rfl;have hcz20_2 : w14.cell? ⟨gb441,2,none⟩ = some (.slice Ao11 t434.length co11):=(bc_ BK441.out 2).trans rfl;have hcz20_3 : w14.cell? ⟨gb441,3,none⟩ = some (.slice Ao12 t437.length co12):=(bc_ BK441.out 3).trans rfl;have hfz20_0:=bf_ BK441.out 0;have hfz20_1:=bf_ BK441.out 1;have hfz20_2:=bf_ BK441.out 2;have hfz20_3:=bf_ BK441.out 3)|((with_reducible refine gate_callee (f:=26) rfl ?_);refine goesL_ (some 31) rfl rfl Try.func26 (by kernel_rfl) rfl #[.agg #[.int .i64 t430,.slice Ao10 t431.length co10,.slice Ao11 t434.length co11,.slice Ao12 t437.length co12],.int .i64 t440] rfl qm_ ?_;(with_reducible refine (spec_CutCable.calls k t430 _ _ t431 _ _ t434 _ _ t437 t440 t454 t455 t458 t461 t464 _ ?side1 ?side2 ?side3 ?side4 ?side5 ?side6 A5.out).mono ?_);(case side1 => refine (rr_ (e:=51) (base:=w.heap.size) (ok:=fun k_ => (True ∧ some k_ ≠ (.slice Ao17 t443.length co17 : Value).ownBlock)) (n:=t431.length) (c:=co10) ?_).2.2;exact (by (with_reducible repeat (first|apply ra_|apply rn_|apply rd_));exact (rm_ (rf_ (p:=⟨gb453,3,none⟩) (rf_ (p:=⟨gb453,2,none⟩) (rf_ (p:=⟨gb453,1,none⟩) (rf_ (p:=⟨gb453,0,none⟩) (rt_ HO433.out BK453.out (by decide)) (fun _ hk => hk.2) (.int .i64 t442)) (fun _ hk => hk.2) (.slice Ao17 t443.length co17)) (fun _ hk => hk.2) (.slice Ao18 t446.length co18)) (fun _ hk => hk.2) (.slice Ao19 t449.length co19)) (fun _ h_ => h_.1))));(case side2 => exact (rr_ HO433.out).2.1);(case side3 => refine (rr_ (e:=3) (base:=w.heap.size) (ok:=fun k_ => ((some k_ ≠ (.slice Ao12 t437.length co12 : Value).ownBlock ∧ some k_ ≠ (.slice Ao18 t446.length co18 : Value).ownBlock) ∧ some k_ ≠ (.slice Ao19 t449.length co19 : Value).ownBlock)) (n:=t434.length) (c:=co11) ?_).2.2;exact (by (with_reducible repeat (first|apply ra_|apply rn_|apply rd_));exact (rm_ (rf_ (p:=⟨gb453,3,none⟩) (rf_ (p:=⟨gb453,2,none⟩) (rf_ (p:=⟨gb453,1,none⟩) (rf_ (p:=⟨gb453,0,none⟩) (rt_ HO436.out BK453.out (by decide)) (fun _ hk => hk.2) (.int .i64 t442)) (fun _ hk => hk.2) (.slice Ao17 t443.length co17)) (fun _ hk => hk.2) (.slice Ao18 t446.length co18)) (fun _ hk => hk.2) (.slice Ao19 t449.length co19)) (fun _ h_ => h_.1))));(case side4 => exact (rr_ HO436.out).2.1);(case side5 => refine (Kd.Q_reads' (e:=3) (base:=w.heap.size) (ok:=fun k_ => ((some k_ ≠ (.slice Ao11 t434.length co11 : Value).ownBlock ∧ some k_ ≠ (.slice Ao18 t446.length co18 : Value).ownBlock) ∧ some k_ ≠ (.slice Ao19 t449.length co19 : Value).ownBlock)) (n:=t437.length) (c:=co12) ?_).2.2;exact (by (with_reducible repeat (first|apply Kd.Q_alloc|apply Kd.Q_drewN|apply Kd.Q_drew));exact (Kd.Q_mono (Kd.Q_far (p:=⟨gb453,3,none⟩) (Kd.Q_far (p:=⟨gb453,2,none⟩) (Kd.Q_far (p:=⟨gb453,1,none⟩) (Kd.Q_far (p:=⟨gb453,0,none⟩) (Kd.Q_types HO439.out BK453.out (by decide)) (fun _ hk => hk.2) (.int .i64 t442)) (fun _ hk => hk.2) (.slice Ao17 t443.length co17)) (fun _ hk => hk.2) (.slice Ao18 t446.length co18)) (fun _ hk => hk.2) (.slice Ao19 t449.length co19)) (fun _ h_ => h_.1))));(case side6 => exact (Kd.Q_reads' HO439.out).2.1);rintro e w21 ⟨v456,v459,v462,rfl,ho0,ho1,ho2,hb⟩;refine ⟨_,rfl,?_⟩;have n0_:=mk_ (re_ (by (with_reducible repeat (first|apply ra_|apply rn_|apply rd_));exact (rm_ (rf_ (p:=⟨gb453,3,none⟩) (rf_ (p:=⟨gb453,2,none⟩) (rf_ (p:=⟨gb453,1,none⟩) (rf_ (p:=⟨gb453,0,none⟩) (rt_ HO433.out BK453.out (by decide)) (fun _ hk => hk.2) (.int .i64 t442)) (fun _ hk => hk.2) (.slice Ao17 t443.length co17)) (fun _ hk => hk.2) (.slice Ao18 t446.length co18)) (fun _ hk => hk.2) (.slice Ao19 t449.length co19)) (fun _ h_ => h_.1))) (Kd.R_base ho0) hb);have n1_:=mk_ (rm_ (Kd.R_told (Kd.R_told (Kd.R_old (by (with_reducible repeat (first|apply ra_|apply rn_|apply rd_));exact (rm_ (rf_ (p:=⟨gb453,3,none⟩) (rf_ (p:=⟨gb453,2,none⟩) (rf_ (p:=⟨gb453,1,none⟩) (rf_ (p:=⟨gb453,0,none⟩) (rt_ HO436.out BK453.out (by decide)) (fun _ hk => hk.2) (.int .i64 t442)) (fun _ hk => hk.2) (.slice Ao17 t443.length co17)) (fun _ hk => hk.2) (.slice Ao18 t446.length co18)) (fun _ hk => hk.2) (.slice Ao19 t449.length co19)) (fun _ h_ => h_.1))) hb) (Kd.R_base ho1)) (Kd.R_base ho2)) (fun _ h_ => h_.1));have n2_:=mk_ (Kd.Q_mono (Kd.Q_told (Kd.Q_told (Kd.Q_old (by (with_reducible repeat (first|apply Kd.Q_alloc|apply Kd.Q_drewN|apply Kd.Q_drew));exact (Kd.Q_mono (Kd.Q_far (p:=⟨gb453,3,none⟩) (Kd.Q_far (p:=⟨gb453,2,none⟩) (Kd.Q_far (p:=⟨gb453,1,none⟩) (Kd.Q_far (p:=⟨gb453,0,none⟩) (Kd.Q_types HO439.out BK453.out (by decide)) (fun _ hk => hk.2) (.int .i64 t442)) (fun _ hk => hk.2) (.slice Ao17 t443.length co17)) (fun _ hk => hk.2) (.slice Ao18 t446.length co18)) (fun _ hk => hk.2) (.slice Ao19 t449.length co19)) (fun _ h_ => h_.1))) hb) (Kd.R_base ho1)) (Kd.R_base ho2)) (fun _ h_ => h_.1));have n3_:=mk_ (re_ (by (with_reducible repeat (first|apply ra_|apply rn_|apply rd_));exact (rm_ (rf_ (p:=⟨gb453,3,none⟩) (rf_ (p:=⟨gb453,2,none⟩) (rf_ (p:=⟨gb453,1,none⟩) (rf_ (p:=⟨gb453,0,none⟩) (rt_ HO445.out BK453.out (by decide)) (fun _ hk => hk.2) (.int .i64 t442)) (fun _ hk => hk.2) (.slice Ao17 t443.length co17)) (fun _ hk => hk.2) (.slice Ao18 t446.length co18)) (fun _ hk => hk.2) (.slice Ao19 t449.length co19)) (fun _ h_ => h_.1))) (Kd.R_base ho0) hb);have n4_:=mk_ (rm_ (Kd.R_told (Kd.R_told (Kd.R_old (by (with_reducible repeat (first|apply ra_|apply rn_|apply rd_));exact (rm_ (rf_ (p:=⟨gb453,3,none⟩) (rf_ (p:=⟨gb453,2,none⟩) (rf_ (p:=⟨gb453,1,none⟩) (rf_ (p:=⟨gb453,0,none⟩) (rt_ HO448.out BK453.out (by decide)) (fun _ hk => hk.2) (.int .i64 t442)) (fun _ hk => hk.2) (.slice Ao17 t443.length co17)) (fun _ hk => hk.2) (.slice Ao18 t446.length co18)) (fun _ hk => hk.2) (.slice Ao19 t449.length co19)) (fun _ h_ => h_.1))) hb) (Kd.R_base ho1)) (Kd.R_base ho2)) (fun _ h_ => h_.1));have n5_:=mk_ (rm_ (Kd.R_told (Kd.R_told (Kd.R_old (by (with_reducible repeat (first|apply ra_|apply rn_|apply rd_));exact (rm_ (rf_ (p:=⟨gb453,3,none⟩) (rf_ (p:=⟨gb453,2,none⟩) (rf_ (p:=⟨gb453,1,none⟩) (rf_ (p:=⟨gb453,0,none⟩) (rt_ HO451.out BK453.out (by decide)) (fun _ hk => hk.2) (.int .i64 t442)) (fun _ hk => hk.2) (.slice Ao17 t443.length co17)) (fun _ hk => hk.2) (.slice Ao18 t446.length co18)) (fun _ hk => hk.2) (.slice Ao19 t449.length co19)) (fun _ h_ => h_.1))) hb) (Kd.R_base ho1)) (Kd.R_base ho2)) (fun _ h_ => h_.1));have n6_:=mk_ (Kd.R_lower (Kd.R_new' (Kd.R_new' ho0 (Kd.R_lt (by (with_reducible repeat (first|apply ra_|apply rn_|apply rd_));exact (rm_ (rf_ (p:=⟨gb453,3,none⟩) (rf_ (p:=⟨gb453,2,none⟩) (rf_ (p:=⟨gb453,1,none⟩) (rf_ (p:=⟨gb453,0,none⟩) (rt_ HO433.out BK453.out (by decide)) (fun _ hk => hk.2) (.int .i64 t442)) (fun _ hk => hk.2) (.slice Ao17 t443.length co17)) (fun _ hk => hk.2) (.slice Ao18 t446.length co18)) (fun _ hk => hk.2) (.slice Ao19 t449.length co19)) (fun _ h_ => h_.1))))) (Kd.R_lt (by (with_reducible repeat (first|apply ra_|apply rn_|apply rd_));exact (rm_ (rf_ (p:=⟨gb453,3,none⟩) (rf_ (p:=⟨gb453,2,none⟩) (rf_ (p:=⟨gb453,1,none⟩) (rf_ (p:=⟨gb453,0,none⟩) (rt_ HO445.out BK453.out (by decide)) (fun _ hk => hk.2) (.int .i64 t442)) (fun _ hk => hk.2) (.slice Ao17 t443.length co17)) (fun _ hk => hk.2) (.slice Ao18 t446.length co18)) (fun _ hk => hk.2) (.slice Ao19 t449.length co19)) (fun _ h_ => h_.1))))) (bz_ (qd_ HB GE441 GE453)));have n7_:=mk_ (Kd.R_lower (Kd.R_new' (Kd.R_new' (Kd.R_new' (Kd.R_new' ho1 (Kd.R_lt (by (with_reducible repeat (first|apply ra_|apply rn_|apply rd_));exact (rm_ (rf_ (p:=⟨gb453,3,none⟩) (rf_ (p:=⟨gb453,2,none⟩) (rf_ (p:=⟨gb453,1,none⟩) (rf_ (p:=⟨gb453,0,none⟩) (rt_ HO436.out BK453.out (by decide)) (fun _ hk => hk.2) (.int .i64 t442)) (fun _ hk => hk.2) (.slice Ao17 t443.length co17)) (fun _ hk => hk.2) (.slice Ao18 t446.length co18)) (fun _ hk => hk.2) (.slice Ao19 t449.length co19)) (fun _ h_ => h_.1))))) (Kd.Q_lt (by (with_reducible repeat (first|apply Kd.Q_alloc|apply Kd.Q_drewN|apply Kd.Q_drew));exact (Kd.Q_mono (Kd.Q_far (p:=⟨gb453,3,none⟩) (Kd.Q_far (p:=⟨gb453,2,none⟩) (Kd.Q_far (p:=⟨gb453,1,none⟩) (Kd.Q_far (p:=⟨gb453,0,none⟩) (Kd.Q_types HO439.out BK453.out (by decide)) (fun _ hk => hk.2) (.int .i64 t442)) (fun _ hk => hk.2) (.slice Ao17 t443.length co17)) (fun _ hk => hk.2) (.slice Ao18 t446.length co18)) (fun _ hk => hk.2) (.slice Ao19 t449.length co19)) (fun _ h_ => h_.1))))) (Kd.R_lt (by (with_reducible repeat (first|apply ra_|apply rn_|apply rd_));exact (rm_ (rf_ (p:=⟨gb453,3,none⟩) (rf_ (p:=⟨gb453,2,none⟩) (rf_ (p:=⟨gb453,1,none⟩) (rf_ (p:=⟨gb453,0,none⟩) (rt_ HO448.out BK453.out (by decide)) (fun _ hk => hk.2) (.int .i64 t442)) (fun _ hk => hk.2) (.slice Ao17 t443.length co17)) (fun _ hk => hk.2) (.slice Ao18 t446.length co18)) (fun _ hk => hk.2) (.slice Ao19 t449.length co19)) (fun _ h_ => h_.1))))) (Kd.R_lt (by (with_reducible repeat (first|apply ra_|apply rn_|apply rd_));exact (rm_ (rf_ (p:=⟨gb453,3,none⟩) (rf_ (p:=⟨gb453,2,none⟩) (rf_ (p:=⟨gb453,1,none⟩) (rf_ (p:=⟨gb453,0,none⟩) (rt_ HO451.out BK453.out (by decide)) (fun _ hk => hk.2) (.int .i64 t442)) (fun _ hk => hk.2) (.slice Ao17 t443.length co17)) (fun _ hk => hk.2) (.slice Ao18 t446.length co18)) (fun _ hk => hk.2) (.slice Ao19 t449.length co19)) (fun _ h_ => h_.1))))) (bz_ (qd_ HB GE441 GE453)));have n8_:=mk_ (Kd.R_lower (Kd.R_new' (Kd.R_new' (Kd.R_new' (Kd.R_new' ho2 (Kd.R_lt (by (with_reducible repeat (first|apply ra_|apply rn_|apply rd_));exact (rm_ (rf_ (p:=⟨gb453,3,none⟩) (rf_ (p:=⟨gb453,2,none⟩) (rf_ (p:=⟨gb453,1,none⟩) (rf_ (p:=⟨gb453,0,none⟩) (rt_ HO436.out BK453.out (by decide)) (fun _ hk => hk.2) (.int .i64 t442)) (fun _ hk => hk.2) (.slice Ao17 t443.length co17)) (fun _ hk => hk.2) (.slice Ao18 t446.length co18)) (fun _ hk => hk.2) (.slice Ao19 t449.length co19)) (fun _ h_ => h_.1))))) (Kd.Q_lt (by (with_reducible repeat (first|apply Kd.Q_alloc|apply Kd.Q_drewN|apply Kd.Q_drew));exact (Kd.Q_mono (Kd.Q_far (p:=⟨gb453,3,none⟩) (Kd.Q_far (p:=⟨gb453,2,none⟩) (Kd.Q_far (p:=⟨gb453,1,none⟩) (Kd.Q_far (p:=⟨gb453,0,none⟩) (Kd.Q_types HO439.out BK453.out (by decide)) (fun _ hk => hk.2) (.int .i64 t442)) (fun _ hk => hk.2) (.slice Ao17 t443.length co17)) (fun _ hk => hk.2) (.slice Ao18 t446.length co18)) (fun _ hk => hk.2) (.slice Ao19 t449.length co19)) (fun _ h_ => h_.1))))) (Kd.R_lt (by (with_reducible repeat (first|apply ra_|apply rn_|apply rd_));exact (rm_ (rf_ (p:=⟨gb453,3,none⟩) (rf_ (p:=⟨gb453,2,none⟩) (rf_ (p:=⟨gb453,1,none⟩) (rf_ (p:=⟨gb453,0,none⟩) (rt_ HO448.out BK453.out (by decide)) (fun _ hk => hk.2) (.int .i64 t442)) (fun _ hk => hk.2) (.slice Ao17 t443.length co17)) (fun _ hk => hk.2) (.slice Ao18 t446.length co18)) (fun _ hk => hk.2) (.slice Ao19 t449.length co19)) (fun _ h_ => h_.1))))) (Kd.R_lt (by (with_reducible repeat (first|apply ra_|apply rn_|apply rd_));exact (rm_ (rf_ (p:=⟨gb453,3,none⟩) (rf_ (p:=⟨gb453,2,none⟩) (rf_ (p:=⟨gb453,1,none⟩) (rf_ (p:=⟨gb453,0,none⟩) (rt_ HO451.out BK453.out (by decide)) (fun _ hk => hk.2) (.int .i64 t442)) (fun _ hk => hk.2) (.slice Ao17 t443.length co17)) (fun _ hk => hk.2) (.slice Ao18 t446.length co18)) (fun _ hk => hk.2) (.slice Ao19 t449.length co19)) (fun _ h_ => h_.1))))) (bz_ (qd_ HB GE441 GE453)));have n9_:=mk_ (blk_below (g:=gb441) (o:=.cells #[.int .i64 t430,.slice Ao10 t431.length co10,.slice Ao11 t434.length co11,.slice Ao12 t437.length co12] 30 (0,0)) (by (with_reducible repeat (first|refine kn_ ?_ _|refine kd_ ?_|refine ka_ ?_ _));refine blk_far ?_ NB441_453.out _;(with_reducible repeat (first|refine kn_ ?_ _|refine kd_ ?_|refine ka_ ?_ _));refine blk_far ?_ NB441_453.out _;(with_reducible repeat (first|refine kn_ ?_ _|refine kd_ ?_|refine ka_ ?_ _));refine blk_far ?_ NB441_453.out _;(with_reducible repeat (first|refine kn_ ?_ _|refine kd_ ?_|refine ka_ ?_ _));refine blk_far ?_ NB441_453.out _;(with_reducible repeat (first|refine kn_ ?_ _|refine kd_ ?_|refine ka_ ?_ _));exact BK441.out) hb);have n10_:=mk_ (blk_below (g:=gb453) (o:=.cells #[.int .i64 t442,.slice Ao17 t443.length co17,.slice Ao18 t446.length co18,.slice Ao19 t449.length co19] 30 (0,0)) (by (with_reducible repeat (first|refine kn_ ?_ _|refine kd_ ?_|refine ka_ ?_ _));refine blk_put (cs:=#[.int .i64 t442,.slice Ao17 t443.length co17,.slice Ao18 t446.length co18,.slice none 0 0]) ?_ 3 _ rfl;(with_reducible repeat (first|refine kn_ ?_ _|refine kd_ ?_|refine ka_ ?_ _));refine blk_put (cs:=#[.int .i64 t442,.slice Ao17 t443.length co17,.slice none 0 0,.slice none 0 0]) ?_ 2 _ rfl;(with_reducible repeat (first|refine kn_ ?_ _|refine kd_ ?_|refine ka_ ?_ _));refine blk_put (cs:=#[.int .i64 t442,.slice none 0 0,.slice none 0 0,.slice none 0 0]) ?_ 1 _ rfl;(with_reducible repeat (first|refine kn_ ?_ _|refine kd_ ?_|refine ka_ ?_ _));refine blk_put (cs:=#[.int .i64 0,.slice none 0 0,.slice none 0 0,.slice none 0 0]) ?_ 0 _ rfl;(with_reducible repeat (first|refine kn_ ?_ _|refine kd_ ?_|refine ka_ ?_ _));exact BK453.out) hb);have n11_:=mk_ (st_ (qd_ HB GE441 GE453) hb);clear HO433;clear HO436;clear HO439;clear HO445;clear HO448;clear HO451;clear BK441;clear BK453;clear HB;have HO433:=n0_;have HO436:=n1_;have HO439:=n2_;have HO445:=n3_;have HO448:=n4_;have HO451:=n5_;have HO457:=n6_;have HO460:=n7_;have HO463:=n8_;have BK441:=n9_;have BK453:=n10_;have HB:=n11_;clear n0_ n1_ n2_ n3_ n4_ n5_ n6_ n7_ n8_ n9_ n10_ n11_;(try clear hb);(try clear hb2);(try clear hk);(try clear hi);(try clear ho0);(try clear ho1);(try clear ho2))|((with_reducible refine gate_dst (N:=7) rfl ?_);(try (refine gate_guard (by rfl) ?_;dsimp only));refine box_event ?hg (N:=7) ?hd (cs:=#[.int .i64 0,.slice none 0 0,.slice none 0 0,.slice none 0 0]) (t:=30) ?hr ?_;(case hd => rfl);(case hg => rfl);(case hr => first|(go_simp;done)|(go_simp;rfl));intro gb465 hg w22 hbox hb;have n0_:=mk_ (rb_ (qr_ HO433) hb);have n1_:=mk_ (rb_ (qr_ HO436) hb);have n2_:=mk_ (Kd.Q_below (by (with_reducible repeat (first|apply Kd.Q_alloc|apply Kd.Q_drewN|apply Kd.Q_drew));exact HO439.out) hb);have n3_:=mk_ (rb_ (qr_ HO445) hb);have n4_:=mk_ (rb_ (qr_ HO448) hb);have n5_:=mk_ (rb_ (qr_ HO451) hb);have n6_:=mk_ (rb_ (qr_ HO457) hb);have n7_:=mk_ (rb_ (qr_ HO460) hb);have n8_:=mk_ (rb_ (qr_ HO463) hb);have n9_:=mk_ (blk_below (g:=gb441) (o:=.cells #[.int .i64 t430,.slice Ao10 t431.length co10,.slice Ao11 t434.length co11,.slice Ao12 t437.length co12] 30 (0,0)) (qk_ BK441) hb);have n10_:=mk_ (blk_below (g:=gb453) (o:=.cells #[.int .i64 t442,.slice Ao17 t443.length co17,.slice Ao18 t446.length co18,.slice Ao19 t449.length co19] 30 (0,0)) (qk_ BK453) hb);have n11_:=mk_ (st_ (qd_ HB GE441 GE453) hb);have n12_:=mk_ (hbox);have n13_:=mk_ ((by rw [hg];exact (bz_ (qd_ HB GE441 GE453)) : w.heap.size ≤ gb465));have n14_:=mk_ ((by rw [hg];exact (bz_ (qd_ HB GE441 GE453)) : w.heap.size ≤ gb465));have n15_:=mk_ ((by rw [hg];exact Nat.ne_of_lt (blk_lt (g:=gb441) (o:=.cells #[.int .i64 t430,.slice Ao10 t431.length co10,.slice Ao11 t434.length co11,.slice Ao12 t437.length co12] 30 (0,0)) (qk_ BK441)) : gb441 ≠ gb465));have n16_:=mk_ ((by rw [hg];exact Nat.ne_of_gt (blk_lt (g:=gb441) (o:=.cells #[.int .i64 t430,.slice Ao10 t431.length co10,.slice Ao11 t434.length co11,.slice Ao12 t437.length co12] 30 (0,0)) (qk_ BK441)) : gb465 ≠ gb441));have n17_:=mk_ ((by rw [hg];exact Nat.ne_of_lt (blk_lt (g:=gb453) (o:=.cells #[.int .i64 t442,.slice Ao17 t443.length co17,.slice Ao18 t446.length co18,.slice Ao19 t449.length co19] 30 (0,0)) (qk_ BK453)) : gb453 ≠ gb465));have n18_:=mk_ ((by rw [hg];exact Nat.ne_of_gt (blk_lt (g:=gb453) (o:=.cells #[.int .i64 t442,.slice Ao17 t443.length co17,.slice Ao18 t446.length co18,.slice Ao19 t449.length co19] 30 (0,0)) (qk_ BK453)) : gb465 ≠ gb453));clear HO433;clear HO436;clear HO439;clear HO445;clear HO448;clear HO451;clear HO457;clear HO460;clear HO463;clear BK441;clear BK453;clear HB;have HO433:=n0_;have HO436:=n1_;have HO439:=n2_;have HO445:=n3_;have HO448:=n4_;have HO451:=n5_;have HO457:=n6_;have HO460:=n7_;have HO463:=n8_;have BK441:=n9_;have BK453:=n10_;have HB:=n11_;have BK465:=n12_;have GW465:=n13_;have GE465:=n14_;have NB441_465:=n15_;have NB465_441:=n16_;have NB453_465:=n17_;have NB465_453:=n18_;clear n0_ n1_ n2_ n3_ n4_ n5_ n6_ n7_ n8_ n9_ n10_ n11_ n12_ n13_ n14_ n15_ n16_ n17_ n18_;clear hb hbox hg;have hnb23:=NB465_441.out;have hnc23:=NB441_465.out;have hnb24:=NB465_453.out;have hnc24:=NB453_465.out;have hcz25_0 : w22.cell? ⟨gb465,0,none⟩ = some (.int .i64 0):=(bc_ BK465.out 0).trans rfl;have hcz25_1 : w22.cell? ⟨gb465,1,none⟩ = some (.slice none 0 0):=(bc_ BK465.out 1).trans rfl;have hcz25_2 : w22.cell? ⟨gb465,2,none⟩ = some (.slice none 0 0):=(bc_ BK465.out 2).trans rfl;have hcz25_3 : w22.cell? ⟨gb465,3,none⟩ = some (.slice none 0 0):=(bc_ BK465.out 3).trans rfl;have hfz25_0:=bf_ BK465.out 0;have hfz25_1:=bf_ BK465.out 1;have hfz25_2:=bf_ BK465.out 2;have hfz25_3:=bf_ BK465.out 3;obtain ⟨Ao26,co26,eo26⟩:=Kd.R_slice HO457.out;subst eo26;obtain ⟨Ao27,co27,eo27⟩:=Kd.R_slice HO460.out;subst eo27;obtain ⟨Ao28,co28,eo28⟩:=Kd.R_slice HO463.out;subst eo28))
  (try simp only [Act.put,sx_,sy_,sz_])
  go_cut [49] (fun v49 wc => ∃ (kq : Nat) (x49_5 : Bool),v49 = .bool x49_5 ∧ Aside0 (laws_FnCutCable.j0 kq t440 t452 t464 x49_5 t430 t431 t434 t437 t442 t443 t446 t449 t454 t455 t458 t461 = some r) ∧ Aside0 (kq ≤ k) ∧ Aside0 (Kd.R k51 51 wc w.heap.size (fun k_ => some k_ ≠ ((.slice Ao17 t443.length co17) : Value).ownBlock ∧ some k_ ≠ ((.slice Ao26 t455.length co26) : Value).ownBlock) (.slice Ao10 t431.length co10) t431) ∧ Aside0 (Kd.R (Kd.int .i64) 3 wc w.heap.size (fun k_ => some k_ ≠ ((.slice Ao12 t437.length co12) : Value).ownBlock ∧ some k_ ≠ ((.slice Ao18 t446.length co18) : Value).ownBlock ∧ some k_ ≠ ((.slice Ao19 t449.length co19) : Value).ownBlock ∧ some k_ ≠ ((.slice Ao27 t458.length co27) : Value).ownBlock ∧ some k_ ≠ ((.slice Ao28 t461.length co28) : Value).ownBlock) (.slice Ao11 t434.length co11) t434) ∧ Aside0 (Kd.Q (Kd.int .i64) 3 wc w.heap.size (fun k_ => some k_ ≠ ((.slice Ao11 t434.length co11) : Value).ownBlock ∧ some k_ ≠ ((.slice Ao18 t446.length co18) : Value).ownBlock ∧ some k_ ≠ ((.slice Ao19 t449.length co19) : Value).ownBlock ∧ some k_ ≠ ((.slice Ao27 t458.length co27) : Value).ownBlock ∧ some k_ ≠ ((.slice Ao28 t461.length co28) : Value).ownBlock) (.slice Ao12 t437.length co12) t437) ∧ Aside0 (Kd.R k51 51 wc w.heap.size (fun k_ => some k_ ≠ ((.slice Ao10 t431.length co10) : Value).ownBlock ∧ some k_ ≠ ((.slice Ao26 t455.length co26) : Value).ownBlock) (.slice Ao17 t443.length co17) t443) ∧ Aside0 (Kd.R (Kd.int .i64) 3 wc w.heap.size (fun k_ => some k_ ≠ ((.slice Ao11 t434.length co11) : Value).ownBlock ∧ some k_ ≠ ((.slice Ao12 t437.length co12) : Value).ownBlock ∧ some k_ ≠ ((.slice Ao19 t449.length co19) : Value).ownBlock ∧ some k_ ≠ ((.slice Ao27 t458.length co27) : Value).ownBlock ∧ some k_ ≠ ((.slice Ao28 t461.length co28) : Value).ownBlock) (.slice Ao18 t446.length co18) t446) ∧ Aside0 (Kd.Q (Kd.int .i64) 3 wc w.heap.size (fun k_ => some k_ ≠ ((.slice Ao11 t434.length co11) : Value).ownBlock ∧ some k_ ≠ ((.slice Ao12 t437.length co12) : Value).ownBlock ∧ some k_ ≠ ((.slice Ao18 t446.length co18) : Value).ownBlock ∧ some k_ ≠ ((.slice Ao27 t458.length co27) : Value).ownBlock ∧ some k_ ≠ ((.slice Ao28 t461.length co28) : Value).ownBlock) (.slice Ao19 t449.length co19) t449) ∧ Aside0 (Kd.R k51 51 wc w.heap.size (fun k_ => some k_ ≠ ((.slice Ao10 t431.length co10) : Value).ownBlock ∧ some k_ ≠ ((.slice Ao17 t443.length co17) : Value).ownBlock) (.slice Ao26 t455.length co26) t455) ∧ Aside0 (Kd.R (Kd.int .i64) 3 wc w.heap.size (fun k_ => some k_ ≠ ((.slice Ao11 t434.length co11) : Value).ownBlock ∧ some k_ ≠ ((.slice Ao12 t437.length co12) : Value).ownBlock ∧ some k_ ≠ ((.slice Ao18 t446.length co18) : Value).ownBlock ∧ some k_ ≠ ((.slice Ao19 t449.length co19) : Value).ownBlock ∧ some k_ ≠ ((.slice Ao28 t461.length co28) : Value).ownBlock) (.slice Ao27 t458.length co27) t458) ∧ Aside0 (Kd.Q (Kd.int .i64) 3 wc w.heap.size (fun k_ => some k_ ≠ ((.slice Ao11 t434.length co11) : Value).ownBlock ∧ some k_ ≠ ((.slice Ao12 t437.length co12) : Value).ownBlock ∧ some k_ ≠ ((.slice Ao18 t446.length co18) : Value).ownBlock ∧ some k_ ≠ ((.slice Ao19 t449.length co19) : Value).ownBlock ∧ some k_ ≠ ((.slice Ao27 t458.length co27) : Value).ownBlock) (.slice Ao28 t461.length co28) t461) ∧ Aside0 (wc.heap[gb441]? = some (.cells #[.int .i64 t430,(.slice Ao10 t431.length co10),(.slice Ao11 t434.length co11),(.slice Ao12 t437.length co12)] 30 (0,0))) ∧ Aside0 (wc.heap[gb453]? = some (.cells #[.int .i64 t442,(.slice Ao17 t443.length co17),(.slice Ao18 t446.length co18),(.slice Ao19 t449.length co19)] 30 (0,0))) ∧ Aside0 (wc.heap[gb465]? = some (.cells #[.int .i64 t454,(.slice Ao26 t455.length co26),(.slice Ao27 t458.length co27),(.slice Ao28 t461.length co28)] 30 (0,0))) ∧ Aside0 (Below w.heap.size w wc))
  case first =>
   have H:=HC6.out
   clear HC6
   by_cases c29 : (t452 != t464) = true
   ·rw [if_pos c29] at H
    have c29b0 : (t452 != t464) = true:=c29
    (try (have c29b1 : decide (t452 = t464) = false:=by simpa using c29))
    (try (have c29b2 : (t452 == t464) = false:=by simpa using c29))
    (try (have c29b3 : ¬ (t452 = t464):=by simpa using c29))
    clear c29
    (first|rw [c29b0]|(simp only [i64_w,i32_w];rw [c29b0])|skip)
    have H':=mk_ H
    clear H
    go_wp2
    go_meet
    case rel => exact ⟨_,(true),(by first|rfl|(simp;done)|(simp [*];done)),H',⟨by first|omega|exact Nat.le_refl _⟩,⟨by (with_reducible repeat (first|apply ra_|apply rn_|apply rd_));exact rm_ (rf_ (p:=⟨gb465,3,none⟩) (rf_ (p:=⟨gb465,2,none⟩) (rf_ (p:=⟨gb465,1,none⟩) (rf_ (p:=⟨gb465,0,none⟩) (rt_ HO433.out BK465.out (by decide)) (fun _ hk => hk.2) (.int .i64 t454)) (fun _ hk => hk.2) (.slice Ao26 t455.length co26)) (fun _ hk => hk.2) (.slice Ao27 t458.length co27)) (fun _ hk => hk.2) (.slice Ao28 t461.length co28)) (fun _ hk => ⟨hk.1.1.2,hk.1.2⟩)⟩,⟨by (with_reducible repeat (first|apply ra_|apply rn_|apply rd_));exact rm_ (rf_ (p:=⟨gb465,3,none⟩) (rf_ (p:=⟨gb465,2,none⟩) (rf_ (p:=⟨gb465,1,none⟩) (rf_ (p:=⟨gb465,0,none⟩) (rt_ HO436.out BK465.out (by decide)) (fun _ hk => hk.2) (.int .i64 t454)) (fun _ hk => hk.2) (.slice Ao26 t455.length co26)) (fun _ hk => hk.2) (.slice Ao27 t458.length co27)) (fun _ hk => hk.2) (.slice Ao28 t461.length co28)) (fun _ hk => ⟨hk.1.1.1.1.1,⟨hk.1.1.1.1.2,⟨hk.1.1.1.2,⟨hk.1.1.2,hk.1.2⟩⟩⟩⟩)⟩,⟨by (with_reducible repeat (first|apply Kd.Q_alloc|apply Kd.Q_drewN|apply Kd.Q_drew));exact Kd.Q_mono (Kd.Q_far (p:=⟨gb465,3,none⟩) (Kd.Q_far (p:=⟨gb465,2,none⟩) (Kd.Q_far (p:=⟨gb465,1,none⟩) (Kd.Q_far (p:=⟨gb465,0,none⟩) (Kd.Q_types HO439.out BK465.out (by decide)) (fun _ hk => hk.2) (.int .i64 t454)) (fun _ hk => hk.2) (.slice Ao26 t455.length co26)) (fun _ hk => hk.2) (.slice Ao27 t458.length co27)) (fun _ hk => hk.2) (.slice Ao28 t461.length co28)) (fun _ hk => ⟨hk.1.1.1.1.1,⟨hk.1.1.1.1.2,⟨hk.1.1.1.2,⟨hk.1.1.2,hk.1.2⟩⟩⟩⟩)⟩,⟨by (with_reducible repeat (first|apply ra_|apply rn_|apply rd_));exact rm_ (rf_ (p:=⟨gb465,3,none⟩) (rf_ (p:=⟨gb465,2,none⟩) (rf_ (p:=⟨gb465,1,none⟩) (rf_ (p:=⟨gb465,0,none⟩) (rt_ HO445.out BK465.out (by decide)) (fun _ hk => hk.2) (.int .i64 t454)) (fun _ hk => hk.2) (.slice Ao26 t455.length co26)) (fun _ hk => hk.2) (.slice Ao27 t458.length co27)) (fun _ hk => hk.2) (.slice Ao28 t461.length co28)) (fun _ hk => ⟨hk.1.1.2,hk.1.2⟩)⟩,⟨by (with_reducible repeat (first|apply ra_|apply rn_|apply rd_));exact rm_ (rf_ (p:=⟨gb465,3,none⟩) (rf_ (p:=⟨gb465,2,none⟩) (rf_ (p:=⟨gb465,1,none⟩) (rf_ (p:=⟨gb465,0,none⟩) (rt_ HO448.out BK465.out (by decide)) (fun _ hk => hk.2) (.int .i64 t454)) (fun _ hk => hk.2) (.slice Ao26 t455.length co26)) (fun _ hk => hk.2) (.slice Ao27 t458.length co27)) (fun _ hk => hk.2) (.slice Ao28 t461.length co28)) (fun _ hk => ⟨hk.1.1.1.1.2,⟨hk.1.1.1.2,⟨hk.1.1.1.1.1,⟨hk.1.1.2,hk.1.2⟩⟩⟩⟩)⟩,⟨Kd.Q_of_R (by (with_reducible repeat (first|apply ra_|apply rn_|apply rd_));exact rm_ (rf_ (p:=⟨gb465,3,none⟩) (rf_ (p:=⟨gb465,2,none⟩) (rf_ (p:=⟨gb465,1,none⟩) (rf_ (p:=⟨gb465,0,none⟩) (rt_ HO451.out BK465.out (by decide)) (fun _ hk => hk.2) (.int .i64 t454)) (fun _ hk => hk.2) (.slice Ao26 t455.length co26)) (fun _ hk => hk.2) (.slice Ao27 t458.length co27)) (fun _ hk => hk.2) (.slice Ao28 t461.length co28)) (fun _ hk => ⟨hk.1.1.1.1.2,⟨hk.1.1.1.2,⟨hk.1.1.1.1.1,⟨hk.1.1.2,hk.1.2⟩⟩⟩⟩))⟩,⟨by (with_reducible repeat (first|apply ra_|apply rn_|apply rd_));exact rm_ (rf_ (p:=⟨gb465,3,none⟩) (rf_ (p:=⟨gb465,2,none⟩) (rf_ (p:=⟨gb465,1,none⟩) (rf_ (p:=⟨gb465,0,none⟩) (rt_ HO457.out BK465.out (by decide)) (fun _ hk => hk.2) (.int .i64 t454)) (fun _ hk => hk.2) (.slice Ao26 t455.length co26)) (fun _ hk => hk.2) (.slice Ao27 t458.length co27)) (fun _ hk => hk.2) (.slice Ao28 t461.length co28)) (fun _ hk => ⟨hk.1.1.2,hk.1.2⟩)⟩,⟨by (with_reducible repeat (first|apply ra_|apply rn_|apply rd_));exact rm_ (rf_ (p:=⟨gb465,3,none⟩) (rf_ (p:=⟨gb465,2,none⟩) (rf_ (p:=⟨gb465,1,none⟩) (rf_ (p:=⟨gb465,0,none⟩) (rt_ HO460.out BK465.out (by decide)) (fun _ hk => hk.2) (.int .i64 t454)) (fun _ hk => hk.2) (.slice Ao26 t455.length co26)) (fun _ hk => hk.2) (.slice Ao27 t458.length co27)) (fun _ hk => hk.2) (.slice Ao28 t461.length co28)) (fun _ hk => ⟨hk.1.1.1.1.2,⟨hk.1.1.1.2,⟨hk.1.1.2,⟨hk.1.2,hk.1.1.1.1.1⟩⟩⟩⟩)⟩,⟨Kd.Q_of_R (by (with_reducible repeat (first|apply ra_|apply rn_|apply rd_));exact rm_ (rf_ (p:=⟨gb465,3,none⟩) (rf_ (p:=⟨gb465,2,none⟩) (rf_ (p:=⟨gb465,1,none⟩) (rf_ (p:=⟨gb465,0,none⟩) (rt_ HO463.out BK465.out (by decide)) (fun _ hk => hk.2) (.int .i64 t454)) (fun _ hk => hk.2) (.slice Ao26 t455.length co26)) (fun _ hk => hk.2) (.slice Ao27 t458.length co27)) (fun _ hk => hk.2) (.slice Ao28 t461.length co28)) (fun _ hk => ⟨hk.1.1.1.1.2,⟨hk.1.1.1.2,⟨hk.1.1.2,⟨hk.1.2,hk.1.1.1.1.1⟩⟩⟩⟩))⟩,⟨by (with_reducible repeat (first|refine kn_ ?_ _|refine kd_ ?_|refine ka_ ?_ _));refine blk_far ?_ NB441_465.out _;(with_reducible repeat (first|refine kn_ ?_ _|refine kd_ ?_|refine ka_ ?_ _));refine blk_far ?_ NB441_465.out _;(with_reducible repeat (first|refine kn_ ?_ _|refine kd_ ?_|refine ka_ ?_ _));refine blk_far ?_ NB441_465.out _;(with_reducible repeat (first|refine kn_ ?_ _|refine kd_ ?_|refine ka_ ?_ _));refine blk_far ?_ NB441_465.out _;(with_reducible repeat (first|refine kn_ ?_ _|refine kd_ ?_|refine ka_ ?_ _));exact BK441.out⟩,⟨by (with_reducible repeat (first|refine kn_ ?_ _|refine kd_ ?_|refine ka_ ?_ _));refine blk_far ?_ NB453_465.out _;(with_reducible repeat (first|refine kn_ ?_ _|refine kd_ ?_|refine ka_ ?_ _));refine blk_far ?_ NB453_465.out _;(with_reducible repeat (first|refine kn_ ?_ _|refine kd_ ?_|refine ka_ ?_ _));refine blk_far ?_ NB453_465.out _;(with_reducible repeat (first|refine kn_ ?_ _|refine kd_ ?_|refine ka_ ?_ _));refine blk_far ?_ NB453_465.out _;(with_reducible repeat (first|refine kn_ ?_ _|refine kd_ ?_|refine ka_ ?_ _));exact BK453.out⟩,⟨by (with_reducible repeat (first|refine kn_ ?_ _|refine kd_ ?_|refine ka_ ?_ _));refine blk_put (cs:=#[.int .i64 t454,.slice Ao26 t455.length co26,.slice Ao27 t458.length co27,.slice none 0 0]) ?_ 3 _ rfl;(with_reducible repeat (first|refine kn_ ?_ _|refine kd_ ?_|refine ka_ ?_ _));refine blk_put (cs:=#[.int .i64 t454,.slice Ao26 t455.length co26,.slice none 0 0,.slice none 0 0]) ?_ 2 _ rfl;(with_reducible repeat (first|refine kn_ ?_ _|refine kd_ ?_|refine ka_ ?_ _));refine blk_put (cs:=#[.int .i64 t454,.slice none 0 0,.slice none 0 0,.slice none 0 0]) ?_ 1 _ rfl;(with_reducible repeat (first|refine kn_ ?_ _|refine kd_ ?_|refine ka_ ?_ _));refine blk_put (cs:=#[.int .i64 0,.slice none 0 0,.slice none 0 0,.slice none 0 0]) ?_ 0 _ rfl;(with_reducible repeat (first|refine kn_ ?_ _|refine kd_ ?_|refine ka_ ?_ _));exact BK465.out⟩,⟨by repeat (first|(with_reducible first|exact HB.out|apply ba_|apply bn_|apply bd_|refine bs_ ?_ GE441.out|refine bs_ ?_ GE453.out|refine bs_ ?_ GE465.out)|exact HB.out)⟩⟩
   ·rw [if_neg c29] at H
    have c29b0 : (t452 != t464) = false:=by simpa using c29
    (try (have c29b1 : decide (t452 = t464) = true:=by simpa using c29))
    (try (have c29b2 : (t452 == t464) = true:=by simpa using c29))
    clear c29
    (first|rw [c29b0]|(simp only [i64_w,i32_w];rw [c29b0])|skip)
    by_cases c30 : (t443.length : Int) = (t455.length : Int)
    ·rw [if_pos c30] at H
     have c30b0 : ((t443.length : Int) == (t455.length : Int)) = true:=beq_iff_eq.mpr c30
     have c30b1 : ((t443.length : Int) != (t455.length : Int)) = false:=bne_eq_false_iff_eq.mpr c30
     have c30b2 : (t443.length == t455.length) = true:=by first|simpa using c30|(simp at c30 ⊢;omega)
     clear c30
     have H':=mk_ H
     clear H
     have hnb31:=NB453_441.out
     have hnc31:=NB441_453.out
     have hnb32:=NB453_465.out
     have hnc32:=NB465_453.out
     have hcz33_0 : w22.cell? ⟨gb453,0,none⟩ = some (.int .i64 t442):=(bc_ BK453.out 0).trans rfl
     have hcz33_1 : w22.cell? ⟨gb453,1,none⟩ = some (.slice Ao17 t443.length co17):=(bc_ BK453.out 1).trans rfl
     have hcz33_2 : w22.cell? ⟨gb453,2,none⟩ = some (.slice Ao18 t446.length co18):=(bc_ BK453.out 2).trans rfl
     have hcz33_3 : w22.cell? ⟨gb453,3,none⟩ = some (.slice Ao19 t449.length co19):=(bc_ BK453.out 3).trans rfl
     have hfz33_0:=bf_ BK453.out 0
     have hfz33_1:=bf_ BK453.out 1
     have hfz33_2:=bf_ BK453.out 2
     have hfz33_3:=bf_ BK453.out 3
     have hnb34:=NB465_441.out
     have hnc34:=NB441_465.out
     have hcz35_0 : w22.cell? ⟨gb465,0,none⟩ = some (.int .i64 0):=(bc_ BK465.out 0).trans rfl
     have hcz35_1 : w22.cell? ⟨gb465,1,none⟩ = some (.slice none 0 0):=(bc_ BK465.out 1).trans rfl
     have hcz35_2 : w22.cell? ⟨gb465,2,none⟩ = some (.slice none 0 0):=(bc_ BK465.out 2).trans rfl
     have hcz35_3 : w22.cell? ⟨gb465,3,none⟩ = some (.slice none 0 0):=(bc_ BK465.out 3).trans rfl
     have hfz35_0:=bf_ BK465.out 0
     have hfz35_1:=bf_ BK465.out 1
     have hfz35_2:=bf_ BK465.out 2
     have hfz35_3:=bf_ BK465.out 3
     go_wp2
     go_meet
     case rel => exact ⟨_,(!t452),(by first|rfl|(simp;done)|(simp [*];done)),H',⟨by first|omega|exact Nat.le_refl _⟩,⟨by (with_reducible repeat (first|apply ra_|apply rn_|apply rd_));exact rm_ (rf_ (p:=⟨gb465,3,none⟩) (rf_ (p:=⟨gb465,2,none⟩) (rf_ (p:=⟨gb465,1,none⟩) (rf_ (p:=⟨gb465,0,none⟩) (rt_ HO433.out BK465.out (by decide)) (fun _ hk => hk.2) (.int .i64 t454)) (fun _ hk => hk.2) (.slice Ao26 t455.length co26)) (fun _ hk => hk.2) (.slice Ao27 t458.length co27)) (fun _ hk => hk.2) (.slice Ao28 t461.length co28)) (fun _ hk => ⟨hk.1.1.2,hk.1.2⟩)⟩,⟨by (with_reducible repeat (first|apply ra_|apply rn_|apply rd_));exact rm_ (rf_ (p:=⟨gb465,3,none⟩) (rf_ (p:=⟨gb465,2,none⟩) (rf_ (p:=⟨gb465,1,none⟩) (rf_ (p:=⟨gb465,0,none⟩) (rt_ HO436.out BK465.out (by decide)) (fun _ hk => hk.2) (.int .i64 t454)) (fun _ hk => hk.2) (.slice Ao26 t455.length co26)) (fun _ hk => hk.2) (.slice Ao27 t458.length co27)) (fun _ hk => hk.2) (.slice Ao28 t461.length co28)) (fun _ hk => ⟨hk.1.1.1.1.1,⟨hk.1.1.1.1.2,⟨hk.1.1.1.2,⟨hk.1.1.2,hk.1.2⟩⟩⟩⟩)⟩,⟨by (with_reducible repeat (first|apply Kd.Q_alloc|apply Kd.Q_drewN|apply Kd.Q_drew));exact Kd.Q_mono (Kd.Q_far (p:=⟨gb465,3,none⟩) (Kd.Q_far (p:=⟨gb465,2,none⟩) (Kd.Q_far (p:=⟨gb465,1,none⟩) (Kd.Q_far (p:=⟨gb465,0,none⟩) (Kd.Q_types HO439.out BK465.out (by decide)) (fun _ hk => hk.2) (.int .i64 t454)) (fun _ hk => hk.2) (.slice Ao26 t455.length co26)) (fun _ hk => hk.2) (.slice Ao27 t458.length co27)) (fun _ hk => hk.2) (.slice Ao28 t461.length co28)) (fun _ hk => ⟨hk.1.1.1.1.1,⟨hk.1.1.1.1.2,⟨hk.1.1.1.2,⟨hk.1.1.2,hk.1.2⟩⟩⟩⟩)⟩,⟨by (with_reducible repeat (first|apply ra_|apply rn_|apply rd_));exact rm_ (rf_ (p:=⟨gb465,3,none⟩) (rf_ (p:=⟨gb465,2,none⟩) (rf_ (p:=⟨gb465,1,none⟩) (rf_ (p:=⟨gb465,0,none⟩) (rt_ HO445.out BK465.out (by decide)) (fun _ hk => hk.2) (.int .i64 t454)) (fun _ hk => hk.2) (.slice Ao26 t455.length co26)) (fun _ hk => hk.2) (.slice Ao27 t458.length co27)) (fun _ hk => hk.2) (.slice Ao28 t461.length co28)) (fun _ hk => ⟨hk.1.1.2,hk.1.2⟩)⟩,⟨by (with_reducible repeat (first|apply ra_|apply rn_|apply rd_));exact rm_ (rf_ (p:=⟨gb465,3,none⟩) (rf_ (p:=⟨gb465,2,none⟩) (rf_ (p:=⟨gb465,1,none⟩) (rf_ (p:=⟨gb465,0,none⟩) (rt_ HO448.out BK465.out (by decide)) (fun _ hk => hk.2) (.int .i64 t454)) (fun _ hk => hk.2) (.slice Ao26 t455.length co26)) (fun _ hk => hk.2) (.slice Ao27 t458.length co27)) (fun _ hk => hk.2) (.slice Ao28 t461.length co28)) (fun _ hk => ⟨hk.1.1.1.1.2,⟨hk.1.1.1.2,⟨hk.1.1.1.1.1,⟨hk.1.1.2,hk.1.2⟩⟩⟩⟩)⟩,⟨Kd.Q_of_R (by (with_reducible repeat (first|apply ra_|apply rn_|apply rd_));exact rm_ (rf_ (p:=⟨gb465,3,none⟩) (rf_ (p:=⟨gb465,2,none⟩) (rf_ (p:=⟨gb465,1,none⟩) (rf_ (p:=⟨gb465,0,none⟩) (rt_ HO451.out BK465.out (by decide)) (fun _ hk => hk.2) (.int .i64 t454)) (fun _ hk => hk.2) (.slice Ao26 t455.length co26)) (fun _ hk => hk.2) (.slice Ao27 t458.length co27)) (fun _ hk => hk.2) (.slice Ao28 t461.length co28)) (fun _ hk => ⟨hk.1.1.1.1.2,⟨hk.1.1.1.2,⟨hk.1.1.1.1.1,⟨hk.1.1.2,hk.1.2⟩⟩⟩⟩))⟩,⟨by (with_reducible repeat (first|apply ra_|apply rn_|apply rd_));exact rm_ (rf_ (p:=⟨gb465,3,none⟩) (rf_ (p:=⟨gb465,2,none⟩) (rf_ (p:=⟨gb465,1,none⟩) (rf_ (p:=⟨gb465,0,none⟩) (rt_ HO457.out BK465.out (by decide)) (fun _ hk => hk.2) (.int .i64 t454)) (fun _ hk => hk.2) (.slice Ao26 t455.length co26)) (fun _ hk => hk.2) (.slice Ao27 t458.length co27)) (fun _ hk => hk.2) (.slice Ao28 t461.length co28)) (fun _ hk => ⟨hk.1.1.2,hk.1.2⟩)⟩,⟨by (with_reducible repeat (first|apply ra_|apply rn_|apply rd_));exact rm_ (rf_ (p:=⟨gb465,3,none⟩) (rf_ (p:=⟨gb465,2,none⟩) (rf_ (p:=⟨gb465,1,none⟩) (rf_ (p:=⟨gb465,0,none⟩) (rt_ HO460.out BK465.out (by decide)) (fun _ hk => hk.2) (.int .i64 t454)) (fun _ hk => hk.2) (.slice Ao26 t455.length co26)) (fun _ hk => hk.2) (.slice Ao27 t458.length co27)) (fun _ hk => hk.2) (.slice Ao28 t461.length co28)) (fun _ hk => ⟨hk.1.1.1.1.2,⟨hk.1.1.1.2,⟨hk.1.1.2,⟨hk.1.2,hk.1.1.1.1.1⟩⟩⟩⟩)⟩,⟨Kd.Q_of_R (by (with_reducible repeat (first|apply ra_|apply rn_|apply rd_));exact rm_ (rf_ (p:=⟨gb465,3,none⟩) (rf_ (p:=⟨gb465,2,none⟩) (rf_ (p:=⟨gb465,1,none⟩) (rf_ (p:=⟨gb465,0,none⟩) (rt_ HO463.out BK465.out (by decide)) (fun _ hk => hk.2) (.int .i64 t454)) (fun _ hk => hk.2) (.slice Ao26 t455.length co26)) (fun _ hk => hk.2) (.slice Ao27 t458.length co27)) (fun _ hk => hk.2) (.slice Ao28 t461.length co28)) (fun _ hk => ⟨hk.1.1.1.1.2,⟨hk.1.1.1.2,⟨hk.1.1.2,⟨hk.1.2,hk.1.1.1.1.1⟩⟩⟩⟩))⟩,⟨by (with_reducible repeat (first|refine kn_ ?_ _|refine kd_ ?_|refine ka_ ?_ _));refine blk_far ?_ NB441_465.out _;(with_reducible repeat (first|refine kn_ ?_ _|refine kd_ ?_|refine ka_ ?_ _));refine blk_far ?_ NB441_465.out _;(with_reducible repeat (first|refine kn_ ?_ _|refine kd_ ?_|refine ka_ ?_ _));refine blk_far ?_ NB441_465.out _;(with_reducible repeat (first|refine kn_ ?_ _|refine kd_ ?_|refine ka_ ?_ _));refine blk_far ?_ NB441_465.out _;(with_reducible repeat (first|refine kn_ ?_ _|refine kd_ ?_|refine ka_ ?_ _));exact BK441.out⟩,⟨by (with_reducible repeat (first|refine kn_ ?_ _|refine kd_ ?_|refine ka_ ?_ _));refine blk_far ?_ NB453_465.out _;(with_reducible repeat (first|refine kn_ ?_ _|refine kd_ ?_|refine ka_ ?_ _));refine blk_far ?_ NB453_465.out _;(with_reducible repeat (first|refine kn_ ?_ _|refine kd_ ?_|refine ka_ ?_ _));refine blk_far ?_ NB453_465.out _;(with_reducible repeat (first|refine kn_ ?_ _|refine kd_ ?_|refine ka_ ?_ _));refine blk_far ?_ NB453_465.out _;(with_reducible repeat (first|refine kn_ ?_ _|refine kd_ ?_|refine ka_ ?_ _));exact BK453.out⟩,⟨by (with_reducible repeat (first|refine kn_ ?_ _|refine kd_ ?_|refine ka_ ?_ _));refine blk_put (cs:=#[.int .i64 t454,.slice Ao26 t455.length co26,.slice Ao27 t458.length co27,.slice none 0 0]) ?_ 3 _ rfl;(with_reducible repeat (first|refine kn_ ?_ _|refine kd_ ?_|refine ka_ ?_ _));refine blk_put (cs:=#[.int .i64 t454,.slice Ao26 t455.length co26,.slice none 0 0,.slice none 0 0]) ?_ 2 _ rfl;(with_reducible repeat (first|refine kn_ ?_ _|refine kd_ ?_|refine ka_ ?_ _));refine blk_put (cs:=#[.int .i64 t454,.slice none 0 0,.slice none 0 0,.slice none 0 0]) ?_ 1 _ rfl;(with_reducible repeat (first|refine kn_ ?_ _|refine kd_ ?_|refine ka_ ?_ _));refine blk_put (cs:=#[.int .i64 0,.slice none 0 0,.slice none 0 0,.slice none 0 0]) ?_ 0 _ rfl;(with_reducible repeat (first|refine kn_ ?_ _|refine kd_ ?_|refine ka_ ?_ _));exact BK465.out⟩,⟨by repeat (first|(with_reducible first|exact HB.out|apply ba_|apply bn_|apply bd_|refine bs_ ?_ GE441.out|refine bs_ ?_ GE453.out|refine bs_ ?_ GE465.out)|exact HB.out)⟩⟩
    ·rw [if_neg c30] at H
     have c30b0 : ((t443.length : Int) == (t455.length : Int)) = false:=beq_eq_false_iff_ne.mpr c30
     have c30b1 : ((t443.length : Int) != (t455.length : Int)) = true:=bne_iff_ne.mpr c30
     have c30b2 : (t443.length == t455.length) = false:=by first|simpa using c30|(simp at c30 ⊢;omega)
     have H':=mk_ H
     clear H
     have hnb36:=NB453_441.out
     have hnc36:=NB441_453.out
     have hnb37:=NB453_465.out
     have hnc37:=NB465_453.out
     have hcz38_0 : w22.cell? ⟨gb453,0,none⟩ = some (.int .i64 t442):=(bc_ BK453.out 0).trans rfl
     have hcz38_1 : w22.cell? ⟨gb453,1,none⟩ = some (.slice Ao17 t443.length co17):=(bc_ BK453.out 1).trans rfl
     have hcz38_2 : w22.cell? ⟨gb453,2,none⟩ = some (.slice Ao18 t446.length co18):=(bc_ BK453.out 2).trans rfl
     have hcz38_3 : w22.cell? ⟨gb453,3,none⟩ = some (.slice Ao19 t449.length co19):=(bc_ BK453.out 3).trans rfl
     have hfz38_0:=bf_ BK453.out 0
     have hfz38_1:=bf_ BK453.out 1
     have hfz38_2:=bf_ BK453.out 2
     have hfz38_3:=bf_ BK453.out 3
     have hnb39:=NB465_441.out
     have hnc39:=NB441_465.out
     have hcz40_0 : w22.cell? ⟨gb465,0,none⟩ = some (.int .i64 0):=(bc_ BK465.out 0).trans rfl
     have hcz40_1 : w22.cell? ⟨gb465,1,none⟩ = some (.slice none 0 0):=(bc_ BK465.out 1).trans rfl
     have hcz40_2 : w22.cell? ⟨gb465,2,none⟩ = some (.slice none 0 0):=(bc_ BK465.out 2).trans rfl
     have hcz40_3 : w22.cell? ⟨gb465,3,none⟩ = some (.slice none 0 0):=(bc_ BK465.out 3).trans rfl
     have hfz40_0:=bf_ BK465.out 0
     have hfz40_1:=bf_ BK465.out 1
     have hfz40_2:=bf_ BK465.out 2
     have hfz40_3:=bf_ BK465.out 3
     go_wp2
     go_meet
     case rel => exact ⟨_,(true),(by first|rfl|(simp;done)|(simp [*];done)),H',⟨by first|omega|exact Nat.le_refl _⟩,⟨by (with_reducible repeat (first|apply ra_|apply rn_|apply rd_));exact rm_ (rf_ (p:=⟨gb465,3,none⟩) (rf_ (p:=⟨gb465,2,none⟩) (rf_ (p:=⟨gb465,1,none⟩) (rf_ (p:=⟨gb465,0,none⟩) (rt_ HO433.out BK465.out (by decide)) (fun _ hk => hk.2) (.int .i64 t454)) (fun _ hk => hk.2) (.slice Ao26 t455.length co26)) (fun _ hk => hk.2) (.slice Ao27 t458.length co27)) (fun _ hk => hk.2) (.slice Ao28 t461.length co28)) (fun _ hk => ⟨hk.1.1.2,hk.1.2⟩)⟩,⟨by (with_reducible repeat (first|apply ra_|apply rn_|apply rd_));exact rm_ (rf_ (p:=⟨gb465,3,none⟩) (rf_ (p:=⟨gb465,2,none⟩) (rf_ (p:=⟨gb465,1,none⟩) (rf_ (p:=⟨gb465,0,none⟩) (rt_ HO436.out BK465.out (by decide)) (fun _ hk => hk.2) (.int .i64 t454)) (fun _ hk => hk.2) (.slice Ao26 t455.length co26)) (fun _ hk => hk.2) (.slice Ao27 t458.length co27)) (fun _ hk => hk.2) (.slice Ao28 t461.length co28)) (fun _ hk => ⟨hk.1.1.1.1.1,⟨hk.1.1.1.1.2,⟨hk.1.1.1.2,⟨hk.1.1.2,hk.1.2⟩⟩⟩⟩)⟩,⟨by (with_reducible repeat (first|apply Kd.Q_alloc|apply Kd.Q_drewN|apply Kd.Q_drew));exact Kd.Q_mono (Kd.Q_far (p:=⟨gb465,3,none⟩) (Kd.Q_far (p:=⟨gb465,2,none⟩) (Kd.Q_far (p:=⟨gb465,1,none⟩) (Kd.Q_far (p:=⟨gb465,0,none⟩) (Kd.Q_types HO439.out BK465.out (by decide)) (fun _ hk => hk.2) (.int .i64 t454)) (fun _ hk => hk.2) (.slice Ao26 t455.length co26)) (fun _ hk => hk.2) (.slice Ao27 t458.length co27)) (fun _ hk => hk.2) (.slice Ao28 t461.length co28)) (fun _ hk => ⟨hk.1.1.1.1.1,⟨hk.1.1.1.1.2,⟨hk.1.1.1.2,⟨hk.1.1.2,hk.1.2⟩⟩⟩⟩)⟩,⟨by (with_reducible repeat (first|apply ra_|apply rn_|apply rd_));exact rm_ (rf_ (p:=⟨gb465,3,none⟩) (rf_ (p:=⟨gb465,2,none⟩) (rf_ (p:=⟨gb465,1,none⟩) (rf_ (p:=⟨gb465,0,none⟩) (rt_ HO445.out BK465.out (by decide)) (fun _ hk => hk.2) (.int .i64 t454)) (fun _ hk => hk.2) (.slice Ao26 t455.length co26)) (fun _ hk => hk.2) (.slice Ao27 t458.length co27)) (fun _ hk => hk.2) (.slice Ao28 t461.length co28)) (fun _ hk => ⟨hk.1.1.2,hk.1.2⟩)⟩,⟨by (with_reducible repeat (first|apply ra_|apply rn_|apply rd_));exact rm_ (rf_ (p:=⟨gb465,3,none⟩) (rf_ (p:=⟨gb465,2,none⟩) (rf_ (p:=⟨gb465,1,none⟩) (rf_ (p:=⟨gb465,0,none⟩) (rt_ HO448.out BK465.out (by decide)) (fun _ hk => hk.2) (.int .i64 t454)) (fun _ hk => hk.2) (.slice Ao26 t455.length co26)) (fun _ hk => hk.2) (.slice Ao27 t458.length co27)) (fun _ hk => hk.2) (.slice Ao28 t461.length co28)) (fun _ hk => ⟨hk.1.1.1.1.2,⟨hk.1.1.1.2,⟨hk.1.1.1.1.1,⟨hk.1.1.2,hk.1.2⟩⟩⟩⟩)⟩,⟨Kd.Q_of_R (by (with_reducible repeat (first|apply ra_|apply rn_|apply rd_));exact rm_ (rf_ (p:=⟨gb465,3,none⟩) (rf_ (p:=⟨gb465,2,none⟩) (rf_ (p:=⟨gb465,1,none⟩) (rf_ (p:=⟨gb465,0,none⟩) (rt_ HO451.out BK465.out (by decide)) (fun _ hk => hk.2) (.int .i64 t454)) (fun _ hk => hk.2) (.slice Ao26 t455.length co26)) (fun _ hk => hk.2) (.slice Ao27 t458.length co27)) (fun _ hk => hk.2) (.slice Ao28 t461.length co28)) (fun _ hk => ⟨hk.1.1.1.1.2,⟨hk.1.1.1.2,⟨hk.1.1.1.1.1,⟨hk.1.1.2,hk.1.2⟩⟩⟩⟩))⟩,⟨by (with_reducible repeat (first|apply ra_|apply rn_|apply rd_));exact rm_ (rf_ (p:=⟨gb465,3,none⟩) (rf_ (p:=⟨gb465,2,none⟩) (rf_ (p:=⟨gb465,1,none⟩) (rf_ (p:=⟨gb465,0,none⟩) (rt_ HO457.out BK465.out (by decide)) (fun _ hk => hk.2) (.int .i64 t454)) (fun _ hk => hk.2) (.slice Ao26 t455.length co26)) (fun _ hk => hk.2) (.slice Ao27 t458.length co27)) (fun _ hk => hk.2) (.slice Ao28 t461.length co28)) (fun _ hk => ⟨hk.1.1.2,hk.1.2⟩)⟩,⟨by (with_reducible repeat (first|apply ra_|apply rn_|apply rd_));exact rm_ (rf_ (p:=⟨gb465,3,none⟩) (rf_ (p:=⟨gb465,2,none⟩) (rf_ (p:=⟨gb465,1,none⟩) (rf_ (p:=⟨gb465,0,none⟩) (rt_ HO460.out BK465.out (by decide)) (fun _ hk => hk.2) (.int .i64 t454)) (fun _ hk => hk.2) (.slice Ao26 t455.length co26)) (fun _ hk => hk.2) (.slice Ao27 t458.length co27)) (fun _ hk => hk.2) (.slice Ao28 t461.length co28)) (fun _ hk => ⟨hk.1.1.1.1.2,⟨hk.1.1.1.2,⟨hk.1.1.2,⟨hk.1.2,hk.1.1.1.1.1⟩⟩⟩⟩)⟩,⟨Kd.Q_of_R (by (with_reducible repeat (first|apply ra_|apply rn_|apply rd_));exact rm_ (rf_ (p:=⟨gb465,3,none⟩) (rf_ (p:=⟨gb465,2,none⟩) (rf_ (p:=⟨gb465,1,none⟩) (rf_ (p:=⟨gb465,0,none⟩) (rt_ HO463.out BK465.out (by decide)) (fun _ hk => hk.2) (.int .i64 t454)) (fun _ hk => hk.2) (.slice Ao26 t455.length co26)) (fun _ hk => hk.2) (.slice Ao27 t458.length co27)) (fun _ hk => hk.2) (.slice Ao28 t461.length co28)) (fun _ hk => ⟨hk.1.1.1.1.2,⟨hk.1.1.1.2,⟨hk.1.1.2,⟨hk.1.2,hk.1.1.1.1.1⟩⟩⟩⟩))⟩,⟨by (with_reducible repeat (first|refine kn_ ?_ _|refine kd_ ?_|refine ka_ ?_ _));refine blk_far ?_ NB441_465.out _;(with_reducible repeat (first|refine kn_ ?_ _|refine kd_ ?_|refine ka_ ?_ _));refine blk_far ?_ NB441_465.out _;(with_reducible repeat (first|refine kn_ ?_ _|refine kd_ ?_|refine ka_ ?_ _));refine blk_far ?_ NB441_465.out _;(with_reducible repeat (first|refine kn_ ?_ _|refine kd_ ?_|refine ka_ ?_ _));refine blk_far ?_ NB441_465.out _;(with_reducible repeat (first|refine kn_ ?_ _|refine kd_ ?_|refine ka_ ?_ _));exact BK441.out⟩,⟨by (with_reducible repeat (first|refine kn_ ?_ _|refine kd_ ?_|refine ka_ ?_ _));refine blk_far ?_ NB453_465.out _;(with_reducible repeat (first|refine kn_ ?_ _|refine kd_ ?_|refine ka_ ?_ _));refine blk_far ?_ NB453_465.out _;(with_reducible repeat (first|refine kn_ ?_ _|refine kd_ ?_|refine ka_ ?_ _));refine blk_far ?_ NB453_465.out _;(with_reducible repeat (first|refine kn_ ?_ _|refine kd_ ?_|refine ka_ ?_ _));refine blk_far ?_ NB453_465.out _;(with_reducible repeat (first|refine kn_ ?_ _|refine kd_ ?_|refine ka_ ?_ _));exact BK453.out⟩,⟨by (with_reducible repeat (first|refine kn_ ?_ _|refine kd_ ?_|refine ka_ ?_ _));refine blk_put (cs:=#[.int .i64 t454,.slice Ao26 t455.length co26,.slice Ao27 t458.length co27,.slice none 0 0]) ?_ 3 _ rfl;(with_reducible repeat (first|refine kn_ ?_ _|refine kd_ ?_|refine ka_ ?_ _));refine blk_put (cs:=#[.int .i64 t454,.slice Ao26 t455.length co26,.slice none 0 0,.slice none 0 0]) ?_ 2 _ rfl;(with_reducible repeat (first|refine kn_ ?_ _|refine kd_ ?_|refine ka_ ?_ _));refine blk_put (cs:=#[.int .i64 t454,.slice none 0 0,.slice none 0 0,.slice none 0 0]) ?_ 1 _ rfl;(with_reducible repeat (first|refine kn_ ?_ _|refine kd_ ?_|refine ka_ ?_ _));refine blk_put (cs:=#[.int .i64 0,.slice none 0 0,.slice none 0 0,.slice none 0 0]) ?_ 0 _ rfl;(with_reducible repeat (first|refine kn_ ?_ _|refine kd_ ?_|refine ka_ ?_ _));exact BK465.out⟩,⟨by repeat (first|(with_reducible first|exact HB.out|apply ba_|apply bn_|apply bd_|refine bs_ ?_ GE441.out|refine bs_ ?_ GE453.out|refine bs_ ?_ GE465.out)|exact HB.out)⟩⟩
  case rest =>
   clear HC6
   try clear c1
   try clear c2
   try clear c2b0
   try clear c2b1
   try clear p2
   try clear c3
   try clear c7
   try clear c15
   try clear c23
   try clear c24
   try clear c26
   try clear c27
   try clear c29
   try clear c29b0
   try clear c29b1
   try clear c29b2
   try clear c30
   try clear c30b0
   try clear c30b1
   try clear c30b2
   try clear c31
   try clear c32
   try clear c34
   try clear c36
   try clear c37
   try clear c39
   try clear hcz16_0
   try clear hcz16_1
   try clear hcz16_2
   try clear hcz16_3
   try clear hcz20_0
   try clear hcz20_1
   try clear hcz20_2
   try clear hcz20_3
   try clear hcz25_0
   try clear hcz25_1
   try clear hcz25_2
   try clear hcz25_3
   try clear hcz33_0
   try clear hcz33_1
   try clear hcz33_2
   try clear hcz33_3
   try clear hcz35_0
   try clear hcz35_1
   try clear hcz35_2
   try clear hcz35_3
   try clear hcz38_0
   try clear hcz38_1
   try clear hcz38_2
   try clear hcz38_3
   try clear hcz40_0
   try clear hcz40_1
   try clear hcz40_2
   try clear hcz40_3
   try clear hcz9_0
   try clear hcz9_1
   try clear hcz9_2
   try clear hcz9_3
   try clear hfz16_0
   try clear hfz16_1
   try clear hfz16_2
   try clear hfz16_3
   try clear hfz20_0
   try clear hfz20_1
   try clear hfz20_2
   try clear hfz20_3
   try clear hfz25_0
   try clear hfz25_1
   try clear hfz25_2
   try clear hfz25_3
   try clear hfz33_0
   try clear hfz33_1
   try clear hfz33_2
   try clear hfz33_3
   try clear hfz35_0
   try clear hfz35_1
   try clear hfz35_2
   try clear hfz35_3
   try clear hfz38_0
   try clear hfz38_1
   try clear hfz38_2
   try clear hfz38_3
   try clear hfz40_0
   try clear hfz40_1
   try clear hfz40_2
   try clear hfz40_3
   try clear hfz9_0
   try clear hfz9_1
   try clear hfz9_2
   try clear hfz9_3
   obtain ⟨kq,x49_5,rfl,HA,HJ5,HO_442001,HO_442002,HO_442003,HO_454001,HO_454002,HO_454003,HO_466001,HO_466002,HO_466003,BK441,BK453,BK465,HB⟩:=hcut
   cases kq with
   | zero => exact absurd HA.out (by simp [laws_FnCutCable.j0])
   | succ kj5 =>
    have H:=HA.out
    clear HA
    simp only [laws_FnCutCable.j0] at H
    by_cases c41 : x49_5 = true
    ·subst c41
     have H1 : (if (t452 == t464) = true then (some ((t443.length : Int) == (t455.length : Int))) else (some false)) = some r:=by rw [if_pos rfl] at H;exact H
     clear H
     have H:=H1
     clear H1
     by_cases c42 : (t452 == t464) = true
     ·rw [if_pos c42] at H
      have c42b0 : (t452 == t464) = true:=c42
      (try (have c42b1 : decide (t452 = t464) = true:=by simpa using c42))
      (try (have c42b2 : (t452 == t464) = true:=by simpa using c42))
      clear c42
      obtain rfl:=Option.some.inj H
      have hnb43:=NB453_441.out
      have hnc43:=NB441_453.out
      have hnb44:=NB453_465.out
      have hnc44:=NB465_453.out
      have hcz45_0 : wc.cell? ⟨gb453,0,none⟩ = some (.int .i64 t442):=(bc_ BK453.out 0).trans rfl
      have hcz45_1 : wc.cell? ⟨gb453,1,none⟩ = some (.slice Ao17 t443.length co17):=(bc_ BK453.out 1).trans rfl
      have hcz45_2 : wc.cell? ⟨gb453,2,none⟩ = some (.slice Ao18 t446.length co18):=(bc_ BK453.out 2).trans rfl
      have hcz45_3 : wc.cell? ⟨gb453,3,none⟩ = some (.slice Ao19 t449.length co19):=(bc_ BK453.out 3).trans rfl
      have hfz45_0:=bf_ BK453.out 0
      have hfz45_1:=bf_ BK453.out 1
      have hfz45_2:=bf_ BK453.out 2
      have hfz45_3:=bf_ BK453.out 3
      have hnb46:=NB465_441.out
      have hnc46:=NB441_465.out
      have hcz47_0 : wc.cell? ⟨gb465,0,none⟩ = some (.int .i64 t454):=(bc_ BK465.out 0).trans rfl
      have hcz47_1 : wc.cell? ⟨gb465,1,none⟩ = some (.slice Ao26 t455.length co26):=(bc_ BK465.out 1).trans rfl
      have hcz47_2 : wc.cell? ⟨gb465,2,none⟩ = some (.slice Ao27 t458.length co27):=(bc_ BK465.out 2).trans rfl
      have hcz47_3 : wc.cell? ⟨gb465,3,none⟩ = some (.slice Ao28 t461.length co28):=(bc_ BK465.out 3).trans rfl
      have hfz47_0:=bf_ BK465.out 0
      have hfz47_1:=bf_ BK465.out 1
      have hfz47_2:=bf_ BK465.out 2
      have hfz47_3:=bf_ BK465.out 3
      go_wp2
      go_ret
      exact ⟨by first|rfl|(simp [errW_none,errW_some] <;> rfl)|(simp [*,errW_none,errW_some] <;> rfl),by repeat (first|(with_reducible first|exact HB.out|apply ba_|apply bn_|apply bd_|refine bs_ ?_ GE441.out|refine bs_ ?_ GE453.out|refine bs_ ?_ GE465.out)|exact HB.out)⟩
     ·rw [if_neg c42] at H
      have c42b0 : (t452 == t464) = false:=by simpa using c42
      (try (have c42b1 : decide (t452 = t464) = false:=by simpa using c42))
      (try (have c42b2 : (t452 == t464) = false:=by simpa using c42))
      (try (have c42b3 : ¬ (t452 = t464):=by simpa using c42))
      clear c42
      obtain rfl:=Option.some.inj H
      go_wp2
      go_ret
      exact ⟨by first|rfl|(simp [errW_none,errW_some] <;> rfl)|(simp [*,errW_none,errW_some] <;> rfl),by repeat (first|(with_reducible first|exact HB.out|apply ba_|apply bn_|apply bd_|refine bs_ ?_ GE441.out|refine bs_ ?_ GE453.out|refine bs_ ?_ GE465.out)|exact HB.out)⟩
    ·replace c41:=Bool.eq_false_iff.mpr c41
     subst c41
     have H1 : (laws_FnCutCable.l0 kj5 t440 (t434.length : Int) 0 t430 t431 t434 t437 t442 t443 t446 t449) = some r:=by rw [if_neg (show ¬ (false = true) by decide)] at H;exact H
     clear H
     have H:=H1
     clear H1
     have H':=mk_ H
     clear H
     have hnb48:=NB441_453.out
     have hnc48:=NB453_441.out
     have hnb49:=NB441_465.out
     have hnc49:=NB465_441.out
     have hcz50_0 : wc.cell? ⟨gb441,0,none⟩ = some (.int .i64 t430):=(bc_ BK441.out 0).trans rfl
     have hcz50_1 : wc.cell? ⟨gb441,1,none⟩ = some (.slice Ao10 t431.length co10):=(bc_ BK441.out 1).trans rfl
     have hcz50_2 : wc.cell? ⟨gb441,2,none⟩ = some (.slice Ao11 t434.length co11):=(bc_ BK441.out 2).trans rfl
     have hcz50_3 : wc.cell? ⟨gb441,3,none⟩ = some (.slice Ao12 t437.length co12):=(bc_ BK441.out 3).trans rfl
     have hfz50_0:=bf_ BK441.out 0
     have hfz50_1:=bf_ BK441.out 1
     have hfz50_2:=bf_ BK441.out 2
     have hfz50_3:=bf_ BK441.out 3
     go_wp2
     go_loopg [65] kj5 (fun kq v65 w' => ∃ (x65_2 : Int),v65 = .int .i64 x65_2 ∧ Aside0 (laws_FnCutCable.l0 kq t440 (t434.length : Int) x65_2 t430 t431 t434 t437 t442 t443 t446 t449 = some r) ∧ Aside0 (kq ≤ kj5) ∧ Aside0 (Kd.R k51 51 w' w.heap.size (fun k_ => some k_ ≠ ((.slice Ao17 t443.length co17) : Value).ownBlock ∧ some k_ ≠ ((.slice Ao26 t455.length co26) : Value).ownBlock) (.slice Ao10 t431.length co10) t431) ∧ Aside0 (Kd.R (Kd.int .i64) 3 w' w.heap.size (fun k_ => some k_ ≠ ((.slice Ao12 t437.length co12) : Value).ownBlock ∧ some k_ ≠ ((.slice Ao18 t446.length co18) : Value).ownBlock ∧ some k_ ≠ ((.slice Ao19 t449.length co19) : Value).ownBlock ∧ some k_ ≠ ((.slice Ao27 t458.length co27) : Value).ownBlock ∧ some k_ ≠ ((.slice Ao28 t461.length co28) : Value).ownBlock) (.slice Ao11 t434.length co11) t434) ∧ Aside0 (Kd.Q (Kd.int .i64) 3 w' w.heap.size (fun k_ => some k_ ≠ ((.slice Ao11 t434.length co11) : Value).ownBlock ∧ some k_ ≠ ((.slice Ao18 t446.length co18) : Value).ownBlock ∧ some k_ ≠ ((.slice Ao19 t449.length co19) : Value).ownBlock ∧ some k_ ≠ ((.slice Ao27 t458.length co27) : Value).ownBlock ∧ some k_ ≠ ((.slice Ao28 t461.length co28) : Value).ownBlock) (.slice Ao12 t437.length co12) t437) ∧ Aside0 (Kd.R k51 51 w' w.heap.size (fun k_ => some k_ ≠ ((.slice Ao10 t431.length co10) : Value).ownBlock ∧ some k_ ≠ ((.slice Ao26 t455.length co26) : Value).ownBlock) (.slice Ao17 t443.length co17) t443) ∧ Aside0 (Kd.R (Kd.int .i64) 3 w' w.heap.size (fun k_ => some k_ ≠ ((.slice Ao11 t434.length co11) : Value).ownBlock ∧ some k_ ≠ ((.slice Ao12 t437.length co12) : Value).ownBlock ∧ some k_ ≠ ((.slice Ao19 t449.length co19) : Value).ownBlock ∧ some k_ ≠ ((.slice Ao27 t458.length co27) : Value).ownBlock ∧ some k_ ≠ ((.slice Ao28 t461.length co28) : Value).ownBlock) (.slice Ao18 t446.length co18) t446) ∧ Aside0 (Kd.Q (Kd.int .i64) 3 w' w.heap.size (fun k_ => some k_ ≠ ((.slice Ao11 t434.length co11) : Value).ownBlock ∧ some k_ ≠ ((.slice Ao12 t437.length co12) : Value).ownBlock ∧ some k_ ≠ ((.slice Ao18 t446.length co18) : Value).ownBlock ∧ some k_ ≠ ((.slice Ao27 t458.length co27) : Value).ownBlock ∧ some k_ ≠ ((.slice Ao28 t461.length co28) : Value).ownBlock) (.slice Ao19 t449.length co19) t449) ∧ Aside0 (Kd.R k51 51 w' w.heap.size (fun k_ => some k_ ≠ ((.slice Ao10 t431.length co10) : Value).ownBlock ∧ some k_ ≠ ((.slice Ao17 t443.length co17) : Value).ownBlock) (.slice Ao26 t455.length co26) t455) ∧ Aside0 (Kd.R (Kd.int .i64) 3 w' w.heap.size (fun k_ => some k_ ≠ ((.slice Ao11 t434.length co11) : Value).ownBlock ∧ some k_ ≠ ((.slice Ao12 t437.length co12) : Value).ownBlock ∧ some k_ ≠ ((.slice Ao18 t446.length co18) : Value).ownBlock ∧ some k_ ≠ ((.slice Ao19 t449.length co19) : Value).ownBlock ∧ some k_ ≠ ((.slice Ao28 t461.length co28) : Value).ownBlock) (.slice Ao27 t458.length co27) t458) ∧ Aside0 (Kd.Q (Kd.int .i64) 3 w' w.heap.size (fun k_ => some k_ ≠ ((.slice Ao11 t434.length co11) : Value).ownBlock ∧ some k_ ≠ ((.slice Ao12 t437.length co12) : Value).ownBlock ∧ some k_ ≠ ((.slice Ao18 t446.length co18) : Value).ownBlock ∧ some k_ ≠ ((.slice Ao19 t449.length co19) : Value).ownBlock ∧ some k_ ≠ ((.slice Ao27 t458.length co27) : Value).ownBlock) (.slice Ao28 t461.length co28) t461) ∧ Aside0 (w'.heap[gb441]? = some (.cells #[.int .i64 t430,(.slice Ao10 t431.length co10),(.slice Ao11 t434.length co11),(.slice Ao12 t437.length co12)] 30 (0,0))) ∧ Aside0 (w'.heap[gb453]? = some (.cells #[.int .i64 t442,(.slice Ao17 t443.length co17),(.slice Ao18 t446.length co18),(.slice Ao19 t449.length co19)] 30 (0,0))) ∧ Aside0 (w'.heap[gb465]? = some (.cells #[.int .i64 t454,(.slice Ao26 t455.length co26),(.slice Ao27 t458.length co27),(.slice Ao28 t461.length co28)] 30 (0,0))) ∧ Aside0 (Below w.heap.size w w'))
     case atStart => exact ⟨(0),(by first|rfl|(simp;done)|(simp [*];done)),H',⟨Nat.le_refl _⟩,⟨by (with_reducible repeat (first|apply ra_|apply rn_|apply rd_));exact HO_442001.out⟩,⟨by (with_reducible repeat (first|apply ra_|apply rn_|apply rd_));exact HO_442002.out⟩,⟨by (with_reducible repeat (first|apply Kd.Q_alloc|apply Kd.Q_drewN|apply Kd.Q_drew));exact HO_442003.out⟩,⟨by (with_reducible repeat (first|apply ra_|apply rn_|apply rd_));exact HO_454001.out⟩,⟨by (with_reducible repeat (first|apply ra_|apply rn_|apply rd_));exact HO_454002.out⟩,⟨by (with_reducible repeat (first|apply Kd.Q_alloc|apply Kd.Q_drewN|apply Kd.Q_drew));exact HO_454003.out⟩,⟨by (with_reducible repeat (first|apply ra_|apply rn_|apply rd_));exact HO_466001.out⟩,⟨by (with_reducible repeat (first|apply ra_|apply rn_|apply rd_));exact HO_466002.out⟩,⟨by (with_reducible repeat (first|apply Kd.Q_alloc|apply Kd.Q_drewN|apply Kd.Q_drew));exact HO_466003.out⟩,⟨by (with_reducible repeat (first|refine kn_ ?_ _|refine kd_ ?_|refine ka_ ?_ _));exact BK441.out⟩,⟨by (with_reducible repeat (first|refine kn_ ?_ _|refine kd_ ?_|refine ka_ ?_ _));exact BK453.out⟩,⟨by (with_reducible repeat (first|refine kn_ ?_ _|refine kd_ ?_|refine ka_ ?_ _));exact BK465.out⟩,⟨by repeat (first|(with_reducible first|exact HB.out|apply ba_|apply bn_|apply bd_|refine bs_ ?_ GE441.out|refine bs_ ?_ GE453.out|refine bs_ ?_ GE465.out)|exact HB.out)⟩⟩
     case round =>
      clear H'
      try clear c1
      try clear c2
      try clear c2b0
      try clear c2b1
      try clear p2
      try clear c3
      try clear c4
      try clear c7
      try clear c15
      try clear c23
      try clear c24
      try clear c26
      try clear c27
      try clear c29
      try clear c29b0
      try clear c29b1
      try clear c29b2
      try clear c30
      try clear c30b0
      try clear c30b1
      try clear c30b2
      try clear c31
      try clear c32
      try clear c34
      try clear c36
      try clear c37
      try clear c39
      try clear c41
      try clear c42
      try clear c42b0
      try clear c42b1
      try clear c42b2
      try clear c43
      try clear c44
      try clear c46
      try clear c48
      try clear c49
      try clear hcz16_0
      try clear hcz16_1
      try clear hcz16_2
      try clear hcz16_3
      try clear hcz20_0
      try clear hcz20_1
      try clear hcz20_2
      try clear hcz20_3
      try clear hcz25_0
      try clear hcz25_1
      try clear hcz25_2
      try clear hcz25_3
      try clear hcz33_0
      try clear hcz33_1
      try clear hcz33_2
      try clear hcz33_3
      try clear hcz35_0
      try clear hcz35_1
      try clear hcz35_2
      try clear hcz35_3
      try clear hcz38_0
      try clear hcz38_1
      try clear hcz38_2
      try clear hcz38_3
      try clear hcz40_0
      try clear hcz40_1
      try clear hcz40_2
      try clear hcz40_3
      try clear hcz45_0
      try clear hcz45_1
      try clear hcz45_2
      try clear hcz45_3
      try clear hcz47_0
      try clear hcz47_1
      try clear hcz47_2
      try clear hcz47_3
      try clear hcz50_0
      try clear hcz50_1
      try clear hcz50_2
      try clear hcz50_3
      try clear hcz9_0
      try clear hcz9_1
      try clear hcz9_2
      try clear hcz9_3
      try clear hfz16_0
      try clear hfz16_1
      try clear hfz16_2
      try clear hfz16_3
      try clear hfz20_0
      try clear hfz20_1
      try clear hfz20_2
      try clear hfz20_3
      try clear hfz25_0
      try clear hfz25_1
      try clear hfz25_2
      try clear hfz25_3
      try clear hfz33_0
      try clear hfz33_1
      try clear hfz33_2
      try clear hfz33_3
      try clear hfz35_0
      try clear hfz35_1
      try clear hfz35_2
      try clear hfz35_3
      try clear hfz38_0
      try clear hfz38_1
      try clear hfz38_2
      try clear hfz38_3
      try clear hfz40_0
      try clear hfz40_1
      try clear hfz40_2
      try clear hfz40_3
      try clear hfz45_0
      try clear hfz45_1
      try clear hfz45_2
      try clear hfz45_3
      try clear hfz47_0
      try clear hfz47_1
      try clear hfz47_2
      try clear hfz47_3
      try clear hfz50_0
      try clear hfz50_1
      try clear hfz50_2
      try clear hfz50_3
      try clear hfz9_0
      try clear hfz9_1
      try clear hfz9_2
      try clear hfz9_3
      try clear p2
      obtain ⟨x65_2,rfl,HA,HK2,HO_442001,HO_442002,HO_442003,HO_454001,HO_454002,HO_454003,HO_466001,HO_466002,HO_466003,BK441,BK453,BK465,HB⟩:=hrel
      cases gk with
      | zero => exact absurd HA.out (by simp [laws_FnCutCable.l0])
      | succ k2 =>
       have H:=HA.out
       clear HA
       simp only [laws_FnCutCable.l0] at H
       by_cases c51 : x65_2 < (t434.length : Int)
       ·rw [if_pos c51] at H
        have c51b0 : decide (x65_2 < (t434.length : Int)) = true:=decide_eq_true c51
        clear c51
        replace H:=Option.bind_eq_some_iff.mp H
        obtain ⟨t467,A520,H⟩:=H
        replace H : ((impl_MatesOf.f k2 t442 t443 t446 t449 x65_2).bind fun t470 => (laws_FnCutCable.l1 k2 t440 t467 t470 (t434.length : Int) x65_2 t470 (t470.length : Int) 0 t430 t431 t434 t437 t442 t443 t446 t449)) = some r:=H
        have A52:=mk_ A520
        clear A520
        replace H:=Option.bind_eq_some_iff.mp H
        obtain ⟨t470,A530,H⟩:=H
        replace H : (laws_FnCutCable.l1 k2 t440 t467 t470 (t434.length : Int) x65_2 t470 (t470.length : Int) 0 t430 t431 t434 t437 t442 t443 t446 t449) = some r:=H
        have A53:=mk_ A530
        clear A530
        have H':=mk_ H
        clear H
        try go_wp2
        have n0_:=mk_ (rd_ HO_442001.out)
        have n1_:=mk_ (rd_ HO_442002.out)
        have n2_:=mk_ (Kd.Q_drew HO_442003.out)
        have n3_:=mk_ (rd_ HO_454001.out)
        have n4_:=mk_ (rd_ HO_454002.out)
        have n5_:=mk_ (Kd.Q_drew HO_454003.out)
        have n6_:=mk_ (rd_ HO_466001.out)
        have n7_:=mk_ (rd_ HO_466002.out)
        have n8_:=mk_ (Kd.Q_drew HO_466003.out)
        have n9_:=mk_ (kd_ BK441.out)
        have n10_:=mk_ (kd_ BK453.out)
        have n11_:=mk_ (kd_ BK465.out)
        have n12_:=mk_ (bd_ HB.out)
        clear HO_442001
        clear HO_442002
        clear HO_442003
        clear HO_454001
        clear HO_454002
        clear HO_454003
        clear HO_466001
        clear HO_466002
        clear HO_466003
        clear BK441
        clear BK453
        clear BK465
        clear HB
        have HO_442001:=n0_
        have HO_442002:=n1_
        have HO_442003:=n2_
        have HO_454001:=n3_
        have HO_454002:=n4_
        have HO_454003:=n5_
        have HO_466001:=n6_
        have HO_466002:=n7_
        have HO_466003:=n8_
        have BK441:=n9_
        have BK453:=n10_
        have BK465:=n11_
        have HB:=n12_
        clear n0_ n1_ n2_ n3_ n4_ n5_ n6_ n7_ n8_ n9_ n10_ n11_ n12_
        refine start_ (n:=8) (S:=fun w' => w'.cell? ⟨gb441,0,none⟩ = some (.int .i64 t430) ∧ w'.cell? ⟨gb441,1,none⟩ = some (.slice Ao10 t431.length co10) ∧ w'.cell? ⟨gb441,2,none⟩ = some (.slice Ao11 t434.length co11) ∧ w'.cell? ⟨gb441,3,none⟩ = some (.slice Ao12 t437.length co12) ∧ w'.cell? ⟨gb453,0,none⟩ = some (.int .i64 t442) ∧ w'.cell? ⟨gb453,1,none⟩ = some (.slice Ao17 t443.length co17) ∧ w'.cell? ⟨gb453,2,none⟩ = some (.slice Ao18 t446.length co18) ∧ w'.cell? ⟨gb453,3,none⟩ = some (.slice Ao19 t449.length co19)) (ds:=[]) #[false,false,false,false,false,false,false,false] (by kernel_rfl) rfl rfl ⟨(bc_ BK441.out 0).trans rfl,(bc_ BK441.out 1).trans rfl,(bc_ BK441.out 2).trans rfl,(bc_ BK441.out 3).trans rfl,(bc_ BK453.out 0).trans rfl,(bc_ BK453.out 1).trans rfl,(bc_ BK453.out 2).trans rfl,(bc_ BK453.out 3).trans rfl⟩ (fun hHeld => ?_);refine with_tabW laws_FnCutCable.tab11 laws_FnCutCable.bits11 (fun HT_ HW_ => ?_)
        generalize wr.drew = w54 at HO_442001 HO_442002 HO_442003 HO_454001 HO_454002 HO_454003 HO_466001 HO_466002 HO_466003 BK441 BK453 BK465 HB hHeld ⊢
        refine pure_ (i:=1) (N:=some 69) (v:=?_) (a':=?_) #[false,true,false,false,false,false,false,false] rfl rfl (any_of HT_.out (by kernel_rfl)) (fun _ _ _ h => h) (Or.inl ⟨by rfl,?_⟩) ?_ ?_
        rotate_left
        ·intro w'
         go_simp
         with_reducible rfl
        rotate_left
        ·simp only [Act.put,sx_,sy_,sz_,i64_w,i32_w]
         rfl
        refine pure_ (i:=4) (N:=some 72) (v:=?_) (a':=?_) #[false,true,false,false,true,false,false,false] rfl rfl (any_of HT_.out (by kernel_rfl)) (fun _ _ _ h => h) (Or.inl ⟨by rfl,?_⟩) ?_ ?_
        rotate_left
        ·intro w'
         go_simp
         with_reducible rfl
        rotate_left
        ·simp only [Act.put,sx_,sy_,sz_,i64_w,i32_w]
         rfl
        refine take_ (i:=0) (N:=some 68) (v:=?_) (a':=?_) #[true,true,false,false,true,false,false,false] rfl rfl (take_ofW HT_.out HW_.out (by kernel_rfl)) (fun _ _ _ h => h) (Or.inl ⟨by rfl,?_⟩) hHeld ?_ ?_
        rotate_left
        ·rintro w' ⟨s0,s1,s2,s3,s4,s5,s6,s7⟩
         go_simp
         with_reducible rfl
        rotate_left
        ·simp only [Act.put,sx_,sy_,sz_,i64_w,i32_w]
         rfl
        refine take_ (i:=3) (N:=some 71) (v:=?_) (a':=?_) #[true,true,false,true,true,false,false,false] rfl rfl (take_ofW HT_.out HW_.out (by kernel_rfl)) (fun _ _ _ h => h) (Or.inl ⟨by rfl,?_⟩) hHeld ?_ ?_
        rotate_left
        ·rintro w' ⟨s0,s1,s2,s3,s4,s5,s6,s7⟩
         go_simp
         with_reducible rfl
        rotate_left
        ·simp only [Act.put,sx_,sy_,sz_,i64_w,i32_w]
         rfl
        refine one_ (i:=2) (N:=some 70) #[true,true,true,true,true,false,false,false] rfl rfl (one_of HT_.out (by kernel_rfl)) (by decide) (fun K hK => ?_)
        refine goes_ Try.func18 (by kernel_rfl) rfl #[.agg #[.int .i64 t430,.slice Ao10 t431.length co10,.slice Ao11 t434.length co11,.slice Ao12 t437.length co12],.int .i64 x65_2] (by rfl) rfl rfl qm_ ?_
        with_reducible refine (impl_MatesOf.calls k2 t430 _ _ t431 _ _ t434 _ _ t437 x65_2 t467 _ ?side1 ?side2 ?side3 ?side4 ?side5 ?side6 A52.out).mono ?_
        (case side1 => repeat (first|exact (rr_ HO_442001.out).2.2|(with_reducible refine ca_ ?_ _)|(with_reducible refine cn_ ?_ _)|(with_reducible refine cd_ ?_)))
        (case side2 => exact (rr_ HO_442001.out).2.1)
        (case side3 => repeat (first|exact (rr_ HO_442002.out).2.2|(with_reducible refine ca_ ?_ _)|(with_reducible refine cn_ ?_ _)|(with_reducible refine cd_ ?_)))
        (case side4 => exact (rr_ HO_442002.out).2.1)
        (case side5 => repeat (first|exact (Kd.Q_reads' HO_442003.out).2.2|(with_reducible refine ca_ ?_ _)|(with_reducible refine cn_ ?_ _)|(with_reducible refine cd_ ?_)))
        (case side6 => exact (Kd.Q_reads' HO_442003.out).2.1)
        rintro e w55 ⟨v468,rfl,ho0,hb⟩
        refine ⟨_,rfl,?_⟩
        have n0_:=mk_ (rb_ (qr_ HO_442001) hb)
        have n1_:=mk_ (re_ (qr_ HO_442002) (Kd.R_base ho0) hb)
        have n2_:=mk_ (Kd.Q_elder' (by (with_reducible repeat (first|apply Kd.Q_alloc|apply Kd.Q_drewN|apply Kd.Q_drew));exact HO_442003.out) (Kd.R_base ho0) hb)
        have n3_:=mk_ (rb_ (qr_ HO_454001) hb)
        have n4_:=mk_ (re_ (qr_ HO_454002) (Kd.R_base ho0) hb)
        have n5_:=mk_ (Kd.Q_elder' (by (with_reducible repeat (first|apply Kd.Q_alloc|apply Kd.Q_drewN|apply Kd.Q_drew));exact HO_454003.out) (Kd.R_base ho0) hb)
        have n6_:=mk_ (rb_ (qr_ HO_466001) hb)
        have n7_:=mk_ (re_ (qr_ HO_466002) (Kd.R_base ho0) hb)
        have n8_:=mk_ (Kd.Q_elder' (by (with_reducible repeat (first|apply Kd.Q_alloc|apply Kd.Q_drewN|apply Kd.Q_drew));exact HO_466003.out) (Kd.R_base ho0) hb)
        have n9_:=mk_ (Kd.R_lower (Kd.R_new' (Kd.R_new' (Kd.R_new' (Kd.R_new' (Kd.R_new' (Kd.R_new' ho0 (Kd.R_lt (qr_ HO_442002))) (Kd.Q_lt (by (with_reducible repeat (first|apply Kd.Q_alloc|apply Kd.Q_drewN|apply Kd.Q_drew));exact HO_442003.out))) (Kd.R_lt (qr_ HO_454002))) (Kd.Q_lt (by (with_reducible repeat (first|apply Kd.Q_alloc|apply Kd.Q_drewN|apply Kd.Q_drew));exact HO_454003.out))) (Kd.R_lt (qr_ HO_466002))) (Kd.Q_lt (by (with_reducible repeat (first|apply Kd.Q_alloc|apply Kd.Q_drewN|apply Kd.Q_drew));exact HO_466003.out))) (bz_ (by repeat (first|(with_reducible first|exact HB.out|apply ba_|apply bn_|apply bd_|refine bs_ ?_ GE441.out|refine bs_ ?_ GE453.out|refine bs_ ?_ GE465.out)|exact HB.out))))
        have n10_:=mk_ (blk_below (g:=gb441) (o:=.cells #[.int .i64 t430,.slice Ao10 t431.length co10,.slice Ao11 t434.length co11,.slice Ao12 t437.length co12] 30 (0,0)) (qk_ BK441) hb)
        have n11_:=mk_ (blk_below (g:=gb453) (o:=.cells #[.int .i64 t442,.slice Ao17 t443.length co17,.slice Ao18 t446.length co18,.slice Ao19 t449.length co19] 30 (0,0)) (qk_ BK453) hb)
        have n12_:=mk_ (blk_below (g:=gb465) (o:=.cells #[.int .i64 t454,.slice Ao26 t455.length co26,.slice Ao27 t458.length co27,.slice Ao28 t461.length co28] 30 (0,0)) (qk_ BK465) hb)
        have n13_:=mk_ (st_ (by repeat (first|(with_reducible first|exact HB.out|apply ba_|apply bn_|apply bd_|refine bs_ ?_ GE441.out|refine bs_ ?_ GE453.out|refine bs_ ?_ GE465.out)|exact HB.out)) hb)
        clear HO_442001
        clear HO_442002
        clear HO_442003
        clear HO_454001
        clear HO_454002
        clear HO_454003
        clear HO_466001
        clear HO_466002
        clear HO_466003
        clear BK441
        clear BK453
        clear BK465
        clear HB
        have HO_442001:=n0_
        have HO_442002:=n1_
        have HO_442003:=n2_
        have HO_454001:=n3_
        have HO_454002:=n4_
        have HO_454003:=n5_
        have HO_466001:=n6_
        have HO_466002:=n7_
        have HO_466003:=n8_
        have HO469:=n9_
        have BK441:=n10_
        have BK453:=n11_
        have BK465:=n12_
        have HB:=n13_
        clear n0_ n1_ n2_ n3_ n4_ n5_ n6_ n7_ n8_ n9_ n10_ n11_ n12_ n13_
        (try clear hb)
        (try clear hb2)
        (try clear hk)
        (try clear hi)
        (try clear ho0)
        refine hK.out _ _ ⟨(bc_ BK441.out 0).trans rfl,(bc_ BK441.out 1).trans rfl,(bc_ BK441.out 2).trans rfl,(bc_ BK441.out 3).trans rfl,(bc_ BK453.out 0).trans rfl,(bc_ BK453.out 1).trans rfl,(bc_ BK453.out 2).trans rfl,(bc_ BK453.out 3).trans rfl⟩ (fun hHeld => ?_)
        clear hK K
        refine norm_ (a':=?_) ?_ ?_
        rotate_left
        ·show Act.put _ (some 70) _ = _
         simp only [Act.put,sx_,sy_,sz_,i64_w,i32_w]
         rfl
        refine one_ (i:=5) (N:=some 73) #[true,true,true,true,true,true,false,false] rfl rfl (one_of HT_.out (by kernel_rfl)) (by decide) (fun K hK => ?_)
        refine goes_ Try.func18 (by kernel_rfl) rfl #[.agg #[.int .i64 t442,.slice Ao17 t443.length co17,.slice Ao18 t446.length co18,.slice Ao19 t449.length co19],.int .i64 x65_2] (by rfl) rfl rfl qm_ ?_
        with_reducible refine (impl_MatesOf.calls k2 t442 _ _ t443 _ _ t446 _ _ t449 x65_2 t470 _ ?side1 ?side2 ?side3 ?side4 ?side5 ?side6 A53.out).mono ?_
        (case side1 => repeat (first|exact (rr_ HO_454001.out).2.2|(with_reducible refine ca_ ?_ _)|(with_reducible refine cn_ ?_ _)|(with_reducible refine cd_ ?_)))
        (case side2 => exact (rr_ HO_454001.out).2.1)
        (case side3 => repeat (first|exact (rr_ HO_454002.out).2.2|(with_reducible refine ca_ ?_ _)|(with_reducible refine cn_ ?_ _)|(with_reducible refine cd_ ?_)))
        (case side4 => exact (rr_ HO_454002.out).2.1)
        (case side5 => repeat (first|exact (Kd.Q_reads' HO_454003.out).2.2|(with_reducible refine ca_ ?_ _)|(with_reducible refine cn_ ?_ _)|(with_reducible refine cd_ ?_)))
        (case side6 => exact (Kd.Q_reads' HO_454003.out).2.1)
        rintro e w56 ⟨v471,rfl,ho0,hb⟩
        refine ⟨_,rfl,?_⟩
        have n0_:=mk_ (rb_ (qr_ HO_442001) hb)
        have n1_:=mk_ (re_ (qr_ HO_442002) (Kd.R_base ho0) hb)
        have n2_:=mk_ (Kd.Q_elder' (by (with_reducible repeat (first|apply Kd.Q_alloc|apply Kd.Q_drewN|apply Kd.Q_drew));exact HO_442003.out) (Kd.R_base ho0) hb)
        have n3_:=mk_ (rb_ (qr_ HO_454001) hb)
        have n4_:=mk_ (re_ (qr_ HO_454002) (Kd.R_base ho0) hb)
        have n5_:=mk_ (Kd.Q_elder' (by (with_reducible repeat (first|apply Kd.Q_alloc|apply Kd.Q_drewN|apply Kd.Q_drew));exact HO_454003.out) (Kd.R_base ho0) hb)
        have n6_:=mk_ (rb_ (qr_ HO_466001) hb)
        have n7_:=mk_ (re_ (qr_ HO_466002) (Kd.R_base ho0) hb)
        have n8_:=mk_ (Kd.Q_elder' (by (with_reducible repeat (first|apply Kd.Q_alloc|apply Kd.Q_drewN|apply Kd.Q_drew));exact HO_466003.out) (Kd.R_base ho0) hb)
        have n9_:=mk_ (re_ (qr_ HO469) (Kd.R_base ho0) hb)
        have n10_:=mk_ (Kd.R_lower (Kd.R_new' (Kd.R_new' (Kd.R_new' (Kd.R_new' (Kd.R_new' (Kd.R_new' (Kd.R_new' ho0 (Kd.R_lt (qr_ HO_442002))) (Kd.Q_lt (by (with_reducible repeat (first|apply Kd.Q_alloc|apply Kd.Q_drewN|apply Kd.Q_drew));exact HO_442003.out))) (Kd.R_lt (qr_ HO_454002))) (Kd.Q_lt (by (with_reducible repeat (first|apply Kd.Q_alloc|apply Kd.Q_drewN|apply Kd.Q_drew));exact HO_454003.out))) (Kd.R_lt (qr_ HO_466002))) (Kd.Q_lt (by (with_reducible repeat (first|apply Kd.Q_alloc|apply Kd.Q_drewN|apply Kd.Q_drew));exact HO_466003.out))) (Kd.R_lt (qr_ HO469))) (bz_ (by repeat (first|(with_reducible first|exact HB.out|apply ba_|apply bn_|apply bd_|refine bs_ ?_ GE441.out|refine bs_ ?_ GE453.out|refine bs_ ?_ GE465.out)|exact HB.out))))
        have n11_:=mk_ (blk_below (g:=gb441) (o:=.cells #[.int .i64 t430,.slice Ao10 t431.length co10,.slice Ao11 t434.length co11,.slice Ao12 t437.length co12] 30 (0,0)) (qk_ BK441) hb)
        have n12_:=mk_ (blk_below (g:=gb453) (o:=.cells #[.int .i64 t442,.slice Ao17 t443.length co17,.slice Ao18 t446.length co18,.slice Ao19 t449.length co19] 30 (0,0)) (qk_ BK453) hb)
        have n13_:=mk_ (blk_below (g:=gb465) (o:=.cells #[.int .i64 t454,.slice Ao26 t455.length co26,.slice Ao27 t458.length co27,.slice Ao28 t461.length co28] 30 (0,0)) (qk_ BK465) hb)
        have n14_:=mk_ (st_ (by repeat (first|(with_reducible first|exact HB.out|apply ba_|apply bn_|apply bd_|refine bs_ ?_ GE441.out|refine bs_ ?_ GE453.out|refine bs_ ?_ GE465.out)|exact HB.out)) hb)
        clear HO_442001
        clear HO_442002
        clear HO_442003
        clear HO_454001
        clear HO_454002
        clear HO_454003
        clear HO_466001
        clear HO_466002
        clear HO_466003
        clear HO469
        clear BK441
        clear BK453
        clear BK465
        clear HB
        have HO_442001:=n0_
        have HO_442002:=n1_
        have HO_442003:=n2_
        have HO_454001:=n3_
        have HO_454002:=n4_
        have HO_454003:=n5_
        have HO_466001:=n6_
        have HO_466002:=n7_
        have HO_466003:=n8_
        have HO469:=n9_
        have HO472:=n10_
        have BK441:=n11_
        have BK453:=n12_
        have BK465:=n13_
        have HB:=n14_
        clear n0_ n1_ n2_ n3_ n4_ n5_ n6_ n7_ n8_ n9_ n10_ n11_ n12_ n13_ n14_
        (try clear hb)
        (try clear hb2)
        (try clear hk)
        (try clear hi)
        (try clear ho0)
        refine hK.out _ _ ⟨(bc_ BK441.out 0).trans rfl,(bc_ BK441.out 1).trans rfl,(bc_ BK441.out 2).trans rfl,(bc_ BK441.out 3).trans rfl,(bc_ BK453.out 0).trans rfl,(bc_ BK453.out 1).trans rfl,(bc_ BK453.out 2).trans rfl,(bc_ BK453.out 3).trans rfl⟩ (fun hHeld => ?_)
        clear hK K
        refine norm_ (a':=?_) ?_ ?_
        rotate_left
        ·show Act.put _ (some 73) _ = _
         simp only [Act.put,sx_,sy_,sz_,i64_w,i32_w]
         rfl
        refine pure_ (i:=6) (N:=some 10) (v:=?_) (a':=?_) #[true,true,true,true,true,true,true,false] rfl rfl (any_of HT_.out (by kernel_rfl)) (fun _ _ _ h => h) (Or.inl ⟨by rfl,?_⟩) ?_ ?_
        rotate_left
        ·intro w'
         go_simp
         with_reducible rfl
        rotate_left
        ·simp only [Act.put,sx_,sy_,sz_,i64_w,i32_w]
         rfl
        refine pure_ (i:=7) (N:=some 11) (v:=?_) (a':=?_) #[true,true,true,true,true,true,true,true] rfl rfl (any_of HT_.out (by kernel_rfl)) (fun _ _ _ h => h) (Or.inl ⟨by rfl,?_⟩) ?_ ?_
        rotate_left
        ·intro w'
         go_simp
         with_reducible rfl
        rotate_left
        ·simp only [Act.put,sx_,sy_,sz_,i64_w,i32_w]
         rfl
        refine done_ (done_of HT_.out (by kernel_rfl)) ?_
        obtain ⟨Ao57,co57,eo57⟩:=Kd.R_slice HO472.out
        subst eo57
        try go_wp2
        go_loopg [76] k2 (fun kq v76 w' => ∃ (x76_3 : Int),v76 = .int .i64 x76_3 ∧ Aside0 (laws_FnCutCable.l1 kq t440 t467 t470 (t434.length : Int) x65_2 t470 (t470.length : Int) x76_3 t430 t431 t434 t437 t442 t443 t446 t449 = some r) ∧ Aside0 (kq ≤ k2) ∧ Aside0 (Kd.R (Kd.int .i64) 3 w' w.heap.size (fun k_ => some k_ ≠ ((.slice Ao57 t470.length co57) : Value).ownBlock ∧ some k_ ≠ ((.slice Ao57 t470.length co57) : Value).ownBlock ∧ some k_ ≠ ((.slice Ao11 t434.length co11) : Value).ownBlock ∧ some k_ ≠ ((.slice Ao12 t437.length co12) : Value).ownBlock ∧ some k_ ≠ ((.slice Ao18 t446.length co18) : Value).ownBlock ∧ some k_ ≠ ((.slice Ao19 t449.length co19) : Value).ownBlock ∧ some k_ ≠ ((.slice Ao27 t458.length co27) : Value).ownBlock ∧ some k_ ≠ ((.slice Ao28 t461.length co28) : Value).ownBlock) v468 t467) ∧ Aside0 (Kd.R (Kd.int .i64) 3 w' w.heap.size (fun k_ => some k_ ≠ (v468 : Value).ownBlock ∧ some k_ ≠ ((.slice Ao11 t434.length co11) : Value).ownBlock ∧ some k_ ≠ ((.slice Ao12 t437.length co12) : Value).ownBlock ∧ some k_ ≠ ((.slice Ao18 t446.length co18) : Value).ownBlock ∧ some k_ ≠ ((.slice Ao19 t449.length co19) : Value).ownBlock ∧ some k_ ≠ ((.slice Ao27 t458.length co27) : Value).ownBlock ∧ some k_ ≠ ((.slice Ao28 t461.length co28) : Value).ownBlock) (.slice Ao57 t470.length co57) t470) ∧ Aside0 (Kd.R (Kd.int .i64) 3 w' w.heap.size (fun k_ => some k_ ≠ (v468 : Value).ownBlock ∧ some k_ ≠ ((.slice Ao11 t434.length co11) : Value).ownBlock ∧ some k_ ≠ ((.slice Ao12 t437.length co12) : Value).ownBlock ∧ some k_ ≠ ((.slice Ao18 t446.length co18) : Value).ownBlock ∧ some k_ ≠ ((.slice Ao19 t449.length co19) : Value).ownBlock ∧ some k_ ≠ ((.slice Ao27 t458.length co27) : Value).ownBlock ∧ some k_ ≠ ((.slice Ao28 t461.length co28) : Value).ownBlock) (.slice Ao57 t470.length co57) t470) ∧ Aside0 (Kd.R k51 51 w' w.heap.size (fun k_ => some k_ ≠ ((.slice Ao17 t443.length co17) : Value).ownBlock ∧ some k_ ≠ ((.slice Ao26 t455.length co26) : Value).ownBlock) (.slice Ao10 t431.length co10) t431) ∧ Aside0 (Kd.R (Kd.int .i64) 3 w' w.heap.size (fun k_ => some k_ ≠ (v468 : Value).ownBlock ∧ some k_ ≠ ((.slice Ao57 t470.length co57) : Value).ownBlock ∧ some k_ ≠ ((.slice Ao57 t470.length co57) : Value).ownBlock ∧ some k_ ≠ ((.slice Ao12 t437.length co12) : Value).ownBlock ∧ some k_ ≠ ((.slice Ao18 t446.length co18) : Value).ownBlock ∧ some k_ ≠ ((.slice Ao19 t449.length co19) : Value).ownBlock ∧ some k_ ≠ ((.slice Ao27 t458.length co27) : Value).ownBlock ∧ some k_ ≠ ((.slice Ao28 t461.length co28) : Value).ownBlock) (.slice Ao11 t434.length co11) t434) ∧ Aside0 (Kd.Q (Kd.int .i64) 3 w' w.heap.size (fun k_ => some k_ ≠ (v468 : Value).ownBlock ∧ some k_ ≠ ((.slice Ao57 t470.length co57) : Value).ownBlock ∧ some k_ ≠ ((.slice Ao57 t470.length co57) : Value).ownBlock ∧ some k_ ≠ ((.slice Ao11 t434.length co11) : Value).ownBlock ∧ some k_ ≠ ((.slice Ao18 t446.length co18) : Value).ownBlock ∧ some k_ ≠ ((.slice Ao19 t449.length co19) : Value).ownBlock ∧ some k_ ≠ ((.slice Ao27 t458.length co27) : Value).ownBlock ∧ some k_ ≠ ((.slice Ao28 t461.length co28) : Value).ownBlock) (.slice Ao12 t437.length co12) t437) ∧ Aside0 (Kd.R k51 51 w' w.heap.size (fun k_ => some k_ ≠ ((.slice Ao10 t431.length co10) : Value).ownBlock ∧ some k_ ≠ ((.slice Ao26 t455.length co26) : Value).ownBlock) (.slice Ao17 t443.length co17) t443) ∧ Aside0 (Kd.R (Kd.int .i64) 3 w' w.heap.size (fun k_ => some k_ ≠ (v468 : Value).ownBlock ∧ some k_ ≠ ((.slice Ao57 t470.length co57) : Value).ownBlock ∧ some k_ ≠ ((.slice Ao57 t470.length co57) : Value).ownBlock ∧ some k_ ≠ ((.slice Ao11 t434.length co11) : Value).ownBlock ∧ some k_ ≠ ((.slice Ao12 t437.length co12) : Value).ownBlock ∧ some k_ ≠ ((.slice Ao19 t449.length co19) : Value).ownBlock ∧ some k_ ≠ ((.slice Ao27 t458.length co27) : Value).ownBlock ∧ some k_ ≠ ((.slice Ao28 t461.length co28) : Value).ownBlock) (.slice Ao18 t446.length co18) t446) ∧ Aside0 (Kd.Q (Kd.int .i64) 3 w' w.heap.size (fun k_ => some k_ ≠ (v468 : Value).ownBlock ∧ some k_ ≠ ((.slice Ao57 t470.length co57) : Value).ownBlock ∧ some k_ ≠ ((.slice Ao57 t470.length co57) : Value).ownBlock ∧ some k_ ≠ ((.slice Ao11 t434.length co11) : Value).ownBlock ∧ some k_ ≠ ((.slice Ao12 t437.length co12) : Value).ownBlock ∧ some k_ ≠ ((.slice Ao18 t446.length co18) : Value).ownBlock ∧ some k_ ≠ ((.slice Ao27 t458.length co27) : Value).ownBlock ∧ some k_ ≠ ((.slice Ao28 t461.length co28) : Value).ownBlock) (.slice Ao19 t449.length co19) t449) ∧ Aside0 (Kd.R k51 51 w' w.heap.size (fun k_ => some k_ ≠ ((.slice Ao10 t431.length co10) : Value).ownBlock ∧ some k_ ≠ ((.slice Ao17 t443.length co17) : Value).ownBlock) (.slice Ao26 t455.length co26) t455) ∧ Aside0 (Kd.R (Kd.int .i64) 3 w' w.heap.size (fun k_ => some k_ ≠ (v468 : Value).ownBlock ∧ some k_ ≠ ((.slice Ao57 t470.length co57) : Value).ownBlock ∧ some k_ ≠ ((.slice Ao57 t470.length co57) : Value).ownBlock ∧ some k_ ≠ ((.slice Ao11 t434.length co11) : Value).ownBlock ∧ some k_ ≠ ((.slice Ao12 t437.length co12) : Value).ownBlock ∧ some k_ ≠ ((.slice Ao18 t446.length co18) : Value).ownBlock ∧ some k_ ≠ ((.slice Ao19 t449.length co19) : Value).ownBlock ∧ some k_ ≠ ((.slice Ao28 t461.length co28) : Value).ownBlock) (.slice Ao27 t458.length co27) t458) ∧ Aside0 (Kd.Q (Kd.int .i64) 3 w' w.heap.size (fun k_ => some k_ ≠ (v468 : Value).ownBlock ∧ some k_ ≠ ((.slice Ao57 t470.length co57) : Value).ownBlock ∧ some k_ ≠ ((.slice Ao57 t470.length co57) : Value).ownBlock ∧ some k_ ≠ ((.slice Ao11 t434.length co11) : Value).ownBlock ∧ some k_ ≠ ((.slice Ao12 t437.length co12) : Value).ownBlock ∧ some k_ ≠ ((.slice Ao18 t446.length co18) : Value).ownBlock ∧ some k_ ≠ ((.slice Ao19 t449.length co19) : Value).ownBlock ∧ some k_ ≠ ((.slice Ao27 t458.length co27) : Value).ownBlock) (.slice Ao28 t461.length co28) t461) ∧ Aside0 (w'.heap[gb441]? = some (.cells #[.int .i64 t430,(.slice Ao10 t431.length co10),(.slice Ao11 t434.length co11),(.slice Ao12 t437.length co12)] 30 (0,0))) ∧ Aside0 (w'.heap[gb453]? = some (.cells #[.int .i64 t442,(.slice Ao17 t443.length co17),(.slice Ao18 t446.length co18),(.slice Ao19 t449.length co19)] 30 (0,0))) ∧ Aside0 (w'.heap[gb465]? = some (.cells #[.int .i64 t454,(.slice Ao26 t455.length co26),(.slice Ao27 t458.length co27),(.slice Ao28 t461.length co28)] 30 (0,0))) ∧ Aside0 (Below w.heap.size w w'))
        case atStart => exact ⟨(0),(by first|rfl|(simp;done)|(simp [*];done)),H',⟨Nat.le_refl _⟩,⟨by (with_reducible repeat (first|apply ra_|apply rn_|apply rd_));exact rm_ HO469.out (fun _ hk => ⟨hk.2,⟨hk.2,⟨hk.1.1.1.1.1.1.2,⟨hk.1.1.1.1.1.2,⟨hk.1.1.1.1.2,⟨hk.1.1.1.2,⟨hk.1.1.2,hk.1.2⟩⟩⟩⟩⟩⟩⟩)⟩,⟨by (with_reducible repeat (first|apply ra_|apply rn_|apply rd_));exact rm_ HO472.out (fun _ hk => ⟨hk.2,⟨hk.1.1.1.1.1.1.2,⟨hk.1.1.1.1.1.2,⟨hk.1.1.1.1.2,⟨hk.1.1.1.2,⟨hk.1.1.2,hk.1.2⟩⟩⟩⟩⟩⟩)⟩,⟨by (with_reducible repeat (first|apply ra_|apply rn_|apply rd_));exact rm_ HO472.out (fun _ hk => ⟨hk.2,⟨hk.1.1.1.1.1.1.2,⟨hk.1.1.1.1.1.2,⟨hk.1.1.1.1.2,⟨hk.1.1.1.2,⟨hk.1.1.2,hk.1.2⟩⟩⟩⟩⟩⟩)⟩,⟨by (with_reducible repeat (first|apply ra_|apply rn_|apply rd_));exact HO_442001.out⟩,⟨by (with_reducible repeat (first|apply ra_|apply rn_|apply rd_));exact rm_ HO_442002.out (fun _ hk => ⟨hk.1.2,⟨hk.2,⟨hk.2,⟨hk.1.1.1,⟨hk.1.1.2.1,⟨hk.1.1.2.2.1,⟨hk.1.1.2.2.2.1,hk.1.1.2.2.2.2⟩⟩⟩⟩⟩⟩⟩)⟩,⟨by (with_reducible repeat (first|apply Kd.Q_alloc|apply Kd.Q_drewN|apply Kd.Q_drew));exact Kd.Q_mono HO_442003.out (fun _ hk => ⟨hk.1.2,⟨hk.2,⟨hk.2,⟨hk.1.1.1,⟨hk.1.1.2.1,⟨hk.1.1.2.2.1,⟨hk.1.1.2.2.2.1,hk.1.1.2.2.2.2⟩⟩⟩⟩⟩⟩⟩)⟩,⟨by (with_reducible repeat (first|apply ra_|apply rn_|apply rd_));exact HO_454001.out⟩,⟨by (with_reducible repeat (first|apply ra_|apply rn_|apply rd_));exact rm_ HO_454002.out (fun _ hk => ⟨hk.1.2,⟨hk.2,⟨hk.2,⟨hk.1.1.1,⟨hk.1.1.2.1,⟨hk.1.1.2.2.1,⟨hk.1.1.2.2.2.1,hk.1.1.2.2.2.2⟩⟩⟩⟩⟩⟩⟩)⟩,⟨by (with_reducible repeat (first|apply Kd.Q_alloc|apply Kd.Q_drewN|apply Kd.Q_drew));exact Kd.Q_mono HO_454003.out (fun _ hk => ⟨hk.1.2,⟨hk.2,⟨hk.2,⟨hk.1.1.1,⟨hk.1.1.2.1,⟨hk.1.1.2.2.1,⟨hk.1.1.2.2.2.1,hk.1.1.2.2.2.2⟩⟩⟩⟩⟩⟩⟩)⟩,⟨by (with_reducible repeat (first|apply ra_|apply rn_|apply rd_));exact HO_466001.out⟩,⟨by (with_reducible repeat (first|apply ra_|apply rn_|apply rd_));exact rm_ HO_466002.out (fun _ hk => ⟨hk.1.2,⟨hk.2,⟨hk.2,⟨hk.1.1.1,⟨hk.1.1.2.1,⟨hk.1.1.2.2.1,⟨hk.1.1.2.2.2.1,hk.1.1.2.2.2.2⟩⟩⟩⟩⟩⟩⟩)⟩,⟨by (with_reducible repeat (first|apply Kd.Q_alloc|apply Kd.Q_drewN|apply Kd.Q_drew));exact Kd.Q_mono HO_466003.out (fun _ hk => ⟨hk.1.2,⟨hk.2,⟨hk.2,⟨hk.1.1.1,⟨hk.1.1.2.1,⟨hk.1.1.2.2.1,⟨hk.1.1.2.2.2.1,hk.1.1.2.2.2.2⟩⟩⟩⟩⟩⟩⟩)⟩,⟨by (with_reducible repeat (first|refine kn_ ?_ _|refine kd_ ?_|refine ka_ ?_ _));exact BK441.out⟩,⟨by (with_reducible repeat (first|refine kn_ ?_ _|refine kd_ ?_|refine ka_ ?_ _));exact BK453.out⟩,⟨by (with_reducible repeat (first|refine kn_ ?_ _|refine kd_ ?_|refine ka_ ?_ _));exact BK465.out⟩,⟨by repeat (first|(with_reducible first|exact HB.out|apply ba_|apply bn_|apply bd_|refine bs_ ?_ GE441.out|refine bs_ ?_ GE453.out|refine bs_ ?_ GE465.out)|exact HB.out)⟩⟩
        case round =>
         clear H'
         try clear c1
         try clear c2
         try clear c2b0
         try clear c2b1
         try clear p2
         try clear c3
         try clear c4
         try clear c5
         try clear c7
         try clear c15
         try clear c18
         try clear c23
         try clear c24
         try clear c26
         try clear c27
         try clear c29
         try clear c29b0
         try clear c29b1
         try clear c29b2
         try clear c30
         try clear c30b0
         try clear c30b1
         try clear c30b2
         try clear c31
         try clear c32
         try clear c34
         try clear c36
         try clear c37
         try clear c39
         try clear c41
         try clear c42
         try clear c42b0
         try clear c42b1
         try clear c42b2
         try clear c43
         try clear c44
         try clear c46
         try clear c48
         try clear c49
         try clear c51
         try clear c51b0
         try clear hcz16_0
         try clear hcz16_1
         try clear hcz16_2
         try clear hcz16_3
         try clear hcz20_0
         try clear hcz20_1
         try clear hcz20_2
         try clear hcz20_3
         try clear hcz25_0
         try clear hcz25_1
         try clear hcz25_2
         try clear hcz25_3
         try clear hcz33_0
         try clear hcz33_1
         try clear hcz33_2
         try clear hcz33_3
         try clear hcz35_0
         try clear hcz35_1
         try clear hcz35_2
         try clear hcz35_3
         try clear hcz38_0
         try clear hcz38_1
         try clear hcz38_2
         try clear hcz38_3
         try clear hcz40_0
         try clear hcz40_1
         try clear hcz40_2
         try clear hcz40_3
         try clear hcz45_0
         try clear hcz45_1
         try clear hcz45_2
         try clear hcz45_3
         try clear hcz47_0
         try clear hcz47_1
         try clear hcz47_2
         try clear hcz47_3
         try clear hcz50_0
         try clear hcz50_1
         try clear hcz50_2
         try clear hcz50_3
         try clear hcz9_0
         try clear hcz9_1
         try clear hcz9_2
         try clear hcz9_3
         try clear hfz16_0
         try clear hfz16_1
         try clear hfz16_2
         try clear hfz16_3
         try clear hfz20_0
         try clear hfz20_1
         try clear hfz20_2
         try clear hfz20_3
         try clear hfz25_0
         try clear hfz25_1
         try clear hfz25_2
         try clear hfz25_3
         try clear hfz33_0
         try clear hfz33_1
         try clear hfz33_2
         try clear hfz33_3
         try clear hfz35_0
         try clear hfz35_1
         try clear hfz35_2
         try clear hfz35_3
         try clear hfz38_0
         try clear hfz38_1
         try clear hfz38_2
         try clear hfz38_3
         try clear hfz40_0
         try clear hfz40_1
         try clear hfz40_2
         try clear hfz40_3
         try clear hfz45_0
         try clear hfz45_1
         try clear hfz45_2
         try clear hfz45_3
         try clear hfz47_0
         try clear hfz47_1
         try clear hfz47_2
         try clear hfz47_3
         try clear hfz50_0
         try clear hfz50_1
         try clear hfz50_2
         try clear hfz50_3
         try clear hfz9_0
         try clear hfz9_1
         try clear hfz9_2
         try clear hfz9_3
         try clear p2
         obtain ⟨x76_3,rfl,HA,HK3,HO_10,HO_11,HO_74,HO_442001,HO_442002,HO_442003,HO_454001,HO_454002,HO_454003,HO_466001,HO_466002,HO_466003,BK441,BK453,BK465,HB⟩:=hrel
         cases gk with
         | zero => exact absurd HA.out (by simp [laws_FnCutCable.l1])
         | succ k3 =>
          have H:=HA.out
          clear HA
          simp only [laws_FnCutCable.l1] at H
          by_cases c58 : x76_3 < (t470.length : Int)
          ·rw [if_pos c58] at H
           have c58b0 : decide (x76_3 < (t470.length : Int)) = true:=decide_eq_true c58
           clear c58
           by_cases c59 : 0 ≤ x76_3
           ·rw [if_pos c59] at H
            have c59b0 : decide (0 ≤ x76_3) = true:=decide_eq_true c59
            clear c59
            by_cases c60 : x76_3 < (t470.length : Int)
            ·rw [if_pos c60] at H
             have c60b0 : decide (x76_3 < (t470.length : Int)) = true:=decide_eq_true c60
             clear c60
             replace H:=Option.bind_eq_some_iff.mp H
             obtain ⟨t474,A610,H⟩:=H
             replace H : (if t474 = true then (laws_FnCutCable.l1 k3 t440 t467 t470 (t434.length : Int) x65_2 t470 (t470.length : Int) (wrap64 (x76_3 + 1)) t430 t431 t434 t437 t442 t443 t446 t449) else (some false)) = some r:=H
             have A61:=mk_ A610
             clear A610
             by_cases c62 : t474 = true
             ·subst c62
              have H1 : (laws_FnCutCable.l1 k3 t440 t467 t470 (t434.length : Int) x65_2 t470 (t470.length : Int) (wrap64 (x76_3 + 1)) t430 t431 t434 t437 t442 t443 t446 t449) = some r:=by rw [if_pos rfl] at H;exact H
              clear H
              have H:=H1
              clear H1
              have H':=mk_ H
              clear H
              have p473 : 0 ≤ (x76_3 : Int):=od_ qa_
              have q473 : x76_3 < (t470.length : Int):=od_ qa_
              obtain ⟨ad473,e473,hx473_0⟩:=Kd.at_int (rr_ HO_74.out).2.2 x76_3 p473 q473
              cases e473
              replace p473:=eq_true p473
              replace q473:=eq_true q473
              obtain ⟨Ao63,co63,eo63⟩:=Kd.R_slice HO_10.out
              subst eo63
              go_wp2_with (first|((with_reducible refine gate_callee (f:=21) rfl ?_);refine goesL_ (some 82) rfl rfl Try.func21 (by kernel_rfl) rfl #[.slice Ao63 t467.length co63,.int .i64 (rd t470 x76_3)] rfl qm_ ?_;(with_reducible refine (laws_wnHas.calls k3 _ _ t467 (rd t470 x76_3) true _ ?side1 ?side2 A61.out).mono ?_);(case side1 => repeat (first|exact (rr_ HO_10.out).2.2|(with_reducible refine ca_ ?_ _)|(with_reducible refine cn_ ?_ _)|(with_reducible refine cd_ ?_)));(case side2 => exact (rr_ HO_10.out).2.1);rintro e w' ⟨rfl,⟨nd,rfl⟩⟩;refine ⟨_,rfl,?_⟩))
              go_roundg k3
              case measure => have:=HJ5.out;have:=HK2.out;have:=HK3.out;omega
              case rel => exact ⟨(wrap64 (x76_3 + 1)),(by first|rfl|(simp;done)|(simp [*];done)),H',⟨by have:=HJ5.out;have:=HK2.out;have:=HK3.out;omega⟩,⟨by (with_reducible repeat (first|apply ra_|apply rn_|apply rd_));exact HO_10.out⟩,⟨by (with_reducible repeat (first|apply ra_|apply rn_|apply rd_));exact HO_11.out⟩,⟨by (with_reducible repeat (first|apply ra_|apply rn_|apply rd_));exact HO_74.out⟩,⟨by (with_reducible repeat (first|apply ra_|apply rn_|apply rd_));exact HO_442001.out⟩,⟨by (with_reducible repeat (first|apply ra_|apply rn_|apply rd_));exact HO_442002.out⟩,⟨by (with_reducible repeat (first|apply Kd.Q_alloc|apply Kd.Q_drewN|apply Kd.Q_drew));exact HO_442003.out⟩,⟨by (with_reducible repeat (first|apply ra_|apply rn_|apply rd_));exact HO_454001.out⟩,⟨by (with_reducible repeat (first|apply ra_|apply rn_|apply rd_));exact HO_454002.out⟩,⟨by (with_reducible repeat (first|apply Kd.Q_alloc|apply Kd.Q_drewN|apply Kd.Q_drew));exact HO_454003.out⟩,⟨by (with_reducible repeat (first|apply ra_|apply rn_|apply rd_));exact HO_466001.out⟩,⟨by (with_reducible repeat (first|apply ra_|apply rn_|apply rd_));exact HO_466002.out⟩,⟨by (with_reducible repeat (first|apply Kd.Q_alloc|apply Kd.Q_drewN|apply Kd.Q_drew));exact HO_466003.out⟩,⟨by (with_reducible repeat (first|refine kn_ ?_ _|refine kd_ ?_|refine ka_ ?_ _));exact BK441.out⟩,⟨by (with_reducible repeat (first|refine kn_ ?_ _|refine kd_ ?_|refine ka_ ?_ _));exact BK453.out⟩,⟨by (with_reducible repeat (first|refine kn_ ?_ _|refine kd_ ?_|refine ka_ ?_ _));exact BK465.out⟩,⟨by repeat (first|(with_reducible first|exact HB.out|apply ba_|apply bn_|apply bd_|refine bs_ ?_ GE441.out|refine bs_ ?_ GE453.out|refine bs_ ?_ GE465.out)|exact HB.out)⟩⟩
             ·replace c62:=Bool.eq_false_iff.mpr c62
              subst c62
              have H1 : (some false) = some r:=by rw [if_neg (show ¬ (false = true) by decide)] at H;exact H
              clear H
              have H:=H1
              clear H1
              obtain rfl:=Option.some.inj H
              have p473 : 0 ≤ (x76_3 : Int):=od_ qa_
              have q473 : x76_3 < (t470.length : Int):=od_ qa_
              obtain ⟨ad473,e473,hx473_0⟩:=Kd.at_int (rr_ HO_74.out).2.2 x76_3 p473 q473
              cases e473
              replace p473:=eq_true p473
              replace q473:=eq_true q473
              obtain ⟨Ao64,co64,eo64⟩:=Kd.R_slice HO_10.out
              subst eo64
              go_wp2_with (first|((with_reducible refine gate_callee (f:=21) rfl ?_);refine goesL_ (some 82) rfl rfl Try.func21 (by kernel_rfl) rfl #[.slice Ao64 t467.length co64,.int .i64 (rd t470 x76_3)] rfl qm_ ?_;(with_reducible refine (laws_wnHas.calls k3 _ _ t467 (rd t470 x76_3) false _ ?side1 ?side2 A61.out).mono ?_);(case side1 => repeat (first|exact (rr_ HO_10.out).2.2|(with_reducible refine ca_ ?_ _)|(with_reducible refine cn_ ?_ _)|(with_reducible refine cd_ ?_)));(case side2 => exact (rr_ HO_10.out).2.1);rintro e w' ⟨rfl,⟨nd,rfl⟩⟩;refine ⟨_,rfl,?_⟩))
              go_ret
              exact ⟨by first|rfl|(simp [errW_none,errW_some] <;> rfl)|(simp [*,errW_none,errW_some] <;> rfl),by repeat (first|(with_reducible first|exact HB.out|apply ba_|apply bn_|apply bd_|refine bs_ ?_ GE441.out|refine bs_ ?_ GE453.out|refine bs_ ?_ GE465.out)|exact HB.out)⟩
            ·rw [if_neg c60] at H
             exact absurd H (by simp)
           ·rw [if_neg c59] at H
            exact absurd H (by simp)
          ·rw [if_neg c58] at H
           have c58b0 : decide (x76_3 < (t470.length : Int)) = false:=decide_eq_false c58
           clear c58
           replace H:=Option.bind_eq_some_iff.mp H
           obtain ⟨t475,A650,H⟩:=H
           replace H : ((laws_wnHas.f k3 t475 t440).bind fun t478 => (if t478 = true then (laws_FnCutCable.l0 k3 t440 (t434.length : Int) (wrap64 (x65_2 + 1)) t430 t431 t434 t437 t442 t443 t446 t449) else ((laws_wnInts.f k3 t467 t470).bind fun t479 => (if t479 = true then (laws_FnCutCable.l0 k3 t440 (t434.length : Int) (wrap64 (x65_2 + 1)) t430 t431 t434 t437 t442 t443 t446 t449) else (some false))))) = some r:=H
           have A65:=mk_ A650
           clear A650
           replace H:=Option.bind_eq_some_iff.mp H
           obtain ⟨t478,A660,H⟩:=H
           replace H : (if t478 = true then (laws_FnCutCable.l0 k3 t440 (t434.length : Int) (wrap64 (x65_2 + 1)) t430 t431 t434 t437 t442 t443 t446 t449) else ((laws_wnInts.f k3 t467 t470).bind fun t479 => (if t479 = true then (laws_FnCutCable.l0 k3 t440 (t434.length : Int) (wrap64 (x65_2 + 1)) t430 t431 t434 t437 t442 t443 t446 t449) else (some false)))) = some r:=H
           have A66:=mk_ A660
           clear A660
           by_cases c67 : t478 = true
           ·subst c67
            have H1 : (laws_FnCutCable.l0 k3 t440 (t434.length : Int) (wrap64 (x65_2 + 1)) t430 t431 t434 t437 t442 t443 t446 t449) = some r:=by rw [if_pos rfl] at H;exact H
            clear H
            have H:=H1
            clear H1
            have H':=mk_ H
            clear H
            have hnb68:=NB441_453.out
            have hnc68:=NB453_441.out
            have hnb69:=NB441_465.out
            have hnc69:=NB465_441.out
            have hcz70_0 : wr.cell? ⟨gb441,0,none⟩ = some (.int .i64 t430):=(bc_ BK441.out 0).trans rfl
            have hcz70_1 : wr.cell? ⟨gb441,1,none⟩ = some (.slice Ao10 t431.length co10):=(bc_ BK441.out 1).trans rfl
            have hcz70_2 : wr.cell? ⟨gb441,2,none⟩ = some (.slice Ao11 t434.length co11):=(bc_ BK441.out 2).trans rfl
            have hcz70_3 : wr.cell? ⟨gb441,3,none⟩ = some (.slice Ao12 t437.length co12):=(bc_ BK441.out 3).trans rfl
            have hfz70_0:=bf_ BK441.out 0
            have hfz70_1:=bf_ BK441.out 1
            have hfz70_2:=bf_ BK441.out 2
            have hfz70_3:=bf_ BK441.out 3
            go_wp2_with (first|((with_reducible refine gate_callee (f:=30) rfl ?_);refine goesL_ (some 89) rfl rfl Try.func30 (by kernel_rfl) rfl #[.int .i64 t430,.slice Ao10 t431.length co10] rfl qm_ ?_;(with_reducible refine (impl_TreeOf.calls k3 t430 _ _ t431 t475 _ ?side1 ?side2 A65.out).mono ?_);(case side1 => repeat (first|exact (rr_ HO_442001.out).2.2|(with_reducible refine ca_ ?_ _)|(with_reducible refine cn_ ?_ _)|(with_reducible refine cd_ ?_)));(case side2 => exact (rr_ HO_442001.out).2.1);rintro e w71 ⟨v476,rfl,ho0,hb⟩;refine ⟨_,rfl,?_⟩;have n0_:=mk_ (re_ (qr_ HO_10) (Kd.R_base ho0) hb);have n1_:=mk_ (re_ (qr_ HO_11) (Kd.R_base ho0) hb);have n2_:=mk_ (re_ (qr_ HO_74) (Kd.R_base ho0) hb);have n3_:=mk_ (rb_ (qr_ HO_442001) hb);have n4_:=mk_ (re_ (qr_ HO_442002) (Kd.R_base ho0) hb);have n5_:=mk_ (Kd.Q_elder' (by (with_reducible repeat (first|apply Kd.Q_alloc|apply Kd.Q_drewN|apply Kd.Q_drew));exact HO_442003.out) (Kd.R_base ho0) hb);have n6_:=mk_ (rb_ (qr_ HO_454001) hb);have n7_:=mk_ (re_ (qr_ HO_454002) (Kd.R_base ho0) hb);have n8_:=mk_ (Kd.Q_elder' (by (with_reducible repeat (first|apply Kd.Q_alloc|apply Kd.Q_drewN|apply Kd.Q_drew));exact HO_454003.out) (Kd.R_base ho0) hb);have n9_:=mk_ (rb_ (qr_ HO_466001) hb);have n10_:=mk_ (re_ (qr_ HO_466002) (Kd.R_base ho0) hb);have n11_:=mk_ (Kd.Q_elder' (by (with_reducible repeat (first|apply Kd.Q_alloc|apply Kd.Q_drewN|apply Kd.Q_drew));exact HO_466003.out) (Kd.R_base ho0) hb);have n12_:=mk_ (Kd.R_lower (Kd.R_new' (Kd.R_new' (Kd.R_new' (Kd.R_new' (Kd.R_new' (Kd.R_new' (Kd.R_new' (Kd.R_new' (Kd.R_new' ho0 (Kd.R_lt (qr_ HO_10))) (Kd.R_lt (qr_ HO_11))) (Kd.R_lt (qr_ HO_74))) (Kd.R_lt (qr_ HO_442002))) (Kd.Q_lt (by (with_reducible repeat (first|apply Kd.Q_alloc|apply Kd.Q_drewN|apply Kd.Q_drew));exact HO_442003.out))) (Kd.R_lt (qr_ HO_454002))) (Kd.Q_lt (by (with_reducible repeat (first|apply Kd.Q_alloc|apply Kd.Q_drewN|apply Kd.Q_drew));exact HO_454003.out))) (Kd.R_lt (qr_ HO_466002))) (Kd.Q_lt (by (with_reducible repeat (first|apply Kd.Q_alloc|apply Kd.Q_drewN|apply Kd.Q_drew));exact HO_466003.out))) (bz_ (by repeat (first|(with_reducible first|exact HB.out|apply ba_|apply bn_|apply bd_|refine bs_ ?_ GE441.out|refine bs_ ?_ GE453.out|refine bs_ ?_ GE465.out)|exact HB.out))));have n13_:=mk_ (blk_below (g:=gb441) (o:=.cells #[.int .i64 t430,.slice Ao10 t431.length co10,.slice Ao11 t434.length co11,.slice Ao12 t437.length co12] 30 (0,0)) (qk_ BK441) hb);have n14_:=mk_ (blk_below (g:=gb453) (o:=.cells #[.int .i64 t442,.slice Ao17 t443.length co17,.slice Ao18 t446.length co18,.slice Ao19 t449.length co19] 30 (0,0)) (qk_ BK453) hb);have n15_:=mk_ (blk_below (g:=gb465) (o:=.cells #[.int .i64 t454,.slice Ao26 t455.length co26,.slice Ao27 t458.length co27,.slice Ao28 t461.length co28] 30 (0,0)) (qk_ BK465) hb);have n16_:=mk_ (st_ (by repeat (first|(with_reducible first|exact HB.out|apply ba_|apply bn_|apply bd_|refine bs_ ?_ GE441.out|refine bs_ ?_ GE453.out|refine bs_ ?_ GE465.out)|exact HB.out)) hb);clear HO_10;clear HO_11;clear HO_74;clear HO_442001;clear HO_442002;clear HO_442003;clear HO_454001;clear HO_454002;clear HO_454003;clear HO_466001;clear HO_466002;clear HO_466003;clear BK441;clear BK453;clear BK465;clear HB;have HO_10:=n0_;have HO_11:=n1_;have HO_74:=n2_;have HO_442001:=n3_;have HO_442002:=n4_;have HO_442003:=n5_;have HO_454001:=n6_;have HO_454002:=n7_;have HO_454003:=n8_;have HO_466001:=n9_;have HO_466002:=n10_;have HO_466003:=n11_;have HO477:=n12_;have BK441:=n13_;have BK453:=n14_;have BK465:=n15_;have HB:=n16_;clear n0_ n1_ n2_ n3_ n4_ n5_ n6_ n7_ n8_ n9_ n10_ n11_ n12_ n13_ n14_ n15_ n16_;(try clear hb);(try clear hb2);(try clear hk);(try clear hi);(try clear ho0);obtain ⟨Ao72,co72,eo72⟩:=Kd.R_slice HO477.out;subst eo72)|((with_reducible refine gate_callee (f:=21) rfl ?_);refine goesL_ (some 91) rfl rfl Try.func21 (by kernel_rfl) rfl #[.slice Ao72 t475.length co72,.int .i64 t440] rfl qm_ ?_;(with_reducible refine (laws_wnHas.calls k3 _ _ t475 t440 true _ ?side1 ?side2 A66.out).mono ?_);(case side1 => repeat (first|exact (rr_ HO477.out).2.2|(with_reducible refine ca_ ?_ _)|(with_reducible refine cn_ ?_ _)|(with_reducible refine cd_ ?_)));(case side2 => exact (rr_ HO477.out).2.1);rintro e w' ⟨rfl,⟨nd,rfl⟩⟩;refine ⟨_,rfl,?_⟩))
            go_roundg k3
            case measure => have:=HJ5.out;have:=HK2.out;have:=HK3.out;omega
            case rel => exact ⟨(wrap64 (x65_2 + 1)),(by first|rfl|(simp;done)|(simp [*];done)),H',⟨by have:=HJ5.out;have:=HK2.out;have:=HK3.out;omega⟩,⟨by (with_reducible repeat (first|apply ra_|apply rn_|apply rd_));exact HO_442001.out⟩,⟨by (with_reducible repeat (first|apply ra_|apply rn_|apply rd_));exact rm_ HO_442002.out (fun _ hk => ⟨hk.1.2.2.2.1,⟨hk.1.2.2.2.2.1,⟨hk.1.2.2.2.2.2.1,⟨hk.1.2.2.2.2.2.2.1,hk.1.2.2.2.2.2.2.2⟩⟩⟩⟩)⟩,⟨by (with_reducible repeat (first|apply Kd.Q_alloc|apply Kd.Q_drewN|apply Kd.Q_drew));exact Kd.Q_mono HO_442003.out (fun _ hk => ⟨hk.1.2.2.2.1,⟨hk.1.2.2.2.2.1,⟨hk.1.2.2.2.2.2.1,⟨hk.1.2.2.2.2.2.2.1,hk.1.2.2.2.2.2.2.2⟩⟩⟩⟩)⟩,⟨by (with_reducible repeat (first|apply ra_|apply rn_|apply rd_));exact HO_454001.out⟩,⟨by (with_reducible repeat (first|apply ra_|apply rn_|apply rd_));exact rm_ HO_454002.out (fun _ hk => ⟨hk.1.2.2.2.1,⟨hk.1.2.2.2.2.1,⟨hk.1.2.2.2.2.2.1,⟨hk.1.2.2.2.2.2.2.1,hk.1.2.2.2.2.2.2.2⟩⟩⟩⟩)⟩,⟨by (with_reducible repeat (first|apply Kd.Q_alloc|apply Kd.Q_drewN|apply Kd.Q_drew));exact Kd.Q_mono HO_454003.out (fun _ hk => ⟨hk.1.2.2.2.1,⟨hk.1.2.2.2.2.1,⟨hk.1.2.2.2.2.2.1,⟨hk.1.2.2.2.2.2.2.1,hk.1.2.2.2.2.2.2.2⟩⟩⟩⟩)⟩,⟨by (with_reducible repeat (first|apply ra_|apply rn_|apply rd_));exact HO_466001.out⟩,⟨by (with_reducible repeat (first|apply ra_|apply rn_|apply rd_));exact rm_ HO_466002.out (fun _ hk => ⟨hk.1.2.2.2.1,⟨hk.1.2.2.2.2.1,⟨hk.1.2.2.2.2.2.1,⟨hk.1.2.2.2.2.2.2.1,hk.1.2.2.2.2.2.2.2⟩⟩⟩⟩)⟩,⟨by (with_reducible repeat (first|apply Kd.Q_alloc|apply Kd.Q_drewN|apply Kd.Q_drew));exact Kd.Q_mono HO_466003.out (fun _ hk => ⟨hk.1.2.2.2.1,⟨hk.1.2.2.2.2.1,⟨hk.1.2.2.2.2.2.1,⟨hk.1.2.2.2.2.2.2.1,hk.1.2.2.2.2.2.2.2⟩⟩⟩⟩)⟩,⟨by (with_reducible repeat (first|refine kn_ ?_ _|refine kd_ ?_|refine ka_ ?_ _));exact BK441.out⟩,⟨by (with_reducible repeat (first|refine kn_ ?_ _|refine kd_ ?_|refine ka_ ?_ _));exact BK453.out⟩,⟨by (with_reducible repeat (first|refine kn_ ?_ _|refine kd_ ?_|refine ka_ ?_ _));exact BK465.out⟩,⟨by repeat (first|(with_reducible first|exact HB.out|apply ba_|apply bn_|apply bd_|refine bs_ ?_ GE441.out|refine bs_ ?_ GE453.out|refine bs_ ?_ GE465.out)|exact HB.out)⟩⟩
           ·replace c67:=Bool.eq_false_iff.mpr c67
            subst c67
            have H1 : ((laws_wnInts.f k3 t467 t470).bind fun t479 => (if t479 = true then (laws_FnCutCable.l0 k3 t440 (t434.length : Int) (wrap64 (x65_2 + 1)) t430 t431 t434 t437 t442 t443 t446 t449) else (some false))) = some r:=by rw [if_neg (show ¬ (false = true) by decide)] at H;exact H
            clear H
            have H:=H1
            clear H1
            replace H:=Option.bind_eq_some_iff.mp H
            obtain ⟨t479,A730,H⟩:=H
            replace H : (if t479 = true then (laws_FnCutCable.l0 k3 t440 (t434.length : Int) (wrap64 (x65_2 + 1)) t430 t431 t434 t437 t442 t443 t446 t449) else (some false)) = some r:=H
            have A73:=mk_ A730
            clear A730
            by_cases c74 : t479 = true
            ·subst c74
             have H1 : (laws_FnCutCable.l0 k3 t440 (t434.length : Int) (wrap64 (x65_2 + 1)) t430 t431 t434 t437 t442 t443 t446 t449) = some r:=by rw [if_pos rfl] at H;exact H
             clear H
             have H:=H1
             clear H1
             have H':=mk_ H
             clear H
             have hnb75:=NB441_453.out
             have hnc75:=NB453_441.out
             have hnb76:=NB441_465.out
             have hnc76:=NB465_441.out
             have hcz77_0 : wr.cell? ⟨gb441,0,none⟩ = some (.int .i64 t430):=(bc_ BK441.out 0).trans rfl
             have hcz77_1 : wr.cell? ⟨gb441,1,none⟩ = some (.slice Ao10 t431.length co10):=(bc_ BK441.out 1).trans rfl
             have hcz77_2 : wr.cell? ⟨gb441,2,none⟩ = some (.slice Ao11 t434.length co11):=(bc_ BK441.out 2).trans rfl
             have hcz77_3 : wr.cell? ⟨gb441,3,none⟩ = some (.slice Ao12 t437.length co12):=(bc_ BK441.out 3).trans rfl
             have hfz77_0:=bf_ BK441.out 0
             have hfz77_1:=bf_ BK441.out 1
             have hfz77_2:=bf_ BK441.out 2
             have hfz77_3:=bf_ BK441.out 3
             go_wp2_with (first|((with_reducible refine gate_callee (f:=30) rfl ?_);refine goesL_ (some 89) rfl rfl Try.func30 (by kernel_rfl) rfl #[.int .i64 t430,.slice Ao10 t431.length co10] rfl qm_ ?_;(with_reducible refine (impl_TreeOf.calls k3 t430 _ _ t431 t475 _ ?side1 ?side2 A65.out).mono ?_);(case side1 => repeat (first|exact (rr_ HO_442001.out).2.2|(with_reducible refine ca_ ?_ _)|(with_reducible refine cn_ ?_ _)|(with_reducible refine cd_ ?_)));(case side2 => exact (rr_ HO_442001.out).2.1);rintro e w78 ⟨v476,rfl,ho0,hb⟩;refine ⟨_,rfl,?_⟩;have n0_:=mk_ (re_ (qr_ HO_10) (Kd.R_base ho0) hb);have n1_:=mk_ (re_ (qr_ HO_11) (Kd.R_base ho0) hb);have n2_:=mk_ (re_ (qr_ HO_74) (Kd.R_base ho0) hb);have n3_:=mk_ (rb_ (qr_ HO_442001) hb);have n4_:=mk_ (re_ (qr_ HO_442002) (Kd.R_base ho0) hb);have n5_:=mk_ (Kd.Q_elder' (by (with_reducible repeat (first|apply Kd.Q_alloc|apply Kd.Q_drewN|apply Kd.Q_drew));exact HO_442003.out) (Kd.R_base ho0) hb);have n6_:=mk_ (rb_ (qr_ HO_454001) hb);have n7_:=mk_ (re_ (qr_ HO_454002) (Kd.R_base ho0) hb);have n8_:=mk_ (Kd.Q_elder' (by (with_reducible repeat (first|apply Kd.Q_alloc|apply Kd.Q_drewN|apply Kd.Q_drew));exact HO_454003.out) (Kd.R_base ho0) hb);have n9_:=mk_ (rb_ (qr_ HO_466001) hb);have n10_:=mk_ (re_ (qr_ HO_466002) (Kd.R_base ho0) hb);have n11_:=mk_ (Kd.Q_elder' (by (with_reducible repeat (first|apply Kd.Q_alloc|apply Kd.Q_drewN|apply Kd.Q_drew));exact HO_466003.out) (Kd.R_base ho0) hb);have n12_:=mk_ (Kd.R_lower (Kd.R_new' (Kd.R_new' (Kd.R_new' (Kd.R_new' (Kd.R_new' (Kd.R_new' (Kd.R_new' (Kd.R_new' (Kd.R_new' ho0 (Kd.R_lt (qr_ HO_10))) (Kd.R_lt (qr_ HO_11))) (Kd.R_lt (qr_ HO_74))) (Kd.R_lt (qr_ HO_442002))) (Kd.Q_lt (by (with_reducible repeat (first|apply Kd.Q_alloc|apply Kd.Q_drewN|apply Kd.Q_drew));exact HO_442003.out))) (Kd.R_lt (qr_ HO_454002))) (Kd.Q_lt (by (with_reducible repeat (first|apply Kd.Q_alloc|apply Kd.Q_drewN|apply Kd.Q_drew));exact HO_454003.out))) (Kd.R_lt (qr_ HO_466002))) (Kd.Q_lt (by (with_reducible repeat (first|apply Kd.Q_alloc|apply Kd.Q_drewN|apply Kd.Q_drew));exact HO_466003.out))) (bz_ (by repeat (first|(with_reducible first|exact HB.out|apply ba_|apply bn_|apply bd_|refine bs_ ?_ GE441.out|refine bs_ ?_ GE453.out|refine bs_ ?_ GE465.out)|exact HB.out))));have n13_:=mk_ (blk_below (g:=gb441) (o:=.cells #[.int .i64 t430,.slice Ao10 t431.length co10,.slice Ao11 t434.length co11,.slice Ao12 t437.length co12] 30 (0,0)) (qk_ BK441) hb);have n14_:=mk_ (blk_below (g:=gb453) (o:=.cells #[.int .i64 t442,.slice Ao17 t443.length co17,.slice Ao18 t446.length co18,.slice Ao19 t449.length co19] 30 (0,0)) (qk_ BK453) hb);have n15_:=mk_ (blk_below (g:=gb465) (o:=.cells #[.int .i64 t454,.slice Ao26 t455.length co26,.slice Ao27 t458.length co27,.slice Ao28 t461.length co28] 30 (0,0)) (qk_ BK465) hb);have n16_:=mk_ (st_ (by repeat (first|(with_reducible first|exact HB.out|apply ba_|apply bn_|apply bd_|refine bs_ ?_ GE441.out|refine bs_ ?_ GE453.out|refine bs_ ?_ GE465.out)|exact HB.out)) hb);clear HO_10;clear HO_11;clear HO_74;clear HO_442001;clear HO_442002;clear HO_442003;clear HO_454001;clear HO_454002;clear HO_454003;clear HO_466001;clear HO_466002;clear HO_466003;clear BK441;clear BK453;clear BK465;clear HB;have HO_10:=n0_;have HO_11:=n1_;have HO_74:=n2_;have HO_442001:=n3_;have HO_442002:=n4_;have HO_442003:=n5_;have HO_454001:=n6_;have HO_454002:=n7_;have HO_454003:=n8_;have HO_466001:=n9_;have HO_466002:=n10_;have HO_466003:=n11_;have HO477:=n12_;have BK441:=n13_;have BK453:=n14_;have BK465:=n15_;have HB:=n16_;clear n0_ n1_ n2_ n3_ n4_ n5_ n6_ n7_ n8_ n9_ n10_ n11_ n12_ n13_ n14_ n15_ n16_;(try clear hb);(try clear hb2);(try clear hk);(try clear hi);(try clear ho0);obtain ⟨Ao79,co79,eo79⟩:=Kd.R_slice HO477.out;subst eo79)|((with_reducible refine gate_callee (f:=21) rfl ?_);refine goesL_ (some 91) rfl rfl Try.func21 (by kernel_rfl) rfl #[.slice Ao79 t475.length co79,.int .i64 t440] rfl qm_ ?_;(with_reducible refine (laws_wnHas.calls k3 _ _ t475 t440 false _ ?side1 ?side2 A66.out).mono ?_);(case side1 => repeat (first|exact (rr_ HO477.out).2.2|(with_reducible refine ca_ ?_ _)|(with_reducible refine cn_ ?_ _)|(with_reducible refine cd_ ?_)));(case side2 => exact (rr_ HO477.out).2.1);rintro e w' ⟨rfl,⟨nd,rfl⟩⟩;refine ⟨_,rfl,?_⟩;obtain ⟨Ao80,co80,eo80⟩:=Kd.R_slice HO_10.out;subst eo80)|(go_at_call 19;(with_reducible refine (laws_wnInts.calls k3 _ _ t467 _ _ t470 true _ ?side1 ?side2 ?side3 ?side4 A73.out).mono ?_);(case side1 => repeat (first|exact (rr_ HO_10.out).2.2|(with_reducible refine ca_ ?_ _)|(with_reducible refine cn_ ?_ _)|(with_reducible refine cd_ ?_)));(case side2 => exact (rr_ HO_10.out).2.1);(case side3 => repeat (first|exact (rr_ HO_11.out).2.2|(with_reducible refine ca_ ?_ _)|(with_reducible refine cn_ ?_ _)|(with_reducible refine cd_ ?_)));(case side4 => exact (rr_ HO_11.out).2.1);rintro e w' ⟨rfl,⟨nd,rfl⟩⟩))
             go_roundg k3
             case measure => have:=HJ5.out;have:=HK2.out;have:=HK3.out;omega
             case rel => exact ⟨(wrap64 (x65_2 + 1)),(by first|rfl|(simp;done)|(simp [*];done)),H',⟨by have:=HJ5.out;have:=HK2.out;have:=HK3.out;omega⟩,⟨by (with_reducible repeat (first|apply ra_|apply rn_|apply rd_));exact HO_442001.out⟩,⟨by (with_reducible repeat (first|apply ra_|apply rn_|apply rd_));exact rm_ HO_442002.out (fun _ hk => ⟨hk.1.2.2.2.1,⟨hk.1.2.2.2.2.1,⟨hk.1.2.2.2.2.2.1,⟨hk.1.2.2.2.2.2.2.1,hk.1.2.2.2.2.2.2.2⟩⟩⟩⟩)⟩,⟨by (with_reducible repeat (first|apply Kd.Q_alloc|apply Kd.Q_drewN|apply Kd.Q_drew));exact Kd.Q_mono HO_442003.out (fun _ hk => ⟨hk.1.2.2.2.1,⟨hk.1.2.2.2.2.1,⟨hk.1.2.2.2.2.2.1,⟨hk.1.2.2.2.2.2.2.1,hk.1.2.2.2.2.2.2.2⟩⟩⟩⟩)⟩,⟨by (with_reducible repeat (first|apply ra_|apply rn_|apply rd_));exact HO_454001.out⟩,⟨by (with_reducible repeat (first|apply ra_|apply rn_|apply rd_));exact rm_ HO_454002.out (fun _ hk => ⟨hk.1.2.2.2.1,⟨hk.1.2.2.2.2.1,⟨hk.1.2.2.2.2.2.1,⟨hk.1.2.2.2.2.2.2.1,hk.1.2.2.2.2.2.2.2⟩⟩⟩⟩)⟩,⟨by (with_reducible repeat (first|apply Kd.Q_alloc|apply Kd.Q_drewN|apply Kd.Q_drew));exact Kd.Q_mono HO_454003.out (fun _ hk => ⟨hk.1.2.2.2.1,⟨hk.1.2.2.2.2.1,⟨hk.1.2.2.2.2.2.1,⟨hk.1.2.2.2.2.2.2.1,hk.1.2.2.2.2.2.2.2⟩⟩⟩⟩)⟩,⟨by (with_reducible repeat (first|apply ra_|apply rn_|apply rd_));exact HO_466001.out⟩,⟨by (with_reducible repeat (first|apply ra_|apply rn_|apply rd_));exact rm_ HO_466002.out (fun _ hk => ⟨hk.1.2.2.2.1,⟨hk.1.2.2.2.2.1,⟨hk.1.2.2.2.2.2.1,⟨hk.1.2.2.2.2.2.2.1,hk.1.2.2.2.2.2.2.2⟩⟩⟩⟩)⟩,⟨by (with_reducible repeat (first|apply Kd.Q_alloc|apply Kd.Q_drewN|apply Kd.Q_drew));exact Kd.Q_mono HO_466003.out (fun _ hk => ⟨hk.1.2.2.2.1,⟨hk.1.2.2.2.2.1,⟨hk.1.2.2.2.2.2.1,⟨hk.1.2.2.2.2.2.2.1,hk.1.2.2.2.2.2.2.2⟩⟩⟩⟩)⟩,⟨by (with_reducible repeat (first|refine kn_ ?_ _|refine kd_ ?_|refine ka_ ?_ _));exact BK441.out⟩,⟨by (with_reducible repeat (first|refine kn_ ?_ _|refine kd_ ?_|refine ka_ ?_ _));exact BK453.out⟩,⟨by (with_reducible repeat (first|refine kn_ ?_ _|refine kd_ ?_|refine ka_ ?_ _));exact BK465.out⟩,⟨by repeat (first|(with_reducible first|exact HB.out|apply ba_|apply bn_|apply bd_|refine bs_ ?_ GE441.out|refine bs_ ?_ GE453.out|refine bs_ ?_ GE465.out)|exact HB.out)⟩⟩
            ·replace c74:=Bool.eq_false_iff.mpr c74
             subst c74
             have H1 : (some false) = some r:=by rw [if_neg (show ¬ (false = true) by decide)] at H;exact H
             clear H
             have H:=H1
             clear H1
             obtain rfl:=Option.some.inj H
             have hnb81:=NB441_453.out
             have hnc81:=NB453_441.out
             have hnb82:=NB441_465.out
             have hnc82:=NB465_441.out
             have hcz83_0 : wr.cell? ⟨gb441,0,none⟩ = some (.int .i64 t430):=(bc_ BK441.out 0).trans rfl
             have hcz83_1 : wr.cell? ⟨gb441,1,none⟩ = some (.slice Ao10 t431.length co10):=(bc_ BK441.out 1).trans rfl
             have hcz83_2 : wr.cell? ⟨gb441,2,none⟩ = some (.slice Ao11 t434.length co11):=(bc_ BK441.out 2).trans rfl
             have hcz83_3 : wr.cell? ⟨gb441,3,none⟩ = some (.slice Ao12 t437.length co12):=(bc_ BK441.out 3).trans rfl
             have hfz83_0:=bf_ BK441.out 0
             have hfz83_1:=bf_ BK441.out 1
             have hfz83_2:=bf_ BK441.out 2
             have hfz83_3:=bf_ BK441.out 3
             go_wp2_with (first|((with_reducible refine gate_callee (f:=30) rfl ?_);refine goesL_ (some 89) rfl rfl Try.func30 (by kernel_rfl) rfl #[.int .i64 t430,.slice Ao10 t431.length co10] rfl qm_ ?_;(with_reducible refine (impl_TreeOf.calls k3 t430 _ _ t431 t475 _ ?side1 ?side2 A65.out).mono ?_);(case side1 => repeat (first|exact (rr_ HO_442001.out).2.2|(with_reducible refine ca_ ?_ _)|(with_reducible refine cn_ ?_ _)|(with_reducible refine cd_ ?_)));(case side2 => exact (rr_ HO_442001.out).2.1);rintro e w84 ⟨v476,rfl,ho0,hb⟩;refine ⟨_,rfl,?_⟩;have n0_:=mk_ (re_ (qr_ HO_10) (Kd.R_base ho0) hb);have n1_:=mk_ (re_ (qr_ HO_11) (Kd.R_base ho0) hb);have n2_:=mk_ (re_ (qr_ HO_74) (Kd.R_base ho0) hb);have n3_:=mk_ (rb_ (qr_ HO_442001) hb);have n4_:=mk_ (re_ (qr_ HO_442002) (Kd.R_base ho0) hb);have n5_:=mk_ (Kd.Q_elder' (by (with_reducible repeat (first|apply Kd.Q_alloc|apply Kd.Q_drewN|apply Kd.Q_drew));exact HO_442003.out) (Kd.R_base ho0) hb);have n6_:=mk_ (rb_ (qr_ HO_454001) hb);have n7_:=mk_ (re_ (qr_ HO_454002) (Kd.R_base ho0) hb);have n8_:=mk_ (Kd.Q_elder' (by (with_reducible repeat (first|apply Kd.Q_alloc|apply Kd.Q_drewN|apply Kd.Q_drew));exact HO_454003.out) (Kd.R_base ho0) hb);have n9_:=mk_ (rb_ (qr_ HO_466001) hb);have n10_:=mk_ (re_ (qr_ HO_466002) (Kd.R_base ho0) hb);have n11_:=mk_ (Kd.Q_elder' (by (with_reducible repeat (first|apply Kd.Q_alloc|apply Kd.Q_drewN|apply Kd.Q_drew));exact HO_466003.out) (Kd.R_base ho0) hb);have n12_:=mk_ (Kd.R_lower (Kd.R_new' (Kd.R_new' (Kd.R_new' (Kd.R_new' (Kd.R_new' (Kd.R_new' (Kd.R_new' (Kd.R_new' (Kd.R_new' ho0 (Kd.R_lt (qr_ HO_10))) (Kd.R_lt (qr_ HO_11))) (Kd.R_lt (qr_ HO_74))) (Kd.R_lt (qr_ HO_442002))) (Kd.Q_lt (by (with_reducible repeat (first|apply Kd.Q_alloc|apply Kd.Q_drewN|apply Kd.Q_drew));exact HO_442003.out))) (Kd.R_lt (qr_ HO_454002))) (Kd.Q_lt (by (with_reducible repeat (first|apply Kd.Q_alloc|apply Kd.Q_drewN|apply Kd.Q_drew));exact HO_454003.out))) (Kd.R_lt (qr_ HO_466002))) (Kd.Q_lt (by (with_reducible repeat (first|apply Kd.Q_alloc|apply Kd.Q_drewN|apply Kd.Q_drew));exact HO_466003.out))) (bz_ (by repeat (first|(with_reducible first|exact HB.out|apply ba_|apply bn_|apply bd_|refine bs_ ?_ GE441.out|refine bs_ ?_ GE453.out|refine bs_ ?_ GE465.out)|exact HB.out))));have n13_:=mk_ (blk_below (g:=gb441) (o:=.cells #[.int .i64 t430,.slice Ao10 t431.length co10,.slice Ao11 t434.length co11,.slice Ao12 t437.length co12] 30 (0,0)) (qk_ BK441) hb);have n14_:=mk_ (blk_below (g:=gb453) (o:=.cells #[.int .i64 t442,.slice Ao17 t443.length co17,.slice Ao18 t446.length co18,.slice Ao19 t449.length co19] 30 (0,0)) (qk_ BK453) hb);have n15_:=mk_ (blk_below (g:=gb465) (o:=.cells #[.int .i64 t454,.slice Ao26 t455.length co26,.slice Ao27 t458.length co27,.slice Ao28 t461.length co28] 30 (0,0)) (qk_ BK465) hb);have n16_:=mk_ (st_ (by repeat (first|(with_reducible first|exact HB.out|apply ba_|apply bn_|apply bd_|refine bs_ ?_ GE441.out|refine bs_ ?_ GE453.out|refine bs_ ?_ GE465.out)|exact HB.out)) hb);clear HO_10;clear HO_11;clear HO_74;clear HO_442001;clear HO_442002;clear HO_442003;clear HO_454001;clear HO_454002;clear HO_454003;clear HO_466001;clear HO_466002;clear HO_466003;clear BK441;clear BK453;clear BK465;clear HB;have HO_10:=n0_;have HO_11:=n1_;have HO_74:=n2_;have HO_442001:=n3_;have HO_442002:=n4_;have HO_442003:=n5_;have HO_454001:=n6_;have HO_454002:=n7_;have HO_454003:=n8_;have HO_466001:=n9_;have HO_466002:=n10_;have HO_466003:=n11_;have HO477:=n12_;have BK441:=n13_;have BK453:=n14_;have BK465:=n15_;have HB:=n16_;clear n0_ n1_ n2_ n3_ n4_ n5_ n6_ n7_ n8_ n9_ n10_ n11_ n12_ n13_ n14_ n15_ n16_;(try clear hb);(try clear hb2);(try clear hk);(try clear hi);(try clear ho0);obtain ⟨Ao85,co85,eo85⟩:=Kd.R_slice HO477.out;subst eo85)|((with_reducible refine gate_callee (f:=21) rfl ?_);refine goesL_ (some 91) rfl rfl Try.func21 (by kernel_rfl) rfl #[.slice Ao85 t475.length co85,.int .i64 t440] rfl qm_ ?_;(with_reducible refine (laws_wnHas.calls k3 _ _ t475 t440 false _ ?side1 ?side2 A66.out).mono ?_);(case side1 => repeat (first|exact (rr_ HO477.out).2.2|(with_reducible refine ca_ ?_ _)|(with_reducible refine cn_ ?_ _)|(with_reducible refine cd_ ?_)));(case side2 => exact (rr_ HO477.out).2.1);rintro e w' ⟨rfl,⟨nd,rfl⟩⟩;refine ⟨_,rfl,?_⟩;obtain ⟨Ao86,co86,eo86⟩:=Kd.R_slice HO_10.out;subst eo86)|(go_at_call 19;(with_reducible refine (laws_wnInts.calls k3 _ _ t467 _ _ t470 false _ ?side1 ?side2 ?side3 ?side4 A73.out).mono ?_);(case side1 => repeat (first|exact (rr_ HO_10.out).2.2|(with_reducible refine ca_ ?_ _)|(with_reducible refine cn_ ?_ _)|(with_reducible refine cd_ ?_)));(case side2 => exact (rr_ HO_10.out).2.1);(case side3 => repeat (first|exact (rr_ HO_11.out).2.2|(with_reducible refine ca_ ?_ _)|(with_reducible refine cn_ ?_ _)|(with_reducible refine cd_ ?_)));(case side4 => exact (rr_ HO_11.out).2.1);rintro e w' ⟨rfl,⟨nd,rfl⟩⟩))
             go_ret
             exact ⟨by first|rfl|(simp [errW_none,errW_some] <;> rfl)|(simp [*,errW_none,errW_some] <;> rfl),by repeat (first|(with_reducible first|exact HB.out|apply ba_|apply bn_|apply bd_|refine bs_ ?_ GE441.out|refine bs_ ?_ GE453.out|refine bs_ ?_ GE465.out)|exact HB.out)⟩
       ·rw [if_neg c51] at H
        have c51b0 : decide (x65_2 < (t434.length : Int)) = false:=decide_eq_false c51
        clear c51
        replace H:=Option.bind_eq_some_iff.mp H
        obtain ⟨t466,A870,H⟩:=H
        replace H : (if t466 = true then (some ((t443.length : Int) == (wrap64 ((t431.length : Int) - 1)))) else (some false)) = some r:=H
        have A87:=mk_ A870
        clear A870
        by_cases c88 : t466 = true
        ·subst c88
         have H1 : (some ((t443.length : Int) == (wrap64 ((t431.length : Int) - 1)))) = some r:=by rw [if_pos rfl] at H;exact H
         clear H
         have H:=H1
         clear H1
         obtain rfl:=Option.some.inj H
         have hnb89:=NB453_441.out
         have hnc89:=NB441_453.out
         have hnb90:=NB453_465.out
         have hnc90:=NB465_453.out
         have hcz91_0 : wr.cell? ⟨gb453,0,none⟩ = some (.int .i64 t442):=(bc_ BK453.out 0).trans rfl
         have hcz91_1 : wr.cell? ⟨gb453,1,none⟩ = some (.slice Ao17 t443.length co17):=(bc_ BK453.out 1).trans rfl
         have hcz91_2 : wr.cell? ⟨gb453,2,none⟩ = some (.slice Ao18 t446.length co18):=(bc_ BK453.out 2).trans rfl
         have hcz91_3 : wr.cell? ⟨gb453,3,none⟩ = some (.slice Ao19 t449.length co19):=(bc_ BK453.out 3).trans rfl
         have hfz91_0:=bf_ BK453.out 0
         have hfz91_1:=bf_ BK453.out 1
         have hfz91_2:=bf_ BK453.out 2
         have hfz91_3:=bf_ BK453.out 3
         go_wp2_with (first|((with_reducible refine gate_callee (f:=15) rfl ?_);refine goesL_ (some 101) rfl rfl Try.func15 (by kernel_rfl) rfl #[.agg #[.int .i64 t442,.slice Ao17 t443.length co17,.slice Ao18 t446.length co18,.slice Ao19 t449.length co19]] rfl qm_ ?_;(with_reducible refine (impl_NetValid.calls t442 _ _ t443 _ _ t446 _ _ t449 true _ ?side1 ?side2 ?side3 ?side4 ?side5 ?side6 A87.out).mono ?_);(case side1 => repeat (first|exact (rr_ HO_454001.out).2.2|(with_reducible refine ca_ ?_ _)|(with_reducible refine cn_ ?_ _)|(with_reducible refine cd_ ?_)));(case side2 => exact (rr_ HO_454001.out).2.1);(case side3 => repeat (first|exact (rr_ HO_454002.out).2.2|(with_reducible refine ca_ ?_ _)|(with_reducible refine cn_ ?_ _)|(with_reducible refine cd_ ?_)));(case side4 => exact (rr_ HO_454002.out).2.1);(case side5 => repeat (first|exact (Kd.Q_reads' HO_454003.out).2.2|(with_reducible refine ca_ ?_ _)|(with_reducible refine cn_ ?_ _)|(with_reducible refine cd_ ?_)));(case side6 => exact (Kd.Q_reads' HO_454003.out).2.1);rintro e w92 ⟨rfl,hb⟩;refine ⟨_,rfl,?_⟩;have n0_:=mk_ (rb_ (qr_ HO_442001) hb);have n1_:=mk_ (rb_ (qr_ HO_442002) hb);have n2_:=mk_ (Kd.Q_below (by (with_reducible repeat (first|apply Kd.Q_alloc|apply Kd.Q_drewN|apply Kd.Q_drew));exact HO_442003.out) hb);have n3_:=mk_ (rb_ (qr_ HO_454001) hb);have n4_:=mk_ (rb_ (qr_ HO_454002) hb);have n5_:=mk_ (Kd.Q_below (by (with_reducible repeat (first|apply Kd.Q_alloc|apply Kd.Q_drewN|apply Kd.Q_drew));exact HO_454003.out) hb);have n6_:=mk_ (rb_ (qr_ HO_466001) hb);have n7_:=mk_ (rb_ (qr_ HO_466002) hb);have n8_:=mk_ (Kd.Q_below (by (with_reducible repeat (first|apply Kd.Q_alloc|apply Kd.Q_drewN|apply Kd.Q_drew));exact HO_466003.out) hb);have n9_:=mk_ (blk_below (g:=gb441) (o:=.cells #[.int .i64 t430,.slice Ao10 t431.length co10,.slice Ao11 t434.length co11,.slice Ao12 t437.length co12] 30 (0,0)) (qk_ BK441) hb);have n10_:=mk_ (blk_below (g:=gb453) (o:=.cells #[.int .i64 t442,.slice Ao17 t443.length co17,.slice Ao18 t446.length co18,.slice Ao19 t449.length co19] 30 (0,0)) (qk_ BK453) hb);have n11_:=mk_ (blk_below (g:=gb465) (o:=.cells #[.int .i64 t454,.slice Ao26 t455.length co26,.slice Ao27 t458.length co27,.slice Ao28 t461.length co28] 30 (0,0)) (qk_ BK465) hb);have n12_:=mk_ (st_ (by repeat (first|(with_reducible first|exact HB.out|apply ba_|apply bn_|apply bd_|refine bs_ ?_ GE441.out|refine bs_ ?_ GE453.out|refine bs_ ?_ GE465.out)|exact HB.out)) hb);clear HO_442001;clear HO_442002;clear HO_442003;clear HO_454001;clear HO_454002;clear HO_454003;clear HO_466001;clear HO_466002;clear HO_466003;clear BK441;clear BK453;clear BK465;clear HB;have HO_442001:=n0_;have HO_442002:=n1_;have HO_442003:=n2_;have HO_454001:=n3_;have HO_454002:=n4_;have HO_454003:=n5_;have HO_466001:=n6_;have HO_466002:=n7_;have HO_466003:=n8_;have BK441:=n9_;have BK453:=n10_;have BK465:=n11_;have HB:=n12_;clear n0_ n1_ n2_ n3_ n4_ n5_ n6_ n7_ n8_ n9_ n10_ n11_ n12_;(try clear hb);(try clear hb2);(try clear hk);(try clear hi);have hcz93_0 : w92.cell? ⟨gb453,0,none⟩ = some (.int .i64 t442):=(bc_ BK453.out 0).trans rfl;have hcz93_1 : w92.cell? ⟨gb453,1,none⟩ = some (.slice Ao17 t443.length co17):=(bc_ BK453.out 1).trans rfl;have hcz93_2 : w92.cell? ⟨gb453,2,none⟩ = some (.slice Ao18 t446.length co18):=(bc_ BK453.out 2).trans rfl;have hcz93_3 : w92.cell? ⟨gb453,3,none⟩ = some (.slice Ao19 t449.length co19):=(bc_ BK453.out 3).trans rfl;have hfz93_0:=bf_ BK453.out 0;have hfz93_1:=bf_ BK453.out 1;have hfz93_2:=bf_ BK453.out 2;have hfz93_3:=bf_ BK453.out 3;have hnb94:=NB441_465.out;have hnc94:=NB465_441.out;have hcz95_0 : w92.cell? ⟨gb441,0,none⟩ = some (.int .i64 t430):=(bc_ BK441.out 0).trans rfl;have hcz95_1 : w92.cell? ⟨gb441,1,none⟩ = some (.slice Ao10 t431.length co10):=(bc_ BK441.out 1).trans rfl;have hcz95_2 : w92.cell? ⟨gb441,2,none⟩ = some (.slice Ao11 t434.length co11):=(bc_ BK441.out 2).trans rfl;have hcz95_3 : w92.cell? ⟨gb441,3,none⟩ = some (.slice Ao12 t437.length co12):=(bc_ BK441.out 3).trans rfl;have hfz95_0:=bf_ BK441.out 0;have hfz95_1:=bf_ BK441.out 1;have hfz95_2:=bf_ BK441.out 2;have hfz95_3:=bf_ BK441.out 3))
         go_ret
         exact ⟨by first|rfl|(simp [errW_none,errW_some] <;> rfl)|(simp [*,errW_none,errW_some] <;> rfl),by repeat (first|(with_reducible first|exact HB.out|apply ba_|apply bn_|apply bd_|refine bs_ ?_ GE441.out|refine bs_ ?_ GE453.out|refine bs_ ?_ GE465.out)|exact HB.out)⟩
        ·replace c88:=Bool.eq_false_iff.mpr c88
         subst c88
         have H1 : (some false) = some r:=by rw [if_neg (show ¬ (false = true) by decide)] at H;exact H
         clear H
         have H:=H1
         clear H1
         obtain rfl:=Option.some.inj H
         have hnb96:=NB453_441.out
         have hnc96:=NB441_453.out
         have hnb97:=NB453_465.out
         have hnc97:=NB465_453.out
         have hcz98_0 : wr.cell? ⟨gb453,0,none⟩ = some (.int .i64 t442):=(bc_ BK453.out 0).trans rfl
         have hcz98_1 : wr.cell? ⟨gb453,1,none⟩ = some (.slice Ao17 t443.length co17):=(bc_ BK453.out 1).trans rfl
         have hcz98_2 : wr.cell? ⟨gb453,2,none⟩ = some (.slice Ao18 t446.length co18):=(bc_ BK453.out 2).trans rfl
         have hcz98_3 : wr.cell? ⟨gb453,3,none⟩ = some (.slice Ao19 t449.length co19):=(bc_ BK453.out 3).trans rfl
         have hfz98_0:=bf_ BK453.out 0
         have hfz98_1:=bf_ BK453.out 1
         have hfz98_2:=bf_ BK453.out 2
         have hfz98_3:=bf_ BK453.out 3
         go_wp2_with (first|((with_reducible refine gate_callee (f:=15) rfl ?_);refine goesL_ (some 101) rfl rfl Try.func15 (by kernel_rfl) rfl #[.agg #[.int .i64 t442,.slice Ao17 t443.length co17,.slice Ao18 t446.length co18,.slice Ao19 t449.length co19]] rfl qm_ ?_;(with_reducible refine (impl_NetValid.calls t442 _ _ t443 _ _ t446 _ _ t449 false _ ?side1 ?side2 ?side3 ?side4 ?side5 ?side6 A87.out).mono ?_);(case side1 => repeat (first|exact (rr_ HO_454001.out).2.2|(with_reducible refine ca_ ?_ _)|(with_reducible refine cn_ ?_ _)|(with_reducible refine cd_ ?_)));(case side2 => exact (rr_ HO_454001.out).2.1);(case side3 => repeat (first|exact (rr_ HO_454002.out).2.2|(with_reducible refine ca_ ?_ _)|(with_reducible refine cn_ ?_ _)|(with_reducible refine cd_ ?_)));(case side4 => exact (rr_ HO_454002.out).2.1);(case side5 => repeat (first|exact (Kd.Q_reads' HO_454003.out).2.2|(with_reducible refine ca_ ?_ _)|(with_reducible refine cn_ ?_ _)|(with_reducible refine cd_ ?_)));(case side6 => exact (Kd.Q_reads' HO_454003.out).2.1);rintro e w99 ⟨rfl,hb⟩;refine ⟨_,rfl,?_⟩;have n0_:=mk_ (rb_ (qr_ HO_442001) hb);have n1_:=mk_ (rb_ (qr_ HO_442002) hb);have n2_:=mk_ (Kd.Q_below (by (with_reducible repeat (first|apply Kd.Q_alloc|apply Kd.Q_drewN|apply Kd.Q_drew));exact HO_442003.out) hb);have n3_:=mk_ (rb_ (qr_ HO_454001) hb);have n4_:=mk_ (rb_ (qr_ HO_454002) hb);have n5_:=mk_ (Kd.Q_below (by (with_reducible repeat (first|apply Kd.Q_alloc|apply Kd.Q_drewN|apply Kd.Q_drew));exact HO_454003.out) hb);have n6_:=mk_ (rb_ (qr_ HO_466001) hb);have n7_:=mk_ (rb_ (qr_ HO_466002) hb);have n8_:=mk_ (Kd.Q_below (by (with_reducible repeat (first|apply Kd.Q_alloc|apply Kd.Q_drewN|apply Kd.Q_drew));exact HO_466003.out) hb);have n9_:=mk_ (blk_below (g:=gb441) (o:=.cells #[.int .i64 t430,.slice Ao10 t431.length co10,.slice Ao11 t434.length co11,.slice Ao12 t437.length co12] 30 (0,0)) (qk_ BK441) hb);have n10_:=mk_ (blk_below (g:=gb453) (o:=.cells #[.int .i64 t442,.slice Ao17 t443.length co17,.slice Ao18 t446.length co18,.slice Ao19 t449.length co19] 30 (0,0)) (qk_ BK453) hb);have n11_:=mk_ (blk_below (g:=gb465) (o:=.cells #[.int .i64 t454,.slice Ao26 t455.length co26,.slice Ao27 t458.length co27,.slice Ao28 t461.length co28] 30 (0,0)) (qk_ BK465) hb);have n12_:=mk_ (st_ (by repeat (first|(with_reducible first|exact HB.out|apply ba_|apply bn_|apply bd_|refine bs_ ?_ GE441.out|refine bs_ ?_ GE453.out|refine bs_ ?_ GE465.out)|exact HB.out)) hb);clear HO_442001;clear HO_442002;clear HO_442003;clear HO_454001;clear HO_454002;clear HO_454003;clear HO_466001;clear HO_466002;clear HO_466003;clear BK441;clear BK453;clear BK465;clear HB;have HO_442001:=n0_;have HO_442002:=n1_;have HO_442003:=n2_;have HO_454001:=n3_;have HO_454002:=n4_;have HO_454003:=n5_;have HO_466001:=n6_;have HO_466002:=n7_;have HO_466003:=n8_;have BK441:=n9_;have BK453:=n10_;have BK465:=n11_;have HB:=n12_;clear n0_ n1_ n2_ n3_ n4_ n5_ n6_ n7_ n8_ n9_ n10_ n11_ n12_;(try clear hb);(try clear hb2);(try clear hk);(try clear hi)))
         go_ret
         exact ⟨by first|rfl|(simp [errW_none,errW_some] <;> rfl)|(simp [*,errW_none,errW_some] <;> rfl),by repeat (first|(with_reducible first|exact HB.out|apply ba_|apply bn_|apply bd_|refine bs_ ?_ GE441.out|refine bs_ ?_ GE453.out|refine bs_ ?_ GE465.out)|exact HB.out)⟩

/-- THE ONE PURE STATEMENT of laws_FnCutCable: yours. -/
def laws_FnCutCable.Pure : Prop:=∀ (l0 : List Int),l0.length ≤ maxLen → l0.length * 1 ≤ 140737488351232 → (∀ x ∈ l0,(Lit.int .u8 x).wf = true) → ∃ k,laws_FnCutCable.f k l0 = some true
theorem laws_FnCutCable.walk (P : laws_FnCutCable.Pure) (a0 : Option Addr) (len0 cap0 : Nat) (z0 : List Int) (w : World) (w0 : (a0 = none ∧ len0 = 0 ∧ cap0 = 0 ∧ z0 = []) ∨ ∃ x,a0 = some x ∧ len0 ≤ cap0 ∧ cap0 ≤ maxLen ∧ z0.length = cap0 ∧ (∀ i,i < z0.length → w.cell? (x.add i) = some (.int .u8 (z0.getD i 0))) ∧ ∀ n ∈ z0,(Lit.int .u8 n).wf = true) (y0 : len0 * 1 ≤ 140737488351232) :
  Calls Try.prog 7 #[.slice a0 len0 cap0] w fun e w' => e = .returned (.bool true) ∧ Below w.heap.size w w':=by
 obtain ⟨l0,rfl,hr0,hm0,hw0,hc0⟩:=ReadsInt.ofRowC w0
 obtain ⟨k,h⟩:=P l0 hm0 y0 hw0
 refine (laws_FnCutCable.calls k _ _ l0 true w (Kd.C_of_reads (d:=(0 : Int)) (h1:=fun _ => rfl) hr0) hc0 h).mono ?_
 rintro e w' ⟨rfl,hd⟩
 exact ⟨rfl,hd⟩

-- LIB joined
/-- A place is in a set of places. -/
def memB (s : List Bool) (i : Nat) : Prop:=s[i]? = some true
/-- A cable brings the other end into a set that has one. -/
def relB (s : List Bool) (c : S51) : List Bool:=if rdOf false s c.f0 = true ∨ rdOf false s c.f1 = true then (s.set c.f0.toNat true).set c.f1.toNat true else s
def passB (cs : List S51) : Nat → List Bool → List Bool
  | 0,s => s
  | k + 1,s => cs.foldl relB (passB cs k s)
/-- The bridges to which a bridge is joined. -/
def jnB (cs : List S51) (N x : Nat) : List Bool:=passB cs N ((List.replicate N false).set x true)
def CabOk (cs : List S51) (N : Nat) : Prop:=∀ c ∈ cs,0 ≤ c.f0 ∧ c.f0 < N ∧ 0 ≤ c.f1 ∧ c.f1 < N
/-- No cable leads out of it. -/
def ClosedP (cs : List S51) (P : Nat → Prop) : Prop:=∀ c ∈ cs,P c.f0.toNat ↔ P c.f1.toNat
theorem rdB_mem (s : List Bool) (x : Int) : rdOf false s x = true ↔ memB s x.toNat:=by
  unfold rdOf memB
  rw [List.getD_eq_getElem?_getD]
  cases s[x.toNat]? with
  | none => simp
  | some b => simp
theorem relB_len (s : List Bool) (c : S51) : (relB s c).length = s.length:=by unfold relB;split <;> simp
theorem foldB_len (cs : List S51) : ∀ s,(cs.foldl relB s).length = s.length:=by
  induction cs with
  | nil => exact fun _ => rfl
  | cons c cs ih => intro s;rw [List.foldl_cons,ih,relB_len]
theorem passB_len (cs : List S51) (k : Nat) (s : List Bool) : (passB cs k s).length = s.length:=by
  induction k with
  | zero => rfl
  | succ k ih => rw [passB,foldB_len,ih]
theorem memB_set (s : List Bool) (j i : Nat) (hj : j < s.length) : memB (s.set j true) i ↔ memB s i ∨ i = j:=by
  unfold memB
  rw [List.getElem?_set]
  by_cases e : j = i
  · subst e
    rw [if_pos rfl,if_pos hj];simp
  · rw [if_neg e]
    exact ⟨Or.inl,fun h => h.resolve_right (fun x => e x.symm)⟩
theorem relB_mem (s : List Bool) (c : S51) (h0 : c.f0.toNat < s.length) (h1 : c.f1.toNat < s.length) (i : Nat) : memB (relB s c) i ↔ memB s i ∨ ((i = c.f0.toNat ∨ i = c.f1.toNat) ∧ (memB s c.f0.toNat ∨ memB s c.f1.toNat)):=by
  unfold relB
  split
  · rename_i h
    rw [rdB_mem,rdB_mem] at h
    rw [memB_set _ _ _ (by rw [List.length_set];exact h1),memB_set _ _ _ h0]
    simp only [h,and_true]
    exact or_assoc
  · rename_i h
    rw [rdB_mem,rdB_mem] at h
    simp only [h,and_false,or_false]
theorem setB_count (s : List Bool) (j : Nat) (hj : j < s.length) : s.count true ≤ (s.set j true).count true ∧ ((s.set j true).count true = s.count true → s.set j true = s):=by
  have e:=List.count_set (a:=true) (b:=true) hj
  by_cases h : s[j] = true
  · have e2 : s.set j true = s:=by
      apply List.ext_getElem (by simp)
      intro n _ h2
      rw [List.getElem_set]
      split
      · rename_i q;subst q;exact h.symm
      · rfl
    rw [e2];exact ⟨Nat.le_refl _,fun _ => rfl⟩
  · have h' : (s[j] == true) = false:=by simpa using h
    rw [h'] at e
    simp at e
    rw [e]
    exact ⟨by omega,fun x => by omega⟩
theorem relB_count (s : List Bool) (c : S51) (h0 : c.f0.toNat < s.length) (h1 : c.f1.toNat < s.length) : s.count true ≤ (relB s c).count true ∧ ((relB s c).count true = s.count true → relB s c = s):=by
  unfold relB
  split
  · obtain ⟨a1,a2⟩:=setB_count s _ h0
    obtain ⟨b1,b2⟩:=setB_count (s.set c.f0.toNat true) c.f1.toNat (by rw [List.length_set];exact h1)
    refine ⟨by omega,fun e => ?_⟩
    rw [b2 (by omega),a2 (by omega)]
  · exact ⟨Nat.le_refl _,fun _ => rfl⟩
theorem foldB_count {N : Nat} (cs : List S51) (hc : CabOk cs N) : ∀ s : List Bool,s.length = N → s.count true ≤ (cs.foldl relB s).count true ∧ ((cs.foldl relB s).count true = s.count true → ∀ c ∈ cs,relB s c = s):=by
  induction cs with
  | nil => exact fun s _ => ⟨Nat.le_refl _,fun _ c hc => by cases hc⟩
  | cons c cs ih =>
    intro s hs
    obtain ⟨g1,g2,g3,g4⟩:=hc c (List.mem_cons_self)
    obtain ⟨r1,r2⟩:=relB_count s c (by omega) (by omega)
    obtain ⟨i1,i2⟩:=ih (fun x hx => hc x (List.mem_cons_of_mem _ hx)) (relB s c) (by rw [relB_len];exact hs)
    rw [List.foldl_cons]
    refine ⟨by omega,fun e x hx => ?_⟩
    have e1:=r2 (by omega)
    rw [e1] at i2
    rcases List.mem_cons.1 hx with rfl | hx
    · exact e1
    · exact i2 (by rw [e1] at e;exact e) x hx
theorem foldB_fix (cs : List S51) (s : List Bool) (h : ∀ c ∈ cs,relB s c = s) : cs.foldl relB s = s:=by
  induction cs with
  | nil => rfl
  | cons c cs ih => rw [List.foldl_cons,h c List.mem_cons_self];exact ih (fun x hx => h x (List.mem_cons_of_mem _ hx))
theorem passB_grow {N : Nat} (cs : List S51) (hc : CabOk cs N) (s : List Bool) (hs : s.length = N) (k : Nat) : (∀ c ∈ cs,relB (passB cs k s) c = passB cs k s) ∨ s.count true + k ≤ (passB cs k s).count true:=by
  induction k with
  | zero => right;exact Nat.le_refl _
  | succ k ih =>
    rcases ih with h | h
    · left
      have e : passB cs (k + 1) s = passB cs k s:=foldB_fix cs _ h
      rw [e];exact h
    · obtain ⟨i1,i2⟩:=foldB_count cs hc (passB cs k s) (by rw [passB_len];exact hs)
      by_cases e : (cs.foldl relB (passB cs k s)).count true = (passB cs k s).count true
      · left
        have e' : passB cs (k + 1) s = passB cs k s:=foldB_fix cs _ (i2 e)
        rw [e'];exact i2 e
      · right
        show _ ≤ (cs.foldl relB (passB cs k s)).count true
        omega
theorem memB_lt {s : List Bool} {i : Nat} (h : memB s i) : i < s.length:=(List.getElem?_eq_some_iff.1 h).1
/-- After as many rounds as there are bridges nothing more comes. -/
theorem passB_closed {N : Nat} (cs : List S51) (hc : CabOk cs N) (s : List Bool) (hs : s.length = N) (x : Nat) (hx : memB s x) : ClosedP cs (memB (passB cs N s)):=by
  have hl:=passB_len cs N s
  have h1 : 1 ≤ s.count true:=List.count_pos_iff.2 (List.mem_of_getElem? hx)
  have hfix : ∀ c ∈ cs,relB (passB cs N s) c = passB cs N s:=by
    rcases passB_grow cs hc s hs N with h | h
    · exact h
    · have:=List.count_le_length (a:=true) (l:=passB cs N s)
      omega
  intro c hm
  obtain ⟨g1,g2,g3,g4⟩:=hc c hm
  have e:=fun i => relB_mem (passB cs N s) c (by omega) (by omega) i
  rw [hfix c hm] at e
  constructor
  · intro h;exact (e _).2 (Or.inr ⟨Or.inr rfl,Or.inl h⟩)
  · intro h;exact (e _).2 (Or.inr ⟨Or.inl rfl,Or.inr h⟩)
theorem foldB_mem {N : Nat} (cs : List S51) (hc : CabOk cs N) : ∀ s : List Bool,s.length = N → (∀ i,memB s i → memB (cs.foldl relB s) i) ∧ ∀ P : Nat → Prop,ClosedP cs P → (∀ i,memB s i → P i) → ∀ i,memB (cs.foldl relB s) i → P i:=by
  induction cs with
  | nil => exact fun s _ => ⟨fun _ h => h,fun P _ h => h⟩
  | cons c cs ih =>
    intro s hs
    obtain ⟨g1,g2,g3,g4⟩:=hc c (List.mem_cons_self)
    obtain ⟨i1,i2⟩:=ih (fun x hx => hc x (List.mem_cons_of_mem _ hx)) (relB s c) (by rw [relB_len];exact hs)
    have e:=fun i => relB_mem s c (by omega) (by omega) i
    rw [List.foldl_cons]
    refine ⟨fun i h => i1 i ((e i).2 (Or.inl h)),fun P hP h => i2 P (fun x hx => hP x (List.mem_cons_of_mem _ hx)) (fun i hi => ?_)⟩
    have hc':=hP c List.mem_cons_self
    rcases (e i).1 hi with q | ⟨q,w⟩
    · exact h i q
    · have hb : P c.f0.toNat:=by
        rcases w with w | w
        · exact h _ w
        · exact hc'.2 (h _ w)
      rcases q with rfl | rfl
      · exact hb
      · exact hc'.1 hb
theorem passB_mem {N : Nat} (cs : List S51) (hc : CabOk cs N) (s : List Bool) (hs : s.length = N) (k : Nat) : (∀ i,memB s i → memB (passB cs k s) i) ∧ ∀ P : Nat → Prop,ClosedP cs P → (∀ i,memB s i → P i) → ∀ i,memB (passB cs k s) i → P i:=by
  induction k with
  | zero => exact ⟨fun _ h => h,fun P _ h => h⟩
  | succ k ih =>
    obtain ⟨i1,i2⟩:=ih
    obtain ⟨j1,j2⟩:=foldB_mem cs hc (passB cs k s) (by rw [passB_len];exact hs)
    exact ⟨fun i h => j1 i (i1 i h),fun P hP h => j2 P hP (i2 P hP h)⟩
theorem oneB_mem {N x : Nat} (hx : x < N) (i : Nat) : memB ((List.replicate N false).set x true) i ↔ i = x:=by
  rw [memB_set _ _ _ (by simp;exact hx)]
  constructor
  · rintro (h | h)
    · unfold memB at h
      rw [List.getElem?_replicate] at h
      split at h <;> simp at h
    · exact h
  · exact Or.inr
theorem jnB_self {N x : Nat} {cs : List S51} (hc : CabOk cs N) (hx : x < N) : memB (jnB cs N x) x:=(passB_mem cs hc _ (by simp) N).1 x ((oneB_mem hx x).2 rfl)
theorem jnB_closed {N x : Nat} {cs : List S51} (hc : CabOk cs N) (hx : x < N) : ClosedP cs (memB (jnB cs N x)):=passB_closed cs hc _ (by simp) x ((oneB_mem hx x).2 rfl)
theorem jnB_least {N x : Nat} {cs : List S51} (hc : CabOk cs N) (hx : x < N) {P : Nat → Prop} (hP : ClosedP cs P) (h : P x) {i : Nat} (hi : memB (jnB cs N x) i) : P i :=
  (passB_mem cs hc _ (by simp) N).2 P hP (fun j hj => by rw [(oneB_mem hx j).1 hj];exact h) i hi
theorem jnB_symm {N x y : Nat} {cs : List S51} (hc : CabOk cs N) (hx : x < N) (hy : y < N) (h : memB (jnB cs N x) y) : memB (jnB cs N y) x:=by
  by_cases c : memB (jnB cs N y) x
  · exact c
  · have hP : ClosedP cs (fun i => ¬ memB (jnB cs N y) i):=fun k hk => not_congr (jnB_closed hc hy k hk)
    exact absurd (jnB_self hc hy) (jnB_least hc hx hP c h)
theorem jnB_trans {N x y z : Nat} {cs : List S51} (hc : CabOk cs N) (hx : x < N) (hy : y < N) (h : memB (jnB cs N x) y) (h2 : memB (jnB cs N y) z) : memB (jnB cs N x) z :=
  jnB_least hc hy (jnB_closed hc hx) h h2
-- the roots
def thrB (m : Int) (o : List Int) : List Bool:=o.map fun v => decide (v ≤ m)
theorem thrB_mem (m : Int) (o : List Int) (i : Nat) (hi : i < o.length) : memB (thrB m o) i ↔ o[i] ≤ m:=by
  unfold memB thrB
  rw [List.getElem?_map,List.getElem?_eq_getElem hi]
  simp
theorem thrB_rel (m : Int) (o : List Int) (c : S51) (g1 : 0 ≤ c.f0) (g2 : c.f0 < o.length) (g3 : 0 ≤ c.f1) (g4 : c.f1 < o.length) : thrB m (relaxR o c) = relB (thrB m o) c:=by
  obtain ⟨a,ha⟩:=Int.eq_ofNat_of_zero_le g1
  obtain ⟨b,hb⟩:=Int.eq_ofNat_of_zero_le g3
  have la : a < o.length:=by omega
  have lb : b < o.length:=by omega
  have e1 : rdOf false (thrB m o) c.f0 = decide (o[a] ≤ m):=by rw [ha];simp [rdOf,thrB,List.getD_eq_getElem?_getD,la]
  have e2 : rdOf false (thrB m o) c.f1 = decide (o[b] ≤ m):=by rw [hb];simp [rdOf,thrB,List.getD_eq_getElem?_getD,lb]
  have d1 : rd o c.f0 = o[a]:=by rw [ha];exact rd_get o a la
  have d2 : rd o c.f1 = o[b]:=by rw [hb];exact rd_get o b lb
  have hmin : decide (mn (o[a]) (o[b]) ≤ m) = (decide (o[a] ≤ m) || decide (o[b] ≤ m)):=by
    rw [← Bool.decide_or,decide_eq_decide]
    show (if o[b] < o[a] then o[b] else o[a]) ≤ m ↔ _
    split <;> omega
  unfold relaxR relB
  rw [e1,e2,d1,d2]
  unfold thrB
  rw [List.map_set,List.map_set,hmin]
  by_cases h : decide (o[a] ≤ m) = true ∨ decide (o[b] ≤ m) = true
  · rw [if_pos h,show (decide (o[a] ≤ m) || decide (o[b] ≤ m)) = true by simpa using h]
  · rw [if_neg h]
    have h1 : decide (o[a] ≤ m) = false:=by cases q : decide (o[a] ≤ m) <;> simp_all
    have h2 : decide (o[b] ≤ m) = false:=by cases q : decide (o[b] ≤ m) <;> simp_all
    rw [h1,h2,Bool.or_self]
    apply List.ext_getElem (by simp)
    intro n _ h2'
    rw [List.getElem_set,List.getElem_set]
    simp only [hb,ha,Int.toNat_natCast]
    have hn : n < o.length:=by simpa using h2'
    split
    · rename_i q;subst q;simp [h2]
    · split
      · rename_i q;subst q;simp [h1]
      · rfl
theorem thrB_fold (m : Int) {N : Nat} (cs : List S51) (hc : CabOk cs N) : ∀ o : List Int,o.length = N → thrB m (cs.foldl relaxR o) = cs.foldl relB (thrB m o):=by
  induction cs with
  | nil => exact fun _ _ => rfl
  | cons c cs ih =>
    intro o ho
    obtain ⟨g1,g2,g3,g4⟩:=hc c (List.mem_cons_self)
    rw [List.foldl_cons,List.foldl_cons,ih (fun x hx => hc x (List.mem_cons_of_mem _ hx)) _ (by unfold relaxR;simp;exact ho),thrB_rel m o c g1 (by omega) g3 (by omega)]
theorem thrB_pass (m : Int) {N : Nat} (cs : List S51) (hc : CabOk cs N) (o : List Int) (ho : o.length = N) (k : Nat) : thrB m (passR cs k o) = passB cs k (thrB m o):=by
  induction k with
  | zero => rfl
  | succ k ih => rw [passR,passB,thrB_fold m cs hc _ (by rw [passR_len];exact ho),ih]
theorem fillL_get (k : Nat) (l : List Int) (i : Nat) (hi : i < (fillL k l).length) (hk : i < k) : (fillL k l)[i] = (i : Int):=by
  induction k with
  | zero => omega
  | succ k ih =>
    simp only [fillL] at hi ⊢
    rw [List.getElem_set]
    split
    · rename_i q;subst q;rfl
    · exact ih (by rw [List.length_set] at hi;exact hi) (by omega)
theorem rootsL_len (N : Nat) (cs : List S51) : (rootsL N cs).length = N:=by unfold rootsL;rw [passR_len,fillL_len];simp
/-- A bridge's root is the least of those to which it is joined. -/
theorem roots_le {N i : Nat} {cs : List S51} (hc : CabOk cs N) (hi : i < N) (m : Int) : (rootsL N cs)[i]'(by rw [rootsL_len];exact hi) ≤ m ↔ ∃ b : Nat,b < N ∧ (b : Int) ≤ m ∧ memB (jnB cs N b) i:=by
  have hfl : (fillL N (List.replicate N 0)).length = N:=by rw [fillL_len];simp
  rw [← thrB_mem m (rootsL N cs) i (by rw [rootsL_len];exact hi)]
  unfold rootsL
  rw [thrB_pass m cs hc _ hfl]
  have hst : ∀ j,memB (thrB m (fillL N (List.replicate N 0))) j ↔ j < N ∧ (j : Int) ≤ m:=by
    intro j
    constructor
    · intro h
      have hj : j < N:=by have:=memB_lt h;unfold thrB at this;rw [List.length_map,hfl] at this;exact this
      rw [thrB_mem _ _ _ (by omega),fillL_get _ _ _ (by omega) hj] at h
      exact ⟨hj,h⟩
    · rintro ⟨h1,h2⟩
      rw [thrB_mem _ _ _ (by omega),fillL_get _ _ _ (by omega) h1]
      exact h2
  have hlen : (thrB m (fillL N (List.replicate N 0))).length = N:=by unfold thrB;rw [List.length_map,hfl]
  obtain ⟨p1,p2⟩:=passB_mem cs hc (thrB m (fillL N (List.replicate N 0))) hlen N
  constructor
  · intro h
    refine p2 (fun i => ∃ b : Nat,b < N ∧ (b : Int) ≤ m ∧ memB (jnB cs N b) i) ?_ ?_ i h
    · intro c hcm
      exact ⟨fun ⟨b,h1,h2,h3⟩ => ⟨b,h1,h2,(jnB_closed hc h1 c hcm).1 h3⟩,fun ⟨b,h1,h2,h3⟩ => ⟨b,h1,h2,(jnB_closed hc h1 c hcm).2 h3⟩⟩
    · intro j hj
      obtain ⟨h1,h2⟩:=(hst j).1 hj
      exact ⟨j,h1,h2,jnB_self hc h1⟩
  · rintro ⟨b,h1,h2,h3⟩
    have hb:=(hst b).2 ⟨h1,h2⟩
    exact jnB_least hc h1 (passB_closed cs hc _ hlen b hb) (p1 b hb) h3
theorem roots_join {N i j : Nat} {cs : List S51} (hc : CabOk cs N) (hi : i < N) (hj : j < N) : (rootsL N cs)[i]'(by rw [rootsL_len];exact hi) = (rootsL N cs)[j]'(by rw [rootsL_len];exact hj) ↔ memB (jnB cs N i) j:=by
  constructor
  · intro e
    obtain ⟨b,b1,b2,b3⟩:=(roots_le hc hi _).1 (Int.le_refl _)
    obtain ⟨d,d1,d2,d3⟩:=(roots_le hc hj _).1 (Int.le_refl _)
    have q1:=(roots_le hc hi (d : Int))
    have x1:=jnB_symm hc b1 hi b3
    have x2:=jnB_symm hc d1 hj d3
    have y1 : (rootsL N cs)[i]'(by rw [rootsL_len];exact hi) ≤ b:=(roots_le hc hi _).2 ⟨b,b1,Int.le_refl _,b3⟩
    have y2 : (rootsL N cs)[j]'(by rw [rootsL_len];exact hj) ≤ d:=(roots_le hc hj _).2 ⟨d,d1,Int.le_refl _,d3⟩
    have : b = d:=by omega
    subst this
    exact jnB_trans hc hi b1 x1 d3
  · intro h
    have h':=jnB_symm hc hi hj h
    apply Int.le_antisymm
    · obtain ⟨d,d1,d2,d3⟩:=(roots_le hc hj _).1 (Int.le_refl _)
      exact (roots_le hc hi _).2 ⟨d,d1,d2,jnB_trans hc d1 hj d3 h'⟩
    · obtain ⟨d,d1,d2,d3⟩:=(roots_le hc hi _).1 (Int.le_refl _)
      exact (roots_le hc hj _).2 ⟨d,d1,d2,jnB_trans hc d1 hi d3 h⟩

-- LIB p19a
theorem l1In_is (n a b : Int) : spec_l1In.f n a b = some (decide (a ≤ n) && decide (n ≤ b)):=by
  unfold spec_l1In.f
  by_cases h : n ≥ a
  · rw [if_pos h,decide_eq_true (show a ≤ n from h),Bool.true_and]
  · rw [if_neg h,decide_eq_false (show ¬ a ≤ n from h),Bool.false_and]
theorem scabs_at (n : Int) (l : List S51) (hl : l.length ≤ 9223372036854775807) (d : Nat) : ∀ (k i : Nat),i + d = l.length → d < k → spec_CablesValid.l0 k n l (i : Int) = some ((l.drop i).all (cabB n)):=by
  induction d with
  | zero =>
    intro k i h1 hk
    obtain ⟨k,rfl⟩ : ∃ m,k = m + 1:=⟨k - 1,by omega⟩
    simp only [spec_CablesValid.l0]
    rw [if_neg (by omega),List.drop_of_length_le (by omega)]
    rfl
  | succ d ih =>
    intro k i h1 hk
    obtain ⟨k,rfl⟩ : ∃ m,k = m + 1:=⟨k - 1,by omega⟩
    simp only [spec_CablesValid.l0]
    rw [if_pos (by omega),if_pos (by omega),rdCab_get l i (by omega),l1In_is,l1In_is,l1In_is,wrap_succ (show i < l.length by omega) (by omega),ih k (i + 1) (by omega) (by omega),List.drop_eq_getElem_cons (show i < l.length by omega),List.all_cons]
    simp only [Option.bind_some]
    unfold cabB
    cases (decide (0 ≤ l[i].f0) && decide (l[i].f0 ≤ wrap64 (n - 1))) with
    | false => rw [if_neg (by decide)];simp
    | true =>
      rw [if_pos rfl]
      cases (decide (0 ≤ l[i].f1) && decide (l[i].f1 ≤ wrap64 (n - 1))) with
      | false => rw [if_neg (by decide)];simp
      | true =>
        rw [if_pos rfl]
        by_cases e : l[i].f0 = l[i].f1
        · rw [if_pos e,bne_eq_false_iff_eq.mpr e];simp
        · rw [if_neg e,bne_iff_ne.mpr e]
          cases (decide (1 ≤ l[i].f2) && decide (l[i].f2 ≤ 99)) with
          | false => rw [if_neg (by decide)];simp
          | true => rw [if_pos rfl];simp
theorem scabs_eq (n : Int) (l : List S51) (hl : l.length ≤ 9223372036854775807) (k : Nat) (hk : l.length + 1 < k) : spec_CablesValid.f k n l = some (cabsB n l):=by
  obtain ⟨k,rfl⟩ : ∃ m,k = m + 1:=⟨k - 1,by omega⟩
  unfold spec_CablesValid.f cabsB
  rw [l1In_is,Option.bind_some]
  simp only [spec_CablesValid.j0]
  cases (decide (1 ≤ n) && decide (n ≤ 8)) with
  | false => rw [if_neg (by decide),if_pos trivial];rfl
  | true =>
    rw [if_pos rfl]
    by_cases c : l.length ≤ 20
    · rw [decide_eq_false (show ¬ (l.length : Int) > 20 by omega),if_neg (by decide),decide_eq_true c]
      exact (scabs_at n l hl l.length k 0 (by omega) (by omega)).trans (by rw [List.drop_zero];rfl)
    · rw [decide_eq_true (show (l.length : Int) > 20 by omega),if_pos rfl,decide_eq_false c]
      rfl
theorem snet_l1 (n : Int) (cs : List S51) (hs vs : List Int) (hc : cs.length ≤ 9223372036854775807) (hl : hs.length ≤ 9223372036854775807) (hv : vs.length ≤ 9223372036854775807) (d : Nat) : ∀ (k i : Nat),i + d = vs.length → d + cs.length + 2 < k → spec_NetValid.l1 k (i : Int) n cs hs vs = some ((vs.drop i).all vlB && (cabsB n cs && (decide (vs.length = hs.length) && decide (hs.length ≤ 15)))):=by
  induction d with
  | zero =>
    intro k i h1 hk
    obtain ⟨k,rfl⟩ : ∃ m,k = m + 1:=⟨k - 1,by omega⟩
    simp only [spec_NetValid.l1]
    rw [if_neg (by omega),List.drop_of_length_le (by omega),scabs_eq n cs hc k (by omega),Option.bind_some]
    have e15 : decide ((hs.length : Int) ≤ 15) = decide (hs.length ≤ 15):=by rw [decide_eq_decide];omega
    rw [e15]
    cases cabsB n cs with
    | false => rw [if_neg (by decide)];simp
    | true =>
      rw [if_pos rfl]
      by_cases e : hs.length = vs.length
      · rw [if_pos (by omega),decide_eq_true e.symm];simp
      · rw [if_neg (by omega),decide_eq_false (fun h => e h.symm)];simp
  | succ d ih =>
    intro k i h1 hk
    obtain ⟨k,rfl⟩ : ∃ m,k = m + 1:=⟨k - 1,by omega⟩
    have e : spec_l10Vlan.f vs[i] = some (vlB vs[i]):=by unfold spec_l10Vlan.f;rw [l1In_is];rfl
    simp only [spec_NetValid.l1]
    rw [if_pos (by omega),if_pos (by omega),rd_get vs i (by omega),e,Option.bind_some,wrap_succ (show i < vs.length by omega) (by omega),ih k (i + 1) (by omega) (by omega),List.drop_eq_getElem_cons (show i < vs.length by omega),List.all_cons]
    cases vlB vs[i] with
    | false => rw [if_neg (by decide)];simp
    | true => rw [if_pos rfl];simp
theorem snet_l0 (n : Int) (cs : List S51) (hs vs : List Int) (hc : cs.length ≤ 9223372036854775807) (hl : hs.length ≤ 9223372036854775807) (hv : vs.length ≤ 9223372036854775807) (d : Nat) : ∀ (k i : Nat),i + d = hs.length → d + vs.length + cs.length + 3 < k → spec_NetValid.l0 k (i : Int) n cs hs vs = some ((hs.drop i).all (brB n) && (vs.all vlB && (cabsB n cs && (decide (vs.length = hs.length) && decide (hs.length ≤ 15))))):=by
  induction d with
  | zero =>
    intro k i h1 hk
    obtain ⟨k,rfl⟩ : ∃ m,k = m + 1:=⟨k - 1,by omega⟩
    have e:=snet_l1 n cs hs vs hc hl hv vs.length k 0 (by omega) (by omega)
    simp only [spec_NetValid.l0]
    rw [if_neg (by omega),List.drop_of_length_le (by omega)]
    exact e.trans (by rw [List.drop_zero];simp)
  | succ d ih =>
    intro k i h1 hk
    obtain ⟨k,rfl⟩ : ∃ m,k = m + 1:=⟨k - 1,by omega⟩
    simp only [spec_NetValid.l0]
    rw [if_pos (by omega),if_pos (by omega),rd_get hs i (by omega),l1In_is,Option.bind_some,wrap_succ (show i < hs.length by omega) (by omega),ih k (i + 1) (by omega) (by omega),List.drop_eq_getElem_cons (show i < hs.length by omega),List.all_cons]
    have e : brB n hs[i] = (decide (0 ≤ hs[i]) && decide (hs[i] ≤ wrap64 (n - 1))):=rfl
    rw [← e]
    cases brB n hs[i] with
    | false => rw [if_neg (by decide)];simp
    | true => rw [if_pos rfl];simp
theorem snet_eq (n : Int) (cs : List S51) (hs vs : List Int) (hc : cs.length ≤ 9223372036854775807) (hl : hs.length ≤ 9223372036854775807) (hv : vs.length ≤ 9223372036854775807) (k : Nat) (hk : hs.length + vs.length + cs.length + 3 < k) : spec_NetValid.f k n cs hs vs = some (netB n cs hs vs):=by
  unfold spec_NetValid.f
  refine (snet_l0 n cs hs vs hc hl hv hs.length k 0 (by omega) (by omega)).trans ?_
  rw [List.drop_zero]
  unfold netB
  cases hs.all (brB n) <;> cases vs.all vlB <;> cases cabsB n cs <;> cases decide (vs.length = hs.length) <;> cases decide (hs.length ≤ 15) <;> rfl
theorem inet_eq (n : Int) (cs : List S51) (hs vs : List Int) : impl_NetValid.f n cs hs vs = some (netB n cs hs vs):=rfl

end Go.Proofs.Ytdamdcdjodmemaa.PAll

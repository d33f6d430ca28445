/- Proved here: contracts of functions of the given program, or lemmas on them, for the laws of this seat. Written by xprint.py, a program of this session, on the ground of the kit's print; parts by hand: wip/x/ext. -/
import Derived.Test.YtblcnbnphjnhdaaDoorPAllx0
import Derived.Test.YtblcnbnphjnhdaaDoorPAllx1
import Derived.Test.YtblcnbnphjnhdaaDoorPAllx4
import Derived.Test.YtblcnbnphjnhdaaDoorPAllx5
import Derived.Test.YtblcnbnphjnhdaaDoorPAllx6
import Derived.Test.YtblcnbnphjnhdaaDoorPAllx7
namespace Go.Proofs.YtblcnbnphjnhdaaDoor.PAll
open Go.RowKit Go.Proofs.YtblcnbnphjnhdaaDoorW.PrintWords Go.Proofs.YtblcnbnphjnhdaaDoorW.PrintLast Go.Proofs.YtblcnbnphjnhdaaDoorW.PrintMore
attribute [local go_sem] max2_int min2_int max_two min_two max_three min_three max_four min_four   -- for this text's walks alone
set_option linter.unusedVariables false
set_option linter.unusedSimpArgs false

/-! ### spec_RunNet: function 5 (by hand) -/
def spec_RunNet.f (a0_0 : Int) (l0_1 : List (S71)) (l0_2 : List Int) (l0_3 : List Int) (l1 : List (S36)) : Option ((List (List Int)) × (List (List Int)) × Bool) :=
 if runB a0_0 l0_1 l0_2 l0_3 l1 = true then (framesS l0_1 (treeX a0_0 l0_1) l0_2 l0_3 l1 (List.replicate (a0_0 * 150).toNat (-1))).map (fun p => (p.1,p.2,true)) else some ([],[],false)
set_option maxHeartbeats 4000000 in
set_option maxRecDepth 100000 in
theorem spec_RunNet.calls (a0_0 : Int) (A0_1 : Option Addr) (c0_1 : Nat) (l0_1 : List (S71)) (A0_2 : Option Addr) (c0_2 : Nat) (l0_2 : List Int) (A0_3 : Option Addr) (c0_3 : Nat) (l0_3 : List Int) (A1 : Option Addr) (c1 : Nat) (l1 : List (S36)) (r1 : List (List Int)) (r2 : List (List Int)) (r3 : Bool) (w : World) (hr0_1 : Kd.C k71 w A0_1 l0_1.length l0_1) (hc0_1 : l0_1.length ≤ c0_1) (hr0_2 : Kd.C (Kd.int .i64) w A0_2 l0_2.length l0_2) (hc0_2 : l0_2.length ≤ c0_2) (hr0_3 : Kd.C (Kd.int .i64) w A0_3 l0_3.length l0_3) (hc0_3 : l0_3.length ≤ c0_3) (hr1 : Kd.C k36 w A1 l1.length l1) (hc1 : l1.length ≤ c1) (h : spec_RunNet.f a0_0 l0_1 l0_2 l0_3 l1 = some (r1,r2,r3)) :
  Calls Tryd.prog 5 #[.agg #[.int .i64 a0_0,.slice A0_1 l0_1.length c0_1,.slice A0_2 l0_2.length c0_2,.slice A0_3 l0_3.length c0_3],.slice A1 l1.length c1] w fun e w' => ∃ v0_ v1_ : Value,e = .returned (.tuple #[.agg #[v0_,v1_],.bool r3]) ∧ Kd.S (Kd.slice 3 (Kd.int .i64)) 23 w' w.heap.size (fun k_ => some k_ ≠ (v1_ : Value).ownBlock) v0_ r1 ∧ Kd.S (Kd.slice 3 (Kd.int .i64)) 23 w' w.heap.size (fun k_ => some k_ ≠ (v0_ : Value).ownBlock) v1_ r2 ∧ Below w.heap.size w w':=by
 unfold spec_RunNet.f at h
 obtain ⟨fin,hfin,rfl,rfl,rfl⟩ : ∃ fin : List (List Int) × List (List Int),(if runB a0_0 l0_1 l0_2 l0_3 l1 = true then framesS l0_1 (treeX a0_0 l0_1) l0_2 l0_3 l1 (List.replicate (a0_0 * 150).toNat (-1)) = some fin else fin = ([],[])) ∧ fin.1 = r1 ∧ fin.2 = r2 ∧ runB a0_0 l0_1 l0_2 l0_3 l1 = r3:=by
  cases hok : runB a0_0 l0_1 l0_2 l0_3 l1 with
  | false =>
   rw [hok,if_neg (by decide)] at h
   have:=Option.some.inj h
   exact ⟨([],[]),by rw [if_neg (by decide)],congrArg (·.1) this,congrArg (·.2.1) this,congrArg (·.2.2) this⟩
  | true =>
   rw [hok,if_pos rfl] at h
   obtain ⟨fin,hfin,hf⟩:=Option.map_eq_some_iff.mp h
   exact ⟨fin,by rw [if_pos rfl];exact hfin,congrArg (·.1) hf,congrArg (·.2.1) hf,congrArg (·.2.2) hf⟩
 refine (x_RunNetS a0_0 A0_1 c0_1 l0_1 A0_2 c0_2 l0_2 A0_3 c0_3 l0_3 A1 c1 l1 w fin hfin hr0_1 hc0_1 hr0_2 hc0_2 hr0_3 hc0_3 hr1 hc1).mono ?_
 rintro e w1 ⟨v1,v2,P,Q,rfl,hd,h1,h2,hb⟩
 refine ⟨v1,v2,rfl,Kd.S_mono h1 ?_,Kd.S_mono h2 ?_,hb⟩
 ·obtain ⟨f,h2⟩:=h2
  exact fun k hk he => hd k hk (h2.1 k he.symm)
 ·obtain ⟨f,h1⟩:=h1
  exact fun k hk he => hd k (h1.1 k he.symm) hk

/-! ### laws_wnInts: function 11 -/
def laws_wnInts.l0 : Nat → List Int → List Int → Int → Int → Option (Bool)
 | 0,_,_,_,_ => none
 | k + 1,x1,x12,x13,x14 => if x14 < x13 then (if 0 ≤ x14 then (if x14 < (x12.length : Int) then (if x14 < (x1.length : Int) then (if (rd x1 x14) = (rd x12 x14) then (laws_wnInts.l0 k x1 x12 x13 (wrap64 (x14 + 1))) else (some false)) else (none)) else (none)) else (none)) else (some true)
def laws_wnInts.f (k : Nat) (l0 : List Int) (l1 : List Int) : Option (Bool):=if (l0.length : Int) = (l1.length : Int) then (laws_wnInts.l0 k l1 l0 (l0.length : Int) 0) else (some false)
theorem laws_wnInts.mono_l : ∀ k,(∀ y0 y1 y2 y3,LeO (laws_wnInts.l0 k y0 y1 y2 y3) (laws_wnInts.l0 (k + 1) y0 y1 y2 y3))
 | 0 => fun _ _ _ _ r h => by simp [laws_wnInts.l0] at h
 | k + 1 => by
  have ih0:=laws_wnInts.mono_l k
  ·intro y0 y1 y2 y3
   unfold laws_wnInts.l0
   repeat' first
   | (with_reducible exact ih0 _ _ _ _)
   | (with_reducible exact LeO.refl _)
   | (with_reducible exact LeO.none _)
   | (with_reducible refine LeO.ite ?_ ?_)
   | (with_reducible refine LeO.bind ?_ (fun _ => ?_))
   | exact ih0 _ _ _ _
   | exact LeO.none _
   | refine LeO.ite ?_ ?_
   | refine LeO.bind ?_ (fun _ => ?_)
theorem laws_wnInts.mono : ∀ a0 a1 k,LeO (laws_wnInts.f k a0 a1) (laws_wnInts.f (k + 1) a0 a1):=by
 intro a0 a1 k
 have ih0:=laws_wnInts.mono_l k
 unfold laws_wnInts.f
 repeat' first
   | (with_reducible exact ih0 _ _ _ _)
   | (with_reducible exact LeO.refl _)
   | (with_reducible exact LeO.none _)
   | (with_reducible refine LeO.ite ?_ ?_)
   | (with_reducible refine LeO.bind ?_ (fun _ => ?_))
   | exact ih0 _ _ _ _
   | exact LeO.none _
   | refine LeO.ite ?_ ?_
   | refine LeO.bind ?_ (fun _ => ?_)
set_option maxHeartbeats 8000000 in
set_option maxRecDepth 100000 in
theorem laws_wnInts.calls (k : Nat) (A0 : Option Addr) (c0 : Nat) (l0 : List Int) (A1 : Option Addr) (c1 : Nat) (l1 : List Int) (r : Bool) (w : World) (hr0 : Kd.C (Kd.int .i64) w A0 l0.length l0) (hc0 : l0.length ≤ c0) (hr1 : Kd.C (Kd.int .i64) w A1 l1.length l1) (hc1 : l1.length ≤ c1) (h : laws_wnInts.f k l0 l1 = some r) :
  Calls Tryd.prog 11 #[.slice A0 l0.length c0,.slice A1 l1.length c1] w fun e w' => e = .returned (.bool r) ∧ Drawn0 w w':=by
 have HR0:=mk_ hr0
 have HC0:=mk_ hc0
 clear hr0 hc0
 have HR1:=mk_ hr1
 have HC1:=mk_ hc1
 clear hr1 hc1
 have H : (if (l0.length : Int) = (l1.length : Int) then (laws_wnInts.l0 k l1 l0 (l0.length : Int) 0) else (some false)) = some r:=h
 clear h
 by_cases c3 : (l0.length : Int) = (l1.length : Int)
 ·rw [if_pos c3] at H
  have c3b0 : ((l0.length : Int) == (l1.length : Int)) = true:=beq_iff_eq.mpr c3
  have c3b1 : ((l0.length : Int) != (l1.length : Int)) = false:=bne_eq_false_iff_eq.mpr c3
  have c3b2 : (l0.length == l1.length) = true:=by first|simpa using c3|(simp at c3 ⊢;omega)
  clear c3
  have H':=mk_ H
  clear H
  go_enter Tryd.func11,Tryd.ntmps11
  go_wp2
  go_loopg [14] k (fun kq v14 w' => ∃ (x14_1 : Int),v14 = .int .i64 x14_1 ∧ Aside0 (laws_wnInts.l0 kq l1 l0 (l0.length : Int) x14_1 = some r) ∧ Aside0 (kq ≤ k) ∧ Drawn0 w w')
  case atStart => exact ⟨(0),qf_,H',⟨Nat.le_refl _⟩,by repeat (first|exact Drawn0.refl _|apply Drawn0.step)⟩
  case round =>
   clear H'
   try clear c1
   try clear p2
   try clear c3
   try clear c3b0
   try clear c3b1
   try clear c3b2
   obtain ⟨x14_1,rfl,HA,HK1,⟨m1,rfl⟩⟩:=hrel
   cases gk with
   | zero => exact absurd HA.out (by simp [laws_wnInts.l0])
   | succ k1 =>
    have H:=HA.out
    clear HA
    simp only [laws_wnInts.l0] at H
    by_cases c4 : x14_1 < (l0.length : Int)
    ·rw [if_pos c4] at H
     have c4b0 : decide (x14_1 < (l0.length : Int)) = true:=decide_eq_true c4
     clear c4
     by_cases c5 : 0 ≤ x14_1
     ·rw [if_pos c5] at H
      have c5b0 : decide (0 ≤ x14_1) = true:=decide_eq_true c5
      clear c5
      by_cases c6 : x14_1 < (l0.length : Int)
      ·rw [if_pos c6] at H
       have c6b0 : decide (x14_1 < (l0.length : Int)) = true:=decide_eq_true c6
       clear c6
       by_cases c7 : x14_1 < (l1.length : Int)
       ·rw [if_pos c7] at H
        have c7b0 : decide (x14_1 < (l1.length : Int)) = true:=decide_eq_true c7
        clear c7
        by_cases c8 : (rd l1 x14_1) = (rd l0 x14_1)
        ·rw [if_pos c8] at H
         have c8b0 : ((rd l1 x14_1) == (rd l0 x14_1)) = true:=beq_iff_eq.mpr c8
         have c8b1 : ((rd l1 x14_1) != (rd l0 x14_1)) = false:=bne_eq_false_iff_eq.mpr c8
         clear c8
         have H':=mk_ H
         clear H
         have p366 : 0 ≤ (x14_1 : Int):=od_ qa_
         have q366 : x14_1 < (l0.length : Int):=od_ qa_
         obtain ⟨ad366,e366,hx366_0⟩:=Kd.at_int HR0.out x14_1 p366 q366
         cases e366
         replace p366:=eq_true p366
         replace q366:=eq_true q366
         have p367 : 0 ≤ (x14_1 : Int):=od_ qa_
         have q367 : x14_1 < (l1.length : Int):=od_ qa_
         obtain ⟨ad367,e367,hx367_0⟩:=Kd.at_int HR1.out x14_1 p367 q367
         cases e367
         replace p367:=eq_true p367
         replace q367:=eq_true q367
         go_wp2
         go_roundg k1
         case measure => have:=HK1.out;omega
         case rel => exact ⟨(wrap64 (x14_1 + 1)),qf_,H',⟨by have:=HK1.out;omega⟩,by repeat (first|exact Drawn0.refl _|apply Drawn0.step)⟩
        ·rw [if_neg c8] at H
         have c8b0 : ((rd l1 x14_1) == (rd l0 x14_1)) = false:=beq_eq_false_iff_ne.mpr c8
         have c8b1 : ((rd l1 x14_1) != (rd l0 x14_1)) = true:=bne_iff_ne.mpr c8
         obtain rfl:=Option.some.inj H
         have p366 : 0 ≤ (x14_1 : Int):=od_ qa_
         have q366 : x14_1 < (l0.length : Int):=od_ qa_
         obtain ⟨ad366,e366,hx366_0⟩:=Kd.at_int HR0.out x14_1 p366 q366
         cases e366
         replace p366:=eq_true p366
         replace q366:=eq_true q366
         have p367 : 0 ≤ (x14_1 : Int):=od_ qa_
         have q367 : x14_1 < (l1.length : Int):=od_ qa_
         obtain ⟨ad367,e367,hx367_0⟩:=Kd.at_int HR1.out x14_1 p367 q367
         cases e367
         replace p367:=eq_true p367
         replace q367:=eq_true q367
         go_wp2
         go_ret
         exact ⟨by first|rfl|(simp;done)|(simp [*];done),by repeat (first|exact Drawn0.refl _|apply Drawn0.step)⟩
       ·rw [if_neg c7] at H
        exact absurd H (by simp)
      ·rw [if_neg c6] at H
       exact absurd H (by simp)
     ·rw [if_neg c5] at H
      exact absurd H (by simp)
    ·rw [if_neg c4] at H
     have c4b0 : decide (x14_1 < (l0.length : Int)) = false:=decide_eq_false c4
     clear c4
     obtain rfl:=Option.some.inj H
     go_wp2
     go_ret
     exact ⟨by first|rfl|(simp;done)|(simp [*];done),by repeat (first|exact Drawn0.refl _|apply Drawn0.step)⟩
 ·rw [if_neg c3] at H
  have c3b0 : ((l0.length : Int) == (l1.length : Int)) = false:=beq_eq_false_iff_ne.mpr c3
  have c3b1 : ((l0.length : Int) != (l1.length : Int)) = true:=bne_iff_ne.mpr c3
  have c3b2 : (l0.length == l1.length) = false:=by first|simpa using c3|(simp at c3 ⊢;omega)
  obtain rfl:=Option.some.inj H
  go_enter Tryd.func11,Tryd.ntmps11
  go_wp2
  go_ret
  exact ⟨by first|rfl|(simp;done)|(simp [*];done),by repeat (first|exact Drawn0.refl _|apply Drawn0.step)⟩

/-! ### laws_wnPairs: function 6 -/
def laws_wnPairs.l0 : Nat → List (List Int) → List (List Int) → Int → Int → Option (Bool)
 | 0,_,_,_,_ => none
 | k + 1,x1,x12,x13,x14 => if x14 < x13 then (if 0 ≤ x14 then (if x14 < (x12.length : Int) then (if x14 < (x1.length : Int) then ((laws_wnInts.f k (rd_L4 x12 x14) (rd_L4 x1 x14)).bind fun t370 => (if t370 = true then (laws_wnPairs.l0 k x1 x12 x13 (wrap64 (x14 + 1))) else (some false))) else (none)) else (none)) else (none)) else (some true)
def laws_wnPairs.f (k : Nat) (l0 : List (List Int)) (l1 : List (List Int)) : Option (Bool):=if (l0.length : Int) = (l1.length : Int) then (laws_wnPairs.l0 k l1 l0 (l0.length : Int) 0) else (some false)
theorem laws_wnPairs.mono_l : ∀ k,(∀ y0 y1 y2 y3,LeO (laws_wnPairs.l0 k y0 y1 y2 y3) (laws_wnPairs.l0 (k + 1) y0 y1 y2 y3))
 | 0 => fun _ _ _ _ r h => by simp [laws_wnPairs.l0] at h
 | k + 1 => by
  have ih0:=laws_wnPairs.mono_l k
  ·intro y0 y1 y2 y3
   unfold laws_wnPairs.l0
   repeat' first
   | (with_reducible exact ih0 _ _ _ _)
   | (with_reducible exact laws_wnInts.mono _ _ _)
   | (with_reducible exact LeO.refl _)
   | (with_reducible exact LeO.none _)
   | (with_reducible refine LeO.ite ?_ ?_)
   | (with_reducible refine LeO.bind ?_ (fun _ => ?_))
   | exact ih0 _ _ _ _
   | exact laws_wnInts.mono _ _ _
   | exact LeO.none _
   | refine LeO.ite ?_ ?_
   | refine LeO.bind ?_ (fun _ => ?_)
theorem laws_wnPairs.mono : ∀ a0 a1 k,LeO (laws_wnPairs.f k a0 a1) (laws_wnPairs.f (k + 1) a0 a1):=by
 intro a0 a1 k
 have ih0:=laws_wnPairs.mono_l k
 unfold laws_wnPairs.f
 repeat' first
   | (with_reducible exact ih0 _ _ _ _)
   | (with_reducible exact laws_wnInts.mono _ _ _)
   | (with_reducible exact LeO.refl _)
   | (with_reducible exact LeO.none _)
   | (with_reducible refine LeO.ite ?_ ?_)
   | (with_reducible refine LeO.bind ?_ (fun _ => ?_))
   | exact ih0 _ _ _ _
   | exact laws_wnInts.mono _ _ _
   | exact LeO.none _
   | refine LeO.ite ?_ ?_
   | refine LeO.bind ?_ (fun _ => ?_)
set_option maxHeartbeats 8000000 in
set_option maxRecDepth 100000 in
theorem laws_wnPairs.calls (k : Nat) (A0 : Option Addr) (c0 : Nat) (l0 : List (List Int)) (A1 : Option Addr) (c1 : Nat) (l1 : List (List Int)) (r : Bool) (w : World) (hr0 : Kd.C (Kd.slice 3 (Kd.int .i64)) w A0 l0.length l0) (hc0 : l0.length ≤ c0) (hr1 : Kd.C (Kd.slice 3 (Kd.int .i64)) w A1 l1.length l1) (hc1 : l1.length ≤ c1) (h : laws_wnPairs.f k l0 l1 = some r) :
  Calls Tryd.prog 6 #[.slice A0 l0.length c0,.slice A1 l1.length c1] w fun e w' => e = .returned (.bool r) ∧ Drawn0 w w':=by
 have HR0:=mk_ hr0
 have HC0:=mk_ hc0
 clear hr0 hc0
 have HR1:=mk_ hr1
 have HC1:=mk_ hc1
 clear hr1 hc1
 have H : (if (l0.length : Int) = (l1.length : Int) then (laws_wnPairs.l0 k l1 l0 (l0.length : Int) 0) else (some false)) = some r:=h
 clear h
 by_cases c3 : (l0.length : Int) = (l1.length : Int)
 ·rw [if_pos c3] at H
  have c3b0 : ((l0.length : Int) == (l1.length : Int)) = true:=beq_iff_eq.mpr c3
  have c3b1 : ((l0.length : Int) != (l1.length : Int)) = false:=bne_eq_false_iff_eq.mpr c3
  have c3b2 : (l0.length == l1.length) = true:=by first|simpa using c3|(simp at c3 ⊢;omega)
  clear c3
  have H':=mk_ H
  clear H
  go_enter Tryd.func6,Tryd.ntmps6
  go_wp2
  go_loopg [14] k (fun kq v14 w' => ∃ (x14_1 : Int),v14 = .int .i64 x14_1 ∧ Aside0 (laws_wnPairs.l0 kq l1 l0 (l0.length : Int) x14_1 = some r) ∧ Aside0 (kq ≤ k) ∧ Drawn0 w w')
  case atStart => exact ⟨(0),qf_,H',⟨Nat.le_refl _⟩,by repeat (first|exact Drawn0.refl _|apply Drawn0.step)⟩
  case round =>
   clear H'
   try clear c1
   try clear p2
   try clear c3
   try clear c3b0
   try clear c3b1
   try clear c3b2
   obtain ⟨x14_1,rfl,HA,HK1,⟨m1,rfl⟩⟩:=hrel
   cases gk with
   | zero => exact absurd HA.out (by simp [laws_wnPairs.l0])
   | succ k1 =>
    have H:=HA.out
    clear HA
    simp only [laws_wnPairs.l0] at H
    by_cases c4 : x14_1 < (l0.length : Int)
    ·rw [if_pos c4] at H
     have c4b0 : decide (x14_1 < (l0.length : Int)) = true:=decide_eq_true c4
     clear c4
     by_cases c5 : 0 ≤ x14_1
     ·rw [if_pos c5] at H
      have c5b0 : decide (0 ≤ x14_1) = true:=decide_eq_true c5
      clear c5
      by_cases c6 : x14_1 < (l0.length : Int)
      ·rw [if_pos c6] at H
       have c6b0 : decide (x14_1 < (l0.length : Int)) = true:=decide_eq_true c6
       clear c6
       by_cases c7 : x14_1 < (l1.length : Int)
       ·rw [if_pos c7] at H
        have c7b0 : decide (x14_1 < (l1.length : Int)) = true:=decide_eq_true c7
        clear c7
        replace H:=Option.bind_eq_some_iff.mp H
        obtain ⟨t370,A80,H⟩:=H
        replace H : (if t370 = true then (laws_wnPairs.l0 k1 l1 l0 (l0.length : Int) (wrap64 (x14_1 + 1))) else (some false)) = some r:=H
        have A8:=mk_ A80
        clear A80
        by_cases c9 : t370 = true
        ·subst c9
         have H1 : (laws_wnPairs.l0 k1 l1 l0 (l0.length : Int) (wrap64 (x14_1 + 1))) = some r:=by rw [if_pos rfl] at H;exact H
         clear H
         have H:=H1
         clear H1
         have H':=mk_ H
         clear H
         have p368 : 0 ≤ (x14_1 : Int):=od_ qa_
         have q368 : x14_1 < (l0.length : Int):=od_ qa_
         obtain ⟨ad368,A368_0,c368_0,e368,hx368_0,hl368_0,hi368_0⟩:=at_L4 HR0.out x14_1 p368 q368
         cases e368
         have HR368_0:=mk_ hi368_0
         have HC368_0:=mk_ hl368_0
         clear hi368_0 hl368_0
         replace p368:=eq_true p368
         replace q368:=eq_true q368
         have p369 : 0 ≤ (x14_1 : Int):=od_ qa_
         have q369 : x14_1 < (l1.length : Int):=od_ qa_
         obtain ⟨ad369,A369_0,c369_0,e369,hx369_0,hl369_0,hi369_0⟩:=at_L4 HR1.out x14_1 p369 q369
         cases e369
         have HR369_0:=mk_ hi369_0
         have HC369_0:=mk_ hl369_0
         clear hi369_0 hl369_0
         replace p369:=eq_true p369
         replace q369:=eq_true q369
         go_wp2_with (first|((with_reducible refine gate_callee (f:=11) rfl ?_);refine goesL_ (some 24) rfl rfl Tryd.func11 (by kernel_rfl) rfl #[.slice A368_0 (rd_L4 l0 x14_1).length c368_0,.slice A369_0 (rd_L4 l1 x14_1).length c369_0] rfl qm_ ?_;(with_reducible refine (laws_wnInts.calls k1 _ _ (rd_L4 l0 x14_1) _ _ (rd_L4 l1 x14_1) true _ ?side1 ?side2 ?side3 ?side4 A8.out).mono ?_);(case side1 => repeat (first|exact HR368_0.out|(with_reducible refine ca_ ?_ _)|(with_reducible refine cn_ ?_ _)|(with_reducible refine cd_ ?_)));(case side2 => exact HC368_0.out);(case side3 => repeat (first|exact HR369_0.out|(with_reducible refine ca_ ?_ _)|(with_reducible refine cn_ ?_ _)|(with_reducible refine cd_ ?_)));(case side4 => exact HC369_0.out);rintro e w' ⟨rfl,⟨nd,rfl⟩⟩;refine ⟨_,rfl,?_⟩))
         go_roundg k1
         case measure => have:=HK1.out;omega
         case rel => exact ⟨(wrap64 (x14_1 + 1)),qf_,H',⟨by have:=HK1.out;omega⟩,by repeat (first|exact Drawn0.refl _|apply Drawn0.step)⟩
        ·replace c9:=Bool.eq_false_iff.mpr c9
         subst c9
         have H1 : (some false) = some r:=by rw [if_neg (show ¬ (false = true) by decide)] at H;exact H
         clear H
         have H:=H1
         clear H1
         obtain rfl:=Option.some.inj H
         have p368 : 0 ≤ (x14_1 : Int):=od_ qa_
         have q368 : x14_1 < (l0.length : Int):=od_ qa_
         obtain ⟨ad368,A368_0,c368_0,e368,hx368_0,hl368_0,hi368_0⟩:=at_L4 HR0.out x14_1 p368 q368
         cases e368
         have HR368_0:=mk_ hi368_0
         have HC368_0:=mk_ hl368_0
         clear hi368_0 hl368_0
         replace p368:=eq_true p368
         replace q368:=eq_true q368
         have p369 : 0 ≤ (x14_1 : Int):=od_ qa_
         have q369 : x14_1 < (l1.length : Int):=od_ qa_
         obtain ⟨ad369,A369_0,c369_0,e369,hx369_0,hl369_0,hi369_0⟩:=at_L4 HR1.out x14_1 p369 q369
         cases e369
         have HR369_0:=mk_ hi369_0
         have HC369_0:=mk_ hl369_0
         clear hi369_0 hl369_0
         replace p369:=eq_true p369
         replace q369:=eq_true q369
         go_wp2_with (first|((with_reducible refine gate_callee (f:=11) rfl ?_);refine goesL_ (some 24) rfl rfl Tryd.func11 (by kernel_rfl) rfl #[.slice A368_0 (rd_L4 l0 x14_1).length c368_0,.slice A369_0 (rd_L4 l1 x14_1).length c369_0] rfl qm_ ?_;(with_reducible refine (laws_wnInts.calls k1 _ _ (rd_L4 l0 x14_1) _ _ (rd_L4 l1 x14_1) false _ ?side1 ?side2 ?side3 ?side4 A8.out).mono ?_);(case side1 => repeat (first|exact HR368_0.out|(with_reducible refine ca_ ?_ _)|(with_reducible refine cn_ ?_ _)|(with_reducible refine cd_ ?_)));(case side2 => exact HC368_0.out);(case side3 => repeat (first|exact HR369_0.out|(with_reducible refine ca_ ?_ _)|(with_reducible refine cn_ ?_ _)|(with_reducible refine cd_ ?_)));(case side4 => exact HC369_0.out);rintro e w' ⟨rfl,⟨nd,rfl⟩⟩;refine ⟨_,rfl,?_⟩))
         go_ret
         exact ⟨by first|rfl|(simp;done)|(simp [*];done),by repeat (first|exact Drawn0.refl _|apply Drawn0.step)⟩
       ·rw [if_neg c7] at H
        exact absurd H (by simp)
      ·rw [if_neg c6] at H
       exact absurd H (by simp)
     ·rw [if_neg c5] at H
      exact absurd H (by simp)
    ·rw [if_neg c4] at H
     have c4b0 : decide (x14_1 < (l0.length : Int)) = false:=decide_eq_false c4
     clear c4
     obtain rfl:=Option.some.inj H
     go_wp2
     go_ret
     exact ⟨by first|rfl|(simp;done)|(simp [*];done),by repeat (first|exact Drawn0.refl _|apply Drawn0.step)⟩
 ·rw [if_neg c3] at H
  have c3b0 : ((l0.length : Int) == (l1.length : Int)) = false:=beq_eq_false_iff_ne.mpr c3
  have c3b1 : ((l0.length : Int) != (l1.length : Int)) = true:=bne_iff_ne.mpr c3
  have c3b2 : (l0.length == l1.length) = false:=by first|simpa using c3|(simp at c3 ⊢;omega)
  obtain rfl:=Option.some.inj H
  go_enter Tryd.func6,Tryd.ntmps6
  go_wp2
  go_ret
  exact ⟨by first|rfl|(simp;done)|(simp [*];done),by repeat (first|exact Drawn0.refl _|apply Drawn0.step)⟩

-- LIB itoa
def digB (n : Int) : ByteArray:=⟨(Lib.decDigits n.toNat).toArray⟩

-- LIB itoa
theorem x_format (n : Int) (h0 : 0 ≤ n) (h1 : n < 100) (w : World) : Calls Tryd.prog 66 #[.int .i64 n,.int .i64 10] w fun e w' => e = .returned (.string (digB n)) ∧ w' = w:=by
 obtain ⟨k,hk⟩ : ∃ k : Nat,n = (k : Int):=⟨n.toNat,by omega⟩
 subst hk
 have hc:=Any.internal_strconv_small Tryd.lays283 k (by omega) w
 have hd : (⟨(Lib.decDigits k).toArray⟩ : ByteArray) = digB k:=rfl
 rw [hd] at hc
 have p0 : ((0:Int) ≤ (k : Int)) = True:=eq_true h0
 have p1 : ((k : Int) < 100) = True:=eq_true h1
 generalize digB k = d at hc ⊢
 clear hd
 go_enter Tryd.func66,Tryd.ntmps66
 go_wp2_with (go_at_call 81;refine hc.mono ?_;rintro e w' ⟨rfl,rfl⟩)
 go_ret
 try exact ⟨rfl,rfl⟩

-- LIB itoa
theorem x_itoa_in (n : Int) (h0 : 0 ≤ n) (h1 : n < 100) (w : World) : Calls Tryd.prog 56 #[.int .i64 n] w fun e w' => e = .returned (.string (digB n)) ∧ w' = w:=by
 have hc:=x_format n h0 h1 w
 generalize digB n = d at hc ⊢
 go_enter Tryd.func56,Tryd.ntmps56
 go_wp2_with (go_at_call 66;refine hc.mono ?_;rintro e w' ⟨rfl,rfl⟩)
 go_ret
 try exact ⟨rfl,rfl⟩

-- LIB itoa
theorem x_itoa (n : Int) (h0 : 0 ≤ n) (h1 : n < 100) (w : World) : Calls Tryd.prog 33 #[.int .i64 n] w fun e w' => e = .returned (.string (digB n)) ∧ w' = w:=by
 have hc:=x_itoa_in n h0 h1 w
 generalize digB n = d at hc ⊢
 go_enter Tryd.func33,Tryd.ntmps33
 go_wp2_with (go_at_call 56;refine hc.mono ?_;rintro e w' ⟨rfl,rfl⟩)
 go_ret
 try exact ⟨rfl,rfl⟩

-- LIB itoa
theorem dig_size (n : Int) (h0 : 0 ≤ n) (h1 : n < 100) : (digB n).size ≤ 2:=by
 obtain ⟨k,hk⟩ : ∃ k : Nat,n = (k : Int):=⟨n.toNat,by omega⟩
 subst hk
 unfold digB
 rw [Int.toNat_natCast]
 show (Lib.decDigits k).toArray.size ≤ 2
 rw [List.size_toArray]
 unfold Lib.decDigits
 split
 ·simp
 ·unfold Lib.decDigits
  rw [dif_pos (by omega)]
  simp

-- LIB nettext
def headB (n : Int) : ByteArray:=((⟨#[98,114,105,100,103,101,115,32]⟩ : ByteArray) ++ digB n) ++ (⟨#[10]⟩ : ByteArray)

-- LIB nettext
def cabLn (a b c : Int) : ByteArray:=((((((⟨#[99,97,98,108,101,32]⟩ : ByteArray) ++ digB a) ++ (⟨#[32]⟩ : ByteArray)) ++ digB b) ++ (⟨#[32]⟩ : ByteArray)) ++ digB c) ++ (⟨#[10]⟩ : ByteArray)

-- LIB nettext
def staLn (h v : Int) : ByteArray:=((((⟨#[115,116,97,116,105,111,110,32]⟩ : ByteArray) ++ digB h) ++ (⟨#[32]⟩ : ByteArray)) ++ digB v) ++ (⟨#[10]⟩ : ByteArray)

-- LIB nettext
def cabT (cs : List S71) : List UInt8:=cs.flatMap fun c => (cabLn c.f0 c.f1 c.f2).data.toList

-- LIB nettext
def staT (hv : List (Int × Int)) : List UInt8:=hv.flatMap fun p => (staLn p.1 p.2).data.toList

-- LIB nettext
def netT (n : Int) (cs : List S71) (hs vs : List Int) : List UInt8:=((headB n).data.toList ++ cabT cs) ++ staT (hs.zip vs)

-- LIB nettext
theorem cabT_take (cs : List S71) (i : Nat) (h : i < cs.length) : cabT (cs.take (i + 1)) = cabT (cs.take i) ++ (cabLn cs[i].f0 cs[i].f1 cs[i].f2).data.toList:=by
 unfold cabT
 rw [List.take_succ_eq_append_getElem h,List.flatMap_append]
 simp

-- LIB nettext
theorem staT_take (hs vs : List Int) (i : Nat) (h : i < hs.length) (h2 : vs.length = hs.length) : staT ((hs.zip vs).take (i + 1)) = staT ((hs.zip vs).take i) ++ (staLn hs[i] vs[i]).data.toList:=by
 have hz : i < (hs.zip vs).length:=by rw [List.length_zip];omega
 unfold staT
 rw [List.take_succ_eq_append_getElem hz,List.flatMap_append]
 simp

-- LIB nettext
theorem flatMap_le {α : Type} (f : α → List UInt8) (m : Nat) (l : List α) (h : ∀ x ∈ l,(f x).length ≤ m) : (l.flatMap f).length ≤ m * l.length:=by
 induction l with
 | nil => simp
 | cons x xs ih =>
  rw [List.flatMap_cons,List.length_append,List.length_cons,Nat.mul_add]
  have h1:=h x List.mem_cons_self
  have h2:=ih fun y hy => h y (List.mem_cons_of_mem _ hy)
  omega

-- LIB nettext
theorem head_size (n : Int) (h0 : 0 ≤ n) (h1 : n < 100) : (headB n).size ≤ 30:=by
 have:=dig_size n h0 h1
 unfold headB
 simp only [ByteArray.size_append]
 show 8 + (digB n).size + 1 ≤ 30
 omega

-- LIB nettext
theorem cab_size (a b c : Int) (ha : 0 ≤ a) (ha1 : a < 100) (hb : 0 ≤ b) (hb1 : b < 100) (hc : 0 ≤ c) (hc1 : c < 100) : (cabLn a b c).size ≤ 30:=by
 have h1:=dig_size a ha ha1
 have h2:=dig_size b hb hb1
 have h3:=dig_size c hc hc1
 unfold cabLn
 simp only [ByteArray.size_append]
 show 6 + (digB a).size + 1 + (digB b).size + 1 + (digB c).size + 1 ≤ 30
 omega

-- LIB nettext
theorem sta_size (a b : Int) (ha : 0 ≤ a) (ha1 : a < 100) (hb : 0 ≤ b) (hb1 : b < 100) : (staLn a b).size ≤ 30:=by
 have h1:=dig_size a ha ha1
 have h2:=dig_size b hb hb1
 unfold staLn
 simp only [ByteArray.size_append]
 show 8 + (digB a).size + 1 + (digB b).size + 1 ≤ 30
 omega

-- LIB nettext
theorem fresh_build (w : World) : Lib.IsBuilderF 64 5 w.heap.size w.heap.size (Lib.byteCells []) (w.alloc (.cells #[.pointer none,.slice none 0 0] 64)) :=
 Lib.IsBuilderF.of (Lib.fresh_isBuilder _ _ w)

-- LIB nettext
theorem x_write (B b : Nat) (l : List UInt8) (s : ByteArray) (w : World) (h : Lib.IsBuilderF 64 5 B b (Lib.byteCells l) w) (hlen : l.length + s.size ≤ 140737488355328) (hBw : B ≤ w.heap.size) :
  Calls Tryd.prog 32 #[.pointer (some ⟨b,0,none⟩),.string s] w fun e w' => e = .returned (.tuple #[.int .i64 s.size,.nilIface]) ∧ Lib.IsBuilderF 64 5 B b (Lib.byteCells (l ++ s.data.toList)) w' ∧ Below B w w' ∧ Lib.OthersKept 5 (some b) w w':=by
 refine (Any.Builder_WriteString_k Tryd.lays166 Tryd.x166 B b (Lib.byteCells l) s w h (by rw [Lib.byteCells_length];exact hlen) hBw).mono ?_
 rintro e w' ⟨rfl,h1,h2,h3⟩
 refine ⟨rfl,?_,h2,h3⟩
 rw [Lib.byteCells_append]
 exact .inr h1

-- LIB nettext
theorem x_string (B b : Nat) (l : List UInt8) (w : World) (h : Lib.IsBuilderF 64 5 B b (Lib.byteCells l) w) (hBw : B ≤ w.heap.size) :
  Calls Tryd.prog 34 #[.pointer (some ⟨b,0,none⟩)] w fun e w' => e = .returned (.string ⟨l.toArray⟩) ∧ Below B w w' :=
 (Any.Builder_String_any_k Tryd.lays169 Tryd.x166 B b l w h hBw).mono fun e w' ⟨he,_,h2,_⟩ => ⟨he,h2⟩

-- LIB netwalk
theorem rdInt_nt (l : List Int) (i : Nat) (h : i < l.length) : rd l (i : Int) = l[i]:=by simp [rd,List.getD_eq_getElem?_getD,h]

-- LIB netwalk
theorem x_keptc {b gc : Nat} {w w' : World} {cs : Array Value} (hk : Lib.OthersKept 5 (some b) w.drew w') (h : w.heap[gc]? = some (.cells cs 71)) (hne : b < gc) : w'.heap[gc]? = some (.cells cs 71):=by
 refine hk gc _ h (fun e => ?_) (fun c fz e => ?_)
 ·injection e with e
  omega
 ·injection e with _ e2 _
  exact absurd e2 (by decide)

-- LIB netwalk
theorem below_drewt {B : Nat} {w w1 w2 : World} (h : Below B w w1) (h2 : Below B w1.drew w2) : Below B w w2:=(below_drew1 h).trans h2

-- LIB netwalk
set_option maxHeartbeats 8000000 in
set_option maxRecDepth 100000 in
theorem x_NetText (a0_0 : Int) (A0_1 : Option Addr) (c0_1 : Nat) (l0_1 : List (S71)) (A0_2 : Option Addr) (c0_2 : Nat) (l0_2 : List Int) (A0_3 : Option Addr) (c0_3 : Nat) (l0_3 : List Int) (w : World) (hr0_1 : Kd.C k71 w A0_1 l0_1.length l0_1) (hc0_1 : l0_1.length ≤ c0_1) (hr0_2 : Kd.C (Kd.int .i64) w A0_2 l0_2.length l0_2) (hc0_2 : l0_2.length ≤ c0_2) (hr0_3 : Kd.C (Kd.int .i64) w A0_3 l0_3.length l0_3) (hc0_3 : l0_3.length ≤ c0_3)
  (hN0 : 0 ≤ a0_0) (hN1 : a0_0 < 100) (hL : l0_1.length ≤ 20) (hcs : ∀ x ∈ l0_1,0 ≤ x.f0 ∧ x.f0 < 100 ∧ 0 ≤ x.f1 ∧ x.f1 < 100 ∧ 0 ≤ x.f2 ∧ x.f2 < 100) (hH : l0_2.length ≤ 15) (hV : l0_3.length = l0_2.length) (hhs : ∀ x ∈ l0_2,0 ≤ x ∧ x < 100) (hvs : ∀ x ∈ l0_3,0 ≤ x ∧ x < 100) (hv : impl_NetValid.f a0_0 l0_1 l0_2 l0_3 = some true) :
  Calls Tryd.prog 9 #[.agg #[.int .i64 a0_0,.slice A0_1 l0_1.length c0_1,.slice A0_2 l0_2.length c0_2,.slice A0_3 l0_3.length c0_3]] w fun e w' => e = .returned (.string ⟨(netT a0_0 l0_1 l0_2 l0_3).toArray⟩) ∧ Below w.heap.size w w':=by
 have hb0 : Below w.heap.size w (w.alloc (.cells #[.int .i64 a0_0,.slice A0_1 l0_1.length c0_1,.slice A0_2 l0_2.length c0_2,.slice A0_3 l0_3.length c0_3] 25)):=(Below.refl _ w).alloc (Nat.le_refl _) _
 have hn0:=blk_new w (.cells #[.int .i64 a0_0,.slice A0_1 l0_1.length c0_1,.slice A0_2 l0_2.length c0_2,.slice A0_3 l0_3.length c0_3] 25)
 have hnv:=impl_NetValid.calls a0_0 A0_1 c0_1 l0_1 A0_2 c0_2 l0_2 A0_3 c0_3 l0_3 true (w.alloc (.cells #[.int .i64 a0_0,.slice A0_1 l0_1.length c0_1,.slice A0_2 l0_2.length c0_2,.slice A0_3 l0_3.length c0_3] 25)) (Kd.C_below hr0_1 hb0) hc0_1 (Kd.C_below hr0_2 hb0) hc0_2 (Kd.C_below hr0_3 hb0) hc0_3 hv
 have HR1:=Aside0.mk hr0_1
 have HR2:=Aside0.mk hr0_2
 have HR3:=Aside0.mk hr0_3
 have HB0:=Aside0.mk hb0
 have HN:=Aside0.mk hn0
 have HC:=Aside0.mk hcs
 have HH:=Aside0.mk hhs
 have HV:=Aside0.mk hvs
 have HE:=Aside0.mk hV
 clear hr0_1 hc0_1 hr0_2 hc0_2 hr0_3 hc0_3 hb0 hn0 hcs hhs hvs hv hV
 have HZ0:=Aside0.mk (head_size a0_0 hN0 hN1)
 have hz0:=dig_size a0_0 hN0 hN1
 have hi0:=x_itoa a0_0 hN0 hN1
 have HD0 : Aside0 (headB a0_0 = ((⟨#[98,114,105,100,103,101,115,32]⟩ : ByteArray) ++ digB a0_0) ++ (⟨#[10]⟩ : ByteArray)):=⟨rfl⟩
 generalize digB a0_0 = d0 at *
 have hu:=Tryd.underlying25
 go_enter Tryd.func9,Tryd.ntmps9
 go_wp2_with fail
 refine hnv.mono ?_
 rintro e w1 ⟨rfl,hb1⟩
 have HN1:=Aside0.mk (blk_below HN.out hb1)
 have g0 : (w1.alloc (.cells #[.pointer none,.slice none 0 0] 64)).cell? ⟨w.heap.size,0,none⟩ = some (.int .i64 a0_0):=(blk_cell (blk_alloc HN1.out _) 0).trans rfl
 have HF1:=Aside0.mk (fresh_build w1)
 have HB1:=Aside0.mk (below_step HB0.out hb1)
 clear hb1 hnv
 have q1 : (9223372036854775807 < 8 + d0.size) = False:=eq_false (by omega)
 have q2 : (9223372036854775807 < 8 + d0.size + 1) = False:=eq_false (by omega)
 have hw0:=x_write w1.heap.size w1.heap.size [] (headB a0_0) _ HF1.out (by have:=HZ0.out;simp only [List.length_nil];omega) (by simp)
 rw [HD0.out] at hw0
 have HM : Aside0 (netT a0_0 l0_1 l0_2 l0_3 = (([] ++ (headB a0_0).data.toList) ++ cabT l0_1) ++ staT (l0_2.zip l0_3)):=⟨by rw [List.nil_append];rfl⟩
 rw [HD0.out] at HM
 have HT : Aside0 (([] ++ (((⟨#[98,114,105,100,103,101,115,32]⟩ : ByteArray) ++ d0) ++ (⟨#[10]⟩ : ByteArray)).data.toList).length ≤ 30):=⟨by have:=HZ0.out;rw [HD0.out] at this;rw [List.nil_append,Array.length_toList];exact this⟩
 generalize [] ++ (((⟨#[98,114,105,100,103,101,115,32]⟩ : ByteArray) ++ d0) ++ (⟨#[10]⟩ : ByteArray)).data.toList = T0 at hw0 HM HT
 clear HF1 HD0
 go_wp2_with (first | (go_at_call 33;refine (hi0 _).mono ?_;rintro e w' ⟨rfl,rfl⟩) | (go_at_call 32;refine hw0.mono ?_;rintro e w2 ⟨rfl,hI2,hb2,_⟩;have HB2:=Aside0.mk ((below_alloc (Below.refl w1.heap.size w1) _).trans hb2);have k1 : w2.cell? ⟨w.heap.size,1,none⟩ = some (.slice A0_1 l0_1.length c0_1):=(blk_cell (blk_below HN1.out HB2.out) 1).trans rfl;clear hb2;have HI2:=Aside0.mk hI2;clear hI2))
 have HSZ : Aside0 (w.heap.size ≤ w1.heap.size):=⟨HB1.out.size⟩
 clear hw0 hi0 hz0 g0 q1 q2 k1
 go_loopg [5,20] l0_1.length (fun gg _ s20 wr => ∃ jj : Nat,jj ≤ l0_1.length ∧ l0_1.length - jj ≤ gg ∧ s20 = .int .i64 jj ∧ Aside0 (Lib.IsBuilderF 64 5 w1.heap.size w1.heap.size (Lib.byteCells (T0 ++ cabT (l0_1.take jj))) wr) ∧ Aside0 (Below w1.heap.size w1 wr))
 case atStart => exact ⟨0,Nat.zero_le _,by omega,rfl,⟨by simpa [cabT] using HI2.out⟩,HB2⟩
 case round =>
  clear HI2 HB2
  obtain ⟨jj,hjj,hgg,rfl,HO,BW⟩:=hrel
  by_cases hlt : jj < l0_1.length
  ·obtain ⟨ad,e,hx0,hx1,hx2⟩:=at_T71 (Kd.C_below HR1.out (below_step HB1.out BW.out)) (jj : Int) (by omega) (by omega)
   cases e
   rw [Int.toNat_natCast] at hx0 hx1 hx2
   rw [rdCab_get l0_1 jj hlt] at hx0 hx1 hx2
   obtain ⟨g1,g2,g3,g4,g5,g6⟩:=HC.out l0_1[jj] (List.getElem_mem hlt)
   have HX : Aside0 (cabT (l0_1.take (jj + 1)) = cabT (l0_1.take jj) ++ (cabLn l0_1[jj].f0 l0_1[jj].f1 l0_1[jj].f2).data.toList):=⟨cabT_take l0_1 jj hlt⟩
   have HL : Aside0 ((cabT (l0_1.take jj)).length ≤ 600):=⟨by
    have:=flatMap_le (fun c : S71 => (cabLn c.f0 c.f1 c.f2).data.toList) 30 (l0_1.take jj) (fun x hx => by
     obtain ⟨a1,a2,a3,a4,a5,a6⟩:=HC.out x (List.mem_of_mem_take hx)
     exact cab_size _ _ _ a1 a2 a3 a4 a5 a6)
    have hl : (l0_1.take jj).length ≤ 20:=by rw [List.length_take];omega
    unfold cabT
    omega⟩
   generalize l0_1[jj] = cc at hx0 hx1 hx2 g1 g2 g3 g4 g5 g6 HX
   obtain ⟨A,B,C⟩:=cc
   simp only [] at hx0 hx1 hx2 g1 g2 g3 g4 g5 g6 HX
   generalize cabT (l0_1.take jj) = T1 at HO HX HL
   have p1 : ((jj : Int) < (l0_1.length : Int)) = True:=eq_true (by omega)
   have hsz : w1.heap.size ≤ wr.heap.size:=BW.out.size
   have hgb : w1.heap.size < wr.heap.size:=HO.out.elim (fun h => h.lt) (fun h => h.lt)
   go_wp2_with fail
   have HIa:=Aside0.mk (Lib.IsBuilderF.alloc HO.out (.cells #[.int .i64 A,.int .i64 B,.int .i64 C] 71))
   have HBa:=Aside0.mk (below_alloc BW.out (.cells #[.int .i64 A,.int .i64 B,.int .i64 C] 71))
   have HNa:=blk_new wr (.cells #[.int .i64 A,.int .i64 B,.int .i64 C] 71)
   have HSW : Aside0 (w1.heap.size ≤ (wr.alloc (.cells #[.int .i64 A,.int .i64 B,.int .i64 C] 71)).heap.size):=⟨HBa.out.size⟩
   clear hx0 hx1 hx2 HO BW hsz
   generalize wr.alloc (.cells #[.int .i64 A,.int .i64 B,.int .i64 C] 71) = W1 at HIa HBa HNa HSW ⊢
   generalize wr.heap.size = gc at HNa hgb ⊢
   have k0 : W1.cell? ⟨gc,0,none⟩ = some (.int .i64 A):=(blk_cell HNa 0).trans rfl
   have k1 : W1.cell? ⟨gc,1,none⟩ = some (.int .i64 B):=(blk_cell HNa 1).trans rfl
   have k2 : W1.cell? ⟨gc,2,none⟩ = some (.int .i64 C):=(blk_cell HNa 2).trans rfl
   have hiA:=x_itoa A g1 g2
   have hiB:=x_itoa B g3 g4
   have hiC:=x_itoa C g5 g6
   have zA:=dig_size A g1 g2
   have zB:=dig_size B g3 g4
   have zC:=dig_size C g5 g6
   have HCL : Aside0 (cabLn A B C = ((((((⟨#[99,97,98,108,101,32]⟩ : ByteArray) ++ digB A) ++ (⟨#[32]⟩ : ByteArray)) ++ digB B) ++ (⟨#[32]⟩ : ByteArray)) ++ digB C) ++ (⟨#[10]⟩ : ByteArray)):=⟨rfl⟩
   have HZC:=Aside0.mk (cab_size A B C g1 g2 g3 g4 g5 g6)
   rw [HCL.out] at HX HZC
   clear HCL
   generalize digB A = dA at *
   generalize digB B = dB at *
   generalize digB C = dC at *
   have q1 : (9223372036854775807 < 6 + dA.size) = False:=eq_false (by omega)
   have q2 : (9223372036854775807 < 6 + dA.size + 1) = False:=eq_false (by omega)
   have q3 : (9223372036854775807 < 6 + dA.size + 1 + dB.size) = False:=eq_false (by omega)
   have q4 : (9223372036854775807 < 6 + dA.size + 1 + dB.size + 1) = False:=eq_false (by omega)
   have q5 : (9223372036854775807 < 6 + dA.size + 1 + dB.size + 1 + dC.size) = False:=eq_false (by omega)
   have q6 : (9223372036854775807 < 6 + dA.size + 1 + dB.size + 1 + dC.size + 1) = False:=eq_false (by omega)
   have HNA:=Aside0.mk HNa
   have hwr:=x_write w1.heap.size w1.heap.size (T0 ++ T1) (((((((⟨#[99,97,98,108,101,32]⟩ : ByteArray) ++ dA) ++ (⟨#[32]⟩ : ByteArray)) ++ dB) ++ (⟨#[32]⟩ : ByteArray)) ++ dC) ++ (⟨#[10]⟩ : ByteArray)) W1.drew HIa.out (by have:=HZC.out;have:=HT.out;have:=HL.out;rw [List.length_append];omega) HSW.out
   clear HNa g1 g2 g3 g4 g5 g6
   go_region_held3 (fun w' => w'.cell? ⟨gc,0,none⟩ = some (.int .i64 A) ∧ w'.cell? ⟨gc,1,none⟩ = some (.int .i64 B) ∧ w'.cell? ⟨gc,2,none⟩ = some (.int .i64 C)) (go_keep)
    (first
     | (go_at_call_of 33 (Value.int IntKind.i64 A);refine (hiA _).mono ?_;rintro e w' ⟨rfl,rfl⟩)
     | (go_at_call_of 33 (Value.int IntKind.i64 B);refine (hiB _).mono ?_;rintro e w' ⟨rfl,rfl⟩)
     | (go_at_call_of 33 (Value.int IntKind.i64 C);refine (hiC _).mono ?_;rintro e w' ⟨rfl,rfl⟩)
     | (go_at_call 32;refine hwr.mono ?_;rintro e w3 ⟨rfl,hI3,hb3,hk3⟩;have HI3:=Aside0.mk hI3;have HB3:=Aside0.mk (below_drewt HBa.out hb3);have hn3:=x_keptc hk3 HNA.out hgb;have m0 : w3.cell? ⟨gc,0,none⟩ = some (.int .i64 A):=(blk_cell hn3 0).trans rfl;have m1 : w3.cell? ⟨gc,1,none⟩ = some (.int .i64 B):=(blk_cell hn3 1).trans rfl;have m2 : w3.cell? ⟨gc,2,none⟩ = some (.int .i64 C):=(blk_cell hn3 2).trans rfl;clear hI3 hb3 hk3 hn3))
   rw [List.append_assoc,← HX.out] at HI3
   go_wp2
   go_roundg (l0_1.length - (jj + 1))
   case measure => omega
   case rel => exact ⟨jj + 1,by omega,by omega,by go_num,HI3,HB3⟩
  ·have e : jj = l0_1.length:=by omega
   subst e
   rw [List.take_length] at HO
   have HL : Aside0 ((cabT l0_1).length ≤ 600):=⟨by
    have:=flatMap_le (fun c : S71 => (cabLn c.f0 c.f1 c.f2).data.toList) 30 l0_1 (fun x hx => by
     obtain ⟨a1,a2,a3,a4,a5,a6⟩:=HC.out x hx
     exact cab_size _ _ _ a1 a2 a3 a4 a5 a6)
    unfold cabT
    omega⟩
   have HT2 : Aside0 ((T0 ++ cabT l0_1).length ≤ 630):=⟨by have:=HL.out;have:=HT.out;rw [List.length_append];omega⟩
   generalize T0 ++ cabT l0_1 = T1 at HO HM HT2
   have k2 : wr.cell? ⟨w.heap.size,2,none⟩ = some (.slice A0_2 l0_2.length c0_2):=(blk_cell (blk_below HN1.out BW.out) 2).trans rfl
   clear HL HT hgg hjj hlt
   go_wp2_with fail
   obtain ⟨wo,HO9,HB9⟩ : ∃ wo : World,Aside0 (wo = wr) ∧ Aside0 (wo = wr):=⟨wr,⟨rfl⟩,⟨rfl⟩⟩
   clear HO9 HB9 k2
   go_loopg [6,7,44] l0_2.length (fun gg _ _ s44 wr => ∃ jj : Nat,jj ≤ l0_2.length ∧ l0_2.length - jj ≤ gg ∧ s44 = .int .i64 jj ∧ Aside0 (Lib.IsBuilderF 64 5 w1.heap.size w1.heap.size (Lib.byteCells (T1 ++ staT ((l0_2.zip l0_3).take jj))) wr) ∧ Aside0 (Below w1.heap.size w1 wr))
   case atStart => exact ⟨0,Nat.zero_le _,by omega,rfl,⟨by simpa [staT] using HO.out⟩,BW⟩
   case round =>
    clear HO BW
    obtain ⟨jj,hjj,hgg,rfl,HO,BW⟩:=hrel
    by_cases hlt : jj < l0_2.length
    ·have hlt3 : jj < l0_3.length:=by have:=HE.out;omega
     obtain ⟨ad,e,hx⟩:=Kd.at_int (Kd.C_below HR2.out (below_step HB1.out BW.out)) (jj : Int) (by omega) (by omega)
     cases e
     obtain ⟨ad3,e,hy⟩:=Kd.at_int (Kd.C_below HR3.out HB1.out) (jj : Int) (by omega) (by omega)
     cases e
     rw [Int.toNat_natCast,rdInt_nt _ jj hlt] at hx
     rw [Int.toNat_natCast,rdInt_nt _ jj hlt3] at hy
     obtain ⟨g1,g2⟩:=HH.out l0_2[jj] (List.getElem_mem hlt)
     obtain ⟨g3,g4⟩:=HV.out l0_3[jj] (List.getElem_mem hlt3)
     have HX : Aside0 (staT ((l0_2.zip l0_3).take (jj + 1)) = staT ((l0_2.zip l0_3).take jj) ++ (staLn l0_2[jj] l0_3[jj]).data.toList):=⟨staT_take l0_2 l0_3 jj hlt HE.out⟩
     have HL : Aside0 ((staT ((l0_2.zip l0_3).take jj)).length ≤ 600):=⟨by
      have:=flatMap_le (fun p : Int × Int => (staLn p.1 p.2).data.toList) 30 ((l0_2.zip l0_3).take jj) (fun x hx => by
       have hm:=List.mem_of_mem_take hx
       obtain ⟨a1,a2⟩:=HH.out x.1 (List.of_mem_zip hm).1
       obtain ⟨a3,a4⟩:=HV.out x.2 (List.of_mem_zip hm).2
       exact sta_size _ _ a1 a2 a3 a4)
      have hl : ((l0_2.zip l0_3).take jj).length ≤ 15:=by rw [List.length_take];omega
      unfold staT
      omega⟩
     generalize l0_2[jj] = A at hx g1 g2 HX
     generalize l0_3[jj] = B at hy g3 g4 HX
     generalize staT ((l0_2.zip l0_3).take jj) = T2 at HO HX HL
     have p1 : ((jj : Int) < (l0_2.length : Int)) = True:=eq_true (by omega)
     have p2 : ((jj : Int) < (l0_3.length : Int)) = True:=eq_true (by omega)
     have p3 : (jj < l0_3.length) = True:=eq_true hlt3
     have k3 : wr.cell? ⟨w.heap.size,3,none⟩ = some (.slice (some ad3) l0_3.length c0_3):=(blk_cell (blk_below HN1.out BW.out) 3).trans rfl
     have hy2 : wr.cell? (ad3.add jj) = some (.int .i64 B):=(BW.out.cell (World.block_lt_of_cell? w1 _ hy)).trans hy
     have HY:=Aside0.mk hy
     have hiA:=x_itoa A g1 g2
     have hiB:=x_itoa B g3 g4
     have zA:=dig_size A g1 g2
     have zB:=dig_size B g3 g4
     have HCL : Aside0 (staLn A B = ((((⟨#[115,116,97,116,105,111,110,32]⟩ : ByteArray) ++ digB A) ++ (⟨#[32]⟩ : ByteArray)) ++ digB B) ++ (⟨#[10]⟩ : ByteArray)):=⟨rfl⟩
     have HZC:=Aside0.mk (sta_size A B g1 g2 g3 g4)
     rw [HCL.out] at HX HZC
     clear HCL
     generalize digB A = dA at *
     generalize digB B = dB at *
     have q1 : (9223372036854775807 < 8 + dA.size) = False:=eq_false (by omega)
     have q2 : (9223372036854775807 < 8 + dA.size + 1) = False:=eq_false (by omega)
     have q3 : (9223372036854775807 < 8 + dA.size + 1 + dB.size) = False:=eq_false (by omega)
     have q4 : (9223372036854775807 < 8 + dA.size + 1 + dB.size + 1) = False:=eq_false (by omega)
     have hwr:=x_write w1.heap.size w1.heap.size (T1 ++ T2) (((((⟨#[115,116,97,116,105,111,110,32]⟩ : ByteArray) ++ dA) ++ (⟨#[32]⟩ : ByteArray)) ++ dB) ++ (⟨#[10]⟩ : ByteArray)) wr.drew HO.out (by have:=HZC.out;have:=HT2.out;have:=HL.out;rw [List.length_append];omega) BW.out.size
     clear g1 g2 g3 g4 hy
     go_wp2_with fail
     go_region_held3 (fun w' => w'.cell? ⟨w.heap.size,3,none⟩ = some (.slice (some ad3) l0_3.length c0_3) ∧ w'.cell? (ad3.add jj) = some (.int .i64 B)) (go_keep)
      (first
       | (go_at_call_of 33 (Value.int IntKind.i64 A);refine (hiA _).mono ?_;rintro e w' ⟨rfl,rfl⟩)
       | (go_at_call_of 33 (Value.int IntKind.i64 B);refine (hiB _).mono ?_;rintro e w' ⟨rfl,rfl⟩)
       | (go_at_call 32;refine hwr.mono ?_;rintro e w3 ⟨rfl,hI3,hb3,_⟩;have HI3:=Aside0.mk hI3;have HB3:=Aside0.mk (below_drewt BW.out hb3);have m0 : w3.cell? ⟨w.heap.size,3,none⟩ = some (.slice (some ad3) l0_3.length c0_3):=(blk_cell (blk_below HN1.out HB3.out) 3).trans rfl;have m1 : w3.cell? (ad3.add jj) = some (.int .i64 B):=(HB3.out.cell (World.block_lt_of_cell? w1 _ HY.out)).trans HY.out;clear hI3 hb3))
     rw [List.append_assoc,← HX.out] at HI3
     go_wp2
     go_roundg (l0_2.length - (jj + 1))
     case measure => omega
     case rel => exact ⟨jj + 1,by omega,by omega,by go_num,HI3,HB3⟩
    ·have e : jj = l0_2.length:=by omega
     subst e
     have hz : (l0_2.zip l0_3).take l0_2.length = l0_2.zip l0_3:=List.take_of_length_le (by rw [List.length_zip];omega)
     rw [hz,← HM.out] at HO
     have hs:=x_string w1.heap.size w1.heap.size _ wr HO.out BW.out.size
     go_wp2_with (go_at_call 34;refine hs.mono ?_;rintro e w4 ⟨rfl,hb4⟩)
     go_ret
     exact ⟨rfl,below_step HB1.out (BW.out.trans hb4)⟩

-- LIB netwalk
set_option maxHeartbeats 8000000 in
set_option maxRecDepth 100000 in
theorem x_NetText_no (a0_0 : Int) (A0_1 : Option Addr) (c0_1 : Nat) (l0_1 : List (S71)) (A0_2 : Option Addr) (c0_2 : Nat) (l0_2 : List Int) (A0_3 : Option Addr) (c0_3 : Nat) (l0_3 : List Int) (w : World) (hr0_1 : Kd.C k71 w A0_1 l0_1.length l0_1) (hc0_1 : l0_1.length ≤ c0_1) (hr0_2 : Kd.C (Kd.int .i64) w A0_2 l0_2.length l0_2) (hc0_2 : l0_2.length ≤ c0_2) (hr0_3 : Kd.C (Kd.int .i64) w A0_3 l0_3.length l0_3) (hc0_3 : l0_3.length ≤ c0_3)
  (hv : impl_NetValid.f a0_0 l0_1 l0_2 l0_3 = some false) :
  Calls Tryd.prog 9 #[.agg #[.int .i64 a0_0,.slice A0_1 l0_1.length c0_1,.slice A0_2 l0_2.length c0_2,.slice A0_3 l0_3.length c0_3]] w fun e w' => e = .returned (.string ⟨#[]⟩) ∧ Below w.heap.size w w':=by
 have hb0 : Below w.heap.size w (w.alloc (.cells #[.int .i64 a0_0,.slice A0_1 l0_1.length c0_1,.slice A0_2 l0_2.length c0_2,.slice A0_3 l0_3.length c0_3] 25)):=(Below.refl _ w).alloc (Nat.le_refl _) _
 have hnv:=impl_NetValid.calls a0_0 A0_1 c0_1 l0_1 A0_2 c0_2 l0_2 A0_3 c0_3 l0_3 false (w.alloc (.cells #[.int .i64 a0_0,.slice A0_1 l0_1.length c0_1,.slice A0_2 l0_2.length c0_2,.slice A0_3 l0_3.length c0_3] 25)) (Kd.C_below hr0_1 hb0) hc0_1 (Kd.C_below hr0_2 hb0) hc0_2 (Kd.C_below hr0_3 hb0) hc0_3 hv
 have HB0:=Aside0.mk hb0
 clear hr0_1 hc0_1 hr0_2 hc0_2 hr0_3 hc0_3 hb0 hv
 have hu:=Tryd.underlying25
 go_enter Tryd.func9,Tryd.ntmps9
 go_wp2_with fail
 refine hnv.mono ?_
 rintro e w1 ⟨rfl,hb1⟩
 have HB1:=Aside0.mk (below_step HB0.out hb1)
 clear hb1 hnv
 go_wp2_with fail
 go_ret
 exact ⟨rfl,HB1.out⟩

/-! ### impl_NetText: function 9 (by hand) -/
def impl_NetText.f (a0_0 : Int) (l0_1 : List (S71)) (l0_2 : List Int) (l0_3 : List Int) : Option (ByteArray) :=
 if netB a0_0 l0_1 l0_2 l0_3 = true then some ⟨(netT a0_0 l0_1 l0_2 l0_3).toArray⟩ else some ⟨#[]⟩
set_option maxHeartbeats 4000000 in
set_option maxRecDepth 100000 in
theorem impl_NetText.calls (a0_0 : Int) (A0_1 : Option Addr) (c0_1 : Nat) (l0_1 : List (S71)) (A0_2 : Option Addr) (c0_2 : Nat) (l0_2 : List Int) (A0_3 : Option Addr) (c0_3 : Nat) (l0_3 : List Int) (r : ByteArray) (w : World) (hr0_1 : Kd.C k71 w A0_1 l0_1.length l0_1) (hc0_1 : l0_1.length ≤ c0_1) (hr0_2 : Kd.C (Kd.int .i64) w A0_2 l0_2.length l0_2) (hc0_2 : l0_2.length ≤ c0_2) (hr0_3 : Kd.C (Kd.int .i64) w A0_3 l0_3.length l0_3) (hc0_3 : l0_3.length ≤ c0_3) (h : impl_NetText.f a0_0 l0_1 l0_2 l0_3 = some r) :
  Calls Tryd.prog 9 #[.agg #[.int .i64 a0_0,.slice A0_1 l0_1.length c0_1,.slice A0_2 l0_2.length c0_2,.slice A0_3 l0_3.length c0_3]] w fun e w' => e = .returned (.string r) ∧ Below w.heap.size w w':=by
 unfold impl_NetText.f at h
 cases hv : netB a0_0 l0_1 l0_2 l0_3 with
 | false => 
  rw [hv,if_neg (by decide)] at h
  obtain rfl:=Option.some.inj h
  exact x_NetText_no a0_0 A0_1 c0_1 l0_1 A0_2 c0_2 l0_2 A0_3 c0_3 l0_3 w hr0_1 hc0_1 hr0_2 hc0_2 hr0_3 hc0_3 (by show some _ = some _;rw [hv])
 | true =>
  rw [hv,if_pos rfl] at h
  obtain rfl:=Option.some.inj h
  have hb:=hv
  unfold netB at hb
  simp only [Bool.and_eq_true,decide_eq_true_eq,List.all_eq_true] at hb
  obtain ⟨hcv,hl2,hl3,hh,hw⟩:=hb
  obtain ⟨f1,f2,f3,f4⟩:=cabsB_facts hcv
  refine x_NetText a0_0 A0_1 c0_1 l0_1 A0_2 c0_2 l0_2 A0_3 c0_3 l0_3 w hr0_1 hc0_1 hr0_2 hc0_2 hr0_3 hc0_3 (by omega) (by omega) f3 (fun x hx => by have:=f4 x hx;omega) hl2 hl3 ?_ ?_ (by show some _ = some _;rw [hv])
  ·intro x hx
   have:=hh x hx
   unfold brB at this
   simp only [Bool.and_eq_true,decide_eq_true_eq] at this
   have e : wrap64 (a0_0 - 1) = a0_0 - 1:=by unfold wrap64;omega
   rw [e] at this
   omega
  ·intro x hx
   have:=hw x hx
   unfold vlB at this
   simp only [Bool.and_eq_true,decide_eq_true_eq] at this
   omega

/-! ### impl_MatesOf: function 10 (by hand) -/
def impl_MatesOf.f (k : Nat) (a0_0 : Int) (l0_1 : List (S71)) (l0_2 : List Int) (l0_3 : List Int) (a1 : Int) : Option (List Int) :=
 some (matesX a0_0 l0_1 l0_2 l0_3 a1)
theorem impl_MatesOf.mono : ∀ a0 a1 a2 a3 a4 k,LeO (impl_MatesOf.f k a0 a1 a2 a3 a4) (impl_MatesOf.f (k + 1) a0 a1 a2 a3 a4):=fun _ _ _ _ _ _ => LeO.refl _
set_option maxHeartbeats 4000000 in
set_option maxRecDepth 100000 in
theorem impl_MatesOf.calls (k : Nat) (a0_0 : Int) (A0_1 : Option Addr) (c0_1 : Nat) (l0_1 : List (S71)) (A0_2 : Option Addr) (c0_2 : Nat) (l0_2 : List Int) (A0_3 : Option Addr) (c0_3 : Nat) (l0_3 : List Int) (a1 : Int) (r : List Int) (w : World) (hr0_1 : Kd.C k71 w A0_1 l0_1.length l0_1) (hc0_1 : l0_1.length ≤ c0_1) (hr0_2 : Kd.C (Kd.int .i64) w A0_2 l0_2.length l0_2) (hc0_2 : l0_2.length ≤ c0_2) (hr0_3 : Kd.C (Kd.int .i64) w A0_3 l0_3.length l0_3) (hc0_3 : l0_3.length ≤ c0_3) (h : impl_MatesOf.f k a0_0 l0_1 l0_2 l0_3 a1 = some r) :
  Calls Tryd.prog 10 #[.agg #[.int .i64 a0_0,.slice A0_1 l0_1.length c0_1,.slice A0_2 l0_2.length c0_2,.slice A0_3 l0_3.length c0_3],.int .i64 a1] w fun e w' => ∃ v0_ : Value,e = .returned (v0_) ∧ Kd.R (Kd.int .i64) 3 w' w.heap.size (fun _ => True) v0_ r ∧ Below w.heap.size w w':=by
 unfold impl_MatesOf.f at h
 obtain rfl:=Option.some.inj h
 clear h
 have hu:=Tryd.underlying25
 have hba:=ba_ (Below.refl w.heap.size w) (.cells #[.int .i64 a0_0,.slice A0_1 l0_1.length c0_1,.slice A0_2 l0_2.length c0_2,.slice A0_3 l0_3.length c0_3] 25)
 have HN:=mk_ (blk_new w (.cells #[.int .i64 a0_0,.slice A0_1 l0_1.length c0_1,.slice A0_2 l0_2.length c0_2,.slice A0_3 l0_3.length c0_3] 25))
 have HST:=mk_ (impl_Net_station.calls a0_0 A0_1 c0_1 l0_1 A0_2 c0_2 l0_2 A0_3 c0_3 l0_3 a1 _ _ (cb_ hr0_1 hba) hc0_1 (cb_ hr0_2 hba) hc0_2 (cb_ hr0_3 hba) hc0_3 (istation_eq a0_0 l0_1 l0_2 l0_3 a1))
 have HB:=mk_ hba
 have HR1:=mk_ hr0_1
 have HR2:=mk_ hr0_2
 have HR3:=mk_ hr0_3
 have hq1:=hc0_1
 clear hba hr0_1 hr0_2 hr0_3
 by_cases c : netB a0_0 l0_1 l0_2 l0_3 = true ∧ 0 ≤ a1 ∧ a1 < l0_2.length
 ·obtain ⟨q1,q2,q3,q4⟩:=netB_facts c.1
  have e : impl_rootsOf.f a0_0 l0_1 = some (rootsL a0_0.toNat l0_1):=by unfold impl_rootsOf.f;rw [if_pos q1]
  have HRO:=mk_ (fun W hC => impl_rootsOf.calls a0_0 A0_1 c0_1 l0_1 _ W hC hq1 e)
  have HM : Aside0 (matesX a0_0 l0_1 l0_2 l0_3 a1 = filM (mateB a0_0 l0_1 l0_2 l0_3 a1) l0_2.length 0):=⟨by unfold matesX;rw [if_pos c]⟩
  have HQ:=mk_ (And.intro q2 (And.intro q3 q4))
  rw [decide_eq_true c] at HST
  obtain ⟨_,ha0,ha1⟩:=c
  generalize matesX a0_0 l0_1 l0_2 l0_3 a1 = res at HM ⊢
  have hrl:=rootsL_len a0_0.toNat l0_1
  have hmb : ∀ o,mateB a0_0 l0_1 l0_2 l0_3 a1 o = (decide (o ≠ a1) && (decide (rd l0_3 o = rd l0_3 a1) && decide (rd (rootsL a0_0.toNat l0_1) (rd l0_2 o) = rd (rootsL a0_0.toNat l0_1) (rd l0_2 a1)))):=fun _ => rfl
  generalize rootsL a0_0.toNat l0_1 = rts at HRO hrl hmb
  generalize mateB a0_0 l0_1 l0_2 l0_3 a1 = pm at HM hmb
  have HMB:=mk_ hmb
  have HRL:=mk_ hrl
  clear q1 q2 q3 q4 e hmb hrl
  obtain ⟨m0,m1,m2,m3⟩:=mbx4 HN.out
  go_enter Tryd.func10,Tryd.ntmps10
  go_wp2_with fail
  refine HST.out.mono ?_
  rintro e w1 ⟨rfl,hb1⟩
  replace HN:=mk_ (blk_below HN.out hb1)
  replace HB:=mk_ (st_ HB.out hb1)
  clear hb1 m0 m1 m2 m3 HST
  obtain ⟨m0,m1,m2,m3⟩:=mbx4 HN.out
  go_wp2_with fail
  refine (HRO.out w1 (cb_ HR1.out HB.out)).mono ?_
  rintro e w2 ⟨v,rfl,h1,hb2⟩
  obtain ⟨T,tc,rfl⟩:=Kd.R_slice h1
  replace HN:=mk_ (blk_below HN.out hb2)
  have HT:=mk_ (rm_ (Kd.R_lower (Kd.R_bound h1) HB.out.size) (ok':=fun k => k < w2.heap.size) (fun k hk => hk.2.2.1))
  replace HB:=mk_ (st_ HB.out hb2)
  have HS:=mk_ (Nat.le_refl w2.heap.size)
  clear h1 hb2 m0 m1 m2 m3 HRO
  generalize hs_ : w2.heap.size = sz at HT
  rw [hs_] at HS
  have HSZ:=mk_ hs_
  clear hs_
  obtain ⟨m0,m1,m2,m3⟩:=mbx4 HN.out
  go_wp2_with fail
  go_loopg [6,21] l0_2.length (fun gg s6 s21 wr => ∃ (kk : Nat),kk ≤ l0_2.length ∧ l0_2.length - kk ≤ gg ∧ s21 = .int .i64 (kk : Int) ∧ sz ≤ wr.heap.size ∧ Aside0 (Kd.R (Kd.int .i64) 3 wr w.heap.size (fun k => sz ≤ k) s6 (filM pm kk 0)) ∧ Aside0 (Kd.R (Kd.int .i64) 3 wr w.heap.size (fun k => k < sz) (.slice T rts.length tc) rts) ∧ Aside0 (wr.heap[w.heap.size]? = some (.cells #[.int .i64 a0_0,.slice A0_1 l0_1.length c0_1,.slice A0_2 l0_2.length c0_2,.slice A0_3 l0_3.length c0_3] 25 (0,0))) ∧ Aside0 (Below w.heap.size w wr))
  case atStart => exact ⟨0,Nat.zero_le _,by omega,rfl,by have:=HSZ.out;omega,⟨Kd.R_nil _ _ _ _ _⟩,HT,HN,HB⟩
  case round =>
   clear HN HT HB m0 m1 m2 m3 HS HSZ
   obtain ⟨kk,hkk,hgg,rfl,hsz,HO,HT,HN,HB⟩:=hrel
   by_cases hlt : kk < l0_2.length
   ·have hq:=HQ.out
    obtain ⟨hq15,hq3,hq4⟩:=hq
    have x0:=hq4 _ (List.getElem_mem hlt)
    obtain ⟨S,rfl⟩:=Int.eq_ofNat_of_zero_le ha0
    have hS : S < l0_2.length:=by omega
    have x1:=hq4 _ (List.getElem_mem hS)
    have hrl:=HRL.out
    obtain ⟨a2,e2,d2⟩:=Kd.at_int (cb_ HR2.out HB.out) (kk : Int) (by omega) (by omega)
    subst e2
    obtain ⟨a2',e2,d3⟩:=Kd.at_int (cb_ HR2.out HB.out) (S : Int) (by omega) (by omega)
    obtain rfl:=Option.some.inj e2
    obtain ⟨a3,e3,d4⟩:=Kd.at_int (cb_ HR3.out HB.out) (kk : Int) (by omega) (by omega)
    subst e3
    obtain ⟨a3',e3,d5⟩:=Kd.at_int (cb_ HR3.out HB.out) (S : Int) (by omega) (by omega)
    obtain rfl:=Option.some.inj e3
    have hmb:=HMB.out (kk : Int)
    rw [rd_get l0_2 kk hlt,Int.toNat_natCast] at d2
    rw [rd_get l0_2 S hS,Int.toNat_natCast] at d3
    rw [rd_get l0_2 kk hlt,rd_get l0_2 S hS] at hmb
    rw [Int.toNat_natCast] at d4 d5
    obtain ⟨a5,e5,d6⟩:=Kd.at_int (rr_ HT.out).2.2 l0_2[kk] x0.1 (by omega)
    subst e5
    obtain ⟨a5',e5,d7⟩:=Kd.at_int (rr_ HT.out).2.2 l0_2[S] x1.1 (by omega)
    obtain rfl:=Option.some.inj e5
    generalize l0_2[kk] = y0 at x0 d2 d6 hmb
    generalize l0_2[S] = y1 at x1 d3 d7 hmb
    generalize rd l0_3 (kk : Int) = z0 at d4 hmb
    generalize rd l0_3 (S : Int) = z1 at d5 hmb
    generalize rd rts y0 = r0 at d6 hmb
    generalize rd rts y1 = r1 at d7 hmb
    have hsn:=filM_snoc pm kk 0
    rw [Int.zero_add,hmb] at hsn
    have HSN:=mk_ hsn
    have hl15 : (filM pm kk 0).length ≤ kk:=filM_len pm kk 0
    have HL15:=mk_ (And.intro hl15 (And.intro hq15 hkk))
    have p1 : ((kk : Int) < (l0_2.length : Int)) = True:=eq_true (by omega)
    have p2 : (kk < l0_2.length) = True:=eq_true hlt
    have p3 : ((S : Int) < (l0_2.length : Int)) = True:=eq_true (by omega)
    have p3' : (S < l0_2.length) = True:=eq_true hS
    have p4 : ((kk : Int) < (l0_3.length : Int)) = True:=eq_true (by omega)
    have p4' : (kk < l0_3.length) = True:=eq_true (by omega)
    have p5 : ((S : Int) < (l0_3.length : Int)) = True:=eq_true (by omega)
    have p5' : (S < l0_3.length) = True:=eq_true (by omega)
    have p6 : (0 ≤ y0) = True:=eq_true x0.1
    have p7 : (y0 < (rts.length : Int)) = True:=eq_true (by omega)
    have p8 : (0 ≤ y1) = True:=eq_true x1.1
    have p9 : (y1 < (rts.length : Int)) = True:=eq_true (by omega)
    obtain ⟨m0,m1,m2,m3⟩:=mbx4 HN.out
    have hfin : ∀ (W : World) (v : Value) (x : List Int),filM pm (kk + 1) 0 = x → sz ≤ W.heap.size → Kd.R (Kd.int .i64) 3 W w.heap.size (fun k => sz ≤ k) v x → Kd.R (Kd.int .i64) 3 W w.heap.size (fun k => k < sz) (.slice (some a5) rts.length tc) rts → W.heap[w.heap.size]? = some (.cells #[.int .i64 a0_0,.slice A0_1 l0_1.length c0_1,.slice (some a2) l0_2.length c0_2,.slice (some a3) l0_3.length c0_3] 25 (0,0)) → Below w.heap.size w W →
      ∃ kk' : Nat,kk' ≤ l0_2.length ∧ l0_2.length - kk' ≤ l0_2.length - (kk + 1) ∧ (Value.int .i64 (wrap64 ((kk : Int) + 1))) = .int .i64 (kk' : Int) ∧ sz ≤ W.heap.size ∧ Aside0 (Kd.R (Kd.int .i64) 3 W w.heap.size (fun k => sz ≤ k) v (filM pm kk' 0)) ∧ Aside0 (Kd.R (Kd.int .i64) 3 W w.heap.size (fun k => k < sz) (.slice (some a5) rts.length tc) rts) ∧ Aside0 (W.heap[w.heap.size]? = some (.cells #[.int .i64 a0_0,.slice A0_1 l0_1.length c0_1,.slice (some a2) l0_2.length c0_2,.slice (some a3) l0_3.length c0_3] 25 (0,0))) ∧ Aside0 (Below w.heap.size w W) :=
     fun W v x hx h0 h1 h2 h3 h4 => ⟨kk + 1,by omega,by omega,by rw [wrap_eq (by omega) (by omega)];rfl,h0,⟨hx ▸ h1⟩,⟨h2⟩,⟨h3⟩,⟨h4⟩⟩
    have HF:=mk_ hfin
    clear hfin hsn hmb hl15 hrl hq15 hq3 hq4
    by_cases c0 : (kk : Int) = (S : Int)
    ·have b0 : ((kk : Int) != (S : Int)) = false:=bne_eq_false_iff_eq.mpr c0
     have HX : Aside0 (filM pm (kk + 1) 0 = filM pm kk 0):=⟨by rw [HSN.out,if_neg (by simp [c0]),List.append_nil]⟩
     clear c0
     go_wp2
     go_quiet (fail)
     go_wp2
     go_roundg (l0_2.length - (kk + 1))
     case measure => omega
     case rel => exact HF.out (wr.drewN _) _ _ HX.out hsz (rn_ HO.out _) (rn_ HT.out _) (kn_ HN.out _) (bn_ HB.out _)
    ·have b0 : ((kk : Int) != (S : Int)) = true:=bne_iff_ne.mpr c0
     by_cases c1 : z0 = z1
     ·have b1 : (z0 == z1) = true:=beq_iff_eq.mpr c1
      by_cases c2 : r0 = r1
      ·have b2 : (r0 == r1) = true:=beq_iff_eq.mpr c2
       have HX : Aside0 (filM pm (kk + 1) 0 = filM pm kk 0 ++ [(kk : Int)]):=⟨by rw [HSN.out,if_pos (by simp [c0,c1,c2])]⟩
       clear c0 c1 c2
       go_wp2
       go_quiet (fail)
       go_wp2_with (first|((with_reducible refine gate_builtin (b:=.append) (xs:=#[.tmp 57,.tmp 59]) rfl ?_);at_builtin;refine Kd.R_append (Kd.int .i64) w.heap.size rfl (.tmp 57) (.tmp 59) 23 3 (.int .i64 0) 8 rfl Tryd.underlying23 mxInfo rfl (by decide) (by omega) _ (filM pm kk 0) (kk : Int) [.int .i64 (kk : Int)] (fun k_ => sz ≤ k_) (fun _ => False) rfl (by first|(go_simp;done)|(go_simp;rfl)) rfl (fun _ hk => hk.elim) (fun k_ hk => Nat.le_trans hsz hk) (rn_ HO.out _) (Below.refl _ _) HB.out.size ?aL ?_;(case aL => have:=HL15.out;omega);intro v2 w3 ho hb_ hg hat))
       go_roundg (l0_2.length - (kk + 1))
       case measure => omega
       case rel => exact HF.out _ _ _ HX.out (Nat.le_trans hsz hg.size) ho (Kd.R_grown (rn_ HT.out _) hg (fun k hk e => by have:=HO.out.1 k e.symm;omega)) (blk_grown (kn_ HN.out _) hg (Kd.R_ne HO.out HN.out (by decide))) (below_weaken (bn_ HB.out _) (Nat.le_refl _) hb_)
      ·have b2 : (r0 == r1) = false:=beq_eq_false_iff_ne.mpr c2
       have HX : Aside0 (filM pm (kk + 1) 0 = filM pm kk 0):=⟨by rw [HSN.out,if_neg (by simp [c2]),List.append_nil]⟩
       clear c0 c1 c2
       go_wp2
       go_quiet (fail)
       go_wp2
       go_roundg (l0_2.length - (kk + 1))
       case measure => omega
       case rel => exact HF.out (wr.drewN _) _ _ HX.out hsz (rn_ HO.out _) (rn_ HT.out _) (kn_ HN.out _) (bn_ HB.out _)
     ·have b1 : (z0 == z1) = false:=beq_eq_false_iff_ne.mpr c1
      have HX : Aside0 (filM pm (kk + 1) 0 = filM pm kk 0):=⟨by rw [HSN.out,if_neg (by simp [c1]),List.append_nil]⟩
      clear c0 c1
      go_wp2
      go_quiet (fail)
      go_wp2
      go_roundg (l0_2.length - (kk + 1))
      case measure => omega
      case rel => exact HF.out (wr.drewN _) _ _ HX.out hsz (rn_ HO.out _) (rn_ HT.out _) (kn_ HN.out _) (bn_ HB.out _)
   ·have hkl : kk = l0_2.length:=by omega
    subst hkl
    have p1 : ((l0_2.length : Int) < (l0_2.length : Int)) = False:=eq_false (by omega)
    go_wp2
    go_ret
    exact ⟨_,rfl,by rw [HM.out];exact rm_ HO.out (fun _ _ => trivial),HB.out⟩
 ·have hm : matesX a0_0 l0_1 l0_2 l0_3 a1 = []:=by unfold matesX;rw [if_neg c]
  rw [hm]
  rw [decide_eq_false c] at HST
  clear c hm
  obtain ⟨m0,m1,m2,m3⟩:=mbx4 HN.out
  go_enter Tryd.func10,Tryd.ntmps10
  go_wp2_with fail
  refine HST.out.mono ?_
  rintro e w1 ⟨rfl,hb1⟩
  replace HB:=mk_ (st_ HB.out hb1)
  clear hb1 m0 m1 m2 m3
  go_wp2
  go_ret
  exact ⟨_,rfl,Kd.R_nil _ _ _ _ _,HB.out⟩

/-! ### laws_wnHas: function 12 -/
def laws_wnHas.l0 : Nat → Int → List Int → Int → Int → Option (Bool)
 | 0,_,_,_,_ => none
 | k + 1,x1,x7,x8,x9 => if x9 < x8 then (if 0 ≤ x9 then (if x9 < (x7.length : Int) then (if (rd x7 x9) = x1 then (some true) else (laws_wnHas.l0 k x1 x7 x8 (wrap64 (x9 + 1)))) else (none)) else (none)) else (some false)
def laws_wnHas.f (k : Nat) (l0 : List Int) (a1 : Int) : Option (Bool):=laws_wnHas.l0 k a1 l0 (l0.length : Int) 0
theorem laws_wnHas.mono_l : ∀ k,(∀ y0 y1 y2 y3,LeO (laws_wnHas.l0 k y0 y1 y2 y3) (laws_wnHas.l0 (k + 1) y0 y1 y2 y3))
 | 0 => fun _ _ _ _ r h => by simp [laws_wnHas.l0] at h
 | k + 1 => by
  have ih0:=laws_wnHas.mono_l k
  ·intro y0 y1 y2 y3
   unfold laws_wnHas.l0
   repeat' first
   | (with_reducible exact ih0 _ _ _ _)
   | (with_reducible exact LeO.refl _)
   | (with_reducible exact LeO.none _)
   | (with_reducible refine LeO.ite ?_ ?_)
   | (with_reducible refine LeO.bind ?_ (fun _ => ?_))
   | exact ih0 _ _ _ _
   | exact LeO.none _
   | refine LeO.ite ?_ ?_
   | refine LeO.bind ?_ (fun _ => ?_)
theorem laws_wnHas.mono : ∀ a0 a1 k,LeO (laws_wnHas.f k a0 a1) (laws_wnHas.f (k + 1) a0 a1):=by
 intro a0 a1 k
 have ih0:=laws_wnHas.mono_l k
 unfold laws_wnHas.f
 repeat' first
   | (with_reducible exact ih0 _ _ _ _)
   | (with_reducible exact LeO.refl _)
   | (with_reducible exact LeO.none _)
   | (with_reducible refine LeO.ite ?_ ?_)
   | (with_reducible refine LeO.bind ?_ (fun _ => ?_))
   | exact ih0 _ _ _ _
   | exact LeO.none _
   | refine LeO.ite ?_ ?_
   | refine LeO.bind ?_ (fun _ => ?_)
set_option maxHeartbeats 8000000 in
set_option maxRecDepth 100000 in
theorem laws_wnHas.calls (k : Nat) (A0 : Option Addr) (c0 : Nat) (l0 : List Int) (a1 : Int) (r : Bool) (w : World) (hr0 : Kd.C (Kd.int .i64) w A0 l0.length l0) (hc0 : l0.length ≤ c0) (h : laws_wnHas.f k l0 a1 = some r) :
  Calls Tryd.prog 12 #[.slice A0 l0.length c0,.int .i64 a1] w fun e w' => e = .returned (.bool r) ∧ Drawn0 w w':=by
 have HR0:=mk_ hr0
 have HC0:=mk_ hc0
 clear hr0 hc0
 have H : (laws_wnHas.l0 k a1 l0 (l0.length : Int) 0) = some r:=h
 clear h
 have H':=mk_ H
 clear H
 go_enter Tryd.func12,Tryd.ntmps12
 go_wp2
 go_loopg [9] k (fun kq v9 w' => ∃ (x9_1 : Int),v9 = .int .i64 x9_1 ∧ Aside0 (laws_wnHas.l0 kq a1 l0 (l0.length : Int) x9_1 = some r) ∧ Aside0 (kq ≤ k) ∧ Drawn0 w w')
 case atStart => exact ⟨(0),qf_,H',⟨Nat.le_refl _⟩,by repeat (first|exact Drawn0.refl _|apply Drawn0.step)⟩
 case round =>
  clear H'
  try clear c1
  try clear p2
  obtain ⟨x9_1,rfl,HA,HK1,⟨m1,rfl⟩⟩:=hrel
  cases gk with
  | zero => exact absurd HA.out (by simp [laws_wnHas.l0])
  | succ k1 =>
   have H:=HA.out
   clear HA
   simp only [laws_wnHas.l0] at H
   by_cases c3 : x9_1 < (l0.length : Int)
   ·rw [if_pos c3] at H
    have c3b0 : decide (x9_1 < (l0.length : Int)) = true:=decide_eq_true c3
    clear c3
    by_cases c4 : 0 ≤ x9_1
    ·rw [if_pos c4] at H
     have c4b0 : decide (0 ≤ x9_1) = true:=decide_eq_true c4
     clear c4
     by_cases c5 : x9_1 < (l0.length : Int)
     ·rw [if_pos c5] at H
      have c5b0 : decide (x9_1 < (l0.length : Int)) = true:=decide_eq_true c5
      clear c5
      by_cases c6 : (rd l0 x9_1) = a1
      ·rw [if_pos c6] at H
       have c6b0 : ((rd l0 x9_1) == a1) = true:=beq_iff_eq.mpr c6
       have c6b1 : ((rd l0 x9_1) != a1) = false:=bne_eq_false_iff_eq.mpr c6
       clear c6
       obtain rfl:=Option.some.inj H
       have p390 : 0 ≤ (x9_1 : Int):=od_ qa_
       have q390 : x9_1 < (l0.length : Int):=od_ qa_
       obtain ⟨ad390,e390,hx390_0⟩:=Kd.at_int HR0.out x9_1 p390 q390
       cases e390
       replace p390:=eq_true p390
       replace q390:=eq_true q390
       go_wp2
       go_ret
       exact ⟨by first|rfl|(simp;done)|(simp [*];done),by repeat (first|exact Drawn0.refl _|apply Drawn0.step)⟩
      ·rw [if_neg c6] at H
       have c6b0 : ((rd l0 x9_1) == a1) = false:=beq_eq_false_iff_ne.mpr c6
       have c6b1 : ((rd l0 x9_1) != a1) = true:=bne_iff_ne.mpr c6
       have H':=mk_ H
       clear H
       have p390 : 0 ≤ (x9_1 : Int):=od_ qa_
       have q390 : x9_1 < (l0.length : Int):=od_ qa_
       obtain ⟨ad390,e390,hx390_0⟩:=Kd.at_int HR0.out x9_1 p390 q390
       cases e390
       replace p390:=eq_true p390
       replace q390:=eq_true q390
       go_wp2
       go_roundg k1
       case measure => have:=HK1.out;omega
       case rel => exact ⟨(wrap64 (x9_1 + 1)),qf_,H',⟨by have:=HK1.out;omega⟩,by repeat (first|exact Drawn0.refl _|apply Drawn0.step)⟩
     ·rw [if_neg c5] at H
      exact absurd H (by simp)
    ·rw [if_neg c4] at H
     exact absurd H (by simp)
   ·rw [if_neg c3] at H
    have c3b0 : decide (x9_1 < (l0.length : Int)) = false:=decide_eq_false c3
    clear c3
    obtain rfl:=Option.some.inj H
    go_wp2
    go_ret
    exact ⟨by first|rfl|(simp;done)|(simp [*];done),by repeat (first|exact Drawn0.refl _|apply Drawn0.step)⟩

-- LIB way3
theorem filM_asc (p : Int → Bool) (d : Nat) : ∀ i,(filM p d i).Pairwise (· < ·):=by
 induction d with
 | zero => exact fun _ => List.Pairwise.nil
 | succ d ih =>
  intro i
  rw [filM]
  split
  ·exact List.Pairwise.cons (fun x hx => by have:=((filM_mem p d (i + 1) x).1 hx).1;omega) (ih (i + 1))
  ·exact ih (i + 1)

-- LIB way3
def wayB (N : Nat) (cs : List S71) (a b : Nat) (i : Int) : Bool:=hasL (upsL N cs a) i != hasL (upsL N cs b) i

-- LIB way3
def wayX (n : Int) (cs : List S71) (hs vs : List Int) (a b : Int) : List Int:=if netB n cs hs vs = true ∧ (0 ≤ a ∧ a < hs.length) ∧ (0 ≤ b ∧ b < hs.length) ∧ rd (rootsL n.toNat cs) (rd hs a) = rd (rootsL n.toNat cs) (rd hs b) then filM (wayB n.toNat cs (rd hs a).toNat (rd hs b).toNat) cs.length 0 else []

-- LIB way3
theorem filM_mem0 (p : Int → Bool) (M : Nat) (x : Int) : x ∈ filM p M 0 ↔ 0 ≤ x ∧ x < M ∧ p x = true:=by
 have:=filM_mem p M 0 x
 rw [this]
 constructor
 ·rintro ⟨h1,h2,h3⟩;exact ⟨h1,by omega,h3⟩
 ·rintro ⟨h1,h2,h3⟩;exact ⟨h1,by omega,h3⟩

-- LIB treeup
theorem treeX_up {N : Nat} {cs : List S71} (hv : cabsB (N : Int) cs = true) {x : Nat} (hx : x < N) (h0 : 0 ≤ upN N cs x) : upN N cs x ∈ treeX (N : Int) cs:=by
 unfold treeX
 rw [if_pos hv,Int.toNat_natCast]
 have hp:=tree_perm (upN N cs) N cs.length (fun x _ => (upX_lt cs _ _).2)
 refine hp.mem_iff.1 ?_
 have : ∀ (d b : Nat),b ≤ x → x < b + d → upN N cs x ∈ uL (upN N cs) d b:=by
  intro d
  induction d with
  | zero => intro b h1 h2;omega
  | succ d ih =>
   intro b h1 h2
   rw [uL]
   by_cases e : b = x
   ·subst e;rw [if_pos h0];exact List.mem_cons_self
   ·split
    ·exact List.mem_cons_of_mem _ (ih (b + 1) (by omega) (by omega))
    ·exact ih (b + 1) (by omega) (by omega)
 exact this N 0 (by omega) (by omega)

-- LIB nettree
section
variable {N : Nat} {cs : List S71}
def wL (N : Nat) (cs : List S71) (a : Nat) : List Nat:=chL (upN N cs) (nxN N cs) 50 a
theorem ups_wL (a : Nat) : upsL N cs a = (wL N cs a).map (upN N cs):=rfl
theorem wL_ch (hv : cabsB (N : Int) cs = true) {a : Nat} (ha : a < N) : ∃ r,Ch (upN N cs) (nxN N cs) a (wL N cs a) r ∧ upN N cs r < 0 ∧ r < N ∧ gD (rootsL N cs) a = (r : Int) ∧ (wL N cs a).Nodup ∧ (wL N cs a).length < N ∧ (∀ x ∈ wL N cs a,x < N ∧ 0 ≤ upN N cs x ∧ gD (rootsL N cs) x = (r : Int)):=by
 obtain ⟨w,r,h1,h2,h3,h4,h5,h6,h7,h8⟩:=way_up hv ha
 have hN:=(cabsB_facts hv).2.1
 have e : wL N cs a = w:=chL_eq h1 h2 50 (by omega)
 rw [e]
 exact ⟨r,h1,h2,h3,h4,h5,h6,h7⟩
theorem wL_root {a : Nat} (h : upN N cs a < 0) : wL N cs a = []:=by
 unfold wL
 rw [chL,if_neg (by omega)]
theorem wL_step (hv : cabsB (N : Int) cs = true) {a : Nat} (ha : a < N) (h : 0 ≤ upN N cs a) : wL N cs a = a :: wL N cs (nxN N cs a):=by
 obtain ⟨r,h1,h2,_⟩:=wL_ch hv ha
 have hn:=((upOk_of hv).up a ha h).1
 obtain ⟨r2,g1,g2,_⟩:=wL_ch hv hn
 exact (ch_det h1 (Ch.cons h g1) h2 g2).1
theorem up_inj (hv : cabsB (N : Int) cs = true) {a b : Nat} (h : 0 ≤ upN N cs a) (e : upN N cs a = upN N cs b) : a = b:=up_once2 (sound_of hv) a b h e
theorem mem_ups (hv : cabsB (N : Int) cs = true) {a x : Nat} (hx : 0 ≤ upN N cs x) : upN N cs x ∈ upsL N cs a ↔ x ∈ wL N cs a:=by
 rw [ups_wL,List.mem_map]
 constructor
 ·rintro ⟨y,hy,e⟩
  exact (up_inj hv hx e.symm) ▸ hy
 ·exact fun h => ⟨x,h,rfl⟩
theorem roots_nx (hv : cabsB (N : Int) cs = true) {a : Nat} (ha : a < N) (h : 0 ≤ upN N cs a) : gD (rootsL N cs) (nxN N cs a) = gD (rootsL N cs) a:=by
 obtain ⟨r,h1,h2,_,h4,_⟩:=wL_ch hv ha
 have hn:=((upOk_of hv).up a ha h).1
 obtain ⟨r2,g1,g2,_,g4,_⟩:=wL_ch hv hn
 have e:=(ch_det h1 (Ch.cons h g1) h2 g2).2
 rw [h4,g4,e]
def TJ (N : Nat) (cs : List S71) (k : Int) (b o : Nat) : Prop:=∃ x,x < N ∧ 0 ≤ upN N cs x ∧ upN N cs x = k ∧ ((b = x ∧ o = nxN N cs x) ∨ (b = nxN N cs x ∧ o = x))
theorem TJ.lt (hv : cabsB (N : Int) cs = true) {k : Int} {b o : Nat} (h : TJ N cs k b o) : b < N ∧ o < N:=by
 obtain ⟨x,hx,h0,_,h⟩:=h
 have:=((upOk_of hv).up x hx h0).1
 rcases h with ⟨rfl,rfl⟩ | ⟨rfl,rfl⟩ <;> exact ⟨by assumption,by assumption⟩
theorem TJ.symm {k : Int} {b o : Nat} (h : TJ N cs k b o) : TJ N cs k o b:=by
 obtain ⟨x,hx,h0,h1,h⟩:=h
 exact ⟨x,hx,h0,h1,h.elim (fun h => Or.inr ⟨h.2,h.1⟩) (fun h => Or.inl ⟨h.2,h.1⟩)⟩
theorem TJ.root (hv : cabsB (N : Int) cs = true) {k : Int} {b o : Nat} (h : TJ N cs k b o) : gD (rootsL N cs) b = gD (rootsL N cs) o:=by
 obtain ⟨x,hx,h0,_,h⟩:=h
 have:=roots_nx hv hx h0
 rcases h with ⟨rfl,rfl⟩ | ⟨rfl,rfl⟩
 ·exact this.symm
 ·exact this
theorem TJ.cross (hv : cabsB (N : Int) cs = true) {k : Int} {b o : Nat} (h : TJ N cs k b o) : (∀ j,j ≠ k → (j ∈ upsL N cs b ↔ j ∈ upsL N cs o)) ∧ (k ∈ upsL N cs b ↔ ¬ k ∈ upsL N cs o):=by
 obtain ⟨x,hx,h0,rfl,h⟩:=h
 have hs:=wL_step hv hx h0
 have hn : x ∉ wL N cs (nxN N cs x):=by
  obtain ⟨r,_,_,_,_,hnd,_⟩:=wL_ch hv hx
  rw [hs] at hnd
  exact (List.nodup_cons.1 hnd).1
 have h1 : upN N cs x ∈ upsL N cs x:=(mem_ups hv h0).2 (by rw [hs];exact List.mem_cons_self)
 have h2 : upN N cs x ∉ upsL N cs (nxN N cs x):=fun h => hn ((mem_ups hv h0).1 h)
 have h3 : ∀ j,j ≠ upN N cs x → (j ∈ upsL N cs x ↔ j ∈ upsL N cs (nxN N cs x)):=fun j hj => by
  rw [ups_wL,ups_wL,hs,List.map_cons,List.mem_cons]
  exact ⟨fun h => h.resolve_left hj,Or.inr⟩
 rcases h with ⟨rfl,rfl⟩ | ⟨rfl,rfl⟩
 ·exact ⟨h3,⟨fun _ => h2,fun _ => h1⟩⟩
 ·exact ⟨fun j hj => (h3 j hj).symm,⟨fun h => absurd h h2,fun h => absurd h1 h⟩⟩
theorem ch_up {u : Nat → Int} {nx : Nat → Nat} {t r : Nat} {w : List Nat} (h : Ch u nx t w r) {x : Nat} (hx : x ∈ w) (h0 : 0 ≤ u (nx x)) (hr : u r < 0) : nx x ∈ w:=by
 induction h with
 | nil _ => cases hx
 | @cons t w r h1 hc ih =>
  rcases List.mem_cons.1 hx with rfl | hx
  ·cases hc with
   | nil _ => omega
   | cons _ _ => exact List.mem_cons_of_mem _ List.mem_cons_self
  ·exact List.mem_cons_of_mem _ (ih hx hr)
theorem ch_child {N : Nat} {u : Nat → Int} {nx : Nat → Nat} {c : Nat → Int} (H : UpOk N u nx c) {t r : Nat} {w : List Nat} (h : Ch u nx t w r) : t < N → ∀ x ∈ w,∀ y ∈ w,nx x = nx y → x = y:=by
 induction h with
 | nil _ => exact fun _ x hx => by cases hx
 | @cons t w r h1 hc ih =>
  intro ht x hx y hy e
  obtain ⟨h2,h3⟩:=H.up t ht h1
  obtain ⟨_,_,h4,_⟩:=ch_facts H hc h2
  rcases List.mem_cons.1 hx with e1 | hx2
  ·subst e1
   rcases List.mem_cons.1 hy with e2 | hy2
   ·exact e2.symm
   ·have h5:=h4 y hy2
    have h6:=(H.up y h5.1 h5.2.1).2
    rw [← e] at h6
    omega
  ·rcases List.mem_cons.1 hy with e2 | hy2
   ·subst e2
    have h5:=h4 x hx2
    have h6:=(H.up x h5.1 h5.2.1).2
    rw [e] at h6
    omega
   ·exact ih h2 x hx2 y hy2 e
theorem ch_pred {u : Nat → Int} {nx : Nat → Nat} {t r : Nat} {w : List Nat} (h : Ch u nx t w r) {b : Nat} (hb : b ∈ w ∨ b = r) (hne : b ≠ t) : ∃ x ∈ w,nx x = b:=by
 induction h with
 | nil _ =>
  rcases hb with hb | hb
  ·cases hb
  ·exact absurd hb hne
 | @cons t w r h1 hc ih =>
  by_cases e : b = nx t
  ·exact ⟨t,List.mem_cons_self,e.symm⟩
  ·obtain ⟨x,hx,hxe⟩:=ih (hb.imp (fun h => (List.mem_cons.1 h).resolve_left hne) id) e
   exact ⟨x,List.mem_cons_of_mem _ hx,hxe⟩
def Sep (N : Nat) (cs : List S71) (k : Int) (a b : Nat) : Prop:=¬ (k ∈ upsL N cs a ↔ k ∈ upsL N cs b)
theorem sep_one (hv : cabsB (N : Int) cs = true) {k k2 : Int} {b o o2 t : Nat} (ht : t < N) (h : TJ N cs k b o) (h2 : TJ N cs k2 b o2) (s : Sep N cs k b t) (s2 : Sep N cs k2 b t) : k = k2:=by
  have main : ∀ {k k2 : Int} {x y : Nat},x < N → 0 ≤ upN N cs x → upN N cs x = k → b = x → y < N → 0 ≤ upN N cs y → upN N cs y = k2 → b = nxN N cs y → Sep N cs k b t → Sep N cs k2 b t → False:=by
    intro k k2 x y hx hx0 hxk hbx hy hy0 hyk hby s s2
    subst hbx
    subst hxk
    subst hyk
    have hb1 : upN N cs b ∈ upsL N cs b:=(mem_ups hv hx0).2 (by rw [wL_step hv hx hx0];exact List.mem_cons_self)
    have hb2 : upN N cs b ∉ upsL N cs t:=fun h => s ⟨fun _ => h,fun _ => hb1⟩
    have hy1 : upN N cs y ∉ upsL N cs b:=by
      have hc:=(TJ.cross hv (⟨y,hy,hy0,rfl,Or.inr ⟨rfl,rfl⟩⟩ : TJ N cs (upN N cs y) (nxN N cs y) y)).2
      rw [← hby] at hc
      exact fun h => hc.1 h ((mem_ups hv hy0).2 (by rw [wL_step hv hy hy0];exact List.mem_cons_self))
    have hy2 : upN N cs y ∈ upsL N cs t:=Classical.byContradiction (fun h => s2 ⟨fun h3 => absurd h3 hy1,fun h3 => absurd h3 h⟩)
    obtain ⟨r,hc,hr,_⟩:=wL_ch hv ht
    have:=ch_up hc ((mem_ups hv hy0).1 hy2) (by rw [← hby];exact hx0) hr
    rw [← hby] at this
    exact hb2 ((mem_ups hv hx0).2 this)
  obtain ⟨x,hx,hx0,hxk,hx1⟩:=h
  obtain ⟨y,hy,hy0,hyk,hy1⟩:=h2
  rcases hx1 with ⟨e1,_⟩ | ⟨e1,_⟩ <;> rcases hy1 with ⟨e2,_⟩ | ⟨e2,_⟩
  · rw [← hxk,← hyk,← e1,← e2]
  · exact (main hx hx0 hxk e1 hy hy0 hyk e2 s s2).elim
  · exact (main hy hy0 hyk e2 hx hx0 hxk e1 s2 s).elim
  · have low : ∀ {k : Int} {x : Nat}, x < N → 0 ≤ upN N cs x → upN N cs x = k → b = nxN N cs x → Sep N cs k b t → x ∈ wL N cs t := by
      intro k x hx hx0 hxk hbx s
      subst hxk
      have hc:=(TJ.cross hv (⟨x,hx,hx0,rfl,Or.inr ⟨rfl,rfl⟩⟩ : TJ N cs (upN N cs x) (nxN N cs x) x)).2
      rw [← hbx] at hc
      have h1 : upN N cs x ∉ upsL N cs b:=fun h => hc.1 h ((mem_ups hv hx0).2 (by rw [wL_step hv hx hx0];exact List.mem_cons_self))
      exact (mem_ups hv hx0).1 (Classical.byContradiction (fun h => s ⟨fun h3 => absurd h3 h1,fun h3 => absurd h3 h⟩))
    obtain ⟨r,hc,hr,_⟩:=wL_ch hv ht
    have:=ch_child (upOk_of hv) hc ht x (low hx hx0 hxk e1 s) y (low hy hy0 hyk e2 s2) (by rw [← e1,← e2])
    rw [← hxk,← hyk,this]
theorem sep_some (hv : cabsB (N : Int) cs = true) {b t : Nat} (hb : b < N) (ht : t < N) (hr : gD (rootsL N cs) b = gD (rootsL N cs) t) (hne : b ≠ t) : ∃ k o,TJ N cs k b o ∧ Sep N cs k b t:=by
 obtain ⟨r,hc,h2,h3,h4,_,_,h7⟩:=wL_ch hv ht
 have child : (b ∈ wL N cs t ∨ b = r) → ∃ k o,TJ N cs k b o ∧ Sep N cs k b t:=fun h => by
  obtain ⟨x,hx,e⟩:=ch_pred hc h hne
  have hx1:=h7 x hx
  have hj : TJ N cs (upN N cs x) b x:=⟨x,hx1.1,hx1.2.1,rfl,Or.inr ⟨e.symm,rfl⟩⟩
  refine ⟨_,x,hj,fun hi => ?_⟩
  have h1:=(mem_ups hv hx1.2.1).2 hx
  exact (hj.cross hv).2.1 (hi.2 h1) ((mem_ups hv hx1.2.1).2 (by rw [wL_step hv hx1.1 hx1.2.1];exact List.mem_cons_self))
 by_cases h0 : 0 ≤ upN N cs b
 ·by_cases hm : b ∈ wL N cs t
  ·exact child (Or.inl hm)
  ·refine ⟨_,nxN N cs b,⟨b,hb,h0,rfl,Or.inl ⟨rfl,rfl⟩⟩,fun hi => hm ((mem_ups hv h0).1 (hi.1 ((mem_ups hv h0).2 ?_)))⟩
   rw [wL_step hv hb h0]
   exact List.mem_cons_self
 ·obtain ⟨r2,hc2,g2,g3,g4,_⟩:=wL_ch hv hb
  rw [wL_root (by omega)] at hc2
  have e : b = r:=by
   cases hc2
   rw [hr,h4] at g4
   omega
  exact child (Or.inr e)
end

-- LIB netlaw
theorem mem_uL {u : Nat → Int} (d : Nat) : ∀ b x,x ∈ uL u d b → ∃ y,b ≤ y ∧ y < b + d ∧ 0 ≤ u y ∧ u y = x:=by
 induction d with
 | zero => intro b x h;cases h
 | succ d ih =>
  intro b x h
  rw [uL] at h
  split at h
  ·rename_i h0
   rcases List.mem_cons.1 h with e | h
   ·exact ⟨b,Nat.le_refl _,by omega,h0,e.symm⟩
   ·obtain ⟨y,h1,h2,h3⟩:=ih (b + 1) x h
    exact ⟨y,by omega,by omega,h3⟩
  ·obtain ⟨y,h1,h2,h3⟩:=ih (b + 1) x h
   exact ⟨y,by omega,by omega,h3⟩
theorem uL_nodup {u : Nat → Int} (hi : ∀ x y,0 ≤ u x → u x = u y → x = y) (d : Nat) : ∀ b,(uL u d b).Nodup:=by
 induction d with
 | zero => exact fun _ => List.Pairwise.nil
 | succ d ih =>
  intro b
  rw [uL]
  split
  ·rename_i h0
   refine List.nodup_cons.2 ⟨fun h => ?_,ih _⟩
   obtain ⟨y,h1,_,_,h3⟩:=mem_uL d _ _ h
   have:=hi b y h0 h3.symm
   omega
  ·exact ih _
section
variable {N : Nat} {cs : List S71}
theorem tree_mem (hv : cabsB (N : Int) cs = true) {k : Int} (h : k ∈ treeX (N : Int) cs) : ∃ x,x < N ∧ 0 ≤ upN N cs x ∧ upN N cs x = k:=by
 unfold treeX at h
 rw [if_pos hv,Int.toNat_natCast] at h
 obtain ⟨y,_,h2,h3,h4⟩:=mem_uL N 0 k ((tree_perm (upN N cs) N cs.length (fun x _ => (upX_lt cs _ _).2)).mem_iff.2 h)
 exact ⟨y,by omega,h3,h4⟩
theorem tree_nodup (hv : cabsB (N : Int) cs = true) : (treeX (N : Int) cs).Nodup:=by
 unfold treeX
 rw [if_pos hv,Int.toNat_natCast]
 exact (tree_perm (upN N cs) N cs.length (fun x _ => (upX_lt cs _ _).2)).nodup_iff.1 (uL_nodup (fun x y h e => up_inj hv h e) N 0)
theorem tj_tree (hv : cabsB (N : Int) cs = true) {k : Int} {b o : Nat} (h : TJ N cs k b o) : k ∈ treeX (N : Int) cs:=by
 obtain ⟨x,hx,h0,rfl,_⟩:=h
 exact treeX_up hv hx h0
theorem tj_pos {k : Int} {b o : Nat} (h : TJ N cs k b o) : 0 ≤ k ∧ k < cs.length:=by
 obtain ⟨x,hx,h0,rfl,_⟩:=h
 exact ⟨h0,(upX_lt cs _ _).2⟩
theorem oth_tj (hv : cabsB (N : Int) cs = true) {k : Int} (hk : k ∈ treeX (N : Int) cs) (b : Nat) : (∃ o : Nat,othX (rd_T71 cs k) (b : Int) = some (o : Int) ∧ TJ N cs k b o) ∨ (othX (rd_T71 cs k) (b : Int) = none ∧ ∀ o : Nat,¬ TJ N cs k b o):=by
 obtain ⟨x,hx,h0,rfl⟩:=tree_mem hv hk
 obtain ⟨K,hK,k1,k2,_,k4,k5,_⟩:=up_hit (sound_of hv) x h0
 have hrd : rd_T71 cs (upN N cs x) = cs[K]:=by rw [k1];exact rdCab_get cs K hK
 rw [hrd]
 by_cases e1 : b = x
 ·subst e1
  exact Or.inl ⟨nxN N cs b,k2,b,hx,h0,rfl,Or.inl ⟨rfl,rfl⟩⟩
 ·by_cases e2 : b = nxN N cs x
  ·subst e2
   refine Or.inl ⟨x,?_,x,hx,h0,rfl,Or.inr ⟨rfl,rfl⟩⟩
   rcases oth_ends k2 with ⟨y1,y2⟩ | ⟨y1,y2⟩
   ·unfold othX
    rw [if_neg (by omega),if_pos y2,← y1]
   ·unfold othX
    rw [if_pos y2,← y1]
  ·refine Or.inr ⟨?_,fun o h => ?_⟩
   ·unfold othX
    rcases oth_ends k2 with ⟨y1,y2⟩ | ⟨y1,y2⟩
    ·rw [if_neg (by omega),if_neg (by omega)]
    ·rw [if_neg (by omega),if_neg (by omega)]
   ·obtain ⟨y,hy,hy0,hye,h⟩:=h
    obtain rfl:=up_inj hv hy0 hye
    rcases h with ⟨h,_⟩ | ⟨h,_⟩
    ·exact e1 h
    ·exact e2 h
theorem tj_oth (hv : cabsB (N : Int) cs = true) {k : Int} {b o : Nat} (h : TJ N cs k b o) : othX (rd_T71 cs k) (b : Int) = some (o : Int):=by
 rcases oth_tj hv (tj_tree hv h) b with ⟨o2,h1,h2⟩ | ⟨_,h2⟩
 ·obtain ⟨x,hx,h0,rfl,h⟩:=h
  obtain ⟨y,hy,hy0,hye,h2⟩:=h2
  obtain rfl:=up_inj hv hy0 hye
  have hne : nxN N cs y ≠ y:=by
   obtain ⟨_,_,_,_,_,_,k5,_⟩:=up_hit (sound_of hv) y h0
   exact k5
  rw [h1]
  rcases h with ⟨e1,e2⟩ | ⟨e1,e2⟩ <;> rcases h2 with ⟨e3,e4⟩ | ⟨e3,e4⟩
  ·rw [e4,e2]
  ·omega
  ·omega
  ·rw [e4,e2]
 ·exact absurd h (h2 o)
theorem sep_neg (k : Int) (hk : k < 0) (hv : cabsB (N : Int) cs = true) {a b : Nat} (ha : a < N) (hb : b < N) : ¬ Sep N cs k a b:=by
 have no : ∀ {c : Nat},c < N → k ∉ upsL N cs c:=by
  intro c hc h
  rw [ups_wL] at h
  obtain ⟨x,hx,e⟩:=List.mem_map.1 h
  obtain ⟨r,_,_,_,_,_,_,h7⟩:=wL_ch hv hc
  have:=(h7 x hx).2.1
  omega
 exact fun h => h ⟨fun h1 => absurd h1 (no ha),fun h1 => absurd h1 (no hb)⟩
theorem sep_self (k : Int) (a : Nat) : ¬ Sep N cs k a a:=fun h => h Iff.rfl
theorem sep_symm {k : Int} {a b : Nat} (h : Sep N cs k a b) : Sep N cs k b a:=fun e => h e.symm
theorem sep_flip (hv : cabsB (N : Int) cs = true) {k : Int} {b o : Nat} (h : TJ N cs k b o) (t : Nat) : Sep N cs k b t ↔ ¬ Sep N cs k o t:=by
 have:=(h.cross hv).2
 unfold Sep
 by_cases h1 : k ∈ upsL N cs b <;> by_cases h2 : k ∈ upsL N cs o <;> by_cases h3 : k ∈ upsL N cs t <;> simp_all
theorem sep_keep (hv : cabsB (N : Int) cs = true) {k j : Int} {b o : Nat} (h : TJ N cs k b o) (hj : j ≠ k) (t : Nat) : Sep N cs j b t ↔ Sep N cs j o t:=by
 have:=(h.cross hv).1 j hj
 unfold Sep
 rw [this]
theorem sep_tri {k : Int} {a b c : Nat} (h : Sep N cs k a b) : Sep N cs k a c ↔ ¬ Sep N cs k c b:=by
 unfold Sep at *
 by_cases h1 : k ∈ upsL N cs a <;> by_cases h2 : k ∈ upsL N cs b <;> by_cases h3 : k ∈ upsL N cs c <;> simp_all
theorem wL_tj (hv : cabsB (N : Int) cs = true) {k : Int} {b o : Nat} (h : TJ N cs k b o) : (k = upN N cs b ∧ 0 ≤ k ∧ (wL N cs b).length = (wL N cs o).length + 1 ∧ ¬ (k = upN N cs o)) ∨ (k = upN N cs o ∧ 0 ≤ k ∧ (wL N cs o).length = (wL N cs b).length + 1 ∧ ¬ (k = upN N cs b)):=by
 have hlt:=h.lt hv
 obtain ⟨x,hx,h0,rfl,h⟩:=h
 have hs:=wL_step hv hx h0
 have hl : (wL N cs x).length = (wL N cs (nxN N cs x)).length + 1:=by rw [hs];rfl
 have hne : ¬ (upN N cs x = upN N cs (nxN N cs x)):=fun e => by
  have:=up_inj hv h0 e
  rw [← this] at hl
  omega
 rcases h with ⟨rfl,rfl⟩ | ⟨rfl,rfl⟩
 ·exact Or.inl ⟨rfl,h0,hl,hne⟩
 ·exact Or.inr ⟨rfl,h0,hl,hne⟩
theorem wL_len (hv : cabsB (N : Int) cs = true) {b : Nat} (hb : b < N) : (wL N cs b).length ≤ 7:=by
 obtain ⟨r,_,_,_,_,_,h6,_⟩:=wL_ch hv hb
 have:=(cabsB_facts hv).2.1
 omega
end
def muN (N : Nat) (cs : List S71) (b : Nat) (y : Int) : Nat:=if y = upN N cs b ∧ 0 ≤ y then 8 - (wL N cs b).length else (wL N cs b).length + 9
def wtN (N : Nat) (cs : List S71) (b : Nat) (y : Int) : Nat:=if y = upN N cs b ∧ 0 ≤ y then 9 ^ (8 - (wL N cs b).length) else 43046721 * ((wL N cs b).length + 1)
theorem mu_lt {N : Nat} {cs : List S71} (hv : cabsB (N : Int) cs = true) {k y : Int} {b o : Nat} (h : TJ N cs k b o) (hne : k ≠ y) : muN N cs o k < muN N cs b y:=by
 have hlt:=h.lt hv
 have l1:=wL_len hv hlt.1
 have l2:=wL_len hv hlt.2
 unfold muN
 rcases wL_tj hv h with ⟨h1,h2,h3,h4⟩ | ⟨h1,h2,h3,h4⟩
 ·rw [if_neg (fun e => h4 e.1),if_neg (fun e => hne (h1.trans e.1.symm))]
  omega
 ·rw [if_pos ⟨h1,h2⟩]
  split <;> omega
def wuN (N : Nat) (cs : List S71) (b : Nat) (y : Int) (l : List Int) : Nat:=if upN N cs b ∈ l ∧ 0 ≤ upN N cs b ∧ upN N cs b ≠ y then 43046721 * (wL N cs b).length else 0
def wlN (N : Nat) (cs : List S71) (b : Nat) (y : Int) (l : List Int) : Nat:=wuN N cs b y l + l.length * 9 ^ (7 - (wL N cs b).length)
theorem wu_mono {N : Nat} {cs : List S71} {k y : Int} {b : Nat} {l : List Int} : wuN N cs b y l ≤ wuN N cs b y (k :: l):=by
 unfold wuN
 split
 ·rename_i h5
  rw [if_pos ⟨List.mem_cons_of_mem _ h5.1,h5.2⟩]
  exact Nat.le_refl _
 ·exact Nat.zero_le _
theorem wl_cons {N : Nat} {cs : List S71} (hv : cabsB (N : Int) cs = true) {k y : Int} {b o : Nat} (h : TJ N cs k b o) (hne : k ≠ y) {l : List Int} (hnd : (k :: l).Nodup) : wtN N cs o k + wlN N cs b y l ≤ wlN N cs b y (k :: l):=by
 have hlt:=h.lt hv
 have hkl:=(List.nodup_cons.1 hnd).1
 have l1:=wL_len hv hlt.1
 have l2:=wL_len hv hlt.2
 unfold wtN wlN
 rw [List.length_cons,Nat.add_mul l.length 1,Nat.one_mul]
 rcases wL_tj hv h with ⟨h1,h2,h3,h4⟩ | ⟨h1,h2,h3,h4⟩
 ·have e1 : wuN N cs b y l = 0:=by unfold wuN;rw [if_neg (fun e => hkl (h1 ▸ e.1))]
  have e2 : wuN N cs b y (k :: l) = 43046721 * (wL N cs b).length:=by unfold wuN;rw [if_pos ⟨by rw [← h1];exact List.mem_cons_self,by omega,by rw [← h1];exact hne⟩]
  rw [if_neg (fun e => h4 e.1),e1,e2,← h3]
  generalize 9 ^ (7 - (wL N cs b).length) = q
  generalize l.length * q = lq
  omega
 ·have e8 : 8 - (wL N cs o).length = 7 - (wL N cs b).length:=by omega
  rw [if_pos ⟨h1,h2⟩,e8]
  have:=wu_mono (N:=N) (cs:=cs) (k:=k) (y:=y) (b:=b) (l:=l)
  generalize 9 ^ (7 - (wL N cs b).length) = q
  generalize l.length * q = lq
  omega
theorem wl_skip {N : Nat} {cs : List S71} {k y : Int} {b : Nat} {l : List Int} : wlN N cs b y l ≤ wlN N cs b y (k :: l):=by
 unfold wlN
 rw [List.length_cons,Nat.add_mul l.length 1,Nat.one_mul]
 have:=wu_mono (N:=N) (cs:=cs) (k:=k) (y:=y) (b:=b) (l:=l)
 generalize 9 ^ (7 - (wL N cs b).length) = q
 generalize l.length * q = lq
 omega
theorem wl_all {N : Nat} {cs : List S71} (hv : cabsB (N : Int) cs = true) {b : Nat} (hb : b < N) (y : Int) {l : List Int} (hl : l.length ≤ 8) : wlN N cs b y l + 1 ≤ wtN N cs b y:=by
 have l1:=wL_len hv hb
 unfold wlN wtN
 have hp : 1 ≤ 9 ^ (7 - (wL N cs b).length):=Nat.one_le_pow _ _ (by omega)
 have hm : l.length * 9 ^ (7 - (wL N cs b).length) ≤ 8 * 9 ^ (7 - (wL N cs b).length):=Nat.mul_le_mul_right _ hl
 by_cases h : y = upN N cs b ∧ 0 ≤ y
 ·have e0 : wuN N cs b y l = 0:=by unfold wuN;rw [if_neg (fun e => e.2.2 h.1.symm)]
  have e : 9 ^ (8 - (wL N cs b).length) = 9 * 9 ^ (7 - (wL N cs b).length):=by rw [show 8 - (wL N cs b).length = (7 - (wL N cs b).length) + 1 from by omega,Nat.pow_succ,Nat.mul_comm]
  rw [if_pos h,e0,e]
  generalize 9 ^ (7 - (wL N cs b).length) = q at *
  omega
 ·have h7 : 9 ^ (7 - (wL N cs b).length) ≤ 9 ^ 7:=Nat.pow_le_pow_right (by omega) (by omega)
  have e7 : (9 : Nat) ^ 7 = 4782969:=by decide
  have h0 : wuN N cs b y l ≤ 43046721 * (wL N cs b).length:=by unfold wuN;split <;> omega
  rw [e7] at h7
  rw [if_neg h]
  generalize 9 ^ (7 - (wL N cs b).length) = q at *
  omega
theorem wt_max {N : Nat} {cs : List S71} (hv : cabsB (N : Int) cs = true) {b : Nat} (hb : b < N) (y : Int) : wtN N cs b y ≤ 400000000:=by
 have l1:=wL_len hv hb
 unfold wtN
 split
 ·have h1 : 9 ^ (8 - (wL N cs b).length) ≤ 9 ^ 8:=Nat.pow_le_pow_right (by omega) (by omega)
  have h2 : (9 : Nat) ^ 8 = 43046721:=by decide
  rw [h2] at h1
  omega
 ·omega

-- LIB netlaw2
def hmN (hs : List Int) (s : Nat) : Nat:=(rd hs s).toNat
theorem takeN_mem (fr rc i : Int) (l : List Int) (s : Int) : s ∈ takeN fr rc i l ↔ s ∈ l ∨ (s = i ∧ i ≠ fr ∧ (rc = i ∨ rc = 15)):=by
 unfold takeN
 split
 ·rename_i h
  rw [List.mem_append,List.mem_singleton]
  exact ⟨fun h1 => h1.imp id (fun e => ⟨e,h.1,h.2⟩),fun h1 => h1.imp id (fun e => e.1)⟩
 ·rename_i h
  exact ⟨Or.inl,fun h1 => h1.elim id (fun e => absurd ⟨e.2.1,e.2.2⟩ h)⟩
theorem takeN_len (fr rc i : Int) (l : List Int) : (takeN fr rc i l).length ≤ l.length + 1:=by unfold takeN;split <;> simp
theorem stN_mem (hs vs : List Int) (b v fr rc : Int) (d : Nat) : ∀ (i : Nat) (l : List Int),(∀ s,s ∈ stN hs vs b v fr rc d (i : Int) l ↔ s ∈ l ∨ ∃ S : Nat,i ≤ S ∧ S < i + d ∧ s = (S : Int) ∧ rd hs S = b ∧ rd vs S = v ∧ (S : Int) ≠ fr ∧ (rc = S ∨ rc = 15)) ∧ (stN hs vs b v fr rc d (i : Int) l).length ≤ l.length + d:=by
 induction d with
 | zero => exact fun i l => ⟨fun s => ⟨Or.inl,fun h => h.elim id (fun ⟨S,h1,h2,_⟩ => by omega)⟩,Nat.le_refl _⟩
 | succ d ih =>
  intro i l
  have hl : (if rd hs (i : Int) = b ∧ rd vs (i : Int) = v then takeN fr rc i l else l).length ≤ l.length + 1:=by
   split
   ·exact takeN_len _ _ _ _
   ·omega
  obtain ⟨h1,h2⟩:=ih (i + 1) (if rd hs (i : Int) = b ∧ rd vs (i : Int) = v then takeN fr rc i l else l)
  rw [stN,show (i : Int) + 1 = ((i + 1 : Nat) : Int) from by omega]
  refine ⟨fun s => (h1 s).trans ⟨fun h => ?_,fun h => ?_⟩,by omega⟩
  ·rcases h with h | ⟨S,a1,a2,a3⟩
   ·split at h
    ·rename_i hc
     rcases (takeN_mem _ _ _ _ _).1 h with h | ⟨e,e2,e3⟩
     ·exact Or.inl h
     ·exact Or.inr ⟨i,Nat.le_refl _,by omega,e,hc.1,hc.2,e2,e3⟩
    ·exact Or.inl h
   ·exact Or.inr ⟨S,by omega,by omega,a3⟩
  ·rcases h with h | ⟨S,a1,a2,a3,a4,a5,a6,a7⟩
   ·refine Or.inl ?_
    split
    ·exact (takeN_mem _ _ _ _ _).2 (Or.inl h)
    ·exact h
   ·by_cases e : S = i
    ·subst e
     refine Or.inl ?_
     rw [if_pos ⟨a4,a5⟩]
     exact (takeN_mem _ _ _ _ _).2 (Or.inr ⟨a3,a6,a7⟩)
    ·exact Or.inr ⟨S,by omega,by omega,a3,a4,a5,a6,a7⟩
structure NV (N : Nat) (cs : List S71) (hs vs : List Int) (F : Nat) (v rc : Int) : Prop where
 hn : netB (N : Int) cs hs vs = true
 hF : F < hs.length
 hv : rd vs F = v
 hr : (0 ≤ rc ∧ rc < hs.length) ∨ rc = 15
def InvT (N : Nat) (cs : List S71) (hs vs : List Int) (T : TabN) : Prop :=
 ∀ b v s x,T b v s = some x → ∃ B S : Nat,b = (B : Int) ∧ s = (S : Int) ∧ B < N ∧ S < hs.length ∧ v = rd vs S ∧ gD (rootsL N cs) B = gD (rootsL N cs) (hmN hs S) ∧ ((x = -1 ∧ B = hmN hs S) ∨ ∃ o,TJ N cs x B o ∧ Sep N cs x B (hmN hs S))
def AtB (N : Nat) (cs : List S71) (h0 b : Nat) (y : Int) : Prop:=gD (rootsL N cs) b = gD (rootsL N cs) h0 ∧ ((y = -1 ∧ b = h0) ∨ ∃ o,TJ N cs y b o ∧ Sep N cs y b h0)
def szN (st : RN) (w : Nat) : Prop:=st.over.length + w < 1000000000000 ∧ st.took.length + 15 * w < 1000000000000 ∧ st.n + w < 1000000000000
structure Base (N : Nat) (cs : List S71) (hs vs : List Int) (F : Nat) (v rc : Int) (w b : Nat) (st st' : RN) : Prop where
 lo : st'.over.length ≤ st.over.length + w
 lt : st'.took.length ≤ st.took.length + 15 * w
 ln : st'.n ≤ st.n + w
 inv : InvT N cs hs vs st'.T
 old : ∀ x y s,st.T x y s ≠ none → st'.T x y s ≠ none
 oth : ∀ x y s,¬ (y = v ∧ s = (F : Int)) → st'.T x y s = st.T x y s
 ov0 : ∀ j ∈ st.over,j ∈ st'.over
 ov1 : ∀ j ∈ st'.over,j ∈ st.over ∨ ∃ e o,TJ N cs j e o ∧ gD (rootsL N cs) e = gD (rootsL N cs) b
 tk0 : ∀ s ∈ st.took,s ∈ st'.took
 tk1 : ∀ s ∈ st'.took,s ∈ st.took ∨ ∃ S : Nat,s = (S : Int) ∧ S < hs.length ∧ S ≠ F ∧ (rc = S ∨ rc = 15) ∧ rd vs S = v ∧ gD (rootsL N cs) (hmN hs S) = gD (rootsL N cs) b
section
variable {N : Nat} {cs : List S71} {hs vs : List Int} {F : Nat} {v rc : Int}
theorem Base.refl {b : Nat} {st : RN} (h : InvT N cs hs vs st.T) : Base N cs hs vs F v rc 0 b st st:=⟨by omega,by omega,by omega,h,fun _ _ _ h => h,fun _ _ _ _ => rfl,fun _ h => h,fun _ h => Or.inl h,fun _ h => h,fun _ h => Or.inl h⟩
theorem Base.trans {w w2 b : Nat} {st st1 st2 : RN} (h : Base N cs hs vs F v rc w b st st1) (g : Base N cs hs vs F v rc w2 b st1 st2) : Base N cs hs vs F v rc (w + w2) b st st2 :=
 ⟨by have:=h.lo;have:=g.lo;omega,by have:=h.lt;have:=g.lt;omega,by have:=h.ln;have:=g.ln;omega,g.inv,fun x y s hx => g.old x y s (h.old x y s hx),fun x y s hx => (g.oth x y s hx).trans (h.oth x y s hx),fun j hj => g.ov0 j (h.ov0 j hj),
  fun j hj => (g.ov1 j hj).elim (fun h1 => h.ov1 j h1) Or.inr,fun j hj => g.tk0 j (h.tk0 j hj),fun j hj => (g.tk1 j hj).elim (fun h1 => h.tk1 j h1) Or.inr⟩
theorem Base.wide {w w2 b : Nat} {st st1 : RN} (h : Base N cs hs vs F v rc w b st st1) (hw : w ≤ w2) : Base N cs hs vs F v rc w2 b st st1 :=
 ⟨by have:=h.lo;omega,by have:=h.lt;omega,by have:=h.ln;omega,h.inv,h.old,h.oth,h.ov0,h.ov1,h.tk0,h.tk1⟩
def Tgt (hs vs : List Int) (v rc : Int) (t : Nat) : Prop:=rc = 15 ∨ ∃ R : Nat,rc = (R : Int) ∧ R < hs.length ∧ rd vs R = v ∧ t = hmN hs R
def OnP (N : Nat) (cs : List S71) (b c t : Nat) : Prop:=∀ j,¬ (Sep N cs j b c ∧ Sep N cs j c t)
def Concl (N : Nat) (cs : List S71) (hs vs : List Int) (F : Nat) (v rc : Int) (b t : Nat) (st' : RN) : Prop :=
 (∀ S : Nat,S < hs.length → hmN hs S = t → rd vs S = v → S ≠ F → (rc = S ∨ rc = 15) → (S : Int) ∈ st'.took) ∧ (∀ j,Sep N cs j b t → j ∈ st'.over) ∧ ∀ c,c < N → gD (rootsL N cs) c = gD (rootsL N cs) b → c ≠ b → OnP N cs b c t → st'.T c v F ≠ none
theorem Concl.grow {w b b2 t : Nat} {st st2 : RN} (h : Concl N cs hs vs F v rc b t st) (g : Base N cs hs vs F v rc w b2 st st2) : Concl N cs hs vs F v rc b t st2 :=
 ⟨fun S a1 a2 a3 a4 a5 => g.tk0 _ (h.1 S a1 a2 a3 a4 a5),fun j hj => g.ov0 j (h.2.1 j hj),fun c a1 a2 a3 a4 => g.old _ _ _ (h.2.2 c a1 a2 a3 a4)⟩
def Narrow (N : Nat) (cs : List S71) (hs vs : List Int) (F : Nat) (v rc : Int) (b : Nat) (P : Nat → Prop) (st st' : RN) : Prop :=
 ∀ R : Nat,rc = (R : Int) → R < hs.length → R ≠ F → rd vs R = v → gD (rootsL N cs) (hmN hs R) = gD (rootsL N cs) b → P (hmN hs R) → (∀ c,c < N → gD (rootsL N cs) c = gD (rootsL N cs) b → OnP N cs b c (hmN hs R) → st.T c v R ≠ none) → ∀ j ∈ st'.over,j ∈ st.over ∨ Sep N cs j b (hmN hs R)
def ComeOK (N : Nat) (cs : List S71) (hs vs : List Int) (F : Nat) (v rc : Int) (f : Nat) : Prop :=
 ∀ (b : Nat) (y : Int) (st : RN),b < N → InvT N cs hs vs st.T → AtB N cs (hmN hs F) b y → muN N cs b y ≤ f → szN st (wtN N cs b y) →
  ∃ st',comeN cs (treeX (N : Int) cs) hs vs v F rc f b y st = some st' ∧ Base N cs hs vs F v rc (wtN N cs b y) b st st' ∧ st'.over.length + 1 ≤ st.over.length + wtN N cs b y ∧ st'.T b v F ≠ none ∧
   (∀ t,t < N → gD (rootsL N cs) t = gD (rootsL N cs) b → ¬ Sep N cs y b t → Tgt hs vs v rc t → Concl N cs hs vs F v rc b t st') ∧ Narrow N cs hs vs F v rc b (fun t => ¬ Sep N cs y b t) st st'
theorem hop_one (hv : cabsB (N : Int) cs = true) {k : Int} {b o t c : Nat} (hk : TJ N cs k b o) (ht : t < N) (hs : Sep N cs k b t) (hc : c < N) (hr : gD (rootsL N cs) c = gD (rootsL N cs) b) (hne : c ≠ b) (hp : OnP N cs b c t) : Sep N cs k b c ∧ OnP N cs o c t:=by
 obtain ⟨k2,o2,h1,h2⟩:=sep_some hv (hk.lt hv).1 hc hr.symm (fun e => hne e.symm)
 have h3 : ¬ Sep N cs k2 c t:=fun h => hp k2 ⟨h2,h⟩
 have h4 : Sep N cs k2 b t:=by
  by_cases h : Sep N cs k2 b t
  ·exact h
  ·have:=sep_tri (c:=t) h2
   exact (h (this.2 (fun h5 => h3 (sep_symm h5)))).elim
 obtain rfl:=sep_one hv ht hk h1 hs h4
 refine ⟨h2,fun j ⟨h5,h6⟩ => ?_⟩
 by_cases e : j = k
 ·subst e
  exact (sep_flip hv hk c).1 h2 h5
 ·exact hp j ⟨(sep_keep hv hk e c).2 h5,h6⟩
theorem onp_out (hv : cabsB (N : Int) cs = true) {k : Int} {b o t c : Nat} (hk : TJ N cs k b o) (hs : Sep N cs k b t) (hp : OnP N cs o c t) : OnP N cs b c t:=by
 rintro j ⟨h1,h2⟩
 by_cases e : j = k
 ·subst e
  exact (sep_tri (c:=c) hs).1 h1 h2
 ·exact hp j ⟨(sep_keep hv hk e c).1 h1,h2⟩
end

end Go.Proofs.YtblcnbnphjnhdaaDoor.PAll

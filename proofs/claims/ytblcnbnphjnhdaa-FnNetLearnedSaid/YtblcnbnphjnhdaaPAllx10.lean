/- Proved here: contracts of functions of the given program, or lemmas on them, for the laws of this seat. Written by xprint.py, a program of this session, on the ground of the kit's print; parts by hand: wip/x/ext. -/
import Derived.Test.YtblcnbnphjnhdaaPAllx0
import Derived.Test.YtblcnbnphjnhdaaPAllx1
import Derived.Test.YtblcnbnphjnhdaaPAllx2
import Derived.Test.YtblcnbnphjnhdaaPAllx5
import Derived.Test.YtblcnbnphjnhdaaPAllx6
import Derived.Test.YtblcnbnphjnhdaaPAllx9
namespace Go.Proofs.Ytblcnbnphjnhdaa.PAll
open Go.RowKit Go.Proofs.YtblcnbnphjnhdaaW.PrintWords Go.Proofs.YtblcnbnphjnhdaaW.PrintLast Go.Proofs.YtblcnbnphjnhdaaW.PrintMore
attribute [local go_sem] max2_int min2_int max_two min_two max_three min_three max_four min_four   -- for this text's walks alone
set_option linter.unusedVariables false
set_option linter.unusedSimpArgs false

/-! ### spec_RunNet: function 10 (by hand) -/
def spec_RunNet.f (a0_0 : Int) (l0_1 : List (S83)) (l0_2 : List Int) (l0_3 : List Int) (l1 : List (S37)) : Option ((List (List Int)) × (List (List Int)) × Bool) :=
 if runB a0_0 l0_1 l0_2 l0_3 l1 = true then (framesS l0_1 (treeX a0_0 l0_1) l0_2 l0_3 l1 (List.replicate (a0_0 * 150).toNat (-1))).map (fun p => (p.1,p.2,true)) else some ([],[],false)
set_option maxHeartbeats 4000000 in
set_option maxRecDepth 100000 in
theorem spec_RunNet.calls (a0_0 : Int) (A0_1 : Option Addr) (c0_1 : Nat) (l0_1 : List (S83)) (A0_2 : Option Addr) (c0_2 : Nat) (l0_2 : List Int) (A0_3 : Option Addr) (c0_3 : Nat) (l0_3 : List Int) (A1 : Option Addr) (c1 : Nat) (l1 : List (S37)) (r1 : List (List Int)) (r2 : List (List Int)) (r3 : Bool) (w : World) (hr0_1 : Kd.C k83 w A0_1 l0_1.length l0_1) (hc0_1 : l0_1.length ≤ c0_1) (hr0_2 : Kd.C (Kd.int .i64) w A0_2 l0_2.length l0_2) (hc0_2 : l0_2.length ≤ c0_2) (hr0_3 : Kd.C (Kd.int .i64) w A0_3 l0_3.length l0_3) (hc0_3 : l0_3.length ≤ c0_3) (hr1 : Kd.C k37 w A1 l1.length l1) (hc1 : l1.length ≤ c1) (h : spec_RunNet.f a0_0 l0_1 l0_2 l0_3 l1 = some (r1,r2,r3)) :
  Calls Try.prog 10 #[.agg #[.int .i64 a0_0,.slice A0_1 l0_1.length c0_1,.slice A0_2 l0_2.length c0_2,.slice A0_3 l0_3.length c0_3],.slice A1 l1.length c1] w fun e w' => ∃ v0_ v1_ : Value,e = .returned (.tuple #[.agg #[v0_,v1_],.bool r3]) ∧ Kd.S (Kd.slice 3 (Kd.int .i64)) 24 w' w.heap.size (fun k_ => some k_ ≠ (v1_ : Value).ownBlock) v0_ r1 ∧ Kd.S (Kd.slice 3 (Kd.int .i64)) 24 w' w.heap.size (fun k_ => some k_ ≠ (v0_ : Value).ownBlock) v1_ r2 ∧ Below w.heap.size w w':=by
 unfold spec_RunNet.f at h
 obtain ⟨fin,hfin,rfl,rfl,rfl⟩ : ∃ fin : List (List Int) × List (List Int),(if runB a0_0 l0_1 l0_2 l0_3 l1 = true then framesS l0_1 (treeX a0_0 l0_1) l0_2 l0_3 l1 (List.replicate (a0_0 * 150).toNat (-1)) = some fin else fin = ([],[])) ∧ fin.1 = r1 ∧ fin.2 = r2 ∧ runB a0_0 l0_1 l0_2 l0_3 l1 = r3:=by
  cases hok : runB a0_0 l0_1 l0_2 l0_3 l1 with
  | false =>
   rw [hok,if_neg (by decide)] at h
   have:=Option.some.inj h
   exact ⟨([],[]),by rw [if_neg (by decide)],congrArg (·.1) this,congrArg (·.2.1) this,congrArg (·.2.2) this⟩
  | true =>
   rw [hok,if_pos rfl] at h
   obtain ⟨fin,hfin,hf⟩:=Option.map_eq_some_iff.mp h
   exact ⟨fin,by rw [if_pos rfl];exact hfin,congrArg (·.1) hf,congrArg (·.2.1) hf,congrArg (·.2.2) hf⟩
 refine (x_RunNetS a0_0 A0_1 c0_1 l0_1 A0_2 c0_2 l0_2 A0_3 c0_3 l0_3 A1 c1 l1 w fin hfin hr0_1 hc0_1 hr0_2 hc0_2 hr0_3 hc0_3 hr1 hc1).mono ?_
 rintro e w1 ⟨v1,v2,P,Q,rfl,hd,h1,h2,hb⟩
 refine ⟨v1,v2,rfl,Kd.S_mono h1 ?_,Kd.S_mono h2 ?_,hb⟩
 ·obtain ⟨f,h2⟩:=h2
  exact fun k hk he => hd k hk (h2.1 k he.symm)
 ·obtain ⟨f,h1⟩:=h1
  exact fun k hk he => hd k (h1.1 k he.symm) hk

/-! ### laws_wnInts: function 13 -/
def laws_wnInts.l0 : Nat → List Int → List Int → Int → Int → Option (Bool)
 | 0,_,_,_,_ => none
 | k + 1,x1,x12,x13,x14 => if x14 < x13 then (if 0 ≤ x14 then (if x14 < (x12.length : Int) then (if x14 < (x1.length : Int) then (if (rd x1 x14) = (rd x12 x14) then (laws_wnInts.l0 k x1 x12 x13 (wrap64 (x14 + 1))) else (some false)) else (none)) else (none)) else (none)) else (some true)
def laws_wnInts.f (k : Nat) (l0 : List Int) (l1 : List Int) : Option (Bool):=if (l0.length : Int) = (l1.length : Int) then (laws_wnInts.l0 k l1 l0 (l0.length : Int) 0) else (some false)
theorem laws_wnInts.mono_l : ∀ k,(∀ y0 y1 y2 y3,LeO (laws_wnInts.l0 k y0 y1 y2 y3) (laws_wnInts.l0 (k + 1) y0 y1 y2 y3))
 | 0 => fun _ _ _ _ r h => by simp [laws_wnInts.l0] at h
 | k + 1 => by
  have ih0:=laws_wnInts.mono_l k
  ·intro y0 y1 y2 y3
   unfold laws_wnInts.l0
   repeat' first
   | (with_reducible exact ih0 _ _ _ _)
   | (with_reducible exact LeO.refl _)
   | (with_reducible exact LeO.none _)
   | (with_reducible refine LeO.ite ?_ ?_)
   | (with_reducible refine LeO.bind ?_ (fun _ => ?_))
   | exact ih0 _ _ _ _
   | exact LeO.none _
   | refine LeO.ite ?_ ?_
   | refine LeO.bind ?_ (fun _ => ?_)
theorem laws_wnInts.mono : ∀ a0 a1 k,LeO (laws_wnInts.f k a0 a1) (laws_wnInts.f (k + 1) a0 a1):=by
 intro a0 a1 k
 have ih0:=laws_wnInts.mono_l k
 unfold laws_wnInts.f
 repeat' first
   | (with_reducible exact ih0 _ _ _ _)
   | (with_reducible exact LeO.refl _)
   | (with_reducible exact LeO.none _)
   | (with_reducible refine LeO.ite ?_ ?_)
   | (with_reducible refine LeO.bind ?_ (fun _ => ?_))
   | exact ih0 _ _ _ _
   | exact LeO.none _
   | refine LeO.ite ?_ ?_
   | refine LeO.bind ?_ (fun _ => ?_)
set_option maxHeartbeats 8000000 in
set_option maxRecDepth 100000 in
theorem laws_wnInts.calls (k : Nat) (A0 : Option Addr) (c0 : Nat) (l0 : List Int) (A1 : Option Addr) (c1 : Nat) (l1 : List Int) (r : Bool) (w : World) (hr0 : Kd.C (Kd.int .i64) w A0 l0.length l0) (hc0 : l0.length ≤ c0) (hr1 : Kd.C (Kd.int .i64) w A1 l1.length l1) (hc1 : l1.length ≤ c1) (h : laws_wnInts.f k l0 l1 = some r) :
  Calls Try.prog 13 #[.slice A0 l0.length c0,.slice A1 l1.length c1] w fun e w' => e = .returned (.bool r) ∧ Drawn0 w w':=by
 have HR0:=mk_ hr0
 have HC0:=mk_ hc0
 clear hr0 hc0
 have HR1:=mk_ hr1
 have HC1:=mk_ hc1
 clear hr1 hc1
 have H : (if (l0.length : Int) = (l1.length : Int) then (laws_wnInts.l0 k l1 l0 (l0.length : Int) 0) else (some false)) = some r:=h
 clear h
 by_cases c3 : (l0.length : Int) = (l1.length : Int)
 ·rw [if_pos c3] at H
  have c3b0 : ((l0.length : Int) == (l1.length : Int)) = true:=beq_iff_eq.mpr c3
  have c3b1 : ((l0.length : Int) != (l1.length : Int)) = false:=bne_eq_false_iff_eq.mpr c3
  have c3b2 : (l0.length == l1.length) = true:=by first|simpa using c3|(simp at c3 ⊢;omega)
  clear c3
  have H':=mk_ H
  clear H
  go_enter Try.func13,Try.ntmps13
  go_wp2
  go_loopg [14] k (fun kq v14 w' => ∃ (x14_1 : Int),v14 = .int .i64 x14_1 ∧ Aside0 (laws_wnInts.l0 kq l1 l0 (l0.length : Int) x14_1 = some r) ∧ Aside0 (kq ≤ k) ∧ Drawn0 w w')
  case atStart => exact ⟨(0),qf_,H',⟨Nat.le_refl _⟩,by repeat (first|exact Drawn0.refl _|apply Drawn0.step)⟩
  case round =>
   clear H'
   try clear c1
   try clear p2
   try clear c3
   try clear c3b0
   try clear c3b1
   try clear c3b2
   obtain ⟨x14_1,rfl,HA,HK1,⟨m1,rfl⟩⟩:=hrel
   cases gk with
   | zero => exact absurd HA.out (by simp [laws_wnInts.l0])
   | succ k1 =>
    have H:=HA.out
    clear HA
    simp only [laws_wnInts.l0] at H
    by_cases c4 : x14_1 < (l0.length : Int)
    ·rw [if_pos c4] at H
     have c4b0 : decide (x14_1 < (l0.length : Int)) = true:=decide_eq_true c4
     clear c4
     by_cases c5 : 0 ≤ x14_1
     ·rw [if_pos c5] at H
      have c5b0 : decide (0 ≤ x14_1) = true:=decide_eq_true c5
      clear c5
      by_cases c6 : x14_1 < (l0.length : Int)
      ·rw [if_pos c6] at H
       have c6b0 : decide (x14_1 < (l0.length : Int)) = true:=decide_eq_true c6
       clear c6
       by_cases c7 : x14_1 < (l1.length : Int)
       ·rw [if_pos c7] at H
        have c7b0 : decide (x14_1 < (l1.length : Int)) = true:=decide_eq_true c7
        clear c7
        by_cases c8 : (rd l1 x14_1) = (rd l0 x14_1)
        ·rw [if_pos c8] at H
         have c8b0 : ((rd l1 x14_1) == (rd l0 x14_1)) = true:=beq_iff_eq.mpr c8
         have c8b1 : ((rd l1 x14_1) != (rd l0 x14_1)) = false:=bne_eq_false_iff_eq.mpr c8
         clear c8
         have H':=mk_ H
         clear H
         have p508 : 0 ≤ (x14_1 : Int):=od_ qa_
         have q508 : x14_1 < (l0.length : Int):=od_ qa_
         obtain ⟨ad508,e508,hx508_0⟩:=Kd.at_int HR0.out x14_1 p508 q508
         cases e508
         replace p508:=eq_true p508
         replace q508:=eq_true q508
         have p509 : 0 ≤ (x14_1 : Int):=od_ qa_
         have q509 : x14_1 < (l1.length : Int):=od_ qa_
         obtain ⟨ad509,e509,hx509_0⟩:=Kd.at_int HR1.out x14_1 p509 q509
         cases e509
         replace p509:=eq_true p509
         replace q509:=eq_true q509
         go_wp2
         go_roundg k1
         case measure => have:=HK1.out;omega
         case rel => exact ⟨(wrap64 (x14_1 + 1)),qf_,H',⟨by have:=HK1.out;omega⟩,by repeat (first|exact Drawn0.refl _|apply Drawn0.step)⟩
        ·rw [if_neg c8] at H
         have c8b0 : ((rd l1 x14_1) == (rd l0 x14_1)) = false:=beq_eq_false_iff_ne.mpr c8
         have c8b1 : ((rd l1 x14_1) != (rd l0 x14_1)) = true:=bne_iff_ne.mpr c8
         obtain rfl:=Option.some.inj H
         have p508 : 0 ≤ (x14_1 : Int):=od_ qa_
         have q508 : x14_1 < (l0.length : Int):=od_ qa_
         obtain ⟨ad508,e508,hx508_0⟩:=Kd.at_int HR0.out x14_1 p508 q508
         cases e508
         replace p508:=eq_true p508
         replace q508:=eq_true q508
         have p509 : 0 ≤ (x14_1 : Int):=od_ qa_
         have q509 : x14_1 < (l1.length : Int):=od_ qa_
         obtain ⟨ad509,e509,hx509_0⟩:=Kd.at_int HR1.out x14_1 p509 q509
         cases e509
         replace p509:=eq_true p509
         replace q509:=eq_true q509
         go_wp2
         go_ret
         exact ⟨by first|rfl|(simp;done)|(simp [*];done),by repeat (first|exact Drawn0.refl _|apply Drawn0.step)⟩
       ·rw [if_neg c7] at H
        exact absurd H (by simp)
      ·rw [if_neg c6] at H
       exact absurd H (by simp)
     ·rw [if_neg c5] at H
      exact absurd H (by simp)
    ·rw [if_neg c4] at H
     have c4b0 : decide (x14_1 < (l0.length : Int)) = false:=decide_eq_false c4
     clear c4
     obtain rfl:=Option.some.inj H
     go_wp2
     go_ret
     exact ⟨by first|rfl|(simp;done)|(simp [*];done),by repeat (first|exact Drawn0.refl _|apply Drawn0.step)⟩
 ·rw [if_neg c3] at H
  have c3b0 : ((l0.length : Int) == (l1.length : Int)) = false:=beq_eq_false_iff_ne.mpr c3
  have c3b1 : ((l0.length : Int) != (l1.length : Int)) = true:=bne_iff_ne.mpr c3
  have c3b2 : (l0.length == l1.length) = false:=by first|simpa using c3|(simp at c3 ⊢;omega)
  obtain rfl:=Option.some.inj H
  go_enter Try.func13,Try.ntmps13
  go_wp2
  go_ret
  exact ⟨by first|rfl|(simp;done)|(simp [*];done),by repeat (first|exact Drawn0.refl _|apply Drawn0.step)⟩

/-! ### laws_wnPairs: function 11 -/
def laws_wnPairs.l0 : Nat → List (List Int) → List (List Int) → Int → Int → Option (Bool)
 | 0,_,_,_,_ => none
 | k + 1,x1,x12,x13,x14 => if x14 < x13 then (if 0 ≤ x14 then (if x14 < (x12.length : Int) then (if x14 < (x1.length : Int) then ((laws_wnInts.f k (rd_L4 x12 x14) (rd_L4 x1 x14)).bind fun t512 => (if t512 = true then (laws_wnPairs.l0 k x1 x12 x13 (wrap64 (x14 + 1))) else (some false))) else (none)) else (none)) else (none)) else (some true)
def laws_wnPairs.f (k : Nat) (l0 : List (List Int)) (l1 : List (List Int)) : Option (Bool):=if (l0.length : Int) = (l1.length : Int) then (laws_wnPairs.l0 k l1 l0 (l0.length : Int) 0) else (some false)
theorem laws_wnPairs.mono_l : ∀ k,(∀ y0 y1 y2 y3,LeO (laws_wnPairs.l0 k y0 y1 y2 y3) (laws_wnPairs.l0 (k + 1) y0 y1 y2 y3))
 | 0 => fun _ _ _ _ r h => by simp [laws_wnPairs.l0] at h
 | k + 1 => by
  have ih0:=laws_wnPairs.mono_l k
  ·intro y0 y1 y2 y3
   unfold laws_wnPairs.l0
   repeat' first
   | (with_reducible exact ih0 _ _ _ _)
   | (with_reducible exact laws_wnInts.mono _ _ _)
   | (with_reducible exact LeO.refl _)
   | (with_reducible exact LeO.none _)
   | (with_reducible refine LeO.ite ?_ ?_)
   | (with_reducible refine LeO.bind ?_ (fun _ => ?_))
   | exact ih0 _ _ _ _
   | exact laws_wnInts.mono _ _ _
   | exact LeO.none _
   | refine LeO.ite ?_ ?_
   | refine LeO.bind ?_ (fun _ => ?_)
theorem laws_wnPairs.mono : ∀ a0 a1 k,LeO (laws_wnPairs.f k a0 a1) (laws_wnPairs.f (k + 1) a0 a1):=by
 intro a0 a1 k
 have ih0:=laws_wnPairs.mono_l k
 unfold laws_wnPairs.f
 repeat' first
   | (with_reducible exact ih0 _ _ _ _)
   | (with_reducible exact laws_wnInts.mono _ _ _)
   | (with_reducible exact LeO.refl _)
   | (with_reducible exact LeO.none _)
   | (with_reducible refine LeO.ite ?_ ?_)
   | (with_reducible refine LeO.bind ?_ (fun _ => ?_))
   | exact ih0 _ _ _ _
   | exact laws_wnInts.mono _ _ _
   | exact LeO.none _
   | refine LeO.ite ?_ ?_
   | refine LeO.bind ?_ (fun _ => ?_)
set_option maxHeartbeats 8000000 in
set_option maxRecDepth 100000 in
theorem laws_wnPairs.calls (k : Nat) (A0 : Option Addr) (c0 : Nat) (l0 : List (List Int)) (A1 : Option Addr) (c1 : Nat) (l1 : List (List Int)) (r : Bool) (w : World) (hr0 : Kd.C (Kd.slice 3 (Kd.int .i64)) w A0 l0.length l0) (hc0 : l0.length ≤ c0) (hr1 : Kd.C (Kd.slice 3 (Kd.int .i64)) w A1 l1.length l1) (hc1 : l1.length ≤ c1) (h : laws_wnPairs.f k l0 l1 = some r) :
  Calls Try.prog 11 #[.slice A0 l0.length c0,.slice A1 l1.length c1] w fun e w' => e = .returned (.bool r) ∧ Drawn0 w w':=by
 have HR0:=mk_ hr0
 have HC0:=mk_ hc0
 clear hr0 hc0
 have HR1:=mk_ hr1
 have HC1:=mk_ hc1
 clear hr1 hc1
 have H : (if (l0.length : Int) = (l1.length : Int) then (laws_wnPairs.l0 k l1 l0 (l0.length : Int) 0) else (some false)) = some r:=h
 clear h
 by_cases c3 : (l0.length : Int) = (l1.length : Int)
 ·rw [if_pos c3] at H
  have c3b0 : ((l0.length : Int) == (l1.length : Int)) = true:=beq_iff_eq.mpr c3
  have c3b1 : ((l0.length : Int) != (l1.length : Int)) = false:=bne_eq_false_iff_eq.mpr c3
  have c3b2 : (l0.length == l1.length) = true:=by first|simpa using c3|(simp at c3 ⊢;omega)
  clear c3
  have H':=mk_ H
  clear H
  go_enter Try.func11,Try.ntmps11
  go_wp2
  go_loopg [14] k (fun kq v14 w' => ∃ (x14_1 : Int),v14 = .int .i64 x14_1 ∧ Aside0 (laws_wnPairs.l0 kq l1 l0 (l0.length : Int) x14_1 = some r) ∧ Aside0 (kq ≤ k) ∧ Drawn0 w w')
  case atStart => exact ⟨(0),qf_,H',⟨Nat.le_refl _⟩,by repeat (first|exact Drawn0.refl _|apply Drawn0.step)⟩
  case round =>
   clear H'
   try clear c1
   try clear p2
   try clear c3
   try clear c3b0
   try clear c3b1
   try clear c3b2
   obtain ⟨x14_1,rfl,HA,HK1,⟨m1,rfl⟩⟩:=hrel
   cases gk with
   | zero => exact absurd HA.out (by simp [laws_wnPairs.l0])
   | succ k1 =>
    have H:=HA.out
    clear HA
    simp only [laws_wnPairs.l0] at H
    by_cases c4 : x14_1 < (l0.length : Int)
    ·rw [if_pos c4] at H
     have c4b0 : decide (x14_1 < (l0.length : Int)) = true:=decide_eq_true c4
     clear c4
     by_cases c5 : 0 ≤ x14_1
     ·rw [if_pos c5] at H
      have c5b0 : decide (0 ≤ x14_1) = true:=decide_eq_true c5
      clear c5
      by_cases c6 : x14_1 < (l0.length : Int)
      ·rw [if_pos c6] at H
       have c6b0 : decide (x14_1 < (l0.length : Int)) = true:=decide_eq_true c6
       clear c6
       by_cases c7 : x14_1 < (l1.length : Int)
       ·rw [if_pos c7] at H
        have c7b0 : decide (x14_1 < (l1.length : Int)) = true:=decide_eq_true c7
        clear c7
        replace H:=Option.bind_eq_some_iff.mp H
        obtain ⟨t512,A80,H⟩:=H
        replace H : (if t512 = true then (laws_wnPairs.l0 k1 l1 l0 (l0.length : Int) (wrap64 (x14_1 + 1))) else (some false)) = some r:=H
        have A8:=mk_ A80
        clear A80
        by_cases c9 : t512 = true
        ·subst c9
         have H1 : (laws_wnPairs.l0 k1 l1 l0 (l0.length : Int) (wrap64 (x14_1 + 1))) = some r:=by rw [if_pos rfl] at H;exact H
         clear H
         have H:=H1
         clear H1
         have H':=mk_ H
         clear H
         have p510 : 0 ≤ (x14_1 : Int):=od_ qa_
         have q510 : x14_1 < (l0.length : Int):=od_ qa_
         obtain ⟨ad510,A510_0,c510_0,e510,hx510_0,hl510_0,hi510_0⟩:=at_L4 HR0.out x14_1 p510 q510
         cases e510
         have HR510_0:=mk_ hi510_0
         have HC510_0:=mk_ hl510_0
         clear hi510_0 hl510_0
         replace p510:=eq_true p510
         replace q510:=eq_true q510
         have p511 : 0 ≤ (x14_1 : Int):=od_ qa_
         have q511 : x14_1 < (l1.length : Int):=od_ qa_
         obtain ⟨ad511,A511_0,c511_0,e511,hx511_0,hl511_0,hi511_0⟩:=at_L4 HR1.out x14_1 p511 q511
         cases e511
         have HR511_0:=mk_ hi511_0
         have HC511_0:=mk_ hl511_0
         clear hi511_0 hl511_0
         replace p511:=eq_true p511
         replace q511:=eq_true q511
         go_wp2_with (first|((with_reducible refine gate_callee (f:=13) rfl ?_);refine goesL_ (some 24) rfl rfl Try.func13 (by kernel_rfl) rfl #[.slice A510_0 (rd_L4 l0 x14_1).length c510_0,.slice A511_0 (rd_L4 l1 x14_1).length c511_0] rfl qm_ ?_;(with_reducible refine (laws_wnInts.calls k1 _ _ (rd_L4 l0 x14_1) _ _ (rd_L4 l1 x14_1) true _ ?side1 ?side2 ?side3 ?side4 A8.out).mono ?_);(case side1 => repeat (first|exact HR510_0.out|(with_reducible refine ca_ ?_ _)|(with_reducible refine cn_ ?_ _)|(with_reducible refine cd_ ?_)));(case side2 => exact HC510_0.out);(case side3 => repeat (first|exact HR511_0.out|(with_reducible refine ca_ ?_ _)|(with_reducible refine cn_ ?_ _)|(with_reducible refine cd_ ?_)));(case side4 => exact HC511_0.out);rintro e w' ⟨rfl,⟨nd,rfl⟩⟩;refine ⟨_,rfl,?_⟩))
         go_roundg k1
         case measure => have:=HK1.out;omega
         case rel => exact ⟨(wrap64 (x14_1 + 1)),qf_,H',⟨by have:=HK1.out;omega⟩,by repeat (first|exact Drawn0.refl _|apply Drawn0.step)⟩
        ·replace c9:=Bool.eq_false_iff.mpr c9
         subst c9
         have H1 : (some false) = some r:=by rw [if_neg (show ¬ (false = true) by decide)] at H;exact H
         clear H
         have H:=H1
         clear H1
         obtain rfl:=Option.some.inj H
         have p510 : 0 ≤ (x14_1 : Int):=od_ qa_
         have q510 : x14_1 < (l0.length : Int):=od_ qa_
         obtain ⟨ad510,A510_0,c510_0,e510,hx510_0,hl510_0,hi510_0⟩:=at_L4 HR0.out x14_1 p510 q510
         cases e510
         have HR510_0:=mk_ hi510_0
         have HC510_0:=mk_ hl510_0
         clear hi510_0 hl510_0
         replace p510:=eq_true p510
         replace q510:=eq_true q510
         have p511 : 0 ≤ (x14_1 : Int):=od_ qa_
         have q511 : x14_1 < (l1.length : Int):=od_ qa_
         obtain ⟨ad511,A511_0,c511_0,e511,hx511_0,hl511_0,hi511_0⟩:=at_L4 HR1.out x14_1 p511 q511
         cases e511
         have HR511_0:=mk_ hi511_0
         have HC511_0:=mk_ hl511_0
         clear hi511_0 hl511_0
         replace p511:=eq_true p511
         replace q511:=eq_true q511
         go_wp2_with (first|((with_reducible refine gate_callee (f:=13) rfl ?_);refine goesL_ (some 24) rfl rfl Try.func13 (by kernel_rfl) rfl #[.slice A510_0 (rd_L4 l0 x14_1).length c510_0,.slice A511_0 (rd_L4 l1 x14_1).length c511_0] rfl qm_ ?_;(with_reducible refine (laws_wnInts.calls k1 _ _ (rd_L4 l0 x14_1) _ _ (rd_L4 l1 x14_1) false _ ?side1 ?side2 ?side3 ?side4 A8.out).mono ?_);(case side1 => repeat (first|exact HR510_0.out|(with_reducible refine ca_ ?_ _)|(with_reducible refine cn_ ?_ _)|(with_reducible refine cd_ ?_)));(case side2 => exact HC510_0.out);(case side3 => repeat (first|exact HR511_0.out|(with_reducible refine ca_ ?_ _)|(with_reducible refine cn_ ?_ _)|(with_reducible refine cd_ ?_)));(case side4 => exact HC511_0.out);rintro e w' ⟨rfl,⟨nd,rfl⟩⟩;refine ⟨_,rfl,?_⟩))
         go_ret
         exact ⟨by first|rfl|(simp;done)|(simp [*];done),by repeat (first|exact Drawn0.refl _|apply Drawn0.step)⟩
       ·rw [if_neg c7] at H
        exact absurd H (by simp)
      ·rw [if_neg c6] at H
       exact absurd H (by simp)
     ·rw [if_neg c5] at H
      exact absurd H (by simp)
    ·rw [if_neg c4] at H
     have c4b0 : decide (x14_1 < (l0.length : Int)) = false:=decide_eq_false c4
     clear c4
     obtain rfl:=Option.some.inj H
     go_wp2
     go_ret
     exact ⟨by first|rfl|(simp;done)|(simp [*];done),by repeat (first|exact Drawn0.refl _|apply Drawn0.step)⟩
 ·rw [if_neg c3] at H
  have c3b0 : ((l0.length : Int) == (l1.length : Int)) = false:=beq_eq_false_iff_ne.mpr c3
  have c3b1 : ((l0.length : Int) != (l1.length : Int)) = true:=bne_iff_ne.mpr c3
  have c3b2 : (l0.length == l1.length) = false:=by first|simpa using c3|(simp at c3 ⊢;omega)
  obtain rfl:=Option.some.inj H
  go_enter Try.func11,Try.ntmps11
  go_wp2
  go_ret
  exact ⟨by first|rfl|(simp;done)|(simp [*];done),by repeat (first|exact Drawn0.refl _|apply Drawn0.step)⟩

/-! ### impl_MatesOf: function 12 (by hand) -/
def impl_MatesOf.f (k : Nat) (a0_0 : Int) (l0_1 : List (S83)) (l0_2 : List Int) (l0_3 : List Int) (a1 : Int) : Option (List Int) :=
 some (matesX a0_0 l0_1 l0_2 l0_3 a1)
theorem impl_MatesOf.mono : ∀ a0 a1 a2 a3 a4 k,LeO (impl_MatesOf.f k a0 a1 a2 a3 a4) (impl_MatesOf.f (k + 1) a0 a1 a2 a3 a4):=fun _ _ _ _ _ _ => LeO.refl _
set_option maxHeartbeats 4000000 in
set_option maxRecDepth 100000 in
theorem impl_MatesOf.calls (k : Nat) (a0_0 : Int) (A0_1 : Option Addr) (c0_1 : Nat) (l0_1 : List (S83)) (A0_2 : Option Addr) (c0_2 : Nat) (l0_2 : List Int) (A0_3 : Option Addr) (c0_3 : Nat) (l0_3 : List Int) (a1 : Int) (r : List Int) (w : World) (hr0_1 : Kd.C k83 w A0_1 l0_1.length l0_1) (hc0_1 : l0_1.length ≤ c0_1) (hr0_2 : Kd.C (Kd.int .i64) w A0_2 l0_2.length l0_2) (hc0_2 : l0_2.length ≤ c0_2) (hr0_3 : Kd.C (Kd.int .i64) w A0_3 l0_3.length l0_3) (hc0_3 : l0_3.length ≤ c0_3) (h : impl_MatesOf.f k a0_0 l0_1 l0_2 l0_3 a1 = some r) :
  Calls Try.prog 12 #[.agg #[.int .i64 a0_0,.slice A0_1 l0_1.length c0_1,.slice A0_2 l0_2.length c0_2,.slice A0_3 l0_3.length c0_3],.int .i64 a1] w fun e w' => ∃ v0_ : Value,e = .returned (v0_) ∧ Kd.R (Kd.int .i64) 3 w' w.heap.size (fun _ => True) v0_ r ∧ Below w.heap.size w w':=by
 unfold impl_MatesOf.f at h
 obtain rfl:=Option.some.inj h
 clear h
 have hu:=Try.underlying26
 have hba:=ba_ (Below.refl w.heap.size w) (.cells #[.int .i64 a0_0,.slice A0_1 l0_1.length c0_1,.slice A0_2 l0_2.length c0_2,.slice A0_3 l0_3.length c0_3] 26)
 have HN:=mk_ (blk_new w (.cells #[.int .i64 a0_0,.slice A0_1 l0_1.length c0_1,.slice A0_2 l0_2.length c0_2,.slice A0_3 l0_3.length c0_3] 26))
 have HST:=mk_ (impl_Net_station.calls a0_0 A0_1 c0_1 l0_1 A0_2 c0_2 l0_2 A0_3 c0_3 l0_3 a1 _ _ (cb_ hr0_1 hba) hc0_1 (cb_ hr0_2 hba) hc0_2 (cb_ hr0_3 hba) hc0_3 (istation_eq a0_0 l0_1 l0_2 l0_3 a1))
 have HB:=mk_ hba
 have HR1:=mk_ hr0_1
 have HR2:=mk_ hr0_2
 have HR3:=mk_ hr0_3
 have hq1:=hc0_1
 clear hba hr0_1 hr0_2 hr0_3
 by_cases c : netB a0_0 l0_1 l0_2 l0_3 = true ∧ 0 ≤ a1 ∧ a1 < l0_2.length
 ·obtain ⟨q1,q2,q3,q4⟩:=netB_facts c.1
  have e : impl_rootsOf.f a0_0 l0_1 = some (rootsL a0_0.toNat l0_1):=by unfold impl_rootsOf.f;rw [if_pos q1]
  have HRO:=mk_ (fun W hC => impl_rootsOf.calls a0_0 A0_1 c0_1 l0_1 _ W hC hq1 e)
  have HM : Aside0 (matesX a0_0 l0_1 l0_2 l0_3 a1 = filM (mateB a0_0 l0_1 l0_2 l0_3 a1) l0_2.length 0):=⟨by unfold matesX;rw [if_pos c]⟩
  have HQ:=mk_ (And.intro q2 (And.intro q3 q4))
  rw [decide_eq_true c] at HST
  obtain ⟨_,ha0,ha1⟩:=c
  generalize matesX a0_0 l0_1 l0_2 l0_3 a1 = res at HM ⊢
  have hrl:=rootsL_len a0_0.toNat l0_1
  have hmb : ∀ o,mateB a0_0 l0_1 l0_2 l0_3 a1 o = (decide (o ≠ a1) && (decide (rd l0_3 o = rd l0_3 a1) && decide (rd (rootsL a0_0.toNat l0_1) (rd l0_2 o) = rd (rootsL a0_0.toNat l0_1) (rd l0_2 a1)))):=fun _ => rfl
  generalize rootsL a0_0.toNat l0_1 = rts at HRO hrl hmb
  generalize mateB a0_0 l0_1 l0_2 l0_3 a1 = pm at HM hmb
  have HMB:=mk_ hmb
  have HRL:=mk_ hrl
  clear q1 q2 q3 q4 e hmb hrl
  obtain ⟨m0,m1,m2,m3⟩:=mbx4 HN.out
  go_enter Try.func12,Try.ntmps12
  go_wp2_with fail
  refine HST.out.mono ?_
  rintro e w1 ⟨rfl,hb1⟩
  replace HN:=mk_ (blk_below HN.out hb1)
  replace HB:=mk_ (st_ HB.out hb1)
  clear hb1 m0 m1 m2 m3 HST
  obtain ⟨m0,m1,m2,m3⟩:=mbx4 HN.out
  go_wp2_with fail
  refine (HRO.out w1 (cb_ HR1.out HB.out)).mono ?_
  rintro e w2 ⟨v,rfl,h1,hb2⟩
  obtain ⟨T,tc,rfl⟩:=Kd.R_slice h1
  replace HN:=mk_ (blk_below HN.out hb2)
  have HT:=mk_ (rm_ (Kd.R_lower (Kd.R_bound h1) HB.out.size) (ok':=fun k => k < w2.heap.size) (fun k hk => hk.2.2.1))
  replace HB:=mk_ (st_ HB.out hb2)
  have HS:=mk_ (Nat.le_refl w2.heap.size)
  clear h1 hb2 m0 m1 m2 m3 HRO
  generalize hs_ : w2.heap.size = sz at HT
  rw [hs_] at HS
  have HSZ:=mk_ hs_
  clear hs_
  obtain ⟨m0,m1,m2,m3⟩:=mbx4 HN.out
  go_wp2_with fail
  go_loopg [6,21] l0_2.length (fun gg s6 s21 wr => ∃ (kk : Nat),kk ≤ l0_2.length ∧ l0_2.length - kk ≤ gg ∧ s21 = .int .i64 (kk : Int) ∧ sz ≤ wr.heap.size ∧ Aside0 (Kd.R (Kd.int .i64) 3 wr w.heap.size (fun k => sz ≤ k) s6 (filM pm kk 0)) ∧ Aside0 (Kd.R (Kd.int .i64) 3 wr w.heap.size (fun k => k < sz) (.slice T rts.length tc) rts) ∧ Aside0 (wr.heap[w.heap.size]? = some (.cells #[.int .i64 a0_0,.slice A0_1 l0_1.length c0_1,.slice A0_2 l0_2.length c0_2,.slice A0_3 l0_3.length c0_3] 26 (0,0))) ∧ Aside0 (Below w.heap.size w wr))
  case atStart => exact ⟨0,Nat.zero_le _,by omega,rfl,by have:=HSZ.out;omega,⟨Kd.R_nil _ _ _ _ _⟩,HT,HN,HB⟩
  case round =>
   clear HN HT HB m0 m1 m2 m3 HS HSZ
   obtain ⟨kk,hkk,hgg,rfl,hsz,HO,HT,HN,HB⟩:=hrel
   by_cases hlt : kk < l0_2.length
   ·have hq:=HQ.out
    obtain ⟨hq15,hq3,hq4⟩:=hq
    have x0:=hq4 _ (List.getElem_mem hlt)
    obtain ⟨S,rfl⟩:=Int.eq_ofNat_of_zero_le ha0
    have hS : S < l0_2.length:=by omega
    have x1:=hq4 _ (List.getElem_mem hS)
    have hrl:=HRL.out
    obtain ⟨a2,e2,d2⟩:=Kd.at_int (cb_ HR2.out HB.out) (kk : Int) (by omega) (by omega)
    subst e2
    obtain ⟨a2',e2,d3⟩:=Kd.at_int (cb_ HR2.out HB.out) (S : Int) (by omega) (by omega)
    obtain rfl:=Option.some.inj e2
    obtain ⟨a3,e3,d4⟩:=Kd.at_int (cb_ HR3.out HB.out) (kk : Int) (by omega) (by omega)
    subst e3
    obtain ⟨a3',e3,d5⟩:=Kd.at_int (cb_ HR3.out HB.out) (S : Int) (by omega) (by omega)
    obtain rfl:=Option.some.inj e3
    have hmb:=HMB.out (kk : Int)
    rw [rd_get l0_2 kk hlt,Int.toNat_natCast] at d2
    rw [rd_get l0_2 S hS,Int.toNat_natCast] at d3
    rw [rd_get l0_2 kk hlt,rd_get l0_2 S hS] at hmb
    rw [Int.toNat_natCast] at d4 d5
    obtain ⟨a5,e5,d6⟩:=Kd.at_int (rr_ HT.out).2.2 l0_2[kk] x0.1 (by omega)
    subst e5
    obtain ⟨a5',e5,d7⟩:=Kd.at_int (rr_ HT.out).2.2 l0_2[S] x1.1 (by omega)
    obtain rfl:=Option.some.inj e5
    generalize l0_2[kk] = y0 at x0 d2 d6 hmb
    generalize l0_2[S] = y1 at x1 d3 d7 hmb
    generalize rd l0_3 (kk : Int) = z0 at d4 hmb
    generalize rd l0_3 (S : Int) = z1 at d5 hmb
    generalize rd rts y0 = r0 at d6 hmb
    generalize rd rts y1 = r1 at d7 hmb
    have hsn:=filM_snoc pm kk 0
    rw [Int.zero_add,hmb] at hsn
    have HSN:=mk_ hsn
    have hl15 : (filM pm kk 0).length ≤ kk:=filM_len pm kk 0
    have HL15:=mk_ (And.intro hl15 (And.intro hq15 hkk))
    have p1 : ((kk : Int) < (l0_2.length : Int)) = True:=eq_true (by omega)
    have p2 : (kk < l0_2.length) = True:=eq_true hlt
    have p3 : ((S : Int) < (l0_2.length : Int)) = True:=eq_true (by omega)
    have p3' : (S < l0_2.length) = True:=eq_true hS
    have p4 : ((kk : Int) < (l0_3.length : Int)) = True:=eq_true (by omega)
    have p4' : (kk < l0_3.length) = True:=eq_true (by omega)
    have p5 : ((S : Int) < (l0_3.length : Int)) = True:=eq_true (by omega)
    have p5' : (S < l0_3.length) = True:=eq_true (by omega)
    have p6 : (0 ≤ y0) = True:=eq_true x0.1
    have p7 : (y0 < (rts.length : Int)) = True:=eq_true (by omega)
    have p8 : (0 ≤ y1) = True:=eq_true x1.1
    have p9 : (y1 < (rts.length : Int)) = True:=eq_true (by omega)
    obtain ⟨m0,m1,m2,m3⟩:=mbx4 HN.out
    have hfin : ∀ (W : World) (v : Value) (x : List Int),filM pm (kk + 1) 0 = x → sz ≤ W.heap.size → Kd.R (Kd.int .i64) 3 W w.heap.size (fun k => sz ≤ k) v x → Kd.R (Kd.int .i64) 3 W w.heap.size (fun k => k < sz) (.slice (some a5) rts.length tc) rts → W.heap[w.heap.size]? = some (.cells #[.int .i64 a0_0,.slice A0_1 l0_1.length c0_1,.slice (some a2) l0_2.length c0_2,.slice (some a3) l0_3.length c0_3] 26 (0,0)) → Below w.heap.size w W →
      ∃ kk' : Nat,kk' ≤ l0_2.length ∧ l0_2.length - kk' ≤ l0_2.length - (kk + 1) ∧ (Value.int .i64 (wrap64 ((kk : Int) + 1))) = .int .i64 (kk' : Int) ∧ sz ≤ W.heap.size ∧ Aside0 (Kd.R (Kd.int .i64) 3 W w.heap.size (fun k => sz ≤ k) v (filM pm kk' 0)) ∧ Aside0 (Kd.R (Kd.int .i64) 3 W w.heap.size (fun k => k < sz) (.slice (some a5) rts.length tc) rts) ∧ Aside0 (W.heap[w.heap.size]? = some (.cells #[.int .i64 a0_0,.slice A0_1 l0_1.length c0_1,.slice (some a2) l0_2.length c0_2,.slice (some a3) l0_3.length c0_3] 26 (0,0))) ∧ Aside0 (Below w.heap.size w W) :=
     fun W v x hx h0 h1 h2 h3 h4 => ⟨kk + 1,by omega,by omega,by rw [wrap_eq (by omega) (by omega)];rfl,h0,⟨hx ▸ h1⟩,⟨h2⟩,⟨h3⟩,⟨h4⟩⟩
    have HF:=mk_ hfin
    clear hfin hsn hmb hl15 hrl hq15 hq3 hq4
    by_cases c0 : (kk : Int) = (S : Int)
    ·have b0 : ((kk : Int) != (S : Int)) = false:=bne_eq_false_iff_eq.mpr c0
     have HX : Aside0 (filM pm (kk + 1) 0 = filM pm kk 0):=⟨by rw [HSN.out,if_neg (by simp [c0]),List.append_nil]⟩
     clear c0
     go_wp2
     go_quiet (fail)
     go_wp2
     go_roundg (l0_2.length - (kk + 1))
     case measure => omega
     case rel => exact HF.out (wr.drewN _) _ _ HX.out hsz (rn_ HO.out _) (rn_ HT.out _) (kn_ HN.out _) (bn_ HB.out _)
    ·have b0 : ((kk : Int) != (S : Int)) = true:=bne_iff_ne.mpr c0
     by_cases c1 : z0 = z1
     ·have b1 : (z0 == z1) = true:=beq_iff_eq.mpr c1
      by_cases c2 : r0 = r1
      ·have b2 : (r0 == r1) = true:=beq_iff_eq.mpr c2
       have HX : Aside0 (filM pm (kk + 1) 0 = filM pm kk 0 ++ [(kk : Int)]):=⟨by rw [HSN.out,if_pos (by simp [c0,c1,c2])]⟩
       clear c0 c1 c2
       go_wp2
       go_quiet (fail)
       go_wp2_with (first|((with_reducible refine gate_builtin (b:=.append) (xs:=#[.tmp 57,.tmp 59]) rfl ?_);at_builtin;refine Kd.R_append (Kd.int .i64) w.heap.size rfl (.tmp 57) (.tmp 59) 24 3 (.int .i64 0) 8 rfl Try.underlying24 mxInfo rfl (by decide) (by omega) _ (filM pm kk 0) (kk : Int) [.int .i64 (kk : Int)] (fun k_ => sz ≤ k_) (fun _ => False) rfl (by first|(go_simp;done)|(go_simp;rfl)) rfl (fun _ hk => hk.elim) (fun k_ hk => Nat.le_trans hsz hk) (rn_ HO.out _) (Below.refl _ _) HB.out.size ?aL ?_;(case aL => have:=HL15.out;omega);intro v2 w3 ho hb_ hg hat))
       go_roundg (l0_2.length - (kk + 1))
       case measure => omega
       case rel => exact HF.out _ _ _ HX.out (Nat.le_trans hsz hg.size) ho (Kd.R_grown (rn_ HT.out _) hg (fun k hk e => by have:=HO.out.1 k e.symm;omega)) (blk_grown (kn_ HN.out _) hg (Kd.R_ne HO.out HN.out (by decide))) (below_weaken (bn_ HB.out _) (Nat.le_refl _) hb_)
      ·have b2 : (r0 == r1) = false:=beq_eq_false_iff_ne.mpr c2
       have HX : Aside0 (filM pm (kk + 1) 0 = filM pm kk 0):=⟨by rw [HSN.out,if_neg (by simp [c2]),List.append_nil]⟩
       clear c0 c1 c2
       go_wp2
       go_quiet (fail)
       go_wp2
       go_roundg (l0_2.length - (kk + 1))
       case measure => omega
       case rel => exact HF.out (wr.drewN _) _ _ HX.out hsz (rn_ HO.out _) (rn_ HT.out _) (kn_ HN.out _) (bn_ HB.out _)
     ·have b1 : (z0 == z1) = false:=beq_eq_false_iff_ne.mpr c1
      have HX : Aside0 (filM pm (kk + 1) 0 = filM pm kk 0):=⟨by rw [HSN.out,if_neg (by simp [c1]),List.append_nil]⟩
      clear c0 c1
      go_wp2
      go_quiet (fail)
      go_wp2
      go_roundg (l0_2.length - (kk + 1))
      case measure => omega
      case rel => exact HF.out (wr.drewN _) _ _ HX.out hsz (rn_ HO.out _) (rn_ HT.out _) (kn_ HN.out _) (bn_ HB.out _)
   ·have hkl : kk = l0_2.length:=by omega
    subst hkl
    have p1 : ((l0_2.length : Int) < (l0_2.length : Int)) = False:=eq_false (by omega)
    go_wp2
    go_ret
    exact ⟨_,rfl,by rw [HM.out];exact rm_ HO.out (fun _ _ => trivial),HB.out⟩
 ·have hm : matesX a0_0 l0_1 l0_2 l0_3 a1 = []:=by unfold matesX;rw [if_neg c]
  rw [hm]
  rw [decide_eq_false c] at HST
  clear c hm
  obtain ⟨m0,m1,m2,m3⟩:=mbx4 HN.out
  go_enter Try.func12,Try.ntmps12
  go_wp2_with fail
  refine HST.out.mono ?_
  rintro e w1 ⟨rfl,hb1⟩
  replace HB:=mk_ (st_ HB.out hb1)
  clear hb1 m0 m1 m2 m3
  go_wp2
  go_ret
  exact ⟨_,rfl,Kd.R_nil _ _ _ _ _,HB.out⟩

/-! ### laws_wnHas: function 14 -/
def laws_wnHas.l0 : Nat → Int → List Int → Int → Int → Option (Bool)
 | 0,_,_,_,_ => none
 | k + 1,x1,x7,x8,x9 => if x9 < x8 then (if 0 ≤ x9 then (if x9 < (x7.length : Int) then (if (rd x7 x9) = x1 then (some true) else (laws_wnHas.l0 k x1 x7 x8 (wrap64 (x9 + 1)))) else (none)) else (none)) else (some false)
def laws_wnHas.f (k : Nat) (l0 : List Int) (a1 : Int) : Option (Bool):=laws_wnHas.l0 k a1 l0 (l0.length : Int) 0
theorem laws_wnHas.mono_l : ∀ k,(∀ y0 y1 y2 y3,LeO (laws_wnHas.l0 k y0 y1 y2 y3) (laws_wnHas.l0 (k + 1) y0 y1 y2 y3))
 | 0 => fun _ _ _ _ r h => by simp [laws_wnHas.l0] at h
 | k + 1 => by
  have ih0:=laws_wnHas.mono_l k
  ·intro y0 y1 y2 y3
   unfold laws_wnHas.l0
   repeat' first
   | (with_reducible exact ih0 _ _ _ _)
   | (with_reducible exact LeO.refl _)
   | (with_reducible exact LeO.none _)
   | (with_reducible refine LeO.ite ?_ ?_)
   | (with_reducible refine LeO.bind ?_ (fun _ => ?_))
   | exact ih0 _ _ _ _
   | exact LeO.none _
   | refine LeO.ite ?_ ?_
   | refine LeO.bind ?_ (fun _ => ?_)
theorem laws_wnHas.mono : ∀ a0 a1 k,LeO (laws_wnHas.f k a0 a1) (laws_wnHas.f (k + 1) a0 a1):=by
 intro a0 a1 k
 have ih0:=laws_wnHas.mono_l k
 unfold laws_wnHas.f
 repeat' first
   | (with_reducible exact ih0 _ _ _ _)
   | (with_reducible exact LeO.refl _)
   | (with_reducible exact LeO.none _)
   | (with_reducible refine LeO.ite ?_ ?_)
   | (with_reducible refine LeO.bind ?_ (fun _ => ?_))
   | exact ih0 _ _ _ _
   | exact LeO.none _
   | refine LeO.ite ?_ ?_
   | refine LeO.bind ?_ (fun _ => ?_)
set_option maxHeartbeats 8000000 in
set_option maxRecDepth 100000 in
theorem laws_wnHas.calls (k : Nat) (A0 : Option Addr) (c0 : Nat) (l0 : List Int) (a1 : Int) (r : Bool) (w : World) (hr0 : Kd.C (Kd.int .i64) w A0 l0.length l0) (hc0 : l0.length ≤ c0) (h : laws_wnHas.f k l0 a1 = some r) :
  Calls Try.prog 14 #[.slice A0 l0.length c0,.int .i64 a1] w fun e w' => e = .returned (.bool r) ∧ Drawn0 w w':=by
 have HR0:=mk_ hr0
 have HC0:=mk_ hc0
 clear hr0 hc0
 have H : (laws_wnHas.l0 k a1 l0 (l0.length : Int) 0) = some r:=h
 clear h
 have H':=mk_ H
 clear H
 go_enter Try.func14,Try.ntmps14
 go_wp2
 go_loopg [9] k (fun kq v9 w' => ∃ (x9_1 : Int),v9 = .int .i64 x9_1 ∧ Aside0 (laws_wnHas.l0 kq a1 l0 (l0.length : Int) x9_1 = some r) ∧ Aside0 (kq ≤ k) ∧ Drawn0 w w')
 case atStart => exact ⟨(0),qf_,H',⟨Nat.le_refl _⟩,by repeat (first|exact Drawn0.refl _|apply Drawn0.step)⟩
 case round =>
  clear H'
  try clear c1
  try clear p2
  obtain ⟨x9_1,rfl,HA,HK1,⟨m1,rfl⟩⟩:=hrel
  cases gk with
  | zero => exact absurd HA.out (by simp [laws_wnHas.l0])
  | succ k1 =>
   have H:=HA.out
   clear HA
   simp only [laws_wnHas.l0] at H
   by_cases c3 : x9_1 < (l0.length : Int)
   ·rw [if_pos c3] at H
    have c3b0 : decide (x9_1 < (l0.length : Int)) = true:=decide_eq_true c3
    clear c3
    by_cases c4 : 0 ≤ x9_1
    ·rw [if_pos c4] at H
     have c4b0 : decide (0 ≤ x9_1) = true:=decide_eq_true c4
     clear c4
     by_cases c5 : x9_1 < (l0.length : Int)
     ·rw [if_pos c5] at H
      have c5b0 : decide (x9_1 < (l0.length : Int)) = true:=decide_eq_true c5
      clear c5
      by_cases c6 : (rd l0 x9_1) = a1
      ·rw [if_pos c6] at H
       have c6b0 : ((rd l0 x9_1) == a1) = true:=beq_iff_eq.mpr c6
       have c6b1 : ((rd l0 x9_1) != a1) = false:=bne_eq_false_iff_eq.mpr c6
       clear c6
       obtain rfl:=Option.some.inj H
       have p513 : 0 ≤ (x9_1 : Int):=od_ qa_
       have q513 : x9_1 < (l0.length : Int):=od_ qa_
       obtain ⟨ad513,e513,hx513_0⟩:=Kd.at_int HR0.out x9_1 p513 q513
       cases e513
       replace p513:=eq_true p513
       replace q513:=eq_true q513
       go_wp2
       go_ret
       exact ⟨by first|rfl|(simp;done)|(simp [*];done),by repeat (first|exact Drawn0.refl _|apply Drawn0.step)⟩
      ·rw [if_neg c6] at H
       have c6b0 : ((rd l0 x9_1) == a1) = false:=beq_eq_false_iff_ne.mpr c6
       have c6b1 : ((rd l0 x9_1) != a1) = true:=bne_iff_ne.mpr c6
       have H':=mk_ H
       clear H
       have p513 : 0 ≤ (x9_1 : Int):=od_ qa_
       have q513 : x9_1 < (l0.length : Int):=od_ qa_
       obtain ⟨ad513,e513,hx513_0⟩:=Kd.at_int HR0.out x9_1 p513 q513
       cases e513
       replace p513:=eq_true p513
       replace q513:=eq_true q513
       go_wp2
       go_roundg k1
       case measure => have:=HK1.out;omega
       case rel => exact ⟨(wrap64 (x9_1 + 1)),qf_,H',⟨by have:=HK1.out;omega⟩,by repeat (first|exact Drawn0.refl _|apply Drawn0.step)⟩
     ·rw [if_neg c5] at H
      exact absurd H (by simp)
    ·rw [if_neg c4] at H
     exact absurd H (by simp)
   ·rw [if_neg c3] at H
    have c3b0 : decide (x9_1 < (l0.length : Int)) = false:=decide_eq_false c3
    clear c3
    obtain rfl:=Option.some.inj H
    go_wp2
    go_ret
    exact ⟨by first|rfl|(simp;done)|(simp [*];done),by repeat (first|exact Drawn0.refl _|apply Drawn0.step)⟩

-- LIB pdraw
def Bytes (b : List Int) : Prop:=b.length ≤ 2000 ∧ ∀ x ∈ b,0 ≤ x ∧ x ≤ 255

-- LIB pdraw
theorem bits_xor_nonneg (a b : Int) (h1 : 0 ≤ a) (h2 : a < 4611686018427387904) (h3 : 0 ≤ b) (h4 : b < 4611686018427387904) : 0 ≤ Go.bits .xor .i64 a b:=by
 obtain ⟨A,rfl⟩:=Int.eq_ofNat_of_zero_le h1
 obtain ⟨B,rfl⟩:=Int.eq_ofNat_of_zero_le h3
 have hx : A ^^^ B < 2 ^ 62:=Nat.xor_lt_two_pow (by omega) (by omega)
 have eA : (BitVec.ofInt 64 (A : Int)).toNat = A:=by rw [BitVec.ofInt_natCast,BitVec.toNat_ofNat];exact Nat.mod_eq_of_lt (by omega)
 have eB : (BitVec.ofInt 64 (B : Int)).toNat = B:=by rw [BitVec.ofInt_natCast,BitVec.toNat_ofNat];exact Nat.mod_eq_of_lt (by omega)
 show 0 ≤ IntKind.i64.wrap ((BitVec.ofInt 64 (A : Int) ^^^ BitVec.ofInt 64 (B : Int)).toNat : Int)
 rw [BitVec.toNat_xor,eA,eB,IntKind.wrap_i64]
 omega

-- LIB pdraw
theorem open_ok (l : List Int) (h : ∀ x ∈ l,(Lit.int .u8 x).wf = true) : ∃ b,spec_l21Open.f l = some (b,0) ∧ Bytes b:=by
 have hb : ∀ x ∈ l,0 ≤ x ∧ x ≤ 255:=by
  intro x hx
  have h':=h x hx
  simp [Lit.wf,IntKind.min,IntKind.max,IntKind.signed,IntKind.bits] at h'
  omega
 unfold spec_l21Open.f
 by_cases hl : (l.length : Int) > 2000
 ·rw [if_pos hl,if_pos (by omega)]
  exact ⟨_,rfl,by rw [List.length_take];omega,fun x hx => hb x (List.mem_of_mem_take hx)⟩
 ·rw [if_neg hl]
  exact ⟨_,rfl,by omega,hb⟩

-- LIB pdraw
theorem rd_mem {b : List Int} {i : Int} (h0 : 0 ≤ i) (h1 : i < b.length) : rd b i ∈ b:=by
 obtain ⟨j,rfl⟩:=Int.eq_ofNat_of_zero_le h0
 rw [rd_get b j (by omega)]
 exact List.getElem_mem _

-- LIB pdraw
theorem tmod_range {a n : Int} (h0 : 0 ≤ a) (h1 : 1 ≤ n) : 0 ≤ Int.tmod a n ∧ Int.tmod a n < n:=by
 rw [Int.tmod_eq_emod_of_nonneg h0]
 exact ⟨Int.emod_nonneg _ (by omega),Int.emod_lt_of_pos _ (by omega)⟩

-- LIB pdraw
theorem pick_ok {b : List Int} (hb : Bytes b) {p : Int} (n : Int) (h0 : 0 ≤ p) (h1 : p ≤ 1099511627776) :
  ∃ r,0 ≤ r ∧ (1 ≤ n → r < n) ∧ (n < 1 → r = 0) ∧ ∀ k,1 ≤ k → spec_l21Rd_pick.f k b p n = some (r,p + 1):=by
 have e1 : wrap64 (p + 1) = p + 1:=wrap_eq (by omega) (by omega)
 have e2 : wrap64 (p + 1 - 1) = p:=by rw [wrap_eq (by omega) (by omega)];omega
 by_cases hn : n < 1
 ·refine ⟨0,by omega,fun h => by omega,fun _ => rfl,fun k hk => ?_⟩
  obtain ⟨k,rfl⟩ : ∃ m,k = m + 1:=⟨k - 1,by omega⟩
  unfold spec_l21Rd_pick.f
  simp only [spec_l21Rd_pick.j0]
  rw [if_pos hn,if_pos trivial,e1]
 by_cases hl : b.length = 0
 ·refine ⟨0,by omega,fun h => by omega,fun _ => rfl,fun k hk => ?_⟩
  obtain ⟨k,rfl⟩ : ∃ m,k = m + 1:=⟨k - 1,by omega⟩
  unfold spec_l21Rd_pick.f
  simp only [spec_l21Rd_pick.j0]
  rw [if_neg hn,if_pos (by simp [hl]),e1]
 obtain ⟨hb1,hb2⟩:=hb
 have hl0 : ((b.length : Int) == 0) = false:=beq_eq_false_iff_ne.2 (by omega)
 by_cases hp : p < b.length
 ·have hv:=hb2 _ (rd_mem h0 hp)
  have ht:=tmod_range hv.1 (show 1 ≤ n by omega)
  refine ⟨Int.tmod (rd b p) n,ht.1,fun _ => ht.2,fun h => by omega,fun k hk => ?_⟩
  obtain ⟨k,rfl⟩ : ∃ m,k = m + 1:=⟨k - 1,by omega⟩
  unfold spec_l21Rd_pick.f
  simp only [spec_l21Rd_pick.j0]
  rw [if_neg hn,hl0,if_neg (by decide),e1,e2,if_pos hp,if_pos h0,if_neg (by omega),wrap_eq (by omega) (by omega)]
 ·have hi1:=tmod_range h0 (show (1 : Int) ≤ b.length by omega)
  have hi2:=tmod_range (show 0 ≤ p * 7 + 3 by omega) (show (1 : Int) ≤ b.length by omega)
  have e3 : wrap64 (wrap64 (p * 7) + 3) = p * 7 + 3:=by rw [wrap_eq (x:=p * 7) (by omega) (by omega),wrap_eq (by omega) (by omega)]
  have hv1:=hb2 _ (rd_mem hi1.1 hi1.2)
  have hv2:=hb2 _ (rd_mem hi2.1 hi2.2)
  have hd : Int.tdiv p b.length = p / b.length:=Int.tdiv_eq_ediv_of_nonneg h0
  have hd0 : 0 ≤ p / (b.length : Int):=Int.ediv_nonneg h0 (by omega)
  have hd1 : p / (b.length : Int) ≤ p:=Int.ediv_le_self _ h0
  generalize hx1 : rd b (Int.tmod p b.length) = v1 at hv1
  generalize hx2 : rd b (Int.tmod (p * 7 + 3) b.length) = v2 at hv2
  generalize hx3 : p / (b.length : Int) = q at hd hd0 hd1
  have e4 : wrap64 (wrap64 (wrap64 (wrap64 (wrap64 v1 * 131) + wrap64 (wrap64 v2 * 1117)) + wrap64 (p * 29)) + wrap64 (wrap64 q * 53)) = v1 * 131 + v2 * 1117 + p * 29 + q * 53:=by
   rw [wrap_eq (x:=v1) (by omega) (by omega),wrap_eq (x:=v2) (by omega) (by omega),wrap_eq (x:=q) (by omega) (by omega),wrap_eq (x:=v1 * 131) (by omega) (by omega),wrap_eq (x:=v2 * 1117) (by omega) (by omega),wrap_eq (x:=p * 29) (by omega) (by omega),wrap_eq (x:=q * 53) (by omega) (by omega),wrap_eq (x:=v1 * 131 + v2 * 1117) (by omega) (by omega),wrap_eq (x:=v1 * 131 + v2 * 1117 + p * 29) (by omega) (by omega),wrap_eq (by omega) (by omega)]
  have hX : 0 ≤ v1 * 131 + v2 * 1117 + p * 29 + q * 53 ∧ v1 * 131 + v2 * 1117 + p * 29 + q * 53 ≤ 4000000000000000:=by omega
  generalize v1 * 131 + v2 * 1117 + p * 29 + q * 53 = X at e4 hX
  have hY : Int.tdiv X 64 = X / 64:=Int.tdiv_eq_ediv_of_nonneg hX.1
  have e5 : wrap64 (X / 64) = X / 64:=wrap_eq (by omega) (by omega)
  have hZ:=bits_xor_nonneg X (X / 64) hX.1 (by omega) (by omega) (by omega)
  have ht:=tmod_range hZ (show 1 ≤ n by omega)
  refine ⟨Int.tmod (Go.bits .xor .i64 X (X / 64)) n,ht.1,fun _ => ht.2,fun h => by omega,fun k hk => ?_⟩
  obtain ⟨k,rfl⟩ : ∃ m,k = m + 1:=⟨k - 1,by omega⟩
  unfold spec_l21Rd_pick.f
  simp only [spec_l21Rd_pick.j0]
  rw [if_neg hn,hl0,if_neg (by decide),e1,e2,e3,if_neg hp,if_neg (by omega),if_pos hi1.1,if_pos hi1.2,if_pos hi2.1,if_pos hi2.2,if_neg (by omega),hx1,hx2,hd,e4,hY,e5]

-- LIB pdraw
theorem num_ok {b : List Int} (hb : Bytes b) {p : Int} (l : List Int) (h0 : 0 ≤ p) (h1 : p ≤ 1099511627776) (hl : 0 < l.length) :
  ∃ x,x ∈ l ∧ ∀ k,1 ≤ k → spec_l21Rd_num.f k b p l = some (x,p + 1):=by
 obtain ⟨r,hr0,hr1,_,hr⟩:=pick_ok hb (l.length : Int) h0 h1
 have hr2:=hr1 (by omega)
 refine ⟨rd l r,rd_mem hr0 hr2,fun k hk => ?_⟩
 unfold spec_l21Rd_num.f
 rw [hr k hk,Option.bind_some]
 simp only []
 rw [if_pos hr0,if_pos hr2]

-- LIB pdraw19
theorem l7c_at {b : List Int} (hb : Bytes b) (n : Int) (h1 : 1 ≤ n) (h8 : n ≤ 8) (d : Nat) : ∀ (p : Int) (c : List S83), 0 ≤ p → p + 3 * d ≤ 100000 → c.length + d ≤ 1000 →
  ∃ c' p',c'.length ≤ c.length + d ∧ p ≤ p' ∧ p' ≤ p + 3 * d ∧ ∀ k,2 * d + 2 < k → spec_l7Cables.l0 k n c (d : Int) b p = some (n,c',p'):=by
 induction d with
 | zero =>
  intro p c hp0 hp1 hx
  refine ⟨c,p,by omega,by omega,by omega,fun k hk => ?_⟩
  obtain ⟨k,rfl⟩ : ∃ m,k = m + 1 + 1:=⟨k - 2,by omega⟩
  simp only [spec_l7Cables.l0,spec_l7Cables.j1]
  rw [if_neg (by omega),if_neg (by decide)]
 | succ d ih =>
  intro p c hp0 hp1 hx
  by_cases hn : n > 1
  ·obtain ⟨r1,_,_,_,e1⟩:=pick_ok hb n hp0 (by omega)
   obtain ⟨r2,_,_,_,e2⟩:=pick_ok hb (wrap64 (n - 1)) (show 0 ≤ p + 1 by omega) (by omega)
   obtain ⟨r3,_,e3⟩:=num_ok hb [1,1,2,5,10,99] (show 0 ≤ p + 1 + 1 by omega) (by omega) (by simp)
   obtain ⟨c',p',q1,q2,q3,q4⟩:=ih (p + 1 + 1 + 1) (c ++ [⟨r1,Int.tmod (wrap64 ((wrap64 (r1 + 1)) + r2)) n,r3⟩]) (by omega) (by omega) (by simp;omega)
   simp only [List.length_append,List.length_singleton] at q1
   refine ⟨c',p',by omega,by omega,by omega,fun k hk => ?_⟩
   obtain ⟨k,rfl⟩ : ∃ m,k = m + 1 + 1:=⟨k - 2,by omega⟩
   simp only [spec_l7Cables.l0,spec_l7Cables.j1]
   rw [if_pos (by omega),if_pos (decide_eq_true hn),e1 k (by omega),Option.bind_some]
   simp only []
   rw [e2 k (by omega),Option.bind_some,if_neg (by omega)]
   simp only []
   rw [e3 k (by omega),Option.bind_some,if_pos (by omega),wrap_eq (x:=((d + 1 : Nat) : Int) - 1) (by omega) (by omega),show ((d + 1 : Nat) : Int) - 1 = (d : Int) by omega]
   exact q4 k (by omega)
  ·refine ⟨c,p,by omega,by omega,by omega,fun k hk => ?_⟩
   obtain ⟨k,rfl⟩ : ∃ m,k = m + 1 + 1:=⟨k - 2,by omega⟩
   simp only [spec_l7Cables.l0,spec_l7Cables.j1]
   rw [if_pos (by omega),decide_eq_false hn,if_neg (by decide)]

-- LIB pdraw19
theorem l7c_ok {b : List Int} (hb : Bytes b) {p : Int} (h0 : 0 ≤ p) (h1 : p ≤ 10000) : ∃ n c p',c.length ≤ 20 ∧ 1 ≤ n ∧ n ≤ 8 ∧ p ≤ p' ∧ p' ≤ p + 62 ∧ ∀ k,50 < k → spec_l7Cables.f k b p = some (n,c,p'):=by
 obtain ⟨n,hn,e1⟩:=num_ok hb [4,6,3,8,2,1,5] h0 (by omega) (by simp)
 have hn2 : 1 ≤ n ∧ n ≤ 8:=by simp at hn;omega
 obtain ⟨i,hi,e2⟩:=num_ok hb [5,8,12,3,0,20] (show 0 ≤ p + 1 by omega) (by omega) (by simp)
 have hi2 : 0 ≤ i ∧ i ≤ 20:=by simp at hi;omega
 obtain ⟨I,rfl⟩:=Int.eq_ofNat_of_zero_le hi2.1
 obtain ⟨c',p',q1,q2,q3,q4⟩:=l7c_at hb n hn2.1 hn2.2 I (p + 1 + 1) [] (by omega) (by omega) (by simp;omega)
 refine ⟨n,c',p',by simp at q1;omega,hn2.1,hn2.2,by omega,by omega,fun k hk => ?_⟩
 unfold spec_l7Cables.f
 rw [e1 k (by omega),Option.bind_some]
 simp only []
 rw [e2 k (by omega),Option.bind_some]
 exact q4 k (by omega)

-- LIB pdraw19
theorem l19_at {b : List Int} (hb : Bytes b) (m n : Int) (cs : List S83) (hn1 : 1 ≤ n) (hn : n ≤ 8) (d : Nat) : ∀ (p : Int) (hs vs : List Int), 0 ≤ p → p + 3 * d ≤ 100000 → 1 ≤ hs.length + d → hs.length = vs.length → hs.length + d ≤ 15 →
  ∃ n' hs' vs' p',hs'.length ≤ 15 ∧ vs'.length ≤ 15 ∧ 1 ≤ n' ∧ n' ≤ 9 ∧ p ≤ p' ∧ p' ≤ p + 3 * d + 1 ∧ ∀ k,d + 3 < k → spec_l19Net.l0 k m (d : Int) b p n cs hs vs = some (n',cs,hs',vs',p'):=by
 induction d with
 | zero =>
  intro p hs vs hp0 hp1 hx hy hz
  obtain ⟨r,_,_,_,hr⟩:=pick_ok hb 80 hp0 (by omega)
  have key : ∃ n' hs' vs',hs'.length ≤ 15 ∧ vs'.length ≤ 15 ∧ 1 ≤ n' ∧ n' ≤ 9 ∧ ∀ k,3 < k → spec_l19Net.l0 k m ((0 : Nat) : Int) b p n cs hs vs = some (n',cs,hs',vs',p + 1):=by
   by_cases c0 : r = 0
   ·refine ⟨n,hs.set 0 m,vs,by rw [List.length_set];omega,by omega,hn1,by omega,fun k hk => ?_⟩
    obtain ⟨k,rfl⟩ : ∃ m,k = m + 1:=⟨k - 1,by omega⟩
    simp only [spec_l19Net.l0]
    rw [if_neg (by omega),hr k (by omega),Option.bind_some,if_pos c0,if_pos (by omega)]
    rfl
   by_cases c1 : r = 1
   ·refine ⟨n,hs,vs.set 0 0,by omega,by rw [List.length_set];omega,hn1,by omega,fun k hk => ?_⟩
    obtain ⟨k,rfl⟩ : ∃ m,k = m + 1:=⟨k - 1,by omega⟩
    simp only [spec_l19Net.l0]
    rw [if_neg (by omega),hr k (by omega),Option.bind_some,if_neg c0,if_pos c1,if_pos (by omega)]
    rfl
   by_cases c2 : r = 2
   ·refine ⟨n,hs,vs.drop 1,by omega,by rw [List.length_drop];omega,hn1,by omega,fun k hk => ?_⟩
    obtain ⟨k,rfl⟩ : ∃ m,k = m + 1:=⟨k - 1,by omega⟩
    simp only [spec_l19Net.l0]
    rw [if_neg (by omega),hr k (by omega),Option.bind_some,if_neg c0,if_neg c1,if_pos c2,if_pos (by omega)]
    rfl
   by_cases c3 : r = 3
   ·refine ⟨9,hs,vs,by omega,by omega,by omega,by omega,fun k hk => ?_⟩
    obtain ⟨k,rfl⟩ : ∃ m,k = m + 1:=⟨k - 1,by omega⟩
    simp only [spec_l19Net.l0]
    rw [if_neg (by omega),hr k (by omega),Option.bind_some,if_neg c0,if_neg c1,if_neg c2,if_pos c3]
   ·refine ⟨n,hs,vs,by omega,by omega,hn1,by omega,fun k hk => ?_⟩
    obtain ⟨k,rfl⟩ : ∃ m,k = m + 1:=⟨k - 1,by omega⟩
    simp only [spec_l19Net.l0]
    rw [if_neg (by omega),hr k (by omega),Option.bind_some,if_neg c0,if_neg c1,if_neg c2,if_neg c3]
  obtain ⟨n',hs',vs',g1,g2,g3,g4,g5⟩:=key
  exact ⟨n',hs',vs',p + 1,g1,g2,g3,g4,by omega,by omega,fun k hk => g5 k (by omega)⟩
 | succ d ih =>
  intro p hs vs hp0 hp1 hx hy hz
  obtain ⟨r1,_,_,_,e1⟩:=pick_ok hb m hp0 (by omega)
  obtain ⟨r2,_,e2⟩:=num_ok hb [1,2,3] (show 0 ≤ p + 1 by omega) (by omega) (by simp)
  obtain ⟨r3,_,_,_,e3⟩:=pick_ok hb r2 (show 0 ≤ p + 1 + 1 by omega) (by omega)
  obtain ⟨n',hs',vs',p',q1,q2,q3,q4,q5,q6,q7⟩:=ih (p + 1 + 1 + 1) (hs ++ [r1]) (vs ++ [wrap64 (1 + r3)]) (by omega) (by omega) (by simp;omega) (by simp [hy]) (by simp;omega)
  refine ⟨n',hs',vs',p',q1,q2,q3,q4,by omega,by omega,fun k hk => ?_⟩
  obtain ⟨k,rfl⟩ : ∃ m,k = m + 1:=⟨k - 1,by omega⟩
  simp only [spec_l19Net.l0]
  rw [if_pos (by omega),e1 k (by omega),Option.bind_some,if_pos (by omega)]
  simp only []
  rw [e2 k (by omega),Option.bind_some]
  simp only []
  rw [e3 k (by omega),Option.bind_some,if_pos (by omega),wrap_eq (x:=((d + 1 : Nat) : Int) - 1) (by omega) (by omega),show ((d + 1 : Nat) : Int) - 1 = (d : Int) by omega]
  exact q7 k (by omega)

-- LIB pdraw19
theorem l19_ok {b : List Int} (hb : Bytes b) {p : Int} (h0 : 0 ≤ p) (h1 : p ≤ 1000) : ∃ n cs hs vs p',cs.length ≤ 20 ∧ hs.length ≤ 15 ∧ vs.length ≤ 15 ∧ 1 ≤ n ∧ n ≤ 9 ∧ p ≤ p' ∧ p' ≤ p + 200 ∧ ∀ k,100 < k → spec_l19Net.f k b p = some (n,cs,hs,vs,p'):=by
 obtain ⟨n,c,p1,q1,q2,q3,q4,q5,q6⟩:=l7c_ok hb h0 (by omega)
 obtain ⟨i,hi,e2⟩:=num_ok hb [4,6,3,10,2,1,15] (show 0 ≤ p1 by omega) (by omega) (by simp)
 have hi2 : 1 ≤ i ∧ i ≤ 15:=by simp at hi;omega
 obtain ⟨I,rfl⟩:=Int.eq_ofNat_of_zero_le (show 0 ≤ i by omega)
 obtain ⟨n',hs',vs',p',g1,g2,g3,g4,g5,g6,g7⟩:=l19_at hb n n c q2 q3 I (p1 + 1) [] [] (by omega) (by omega) (by simp;omega) rfl (by simp;omega)
 refine ⟨n',c,hs',vs',p',q1,g1,g2,g3,g4,by omega,by omega,fun k hk => ?_⟩
 unfold spec_l19Net.f
 rw [q6 k (by omega),Option.bind_some]
 simp only []
 rw [e2 k (by omega),Option.bind_some]
 exact g7 k (by omega)

-- LIB hops
theorem hopInfo : (Try.prog.info? 37).map (fun i => (i.zero,i.size,i.bytes)) = some (some (.agg #[(.int .i64 0),(.int .i64 0),(.int .i64 0)]),3,24):=by kernel_rfl
theorem hop4_ {P : Prop} (r : Int) (a : r = 0 → P) (b : r = 1 → P) (c : r = 2 → P) (d : r ≠ 0 → r ≠ 1 → r ≠ 2 → P) : P:=by
 by_cases h0 : r = 0
 ·exact a h0
 ·by_cases h1 : r = 1
  ·exact b h1
  ·by_cases h2 : r = 2
   ·exact c h2
   ·exact d h0 h1 h2
theorem C_ints {W : World} {b t : Nat} (xs : List Int) (h : W.heap[b]? = some (.cells (xs.map (Value.int .i64)).toArray t (0,0))) (hl : xs.length ≤ 1000) : Kd.C (Kd.int .i64) W (some ⟨b,0,none⟩) xs.length xs:=by
 refine Kd.C_of_reads (d:=(0 : Int)) (h1:=fun _ => rfl) ⟨rfl,by omega,fun _ => ⟨_,rfl,fun i hi => ?_⟩⟩
 have e:=blk_cell h i
 have ea : (⟨b,0,none⟩ : Addr).add i = ⟨b,i,none⟩:=by
  unfold Addr.add
  split
  ·next h0 => rw [h0]
  ·simp
 rw [ea,e]
 simp [List.getD_eq_getElem?_getD,List.getElem?_map,hi]
theorem nbx4 {W : World} {b t : Nat} {a0 a1 a2 a3 : Value} (h : W.heap[b]? = some (.cells #[a0,a1,a2,a3] t (0,0))) : W.cell? ⟨b,2,none⟩ = some a2:=(blk_cell h 2).trans rfl
theorem nbx3 {W : World} {b t : Nat} {a0 a1 a2 : Value} (h : W.heap[b]? = some (.cells #[a0,a1,a2] t (0,0))) : W.cell? ⟨b,0,none⟩ = some a0 ∧ W.cell? ⟨b,1,none⟩ = some a1 ∧ W.cell? ⟨b,2,none⟩ = some a2:=⟨(blk_cell h 0).trans rfl,(blk_cell h 1).trans rfl,(blk_cell h 2).trans rfl⟩
theorem R_nilRow {α : Type} (d : Kd α) {e : Nat} {w : World} {base g : Nat} (hb : base ≤ g) (hg : w.heap[g]? = some (.cells #[] e (0,0))) : Kd.R d e w base (fun _ => True) (.slice (some ⟨g,0,none⟩) 0 0) []:=by
 exact ⟨fun _ _ => trivial,[],⟨by simp,Or.inr ⟨g,0,#[],rfl,hb,hg,Nat.le_refl _,by unfold maxLen;omega,by simp,by simp⟩⟩,Reps.none _ _⟩
structure HSt (w0 w : World) (g bx : Nat) (b : List Int) (nb : Obj) (W : World) (p : Int) (okv : Nat → Prop) (v : Value) (l : List S37) : Prop where
 is : IsS94 w0 W g b p
 bel : Below w0.heap.size w0 W
 kp : KeepBut w W g none
 hbx : W.heap[bx]? = some nb
 ne : bx ≠ g
 row : Kd.R k37 37 W w.heap.size okv v l
section
variable {w0 w W W' : World} {g bx : Nat} {b : List Int} {nb : Obj} {p p' : Int} {okv : Nat → Prop} {v v2 : Value} {l l2 : List S37}
theorem HSt.drew (h : HSt w0 w g bx b nb W p okv v l) : HSt w0 w g bx b nb W.drew p okv v l:=⟨h.is.drew,below_drew1 h.bel,keep_drew h.kp,h.hbx,h.ne,Kd.R_drew h.row⟩
theorem HSt.alloc (h : HSt w0 w g bx b nb W p okv v l) (o : Obj) : HSt w0 w g bx b nb (W.alloc o) p okv v l:=⟨h.is.alloc o,below_alloc h.bel o,keep_alloc h.kp o,blk_alloc h.hbx o,h.ne,Kd.R_alloc h.row o⟩
theorem HSt.box (h : HSt w0 w g bx b nb W p (fun _ => True) v l) (o : Obj) : HSt w0 w g bx b nb (W.alloc o) p (fun k => k ≠ W.heap.size) v l :=
 ⟨h.is.alloc o,below_alloc h.bel o,keep_alloc h.kp o,blk_alloc h.hbx o,h.ne,Kd.R_alloc (Kd.R_mono (Kd.R_bound h.row) (fun k hk => by have:=hk.2.2.1;omega)) o⟩
theorem HSt.keep (h : HSt w0 w g bx b nb W p okv v l) (hk : KeepBut W W' g none) (hi : IsS94 w0 W' g b p') (hb : Below w0.heap.size w0 W') : HSt w0 w g bx b nb W' p' okv v l :=
 ⟨hi,hb,KeepBut.trans h.kp hk (.inl rfl),KeepBut.blk hk h.hbx h.ne (by simp),h.ne,Kd.R_mono (Kd.R_keep (IsS94.apart h.is h.row (by decide)) hk (fun _ h => h.2)) (fun _ h => h.1)⟩
theorem HSt.set {sb : Nat} (h : HSt w0 w g bx b nb W p (fun k => k ≠ sb) v l) (hL : w0.heap.size ≤ w.heap.size) (h1 : w.heap.size ≤ sb) (h2 : sb ≠ g) (h3 : sb ≠ bx) (i : Nat) (u : Value) : HSt w0 w g bx b nb (W.setCell ⟨sb,i,none⟩ u) p (fun k => k ≠ sb) v l :=
 ⟨h.is.far (fun e => h2 e.symm) u,below_set h.bel (Nat.le_trans hL h1),keep_far h.kp h1 u,nb_seto h.hbx (fun e => h3 e.symm) i u,h.ne,Kd.R_far (p:=⟨sb,i,none⟩) h.row (fun _ hk => hk) u⟩
theorem HSt.grown {n : Int} {A1 A2 A3 : Option Addr} {m1 c1 m2 c2 m3 c3 : Nat} (h : HSt w0 w g bx b (.cells #[.int .i64 n,.slice A1 m1 c1,.slice A2 m2 c2,.slice A3 m3 c3] 26 (0,0)) W p okv v l) (hL : w0.heap.size ≤ w.heap.size) (ho : Kd.R k37 37 W' w.heap.size okv v2 l2) (hb : Below w.heap.size W W') (hg : W.grownBy W' v.ownBlock) : HSt w0 w g bx b (.cells #[.int .i64 n,.slice A1 m1 c1,.slice A2 m2 c2,.slice A3 m3 c3] 26 (0,0)) W' p okv v2 l2 :=
 ⟨IsS94.grown h.is hg (IsS94.own_ne h.is h.row (by decide)),below_weaken h.bel hL hb,KeepBut.trans h.kp (KeepBut.of_grown hg g) (Kd.R_base2 h.row),blk_grown h.hbx hg (Kd.R_ne h.row h.hbx (by decide)),h.ne,ho⟩
end
set_option maxHeartbeats 4000000 in
set_option maxRecDepth 100000 in
theorem x_hops (w0 w : World) (g : Nat) (b : List Int) (p0 : Int) (hb : Bytes b) (hp0 : 0 ≤ p0) (hp1 : p0 ≤ 10000) (n : Int) (A1 : Option Addr) (m1 c1 : Nat) (A2 : Option Addr) (m2 c2 : Nat) (A3 : Option Addr) (m3 c3 : Nat) (hm2 : m2 ≤ 1000) (hI : IsS94 w0 w g b p0) (hB : Below w0.heap.size w0 w) :
  Calls Try.prog 30 #[.pointer (some ⟨g,0,none⟩),.agg #[.int .i64 n,.slice A1 m1 c1,.slice A2 m2 c2,.slice A3 m3 c3]] w fun e w' => ∃ (v : Value) (l : List S37) (p' : Int),e = .returned v ∧ Kd.R k37 37 w' w.heap.size (fun _ => True) v l ∧ IsS94 w0 w' g b p' ∧ Below w0.heap.size w0 w' ∧ KeepBut w w' g none:=by
 have hu:=Try.underlying26
 have hu3:=Try.underlying37
 have HL:=Aside0.mk hB.size
 have hgl:=hI.lt
 obtain ⟨q,hq,hnum⟩:=num_ok hb [4,6,2,10,1,0] hp0 (by omega) (by simp)
 have hq10 : 0 ≤ q ∧ q ≤ 10:=by simp at hq;omega
 obtain ⟨q,rfl⟩:=Int.eq_ofNat_of_zero_le hq10.1
 have hz1 : (w.alloc (.cells #[.int .i64 n,.slice A1 m1 c1,.slice A2 m2 c2,.slice A3 m3 c3] 26)).heap.size = w.heap.size + 1:=by simp
 have hz2 : ((w.alloc (.cells #[.int .i64 n,.slice A1 m1 c1,.slice A2 m2 c2,.slice A3 m3 c3] 26)).alloc (.cells #[] 37)).heap.size = w.heap.size + 2:=by simp
 have hr0:=R_nilRow k37 (w:=(w.alloc (.cells #[.int .i64 n,.slice A1 m1 c1,.slice A2 m2 c2,.slice A3 m3 c3] 26)).alloc (.cells #[] 37)) (base:=w.heap.size) (g:=w.heap.size + 1) (by omega) (by have:=blk_new (w.alloc (.cells #[.int .i64 n,.slice A1 m1 c1,.slice A2 m2 c2,.slice A3 m3 c3] 26)) (.cells #[] 37);rw [hz1] at this;exact this)
 have hs0 : HSt w0 w g w.heap.size b (.cells #[.int .i64 n,.slice A1 m1 c1,.slice A2 m2 c2,.slice A3 m3 c3] 26 (0,0)) ((w.alloc (.cells #[.int .i64 n,.slice A1 m1 c1,.slice A2 m2 c2,.slice A3 m3 c3] 26)).alloc (.cells #[] 37)) p0 (fun _ => True) (.slice (some ⟨w.heap.size + 1,0,none⟩) 0 0) [] :=
  ⟨(hI.alloc _).alloc _,below_alloc (below_alloc hB _) _,keep_alloc (keep_alloc (KeepBut.refl _ _ _) _) _,blk_alloc (blk_new w (.cells #[.int .i64 n,.slice A1 m1 c1,.slice A2 m2 c2,.slice A3 m3 c3] 26)) _,by omega,hr0⟩
 have hc6:=C_ints (W:=((w.alloc (.cells #[.int .i64 n,.slice A1 m1 c1,.slice A2 m2 c2,.slice A3 m3 c3] 26)).alloc (.cells #[] 37)).alloc (.cells #[.int .i64 4,.int .i64 6,.int .i64 2,.int .i64 10,.int .i64 1,.int .i64 0] 3)) (b:=w.heap.size + 2) (t:=3) [4,6,2,10,1,0] (by have:=blk_new ((w.alloc (.cells #[.int .i64 n,.slice A1 m1 c1,.slice A2 m2 c2,.slice A3 m3 c3] 26)).alloc (.cells #[] 37)) (.cells #[.int .i64 4,.int .i64 6,.int .i64 2,.int .i64 10,.int .i64 1,.int .i64 0] 3);rw [hz2] at this;exact this) (by simp)
 have HS:=Aside0.mk (hs0.alloc (.cells #[.int .i64 4,.int .i64 6,.int .i64 2,.int .i64 10,.int .i64 1,.int .i64 0] 3))
 have hcall:=spec_l21Rd_num.calls 100 g b p0 (some ⟨w.heap.size + 2,0,none⟩) 6 [4,6,2,10,1,0] (q : Int) (p0 + 1) w0 _ HS.out.is HS.out.bel hc6 (by simp) (fun ad e _ => by injection e with e;subst e;show w.heap.size + 2 ≠ g;omega) (hnum 100 (by omega))
 have HC:=Aside0.mk hcall
 clear hcall hc6 hs0 hr0 hnum hq hI hB
 go_enter Try.func30,Try.ntmps30
 go_wp2_with fail
 refine HC.out.mono ?_
 rintro e w1 ⟨rfl,hi,hb_,hk⟩
 replace HS:=Aside0.mk (HS.out.keep hk hi hb_)
 clear hi hb_ hk HC
 go_wp2_with fail
 go_loopg [5,6] q (fun gg s5 s6 wr => ∃ (l : List S37) (i : Nat) (p : Int),i ≤ gg ∧ i ≤ 10 ∧ s6 = .int .i64 (i : Int) ∧ l.length + 2 * i ≤ 20 ∧ 0 ≤ p ∧ p + 10 * i ≤ 10200 ∧ Aside0 (HSt w0 w g w.heap.size b (.cells #[.int .i64 n,.slice A1 m1 c1,.slice A2 m2 c2,.slice A3 m3 c3] 26 (0,0)) wr (p) (fun _ => True) s5 l))
 case atStart => exact ⟨[],q,p0 + 1,by omega,by omega,rfl,by simp;omega,by omega,by omega,HS⟩
 case round =>
  clear HS
  obtain ⟨l,i,p,hig,hi10,rfl,hl20,hp0',hp1',HS⟩:=hrel
  cases i with
  | zero =>
   have p1 : ((0 : Int) < ((0 : Nat) : Int)) = False:=eq_false (by omega)
   go_wp2
   go_ret
   exact ⟨_,l,p,rfl,HS.out.row,HS.out.is,HS.out.bel,HS.out.kp⟩
  | succ j =>
   have HLN:=Aside0.mk hl20
   have p1 : ((0 : Int) < ((j + 1 : Nat) : Int)) = True:=eq_true (by omega)
   have p2 : wrap64 (((j + 1 : Nat) : Int) - 1) = (j : Int):=by rw [wrap_eq (by omega) (by omega)];omega
   obtain ⟨ji,hji⟩ : ∃ j_ : Int,(if (m2 : Int) < 1 then 1 else (m2 : Int)) = j_:=⟨_,rfl⟩
   obtain ⟨r1,_,_,_,hk1_⟩:=pick_ok hb ji (p:=p) (by omega) (by omega)
   obtain ⟨r2,_,_,_,hk2_⟩:=pick_ok hb ji (p:=p + 1) (by omega) (by omega)
   obtain ⟨r3,_,_,_,hk3_⟩:=pick_ok hb 12 (p:=p + 1 + 1) (by omega) (by omega)
   have hk1:=Aside0.mk hk1_
   have hk2:=Aside0.mk hk2_
   have hk3:=Aside0.mk hk3_
   clear hk1_ hk2_ hk3_
   go_upto_region 5 with (fail)
   have kz:=nbx4 HS.out.hbx
   refine start_ (n:=15) (S:=fun w' => w'.cell? ⟨w.heap.size,2,none⟩ = some (.slice A2 m2 c2)) (ds:=[]) #[false,false,false,false,false,false,false,false,false,false,false,false,false,false,false] (by kernel_rfl) rfl rfl (kz) (fun hHeld => ?_)
   refine pu_ (i:=0) (N:=some 16) 15 1 ?_
   refine pu_ (i:=1) (N:=some 17) 15 3 ?_
   refine pu_ (i:=6) (N:=some 22) 15 67 ?_
   refine pu_ (i:=7) (N:=some 23) 15 195 ?_
   refine take_ (i:=2) (N:=some 18) (v:=?_) (a':=?_) #[true,true,true,false,false,false,true,true,false,false,false,false,false,false,false] rfl rfl (by kernel_rfl) (fun _ _ _ h => h) (Or.inl ⟨by rfl,?_⟩) hHeld ?_ ?_
   rotate_left
   ·intro w' s0
    go_simp
    with_reducible rfl
   rotate_left
   ·simp only [Act.put,sx_,sy_,sz_,i64_w,i32_w]
    rfl
   refine pu_ (i:=3) (N:=some 19) 15 207 ?_
   refine pu_ (i:=4) (N:=some 20) 15 223 ?_
   refine take_ (i:=8) (N:=some 24) (v:=?_) (a':=?_) #[true,true,true,true,true,false,true,true,true,false,false,false,false,false,false] rfl rfl (by kernel_rfl) (fun _ _ _ h => h) (Or.inl ⟨by rfl,?_⟩) hHeld ?_ ?_
   rotate_left
   ·intro w' s0
    go_simp
    with_reducible rfl
   rotate_left
   ·simp only [Act.put,sx_,sy_,sz_,i64_w,i32_w]
    rfl
   refine pu_ (i:=9) (N:=some 25) 15 991 ?_
   refine pu_ (i:=10) (N:=some 26) 15 2015 ?_
   refine join_ (σ:=Nat) 1 #[true,true,true,true,true,true,true,true,true,true,true,true,true,true,false] (fun s_ => [(21,.int .i64 r1),(27,.int .i64 r2),(7,.pointer (some ⟨s_,0,none⟩)),(28,.agg #[.int .i64 r1,.int .i64 r2,.int .i64 0])]) (fun s_ w' => w'.cell? ⟨w.heap.size,2,none⟩ = some (.slice A2 m2 c2) ∧ Aside0 (HSt w0 w g w.heap.size b (.cells #[.int .i64 n,.slice A1 m1 c1,.slice A2 m2 c2,.slice A3 m3 c3] 26 (0,0)) w' (p + 1 + 1) (fun k => k ≠ s_) u5 l) ∧ Aside0 (w'.heap[s_]? = some (.cells #[.int .i64 0,.int .i64 0,.int .i64 0] 37 (0,0))) ∧ Aside0 (s_ ≠ g) ∧ Aside0 (s_ ≠ w.heap.size) ∧ Aside0 (w.heap.size ≤ s_)) ?_ ?_
   rotate_left
   ·intro hCont
    refine two_ (i:=5) (j:=13) (Ni:=some 21) (Nj:=some 7) #[true,true,true,true,true,true,true,true,true,true,true,false,false,false,false] #[true,true,true,true,true,false,true,true,true,true,true,false,false,true,false] rfl rfl rfl rfl (by kernel_rfl) (by decide) (by decide) (fun K hK => ?_) (fun K hK => ?_)
    ·skip
     refine goes_ Try.func62 (by kernel_rfl) rfl #[.pointer (some ⟨g,0,none⟩),.int .i64 ji] (by rfl) rfl rfl (by simp only [List.map_toArray,List.map_cons,List.map_nil];rfl) ?_
     with_reducible refine (spec_l21Rd_pick.calls 100 g b (p) ji r1 (p + 1) w0 _ HS.out.drew.is HS.out.drew.bel (hk1.out 100 (by omega))).mono ?_
     rintro e wq5 ⟨rfl,hi,hb_,hk⟩
     refine ⟨_,rfl,?_⟩
     replace HS:=Aside0.mk (HS.out.drew.keep hk hi hb_)
     clear hi hb_ hk
     have kq5:=nbx4 HS.out.hbx
     refine hK.out _ _ (kq5) (fun hHeld => ?_)
     clear hK K
     refine norm_ (a':=?_) ?_ ?_
     rotate_left
     ·show Act.put _ (some 21) _ = _
      simp only [Act.put,sx_,sy_,sz_,i64_w,i32_w]
      rfl
     refine two_ (i:=11) (j:=13) (Ni:=some 27) (Nj:=some 7) #[true,true,true,true,true,true,true,true,true,true,true,true,false,false,false] #[true,true,true,true,true,true,true,true,true,true,true,false,false,true,false] rfl rfl rfl rfl (by kernel_rfl) (by decide) (by decide) (fun K hK => ?_) (fun K hK => ?_)
     ·skip
      refine goes_ Try.func62 (by kernel_rfl) rfl #[.pointer (some ⟨g,0,none⟩),.int .i64 ji] (by rfl) rfl rfl (by simp only [List.map_toArray,List.map_cons,List.map_nil];rfl) ?_
      with_reducible refine (spec_l21Rd_pick.calls 100 g b (p + 1) ji r2 (p + 1 + 1) w0 _ HS.out.is HS.out.bel (hk2.out 100 (by omega))).mono ?_
      rintro e wq11 ⟨rfl,hi,hb_,hk⟩
      refine ⟨_,rfl,?_⟩
      replace HS:=Aside0.mk (HS.out.keep hk hi hb_)
      clear hi hb_ hk
      have kq11:=nbx4 HS.out.hbx
      refine hK.out _ _ (kq11) (fun hHeld => ?_)
      clear hK K
      refine norm_ (a':=?_) ?_ ?_
      rotate_left
      ·show Act.put _ (some 27) _ = _
       simp only [Act.put,sx_,sy_,sz_,i64_w,i32_w]
       rfl
      refine pu_ (i:=12) (N:=some 28) 15 8191 ?_
      refine on_ (i:=13) (N:=some 7) 15 16383 (fun K hK => ?_)
      refine value_ (w1:=?_) (v:=?_) (by rfl) rfl ?_ ?_
      rotate_left 2
      ·go_simp
       constructor
       ·rfl
       ·rfl
      have HH:=Aside0.mk (blk_new wq11 (.cells #[.int .i64 0,.int .i64 0,.int .i64 0] 37))
      have HHg : Aside0 (wq11.heap.size ≠ g):=⟨by have:=HS.out.is.lt;omega⟩
      have HHb : Aside0 (wq11.heap.size ≠ w.heap.size):=⟨by have:=blk_lt HS.out.hbx;omega⟩
      have HHl : Aside0 (w.heap.size ≤ wq11.heap.size):=⟨HS.out.kp.1⟩
      replace HS:=Aside0.mk (HS.out.box (.cells #[.int .i64 0,.int .i64 0,.int .i64 0] 37))
      generalize wq11.heap.size = sb at HH HHg HHb HHl HS ⊢
      have kq13:=nbx4 HS.out.hbx
      refine hK.out _ _ (kq13) (fun hHeld => ?_)
      clear hK K
      refine norm_ (a':=?_) ?_ ?_
      rotate_left
      ·show Act.put _ (some 7) _ = _
       simp only [Act.put,sx_,sy_,sz_,i64_w,i32_w]
       rfl
      exact norm_ (by simp only [putAll,Act.put,sx_,sy_,sz_]) (hCont sb _ ⟨nbx4 HS.out.hbx,HS,HH,HHg,HHb,HHl⟩)
     ·skip
      refine value_ (w1:=?_) (v:=?_) (by rfl) rfl ?_ ?_
      rotate_left 2
      ·go_simp
       constructor
       ·rfl
       ·rfl
      have HH:=Aside0.mk (blk_new wq5 (.cells #[.int .i64 0,.int .i64 0,.int .i64 0] 37))
      have HHg : Aside0 (wq5.heap.size ≠ g):=⟨by have:=HS.out.is.lt;omega⟩
      have HHb : Aside0 (wq5.heap.size ≠ w.heap.size):=⟨by have:=blk_lt HS.out.hbx;omega⟩
      have HHl : Aside0 (w.heap.size ≤ wq5.heap.size):=⟨HS.out.kp.1⟩
      replace HS:=Aside0.mk (HS.out.box (.cells #[.int .i64 0,.int .i64 0,.int .i64 0] 37))
      generalize wq5.heap.size = sb at HH HHg HHb HHl HS ⊢
      have kq13:=nbx4 HS.out.hbx
      refine hK.out _ _ (kq13) (fun hHeld => ?_)
      clear hK K
      refine norm_ (a':=?_) ?_ ?_
      rotate_left
      ·show Act.put _ (some 7) _ = _
       simp only [Act.put,sx_,sy_,sz_,i64_w,i32_w]
       rfl
      refine on_ (i:=11) (N:=some 27) 15 12287 (fun K hK => ?_)
      refine goes_ Try.func62 (by kernel_rfl) rfl #[.pointer (some ⟨g,0,none⟩),.int .i64 ji] (by rfl) rfl rfl (by simp only [List.map_toArray,List.map_cons,List.map_nil];rfl) ?_
      with_reducible refine (spec_l21Rd_pick.calls 100 g b (p + 1) ji r2 (p + 1 + 1) w0 _ HS.out.is HS.out.bel (hk2.out 100 (by omega))).mono ?_
      rintro e wq11 ⟨rfl,hi,hb_,hk⟩
      refine ⟨_,rfl,?_⟩
      replace HS:=Aside0.mk (HS.out.keep hk hi hb_)
      replace HH:=Aside0.mk (KeepBut.blk hk HH.out HHg.out (by simp))
      clear hi hb_ hk
      have kq11:=nbx4 HS.out.hbx
      refine hK.out _ _ (kq11) (fun hHeld => ?_)
      clear hK K
      refine norm_ (a':=?_) ?_ ?_
      rotate_left
      ·show Act.put _ (some 27) _ = _
       simp only [Act.put,sx_,sy_,sz_,i64_w,i32_w]
       rfl
      refine pu_ (i:=12) (N:=some 28) 15 16383 ?_
      exact norm_ (by simp only [putAll,Act.put,sx_,sy_,sz_]) (hCont sb _ ⟨nbx4 HS.out.hbx,HS,HH,HHg,HHb,HHl⟩)
    ·skip
     refine value_ (w1:=?_) (v:=?_) (by rfl) rfl ?_ ?_
     rotate_left 2
     ·go_simp
      constructor
      ·rfl
      ·rfl
     have HH:=Aside0.mk (blk_drew (blk_new wr (.cells #[.int .i64 0,.int .i64 0,.int .i64 0] 37)))
     have HHg : Aside0 (wr.heap.size ≠ g):=⟨by have:=HS.out.is.lt;omega⟩
     have HHb : Aside0 (wr.heap.size ≠ w.heap.size):=⟨by have:=blk_lt HS.out.hbx;omega⟩
     have HHl : Aside0 (w.heap.size ≤ wr.heap.size):=⟨HS.out.kp.1⟩
     replace HS:=Aside0.mk ((HS.out.box (.cells #[.int .i64 0,.int .i64 0,.int .i64 0] 37)).drew)
     generalize wr.heap.size = sb at HH HHg HHb HHl HS ⊢
     have kq13:=nbx4 HS.out.hbx
     refine hK.out _ _ (kq13) (fun hHeld => ?_)
     clear hK K
     refine norm_ (a':=?_) ?_ ?_
     rotate_left
     ·show Act.put _ (some 7) _ = _
      simp only [Act.put,sx_,sy_,sz_,i64_w,i32_w]
      rfl
     refine on_ (i:=5) (N:=some 21) 15 10239 (fun K hK => ?_)
     refine goes_ Try.func62 (by kernel_rfl) rfl #[.pointer (some ⟨g,0,none⟩),.int .i64 ji] (by rfl) rfl rfl (by simp only [List.map_toArray,List.map_cons,List.map_nil];rfl) ?_
     with_reducible refine (spec_l21Rd_pick.calls 100 g b (p) ji r1 (p + 1) w0 _ HS.out.is HS.out.bel (hk1.out 100 (by omega))).mono ?_
     rintro e wq5 ⟨rfl,hi,hb_,hk⟩
     refine ⟨_,rfl,?_⟩
     replace HS:=Aside0.mk (HS.out.keep hk hi hb_)
     replace HH:=Aside0.mk (KeepBut.blk hk HH.out HHg.out (by simp))
     clear hi hb_ hk
     have kq5:=nbx4 HS.out.hbx
     refine hK.out _ _ (kq5) (fun hHeld => ?_)
     clear hK K
     refine norm_ (a':=?_) ?_ ?_
     rotate_left
     ·show Act.put _ (some 21) _ = _
      simp only [Act.put,sx_,sy_,sz_,i64_w,i32_w]
      rfl
     refine on_ (i:=11) (N:=some 27) 15 12287 (fun K hK => ?_)
     refine goes_ Try.func62 (by kernel_rfl) rfl #[.pointer (some ⟨g,0,none⟩),.int .i64 ji] (by rfl) rfl rfl (by simp only [List.map_toArray,List.map_cons,List.map_nil];rfl) ?_
     with_reducible refine (spec_l21Rd_pick.calls 100 g b (p + 1) ji r2 (p + 1 + 1) w0 _ HS.out.is HS.out.bel (hk2.out 100 (by omega))).mono ?_
     rintro e wq11 ⟨rfl,hi,hb_,hk⟩
     refine ⟨_,rfl,?_⟩
     replace HS:=Aside0.mk (HS.out.keep hk hi hb_)
     replace HH:=Aside0.mk (KeepBut.blk hk HH.out HHg.out (by simp))
     clear hi hb_ hk
     have kq11:=nbx4 HS.out.hbx
     refine hK.out _ _ (kq11) (fun hHeld => ?_)
     clear hK K
     refine norm_ (a':=?_) ?_ ?_
     rotate_left
     ·show Act.put _ (some 27) _ = _
      simp only [Act.put,sx_,sy_,sz_,i64_w,i32_w]
      rfl
     refine pu_ (i:=12) (N:=some 28) 15 16383 ?_
     exact norm_ (by simp only [putAll,Act.put,sx_,sy_,sz_]) (hCont sb _ ⟨nbx4 HS.out.hbx,HS,HH,HHg,HHb,HHl⟩)
   rintro sb wj ⟨hHeld,HS,HH,HHg,HHb,HHl⟩
   refine norm_ (a':=?_) ?_ ?_
   rotate_left
   ·simp only [putAll,Act.put,sx_,sy_,sz_]
    rfl
   refine on_ (i:=14) (N:=none) 15 32767 (fun K hK => ?_)
   obtain ⟨e0,e1,e2⟩:=nbx3 HH.out
   have f0:=blk_frozen HH.out 0
   have f1:=blk_frozen HH.out 1
   have f2:=blk_frozen HH.out 2
   have g1_:=HHb.out
   have g2_:=HHb.out.symm
   refine skip_ (w1:=?_) (by rfl) rfl ?_ ?_
   rotate_left
   ·go_simp
    rfl
   replace HS:=Aside0.mk (((HS.out.set HL.out HHl.out HHg.out HHb.out 0 (.int .i64 r1)).set HL.out HHl.out HHg.out HHb.out 1 (.int .i64 r2)).set HL.out HHl.out HHg.out HHb.out 2 (.int .i64 0))
   replace HH:=Aside0.mk (show (_ : Option Obj) = some (.cells #[.int .i64 r1,.int .i64 r2,.int .i64 0] 37 (0,0)) from nb_setl (nb_setl (nb_setl HH.out 0 (.int .i64 r1)) 1 (.int .i64 r2)) 2 (.int .i64 0))
   generalize ((wj.setCell ⟨sb,0,none⟩ (.int .i64 r1)).setCell ⟨sb,1,none⟩ (.int .i64 r2)).setCell ⟨sb,2,none⟩ (.int .i64 0) = wk at HS HH ⊢
   clear e0 e1 e2 f0 f1 f2 g1_ g2_
   have kq14:=nbx4 HS.out.hbx
   refine hK.out _ _ (kq14) (fun hHeld => ?_)
   clear hK K
   refine done_ (by kernel_rfl) ?_
   clear kz kq14
   go_wp2_with fail
   refine (spec_l21Rd_pick.calls 100 g b (p + 1 + 1) 12 r3 (p + 1 + 1 + 1) w0 _ HS.out.is HS.out.bel (hk3.out 100 (by omega))).mono ?_
   rintro e w5 ⟨rfl,hi,hb_,hk⟩
   replace HS:=Aside0.mk (HS.out.keep hk hi hb_)
   replace HH:=Aside0.mk (KeepBut.blk hk HH.out HHg.out (by simp))
   clear hi hb_ hk hk1 hk2 hk3
   obtain ⟨e0,e1,e2⟩:=nbx3 HH.out
   have f1:=blk_frozen HH.out 1
   refine hop4_ r3 ?cA ?cB ?cC ?cD
   case' cA =>
    intro d0
    subst d0
    go_upto_region 12 with (fail)
    replace HS:=Aside0.mk (HS.out.set HL.out HHl.out HHg.out HHb.out 1 (.int .i64 15))
    replace HH:=Aside0.mk (show (_ : Option Obj) = some (.cells #[.int .i64 r1,.int .i64 15,.int .i64 0] 37 (0,0)) from nb_setl HH.out 1 (.int .i64 15))
    generalize w5.setCell ⟨sb,1,none⟩ (.int .i64 15) = w6 at HS HH ⊢
    clear e0 e1 e2 f1
    obtain ⟨y1,hy1⟩ : ∃ y1 : Int,(15 : Int) = y1:=⟨_,rfl⟩
    rw [hy1] at HH
    clear hy1
    obtain ⟨q_,hq_⟩ : ∃ q_,p + 1 + 1 + 1 = q_:=⟨_,rfl⟩
    rw [hq_] at HS
   case' cB =>
    intro d0
    subst d0
    go_upto_region 12 with (fail)
    replace HS:=Aside0.mk (HS.out.set HL.out HHl.out HHg.out HHb.out 1 (.int .i64 15))
    replace HH:=Aside0.mk (show (_ : Option Obj) = some (.cells #[.int .i64 r1,.int .i64 15,.int .i64 0] 37 (0,0)) from nb_setl HH.out 1 (.int .i64 15))
    generalize w5.setCell ⟨sb,1,none⟩ (.int .i64 15) = w6 at HS HH ⊢
    clear e0 e1 e2 f1
    obtain ⟨y1,hy1⟩ : ∃ y1 : Int,(15 : Int) = y1:=⟨_,rfl⟩
    rw [hy1] at HH
    clear hy1
    obtain ⟨q_,hq_⟩ : ∃ q_,p + 1 + 1 + 1 = q_:=⟨_,rfl⟩
    rw [hq_] at HS
   case' cC =>
    intro d0
    subst d0
    obtain ⟨y1,_,hn_⟩:=num_ok hb [r1,-1,r1,r1,14] (p:=p + 1 + 1 + 1) (by omega) (by omega) (by simp)
    have hc5:=C_ints (W:=w5.alloc (.cells #[.int .i64 r1,.int .i64 (-1),.int .i64 r1,.int .i64 r1,.int .i64 14] 3)) (b:=w5.heap.size) (t:=3) [r1,-1,r1,r1,14] (blk_new w5 _) (by simp)
    have hs5:=HS.out.alloc (.cells #[.int .i64 r1,.int .i64 (-1),.int .i64 r1,.int .i64 r1,.int .i64 14] 3)
    have hcall:=spec_l21Rd_num.calls 100 g b (p + 1 + 1 + 1) (some ⟨w5.heap.size,0,none⟩) 5 [r1,-1,r1,r1,14] y1 (p + 1 + 1 + 1 + 1) w0 _ hs5.is hs5.bel hc5 (by simp) (fun ad e _ => by injection e with e;subst e;have:=HS.out.is.lt;show w5.heap.size ≠ g;omega) (hn_ 100 (by omega))
    have HC:=Aside0.mk hcall
    replace HS:=Aside0.mk hs5
    replace HH:=Aside0.mk (blk_alloc HH.out (.cells #[.int .i64 r1,.int .i64 (-1),.int .i64 r1,.int .i64 r1,.int .i64 14] 3))
    clear hcall hs5 hc5 hn_
    go_wp2_with fail
    refine HC.out.mono ?_
    rintro e w7 ⟨rfl,hi,hb_,hk⟩
    replace HS:=Aside0.mk (HS.out.keep hk hi hb_)
    replace HH:=Aside0.mk (KeepBut.blk hk HH.out HHg.out (by simp))
    clear hi hb_ hk HC e0 e1 e2 f1
    obtain ⟨e0,e1,e2⟩:=nbx3 HH.out
    have f1:=blk_frozen HH.out 1
    go_upto_region 12 with (fail)
    replace HS:=Aside0.mk (HS.out.set HL.out HHl.out HHg.out HHb.out 1 (.int .i64 y1))
    replace HH:=Aside0.mk (show (_ : Option Obj) = some (.cells #[.int .i64 r1,.int .i64 y1,.int .i64 0] 37 (0,0)) from nb_setl HH.out 1 (.int .i64 y1))
    generalize w7.setCell ⟨sb,1,none⟩ (.int .i64 y1) = w6 at HS HH ⊢
    clear e0 e1 e2 f1
    obtain ⟨q_,hq_⟩ : ∃ q_,p + 1 + 1 + 1 + 1 = q_:=⟨_,rfl⟩
    rw [hq_] at HS
   case' cD =>
    intro d0 d1 d2
    have d0b : (r3 == 0) = false:=beq_eq_false_iff_ne.mpr d0
    have d1b : (r3 == 1) = false:=beq_eq_false_iff_ne.mpr d1
    have d2b : (r3 == 2) = false:=beq_eq_false_iff_ne.mpr d2
    clear d0 d1 d2
    go_upto_region 12 with (fail)
    clear e0 e1 e2 f1 d0b d1b d2b
    obtain ⟨y1,hy1⟩ : ∃ y1 : Int,r2 = y1:=⟨_,rfl⟩
    rw [hy1] at HH
    clear hy1
    obtain ⟨q_,hq_⟩ : ∃ q_,p + 1 + 1 + 1 = q_:=⟨_,rfl⟩
    rw [hq_] at HS
   all_goals
    obtain ⟨e0,e1,e2⟩:=nbx3 HH.out
    obtain ⟨r4,_,_,_,hk4_⟩:=pick_ok hb 3 (p:=q_) (by omega) (by omega)
    have hk4:=Aside0.mk hk4_
    clear hk4_
    go_wp2_with (first | ((with_reducible refine gate_builtin (b:=.append) (xs:=#[.tmp 47,.tmp 49]) rfl ?_);at_builtin;refine Kd.R_append k37 w.heap.size rfl (.tmp 47) (.tmp 49) 27 37 (.agg #[(.int .i64 0),(.int .i64 0),(.int .i64 0)]) 24 rfl Try.underlying27 hopInfo rfl (by decide) (by omega) u5 l (⟨r1,y1,0⟩ : S37) [.int .i64 r1,.int .i64 y1,.int .i64 0] (fun k_ => k_ ≠ sb) (fun _ => False) rfl (by first | (go_simp;done) | (go_simp;rfl)) (k37_mkM _ _ _ (⟨r1,y1,0⟩ : S37)) (fun _ hk => hk.elim) (fun k_ hk => Kd.freshB HH.out k_ hk) HS.out.row (Below.refl _ _) HS.out.kp.1 ?aL ?_;(case aL => have:=HLN.out;(try simp only [List.length_append,List.length_singleton]);omega);intro v2 w2 ho hb_ hg hat))
    have HH2:=Aside0.mk (blk_grown HH.out hg (Kd.R_away HS.out.row (fun _ hk => hk)))
    replace HS:=Aside0.mk (HS.out.grown HL.out ho hb_ hg)
    replace HH:=HH2
    clear HH2 ho hb_ hg hat e0 e1 e2
    go_wp2_with fail
    refine (spec_l21Rd_pick.calls 100 g b (q_) 3 r4 (q_ + 1) w0 _ HS.out.is HS.out.bel (hk4.out 100 (by omega))).mono ?_
    rintro e w3 ⟨rfl,hi,hb_,hk⟩
    replace HS:=Aside0.mk (HS.out.keep hk hi hb_)
    replace HH:=Aside0.mk (KeepBut.blk hk HH.out HHg.out (by simp))
    clear hi hb_ hk hk4
    obtain ⟨e0,e1,e2⟩:=nbx3 HH.out
    by_cases d1 : r4 = 0
    ·have d1b : (r4 == 0) = true:=beq_iff_eq.mpr d1
     clear d1
     by_cases d2 : y1 < 15
     ·have d2b : decide (y1 < 15) = true:=decide_eq_true d2
      clear d2
      go_wp2_with (first | ((with_reducible refine gate_builtin (b:=.append) (xs:=#[.tmp 59,.tmp 65]) rfl ?_);at_builtin;refine Kd.R_append k37 w.heap.size rfl (.tmp 59) (.tmp 65) 27 37 (.agg #[(.int .i64 0),(.int .i64 0),(.int .i64 0)]) 24 rfl Try.underlying27 hopInfo rfl (by decide) (by omega) v2 (l ++ [(⟨r1,y1,0⟩ : S37)]) (⟨y1,r1,0⟩ : S37) [.int .i64 y1,.int .i64 r1,.int .i64 0] (fun k_ => k_ ≠ sb) (fun _ => False) rfl (by first | (go_simp;done) | (go_simp;rfl)) (k37_mkM _ _ _ (⟨y1,r1,0⟩ : S37)) (fun _ hk => hk.elim) (fun k_ hk => Kd.freshB HH.out k_ hk) HS.out.row (Below.refl _ _) HS.out.kp.1 ?aL ?_;(case aL => have:=HLN.out;(try simp only [List.length_append,List.length_singleton]);omega);intro v3 w4 ho hb_ hg hat))
      replace HS:=Aside0.mk (HS.out.grown HL.out ho hb_ hg)
      clear ho hb_ hg hat e0 e1 e2
      go_wp2
      go_roundg j
      case measure => omega
      case rel => exact ⟨(l ++ [(⟨r1,y1,0⟩ : S37)]) ++ [(⟨y1,r1,0⟩ : S37)],j,q_ + 1,by omega,by omega,rfl,by simp only [List.length_append,List.length_singleton];have:=HLN.out;omega,by omega,by omega,⟨⟨HS.out.is,HS.out.bel,HS.out.kp,HS.out.hbx,HS.out.ne,Kd.R_mono HS.out.row (fun _ _ => trivial)⟩⟩⟩
     ·have d2b : decide (y1 < 15) = false:=decide_eq_false d2
      clear d2
      go_wp2
      go_roundg j
      case measure => omega
      case rel => exact ⟨l ++ [(⟨r1,y1,0⟩ : S37)],j,q_ + 1,by omega,by omega,rfl,by simp only [List.length_append,List.length_singleton];have:=HLN.out;omega,by omega,by omega,⟨⟨HS.out.is,HS.out.bel,HS.out.kp,HS.out.hbx,HS.out.ne,Kd.R_mono HS.out.row (fun _ _ => trivial)⟩⟩⟩
    ·have d1b : (r4 == 0) = false:=beq_eq_false_iff_ne.mpr d1
     clear d1
     go_wp2
     go_roundg j
     case measure => omega
     case rel => exact ⟨l ++ [(⟨r1,y1,0⟩ : S37)],j,q_ + 1,by omega,by omega,rfl,by simp only [List.length_append,List.length_singleton];have:=HLN.out;omega,by omega,by omega,⟨⟨HS.out.is,HS.out.bel,HS.out.kp,HS.out.hbx,HS.out.ne,Kd.R_mono HS.out.row (fun _ _ => trivial)⟩⟩⟩

-- LIB netdraw
theorem nbd4 {W : World} {b t : Nat} {a0 a1 a2 a3 : Value} (h : W.heap[b]? = some (.cells #[a0, a1, a2, a3] t (0, 0))) :
  W.cell? ⟨b,0,none⟩ = some a0 ∧ W.cell? ⟨b,1,none⟩ = some a1 ∧ W.cell? ⟨b,2,none⟩ = some a2 ∧ W.cell? ⟨b,3,none⟩ = some a3 :=
 ⟨(blk_cell h 0).trans rfl,(blk_cell h 1).trans rfl,(blk_cell h 2).trans rfl,(blk_cell h 3).trans rfl⟩

-- LIB netdraw
theorem R_set4 {α : Type} {d : Kd α} {e base a t : Nat} {ok : Nat → Prop} {W : World} {v : Value} {xs : List α} {cs : Array Value} (h : d.R e W base ok v xs) (hn : W.heap[a]? = some (.cells cs t (0, 0))) (ht : ∀ q, q ∈ e :: d.E → q ≠ t) (u0 u1 u2 u3 : Value) :
  d.R e ((((W.setCell ⟨a,0,none⟩ u0).setCell ⟨a,1,none⟩ u1).setCell ⟨a,2,none⟩ u2).setCell ⟨a,3,none⟩ u3) base ok v xs :=
 Kd.R_mono (Kd.R_far (p:=⟨a,3,none⟩) (Kd.R_far (p:=⟨a,2,none⟩) (Kd.R_far (p:=⟨a,1,none⟩) (Kd.R_far (p:=⟨a,0,none⟩) (Kd.R_types h hn ht) (λ_ h=>h.2) u0) (λ_ h=>h.2) u1) (λ_ h=>h.2) u2) (λ_ h=>h.2) u3) (fun _ hk => hk.1)

-- LIB netdraw
theorem Q_set4 {α : Type} {d : Kd α} {e base a t : Nat} {ok : Nat → Prop} {W : World} {v : Value} {xs : List α} {cs : Array Value} (h : d.Q e W base ok v xs) (hn : W.heap[a]? = some (.cells cs t (0, 0))) (ht : ∀ q, q ∈ e :: d.E → q ≠ t) (u0 u1 u2 u3 : Value) :
  d.Q e ((((W.setCell ⟨a,0,none⟩ u0).setCell ⟨a,1,none⟩ u1).setCell ⟨a,2,none⟩ u2).setCell ⟨a,3,none⟩ u3) base ok v xs :=
 Kd.Q_mono (Kd.Q_far (p:=⟨a,3,none⟩) (Kd.Q_far (p:=⟨a,2,none⟩) (Kd.Q_far (p:=⟨a,1,none⟩) (Kd.Q_far (p:=⟨a,0,none⟩) (Kd.Q_types h hn ht) (λ_ h=>h.2) u0) (λ_ h=>h.2) u1) (λ_ h=>h.2) u2) (λ_ h=>h.2) u3) (fun _ hk => hk.1)

-- LIB netdraw
set_option maxHeartbeats 4000000 in
set_option maxRecDepth 100000 in
theorem x_draw (A0 : Option Addr) (c0 : Nat) (l0 : List Int) (w : World) (hr0 : Kd.C (Kd.int .u8) w A0 l0.length l0) (hc0 : l0.length ≤ c0) (hw : ∀ x ∈ l0, (Lit.int .u8 x).wf = true) :
  Calls Try.prog 8 #[.slice A0 l0.length c0] w fun e w' => ∃ (n : Int) (cs : List S83) (hs vs : List Int) (l : List S37) (v1 v2 v3 v4 : Value),e = .returned (.tuple #[.agg #[.int .i64 n,v1,v2,v3],v4]) ∧
   Kd.R k83 83 w' w.heap.size (fun _ => True) v1 cs ∧ Kd.R (Kd.int .i64) 3 w' w.heap.size (fun _ => True) v2 hs ∧ Kd.Q (Kd.int .i64) 3 w' w.heap.size (fun _ => True) v3 vs ∧ Kd.R k37 37 w' w.heap.size (fun _ => True) v4 l ∧ Below w.heap.size w w':=by
 have hu:=Try.underlying26
 obtain ⟨b,hbo,hb⟩:=open_ok l0 hw
 obtain ⟨n,cs,hs,vs,p,q1,q2,q3,q4,q5,q6,q7,q8⟩:=l19_ok hb (p:=0) (by omega) (by omega)
 have HP:=Aside0.mk (show 0 ≤ p ∧ p ≤ 10000 by omega)
 have HM:=Aside0.mk (show hs.length ≤ 1000 by omega)
 have hba:=below_alloc (Below.refl w.heap.size w) (.cells #[.int .i64 0,.slice none 0 0,.slice none 0 0,.slice none 0 0] 26)
 have HN2:=Aside0.mk (blk_new w (.cells #[.int .i64 0,.slice none 0 0,.slice none 0 0,.slice none 0 0] 26))
 have HO:=Aside0.mk (spec_l21Open.calls A0 c0 l0 b 0 w (w.alloc (.cells #[.int .i64 0,.slice none 0 0,.slice none 0 0,.slice none 0 0] 26)) hba hr0 hc0 hbo)
 have HNET:=Aside0.mk (fun g W hi hB => spec_l19Net.calls 101 g b 0 n cs hs vs p w W hi hB (q8 101 (by omega)))
 clear hba hr0 hc0 hbo q1 q2 q3 q4 q5 q6 q7 q8 hw
 go_enter Try.func8,Try.ntmps8
 go_wp2_with fail
 refine HO.out.mono ?_
 rintro e w1 ⟨g,rfl,hi,hb1,hb2⟩
 replace HN2:=Aside0.mk (blk_below HN2.out hb2)
 have HG2 : Aside0 (w.heap.size ≠ g):=⟨fun e => IsS94.ne_blk hi HN2.out (by decide) e.symm⟩
 have HL1:=Aside0.mk hb1.size
 clear hb2 HO
 go_wp2_with fail
 refine (HNET.out g w1 hi hb1).mono ?_
 rintro e w2 ⟨v1,v2,v3,rfl,h1,h2,h3,hi2,hb2,hk2⟩
 obtain ⟨X1,x1,rfl⟩:=Kd.R_slice h1
 obtain ⟨X2,x2,rfl⟩:=Kd.R_slice h2
 obtain ⟨X3,x3,rfl⟩ : ∃ A c,v3 = .slice A vs.length c:=by
  obtain ⟨_,_,ho,_⟩:=h3
  obtain ⟨A',c',he,_⟩:=q_slice ho
  exact ⟨A',c',he⟩
 have H1:=Aside0.mk (Kd.R_alloc (Kd.R_mono (Kd.R_lower h1 HL1.out) (ok':=fun _ => True) (fun _ _ => trivial)) (.cells #[.int .i64 n,.slice X1 cs.length x1,.slice X2 hs.length x2,.slice X3 vs.length x3] 26))
 have H2:=Aside0.mk (Kd.R_alloc (Kd.R_mono (Kd.R_lower h2 HL1.out) (ok':=fun _ => True) (fun _ _ => trivial)) (.cells #[.int .i64 n,.slice X1 cs.length x1,.slice X2 hs.length x2,.slice X3 vs.length x3] 26))
 have H3:=Aside0.mk (Kd.Q_alloc (Kd.Q_mono (Kd.Q_lower h3 HL1.out) (ok':=fun _ => True) (fun _ _ => trivial)) (.cells #[.int .i64 n,.slice X1 cs.length x1,.slice X2 hs.length x2,.slice X3 vs.length x3] 26))
 have hlt2:=blk_lt (KeepBut.blk hk2 HN2.out HG2.out (by simp))
 replace HN2:=Aside0.mk (blk_alloc (KeepBut.blk hk2 HN2.out HG2.out (by simp)) (.cells #[.int .i64 n,.slice X1 cs.length x1,.slice X2 hs.length x2,.slice X3 vs.length x3] 26))
 have HN5:=Aside0.mk (blk_new w2 (.cells #[.int .i64 n,.slice X1 cs.length x1,.slice X2 hs.length x2,.slice X3 vs.length x3] 26))
 have HG5 : Aside0 (w2.heap.size ≠ g):=⟨by have:=hi2.lt;omega⟩
 have HN25 : Aside0 (w2.heap.size ≠ w.heap.size):=⟨by omega⟩
 have HI:=Aside0.mk (hi2.alloc (.cells #[.int .i64 n,.slice X1 cs.length x1,.slice X2 hs.length x2,.slice X3 vs.length x3] 26))
 have HB:=Aside0.mk (below_alloc hb2 (.cells #[.int .i64 n,.slice X1 cs.length x1,.slice X2 hs.length x2,.slice X3 vs.length x3] 26))
 clear h1 h2 h3 hi hi2 hb1 hb2 hk2 HNET hlt2
 go_upto_region 3 with (fail)
 generalize w2.alloc (.cells #[.int .i64 n,.slice X1 cs.length x1,.slice X2 hs.length x2,.slice X3 vs.length x3] 26) = W3 at H1 H2 H3 HN2 HN5 HI HB ⊢
 generalize w2.heap.size = b5 at HN5 HG5 HN25 ⊢
 obtain ⟨k0,k1,k2,k3⟩:=nbd4 HN5.out
 refine start_ (n:=6) (S:=fun w' => w'.cell? ⟨b5,0,none⟩ = some (.int .i64 n) ∧ w'.cell? ⟨b5,1,none⟩ = some (.slice X1 cs.length x1) ∧ w'.cell? ⟨b5,2,none⟩ = some (.slice X2 hs.length x2) ∧ w'.cell? ⟨b5,3,none⟩ = some (.slice X3 vs.length x3)) (ds:=[4]) #[false,false,false,false,false,false] (by kernel_rfl) rfl rfl ⟨k0,k1,k2,k3⟩ (fun hHeld => ?_)
 refine pu_ (i:=1) (N:=some 11) 6 2 ?_
 refine ta4_ (i:=0) (N:=some 10) 6 3 hHeld ?_
 refine ta4_ (i:=2) (N:=some 12) 6 7 hHeld ?_
 refine on_ (i:=3) (N:=some 13) 6 15 (fun K hK => ?_)
 refine goes_ Try.func30 (by kernel_rfl) rfl #[.pointer (some ⟨g,0,none⟩),.agg #[.int .i64 n,.slice X1 cs.length x1,.slice X2 hs.length x2,.slice X3 vs.length x3]] (by rfl) rfl rfl (by simp only [List.map_toArray,List.map_cons,List.map_nil];rfl) ?_
 with_reducible refine (x_hops w _ g b p hb HP.out.1 HP.out.2 n X1 cs.length x1 X2 hs.length x2 X3 vs.length x3 HM.out HI.out.drew (below_drew1 HB.out)).mono ?_
 rintro e w4 ⟨v4,l,p',rfl,h4,hi4,hb4,hk4⟩
 refine ⟨_,rfl,?_⟩
 obtain ⟨X4,x4,rfl⟩:=Kd.R_slice h4
 have H4:=Aside0.mk (Kd.R_mono (Kd.R_lower h4 HB.out.size) (ok':=fun _ => True) (fun _ _ => trivial))
 replace H1:=Aside0.mk (Kd.R_mono (Kd.R_keep (IsS94.apart HI.out H1.out (by decide)) hk4 (fun _ h => h.2)) (ok':=fun _ => True) (fun _ _ => trivial))
 replace H2:=Aside0.mk (Kd.R_mono (Kd.R_keep (IsS94.apart HI.out H2.out (by decide)) hk4 (fun _ h => h.2)) (ok':=fun _ => True) (fun _ _ => trivial))
 replace H3:=Aside0.mk (Kd.Q_mono (Kd.Q_keep (IsS94.apartQ HI.out H3.out (by decide)) hk4 (fun _ h => h.2)) (ok':=fun _ => True) (fun _ _ => trivial))
 replace HN2:=Aside0.mk (KeepBut.blk hk4 HN2.out HG2.out (by simp))
 replace HN5:=Aside0.mk (KeepBut.blk hk4 HN5.out HG5.out (by simp))
 replace HB:=Aside0.mk hb4
 clear h4 hi4 hb4 hk4 HI
 obtain ⟨i0,i1,i2,i3⟩:=nbd4 HN5.out
 refine hK.out _ _ ⟨i0,i1,i2,i3⟩ (fun hHeld => ?_)
 clear hK K
 refine norm_ (a':=?_) ?_ ?_
 rotate_left
 ·show Act.put _ (some 13) _ = _
  simp only [Act.put,sx_,sy_,sz_,i64_w,i32_w]
  rfl
 refine last_ (i:=4) (N:=none) #[true,true,true,true,true,false] rfl rfl (by kernel_rfl) (by decide) (fun K hK => ?_)
 obtain ⟨e0,e1,e2,e3⟩:=nbd4 HN2.out
 have f0:=blk_frozen HN2.out 0
 have f1:=blk_frozen HN2.out 1
 have f2:=blk_frozen HN2.out 2
 have f3:=blk_frozen HN2.out 3
 refine skip_ (w1:=?_) (by rfl) rfl ?_ ?_
 rotate_left
 ·go_simp
  rfl
 refine hK.out _ _ ?_
 clear hK K
 refine pu_ (i:=5) (N:=some 3) 6 63 ?_
 refine done_ (by kernel_rfl) ?_

 go_wp2
 have hn2:=nb_setl (nb_setl (nb_setl (nb_setl HN2.out 0 (.int .i64 n)) 1 (.slice X1 cs.length x1)) 2 (.slice X2 hs.length x2)) 3 (.slice X3 vs.length x3)
 refine bodyPost_ret (results_ct rfl _ _ w.heap.size 26 #[.int .i64 n,.slice X1 cs.length x1,.slice X2 hs.length x2,.slice X3 vs.length x3] (0,0) _ rfl hn2 Try.underlying26 rfl (by kernel_rfl)) rfl ?_
 exact ⟨n,cs,hs,vs,l,_,_,_,_,rfl,R_set4 H1.out HN2.out (by decide) _ _ _ _,R_set4 H2.out HN2.out (by decide) _ _ _ _,Q_set4 H3.out HN2.out (by decide) _ _ _ _,R_set4 H4.out HN2.out (by decide) _ _ _ _,(((HB.out.setCell (p:=⟨w.heap.size,0,none⟩) (Nat.le_refl _) _).setCell (p:=⟨w.heap.size,1,none⟩) (Nat.le_refl _) _).setCell (p:=⟨w.heap.size,2,none⟩) (Nat.le_refl _) _).setCell (p:=⟨w.heap.size,3,none⟩) (Nat.le_refl _) _⟩

-- LIB way3
theorem filM_asc (p : Int → Bool) (d : Nat) : ∀ i,(filM p d i).Pairwise (· < ·):=by
 induction d with
 | zero => exact fun _ => List.Pairwise.nil
 | succ d ih =>
  intro i
  rw [filM]
  split
  ·exact List.Pairwise.cons (fun x hx => by have:=((filM_mem p d (i + 1) x).1 hx).1;omega) (ih (i + 1))
  ·exact ih (i + 1)

-- LIB way3
def wayB (N : Nat) (cs : List S83) (a b : Nat) (i : Int) : Bool:=hasL (upsL N cs a) i != hasL (upsL N cs b) i

-- LIB way3
def wayX (n : Int) (cs : List S83) (hs vs : List Int) (a b : Int) : List Int:=if netB n cs hs vs = true ∧ (0 ≤ a ∧ a < hs.length) ∧ (0 ≤ b ∧ b < hs.length) ∧ rd (rootsL n.toNat cs) (rd hs a) = rd (rootsL n.toNat cs) (rd hs b) then filM (wayB n.toNat cs (rd hs a).toNat (rd hs b).toNat) cs.length 0 else []

end Go.Proofs.Ytblcnbnphjnhdaa.PAll

/- Proved here: contracts of functions of the given program, or lemmas on them, for the laws of this seat. Written by xprint.py, a program of this session, on the ground of the kit's print; parts by hand: wip/x/ext. -/
import Derived.Test.YtblcnbnphjnhdaaPAllx0
import Derived.Test.YtblcnbnphjnhdaaPAllx1
import Derived.Test.YtblcnbnphjnhdaaPAllx2
import Derived.Test.YtblcnbnphjnhdaaPAllx5
import Derived.Test.YtblcnbnphjnhdaaPAllx6
import Derived.Test.YtblcnbnphjnhdaaPAllx7
import Derived.Test.YtblcnbnphjnhdaaPAllx8
namespace Go.Proofs.Ytblcnbnphjnhdaa.PAll
open Go.RowKit Go.Proofs.YtblcnbnphjnhdaaW.PrintWords Go.Proofs.YtblcnbnphjnhdaaW.PrintLast Go.Proofs.YtblcnbnphjnhdaaW.PrintMore
attribute [local go_sem] max2_int min2_int max_two min_two max_three min_three max_four min_four   -- for this text's walks alone
set_option linter.unusedVariables false
set_option linter.unusedSimpArgs false
/-! ### spec_RunNet: function 10 (by hand) -/
def spec_RunNet.f (a0_0 : Int) (l0_1 : List (S83)) (l0_2 : List Int) (l0_3 : List Int) (l1 : List (S37)) : Option ((List (List Int)) × (List (List Int)) × Bool) :=
 if runB a0_0 l0_1 l0_2 l0_3 l1 = true then (framesS l0_1 (treeX a0_0 l0_1) l0_2 l0_3 l1 (List.replicate (a0_0 * 150).toNat (-1))).map (fun p => (p.1,p.2,true)) else some ([],[],false)
set_option maxHeartbeats 4000000 in
set_option maxRecDepth 100000 in
theorem spec_RunNet.calls (a0_0 : Int) (A0_1 : Option Addr) (c0_1 : Nat) (l0_1 : List (S83)) (A0_2 : Option Addr) (c0_2 : Nat) (l0_2 : List Int) (A0_3 : Option Addr) (c0_3 : Nat) (l0_3 : List Int) (A1 : Option Addr) (c1 : Nat) (l1 : List (S37)) (r1 : List (List Int)) (r2 : List (List Int)) (r3 : Bool) (w : World) (hr0_1 : Kd.C k83 w A0_1 l0_1.length l0_1) (hc0_1 : l0_1.length ≤ c0_1) (hr0_2 : Kd.C (Kd.int .i64) w A0_2 l0_2.length l0_2) (hc0_2 : l0_2.length ≤ c0_2) (hr0_3 : Kd.C (Kd.int .i64) w A0_3 l0_3.length l0_3) (hc0_3 : l0_3.length ≤ c0_3) (hr1 : Kd.C k37 w A1 l1.length l1) (hc1 : l1.length ≤ c1) (h : spec_RunNet.f a0_0 l0_1 l0_2 l0_3 l1 = some (r1,r2,r3)) :
  Calls Try.prog 10 #[.agg #[.int .i64 a0_0,.slice A0_1 l0_1.length c0_1,.slice A0_2 l0_2.length c0_2,.slice A0_3 l0_3.length c0_3],.slice A1 l1.length c1] w fun e w' => ∃ v0_ v1_ : Value,e = .returned (.tuple #[.agg #[v0_,v1_],.bool r3]) ∧ Kd.S (Kd.slice 3 (Kd.int .i64)) 24 w' w.heap.size (fun k_ => some k_ ≠ (v1_ : Value).ownBlock) v0_ r1 ∧ Kd.S (Kd.slice 3 (Kd.int .i64)) 24 w' w.heap.size (fun k_ => some k_ ≠ (v0_ : Value).ownBlock) v1_ r2 ∧ Below w.heap.size w w':=by
 unfold spec_RunNet.f at h
 obtain ⟨fin,hfin,rfl,rfl,rfl⟩ : ∃ fin : List (List Int) × List (List Int),(if runB a0_0 l0_1 l0_2 l0_3 l1 = true then framesS l0_1 (treeX a0_0 l0_1) l0_2 l0_3 l1 (List.replicate (a0_0 * 150).toNat (-1)) = some fin else fin = ([],[])) ∧ fin.1 = r1 ∧ fin.2 = r2 ∧ runB a0_0 l0_1 l0_2 l0_3 l1 = r3:=by
  cases hok : runB a0_0 l0_1 l0_2 l0_3 l1 with
  | false =>
   rw [hok,if_neg (by decide)] at h
   have:=Option.some.inj h
   exact ⟨([],[]),by rw [if_neg (by decide)],congrArg (·.1) this,congrArg (·.2.1) this,congrArg (·.2.2) this⟩
  | true =>
   rw [hok,if_pos rfl] at h
   obtain ⟨fin,hfin,hf⟩:=Option.map_eq_some_iff.mp h
   exact ⟨fin,by rw [if_pos rfl];exact hfin,congrArg (·.1) hf,congrArg (·.2.1) hf,congrArg (·.2.2) hf⟩
 refine (x_RunNetS a0_0 A0_1 c0_1 l0_1 A0_2 c0_2 l0_2 A0_3 c0_3 l0_3 A1 c1 l1 w fin hfin hr0_1 hc0_1 hr0_2 hc0_2 hr0_3 hc0_3 hr1 hc1).mono ?_
 rintro e w1 ⟨v1,v2,P,Q,rfl,hd,h1,h2,hb⟩
 refine ⟨v1,v2,rfl,Kd.S_mono h1 ?_,Kd.S_mono h2 ?_,hb⟩
 ·obtain ⟨f,h2⟩:=h2
  exact fun k hk he => hd k hk (h2.1 k he.symm)
 ·obtain ⟨f,h1⟩:=h1
  exact fun k hk he => hd k (h1.1 k he.symm) hk
/-! ### laws_wnInts: function 13 -/
def laws_wnInts.l0 : Nat → List Int → List Int → Int → Int → Option (Bool)
 | 0,_,_,_,_ => none
 | k + 1,x1,x12,x13,x14 => if x14 < x13 then (if 0 ≤ x14 then (if x14 < (x12.length : Int) then (if x14 < (x1.length : Int) then (if (rd x1 x14) = (rd x12 x14) then (laws_wnInts.l0 k x1 x12 x13 (wrap64 (x14 + 1))) else (some false)) else (none)) else (none)) else (none)) else (some true)
def laws_wnInts.f (k : Nat) (l0 : List Int) (l1 : List Int) : Option (Bool):=if (l0.length : Int) = (l1.length : Int) then (laws_wnInts.l0 k l1 l0 (l0.length : Int) 0) else (some false)
theorem laws_wnInts.mono_l : ∀ k,(∀ y0 y1 y2 y3,LeO (laws_wnInts.l0 k y0 y1 y2 y3) (laws_wnInts.l0 (k + 1) y0 y1 y2 y3))
 | 0 => fun _ _ _ _ r h => by simp [laws_wnInts.l0] at h
 | k + 1 => by
  have ih0:=laws_wnInts.mono_l k
  ·intro y0 y1 y2 y3
   unfold laws_wnInts.l0
   repeat' first
   | (with_reducible exact ih0 _ _ _ _)
   | (with_reducible exact LeO.refl _)
   | (with_reducible exact LeO.none _)
   | (with_reducible refine LeO.ite ?_ ?_)
   | (with_reducible refine LeO.bind ?_ (fun _ => ?_))
   | exact ih0 _ _ _ _
   | exact LeO.none _
   | refine LeO.ite ?_ ?_
   | refine LeO.bind ?_ (fun _ => ?_)
theorem laws_wnInts.mono : ∀ a0 a1 k,LeO (laws_wnInts.f k a0 a1) (laws_wnInts.f (k + 1) a0 a1):=by
 intro a0 a1 k
 have ih0:=laws_wnInts.mono_l k
 unfold laws_wnInts.f
 repeat' first
   | (with_reducible exact ih0 _ _ _ _)
   | (with_reducible exact LeO.refl _)
   | (with_reducible exact LeO.none _)
   | (with_reducible refine LeO.ite ?_ ?_)
   | (with_reducible refine LeO.bind ?_ (fun _ => ?_))
   | exact ih0 _ _ _ _
   | exact LeO.none _
   | refine LeO.ite ?_ ?_
   | refine LeO.bind ?_ (fun _ => ?_)
set_option maxHeartbeats 8000000 in
set_option maxRecDepth 100000 in
theorem laws_wnInts.calls (k : Nat) (A0 : Option Addr) (c0 : Nat) (l0 : List Int) (A1 : Option Addr) (c1 : Nat) (l1 : List Int) (r : Bool) (w : World) (hr0 : Kd.C (Kd.int .i64) w A0 l0.length l0) (hc0 : l0.length ≤ c0) (hr1 : Kd.C (Kd.int .i64) w A1 l1.length l1) (hc1 : l1.length ≤ c1) (h : laws_wnInts.f k l0 l1 = some r) :
  Calls Try.prog 13 #[.slice A0 l0.length c0,.slice A1 l1.length c1] w fun e w' => e = .returned (.bool r) ∧ Drawn0 w w':=by
 have HR0:=mk_ hr0
 have HC0:=mk_ hc0
 clear hr0 hc0
 have HR1:=mk_ hr1
 have HC1:=mk_ hc1
 clear hr1 hc1
 have H : (if (l0.length : Int) = (l1.length : Int) then (laws_wnInts.l0 k l1 l0 (l0.length : Int) 0) else (some false)) = some r:=h
 clear h
 by_cases c3 : (l0.length : Int) = (l1.length : Int)
 ·rw [if_pos c3] at H
  have c3b0 : ((l0.length : Int) == (l1.length : Int)) = true:=beq_iff_eq.mpr c3
  have c3b1 : ((l0.length : Int) != (l1.length : Int)) = false:=bne_eq_false_iff_eq.mpr c3
  have c3b2 : (l0.length == l1.length) = true:=by first|simpa using c3|(simp at c3 ⊢;omega)
  clear c3
  have H':=mk_ H
  clear H
  go_enter Try.func13,Try.ntmps13
  go_wp2
  go_loopg [14] k (fun kq v14 w' => ∃ (x14_1 : Int),v14 = .int .i64 x14_1 ∧ Aside0 (laws_wnInts.l0 kq l1 l0 (l0.length : Int) x14_1 = some r) ∧ Aside0 (kq ≤ k) ∧ Drawn0 w w')
  case atStart => exact ⟨(0),qf_,H',⟨Nat.le_refl _⟩,by repeat (first|exact Drawn0.refl _|apply Drawn0.step)⟩
  case round =>
   clear H'
   try clear c1
   try clear p2
   try clear c3
   try clear c3b0
   try clear c3b1
   try clear c3b2
   obtain ⟨x14_1,rfl,HA,HK1,⟨m1,rfl⟩⟩:=hrel
   cases gk with
   | zero => exact absurd HA.out (by simp [laws_wnInts.l0])
   | succ k1 =>
    have H:=HA.out
    clear HA
    simp only [laws_wnInts.l0] at H
    by_cases c4 : x14_1 < (l0.length : Int)
    ·rw [if_pos c4] at H
     have c4b0 : decide (x14_1 < (l0.length : Int)) = true:=decide_eq_true c4
     clear c4
     by_cases c5 : 0 ≤ x14_1
     ·rw [if_pos c5] at H
      have c5b0 : decide (0 ≤ x14_1) = true:=decide_eq_true c5
      clear c5
      by_cases c6 : x14_1 < (l0.length : Int)
      ·rw [if_pos c6] at H
       have c6b0 : decide (x14_1 < (l0.length : Int)) = true:=decide_eq_true c6
       clear c6
       by_cases c7 : x14_1 < (l1.length : Int)
       ·rw [if_pos c7] at H
        have c7b0 : decide (x14_1 < (l1.length : Int)) = true:=decide_eq_true c7
        clear c7
        by_cases c8 : (rd l1 x14_1) = (rd l0 x14_1)
        ·rw [if_pos c8] at H
         have c8b0 : ((rd l1 x14_1) == (rd l0 x14_1)) = true:=beq_iff_eq.mpr c8
         have c8b1 : ((rd l1 x14_1) != (rd l0 x14_1)) = false:=bne_eq_false_iff_eq.mpr c8
         clear c8
         have H':=mk_ H
         clear H
         have p508 : 0 ≤ (x14_1 : Int):=od_ qa_
         have q508 : x14_1 < (l0.length : Int):=od_ qa_
         obtain ⟨ad508,e508,hx508_0⟩:=Kd.at_int HR0.out x14_1 p508 q508
         cases e508
         replace p508:=eq_true p508
         replace q508:=eq_true q508
         have p509 : 0 ≤ (x14_1 : Int):=od_ qa_
         have q509 : x14_1 < (l1.length : Int):=od_ qa_
         obtain ⟨ad509,e509,hx509_0⟩:=Kd.at_int HR1.out x14_1 p509 q509
         cases e509
         replace p509:=eq_true p509
         replace q509:=eq_true q509
         go_wp2
         go_roundg k1
         case measure => have:=HK1.out;omega
         case rel => exact ⟨(wrap64 (x14_1 + 1)),qf_,H',⟨by have:=HK1.out;omega⟩,by repeat (first|exact Drawn0.refl _|apply Drawn0.step)⟩
        ·rw [if_neg c8] at H
         have c8b0 : ((rd l1 x14_1) == (rd l0 x14_1)) = false:=beq_eq_false_iff_ne.mpr c8
         have c8b1 : ((rd l1 x14_1) != (rd l0 x14_1)) = true:=bne_iff_ne.mpr c8
         obtain rfl:=Option.some.inj H
         have p508 : 0 ≤ (x14_1 : Int):=od_ qa_
         have q508 : x14_1 < (l0.length : Int):=od_ qa_
         obtain ⟨ad508,e508,hx508_0⟩:=Kd.at_int HR0.out x14_1 p508 q508
         cases e508
         replace p508:=eq_true p508
         replace q508:=eq_true q508
         have p509 : 0 ≤ (x14_1 : Int):=od_ qa_
         have q509 : x14_1 < (l1.length : Int):=od_ qa_
         obtain ⟨ad509,e509,hx509_0⟩:=Kd.at_int HR1.out x14_1 p509 q509
         cases e509
         replace p509:=eq_true p509
         replace q509:=eq_true q509
         go_wp2
         go_ret
         exact ⟨by first|rfl|(simp;done)|(simp [*];done),by repeat (first|exact Drawn0.refl _|apply Drawn0.step)⟩
       ·rw [if_neg c7] at H
        exact absurd H (by simp)
      ·rw [if_neg c6] at H
       exact absurd H (by simp)
     ·rw [if_neg c5] at H
      exact absurd H (by simp)
    ·rw [if_neg c4] at H
     have c4b0 : decide (x14_1 < (l0.length : Int)) = false:=decide_eq_false c4
     clear c4
     obtain rfl:=Option.some.inj H
     go_wp2
     go_ret
     exact ⟨by first|rfl|(simp;done)|(simp [*];done),by repeat (first|exact Drawn0.refl _|apply Drawn0.step)⟩
 ·rw [if_neg c3] at H
  have c3b0 : ((l0.length : Int) == (l1.length : Int)) = false:=beq_eq_false_iff_ne.mpr c3
  have c3b1 : ((l0.length : Int) != (l1.length : Int)) = true:=bne_iff_ne.mpr c3
  have c3b2 : (l0.length == l1.length) = false:=by first|simpa using c3|(simp at c3 ⊢;omega)
  obtain rfl:=Option.some.inj H
  go_enter Try.func13,Try.ntmps13
  go_wp2
  go_ret
  exact ⟨by first|rfl|(simp;done)|(simp [*];done),by repeat (first|exact Drawn0.refl _|apply Drawn0.step)⟩
/-! ### laws_wnPairs: function 11 -/
def laws_wnPairs.l0 : Nat → List (List Int) → List (List Int) → Int → Int → Option (Bool)
 | 0,_,_,_,_ => none
 | k + 1,x1,x12,x13,x14 => if x14 < x13 then (if 0 ≤ x14 then (if x14 < (x12.length : Int) then (if x14 < (x1.length : Int) then ((laws_wnInts.f k (rd_L4 x12 x14) (rd_L4 x1 x14)).bind fun t512 => (if t512 = true then (laws_wnPairs.l0 k x1 x12 x13 (wrap64 (x14 + 1))) else (some false))) else (none)) else (none)) else (none)) else (some true)
def laws_wnPairs.f (k : Nat) (l0 : List (List Int)) (l1 : List (List Int)) : Option (Bool):=if (l0.length : Int) = (l1.length : Int) then (laws_wnPairs.l0 k l1 l0 (l0.length : Int) 0) else (some false)
theorem laws_wnPairs.mono_l : ∀ k,(∀ y0 y1 y2 y3,LeO (laws_wnPairs.l0 k y0 y1 y2 y3) (laws_wnPairs.l0 (k + 1) y0 y1 y2 y3))
 | 0 => fun _ _ _ _ r h => by simp [laws_wnPairs.l0] at h
 | k + 1 => by
  have ih0:=laws_wnPairs.mono_l k
  ·intro y0 y1 y2 y3
   unfold laws_wnPairs.l0
   repeat' first
   | (with_reducible exact ih0 _ _ _ _)
   | (with_reducible exact laws_wnInts.mono _ _ _)
   | (with_reducible exact LeO.refl _)
   | (with_reducible exact LeO.none _)
   | (with_reducible refine LeO.ite ?_ ?_)
   | (with_reducible refine LeO.bind ?_ (fun _ => ?_))
   | exact ih0 _ _ _ _
   | exact laws_wnInts.mono _ _ _
   | exact LeO.none _
   | refine LeO.ite ?_ ?_
   | refine LeO.bind ?_ (fun _ => ?_)
theorem laws_wnPairs.mono : ∀ a0 a1 k,LeO (laws_wnPairs.f k a0 a1) (laws_wnPairs.f (k + 1) a0 a1):=by
 intro a0 a1 k
 have ih0:=laws_wnPairs.mono_l k
 unfold laws_wnPairs.f
 repeat' first
   | (with_reducible exact ih0 _ _ _ _)
   | (with_reducible exact laws_wnInts.mono _ _ _)
   | (with_reducible exact LeO.refl _)
   | (with_reducible exact LeO.none _)
   | (with_reducible refine LeO.ite ?_ ?_)
   | (with_reducible refine LeO.bind ?_ (fun _ => ?_))
   | exact ih0 _ _ _ _
   | exact laws_wnInts.mono _ _ _
   | exact LeO.none _
   | refine LeO.ite ?_ ?_
   | refine LeO.bind ?_ (fun _ => ?_)
set_option maxHeartbeats 8000000 in
set_option maxRecDepth 100000 in
theorem laws_wnPairs.calls (k : Nat) (A0 : Option Addr) (c0 : Nat) (l0 : List (List Int)) (A1 : Option Addr) (c1 : Nat) (l1 : List (List Int)) (r : Bool) (w : World) (hr0 : Kd.C (Kd.slice 3 (Kd.int .i64)) w A0 l0.length l0) (hc0 : l0.length ≤ c0) (hr1 : Kd.C (Kd.slice 3 (Kd.int .i64)) w A1 l1.length l1) (hc1 : l1.length ≤ c1) (h : laws_wnPairs.f k l0 l1 = some r) :
  Calls Try.prog 11 #[.slice A0 l0.length c0,.slice A1 l1.length c1] w fun e w' => e = .returned (.bool r) ∧ Drawn0 w w':=by
 have HR0:=mk_ hr0
 have HC0:=mk_ hc0
 clear hr0 hc0
 have HR1:=mk_ hr1
 have HC1:=mk_ hc1
 clear hr1 hc1
 have H : (if (l0.length : Int) = (l1.length : Int) then (laws_wnPairs.l0 k l1 l0 (l0.length : Int) 0) else (some false)) = some r:=h
 clear h
 by_cases c3 : (l0.length : Int) = (l1.length : Int)
 ·rw [if_pos c3] at H
  have c3b0 : ((l0.length : Int) == (l1.length : Int)) = true:=beq_iff_eq.mpr c3
  have c3b1 : ((l0.length : Int) != (l1.length : Int)) = false:=bne_eq_false_iff_eq.mpr c3
  have c3b2 : (l0.length == l1.length) = true:=by first|simpa using c3|(simp at c3 ⊢;omega)
  clear c3
  have H':=mk_ H
  clear H
  go_enter Try.func11,Try.ntmps11
  go_wp2
  go_loopg [14] k (fun kq v14 w' => ∃ (x14_1 : Int),v14 = .int .i64 x14_1 ∧ Aside0 (laws_wnPairs.l0 kq l1 l0 (l0.length : Int) x14_1 = some r) ∧ Aside0 (kq ≤ k) ∧ Drawn0 w w')
  case atStart => exact ⟨(0),qf_,H',⟨Nat.le_refl _⟩,by repeat (first|exact Drawn0.refl _|apply Drawn0.step)⟩
  case round =>
   clear H'
   try clear c1
   try clear p2
   try clear c3
   try clear c3b0
   try clear c3b1
   try clear c3b2
   obtain ⟨x14_1,rfl,HA,HK1,⟨m1,rfl⟩⟩:=hrel
   cases gk with
   | zero => exact absurd HA.out (by simp [laws_wnPairs.l0])
   | succ k1 =>
    have H:=HA.out
    clear HA
    simp only [laws_wnPairs.l0] at H
    by_cases c4 : x14_1 < (l0.length : Int)
    ·rw [if_pos c4] at H
     have c4b0 : decide (x14_1 < (l0.length : Int)) = true:=decide_eq_true c4
     clear c4
     by_cases c5 : 0 ≤ x14_1
     ·rw [if_pos c5] at H
      have c5b0 : decide (0 ≤ x14_1) = true:=decide_eq_true c5
      clear c5
      by_cases c6 : x14_1 < (l0.length : Int)
      ·rw [if_pos c6] at H
       have c6b0 : decide (x14_1 < (l0.length : Int)) = true:=decide_eq_true c6
       clear c6
       by_cases c7 : x14_1 < (l1.length : Int)
       ·rw [if_pos c7] at H
        have c7b0 : decide (x14_1 < (l1.length : Int)) = true:=decide_eq_true c7
        clear c7
        replace H:=Option.bind_eq_some_iff.mp H
        obtain ⟨t512,A80,H⟩:=H
        replace H : (if t512 = true then (laws_wnPairs.l0 k1 l1 l0 (l0.length : Int) (wrap64 (x14_1 + 1))) else (some false)) = some r:=H
        have A8:=mk_ A80
        clear A80
        by_cases c9 : t512 = true
        ·subst c9
         have H1 : (laws_wnPairs.l0 k1 l1 l0 (l0.length : Int) (wrap64 (x14_1 + 1))) = some r:=by rw [if_pos rfl] at H;exact H
         clear H
         have H:=H1
         clear H1
         have H':=mk_ H
         clear H
         have p510 : 0 ≤ (x14_1 : Int):=od_ qa_
         have q510 : x14_1 < (l0.length : Int):=od_ qa_
         obtain ⟨ad510,A510_0,c510_0,e510,hx510_0,hl510_0,hi510_0⟩:=at_L4 HR0.out x14_1 p510 q510
         cases e510
         have HR510_0:=mk_ hi510_0
         have HC510_0:=mk_ hl510_0
         clear hi510_0 hl510_0
         replace p510:=eq_true p510
         replace q510:=eq_true q510
         have p511 : 0 ≤ (x14_1 : Int):=od_ qa_
         have q511 : x14_1 < (l1.length : Int):=od_ qa_
         obtain ⟨ad511,A511_0,c511_0,e511,hx511_0,hl511_0,hi511_0⟩:=at_L4 HR1.out x14_1 p511 q511
         cases e511
         have HR511_0:=mk_ hi511_0
         have HC511_0:=mk_ hl511_0
         clear hi511_0 hl511_0
         replace p511:=eq_true p511
         replace q511:=eq_true q511
         go_wp2_with (first|((with_reducible refine gate_callee (f:=13) rfl ?_);refine goesL_ (some 24) rfl rfl Try.func13 (by kernel_rfl) rfl #[.slice A510_0 (rd_L4 l0 x14_1).length c510_0,.slice A511_0 (rd_L4 l1 x14_1).length c511_0] rfl qm_ ?_;(with_reducible refine (laws_wnInts.calls k1 _ _ (rd_L4 l0 x14_1) _ _ (rd_L4 l1 x14_1) true _ ?side1 ?side2 ?side3 ?side4 A8.out).mono ?_);(case side1 => repeat (first|exact HR510_0.out|(with_reducible refine ca_ ?_ _)|(with_reducible refine cn_ ?_ _)|(with_reducible refine cd_ ?_)));(case side2 => exact HC510_0.out);(case side3 => repeat (first|exact HR511_0.out|(with_reducible refine ca_ ?_ _)|(with_reducible refine cn_ ?_ _)|(with_reducible refine cd_ ?_)));(case side4 => exact HC511_0.out);rintro e w' ⟨rfl,⟨nd,rfl⟩⟩;refine ⟨_,rfl,?_⟩))
         go_roundg k1
         case measure => have:=HK1.out;omega
         case rel => exact ⟨(wrap64 (x14_1 + 1)),qf_,H',⟨by have:=HK1.out;omega⟩,by repeat (first|exact Drawn0.refl _|apply Drawn0.step)⟩
        ·replace c9:=Bool.eq_false_iff.mpr c9
         subst c9
         have H1 : (some false) = some r:=by rw [if_neg (show ¬ (false = true) by decide)] at H;exact H
         clear H
         have H:=H1
         clear H1
         obtain rfl:=Option.some.inj H
         have p510 : 0 ≤ (x14_1 : Int):=od_ qa_
         have q510 : x14_1 < (l0.length : Int):=od_ qa_
         obtain ⟨ad510,A510_0,c510_0,e510,hx510_0,hl510_0,hi510_0⟩:=at_L4 HR0.out x14_1 p510 q510
         cases e510
         have HR510_0:=mk_ hi510_0
         have HC510_0:=mk_ hl510_0
         clear hi510_0 hl510_0
         replace p510:=eq_true p510
         replace q510:=eq_true q510
         have p511 : 0 ≤ (x14_1 : Int):=od_ qa_
         have q511 : x14_1 < (l1.length : Int):=od_ qa_
         obtain ⟨ad511,A511_0,c511_0,e511,hx511_0,hl511_0,hi511_0⟩:=at_L4 HR1.out x14_1 p511 q511
         cases e511
         have HR511_0:=mk_ hi511_0
         have HC511_0:=mk_ hl511_0
         clear hi511_0 hl511_0
         replace p511:=eq_true p511
         replace q511:=eq_true q511
         go_wp2_with (first|((with_reducible refine gate_callee (f:=13) rfl ?_);refine goesL_ (some 24) rfl rfl Try.func13 (by kernel_rfl) rfl #[.slice A510_0 (rd_L4 l0 x14_1).length c510_0,.slice A511_0 (rd_L4 l1 x14_1).length c511_0] rfl qm_ ?_;(with_reducible refine (laws_wnInts.calls k1 _ _ (rd_L4 l0 x14_1) _ _ (rd_L4 l1 x14_1) false _ ?side1 ?side2 ?side3 ?side4 A8.out).mono ?_);(case side1 => repeat (first|exact HR510_0.out|(with_reducible refine ca_ ?_ _)|(with_reducible refine cn_ ?_ _)|(with_reducible refine cd_ ?_)));(case side2 => exact HC510_0.out);(case side3 => repeat (first|exact HR511_0.out|(with_reducible refine ca_ ?_ _)|(with_reducible refine cn_ ?_ _)|(with_reducible refine cd_ ?_)));(case side4 => exact HC511_0.out);rintro e w' ⟨rfl,⟨nd,rfl⟩⟩;refine ⟨_,rfl,?_⟩))
         go_ret
         exact ⟨by first|rfl|(simp;done)|(simp [*];done),by repeat (first|exact Drawn0.refl _|apply Drawn0.step)⟩
       ·rw [if_neg c7] at H
        exact absurd H (by simp)
      ·rw [if_neg c6] at H
       exact absurd H (by simp)
     ·rw [if_neg c5] at H
      exact absurd H (by simp)
    ·rw [if_neg c4] at H
     have c4b0 : decide (x14_1 < (l0.length : Int)) = false:=decide_eq_false c4
     clear c4
     obtain rfl:=Option.some.inj H
     go_wp2
     go_ret
     exact ⟨by first|rfl|(simp;done)|(simp [*];done),by repeat (first|exact Drawn0.refl _|apply Drawn0.step)⟩
 ·rw [if_neg c3] at H
  have c3b0 : ((l0.length : Int) == (l1.length : Int)) = false:=beq_eq_false_iff_ne.mpr c3
  have c3b1 : ((l0.length : Int) != (l1.length : Int)) = true:=bne_iff_ne.mpr c3
  have c3b2 : (l0.length == l1.length) = false:=by first|simpa using c3|(simp at c3 ⊢;omega)
  obtain rfl:=Option.some.inj H
  go_enter Try.func11,Try.ntmps11
  go_wp2
  go_ret
  exact ⟨by first|rfl|(simp;done)|(simp [*];done),by repeat (first|exact Drawn0.refl _|apply Drawn0.step)⟩
/-! ### impl_MatesOf: function 12 (by hand) -/
def impl_MatesOf.f (k : Nat) (a0_0 : Int) (l0_1 : List (S83)) (l0_2 : List Int) (l0_3 : List Int) (a1 : Int) : Option (List Int) :=
 some (matesX a0_0 l0_1 l0_2 l0_3 a1)
theorem impl_MatesOf.mono : ∀ a0 a1 a2 a3 a4 k,LeO (impl_MatesOf.f k a0 a1 a2 a3 a4) (impl_MatesOf.f (k + 1) a0 a1 a2 a3 a4):=fun _ _ _ _ _ _ => LeO.refl _
set_option maxHeartbeats 4000000 in
set_option maxRecDepth 100000 in
theorem impl_MatesOf.calls (k : Nat) (a0_0 : Int) (A0_1 : Option Addr) (c0_1 : Nat) (l0_1 : List (S83)) (A0_2 : Option Addr) (c0_2 : Nat) (l0_2 : List Int) (A0_3 : Option Addr) (c0_3 : Nat) (l0_3 : List Int) (a1 : Int) (r : List Int) (w : World) (hr0_1 : Kd.C k83 w A0_1 l0_1.length l0_1) (hc0_1 : l0_1.length ≤ c0_1) (hr0_2 : Kd.C (Kd.int .i64) w A0_2 l0_2.length l0_2) (hc0_2 : l0_2.length ≤ c0_2) (hr0_3 : Kd.C (Kd.int .i64) w A0_3 l0_3.length l0_3) (hc0_3 : l0_3.length ≤ c0_3) (h : impl_MatesOf.f k a0_0 l0_1 l0_2 l0_3 a1 = some r) :
  Calls Try.prog 12 #[.agg #[.int .i64 a0_0,.slice A0_1 l0_1.length c0_1,.slice A0_2 l0_2.length c0_2,.slice A0_3 l0_3.length c0_3],.int .i64 a1] w fun e w' => ∃ v0_ : Value,e = .returned (v0_) ∧ Kd.R (Kd.int .i64) 3 w' w.heap.size (fun _ => True) v0_ r ∧ Below w.heap.size w w':=by
 unfold impl_MatesOf.f at h
 obtain rfl:=Option.some.inj h
 clear h
 have hu:=Try.underlying26
 have hba:=ba_ (Below.refl w.heap.size w) (.cells #[.int .i64 a0_0,.slice A0_1 l0_1.length c0_1,.slice A0_2 l0_2.length c0_2,.slice A0_3 l0_3.length c0_3] 26)
 have HN:=mk_ (blk_new w (.cells #[.int .i64 a0_0,.slice A0_1 l0_1.length c0_1,.slice A0_2 l0_2.length c0_2,.slice A0_3 l0_3.length c0_3] 26))
 have HST:=mk_ (impl_Net_station.calls a0_0 A0_1 c0_1 l0_1 A0_2 c0_2 l0_2 A0_3 c0_3 l0_3 a1 _ _ (cb_ hr0_1 hba) hc0_1 (cb_ hr0_2 hba) hc0_2 (cb_ hr0_3 hba) hc0_3 (istation_eq a0_0 l0_1 l0_2 l0_3 a1))
 have HB:=mk_ hba
 have HR1:=mk_ hr0_1
 have HR2:=mk_ hr0_2
 have HR3:=mk_ hr0_3
 have hq1:=hc0_1
 clear hba hr0_1 hr0_2 hr0_3
 by_cases c : netB a0_0 l0_1 l0_2 l0_3 = true ∧ 0 ≤ a1 ∧ a1 < l0_2.length
 ·obtain ⟨q1,q2,q3,q4⟩:=netB_facts c.1
  have e : impl_rootsOf.f a0_0 l0_1 = some (rootsL a0_0.toNat l0_1):=by unfold impl_rootsOf.f;rw [if_pos q1]
  have HRO:=mk_ (fun W hC => impl_rootsOf.calls a0_0 A0_1 c0_1 l0_1 _ W hC hq1 e)
  have HM : Aside0 (matesX a0_0 l0_1 l0_2 l0_3 a1 = filM (mateB a0_0 l0_1 l0_2 l0_3 a1) l0_2.length 0):=⟨by unfold matesX;rw [if_pos c]⟩
  have HQ:=mk_ (And.intro q2 (And.intro q3 q4))
  rw [decide_eq_true c] at HST
  obtain ⟨_,ha0,ha1⟩:=c
  generalize matesX a0_0 l0_1 l0_2 l0_3 a1 = res at HM ⊢
  have hrl:=rootsL_len a0_0.toNat l0_1
  have hmb : ∀ o,mateB a0_0 l0_1 l0_2 l0_3 a1 o = (decide (o ≠ a1) && (decide (rd l0_3 o = rd l0_3 a1) && decide (rd (rootsL a0_0.toNat l0_1) (rd l0_2 o) = rd (rootsL a0_0.toNat l0_1) (rd l0_2 a1)))):=fun _ => rfl
  generalize rootsL a0_0.toNat l0_1 = rts at HRO hrl hmb
  generalize mateB a0_0 l0_1 l0_2 l0_3 a1 = pm at HM hmb
  have HMB:=mk_ hmb
  have HRL:=mk_ hrl
  clear q1 q2 q3 q4 e hmb hrl
  obtain ⟨m0,m1,m2,m3⟩:=mbx4 HN.out
  go_enter Try.func12,Try.ntmps12
  go_wp2_with fail
  refine HST.out.mono ?_
  rintro e w1 ⟨rfl,hb1⟩
  replace HN:=mk_ (blk_below HN.out hb1)
  replace HB:=mk_ (st_ HB.out hb1)
  clear hb1 m0 m1 m2 m3 HST
  obtain ⟨m0,m1,m2,m3⟩:=mbx4 HN.out
  go_wp2_with fail
  refine (HRO.out w1 (cb_ HR1.out HB.out)).mono ?_
  rintro e w2 ⟨v,rfl,h1,hb2⟩
  obtain ⟨T,tc,rfl⟩:=Kd.R_slice h1
  replace HN:=mk_ (blk_below HN.out hb2)
  have HT:=mk_ (rm_ (Kd.R_lower (Kd.R_bound h1) HB.out.size) (ok':=fun k => k < w2.heap.size) (fun k hk => hk.2.2.1))
  replace HB:=mk_ (st_ HB.out hb2)
  have HS:=mk_ (Nat.le_refl w2.heap.size)
  clear h1 hb2 m0 m1 m2 m3 HRO
  generalize hs_ : w2.heap.size = sz at HT
  rw [hs_] at HS
  have HSZ:=mk_ hs_
  clear hs_
  obtain ⟨m0,m1,m2,m3⟩:=mbx4 HN.out
  go_wp2_with fail
  go_loopg [6,21] l0_2.length (fun gg s6 s21 wr => ∃ (kk : Nat),kk ≤ l0_2.length ∧ l0_2.length - kk ≤ gg ∧ s21 = .int .i64 (kk : Int) ∧ sz ≤ wr.heap.size ∧ Aside0 (Kd.R (Kd.int .i64) 3 wr w.heap.size (fun k => sz ≤ k) s6 (filM pm kk 0)) ∧ Aside0 (Kd.R (Kd.int .i64) 3 wr w.heap.size (fun k => k < sz) (.slice T rts.length tc) rts) ∧ Aside0 (wr.heap[w.heap.size]? = some (.cells #[.int .i64 a0_0,.slice A0_1 l0_1.length c0_1,.slice A0_2 l0_2.length c0_2,.slice A0_3 l0_3.length c0_3] 26 (0,0))) ∧ Aside0 (Below w.heap.size w wr))
  case atStart => exact ⟨0,Nat.zero_le _,by omega,rfl,by have:=HSZ.out;omega,⟨Kd.R_nil _ _ _ _ _⟩,HT,HN,HB⟩
  case round =>
   clear HN HT HB m0 m1 m2 m3 HS HSZ
   obtain ⟨kk,hkk,hgg,rfl,hsz,HO,HT,HN,HB⟩:=hrel
   by_cases hlt : kk < l0_2.length
   ·have hq:=HQ.out
    obtain ⟨hq15,hq3,hq4⟩:=hq
    have x0:=hq4 _ (List.getElem_mem hlt)
    obtain ⟨S,rfl⟩:=Int.eq_ofNat_of_zero_le ha0
    have hS : S < l0_2.length:=by omega
    have x1:=hq4 _ (List.getElem_mem hS)
    have hrl:=HRL.out
    obtain ⟨a2,e2,d2⟩:=Kd.at_int (cb_ HR2.out HB.out) (kk : Int) (by omega) (by omega)
    subst e2
    obtain ⟨a2',e2,d3⟩:=Kd.at_int (cb_ HR2.out HB.out) (S : Int) (by omega) (by omega)
    obtain rfl:=Option.some.inj e2
    obtain ⟨a3,e3,d4⟩:=Kd.at_int (cb_ HR3.out HB.out) (kk : Int) (by omega) (by omega)
    subst e3
    obtain ⟨a3',e3,d5⟩:=Kd.at_int (cb_ HR3.out HB.out) (S : Int) (by omega) (by omega)
    obtain rfl:=Option.some.inj e3
    have hmb:=HMB.out (kk : Int)
    rw [rd_get l0_2 kk hlt,Int.toNat_natCast] at d2
    rw [rd_get l0_2 S hS,Int.toNat_natCast] at d3
    rw [rd_get l0_2 kk hlt,rd_get l0_2 S hS] at hmb
    rw [Int.toNat_natCast] at d4 d5
    obtain ⟨a5,e5,d6⟩:=Kd.at_int (rr_ HT.out).2.2 l0_2[kk] x0.1 (by omega)
    subst e5
    obtain ⟨a5',e5,d7⟩:=Kd.at_int (rr_ HT.out).2.2 l0_2[S] x1.1 (by omega)
    obtain rfl:=Option.some.inj e5
    generalize l0_2[kk] = y0 at x0 d2 d6 hmb
    generalize l0_2[S] = y1 at x1 d3 d7 hmb
    generalize rd l0_3 (kk : Int) = z0 at d4 hmb
    generalize rd l0_3 (S : Int) = z1 at d5 hmb
    generalize rd rts y0 = r0 at d6 hmb
    generalize rd rts y1 = r1 at d7 hmb
    have hsn:=filM_snoc pm kk 0
    rw [Int.zero_add,hmb] at hsn
    have HSN:=mk_ hsn
    have hl15 : (filM pm kk 0).length ≤ kk:=filM_len pm kk 0
    have HL15:=mk_ (And.intro hl15 (And.intro hq15 hkk))
    have p1 : ((kk : Int) < (l0_2.length : Int)) = True:=eq_true (by omega)
    have p2 : (kk < l0_2.length) = True:=eq_true hlt
    have p3 : ((S : Int) < (l0_2.length : Int)) = True:=eq_true (by omega)
    have p3' : (S < l0_2.length) = True:=eq_true hS
    have p4 : ((kk : Int) < (l0_3.length : Int)) = True:=eq_true (by omega)
    have p4' : (kk < l0_3.length) = True:=eq_true (by omega)
    have p5 : ((S : Int) < (l0_3.length : Int)) = True:=eq_true (by omega)
    have p5' : (S < l0_3.length) = True:=eq_true (by omega)
    have p6 : (0 ≤ y0) = True:=eq_true x0.1
    have p7 : (y0 < (rts.length : Int)) = True:=eq_true (by omega)
    have p8 : (0 ≤ y1) = True:=eq_true x1.1
    have p9 : (y1 < (rts.length : Int)) = True:=eq_true (by omega)
    obtain ⟨m0,m1,m2,m3⟩:=mbx4 HN.out
    have hfin : ∀ (W : World) (v : Value) (x : List Int),filM pm (kk + 1) 0 = x → sz ≤ W.heap.size → Kd.R (Kd.int .i64) 3 W w.heap.size (fun k => sz ≤ k) v x → Kd.R (Kd.int .i64) 3 W w.heap.size (fun k => k < sz) (.slice (some a5) rts.length tc) rts → W.heap[w.heap.size]? = some (.cells #[.int .i64 a0_0,.slice A0_1 l0_1.length c0_1,.slice (some a2) l0_2.length c0_2,.slice (some a3) l0_3.length c0_3] 26 (0,0)) → Below w.heap.size w W →
      ∃ kk' : Nat,kk' ≤ l0_2.length ∧ l0_2.length - kk' ≤ l0_2.length - (kk + 1) ∧ (Value.int .i64 (wrap64 ((kk : Int) + 1))) = .int .i64 (kk' : Int) ∧ sz ≤ W.heap.size ∧ Aside0 (Kd.R (Kd.int .i64) 3 W w.heap.size (fun k => sz ≤ k) v (filM pm kk' 0)) ∧ Aside0 (Kd.R (Kd.int .i64) 3 W w.heap.size (fun k => k < sz) (.slice (some a5) rts.length tc) rts) ∧ Aside0 (W.heap[w.heap.size]? = some (.cells #[.int .i64 a0_0,.slice A0_1 l0_1.length c0_1,.slice (some a2) l0_2.length c0_2,.slice (some a3) l0_3.length c0_3] 26 (0,0))) ∧ Aside0 (Below w.heap.size w W) :=
     fun W v x hx h0 h1 h2 h3 h4 => ⟨kk + 1,by omega,by omega,by rw [wrap_eq (by omega) (by omega)];rfl,h0,⟨hx ▸ h1⟩,⟨h2⟩,⟨h3⟩,⟨h4⟩⟩
    have HF:=mk_ hfin
    clear hfin hsn hmb hl15 hrl hq15 hq3 hq4
    by_cases c0 : (kk : Int) = (S : Int)
    ·have b0 : ((kk : Int) != (S : Int)) = false:=bne_eq_false_iff_eq.mpr c0
     have HX : Aside0 (filM pm (kk + 1) 0 = filM pm kk 0):=⟨by rw [HSN.out,if_neg (by simp [c0]),List.append_nil]⟩
     clear c0
     go_wp2
     go_quiet (fail)
     go_wp2
     go_roundg (l0_2.length - (kk + 1))
     case measure => omega
     case rel => exact HF.out (wr.drewN _) _ _ HX.out hsz (rn_ HO.out _) (rn_ HT.out _) (kn_ HN.out _) (bn_ HB.out _)
    ·have b0 : ((kk : Int) != (S : Int)) = true:=bne_iff_ne.mpr c0
     by_cases c1 : z0 = z1
     ·have b1 : (z0 == z1) = true:=beq_iff_eq.mpr c1
      by_cases c2 : r0 = r1
      ·have b2 : (r0 == r1) = true:=beq_iff_eq.mpr c2
       have HX : Aside0 (filM pm (kk + 1) 0 = filM pm kk 0 ++ [(kk : Int)]):=⟨by rw [HSN.out,if_pos (by simp [c0,c1,c2])]⟩
       clear c0 c1 c2
       go_wp2
       go_quiet (fail)
       go_wp2_with (first|((with_reducible refine gate_builtin (b:=.append) (xs:=#[.tmp 57,.tmp 59]) rfl ?_);at_builtin;refine Kd.R_append (Kd.int .i64) w.heap.size rfl (.tmp 57) (.tmp 59) 24 3 (.int .i64 0) 8 rfl Try.underlying24 mxInfo rfl (by decide) (by omega) _ (filM pm kk 0) (kk : Int) [.int .i64 (kk : Int)] (fun k_ => sz ≤ k_) (fun _ => False) rfl (by first|(go_simp;done)|(go_simp;rfl)) rfl (fun _ hk => hk.elim) (fun k_ hk => Nat.le_trans hsz hk) (rn_ HO.out _) (Below.refl _ _) HB.out.size ?aL ?_;(case aL => have:=HL15.out;omega);intro v2 w3 ho hb_ hg hat))
       go_roundg (l0_2.length - (kk + 1))
       case measure => omega
       case rel => exact HF.out _ _ _ HX.out (Nat.le_trans hsz hg.size) ho (Kd.R_grown (rn_ HT.out _) hg (fun k hk e => by have:=HO.out.1 k e.symm;omega)) (blk_grown (kn_ HN.out _) hg (Kd.R_ne HO.out HN.out (by decide))) (below_weaken (bn_ HB.out _) (Nat.le_refl _) hb_)
      ·have b2 : (r0 == r1) = false:=beq_eq_false_iff_ne.mpr c2
       have HX : Aside0 (filM pm (kk + 1) 0 = filM pm kk 0):=⟨by rw [HSN.out,if_neg (by simp [c2]),List.append_nil]⟩
       clear c0 c1 c2
       go_wp2
       go_quiet (fail)
       go_wp2
       go_roundg (l0_2.length - (kk + 1))
       case measure => omega
       case rel => exact HF.out (wr.drewN _) _ _ HX.out hsz (rn_ HO.out _) (rn_ HT.out _) (kn_ HN.out _) (bn_ HB.out _)
     ·have b1 : (z0 == z1) = false:=beq_eq_false_iff_ne.mpr c1
      have HX : Aside0 (filM pm (kk + 1) 0 = filM pm kk 0):=⟨by rw [HSN.out,if_neg (by simp [c1]),List.append_nil]⟩
      clear c0 c1
      go_wp2
      go_quiet (fail)
      go_wp2
      go_roundg (l0_2.length - (kk + 1))
      case measure => omega
      case rel => exact HF.out (wr.drewN _) _ _ HX.out hsz (rn_ HO.out _) (rn_ HT.out _) (kn_ HN.out _) (bn_ HB.out _)
   ·have hkl : kk = l0_2.length:=by omega
    subst hkl
    have p1 : ((l0_2.length : Int) < (l0_2.length : Int)) = False:=eq_false (by omega)
    go_wp2
    go_ret
    exact ⟨_,rfl,by rw [HM.out];exact rm_ HO.out (fun _ _ => trivial),HB.out⟩
 ·have hm : matesX a0_0 l0_1 l0_2 l0_3 a1 = []:=by unfold matesX;rw [if_neg c]
  rw [hm]
  rw [decide_eq_false c] at HST
  clear c hm
  obtain ⟨m0,m1,m2,m3⟩:=mbx4 HN.out
  go_enter Try.func12,Try.ntmps12
  go_wp2_with fail
  refine HST.out.mono ?_
  rintro e w1 ⟨rfl,hb1⟩
  replace HB:=mk_ (st_ HB.out hb1)
  clear hb1 m0 m1 m2 m3
  go_wp2
  go_ret
  exact ⟨_,rfl,Kd.R_nil _ _ _ _ _,HB.out⟩
/-! ### laws_wnHas: function 14 -/
def laws_wnHas.l0 : Nat → Int → List Int → Int → Int → Option (Bool)
 | 0,_,_,_,_ => none
 | k + 1,x1,x7,x8,x9 => if x9 < x8 then (if 0 ≤ x9 then (if x9 < (x7.length : Int) then (if (rd x7 x9) = x1 then (some true) else (laws_wnHas.l0 k x1 x7 x8 (wrap64 (x9 + 1)))) else (none)) else (none)) else (some false)
def laws_wnHas.f (k : Nat) (l0 : List Int) (a1 : Int) : Option (Bool):=laws_wnHas.l0 k a1 l0 (l0.length : Int) 0
theorem laws_wnHas.mono_l : ∀ k,(∀ y0 y1 y2 y3,LeO (laws_wnHas.l0 k y0 y1 y2 y3) (laws_wnHas.l0 (k + 1) y0 y1 y2 y3))
 | 0 => fun _ _ _ _ r h => by simp [laws_wnHas.l0] at h
 | k + 1 => by
  have ih0:=laws_wnHas.mono_l k
  ·intro y0 y1 y2 y3
   unfold laws_wnHas.l0
   repeat' first
   | (with_reducible exact ih0 _ _ _ _)
   | (with_reducible exact LeO.refl _)
   | (with_reducible exact LeO.none _)
   | (with_reducible refine LeO.ite ?_ ?_)
   | (with_reducible refine LeO.bind ?_ (fun _ => ?_))
   | exact ih0 _ _ _ _
   | exact LeO.none _
   | refine LeO.ite ?_ ?_
   | refine LeO.bind ?_ (fun _ => ?_)
theorem laws_wnHas.mono : ∀ a0 a1 k,LeO (laws_wnHas.f k a0 a1) (laws_wnHas.f (k + 1) a0 a1):=by
 intro a0 a1 k
 have ih0:=laws_wnHas.mono_l k
 unfold laws_wnHas.f
 repeat' first
   | (with_reducible exact ih0 _ _ _ _)
   | (with_reducible exact LeO.refl _)
   | (with_reducible exact LeO.none _)
   | (with_reducible refine LeO.ite ?_ ?_)
   | (with_reducible refine LeO.bind ?_ (fun _ => ?_))
   | exact ih0 _ _ _ _
   | exact LeO.none _
   | refine LeO.ite ?_ ?_
   | refine LeO.bind ?_ (fun _ => ?_)
set_option maxHeartbeats 8000000 in
set_option maxRecDepth 100000 in
theorem laws_wnHas.calls (k : Nat) (A0 : Option Addr) (c0 : Nat) (l0 : List Int) (a1 : Int) (r : Bool) (w : World) (hr0 : Kd.C (Kd.int .i64) w A0 l0.length l0) (hc0 : l0.length ≤ c0) (h : laws_wnHas.f k l0 a1 = some r) :
  Calls Try.prog 14 #[.slice A0 l0.length c0,.int .i64 a1] w fun e w' => e = .returned (.bool r) ∧ Drawn0 w w':=by
 have HR0:=mk_ hr0
 have HC0:=mk_ hc0
 clear hr0 hc0
 have H : (laws_wnHas.l0 k a1 l0 (l0.length : Int) 0) = some r:=h
 clear h
 have H':=mk_ H
 clear H
 go_enter Try.func14,Try.ntmps14
 go_wp2
 go_loopg [9] k (fun kq v9 w' => ∃ (x9_1 : Int),v9 = .int .i64 x9_1 ∧ Aside0 (laws_wnHas.l0 kq a1 l0 (l0.length : Int) x9_1 = some r) ∧ Aside0 (kq ≤ k) ∧ Drawn0 w w')
 case atStart => exact ⟨(0),qf_,H',⟨Nat.le_refl _⟩,by repeat (first|exact Drawn0.refl _|apply Drawn0.step)⟩
 case round =>
  clear H'
  try clear c1
  try clear p2
  obtain ⟨x9_1,rfl,HA,HK1,⟨m1,rfl⟩⟩:=hrel
  cases gk with
  | zero => exact absurd HA.out (by simp [laws_wnHas.l0])
  | succ k1 =>
   have H:=HA.out
   clear HA
   simp only [laws_wnHas.l0] at H
   by_cases c3 : x9_1 < (l0.length : Int)
   ·rw [if_pos c3] at H
    have c3b0 : decide (x9_1 < (l0.length : Int)) = true:=decide_eq_true c3
    clear c3
    by_cases c4 : 0 ≤ x9_1
    ·rw [if_pos c4] at H
     have c4b0 : decide (0 ≤ x9_1) = true:=decide_eq_true c4
     clear c4
     by_cases c5 : x9_1 < (l0.length : Int)
     ·rw [if_pos c5] at H
      have c5b0 : decide (x9_1 < (l0.length : Int)) = true:=decide_eq_true c5
      clear c5
      by_cases c6 : (rd l0 x9_1) = a1
      ·rw [if_pos c6] at H
       have c6b0 : ((rd l0 x9_1) == a1) = true:=beq_iff_eq.mpr c6
       have c6b1 : ((rd l0 x9_1) != a1) = false:=bne_eq_false_iff_eq.mpr c6
       clear c6
       obtain rfl:=Option.some.inj H
       have p513 : 0 ≤ (x9_1 : Int):=od_ qa_
       have q513 : x9_1 < (l0.length : Int):=od_ qa_
       obtain ⟨ad513,e513,hx513_0⟩:=Kd.at_int HR0.out x9_1 p513 q513
       cases e513
       replace p513:=eq_true p513
       replace q513:=eq_true q513
       go_wp2
       go_ret
       exact ⟨by first|rfl|(simp;done)|(simp [*];done),by repeat (first|exact Drawn0.refl _|apply Drawn0.step)⟩
      ·rw [if_neg c6] at H
       have c6b0 : ((rd l0 x9_1) == a1) = false:=beq_eq_false_iff_ne.mpr c6
       have c6b1 : ((rd l0 x9_1) != a1) = true:=bne_iff_ne.mpr c6
       have H':=mk_ H
       clear H
       have p513 : 0 ≤ (x9_1 : Int):=od_ qa_
       have q513 : x9_1 < (l0.length : Int):=od_ qa_
       obtain ⟨ad513,e513,hx513_0⟩:=Kd.at_int HR0.out x9_1 p513 q513
       cases e513
       replace p513:=eq_true p513
       replace q513:=eq_true q513
       go_wp2
       go_roundg k1
       case measure => have:=HK1.out;omega
       case rel => exact ⟨(wrap64 (x9_1 + 1)),qf_,H',⟨by have:=HK1.out;omega⟩,by repeat (first|exact Drawn0.refl _|apply Drawn0.step)⟩
     ·rw [if_neg c5] at H
      exact absurd H (by simp)
    ·rw [if_neg c4] at H
     exact absurd H (by simp)
   ·rw [if_neg c3] at H
    have c3b0 : decide (x9_1 < (l0.length : Int)) = false:=decide_eq_false c3
    clear c3
    obtain rfl:=Option.some.inj H
    go_wp2
    go_ret
    exact ⟨by first|rfl|(simp;done)|(simp [*];done),by repeat (first|exact Drawn0.refl _|apply Drawn0.step)⟩
/-! ### slices_Index_int_int: function 85 -/
def slices_Index_int_int.l0 : Nat → List Int → Int → Int → Int → Option (Int)
 | 0,_,_,_,_ => none
 | k + 1,x0,x1,x7,x8 => if x8 < x7 then (if 0 ≤ x8 then (if x8 < (x0.length : Int) then (if x1 = (rd x0 x8) then (some x8) else (slices_Index_int_int.l0 k x0 x1 x7 (wrap64 (x8 + 1)))) else (none)) else (none)) else (some (-1))
def slices_Index_int_int.f (k : Nat) (l0 : List Int) (a1 : Int) : Option (Int):=slices_Index_int_int.l0 k l0 a1 (l0.length : Int) 0
theorem slices_Index_int_int.mono_l : ∀ k,(∀ y0 y1 y2 y3,LeO (slices_Index_int_int.l0 k y0 y1 y2 y3) (slices_Index_int_int.l0 (k + 1) y0 y1 y2 y3))
 | 0 => fun _ _ _ _ r h => by simp [slices_Index_int_int.l0] at h
 | k + 1 => by
  have ih0:=slices_Index_int_int.mono_l k
  ·intro y0 y1 y2 y3
   unfold slices_Index_int_int.l0
   repeat' first
   | (with_reducible exact ih0 _ _ _ _)
   | (with_reducible exact LeO.refl _)
   | (with_reducible exact LeO.none _)
   | (with_reducible refine LeO.ite ?_ ?_)
   | (with_reducible refine LeO.bind ?_ (fun _ => ?_))
   | exact ih0 _ _ _ _
   | exact LeO.none _
   | refine LeO.ite ?_ ?_
   | refine LeO.bind ?_ (fun _ => ?_)
theorem slices_Index_int_int.mono : ∀ a0 a1 k,LeO (slices_Index_int_int.f k a0 a1) (slices_Index_int_int.f (k + 1) a0 a1):=by
 intro a0 a1 k
 have ih0:=slices_Index_int_int.mono_l k
 unfold slices_Index_int_int.f
 repeat' first
   | (with_reducible exact ih0 _ _ _ _)
   | (with_reducible exact LeO.refl _)
   | (with_reducible exact LeO.none _)
   | (with_reducible refine LeO.ite ?_ ?_)
   | (with_reducible refine LeO.bind ?_ (fun _ => ?_))
   | exact ih0 _ _ _ _
   | exact LeO.none _
   | refine LeO.ite ?_ ?_
   | refine LeO.bind ?_ (fun _ => ?_)
set_option maxHeartbeats 8000000 in
set_option maxRecDepth 100000 in
theorem slices_Index_int_int.calls (k : Nat) (A0 : Option Addr) (c0 : Nat) (l0 : List Int) (a1 : Int) (r : Int) (w : World) (hr0 : Kd.C (Kd.int .i64) w A0 l0.length l0) (hc0 : l0.length ≤ c0) (h : slices_Index_int_int.f k l0 a1 = some r) :
  Calls Try.prog 85 #[.slice A0 l0.length c0,.int .i64 a1] w fun e w' => e = .returned (.int .i64 r) ∧ Drawn0 w w':=by
 have HR0:=mk_ hr0
 have HC0:=mk_ hc0
 clear hr0 hc0
 have H : (slices_Index_int_int.l0 k l0 a1 (l0.length : Int) 0) = some r:=h
 clear h
 have H':=mk_ H
 clear H
 go_enter Try.func85,Try.ntmps85
 go_wp2
 go_loopg [8] k (fun kq v8 w' => ∃ (x8_1 : Int),v8 = .int .i64 x8_1 ∧ Aside0 (slices_Index_int_int.l0 kq l0 a1 (l0.length : Int) x8_1 = some r) ∧ Aside0 (kq ≤ k) ∧ Drawn0 w w')
 case atStart => exact ⟨(0),qf_,H',⟨Nat.le_refl _⟩,by repeat (first|exact Drawn0.refl _|apply Drawn0.step)⟩
 case round =>
  clear H'
  try clear p2
  obtain ⟨x8_1,rfl,HA,HK1,⟨m1,rfl⟩⟩:=hrel
  cases gk with
  | zero => exact absurd HA.out (by simp [slices_Index_int_int.l0])
  | succ k1 =>
   have H:=HA.out
   clear HA
   simp only [slices_Index_int_int.l0] at H
   by_cases c3 : x8_1 < (l0.length : Int)
   ·rw [if_pos c3] at H
    have c3b0 : decide (x8_1 < (l0.length : Int)) = true:=decide_eq_true c3
    clear c3
    by_cases c4 : 0 ≤ x8_1
    ·rw [if_pos c4] at H
     have c4b0 : decide (0 ≤ x8_1) = true:=decide_eq_true c4
     clear c4
     by_cases c5 : x8_1 < (l0.length : Int)
     ·rw [if_pos c5] at H
      have c5b0 : decide (x8_1 < (l0.length : Int)) = true:=decide_eq_true c5
      clear c5
      by_cases c6 : a1 = (rd l0 x8_1)
      ·rw [if_pos c6] at H
       have c6b0 : (a1 == (rd l0 x8_1)) = true:=beq_iff_eq.mpr c6
       have c6b1 : (a1 != (rd l0 x8_1)) = false:=bne_eq_false_iff_eq.mpr c6
       clear c6
       obtain rfl:=Option.some.inj H
       have p514 : 0 ≤ (x8_1 : Int):=od_ qa_
       have q514 : x8_1 < (l0.length : Int):=od_ qa_
       obtain ⟨ad514,e514,hx514_0⟩:=Kd.at_int HR0.out x8_1 p514 q514
       cases e514
       replace p514:=eq_true p514
       replace q514:=eq_true q514
       go_wp2
       go_ret
       exact ⟨by first|rfl|(simp;done)|(simp [*];done),by repeat (first|exact Drawn0.refl _|apply Drawn0.step)⟩
      ·rw [if_neg c6] at H
       have c6b0 : (a1 == (rd l0 x8_1)) = false:=beq_eq_false_iff_ne.mpr c6
       have c6b1 : (a1 != (rd l0 x8_1)) = true:=bne_iff_ne.mpr c6
       have H':=mk_ H
       clear H
       have p514 : 0 ≤ (x8_1 : Int):=od_ qa_
       have q514 : x8_1 < (l0.length : Int):=od_ qa_
       obtain ⟨ad514,e514,hx514_0⟩:=Kd.at_int HR0.out x8_1 p514 q514
       cases e514
       replace p514:=eq_true p514
       replace q514:=eq_true q514
       go_wp2
       go_roundg k1
       case measure => have:=HK1.out;omega
       case rel => exact ⟨(wrap64 (x8_1 + 1)),qf_,H',⟨by have:=HK1.out;omega⟩,by repeat (first|exact Drawn0.refl _|apply Drawn0.step)⟩
     ·rw [if_neg c5] at H
      exact absurd H (by simp)
    ·rw [if_neg c4] at H
     exact absurd H (by simp)
   ·rw [if_neg c3] at H
    have c3b0 : decide (x8_1 < (l0.length : Int)) = false:=decide_eq_false c3
    clear c3
    obtain rfl:=Option.some.inj H
    go_wp2
    go_ret
    exact ⟨by first|rfl|(simp;done)|(simp [*];done),by repeat (first|exact Drawn0.refl _|apply Drawn0.step)⟩
/-! ### slices_Contains_int_int: function 45 -/
def slices_Contains_int_int.f (k : Nat) (l0 : List Int) (a1 : Int) : Option (Bool):=(slices_Index_int_int.f k l0 a1).bind fun t515 => (some (decide (t515 ≥ 0)))
theorem slices_Contains_int_int.mono : ∀ a0 a1 k,LeO (slices_Contains_int_int.f k a0 a1) (slices_Contains_int_int.f (k + 1) a0 a1):=by
 intro a0 a1 k
 unfold slices_Contains_int_int.f
 repeat' first
   | (with_reducible exact slices_Index_int_int.mono _ _ _)
   | (with_reducible exact LeO.refl _)
   | (with_reducible exact LeO.none _)
   | (with_reducible refine LeO.ite ?_ ?_)
   | (with_reducible refine LeO.bind ?_ (fun _ => ?_))
   | exact slices_Index_int_int.mono _ _ _
   | exact LeO.none _
   | refine LeO.ite ?_ ?_
   | refine LeO.bind ?_ (fun _ => ?_)
set_option maxHeartbeats 8000000 in
set_option maxRecDepth 100000 in
theorem slices_Contains_int_int.calls (k : Nat) (A0 : Option Addr) (c0 : Nat) (l0 : List Int) (a1 : Int) (r : Bool) (w : World) (hr0 : Kd.C (Kd.int .i64) w A0 l0.length l0) (hc0 : l0.length ≤ c0) (h : slices_Contains_int_int.f k l0 a1 = some r) :
  Calls Try.prog 45 #[.slice A0 l0.length c0,.int .i64 a1] w fun e w' => e = .returned (.bool r) ∧ Drawn0 w w':=by
 have HR0:=mk_ hr0
 have HC0:=mk_ hc0
 clear hr0 hc0
 have H : ((slices_Index_int_int.f k l0 a1).bind fun t515 => (some (decide (t515 ≥ 0)))) = some r:=h
 clear h
 replace H:=Option.bind_eq_some_iff.mp H
 obtain ⟨t515,A30,H⟩:=H
 replace H : (some (decide (t515 ≥ 0))) = some r:=H
 have A3:=mk_ A30
 clear A30
 obtain rfl:=Option.some.inj H
 go_enter Try.func45,Try.ntmps45
 go_wp2_with (first|((with_reducible refine gate_callee (f:=85) rfl ?_);refine goesL_ (some 7) rfl rfl Try.func85 (by kernel_rfl) rfl #[.slice A0 l0.length c0,.int .i64 a1] rfl qm_ ?_;(with_reducible refine (slices_Index_int_int.calls k _ _ l0 a1 t515 _ ?side1 ?side2 A3.out).mono ?_);(case side1 => repeat (first|exact HR0.out|(with_reducible refine ca_ ?_ _)|(with_reducible refine cn_ ?_ _)|(with_reducible refine cd_ ?_)));(case side2 => exact HC0.out);rintro e w' ⟨rfl,⟨nd,rfl⟩⟩;refine ⟨_,rfl,?_⟩))
 go_ret
 exact ⟨by first|rfl|(simp;done)|(simp [*];done),by repeat (first|exact Drawn0.refl _|apply Drawn0.step)⟩
/-! ### impl_TreeWay: function 15 -/
mutual
def impl_TreeWay.j0 : Nat → Int → Int → Bool → Int → List (S83) → List Int → List Int → Option (List Int)
 | 0,_,_,_,_,_,_,_ => none
 | k + 1,x1,x2,x24,z0_,z1_,z2_,z3_ => if x24 = true then (some ([] : List Int)) else ((impl_rootsOf.f z0_ z1_).bind fun t519 => (if 0 ≤ x1 then (if x1 < (z2_.length : Int) then (if 0 ≤ (rd z2_ x1) then (if (rd z2_ x1) < (t519.length : Int) then (if 0 ≤ x2 then (if x2 < (z2_.length : Int) then (if 0 ≤ (rd z2_ x2) then (if (rd z2_ x2) < (t519.length : Int) then (if (rd t519 (rd z2_ x1)) = (rd t519 (rd z2_ x2)) then ((impl_Net_ups.f k z0_ z1_ z2_ z3_ (rd z2_ x1)).bind fun t527 => ((impl_Net_ups.f k z0_ z1_ z2_ z3_ (rd z2_ x2)).bind fun t531 => (impl_TreeWay.l0 k t527 t531 ([] : List Int) t527 (t527.length : Int) 0))) else (some ([] : List Int))) else (none)) else (none)) else (none)) else (none)) else (none)) else (none)) else (none)) else (none)))
def impl_TreeWay.l0 : Nat → List Int → List Int → List Int → List Int → Int → Int → Option (List Int)
 | 0,_,_,_,_,_,_ => none
 | k + 1,x8,x9,x10,x61,x62,x63 => if x63 < x62 then (if 0 ≤ x63 then (if x63 < (x61.length : Int) then ((slices_Contains_int_int.f k x9 (rd x61 x63)).bind fun t535 => (if t535 = true then (impl_TreeWay.l0 k x8 x9 x10 x61 x62 (wrap64 (x63 + 1))) else (if x10.length < 17592186044416 then (impl_TreeWay.l0 k x8 x9 (x10 ++ [rd x61 x63]) x61 x62 (wrap64 (x63 + 1))) else (none)))) else (none)) else (none)) else (impl_TreeWay.l1 k x8 x10 x9 (x9.length : Int) 0)
def impl_TreeWay.l1 : Nat → List Int → List Int → List Int → Int → Int → Option (List Int)
 | 0,_,_,_,_,_ => none
 | k + 1,x8,x10,x76,x77,x78 => if x78 < x77 then (if 0 ≤ x78 then (if x78 < (x76.length : Int) then ((slices_Contains_int_int.f k x8 (rd x76 x78)).bind fun t540 => (if t540 = true then (impl_TreeWay.l1 k x8 x10 x76 x77 (wrap64 (x78 + 1))) else (if x10.length < 17592186044416 then (impl_TreeWay.l1 k x8 (x10 ++ [rd x76 x78]) x76 x77 (wrap64 (x78 + 1))) else (none)))) else (none)) else (none)) else ((slices_Sort_int_int.f k x10).bind fun t544 => (some t544))
end
def impl_TreeWay.f (k : Nat) (a0_0 : Int) (l0_1 : List (S83)) (l0_2 : List Int) (l0_3 : List Int) (a1 : Int) (a2 : Int) : Option (List Int):=(impl_Net_station.f a0_0 l0_1 l0_2 l0_3 a1).bind fun t517 => (if t517 = true then ((impl_Net_station.f a0_0 l0_1 l0_2 l0_3 a2).bind fun t518 => (impl_TreeWay.j0 k a1 a2 (!t518) a0_0 l0_1 l0_2 l0_3)) else (impl_TreeWay.j0 k a1 a2 true a0_0 l0_1 l0_2 l0_3))
theorem impl_TreeWay.mono_l : ∀ k,(∀ y0 y1 y2 y3 y4 y5 y6,LeO (impl_TreeWay.j0 k y0 y1 y2 y3 y4 y5 y6) (impl_TreeWay.j0 (k + 1) y0 y1 y2 y3 y4 y5 y6)) ∧ (∀ y0 y1 y2 y3 y4 y5,LeO (impl_TreeWay.l0 k y0 y1 y2 y3 y4 y5) (impl_TreeWay.l0 (k + 1) y0 y1 y2 y3 y4 y5)) ∧ (∀ y0 y1 y2 y3 y4,LeO (impl_TreeWay.l1 k y0 y1 y2 y3 y4) (impl_TreeWay.l1 (k + 1) y0 y1 y2 y3 y4))
 | 0 => ⟨fun _ _ _ _ _ _ _ r h => by simp [impl_TreeWay.j0] at h,fun _ _ _ _ _ _ r h => by simp [impl_TreeWay.l0] at h,fun _ _ _ _ _ r h => by simp [impl_TreeWay.l1] at h⟩
 | k + 1 => by
  obtain ⟨ih0,ih1,ih2⟩:=impl_TreeWay.mono_l k
  refine ⟨?_,?_,?_⟩
  ·intro y0 y1 y2 y3 y4 y5 y6
   unfold impl_TreeWay.j0
   repeat' first
   | (with_reducible exact ih0 _ _ _ _ _ _ _)
   | (with_reducible exact ih1 _ _ _ _ _ _)
   | (with_reducible exact ih2 _ _ _ _ _)
   | (with_reducible exact impl_Net_ups.mono _ _ _ _ _ _)
   | (with_reducible exact slices_Contains_int_int.mono _ _ _)
   | (with_reducible exact slices_Sort_int_int.mono _ _)
   | (with_reducible exact LeO.refl _)
   | (with_reducible exact LeO.none _)
   | (with_reducible refine LeO.ite ?_ ?_)
   | (with_reducible refine LeO.bind ?_ (fun _ => ?_))
   | exact ih0 _ _ _ _ _ _ _
   | exact ih1 _ _ _ _ _ _
   | exact ih2 _ _ _ _ _
   | exact impl_Net_ups.mono _ _ _ _ _ _
   | exact slices_Contains_int_int.mono _ _ _
   | exact slices_Sort_int_int.mono _ _
   | exact LeO.none _
   | refine LeO.ite ?_ ?_
   | refine LeO.bind ?_ (fun _ => ?_)
  ·intro y0 y1 y2 y3 y4 y5
   unfold impl_TreeWay.l0
   repeat' first
   | (with_reducible exact ih0 _ _ _ _ _ _ _)
   | (with_reducible exact ih1 _ _ _ _ _ _)
   | (with_reducible exact ih2 _ _ _ _ _)
   | (with_reducible exact impl_Net_ups.mono _ _ _ _ _ _)
   | (with_reducible exact slices_Contains_int_int.mono _ _ _)
   | (with_reducible exact slices_Sort_int_int.mono _ _)
   | (with_reducible exact LeO.refl _)
   | (with_reducible exact LeO.none _)
   | (with_reducible refine LeO.ite ?_ ?_)
   | (with_reducible refine LeO.bind ?_ (fun _ => ?_))
   | exact ih0 _ _ _ _ _ _ _
   | exact ih1 _ _ _ _ _ _
   | exact ih2 _ _ _ _ _
   | exact impl_Net_ups.mono _ _ _ _ _ _
   | exact slices_Contains_int_int.mono _ _ _
   | exact slices_Sort_int_int.mono _ _
   | exact LeO.none _
   | refine LeO.ite ?_ ?_
   | refine LeO.bind ?_ (fun _ => ?_)
  ·intro y0 y1 y2 y3 y4
   unfold impl_TreeWay.l1
   repeat' first
   | (with_reducible exact ih0 _ _ _ _ _ _ _)
   | (with_reducible exact ih1 _ _ _ _ _ _)
   | (with_reducible exact ih2 _ _ _ _ _)
   | (with_reducible exact impl_Net_ups.mono _ _ _ _ _ _)
   | (with_reducible exact slices_Contains_int_int.mono _ _ _)
   | (with_reducible exact slices_Sort_int_int.mono _ _)
   | (with_reducible exact LeO.refl _)
   | (with_reducible exact LeO.none _)
   | (with_reducible refine LeO.ite ?_ ?_)
   | (with_reducible refine LeO.bind ?_ (fun _ => ?_))
   | exact ih0 _ _ _ _ _ _ _
   | exact ih1 _ _ _ _ _ _
   | exact ih2 _ _ _ _ _
   | exact impl_Net_ups.mono _ _ _ _ _ _
   | exact slices_Contains_int_int.mono _ _ _
   | exact slices_Sort_int_int.mono _ _
   | exact LeO.none _
   | refine LeO.ite ?_ ?_
   | refine LeO.bind ?_ (fun _ => ?_)
theorem impl_TreeWay.mono : ∀ a0 a1 a2 a3 a4 a5 k,LeO (impl_TreeWay.f k a0 a1 a2 a3 a4 a5) (impl_TreeWay.f (k + 1) a0 a1 a2 a3 a4 a5):=by
 intro a0 a1 a2 a3 a4 a5 k
 obtain ⟨ih0,ih1,ih2⟩:=impl_TreeWay.mono_l k
 unfold impl_TreeWay.f
 repeat' first
   | (with_reducible exact ih0 _ _ _ _ _ _ _)
   | (with_reducible exact ih1 _ _ _ _ _ _)
   | (with_reducible exact ih2 _ _ _ _ _)
   | (with_reducible exact impl_Net_ups.mono _ _ _ _ _ _)
   | (with_reducible exact slices_Contains_int_int.mono _ _ _)
   | (with_reducible exact slices_Sort_int_int.mono _ _)
   | (with_reducible exact LeO.refl _)
   | (with_reducible exact LeO.none _)
   | (with_reducible refine LeO.ite ?_ ?_)
   | (with_reducible refine LeO.bind ?_ (fun _ => ?_))
   | exact ih0 _ _ _ _ _ _ _
   | exact ih1 _ _ _ _ _ _
   | exact ih2 _ _ _ _ _
   | exact impl_Net_ups.mono _ _ _ _ _ _
   | exact slices_Contains_int_int.mono _ _ _
   | exact slices_Sort_int_int.mono _ _
   | exact LeO.none _
   | refine LeO.ite ?_ ?_
   | refine LeO.bind ?_ (fun _ => ?_)
def impl_TreeWay.T4 : Bool × List (List Nat × List Nat):=(true,[([],[]),([],[]),([1],[1]),([],[]),([2,3],[2,3]),([4],[4]),([0,5],[0,5]),([6],[6]),([],[]),([],[]),([9],[9]),([],[]),([10,11],[10,11]),([12],[12]),([8,13],[8,13]),([14],[14]),([7,15],[7,15])])
def impl_TreeWay.B4 : List Nat:=[0,0,2,0,14,30,63,127,0,0,512,0,3584,7680,16128,32512,65535]
theorem impl_TreeWay.tab4 : rtab .any (opsOf Try.f15 4) = impl_TreeWay.T4:=by kernel_rfl
theorem impl_TreeWay.bits4 : waitsOk impl_TreeWay.T4.2 impl_TreeWay.B4 = true:=by kernel_rfl
def impl_TreeWay.T6 : Bool × List (List Nat × List Nat):=(true,[([],[]),([],[]),([1],[1]),([],[]),([2,3],[2,3]),([4],[4]),([0,5],[0,5]),([],[]),([],[]),([8],[8]),([],[]),([9,10],[9,10]),([11],[11]),([7,12,6],[7,12]),([6,13,0,1,2,3,4,5,6],[6]),([13,14,0,1,2,3,4,5,6,7,8,9,10,11,12,13,14],[13])])
def impl_TreeWay.B6 : List Nat:=[0,0,2,0,14,30,63,0,0,256,0,1792,3840,8191,16383,32767]
theorem impl_TreeWay.tab6 : rtab .any (opsOf Try.f15 6) = impl_TreeWay.T6:=by kernel_rfl
theorem impl_TreeWay.bits6 : waitsOk impl_TreeWay.T6.2 impl_TreeWay.B6 = true:=by kernel_rfl
set_option maxHeartbeats 8000000 in
set_option maxRecDepth 100000 in
theorem impl_TreeWay.calls (k : Nat) (a0_0 : Int) (A0_1 : Option Addr) (c0_1 : Nat) (l0_1 : List (S83)) (A0_2 : Option Addr) (c0_2 : Nat) (l0_2 : List Int) (A0_3 : Option Addr) (c0_3 : Nat) (l0_3 : List Int) (a1 : Int) (a2 : Int) (r : List Int) (w : World) (hr0_1 : Kd.C k83 w A0_1 l0_1.length l0_1) (hc0_1 : l0_1.length ≤ c0_1) (hr0_2 : Kd.C (Kd.int .i64) w A0_2 l0_2.length l0_2) (hc0_2 : l0_2.length ≤ c0_2) (hr0_3 : Kd.C (Kd.int .i64) w A0_3 l0_3.length l0_3) (hc0_3 : l0_3.length ≤ c0_3) (h : impl_TreeWay.f k a0_0 l0_1 l0_2 l0_3 a1 a2 = some r) :
  Calls Try.prog 15 #[.agg #[.int .i64 a0_0,.slice A0_1 l0_1.length c0_1,.slice A0_2 l0_2.length c0_2,.slice A0_3 l0_3.length c0_3],.int .i64 a1,.int .i64 a2] w fun e w' => ∃ v0_ : Value,e = .returned (v0_) ∧ Kd.R (Kd.int .i64) 3 w' w.heap.size (fun _ => True) v0_ r ∧ Below w.heap.size w w':=by
 have hu26:=Try.underlying26
 have HR0_1:=mk_ hr0_1
 have HC0_1:=mk_ hc0_1
 clear hr0_1 hc0_1
 have HR0_2:=mk_ hr0_2
 have HC0_2:=mk_ hc0_2
 clear hr0_2 hc0_2
 have HR0_3:=mk_ hr0_3
 have HC0_3:=mk_ hc0_3
 clear hr0_3 hc0_3
 have HB:=mk_ (Below.refl w.heap.size w)
 have H : ((impl_Net_station.f a0_0 l0_1 l0_2 l0_3 a1).bind fun t517 => (if t517 = true then ((impl_Net_station.f a0_0 l0_1 l0_2 l0_3 a2).bind fun t518 => (impl_TreeWay.j0 k a1 a2 (!t518) a0_0 l0_1 l0_2 l0_3)) else (impl_TreeWay.j0 k a1 a2 true a0_0 l0_1 l0_2 l0_3))) = some r:=h
 clear h
 have HC4:=mk_ H
 clear H
 go_enter Try.func15,Try.ntmps15
 go_upto_region 1 with (first|((with_reducible refine gate_dst (N:=3) rfl ?_);refine box_event ?hg (N:=3) ?hd (cs:=#[.int .i64 a0_0,.slice A0_1 l0_1.length c0_1,.slice A0_2 l0_2.length c0_2,.slice A0_3 l0_3.length c0_3]) (t:=26) ?hr ?_;(case hd => rfl);(case hg => rfl);(case hr => first|(go_simp;done)|(go_simp;rfl));intro gb516 hg w5 hbox hb;have n0_:=mk_ (st_ (qb_ HB) hb);have n1_:=mk_ (hbox);have n2_:=mk_ ((by rw [hg];exact (bz_ (qb_ HB)) : w.heap.size ≤ gb516));have n3_:=mk_ ((by rw [hg];exact (bz_ (qb_ HB)) : w.heap.size ≤ gb516));clear HB;have HB:=n0_;have BK516:=n1_;have GW516:=n2_;have GE516:=n3_;clear n0_ n1_ n2_ n3_ hb hbox hg))
 (try simp only [Act.put,sx_,sy_,sz_])
 go_cut [24] (fun v24 wc => ∃ (kq : Nat) (x24_3 : Bool),v24 = .bool x24_3 ∧ Aside0 (impl_TreeWay.j0 kq a1 a2 x24_3 a0_0 l0_1 l0_2 l0_3 = some r) ∧ Aside0 (kq ≤ k) ∧ Aside0 (wc.heap[gb516]? = some (.cells #[.int .i64 a0_0,(.slice A0_1 l0_1.length c0_1),(.slice A0_2 l0_2.length c0_2),(.slice A0_3 l0_3.length c0_3)] 26 (0,0))) ∧ Aside0 (Below w.heap.size w wc))
 case first =>
  have H:=HC4.out
  clear HC4
  replace H:=Option.bind_eq_some_iff.mp H
  obtain ⟨t517,A60,H⟩:=H
  replace H : (if t517 = true then ((impl_Net_station.f a0_0 l0_1 l0_2 l0_3 a2).bind fun t518 => (impl_TreeWay.j0 k a1 a2 (!t518) a0_0 l0_1 l0_2 l0_3)) else (impl_TreeWay.j0 k a1 a2 true a0_0 l0_1 l0_2 l0_3)) = some r:=H
  have A6:=mk_ A60
  clear A60
  by_cases c7 : t517 = true
  ·subst c7
   have H1 : ((impl_Net_station.f a0_0 l0_1 l0_2 l0_3 a2).bind fun t518 => (impl_TreeWay.j0 k a1 a2 (!t518) a0_0 l0_1 l0_2 l0_3)) = some r:=by rw [if_pos rfl] at H;exact H
   clear H
   have H:=H1
   clear H1
   replace H:=Option.bind_eq_some_iff.mp H
   obtain ⟨t518,A80,H⟩:=H
   replace H : (impl_TreeWay.j0 k a1 a2 (!t518) a0_0 l0_1 l0_2 l0_3) = some r:=H
   have A8:=mk_ A80
   clear A80
   have H':=mk_ H
   clear H
   have hcz9_0 : w5.cell? ⟨gb516,0,none⟩ = some (.int .i64 a0_0):=(bc_ BK516.out 0).trans rfl
   have hcz9_1 : w5.cell? ⟨gb516,1,none⟩ = some (.slice A0_1 l0_1.length c0_1):=(bc_ BK516.out 1).trans rfl
   have hcz9_2 : w5.cell? ⟨gb516,2,none⟩ = some (.slice A0_2 l0_2.length c0_2):=(bc_ BK516.out 2).trans rfl
   have hcz9_3 : w5.cell? ⟨gb516,3,none⟩ = some (.slice A0_3 l0_3.length c0_3):=(bc_ BK516.out 3).trans rfl
   have hfz9_0:=bf_ BK516.out 0
   have hfz9_1:=bf_ BK516.out 1
   have hfz9_2:=bf_ BK516.out 2
   have hfz9_3:=bf_ BK516.out 3
   go_wp2_with (first|((with_reducible refine gate_callee (f:=34) rfl ?_);refine goesL_ (some 17) rfl rfl Try.func34 (by kernel_rfl) rfl #[.agg #[.int .i64 a0_0,.slice A0_1 l0_1.length c0_1,.slice A0_2 l0_2.length c0_2,.slice A0_3 l0_3.length c0_3],.int .i64 a1] rfl qm_ ?_;(with_reducible refine (impl_Net_station.calls a0_0 _ _ l0_1 _ _ l0_2 _ _ l0_3 a1 true _ ?side1 ?side2 ?side3 ?side4 ?side5 ?side6 A6.out).mono ?_);(case side1 => exact qn_ HR0_1 HB);(case side2 => exact HC0_1.out);(case side3 => exact qn_ HR0_2 HB);(case side4 => exact HC0_2.out);(case side5 => exact qn_ HR0_3 HB);(case side6 => exact HC0_3.out);rintro e w10 ⟨rfl,hb⟩;refine ⟨_,rfl,?_⟩;have n0_:=mk_ (blk_below (g:=gb516) (o:=.cells #[.int .i64 a0_0,.slice A0_1 l0_1.length c0_1,.slice A0_2 l0_2.length c0_2,.slice A0_3 l0_3.length c0_3] 26 (0,0)) (qk_ BK516) hb);have n1_:=mk_ (st_ (qc_ HB GE516) hb);clear BK516 HB;have BK516:=n0_;have HB:=n1_;clear n0_ n1_;(try clear hb);(try clear hb2);(try clear hk);(try clear hi);have hcz11_0 : w10.cell? ⟨gb516,0,none⟩ = some (.int .i64 a0_0):=(bc_ BK516.out 0).trans rfl;have hcz11_1 : w10.cell? ⟨gb516,1,none⟩ = some (.slice A0_1 l0_1.length c0_1):=(bc_ BK516.out 1).trans rfl;have hcz11_2 : w10.cell? ⟨gb516,2,none⟩ = some (.slice A0_2 l0_2.length c0_2):=(bc_ BK516.out 2).trans rfl;have hcz11_3 : w10.cell? ⟨gb516,3,none⟩ = some (.slice A0_3 l0_3.length c0_3):=(bc_ BK516.out 3).trans rfl;have hfz11_0:=bf_ BK516.out 0;have hfz11_1:=bf_ BK516.out 1;have hfz11_2:=bf_ BK516.out 2;have hfz11_3:=bf_ BK516.out 3)|(go_at_call 34;(with_reducible refine (impl_Net_station.calls a0_0 _ _ l0_1 _ _ l0_2 _ _ l0_3 a2 t518 _ ?side1 ?side2 ?side3 ?side4 ?side5 ?side6 A8.out).mono ?_);(case side1 => exact qn_ HR0_1 HB);(case side2 => exact HC0_1.out);(case side3 => exact qn_ HR0_2 HB);(case side4 => exact HC0_2.out);(case side5 => exact qn_ HR0_3 HB);(case side6 => exact HC0_3.out);rintro e w12 ⟨rfl,hb⟩;have n0_:=mk_ (blk_below (g:=gb516) (o:=.cells #[.int .i64 a0_0,.slice A0_1 l0_1.length c0_1,.slice A0_2 l0_2.length c0_2,.slice A0_3 l0_3.length c0_3] 26 (0,0)) (qk_ BK516) hb);have n1_:=mk_ (st_ (qc_ HB GE516) hb);clear BK516 HB;have BK516:=n0_;have HB:=n1_;clear n0_ n1_;(try clear hb);(try clear hb2);(try clear hk);(try clear hi)))
   go_meet
   case rel => exact ⟨_,(!t518),qf_,H',⟨by first|omega|exact Nat.le_refl _⟩,⟨qk_ BK516⟩,⟨u0_ HB GE516⟩⟩
  ·replace c7:=Bool.eq_false_iff.mpr c7
   subst c7
   have H1 : (impl_TreeWay.j0 k a1 a2 true a0_0 l0_1 l0_2 l0_3) = some r:=by rw [if_neg (show ¬ (false = true) by decide)] at H;exact H
   clear H
   have H:=H1
   clear H1
   have H':=mk_ H
   clear H
   have hcz13_0 : w5.cell? ⟨gb516,0,none⟩ = some (.int .i64 a0_0):=(bc_ BK516.out 0).trans rfl
   have hcz13_1 : w5.cell? ⟨gb516,1,none⟩ = some (.slice A0_1 l0_1.length c0_1):=(bc_ BK516.out 1).trans rfl
   have hcz13_2 : w5.cell? ⟨gb516,2,none⟩ = some (.slice A0_2 l0_2.length c0_2):=(bc_ BK516.out 2).trans rfl
   have hcz13_3 : w5.cell? ⟨gb516,3,none⟩ = some (.slice A0_3 l0_3.length c0_3):=(bc_ BK516.out 3).trans rfl
   have hfz13_0:=bf_ BK516.out 0
   have hfz13_1:=bf_ BK516.out 1
   have hfz13_2:=bf_ BK516.out 2
   have hfz13_3:=bf_ BK516.out 3
   go_wp2_with (first|((with_reducible refine gate_callee (f:=34) rfl ?_);refine goesL_ (some 17) rfl rfl Try.func34 (by kernel_rfl) rfl #[.agg #[.int .i64 a0_0,.slice A0_1 l0_1.length c0_1,.slice A0_2 l0_2.length c0_2,.slice A0_3 l0_3.length c0_3],.int .i64 a1] rfl qm_ ?_;(with_reducible refine (impl_Net_station.calls a0_0 _ _ l0_1 _ _ l0_2 _ _ l0_3 a1 false _ ?side1 ?side2 ?side3 ?side4 ?side5 ?side6 A6.out).mono ?_);(case side1 => exact qn_ HR0_1 HB);(case side2 => exact HC0_1.out);(case side3 => exact qn_ HR0_2 HB);(case side4 => exact HC0_2.out);(case side5 => exact qn_ HR0_3 HB);(case side6 => exact HC0_3.out);rintro e w14 ⟨rfl,hb⟩;refine ⟨_,rfl,?_⟩;have n0_:=mk_ (blk_below (g:=gb516) (o:=.cells #[.int .i64 a0_0,.slice A0_1 l0_1.length c0_1,.slice A0_2 l0_2.length c0_2,.slice A0_3 l0_3.length c0_3] 26 (0,0)) (qk_ BK516) hb);have n1_:=mk_ (st_ (qc_ HB GE516) hb);clear BK516 HB;have BK516:=n0_;have HB:=n1_;clear n0_ n1_;(try clear hb);(try clear hb2);(try clear hk);(try clear hi)))
   go_meet
   case rel => exact ⟨_,(true),qf_,H',⟨by first|omega|exact Nat.le_refl _⟩,⟨qk_ BK516⟩,⟨u0_ HB GE516⟩⟩
 case rest =>
  clear HC4
  try clear c1
  try clear p2
  try clear c3
  try clear c7
  try clear hcz11_0
  try clear hcz11_1
  try clear hcz11_2
  try clear hcz11_3
  try clear hcz13_0
  try clear hcz13_1
  try clear hcz13_2
  try clear hcz13_3
  try clear hcz9_0
  try clear hcz9_1
  try clear hcz9_2
  try clear hcz9_3
  try clear hfz11_0
  try clear hfz11_1
  try clear hfz11_2
  try clear hfz11_3
  try clear hfz13_0
  try clear hfz13_1
  try clear hfz13_2
  try clear hfz13_3
  try clear hfz9_0
  try clear hfz9_1
  try clear hfz9_2
  try clear hfz9_3
  obtain ⟨kq,x24_3,rfl,HA,HJ3,BK516,HB⟩:=hcut
  cases kq with
  | zero => exact absurd HA.out (by simp [impl_TreeWay.j0])
  | succ kj3 =>
   have H:=HA.out
   clear HA
   simp only [impl_TreeWay.j0] at H
   by_cases c15 : x24_3 = true
   ·subst c15
    have H1 : (some ([] : List Int)) = some r:=by rw [if_pos rfl] at H;exact H
    clear H
    have H:=H1
    clear H1
    obtain rfl:=Option.some.inj H
    go_wp2
    go_ret
    exact ⟨_,qe_,by first|exact Kd.R_nil _ _ _ _ _|exact Kd.N_nil _ _ _ _ _|exact Kd.V_nil _ _ _ _ _|exact Kd.Q_nil _ _ _ _ _|exact Kd.S_nil _ _ _ _ _,u0_ HB GE516⟩
   ·replace c15:=Bool.eq_false_iff.mpr c15
    subst c15
    have H1 : ((impl_rootsOf.f a0_0 l0_1).bind fun t519 => (if 0 ≤ a1 then (if a1 < (l0_2.length : Int) then (if 0 ≤ (rd l0_2 a1) then (if (rd l0_2 a1) < (t519.length : Int) then (if 0 ≤ a2 then (if a2 < (l0_2.length : Int) then (if 0 ≤ (rd l0_2 a2) then (if (rd l0_2 a2) < (t519.length : Int) then (if (rd t519 (rd l0_2 a1)) = (rd t519 (rd l0_2 a2)) then ((impl_Net_ups.f kj3 a0_0 l0_1 l0_2 l0_3 (rd l0_2 a1)).bind fun t527 => ((impl_Net_ups.f kj3 a0_0 l0_1 l0_2 l0_3 (rd l0_2 a2)).bind fun t531 => (impl_TreeWay.l0 kj3 t527 t531 ([] : List Int) t527 (t527.length : Int) 0))) else (some ([] : List Int))) else (none)) else (none)) else (none)) else (none)) else (none)) else (none)) else (none)) else (none))) = some r:=by rw [if_neg (show ¬ (false = true) by decide)] at H;exact H
    clear H
    have H:=H1
    clear H1
    replace H:=Option.bind_eq_some_iff.mp H
    obtain ⟨t519,A160,H⟩:=H
    replace H : (if 0 ≤ a1 then (if a1 < (l0_2.length : Int) then (if 0 ≤ (rd l0_2 a1) then (if (rd l0_2 a1) < (t519.length : Int) then (if 0 ≤ a2 then (if a2 < (l0_2.length : Int) then (if 0 ≤ (rd l0_2 a2) then (if (rd l0_2 a2) < (t519.length : Int) then (if (rd t519 (rd l0_2 a1)) = (rd t519 (rd l0_2 a2)) then ((impl_Net_ups.f kj3 a0_0 l0_1 l0_2 l0_3 (rd l0_2 a1)).bind fun t527 => ((impl_Net_ups.f kj3 a0_0 l0_1 l0_2 l0_3 (rd l0_2 a2)).bind fun t531 => (impl_TreeWay.l0 kj3 t527 t531 ([] : List Int) t527 (t527.length : Int) 0))) else (some ([] : List Int))) else (none)) else (none)) else (none)) else (none)) else (none)) else (none)) else (none)) else (none)) = some r:=H
    have A16:=mk_ A160
    clear A160
    by_cases c17 : 0 ≤ a1
    ·rw [if_pos c17] at H
     have c17b0 : decide (0 ≤ a1) = true:=decide_eq_true c17
     clear c17
     by_cases c18 : a1 < (l0_2.length : Int)
     ·rw [if_pos c18] at H
      have c18b0 : decide (a1 < (l0_2.length : Int)) = true:=decide_eq_true c18
      clear c18
      by_cases c19 : 0 ≤ (rd l0_2 a1)
      ·rw [if_pos c19] at H
       have c19b0 : decide (0 ≤ (rd l0_2 a1)) = true:=decide_eq_true c19
       clear c19
       by_cases c20 : (rd l0_2 a1) < (t519.length : Int)
       ·rw [if_pos c20] at H
        have c20b0 : decide ((rd l0_2 a1) < (t519.length : Int)) = true:=decide_eq_true c20
        clear c20
        by_cases c21 : 0 ≤ a2
        ·rw [if_pos c21] at H
         have c21b0 : decide (0 ≤ a2) = true:=decide_eq_true c21
         clear c21
         by_cases c22 : a2 < (l0_2.length : Int)
         ·rw [if_pos c22] at H
          have c22b0 : decide (a2 < (l0_2.length : Int)) = true:=decide_eq_true c22
          clear c22
          by_cases c23 : 0 ≤ (rd l0_2 a2)
          ·rw [if_pos c23] at H
           have c23b0 : decide (0 ≤ (rd l0_2 a2)) = true:=decide_eq_true c23
           clear c23
           by_cases c24 : (rd l0_2 a2) < (t519.length : Int)
           ·rw [if_pos c24] at H
            have c24b0 : decide ((rd l0_2 a2) < (t519.length : Int)) = true:=decide_eq_true c24
            clear c24
            by_cases c25 : (rd t519 (rd l0_2 a1)) = (rd t519 (rd l0_2 a2))
            ·rw [if_pos c25] at H
             have c25b0 : ((rd t519 (rd l0_2 a1)) == (rd t519 (rd l0_2 a2))) = true:=beq_iff_eq.mpr c25
             have c25b1 : ((rd t519 (rd l0_2 a1)) != (rd t519 (rd l0_2 a2))) = false:=bne_eq_false_iff_eq.mpr c25
             clear c25
             replace H:=Option.bind_eq_some_iff.mp H
             obtain ⟨t527,A260,H⟩:=H
             replace H : ((impl_Net_ups.f kj3 a0_0 l0_1 l0_2 l0_3 (rd l0_2 a2)).bind fun t531 => (impl_TreeWay.l0 kj3 t527 t531 ([] : List Int) t527 (t527.length : Int) 0)) = some r:=H
             have A26:=mk_ A260
             clear A260
             replace H:=Option.bind_eq_some_iff.mp H
             obtain ⟨t531,A270,H⟩:=H
             replace H : (impl_TreeWay.l0 kj3 t527 t531 ([] : List Int) t527 (t527.length : Int) 0) = some r:=H
             have A27:=mk_ A270
             clear A270
             have H':=mk_ H
             clear H
             have hcz28_0 : wc.cell? ⟨gb516,0,none⟩ = some (.int .i64 a0_0):=(bc_ BK516.out 0).trans rfl
             have hcz28_1 : wc.cell? ⟨gb516,1,none⟩ = some (.slice A0_1 l0_1.length c0_1):=(bc_ BK516.out 1).trans rfl
             have hcz28_2 : wc.cell? ⟨gb516,2,none⟩ = some (.slice A0_2 l0_2.length c0_2):=(bc_ BK516.out 2).trans rfl
             have hcz28_3 : wc.cell? ⟨gb516,3,none⟩ = some (.slice A0_3 l0_3.length c0_3):=(bc_ BK516.out 3).trans rfl
             have hfz28_0:=bf_ BK516.out 0
             have hfz28_1:=bf_ BK516.out 1
             have hfz28_2:=bf_ BK516.out 2
             have hfz28_3:=bf_ BK516.out 3
             try go_wp2_with (first|((with_reducible refine gate_callee (f:=43) rfl ?_);refine goesL_ (some 29) rfl rfl Try.func43 (by kernel_rfl) rfl #[.int .i64 a0_0,.slice A0_1 l0_1.length c0_1] rfl qm_ ?_;(with_reducible refine (impl_rootsOf.calls a0_0 _ _ l0_1 t519 _ ?side1 ?side2 A16.out).mono ?_);(case side1 => exact qn_ HR0_1 HB);(case side2 => exact HC0_1.out);rintro e w29 ⟨v520,rfl,ho0,hb⟩;refine ⟨_,rfl,?_⟩;have n0_:=mk_ (Kd.R_lower ho0 (bz_ (qc_ HB GE516)));have n1_:=mk_ (blk_below (g:=gb516) (o:=.cells #[.int .i64 a0_0,.slice A0_1 l0_1.length c0_1,.slice A0_2 l0_2.length c0_2,.slice A0_3 l0_3.length c0_3] 26 (0,0)) (qk_ BK516) hb);have n2_:=mk_ (st_ (qc_ HB GE516) hb);clear BK516 HB;have HO521:=n0_;have BK516:=n1_;have HB:=n2_;clear n0_ n1_ n2_;(try clear hb);(try clear hb2);(try clear hk);(try clear hi);(try clear ho0)))
             have n0_:=mk_ (rd_ HO521.out)
             have n1_:=mk_ (kd_ BK516.out)
             have n2_:=mk_ (bd_ HB.out)
             clear HO521
             clear BK516
             clear HB
             have HO521:=n0_
             have BK516:=n1_
             have HB:=n2_
             clear n0_ n1_ n2_
             have p522 : 0 ≤ (a1 : Int):=od_ qa_
             have q522 : a1 < (l0_2.length : Int):=od_ qa_
             obtain ⟨ad522,e522,hx522_0⟩:=Kd.at_int HR0_2.out a1 p522 q522
             have hw522_0:=hx522_0
             cases e522
             replace hx522_0:=(HB.out.cell (wl_ w _ hx522_0)).trans hx522_0
             replace p522:=eq_true p522
             replace q522:=eq_true q522
             obtain ⟨Ao31,co31,eo31⟩:=Kd.R_slice HO521.out
             (first|subst eo31|(injection eo31 with f1_ f2_ f3_;have f4_:=f1_.symm;have f5_:=f3_.symm;clear f1_ f2_ f3_;subst f4_;subst f5_))
             have p523 : 0 ≤ ((rd l0_2 a1) : Int):=od_ qa_
             have q523 : (rd l0_2 a1) < (t519.length : Int):=od_ qa_
             obtain ⟨ad523,e523,hx523_0⟩:=Kd.at_int (rr_ HO521.out).2.2 (rd l0_2 a1) p523 q523
             cases e523
             replace p523:=eq_true p523
             replace q523:=eq_true q523
             have p524 : 0 ≤ (a2 : Int):=od_ qa_
             have q524 : a2 < (l0_2.length : Int):=od_ qa_
             obtain ⟨ad524,e524,hx524_0⟩:=Kd.at_int HR0_2.out a2 p524 q524
             have hw524_0:=hx524_0
             obtain rfl : ad522 = ad524:=(by injection e524)
             replace hx524_0:=(HB.out.cell (wl_ w _ hx524_0)).trans hx524_0
             replace p524:=eq_true p524
             replace q524:=eq_true q524
             have p525 : 0 ≤ ((rd l0_2 a2) : Int):=od_ qa_
             have q525 : (rd l0_2 a2) < (t519.length : Int):=od_ qa_
             obtain ⟨ad525,e525,hx525_0⟩:=Kd.at_int (rr_ HO521.out).2.2 (rd l0_2 a2) p525 q525
             obtain rfl : ad523 = ad525:=(by injection e525)
             replace p525:=eq_true p525
             replace q525:=eq_true q525
             refine start_ (n:=17) (S:=fun w' => w'.cell? ⟨gb516,0,none⟩ = some (.int .i64 a0_0) ∧ w'.cell? ⟨gb516,1,none⟩ = some (.slice A0_1 l0_1.length c0_1) ∧ w'.cell? ⟨gb516,2,none⟩ = some (.slice (some ad522) l0_2.length c0_2) ∧ w'.cell? ⟨gb516,3,none⟩ = some (.slice A0_3 l0_3.length c0_3) ∧ w'.cell? (ad522.add (a1).toNat) = some (.int .i64 (rd l0_2 a1)) ∧ w'.cell? (ad523.add ((rd l0_2 a1)).toNat) = some (.int .i64 (rd t519 (rd l0_2 a1))) ∧ w'.cell? (ad522.add (a2).toNat) = some (.int .i64 (rd l0_2 a2)) ∧ w'.cell? (ad523.add ((rd l0_2 a2)).toNat) = some (.int .i64 (rd t519 (rd l0_2 a2)))) (ds:=[]) #[false,false,false,false,false,false,false,false,false,false,false,false,false,false,false,false,false] (by kernel_rfl) rfl rfl ⟨(bc_ BK516.out 0).trans rfl,(bc_ BK516.out 1).trans rfl,(bc_ BK516.out 2).trans rfl,(bc_ BK516.out 3).trans rfl,((HB.out.cell (wl_ w _ hw522_0)).trans hw522_0),hx523_0,((HB.out.cell (wl_ w _ hw524_0)).trans hw524_0),hx525_0⟩ (fun hHeld => ?_);refine with_tabW impl_TreeWay.tab4 impl_TreeWay.bits4 (fun HT_ HW_ => ?_)
             generalize w29.drew = w30 at HO521 BK516 HB hx522_0 hx523_0 hx524_0 hx525_0 hHeld ⊢
             refine pu_ (i:=0) (N:=some 30) 17 1 ?_
             refine pu_ (i:=1) (N:=some 31) 17 3 ?_
             refine pu_ (i:=3) (N:=some 33) 17 11 ?_
             refine pu_ (i:=8) (N:=some 38) 17 267 ?_
             refine pu_ (i:=9) (N:=some 39) 17 779 ?_
             refine pu_ (i:=11) (N:=some 41) 17 2827 ?_
             refine ta8_ (i:=2) (N:=some 32) 17 2831 hHeld ?_
             refine pu_ (i:=4) (N:=some 34) 17 2847 ?_
             refine ta8_ (i:=5) (N:=some 35) 17 2879 hHeld ?_
             refine pu_ (i:=6) (N:=some 36) 17 2943 ?_
             refine ta8_ (i:=7) (N:=some 37) 17 3071 hHeld ?_
             refine ta8_ (i:=10) (N:=some 40) 17 4095 hHeld ?_
             refine pu_ (i:=12) (N:=some 42) 17 8191 ?_
             refine ta8_ (i:=13) (N:=some 43) 17 16383 hHeld ?_
             refine pu_ (i:=14) (N:=some 44) 17 32767 ?_
             refine ta8_ (i:=15) (N:=some 45) 17 65535 hHeld ?_
             refine pu_ (i:=16) (N:=some 46) 17 131071 ?_
             refine done_ (done_of HT_.out (by kernel_rfl)) ?_
             try go_wp2
             have n0_:=mk_ (rd_ HO521.out)
             have n1_:=mk_ (kd_ BK516.out)
             have n2_:=mk_ (bd_ HB.out)
             clear HO521
             clear BK516
             clear HB
             have HO521:=n0_
             have BK516:=n1_
             have HB:=n2_
             clear n0_ n1_ n2_
             have p526 : 0 ≤ (a1 : Int):=od_ qa_
             have q526 : a1 < (l0_2.length : Int):=od_ qa_
             obtain ⟨ad526,e526,hx526_0⟩:=Kd.at_int HR0_2.out a1 p526 q526
             have hw526_0:=hx526_0
             obtain rfl : ad522 = ad526:=(by injection e526)
             replace hx526_0:=(HB.out.cell (wl_ w _ hx526_0)).trans hx526_0
             replace p526:=eq_true p526
             replace q526:=eq_true q526
             have p530 : 0 ≤ (a2 : Int):=od_ qa_
             have q530 : a2 < (l0_2.length : Int):=od_ qa_
             obtain ⟨ad530,e530,hx530_0⟩:=Kd.at_int HR0_2.out a2 p530 q530
             have hw530_0:=hx530_0
             obtain rfl : ad522 = ad530:=(by injection e530)
             replace hx530_0:=(HB.out.cell (wl_ w _ hx530_0)).trans hx530_0
             replace p530:=eq_true p530
             replace q530:=eq_true q530
             refine start_ (n:=16) (S:=fun w' => w'.cell? ⟨gb516,0,none⟩ = some (.int .i64 a0_0) ∧ w'.cell? ⟨gb516,1,none⟩ = some (.slice A0_1 l0_1.length c0_1) ∧ w'.cell? ⟨gb516,2,none⟩ = some (.slice (some ad522) l0_2.length c0_2) ∧ w'.cell? ⟨gb516,3,none⟩ = some (.slice A0_3 l0_3.length c0_3) ∧ w'.cell? (ad522.add (a1).toNat) = some (.int .i64 (rd l0_2 a1)) ∧ w'.cell? (ad522.add (a2).toNat) = some (.int .i64 (rd l0_2 a2))) (ds:=[]) #[false,false,false,false,false,false,false,false,false,false,false,false,false,false,false,false] (by kernel_rfl) rfl rfl ⟨(bc_ BK516.out 0).trans rfl,(bc_ BK516.out 1).trans rfl,(bc_ BK516.out 2).trans rfl,(bc_ BK516.out 3).trans rfl,((HB.out.cell (wl_ w _ hw526_0)).trans hw526_0),((HB.out.cell (wl_ w _ hw530_0)).trans hw530_0)⟩ (fun hHeld => ?_);refine with_tabW impl_TreeWay.tab6 impl_TreeWay.bits6 (fun HT_ HW_ => ?_)
             generalize w30.drew = w32 at HO521 BK516 HB hx526_0 hx530_0 hHeld ⊢
             refine pu_ (i:=1) (N:=some 48) 16 2 ?_
             refine pu_ (i:=3) (N:=some 50) 16 10 ?_
             refine pu_ (i:=8) (N:=some 55) 16 266 ?_
             refine pu_ (i:=10) (N:=some 57) 16 1290 ?_
             refine ta6_ (i:=0) (N:=some 47) 16 1291 hHeld ?_
             refine ta6_ (i:=2) (N:=some 49) 16 1295 hHeld ?_
             refine pu_ (i:=4) (N:=some 51) 16 1311 ?_
             refine ta6_ (i:=5) (N:=some 52) 16 1343 hHeld ?_
             refine ta6_ (i:=7) (N:=some 54) 16 1471 hHeld ?_
             refine ta6_ (i:=9) (N:=some 56) 16 1983 hHeld ?_
             refine pu_ (i:=11) (N:=some 58) 16 4031 ?_
             refine ta6_ (i:=12) (N:=some 59) 16 8127 hHeld ?_
             refine on_ (i:=6) (N:=some 53) 16 8191 (fun K hK => ?_)
             refine goes_ Try.func44 (by kernel_rfl) rfl #[.agg #[.int .i64 a0_0,.slice A0_1 l0_1.length c0_1,.slice (some ad522) l0_2.length c0_2,.slice A0_3 l0_3.length c0_3],.int .i64 (rd l0_2 a1)] (by rfl) rfl rfl qm_ ?_
             with_reducible refine (impl_Net_ups.calls kj3 a0_0 _ _ l0_1 _ _ l0_2 _ _ l0_3 (rd l0_2 a1) t527 _ ?side1 ?side2 ?side3 ?side4 ?side5 ?side6 A26.out).mono ?_
             (case side1 => exact qn_ HR0_1 HB)
             (case side2 => exact HC0_1.out)
             (case side3 => exact qn_ HR0_2 HB)
             (case side4 => exact HC0_2.out)
             (case side5 => exact qn_ HR0_3 HB)
             (case side6 => exact HC0_3.out)
             rintro e w33 ⟨v528,rfl,ho0,hb⟩
             refine ⟨_,rfl,?_⟩
             have n0_:=mk_ (re_ (qr_ HO521) (Kd.R_base ho0) hb)
             have n1_:=mk_ (Kd.R_lower (Kd.R_new' ho0 (Kd.R_lt (qr_ HO521))) (bz_ (qc_ HB GE516)))
             have n2_:=mk_ (blk_below (g:=gb516) (o:=.cells #[.int .i64 a0_0,.slice A0_1 l0_1.length c0_1,.slice (some ad522) l0_2.length c0_2,.slice A0_3 l0_3.length c0_3] 26 (0,0)) (qk_ BK516) hb)
             have n3_:=mk_ (st_ (qc_ HB GE516) hb)
             clear HO521
             clear BK516
             clear HB
             have HO521:=n0_
             have HO529:=n1_
             have BK516:=n2_
             have HB:=n3_
             clear n0_ n1_ n2_ n3_
             (try clear hb)
             (try clear hb2)
             (try clear hk)
             (try clear hi)
             (try clear ho0)
             refine hK.out _ _ ⟨(bc_ BK516.out 0).trans rfl,(bc_ BK516.out 1).trans rfl,(bc_ BK516.out 2).trans rfl,(bc_ BK516.out 3).trans rfl,((HB.out.cell (wl_ w _ hw526_0)).trans hw526_0),((HB.out.cell (wl_ w _ hw530_0)).trans hw530_0)⟩ (fun hHeld => ?_)
             clear hK K
             refine norm_ (a':=?_) ?_ ?_
             rotate_left
             ·show Act.put _ (some 53) _ = _
              simp only [Act.put,sx_,sy_,sz_,i64_w,i32_w]
              rfl
             refine on_ (i:=13) (N:=some 60) 16 16383 (fun K hK => ?_)
             refine goes_ Try.func44 (by kernel_rfl) rfl #[.agg #[.int .i64 a0_0,.slice A0_1 l0_1.length c0_1,.slice (some ad522) l0_2.length c0_2,.slice A0_3 l0_3.length c0_3],.int .i64 (rd l0_2 a2)] (by rfl) rfl rfl qm_ ?_
             with_reducible refine (impl_Net_ups.calls kj3 a0_0 _ _ l0_1 _ _ l0_2 _ _ l0_3 (rd l0_2 a2) t531 _ ?side1 ?side2 ?side3 ?side4 ?side5 ?side6 A27.out).mono ?_
             (case side1 => exact qn_ HR0_1 HB)
             (case side2 => exact HC0_1.out)
             (case side3 => exact qn_ HR0_2 HB)
             (case side4 => exact HC0_2.out)
             (case side5 => exact qn_ HR0_3 HB)
             (case side6 => exact HC0_3.out)
             rintro e w34 ⟨v532,rfl,ho0,hb⟩
             refine ⟨_,rfl,?_⟩
             have n0_:=mk_ (re_ (qr_ HO521) (Kd.R_base ho0) hb)
             have n1_:=mk_ (re_ (qr_ HO529) (Kd.R_base ho0) hb)
             have n2_:=mk_ (Kd.R_lower (Kd.R_new' (Kd.R_new' ho0 (Kd.R_lt (qr_ HO521))) (Kd.R_lt (qr_ HO529))) (bz_ (qc_ HB GE516)))
             have n3_:=mk_ (blk_below (g:=gb516) (o:=.cells #[.int .i64 a0_0,.slice A0_1 l0_1.length c0_1,.slice (some ad522) l0_2.length c0_2,.slice A0_3 l0_3.length c0_3] 26 (0,0)) (qk_ BK516) hb)
             have n4_:=mk_ (st_ (qc_ HB GE516) hb)
             clear HO521
             clear HO529
             clear BK516
             clear HB
             have HO521:=n0_
             have HO529:=n1_
             have HO533:=n2_
             have BK516:=n3_
             have HB:=n4_
             clear n0_ n1_ n2_ n3_ n4_
             (try clear hb)
             (try clear hb2)
             (try clear hk)
             (try clear hi)
             (try clear ho0)
             refine hK.out _ _ ⟨(bc_ BK516.out 0).trans rfl,(bc_ BK516.out 1).trans rfl,(bc_ BK516.out 2).trans rfl,(bc_ BK516.out 3).trans rfl,((HB.out.cell (wl_ w _ hw526_0)).trans hw526_0),((HB.out.cell (wl_ w _ hw530_0)).trans hw530_0)⟩ (fun hHeld => ?_)
             clear hK K
             refine norm_ (a':=?_) ?_ ?_
             rotate_left
             ·show Act.put _ (some 60) _ = _
              simp only [Act.put,sx_,sy_,sz_,i64_w,i32_w]
              rfl
             refine pu_ (i:=14) (N:=some 8) 16 32767 ?_
             refine pu_ (i:=15) (N:=some 9) 16 65535 ?_
             refine done_ (done_of HT_.out (by kernel_rfl)) ?_
             obtain ⟨Ao35,co35,eo35⟩:=Kd.R_slice HO529.out
             subst eo35
             try go_wp2
             go_loopg [10,63] kj3 (fun kq v10 v63 w' => ∃ (x10_2 : List Int) (x63_2 : Int),v63 = .int .i64 x63_2 ∧ Aside0 (impl_TreeWay.l0 kq t527 t531 x10_2 t527 (t527.length : Int) x63_2 = some r) ∧ Aside0 (kq ≤ kj3) ∧ Aside0 (Kd.R (Kd.int .i64) 3 w' w.heap.size (fun k_ => some k_ ≠ (v532 : Value).ownBlock ∧ some k_ ≠ (v10 : Value).ownBlock) (.slice Ao35 t527.length co35) t527) ∧ Aside0 (Kd.R (Kd.int .i64) 3 w' w.heap.size (fun k_ => some k_ ≠ ((.slice Ao35 t527.length co35) : Value).ownBlock ∧ some k_ ≠ (v10 : Value).ownBlock ∧ some k_ ≠ ((.slice Ao35 t527.length co35) : Value).ownBlock) v532 t531) ∧ Aside0 (Kd.R (Kd.int .i64) 3 w' w.heap.size (fun k_ => some k_ ≠ ((.slice Ao35 t527.length co35) : Value).ownBlock ∧ some k_ ≠ (v532 : Value).ownBlock ∧ some k_ ≠ ((.slice Ao35 t527.length co35) : Value).ownBlock) v10 x10_2) ∧ Aside0 (Kd.R (Kd.int .i64) 3 w' w.heap.size (fun k_ => some k_ ≠ (v532 : Value).ownBlock ∧ some k_ ≠ (v10 : Value).ownBlock) (.slice Ao35 t527.length co35) t527) ∧ Aside0 (w'.heap[gb516]? = some (.cells #[.int .i64 a0_0,(.slice A0_1 l0_1.length c0_1),(.slice (some ad522) l0_2.length c0_2),(.slice A0_3 l0_3.length c0_3)] 26 (0,0))) ∧ Aside0 (Below w.heap.size w w'))
             case atStart => exact ⟨(([] : List Int)),(0),qf_,H',⟨Nat.le_refl _⟩,⟨by (with_reducible repeat (first|apply ra_|apply rn_|apply rd_));exact rm_ HO529.out (fun _ hk => ⟨hk.2,(by simp [Value.ownBlock])⟩)⟩,⟨by (with_reducible repeat (first|apply ra_|apply rn_|apply rd_));exact rm_ HO533.out (fun _ hk => ⟨hk.2,⟨(by simp [Value.ownBlock]),hk.2⟩⟩)⟩,⟨by first|exact Kd.R_nil _ _ _ _ _|exact Kd.N_nil _ _ _ _ _|exact Kd.V_nil _ _ _ _ _|exact Kd.Q_nil _ _ _ _ _|exact Kd.S_nil _ _ _ _ _⟩,⟨by (with_reducible repeat (first|apply ra_|apply rn_|apply rd_));exact rm_ HO529.out (fun _ hk => ⟨hk.2,(by simp [Value.ownBlock])⟩)⟩,⟨qk_ BK516⟩,⟨u0_ HB GE516⟩⟩
             case round =>
              clear H'
              try clear c1
              try clear c2
              try clear p2
              try clear c3
              try clear c4
              try clear p5
              try clear q5
              try clear hx5
              try clear c7
              try clear c15
              try clear c17
              try clear c17b0
              try clear c18
              try clear c18b0
              try clear c19
              try clear c19b0
              try clear c20
              try clear c20b0
              try clear c21
              try clear c21b0
              try clear c22
              try clear c22b0
              try clear c23
              try clear c23b0
              try clear c24
              try clear c24b0
              try clear c25
              try clear c25b0
              try clear c25b1
              try clear c34
              try clear hcz11_0
              try clear hcz11_1
              try clear hcz11_2
              try clear hcz11_3
              try clear hcz13_0
              try clear hcz13_1
              try clear hcz13_2
              try clear hcz13_3
              try clear hcz28_0
              try clear hcz28_1
              try clear hcz28_2
              try clear hcz28_3
              try clear hcz9_0
              try clear hcz9_1
              try clear hcz9_2
              try clear hcz9_3
              try clear hfz11_0
              try clear hfz11_1
              try clear hfz11_2
              try clear hfz11_3
              try clear hfz13_0
              try clear hfz13_1
              try clear hfz13_2
              try clear hfz13_3
              try clear hfz28_0
              try clear hfz28_1
              try clear hfz28_2
              try clear hfz28_3
              try clear hfz9_0
              try clear hfz9_1
              try clear hfz9_2
              try clear hfz9_3
              try clear hx522_0
              try clear hx523_0
              try clear hx524_0
              try clear hx525_0
              try clear hx526_0
              try clear hx530_0
              try clear p2
              try clear p522
              try clear p523
              try clear p524
              try clear p525
              try clear p526
              try clear p530
              try clear q522
              try clear q523
              try clear q524
              try clear q525
              try clear q526
              try clear q530
              obtain ⟨x10_2,x63_2,rfl,HA,HK2,HO_8,HO_9,HO_10,HO_61,BK516,HB⟩:=hrel
              cases gk with
              | zero => exact absurd HA.out (by simp [impl_TreeWay.l0])
              | succ k2 =>
               have H:=HA.out
               clear HA
               simp only [impl_TreeWay.l0] at H
               by_cases c36 : x63_2 < (t527.length : Int)
               ·rw [if_pos c36] at H
                have c36b0 : decide (x63_2 < (t527.length : Int)) = true:=decide_eq_true c36
                clear c36
                by_cases c37 : 0 ≤ x63_2
                ·rw [if_pos c37] at H
                 have c37b0 : decide (0 ≤ x63_2) = true:=decide_eq_true c37
                 clear c37
                 by_cases c38 : x63_2 < (t527.length : Int)
                 ·rw [if_pos c38] at H
                  have c38b0 : decide (x63_2 < (t527.length : Int)) = true:=decide_eq_true c38
                  clear c38
                  replace H:=Option.bind_eq_some_iff.mp H
                  obtain ⟨t535,A390,H⟩:=H
                  replace H : (if t535 = true then (impl_TreeWay.l0 k2 t527 t531 x10_2 t527 (t527.length : Int) (wrap64 (x63_2 + 1))) else (if x10_2.length < 17592186044416 then (impl_TreeWay.l0 k2 t527 t531 (x10_2 ++ [rd t527 x63_2]) t527 (t527.length : Int) (wrap64 (x63_2 + 1))) else (none))) = some r:=H
                  have A39:=mk_ A390
                  clear A390
                  by_cases c40 : t535 = true
                  ·subst c40
                   have H1 : (impl_TreeWay.l0 k2 t527 t531 x10_2 t527 (t527.length : Int) (wrap64 (x63_2 + 1))) = some r:=by rw [if_pos rfl] at H;exact H
                   clear H
                   have H:=H1
                   clear H1
                   have H':=mk_ H
                   clear H
                   have p534 : 0 ≤ (x63_2 : Int):=od_ qa_
                   have q534 : x63_2 < (t527.length : Int):=od_ qa_
                   obtain ⟨ad534,e534,hx534_0⟩:=Kd.at_int (rr_ HO_61.out).2.2 x63_2 p534 q534
                   cases e534
                   replace p534:=eq_true p534
                   replace q534:=eq_true q534
                   obtain ⟨Ao41,co41,eo41⟩:=Kd.R_slice HO_9.out
                   subst eo41
                   go_wp2_with (first|((with_reducible refine gate_callee (f:=45) rfl ?_);refine goesL_ (some 69) rfl rfl Try.func45 (by kernel_rfl) rfl #[.slice Ao41 t531.length co41,.int .i64 (rd t527 x63_2)] rfl qm_ ?_;(with_reducible refine (slices_Contains_int_int.calls k2 _ _ t531 (rd t527 x63_2) true _ ?side1 ?side2 A39.out).mono ?_);(case side1 => repeat (first|exact (rr_ HO_9.out).2.2|(with_reducible refine ca_ ?_ _)|(with_reducible refine cn_ ?_ _)|(with_reducible refine cd_ ?_)));(case side2 => exact (rr_ HO_9.out).2.1);rintro e w' ⟨rfl,⟨nd,rfl⟩⟩;refine ⟨_,rfl,?_⟩))
                   go_roundg k2
                   case measure => have:=HJ3.out;have:=HK2.out;omega
                   case rel => exact ⟨(x10_2),(wrap64 (x63_2 + 1)),qf_,H',⟨by have:=HJ3.out;have:=HK2.out;omega⟩,⟨qr_ HO_8⟩,⟨qr_ HO_9⟩,⟨qr_ HO_10⟩,⟨qr_ HO_61⟩,⟨qk_ BK516⟩,⟨u0_ HB GE516⟩⟩
                  ·replace c40:=Bool.eq_false_iff.mpr c40
                   subst c40
                   have H1 : (if x10_2.length < 17592186044416 then (impl_TreeWay.l0 k2 t527 t531 (x10_2 ++ [rd t527 x63_2]) t527 (t527.length : Int) (wrap64 (x63_2 + 1))) else (none)) = some r:=by rw [if_neg (show ¬ (false = true) by decide)] at H;exact H
                   clear H
                   have H:=H1
                   clear H1
                   by_cases c42 : x10_2.length < 17592186044416
                   ·rw [if_pos c42] at H
                    have LMc42:=mk_ c42
                    clear c42
                    obtain ⟨y536,hy536⟩ : ∃ y_ : List Int,y_ = (x10_2 ++ [rd t527 x63_2]):=⟨_,rfl⟩
                    replace H : (impl_TreeWay.l0 k2 t527 t531 y536 t527 (t527.length : Int) (wrap64 (x63_2 + 1))) = some r:=by first|(rw [hy536];with_reducible exact H)|(have H2_:=(Option.bind_some _ _).symm.trans H;rw [hy536];with_reducible exact H2_)|(have H2_:=(Option.bind_some _ _).symm.trans H;with_reducible exact H2_)|with_reducible exact H|(rw [hy536];exact H)|exact H
                    have Ny536:=mk_ hy536
                    clear hy536
                    have H':=mk_ H
                    clear H
                    have p534 : 0 ≤ (x63_2 : Int):=od_ qa_
                    have q534 : x63_2 < (t527.length : Int):=od_ qa_
                    obtain ⟨ad534,e534,hx534_0⟩:=Kd.at_int (rr_ HO_61.out).2.2 x63_2 p534 q534
                    cases e534
                    replace p534:=eq_true p534
                    replace q534:=eq_true q534
                    obtain ⟨Ao43,co43,eo43⟩:=Kd.R_slice HO_9.out
                    subst eo43
                    go_wp2_with (first|((with_reducible refine gate_callee (f:=45) rfl ?_);refine goesL_ (some 69) rfl rfl Try.func45 (by kernel_rfl) rfl #[.slice Ao43 t531.length co43,.int .i64 (rd t527 x63_2)] rfl qm_ ?_;(with_reducible refine (slices_Contains_int_int.calls k2 _ _ t531 (rd t527 x63_2) false _ ?side1 ?side2 A39.out).mono ?_);(case side1 => repeat (first|exact (rr_ HO_9.out).2.2|(with_reducible refine ca_ ?_ _)|(with_reducible refine cn_ ?_ _)|(with_reducible refine cd_ ?_)));(case side2 => exact (rr_ HO_9.out).2.1);rintro e w' ⟨rfl,⟨nd,rfl⟩⟩;refine ⟨_,rfl,?_⟩)|((with_reducible refine gate_builtin (b:=.append) (xs:=#[.tmp 71,.tmp 73]) rfl ?_);at_builtin;refine Kd.R_append (Kd.int .i64) (w0:=w) w.heap.size rfl (.tmp 71) (.tmp 73) 24 3 (.int .i64 0) 8 rfl Try.underlying24 info3 rfl (by decide) (by omega) u10 x10_2 (rd t527 x63_2) [.int .i64 (rd t527 x63_2)] (fun k_ => some k_ ≠ (.slice (some ad534) t527.length co35 : Value).ownBlock ∧ some k_ ≠ (.slice Ao43 t531.length co43 : Value).ownBlock ∧ some k_ ≠ (.slice (some ad534) t527.length co35 : Value).ownBlock) (fun _ => False) rfl rfl ?aP (fun _ hk => hk.elim) ?aF ?aO ?aB ?aS ?aL ?_;(case aP => exact rfl);(case aB => exact (qc_ HB GE516));(case aF => exact (fun k_ hk => ⟨Kd.fresh' (Kd.R_lt (qr_ HO_8)) k_ hk,Kd.fresh' (Kd.R_lt (qr_ HO_9)) k_ hk,Kd.fresh' (Kd.R_lt (qr_ HO_61)) k_ hk⟩));(case aO => exact (qr_ HO_10));(case aS => exact (bz_ (qc_ HB GE516)));(case aL => have:=LMc42.out;omega);intro v537 w44 ho hb hg hat;rw [← Ny536.out] at ho;have n0_:=mk_ (Kd.R_after (ok:=(fun k_ => some k_ ≠ (.slice Ao43 t531.length co43 : Value).ownBlock)) (qr_ HO_8) hg hat);have n1_:=mk_ (Kd.R_after (ok:=(fun k_ => some k_ ≠ (.slice (some ad534) t527.length co35 : Value).ownBlock ∧ some k_ ≠ (.slice (some ad534) t527.length co35 : Value).ownBlock)) (by (with_reducible repeat (first|apply ra_|apply rn_|apply rd_));exact rm_ HO_9.out (fun _ hk => ⟨⟨hk.1,hk.2.2⟩,hk.2.1⟩)) hg hat);have n2_:=mk_ (Kd.R_after (ok:=(fun k_ => some k_ ≠ (.slice Ao43 t531.length co43 : Value).ownBlock)) (qr_ HO_61) hg hat);have n3_:=mk_ (blk_grown (g:=gb516) (o:=.cells #[.int .i64 a0_0,.slice A0_1 l0_1.length c0_1,.slice (some ad522) l0_2.length c0_2,.slice A0_3 l0_3.length c0_3] 26 (0,0)) (qk_ BK516) hg (Kd.R_ne HO_10.out BK516.out (by decide)));have n4_:=mk_ (hb);have n5_:=mk_ (ho);clear HO_8 HO_9 HO_61 BK516 HB HO_10;have HO_8:=n0_;have HO_9:=n1_;have HO_61:=n2_;have BK516:=n3_;have HB:=n4_;have HO538:=n5_;clear n0_ n1_ n2_ n3_ n4_ n5_ ho hb hg hat))
                    go_roundg k2
                    case measure => have:=HJ3.out;have:=HK2.out;omega
                    case rel => exact ⟨(y536),(wrap64 (x63_2 + 1)),qf_,H',⟨by have:=HJ3.out;have:=HK2.out;omega⟩,⟨qr_ HO_8⟩,⟨by (with_reducible repeat (first|apply ra_|apply rn_|apply rd_));exact rm_ HO_9.out (fun _ hk => ⟨hk.1.1,⟨hk.2,hk.1.2⟩⟩)⟩,⟨qr_ HO538⟩,⟨qr_ HO_61⟩,⟨qk_ BK516⟩,⟨u0_ HB GE516⟩⟩
                   ·rw [if_neg c42] at H
                    exact absurd H (by simp)
                 ·rw [if_neg c38] at H
                  exact absurd H (by simp)
                ·rw [if_neg c37] at H
                 exact absurd H (by simp)
               ·rw [if_neg c36] at H
                have c36b0 : decide (x63_2 < (t527.length : Int)) = false:=decide_eq_false c36
                clear c36
                have H':=mk_ H
                clear H
                obtain ⟨Ao45,co45,eo45⟩:=Kd.R_slice HO_9.out
                subst eo45
                go_wp2
                go_loopg [10,78] k2 (fun kq v10 v78 w' => ∃ (x10_3 : List Int) (x78_3 : Int),v78 = .int .i64 x78_3 ∧ Aside0 (impl_TreeWay.l1 kq t527 x10_3 t531 (t531.length : Int) x78_3 = some r) ∧ Aside0 (kq ≤ k2) ∧ Aside0 (Kd.R (Kd.int .i64) 3 w' w.heap.size (fun k_ => some k_ ≠ (v10 : Value).ownBlock ∧ some k_ ≠ ((.slice Ao45 t531.length co45) : Value).ownBlock) (.slice Ao35 t527.length co35) t527) ∧ Aside0 (Kd.R (Kd.int .i64) 3 w' w.heap.size (fun k_ => some k_ ≠ ((.slice Ao35 t527.length co35) : Value).ownBlock ∧ some k_ ≠ ((.slice Ao45 t531.length co45) : Value).ownBlock) v10 x10_3) ∧ Aside0 (Kd.R (Kd.int .i64) 3 w' w.heap.size (fun k_ => some k_ ≠ ((.slice Ao35 t527.length co35) : Value).ownBlock ∧ some k_ ≠ (v10 : Value).ownBlock) (.slice Ao45 t531.length co45) t531) ∧ Aside0 (w'.heap[gb516]? = some (.cells #[.int .i64 a0_0,(.slice A0_1 l0_1.length c0_1),(.slice (some ad522) l0_2.length c0_2),(.slice A0_3 l0_3.length c0_3)] 26 (0,0))) ∧ Aside0 (Below w.heap.size w w'))
                case atStart => exact ⟨(x10_2),(0),qf_,H',⟨Nat.le_refl _⟩,⟨by (with_reducible repeat (first|apply ra_|apply rn_|apply rd_));exact rm_ HO_8.out (fun _ hk => ⟨hk.2,hk.1⟩)⟩,⟨by (with_reducible repeat (first|apply ra_|apply rn_|apply rd_));exact rm_ HO_10.out (fun _ hk => ⟨hk.1,hk.2.1⟩)⟩,⟨by (with_reducible repeat (first|apply ra_|apply rn_|apply rd_));exact rm_ HO_9.out (fun _ hk => ⟨hk.1,hk.2.1⟩)⟩,⟨qk_ BK516⟩,⟨u0_ HB GE516⟩⟩
                case round =>
                 clear H'
                 try clear c1
                 try clear c2
                 try clear p2
                 try clear c3
                 try clear c4
                 try clear p5
                 try clear q5
                 try clear hx5
                 try clear p6
                 try clear c7
                 try clear c15
                 try clear c17
                 try clear c17b0
                 try clear c18
                 try clear c18b0
                 try clear c19
                 try clear c19b0
                 try clear c20
                 try clear c20b0
                 try clear c21
                 try clear c21b0
                 try clear c22
                 try clear c22b0
                 try clear c23
                 try clear c23b0
                 try clear c24
                 try clear c24b0
                 try clear c25
                 try clear c25b0
                 try clear c25b1
                 try clear c34
                 try clear c36
                 try clear c36b0
                 try clear c37
                 try clear c37b0
                 try clear c38
                 try clear c38b0
                 try clear c40
                 try clear c42
                 try clear c43
                 try clear c44
                 try clear c45
                 try clear hcz11_0
                 try clear hcz11_1
                 try clear hcz11_2
                 try clear hcz11_3
                 try clear hcz13_0
                 try clear hcz13_1
                 try clear hcz13_2
                 try clear hcz13_3
                 try clear hcz28_0
                 try clear hcz28_1
                 try clear hcz28_2
                 try clear hcz28_3
                 try clear hcz9_0
                 try clear hcz9_1
                 try clear hcz9_2
                 try clear hcz9_3
                 try clear hfz11_0
                 try clear hfz11_1
                 try clear hfz11_2
                 try clear hfz11_3
                 try clear hfz13_0
                 try clear hfz13_1
                 try clear hfz13_2
                 try clear hfz13_3
                 try clear hfz28_0
                 try clear hfz28_1
                 try clear hfz28_2
                 try clear hfz28_3
                 try clear hfz9_0
                 try clear hfz9_1
                 try clear hfz9_2
                 try clear hfz9_3
                 try clear hx522_0
                 try clear hx523_0
                 try clear hx524_0
                 try clear hx525_0
                 try clear hx526_0
                 try clear hx530_0
                 try clear hx534_0
                 try clear p2
                 try clear p5
                 try clear p522
                 try clear p523
                 try clear p524
                 try clear p525
                 try clear p526
                 try clear p530
                 try clear p534
                 try clear q5
                 try clear q522
                 try clear q523
                 try clear q524
                 try clear q525
                 try clear q526
                 try clear q530
                 try clear q534
                 obtain ⟨x10_3,x78_3,rfl,HA,HK3,HO_8,HO_10,HO_76,BK516,HB⟩:=hrel
                 cases gk with
                 | zero => exact absurd HA.out (by simp [impl_TreeWay.l1])
                 | succ k3 =>
                  have H:=HA.out
                  clear HA
                  simp only [impl_TreeWay.l1] at H
                  by_cases c46 : x78_3 < (t531.length : Int)
                  ·rw [if_pos c46] at H
                   have c46b0 : decide (x78_3 < (t531.length : Int)) = true:=decide_eq_true c46
                   clear c46
                   by_cases c47 : 0 ≤ x78_3
                   ·rw [if_pos c47] at H
                    have c47b0 : decide (0 ≤ x78_3) = true:=decide_eq_true c47
                    clear c47
                    by_cases c48 : x78_3 < (t531.length : Int)
                    ·rw [if_pos c48] at H
                     have c48b0 : decide (x78_3 < (t531.length : Int)) = true:=decide_eq_true c48
                     clear c48
                     replace H:=Option.bind_eq_some_iff.mp H
                     obtain ⟨t540,A490,H⟩:=H
                     replace H : (if t540 = true then (impl_TreeWay.l1 k3 t527 x10_3 t531 (t531.length : Int) (wrap64 (x78_3 + 1))) else (if x10_3.length < 17592186044416 then (impl_TreeWay.l1 k3 t527 (x10_3 ++ [rd t531 x78_3]) t531 (t531.length : Int) (wrap64 (x78_3 + 1))) else (none))) = some r:=H
                     have A49:=mk_ A490
                     clear A490
                     by_cases c50 : t540 = true
                     ·subst c50
                      have H1 : (impl_TreeWay.l1 k3 t527 x10_3 t531 (t531.length : Int) (wrap64 (x78_3 + 1))) = some r:=by rw [if_pos rfl] at H;exact H
                      clear H
                      have H:=H1
                      clear H1
                      have H':=mk_ H
                      clear H
                      have p539 : 0 ≤ (x78_3 : Int):=od_ qa_
                      have q539 : x78_3 < (t531.length : Int):=od_ qa_
                      obtain ⟨ad539,e539,hx539_0⟩:=Kd.at_int (rr_ HO_76.out).2.2 x78_3 p539 q539
                      cases e539
                      replace p539:=eq_true p539
                      replace q539:=eq_true q539
                      go_wp2_with (first|((with_reducible refine gate_callee (f:=45) rfl ?_);refine goesL_ (some 84) rfl rfl Try.func45 (by kernel_rfl) rfl #[.slice Ao35 t527.length co35,.int .i64 (rd t531 x78_3)] rfl qm_ ?_;(with_reducible refine (slices_Contains_int_int.calls k3 _ _ t527 (rd t531 x78_3) true _ ?side1 ?side2 A49.out).mono ?_);(case side1 => repeat (first|exact (rr_ HO_8.out).2.2|(with_reducible refine ca_ ?_ _)|(with_reducible refine cn_ ?_ _)|(with_reducible refine cd_ ?_)));(case side2 => exact (rr_ HO_8.out).2.1);rintro e w' ⟨rfl,⟨nd,rfl⟩⟩;refine ⟨_,rfl,?_⟩))
                      go_roundg k3
                      case measure => have:=HJ3.out;have:=HK2.out;have:=HK3.out;omega
                      case rel => exact ⟨(x10_3),(wrap64 (x78_3 + 1)),qf_,H',⟨by have:=HJ3.out;have:=HK2.out;have:=HK3.out;omega⟩,⟨qr_ HO_8⟩,⟨qr_ HO_10⟩,⟨qr_ HO_76⟩,⟨qk_ BK516⟩,⟨u0_ HB GE516⟩⟩
                     ·replace c50:=Bool.eq_false_iff.mpr c50
                      subst c50
                      have H1 : (if x10_3.length < 17592186044416 then (impl_TreeWay.l1 k3 t527 (x10_3 ++ [rd t531 x78_3]) t531 (t531.length : Int) (wrap64 (x78_3 + 1))) else (none)) = some r:=by rw [if_neg (show ¬ (false = true) by decide)] at H;exact H
                      clear H
                      have H:=H1
                      clear H1
                      by_cases c51 : x10_3.length < 17592186044416
                      ·rw [if_pos c51] at H
                       have LMc51:=mk_ c51
                       clear c51
                       obtain ⟨y541,hy541⟩ : ∃ y_ : List Int,y_ = (x10_3 ++ [rd t531 x78_3]):=⟨_,rfl⟩
                       replace H : (impl_TreeWay.l1 k3 t527 y541 t531 (t531.length : Int) (wrap64 (x78_3 + 1))) = some r:=by first|(rw [hy541];with_reducible exact H)|(have H2_:=(Option.bind_some _ _).symm.trans H;rw [hy541];with_reducible exact H2_)|(have H2_:=(Option.bind_some _ _).symm.trans H;with_reducible exact H2_)|with_reducible exact H|(rw [hy541];exact H)|exact H
                       have Ny541:=mk_ hy541
                       clear hy541
                       have H':=mk_ H
                       clear H
                       have p539 : 0 ≤ (x78_3 : Int):=od_ qa_
                       have q539 : x78_3 < (t531.length : Int):=od_ qa_
                       obtain ⟨ad539,e539,hx539_0⟩:=Kd.at_int (rr_ HO_76.out).2.2 x78_3 p539 q539
                       cases e539
                       replace p539:=eq_true p539
                       replace q539:=eq_true q539
                       go_wp2_with (first|((with_reducible refine gate_callee (f:=45) rfl ?_);refine goesL_ (some 84) rfl rfl Try.func45 (by kernel_rfl) rfl #[.slice Ao35 t527.length co35,.int .i64 (rd t531 x78_3)] rfl qm_ ?_;(with_reducible refine (slices_Contains_int_int.calls k3 _ _ t527 (rd t531 x78_3) false _ ?side1 ?side2 A49.out).mono ?_);(case side1 => repeat (first|exact (rr_ HO_8.out).2.2|(with_reducible refine ca_ ?_ _)|(with_reducible refine cn_ ?_ _)|(with_reducible refine cd_ ?_)));(case side2 => exact (rr_ HO_8.out).2.1);rintro e w' ⟨rfl,⟨nd,rfl⟩⟩;refine ⟨_,rfl,?_⟩)|((with_reducible refine gate_builtin (b:=.append) (xs:=#[.tmp 86,.tmp 88]) rfl ?_);at_builtin;refine Kd.R_append (Kd.int .i64) (w0:=w) w.heap.size rfl (.tmp 86) (.tmp 88) 24 3 (.int .i64 0) 8 rfl Try.underlying24 info3 rfl (by decide) (by omega) u10 x10_3 (rd t531 x78_3) [.int .i64 (rd t531 x78_3)] (fun k_ => some k_ ≠ (.slice Ao35 t527.length co35 : Value).ownBlock ∧ some k_ ≠ (.slice (some ad539) t531.length co45 : Value).ownBlock) (fun _ => False) rfl rfl ?aP (fun _ hk => hk.elim) ?aF ?aO ?aB ?aS ?aL ?_;(case aP => exact rfl);(case aB => exact (qc_ HB GE516));(case aF => exact (fun k_ hk => ⟨Kd.fresh' (Kd.R_lt (qr_ HO_8)) k_ hk,Kd.fresh' (Kd.R_lt (qr_ HO_76)) k_ hk⟩));(case aO => exact (qr_ HO_10));(case aS => exact (bz_ (qc_ HB GE516)));(case aL => have:=LMc51.out;omega);intro v542 w52 ho hb hg hat;rw [← Ny541.out] at ho;have n0_:=mk_ (Kd.R_after (ok:=(fun k_ => some k_ ≠ (.slice (some ad539) t531.length co45 : Value).ownBlock)) (by (with_reducible repeat (first|apply ra_|apply rn_|apply rd_));exact rm_ HO_8.out (fun _ hk => ⟨hk.2,hk.1⟩)) hg hat);have n1_:=mk_ (Kd.R_after (ok:=(fun k_ => some k_ ≠ (.slice Ao35 t527.length co35 : Value).ownBlock)) (qr_ HO_76) hg hat);have n2_:=mk_ (blk_grown (g:=gb516) (o:=.cells #[.int .i64 a0_0,.slice A0_1 l0_1.length c0_1,.slice (some ad522) l0_2.length c0_2,.slice A0_3 l0_3.length c0_3] 26 (0,0)) (qk_ BK516) hg (Kd.R_ne HO_10.out BK516.out (by decide)));have n3_:=mk_ (hb);have n4_:=mk_ (ho);clear HO_8 HO_76 BK516 HB HO_10;have HO_8:=n0_;have HO_76:=n1_;have BK516:=n2_;have HB:=n3_;have HO543:=n4_;clear n0_ n1_ n2_ n3_ n4_ ho hb hg hat))
                       go_roundg k3
                       case measure => have:=HJ3.out;have:=HK2.out;have:=HK3.out;omega
                       case rel => exact ⟨(y541),(wrap64 (x78_3 + 1)),qf_,H',⟨by have:=HJ3.out;have:=HK2.out;have:=HK3.out;omega⟩,⟨by (with_reducible repeat (first|apply ra_|apply rn_|apply rd_));exact rm_ HO_8.out (fun _ hk => ⟨hk.2,hk.1⟩)⟩,⟨qr_ HO543⟩,⟨qr_ HO_76⟩,⟨qk_ BK516⟩,⟨u0_ HB GE516⟩⟩
                      ·rw [if_neg c51] at H
                       exact absurd H (by simp)
                    ·rw [if_neg c48] at H
                     exact absurd H (by simp)
                   ·rw [if_neg c47] at H
                    exact absurd H (by simp)
                  ·rw [if_neg c46] at H
                   have c46b0 : decide (x78_3 < (t531.length : Int)) = false:=decide_eq_false c46
                   clear c46
                   replace H:=Option.bind_eq_some_iff.mp H
                   obtain ⟨t544,A530,H⟩:=H
                   replace H : (some t544) = some r:=H
                   have A53:=mk_ A530
                   clear A530
                   obtain rfl:=Option.some.inj H
                   obtain ⟨Ao54,co54,eo54⟩:=Kd.R_slice HO_10.out
                   subst eo54
                   go_wp2_with (first|((with_reducible refine gate_callee (f:=46) rfl ?_);refine goesL_ (some 92) rfl rfl Try.func46 (by kernel_rfl) rfl #[.slice Ao54 x10_3.length co54] rfl qm_ ?_;(with_reducible refine (slices_Sort_int_int.calls k3 (fun k_ => some k_ = (.slice Ao54 x10_3.length co54 : Value).ownBlock) (.slice Ao54 x10_3.length co54) x10_3 t544 w _ ?side1 ?side2 A53.out).mono ?_);(case side1 => exact u0_ HB GE516);(case side2 => exact Kd.R_tight rfl HO_10.out);rintro e w55 ⟨rfl,hy0,hb,hkp⟩;refine ⟨_,rfl,?_⟩;have n0_:=mk_ (rm_ (ok':=fun k_ => some k_ ≠ (.slice Ao54 x10_3.length co54 : Value).ownBlock ∧ some k_ ≠ (.slice Ao45 t531.length co45 : Value).ownBlock) (Kd.R_keptB (HO_8.out) hkp (fun k_ hk_ hs_ => (hk_.1) hs_)) (fun k_ hk_ => ⟨hk_.1.1,hk_.1.2⟩));have n1_:=mk_ (Kd.R_reok rfl hy0 (fun k_ e_ => HO_10.out.1 k_ e_));have n2_:=mk_ (rm_ (ok':=fun k_ => some k_ ≠ (.slice Ao35 t527.length co35 : Value).ownBlock ∧ some k_ ≠ (.slice Ao54 x10_3.length co54 : Value).ownBlock) (Kd.R_keptB (HO_76.out) hkp (fun k_ hk_ hs_ => (hk_.2) hs_)) (fun k_ hk_ => ⟨hk_.1.1,hk_.1.2⟩));have n3_:=mk_ (blk_kept (qk_ BK516) hkp (fun hs_ => (fun e_ => (Kd.R_ne HO_10.out BK516.out (by decide)) e_) hs_));have n4_:=mk_ (hb);clear HO_8 HO_10 HO_76 BK516 HB;have HO_8:=n0_;have HO_10:=n1_;have HO_76:=n2_;have BK516:=n3_;have HB:=n4_;clear n0_ n1_ n2_ n3_ n4_;(try clear hb);(try clear hkp);(try clear hy0)))
                   go_ret
                   exact ⟨_,qe_,by (with_reducible repeat (first|apply ra_|apply rn_|apply rd_));exact rm_ HO_10.out (λ_ _=>trivial),u0_ HB GE516⟩
            ·rw [if_neg c25] at H
             have c25b0 : ((rd t519 (rd l0_2 a1)) == (rd t519 (rd l0_2 a2))) = false:=beq_eq_false_iff_ne.mpr c25
             have c25b1 : ((rd t519 (rd l0_2 a1)) != (rd t519 (rd l0_2 a2))) = true:=bne_iff_ne.mpr c25
             obtain rfl:=Option.some.inj H
             have hcz56_0 : wc.cell? ⟨gb516,0,none⟩ = some (.int .i64 a0_0):=(bc_ BK516.out 0).trans rfl
             have hcz56_1 : wc.cell? ⟨gb516,1,none⟩ = some (.slice A0_1 l0_1.length c0_1):=(bc_ BK516.out 1).trans rfl
             have hcz56_2 : wc.cell? ⟨gb516,2,none⟩ = some (.slice A0_2 l0_2.length c0_2):=(bc_ BK516.out 2).trans rfl
             have hcz56_3 : wc.cell? ⟨gb516,3,none⟩ = some (.slice A0_3 l0_3.length c0_3):=(bc_ BK516.out 3).trans rfl
             have hfz56_0:=bf_ BK516.out 0
             have hfz56_1:=bf_ BK516.out 1
             have hfz56_2:=bf_ BK516.out 2
             have hfz56_3:=bf_ BK516.out 3
             try go_wp2_with (first|((with_reducible refine gate_callee (f:=43) rfl ?_);refine goesL_ (some 29) rfl rfl Try.func43 (by kernel_rfl) rfl #[.int .i64 a0_0,.slice A0_1 l0_1.length c0_1] rfl qm_ ?_;(with_reducible refine (impl_rootsOf.calls a0_0 _ _ l0_1 t519 _ ?side1 ?side2 A16.out).mono ?_);(case side1 => exact qn_ HR0_1 HB);(case side2 => exact HC0_1.out);rintro e w57 ⟨v520,rfl,ho0,hb⟩;refine ⟨_,rfl,?_⟩;have n0_:=mk_ (Kd.R_lower ho0 (bz_ (qc_ HB GE516)));have n1_:=mk_ (blk_below (g:=gb516) (o:=.cells #[.int .i64 a0_0,.slice A0_1 l0_1.length c0_1,.slice A0_2 l0_2.length c0_2,.slice A0_3 l0_3.length c0_3] 26 (0,0)) (qk_ BK516) hb);have n2_:=mk_ (st_ (qc_ HB GE516) hb);clear BK516 HB;have HO521:=n0_;have BK516:=n1_;have HB:=n2_;clear n0_ n1_ n2_;(try clear hb);(try clear hb2);(try clear hk);(try clear hi);(try clear ho0)))
             have n0_:=mk_ (rd_ HO521.out)
             have n1_:=mk_ (kd_ BK516.out)
             have n2_:=mk_ (bd_ HB.out)
             clear HO521
             clear BK516
             clear HB
             have HO521:=n0_
             have BK516:=n1_
             have HB:=n2_
             clear n0_ n1_ n2_
             have p522 : 0 ≤ (a1 : Int):=od_ qa_
             have q522 : a1 < (l0_2.length : Int):=od_ qa_
             obtain ⟨ad522,e522,hx522_0⟩:=Kd.at_int HR0_2.out a1 p522 q522
             have hw522_0:=hx522_0
             cases e522
             replace hx522_0:=(HB.out.cell (wl_ w _ hx522_0)).trans hx522_0
             replace p522:=eq_true p522
             replace q522:=eq_true q522
             obtain ⟨Ao59,co59,eo59⟩:=Kd.R_slice HO521.out
             (first|subst eo59|(injection eo59 with f1_ f2_ f3_;have f4_:=f1_.symm;have f5_:=f3_.symm;clear f1_ f2_ f3_;subst f4_;subst f5_))
             have p523 : 0 ≤ ((rd l0_2 a1) : Int):=od_ qa_
             have q523 : (rd l0_2 a1) < (t519.length : Int):=od_ qa_
             obtain ⟨ad523,e523,hx523_0⟩:=Kd.at_int (rr_ HO521.out).2.2 (rd l0_2 a1) p523 q523
             cases e523
             replace p523:=eq_true p523
             replace q523:=eq_true q523
             have p524 : 0 ≤ (a2 : Int):=od_ qa_
             have q524 : a2 < (l0_2.length : Int):=od_ qa_
             obtain ⟨ad524,e524,hx524_0⟩:=Kd.at_int HR0_2.out a2 p524 q524
             have hw524_0:=hx524_0
             obtain rfl : ad522 = ad524:=(by injection e524)
             replace hx524_0:=(HB.out.cell (wl_ w _ hx524_0)).trans hx524_0
             replace p524:=eq_true p524
             replace q524:=eq_true q524
             have p525 : 0 ≤ ((rd l0_2 a2) : Int):=od_ qa_
             have q525 : (rd l0_2 a2) < (t519.length : Int):=od_ qa_
             obtain ⟨ad525,e525,hx525_0⟩:=Kd.at_int (rr_ HO521.out).2.2 (rd l0_2 a2) p525 q525
             obtain rfl : ad523 = ad525:=(by injection e525)
             replace p525:=eq_true p525
             replace q525:=eq_true q525
             refine start_ (n:=17) (S:=fun w' => w'.cell? ⟨gb516,0,none⟩ = some (.int .i64 a0_0) ∧ w'.cell? ⟨gb516,1,none⟩ = some (.slice A0_1 l0_1.length c0_1) ∧ w'.cell? ⟨gb516,2,none⟩ = some (.slice (some ad522) l0_2.length c0_2) ∧ w'.cell? ⟨gb516,3,none⟩ = some (.slice A0_3 l0_3.length c0_3) ∧ w'.cell? (ad522.add (a1).toNat) = some (.int .i64 (rd l0_2 a1)) ∧ w'.cell? (ad523.add ((rd l0_2 a1)).toNat) = some (.int .i64 (rd t519 (rd l0_2 a1))) ∧ w'.cell? (ad522.add (a2).toNat) = some (.int .i64 (rd l0_2 a2)) ∧ w'.cell? (ad523.add ((rd l0_2 a2)).toNat) = some (.int .i64 (rd t519 (rd l0_2 a2)))) (ds:=[]) #[false,false,false,false,false,false,false,false,false,false,false,false,false,false,false,false,false] (by kernel_rfl) rfl rfl ⟨(bc_ BK516.out 0).trans rfl,(bc_ BK516.out 1).trans rfl,(bc_ BK516.out 2).trans rfl,(bc_ BK516.out 3).trans rfl,((HB.out.cell (wl_ w _ hw522_0)).trans hw522_0),hx523_0,((HB.out.cell (wl_ w _ hw524_0)).trans hw524_0),hx525_0⟩ (fun hHeld => ?_);refine with_tabW impl_TreeWay.tab4 impl_TreeWay.bits4 (fun HT_ HW_ => ?_)
             generalize w57.drew = w58 at HO521 BK516 HB hx522_0 hx523_0 hx524_0 hx525_0 hHeld ⊢
             refine pu_ (i:=0) (N:=some 30) 17 1 ?_
             refine pu_ (i:=1) (N:=some 31) 17 3 ?_
             refine pu_ (i:=3) (N:=some 33) 17 11 ?_
             refine pu_ (i:=8) (N:=some 38) 17 267 ?_
             refine pu_ (i:=9) (N:=some 39) 17 779 ?_
             refine pu_ (i:=11) (N:=some 41) 17 2827 ?_
             refine ta8_ (i:=2) (N:=some 32) 17 2831 hHeld ?_
             refine pu_ (i:=4) (N:=some 34) 17 2847 ?_
             refine ta8_ (i:=5) (N:=some 35) 17 2879 hHeld ?_
             refine pu_ (i:=6) (N:=some 36) 17 2943 ?_
             refine ta8_ (i:=7) (N:=some 37) 17 3071 hHeld ?_
             refine ta8_ (i:=10) (N:=some 40) 17 4095 hHeld ?_
             refine pu_ (i:=12) (N:=some 42) 17 8191 ?_
             refine ta8_ (i:=13) (N:=some 43) 17 16383 hHeld ?_
             refine pu_ (i:=14) (N:=some 44) 17 32767 ?_
             refine ta8_ (i:=15) (N:=some 45) 17 65535 hHeld ?_
             refine pu_ (i:=16) (N:=some 46) 17 131071 ?_
             refine done_ (done_of HT_.out (by kernel_rfl)) ?_
             try go_wp2
             go_ret
             exact ⟨_,qe_,by first|exact Kd.R_nil _ _ _ _ _|exact Kd.N_nil _ _ _ _ _|exact Kd.V_nil _ _ _ _ _|exact Kd.Q_nil _ _ _ _ _|exact Kd.S_nil _ _ _ _ _,u0_ HB GE516⟩
           ·rw [if_neg c24] at H
            exact absurd H (by simp)
          ·rw [if_neg c23] at H
           exact absurd H (by simp)
         ·rw [if_neg c22] at H
          exact absurd H (by simp)
        ·rw [if_neg c21] at H
         exact absurd H (by simp)
       ·rw [if_neg c20] at H
        exact absurd H (by simp)
      ·rw [if_neg c19] at H
       exact absurd H (by simp)
     ·rw [if_neg c18] at H
      exact absurd H (by simp)
    ·rw [if_neg c17] at H
     exact absurd H (by simp)
end Go.Proofs.Ytblcnbnphjnhdaa.PAll

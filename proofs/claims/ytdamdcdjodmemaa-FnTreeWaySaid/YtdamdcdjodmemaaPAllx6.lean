/- Proved here: contracts of functions of the given program, or lemmas on them, for the laws of this seat. Written by xprint.py, a program of this session, on the ground of the kit's print; parts by hand: wip/x/ext. -/
import Derived.Test.YtdamdcdjodmemaaPAllx0
import Derived.Test.YtdamdcdjodmemaaPAllx1
import Derived.Test.YtdamdcdjodmemaaPAllx5
namespace Go.Proofs.Ytdamdcdjodmemaa.PAll
open Go.RowKit Go.Proofs.YtdamdcdjodmemaaW.PrintWords Go.Proofs.YtdamdcdjodmemaaW.PrintLast Go.Proofs.YtdamdcdjodmemaaW.PrintMore
attribute [local go_sem] max2_int min2_int max_two min_two max_three min_three max_four min_four   -- for this text's walks alone
set_option linter.unusedVariables false
set_option linter.unusedSimpArgs false

/-! ### spec_NetValid: function 13 -/
mutual
def spec_NetValid.l0 : Nat → Int → Int → List (S51) → List Int → List Int → Option (Bool)
 | 0,_,_,_,_,_ => none
 | k + 1,x3,x419000,x419001,x419002,x419003 => if x3 < (x419002.length : Int) then (if 0 ≤ x3 then ((spec_l1In.f (rd x419002 x3) 0 (wrap64 (x419000 - 1))).bind fun t420 => (if t420 = true then (spec_NetValid.l0 k (wrap64 (x3 + 1)) x419000 x419001 x419002 x419003) else (some false))) else (none)) else (spec_NetValid.l1 k 0 x419000 x419001 x419002 x419003)
def spec_NetValid.l1 : Nat → Int → Int → List (S51) → List Int → List Int → Option (Bool)
 | 0,_,_,_,_,_ => none
 | k + 1,x4,x419000,x419001,x419002,x419003 => if x4 < (x419003.length : Int) then (if 0 ≤ x4 then ((spec_l10Vlan.f (rd x419003 x4)).bind fun t422 => (if t422 = true then (spec_NetValid.l1 k (wrap64 (x4 + 1)) x419000 x419001 x419002 x419003) else (some false))) else (none)) else ((spec_CablesValid.f k x419000 x419001).bind fun t423 => (if t423 = true then (if (x419002.length : Int) = (x419003.length : Int) then (some (decide ((x419002.length : Int) ≤ 15))) else (some false)) else (some false)))
end
def spec_NetValid.f (k : Nat) (a0_0 : Int) (l0_1 : List (S51)) (l0_2 : List Int) (l0_3 : List Int) : Option (Bool):=spec_NetValid.l0 k 0 a0_0 l0_1 l0_2 l0_3
theorem spec_NetValid.mono_l : ∀ k,(∀ y0 y1 y2 y3 y4,LeO (spec_NetValid.l0 k y0 y1 y2 y3 y4) (spec_NetValid.l0 (k + 1) y0 y1 y2 y3 y4)) ∧ (∀ y0 y1 y2 y3 y4,LeO (spec_NetValid.l1 k y0 y1 y2 y3 y4) (spec_NetValid.l1 (k + 1) y0 y1 y2 y3 y4))
 | 0 => ⟨fun _ _ _ _ _ r h => by simp [spec_NetValid.l0] at h,fun _ _ _ _ _ r h => by simp [spec_NetValid.l1] at h⟩
 | k + 1 => by
  obtain ⟨ih0,ih1⟩:=spec_NetValid.mono_l k
  refine ⟨?_,?_⟩
  ·intro y0 y1 y2 y3 y4
   unfold spec_NetValid.l0
   repeat' first
   | (with_reducible exact ih0 _ _ _ _ _)
   | (with_reducible exact ih1 _ _ _ _ _)
   | (with_reducible exact spec_CablesValid.mono _ _ _)
   | (with_reducible exact LeO.refl _)
   | (with_reducible exact LeO.none _)
   | (with_reducible refine LeO.ite ?_ ?_)
   | (with_reducible refine LeO.bind ?_ (fun _ => ?_))
   | exact ih0 _ _ _ _ _
   | exact ih1 _ _ _ _ _
   | exact spec_CablesValid.mono _ _ _
   | exact LeO.none _
   | refine LeO.ite ?_ ?_
   | refine LeO.bind ?_ (fun _ => ?_)
  ·intro y0 y1 y2 y3 y4
   unfold spec_NetValid.l1
   repeat' first
   | (with_reducible exact ih0 _ _ _ _ _)
   | (with_reducible exact ih1 _ _ _ _ _)
   | (with_reducible exact spec_CablesValid.mono _ _ _)
   | (with_reducible exact LeO.refl _)
   | (with_reducible exact LeO.none _)
   | (with_reducible refine LeO.ite ?_ ?_)
   | (with_reducible refine LeO.bind ?_ (fun _ => ?_))
   | exact ih0 _ _ _ _ _
   | exact ih1 _ _ _ _ _
   | exact spec_CablesValid.mono _ _ _
   | exact LeO.none _
   | refine LeO.ite ?_ ?_
   | refine LeO.bind ?_ (fun _ => ?_)
theorem spec_NetValid.mono : ∀ a0 a1 a2 a3 k,LeO (spec_NetValid.f k a0 a1 a2 a3) (spec_NetValid.f (k + 1) a0 a1 a2 a3):=by
 intro a0 a1 a2 a3 k
 obtain ⟨ih0,ih1⟩:=spec_NetValid.mono_l k
 unfold spec_NetValid.f
 repeat' first
   | (with_reducible exact ih0 _ _ _ _ _)
   | (with_reducible exact ih1 _ _ _ _ _)
   | (with_reducible exact spec_CablesValid.mono _ _ _)
   | (with_reducible exact LeO.refl _)
   | (with_reducible exact LeO.none _)
   | (with_reducible refine LeO.ite ?_ ?_)
   | (with_reducible refine LeO.bind ?_ (fun _ => ?_))
   | exact ih0 _ _ _ _ _
   | exact ih1 _ _ _ _ _
   | exact spec_CablesValid.mono _ _ _
   | exact LeO.none _
   | refine LeO.ite ?_ ?_
   | refine LeO.bind ?_ (fun _ => ?_)
set_option maxHeartbeats 8000000 in
set_option maxRecDepth 100000 in
theorem spec_NetValid.calls (k : Nat) (a0_0 : Int) (A0_1 : Option Addr) (c0_1 : Nat) (l0_1 : List (S51)) (A0_2 : Option Addr) (c0_2 : Nat) (l0_2 : List Int) (A0_3 : Option Addr) (c0_3 : Nat) (l0_3 : List Int) (r : Bool) (w : World) (hr0_1 : Kd.C k51 w A0_1 l0_1.length l0_1) (hc0_1 : l0_1.length ≤ c0_1) (hr0_2 : Kd.C (Kd.int .i64) w A0_2 l0_2.length l0_2) (hc0_2 : l0_2.length ≤ c0_2) (hr0_3 : Kd.C (Kd.int .i64) w A0_3 l0_3.length l0_3) (hc0_3 : l0_3.length ≤ c0_3) (h : spec_NetValid.f k a0_0 l0_1 l0_2 l0_3 = some r) :
  Calls Try.prog 13 #[.agg #[.int .i64 a0_0,.slice A0_1 l0_1.length c0_1,.slice A0_2 l0_2.length c0_2,.slice A0_3 l0_3.length c0_3]] w fun e w' => e = .returned (.bool r) ∧ Below w.heap.size w w':=by
 have hu30:=Try.underlying30
 have HR0_1:=mk_ hr0_1
 have HC0_1:=mk_ hc0_1
 clear hr0_1 hc0_1
 have HR0_2:=mk_ hr0_2
 have HC0_2:=mk_ hc0_2
 clear hr0_2 hc0_2
 have HR0_3:=mk_ hr0_3
 have HC0_3:=mk_ hc0_3
 clear hr0_3 hc0_3
 have HB:=mk_ (Below.refl w.heap.size w)
 have H : (spec_NetValid.l0 k 0 a0_0 l0_1 l0_2 l0_3) = some r:=h
 clear h
 have H':=mk_ H
 clear H
 go_enter Try.func13,Try.ntmps13
 go_wp2_with (first|((with_reducible refine gate_dst (N:=1) rfl ?_);(try (refine gate_guard (by rfl) ?_;dsimp only));refine box_event ?hg (N:=1) ?hd (cs:=#[.int .i64 a0_0,.slice A0_1 l0_1.length c0_1,.slice A0_2 l0_2.length c0_2,.slice A0_3 l0_3.length c0_3]) (t:=30) ?hr ?_;(case hd => rfl);(case hg => rfl);(case hr => first|(go_simp;done)|(go_simp;rfl));intro gb418 hg w2 hbox hb;have n0_:=mk_ (st_ (qb_ HB) hb);have n1_:=mk_ (hbox);have n2_:=mk_ ((by rw [hg];exact (bz_ (qb_ HB)) : w.heap.size ≤ gb418));have n3_:=mk_ ((by rw [hg];exact (bz_ (qb_ HB)) : w.heap.size ≤ gb418));clear HB;have HB:=n0_;have BK418:=n1_;have GW418:=n2_;have GE418:=n3_;clear n0_ n1_ n2_ n3_;clear hb hbox hg))
 repeat (go_quiet (first|((with_reducible refine gate_dst (N:=1) rfl ?_);(try (refine gate_guard (by rfl) ?_;dsimp only));refine box_event ?hg (N:=1) ?hd (cs:=#[.int .i64 a0_0,.slice A0_1 l0_1.length c0_1,.slice A0_2 l0_2.length c0_2,.slice A0_3 l0_3.length c0_3]) (t:=30) ?hr ?_;(case hd => rfl);(case hg => rfl);(case hr => first|(go_simp;done)|(go_simp;rfl));intro gb418 hg w2 hbox hb;have n0_:=mk_ (st_ (qb_ HB) hb);have n1_:=mk_ (hbox);have n2_:=mk_ ((by rw [hg];exact (bz_ (qb_ HB)) : w.heap.size ≤ gb418));have n3_:=mk_ ((by rw [hg];exact (bz_ (qb_ HB)) : w.heap.size ≤ gb418));clear HB;have HB:=n0_;have BK418:=n1_;have GW418:=n2_;have GE418:=n3_;clear n0_ n1_ n2_ n3_;clear hb hbox hg));try go_wp2_with (first|((with_reducible refine gate_dst (N:=1) rfl ?_);(try (refine gate_guard (by rfl) ?_;dsimp only));refine box_event ?hg (N:=1) ?hd (cs:=#[.int .i64 a0_0,.slice A0_1 l0_1.length c0_1,.slice A0_2 l0_2.length c0_2,.slice A0_3 l0_3.length c0_3]) (t:=30) ?hr ?_;(case hd => rfl);(case hg => rfl);(case hr => first|(go_simp;done)|(go_simp;rfl));intro gb418 hg w2 hbox hb;have n0_:=mk_ (st_ (qb_ HB) hb);have n1_:=mk_ (hbox);have n2_:=mk_ ((by rw [hg];exact (bz_ (qb_ HB)) : w.heap.size ≤ gb418));have n3_:=mk_ ((by rw [hg];exact (bz_ (qb_ HB)) : w.heap.size ≤ gb418));clear HB;have HB:=n0_;have BK418:=n1_;have GW418:=n2_;have GE418:=n3_;clear n0_ n1_ n2_ n3_;clear hb hbox hg)))
 go_loopg [3] k (fun kq v3 w' => ∃ (x3_1 : Int),v3 = .int .i64 x3_1 ∧ Aside0 (spec_NetValid.l0 kq x3_1 a0_0 l0_1 l0_2 l0_3 = some r) ∧ Aside0 (kq ≤ k) ∧ Aside0 (w'.heap[gb418]? = some (.cells #[.int .i64 a0_0,(.slice A0_1 l0_1.length c0_1),(.slice A0_2 l0_2.length c0_2),(.slice A0_3 l0_3.length c0_3)] 30 (0,0))) ∧ Aside0 (Below w.heap.size w w'))
 case atStart => exact ⟨(0),qf_,H',⟨Nat.le_refl _⟩,⟨qk_ BK418⟩,⟨u1_ HB GE418⟩⟩
 case round =>
  clear H'
  try clear c1
  try clear p2
  obtain ⟨x3_1,rfl,HA,HK1,BK418,HB⟩:=hrel
  cases gk with
  | zero => exact absurd HA.out (by simp [spec_NetValid.l0])
  | succ k1 =>
   have H:=HA.out
   clear HA
   simp only [spec_NetValid.l0] at H
   by_cases c3 : x3_1 < (l0_2.length : Int)
   ·rw [if_pos c3] at H
    have c3b0 : decide (x3_1 < (l0_2.length : Int)) = true:=decide_eq_true c3
    clear c3
    by_cases c4 : 0 ≤ x3_1
    ·rw [if_pos c4] at H
     have c4b0 : decide (0 ≤ x3_1) = true:=decide_eq_true c4
     clear c4
     replace H:=Option.bind_eq_some_iff.mp H
     obtain ⟨t420,A50,H⟩:=H
     replace H : (if t420 = true then (spec_NetValid.l0 k1 (wrap64 (x3_1 + 1)) a0_0 l0_1 l0_2 l0_3) else (some false)) = some r:=H
     have A5:=mk_ A50
     clear A50
     by_cases c6 : t420 = true
     ·subst c6
      have H1 : (spec_NetValid.l0 k1 (wrap64 (x3_1 + 1)) a0_0 l0_1 l0_2 l0_3) = some r:=by rw [if_pos rfl] at H;exact H
      clear H
      have H:=H1
      clear H1
      have H':=mk_ H
      clear H
      have hcz7_0 : wr.cell? ⟨gb418,0,none⟩ = some (.int .i64 a0_0):=(bc_ BK418.out 0).trans rfl
      have hcz7_1 : wr.cell? ⟨gb418,1,none⟩ = some (.slice A0_1 l0_1.length c0_1):=(bc_ BK418.out 1).trans rfl
      have hcz7_2 : wr.cell? ⟨gb418,2,none⟩ = some (.slice A0_2 l0_2.length c0_2):=(bc_ BK418.out 2).trans rfl
      have hcz7_3 : wr.cell? ⟨gb418,3,none⟩ = some (.slice A0_3 l0_3.length c0_3):=(bc_ BK418.out 3).trans rfl
      have hfz7_0:=bf_ BK418.out 0
      have hfz7_1:=bf_ BK418.out 1
      have hfz7_2:=bf_ BK418.out 2
      have hfz7_3:=bf_ BK418.out 3
      have p419 : 0 ≤ (x3_1 : Int):=od_ qa_
      have q419 : x3_1 < (l0_2.length : Int):=od_ qa_
      obtain ⟨ad419,e419,hx419_0⟩:=Kd.at_int HR0_2.out x3_1 p419 q419
      cases e419
      replace hx419_0:=(HB.out.cell (wl_ w _ hx419_0)).trans hx419_0
      replace p419:=eq_true p419
      replace q419:=eq_true q419
      go_wp2_with (first|(go_at_call 40;(with_reducible refine (spec_l1In.calls (rd l0_2 x3_1) 0 (wrap64 (a0_0 - 1)) true _ A5.out).mono ?_);rintro e w' ⟨rfl,⟨nd,rfl⟩⟩;(try first|exact ⟨rfl,_,World.drewN_drewN _ _ _⟩|exact ⟨rfl,_,Eq.trans (World.drewN_drewN _ _ _) (congrArg (World.drewN _) (Nat.add_assoc _ _ _))⟩)))
      repeat (go_quiet (first|(go_at_call 40;(with_reducible refine (spec_l1In.calls (rd l0_2 x3_1) 0 (wrap64 (a0_0 - 1)) true _ A5.out).mono ?_);rintro e w' ⟨rfl,⟨nd,rfl⟩⟩;(try first|exact ⟨rfl,_,World.drewN_drewN _ _ _⟩|exact ⟨rfl,_,Eq.trans (World.drewN_drewN _ _ _) (congrArg (World.drewN _) (Nat.add_assoc _ _ _))⟩)));try go_wp2_with (first|(go_at_call 40;(with_reducible refine (spec_l1In.calls (rd l0_2 x3_1) 0 (wrap64 (a0_0 - 1)) true _ A5.out).mono ?_);rintro e w' ⟨rfl,⟨nd,rfl⟩⟩;(try first|exact ⟨rfl,_,World.drewN_drewN _ _ _⟩|exact ⟨rfl,_,Eq.trans (World.drewN_drewN _ _ _) (congrArg (World.drewN _) (Nat.add_assoc _ _ _))⟩))))
      go_roundg k1
      case measure => have:=HK1.out;omega
      case rel => exact ⟨(wrap64 (x3_1 + 1)),qf_,H',⟨by have:=HK1.out;omega⟩,⟨qk_ BK418⟩,⟨u1_ HB GE418⟩⟩
     ·replace c6:=Bool.eq_false_iff.mpr c6
      subst c6
      have H1 : (some false) = some r:=by rw [if_neg (show ¬ (false = true) by decide)] at H;exact H
      clear H
      have H:=H1
      clear H1
      obtain rfl:=Option.some.inj H
      have hcz8_0 : wr.cell? ⟨gb418,0,none⟩ = some (.int .i64 a0_0):=(bc_ BK418.out 0).trans rfl
      have hcz8_1 : wr.cell? ⟨gb418,1,none⟩ = some (.slice A0_1 l0_1.length c0_1):=(bc_ BK418.out 1).trans rfl
      have hcz8_2 : wr.cell? ⟨gb418,2,none⟩ = some (.slice A0_2 l0_2.length c0_2):=(bc_ BK418.out 2).trans rfl
      have hcz8_3 : wr.cell? ⟨gb418,3,none⟩ = some (.slice A0_3 l0_3.length c0_3):=(bc_ BK418.out 3).trans rfl
      have hfz8_0:=bf_ BK418.out 0
      have hfz8_1:=bf_ BK418.out 1
      have hfz8_2:=bf_ BK418.out 2
      have hfz8_3:=bf_ BK418.out 3
      have p419 : 0 ≤ (x3_1 : Int):=od_ qa_
      have q419 : x3_1 < (l0_2.length : Int):=od_ qa_
      obtain ⟨ad419,e419,hx419_0⟩:=Kd.at_int HR0_2.out x3_1 p419 q419
      cases e419
      replace hx419_0:=(HB.out.cell (wl_ w _ hx419_0)).trans hx419_0
      replace p419:=eq_true p419
      replace q419:=eq_true q419
      go_wp2_with (first|(go_at_call 40;(with_reducible refine (spec_l1In.calls (rd l0_2 x3_1) 0 (wrap64 (a0_0 - 1)) false _ A5.out).mono ?_);rintro e w' ⟨rfl,⟨nd,rfl⟩⟩;(try first|exact ⟨rfl,_,World.drewN_drewN _ _ _⟩|exact ⟨rfl,_,Eq.trans (World.drewN_drewN _ _ _) (congrArg (World.drewN _) (Nat.add_assoc _ _ _))⟩)))
      repeat (go_quiet (first|(go_at_call 40;(with_reducible refine (spec_l1In.calls (rd l0_2 x3_1) 0 (wrap64 (a0_0 - 1)) false _ A5.out).mono ?_);rintro e w' ⟨rfl,⟨nd,rfl⟩⟩;(try first|exact ⟨rfl,_,World.drewN_drewN _ _ _⟩|exact ⟨rfl,_,Eq.trans (World.drewN_drewN _ _ _) (congrArg (World.drewN _) (Nat.add_assoc _ _ _))⟩)));try go_wp2_with (first|(go_at_call 40;(with_reducible refine (spec_l1In.calls (rd l0_2 x3_1) 0 (wrap64 (a0_0 - 1)) false _ A5.out).mono ?_);rintro e w' ⟨rfl,⟨nd,rfl⟩⟩;(try first|exact ⟨rfl,_,World.drewN_drewN _ _ _⟩|exact ⟨rfl,_,Eq.trans (World.drewN_drewN _ _ _) (congrArg (World.drewN _) (Nat.add_assoc _ _ _))⟩))))
      go_ret
      exact ⟨qe_,u1_ HB GE418⟩
    ·rw [if_neg c4] at H
     exact absurd H (by simp)
   ·rw [if_neg c3] at H
    have c3b0 : decide (x3_1 < (l0_2.length : Int)) = false:=decide_eq_false c3
    clear c3
    have H':=mk_ H
    clear H
    have hcz9_0 : wr.cell? ⟨gb418,0,none⟩ = some (.int .i64 a0_0):=(bc_ BK418.out 0).trans rfl
    have hcz9_1 : wr.cell? ⟨gb418,1,none⟩ = some (.slice A0_1 l0_1.length c0_1):=(bc_ BK418.out 1).trans rfl
    have hcz9_2 : wr.cell? ⟨gb418,2,none⟩ = some (.slice A0_2 l0_2.length c0_2):=(bc_ BK418.out 2).trans rfl
    have hcz9_3 : wr.cell? ⟨gb418,3,none⟩ = some (.slice A0_3 l0_3.length c0_3):=(bc_ BK418.out 3).trans rfl
    have hfz9_0:=bf_ BK418.out 0
    have hfz9_1:=bf_ BK418.out 1
    have hfz9_2:=bf_ BK418.out 2
    have hfz9_3:=bf_ BK418.out 3
    go_wp2
    repeat (go_quiet (fail);try go_wp2)
    go_loopg [4] k1 (fun kq v4 w' => ∃ (x4_2 : Int),v4 = .int .i64 x4_2 ∧ Aside0 (spec_NetValid.l1 kq x4_2 a0_0 l0_1 l0_2 l0_3 = some r) ∧ Aside0 (kq ≤ k1) ∧ Aside0 (w'.heap[gb418]? = some (.cells #[.int .i64 a0_0,(.slice A0_1 l0_1.length c0_1),(.slice A0_2 l0_2.length c0_2),(.slice A0_3 l0_3.length c0_3)] 30 (0,0))) ∧ Aside0 (Below w.heap.size w w'))
    case atStart => exact ⟨(0),qf_,H',⟨Nat.le_refl _⟩,⟨qk_ BK418⟩,⟨u1_ HB GE418⟩⟩
    case round =>
     clear H'
     try clear c1
     try clear p2
     try clear c3
     try clear c3b0
     try clear c4
     try clear c4b0
     try clear p4
     try clear q4
     try clear hx4
     try clear c6
     try clear p6
     try clear hcz7_0
     try clear hcz7_1
     try clear hcz7_2
     try clear hcz7_3
     try clear hcz8_0
     try clear hcz8_1
     try clear hcz8_2
     try clear hcz8_3
     try clear hcz9_0
     try clear hcz9_1
     try clear hcz9_2
     try clear hcz9_3
     try clear hfz7_0
     try clear hfz7_1
     try clear hfz7_2
     try clear hfz7_3
     try clear hfz8_0
     try clear hfz8_1
     try clear hfz8_2
     try clear hfz8_3
     try clear hfz9_0
     try clear hfz9_1
     try clear hfz9_2
     try clear hfz9_3
     try clear hx419_0
     try clear p2
     try clear p419
     try clear q419
     obtain ⟨x4_2,rfl,HA,HK2,BK418,HB⟩:=hrel
     cases gk with
     | zero => exact absurd HA.out (by simp [spec_NetValid.l1])
     | succ k2 =>
      have H:=HA.out
      clear HA
      simp only [spec_NetValid.l1] at H
      by_cases c10 : x4_2 < (l0_3.length : Int)
      ·rw [if_pos c10] at H
       have c10b0 : decide (x4_2 < (l0_3.length : Int)) = true:=decide_eq_true c10
       clear c10
       by_cases c11 : 0 ≤ x4_2
       ·rw [if_pos c11] at H
        have c11b0 : decide (0 ≤ x4_2) = true:=decide_eq_true c11
        clear c11
        replace H:=Option.bind_eq_some_iff.mp H
        obtain ⟨t422,A120,H⟩:=H
        replace H : (if t422 = true then (spec_NetValid.l1 k2 (wrap64 (x4_2 + 1)) a0_0 l0_1 l0_2 l0_3) else (some false)) = some r:=H
        have A12:=mk_ A120
        clear A120
        by_cases c13 : t422 = true
        ·subst c13
         have H1 : (spec_NetValid.l1 k2 (wrap64 (x4_2 + 1)) a0_0 l0_1 l0_2 l0_3) = some r:=by rw [if_pos rfl] at H;exact H
         clear H
         have H:=H1
         clear H1
         have H':=mk_ H
         clear H
         have hcz14_0 : wr.cell? ⟨gb418,0,none⟩ = some (.int .i64 a0_0):=(bc_ BK418.out 0).trans rfl
         have hcz14_1 : wr.cell? ⟨gb418,1,none⟩ = some (.slice A0_1 l0_1.length c0_1):=(bc_ BK418.out 1).trans rfl
         have hcz14_2 : wr.cell? ⟨gb418,2,none⟩ = some (.slice A0_2 l0_2.length c0_2):=(bc_ BK418.out 2).trans rfl
         have hcz14_3 : wr.cell? ⟨gb418,3,none⟩ = some (.slice A0_3 l0_3.length c0_3):=(bc_ BK418.out 3).trans rfl
         have hfz14_0:=bf_ BK418.out 0
         have hfz14_1:=bf_ BK418.out 1
         have hfz14_2:=bf_ BK418.out 2
         have hfz14_3:=bf_ BK418.out 3
         have p421 : 0 ≤ (x4_2 : Int):=od_ qa_
         have q421 : x4_2 < (l0_3.length : Int):=od_ qa_
         obtain ⟨ad421,e421,hx421_0⟩:=Kd.at_int HR0_3.out x4_2 p421 q421
         cases e421
         replace hx421_0:=(HB.out.cell (wl_ w _ hx421_0)).trans hx421_0
         replace p421:=eq_true p421
         replace q421:=eq_true q421
         go_wp2_with (first|(go_at_call 41;(with_reducible refine (spec_l10Vlan.calls (rd l0_3 x4_2) true _ A12.out).mono ?_);rintro e w' ⟨rfl,⟨nd,rfl⟩⟩;(try first|exact ⟨rfl,_,World.drewN_drewN _ _ _⟩|exact ⟨rfl,_,Eq.trans (World.drewN_drewN _ _ _) (congrArg (World.drewN _) (Nat.add_assoc _ _ _))⟩)))
         repeat (go_quiet (first|(go_at_call 41;(with_reducible refine (spec_l10Vlan.calls (rd l0_3 x4_2) true _ A12.out).mono ?_);rintro e w' ⟨rfl,⟨nd,rfl⟩⟩;(try first|exact ⟨rfl,_,World.drewN_drewN _ _ _⟩|exact ⟨rfl,_,Eq.trans (World.drewN_drewN _ _ _) (congrArg (World.drewN _) (Nat.add_assoc _ _ _))⟩)));try go_wp2_with (first|(go_at_call 41;(with_reducible refine (spec_l10Vlan.calls (rd l0_3 x4_2) true _ A12.out).mono ?_);rintro e w' ⟨rfl,⟨nd,rfl⟩⟩;(try first|exact ⟨rfl,_,World.drewN_drewN _ _ _⟩|exact ⟨rfl,_,Eq.trans (World.drewN_drewN _ _ _) (congrArg (World.drewN _) (Nat.add_assoc _ _ _))⟩))))
         go_roundg k2
         case measure => have:=HK1.out;have:=HK2.out;omega
         case rel => exact ⟨(wrap64 (x4_2 + 1)),qf_,H',⟨by have:=HK1.out;have:=HK2.out;omega⟩,⟨qk_ BK418⟩,⟨u1_ HB GE418⟩⟩
        ·replace c13:=Bool.eq_false_iff.mpr c13
         subst c13
         have H1 : (some false) = some r:=by rw [if_neg (show ¬ (false = true) by decide)] at H;exact H
         clear H
         have H:=H1
         clear H1
         obtain rfl:=Option.some.inj H
         have hcz15_0 : wr.cell? ⟨gb418,0,none⟩ = some (.int .i64 a0_0):=(bc_ BK418.out 0).trans rfl
         have hcz15_1 : wr.cell? ⟨gb418,1,none⟩ = some (.slice A0_1 l0_1.length c0_1):=(bc_ BK418.out 1).trans rfl
         have hcz15_2 : wr.cell? ⟨gb418,2,none⟩ = some (.slice A0_2 l0_2.length c0_2):=(bc_ BK418.out 2).trans rfl
         have hcz15_3 : wr.cell? ⟨gb418,3,none⟩ = some (.slice A0_3 l0_3.length c0_3):=(bc_ BK418.out 3).trans rfl
         have hfz15_0:=bf_ BK418.out 0
         have hfz15_1:=bf_ BK418.out 1
         have hfz15_2:=bf_ BK418.out 2
         have hfz15_3:=bf_ BK418.out 3
         have p421 : 0 ≤ (x4_2 : Int):=od_ qa_
         have q421 : x4_2 < (l0_3.length : Int):=od_ qa_
         obtain ⟨ad421,e421,hx421_0⟩:=Kd.at_int HR0_3.out x4_2 p421 q421
         cases e421
         replace hx421_0:=(HB.out.cell (wl_ w _ hx421_0)).trans hx421_0
         replace p421:=eq_true p421
         replace q421:=eq_true q421
         go_wp2_with (first|(go_at_call 41;(with_reducible refine (spec_l10Vlan.calls (rd l0_3 x4_2) false _ A12.out).mono ?_);rintro e w' ⟨rfl,⟨nd,rfl⟩⟩;(try first|exact ⟨rfl,_,World.drewN_drewN _ _ _⟩|exact ⟨rfl,_,Eq.trans (World.drewN_drewN _ _ _) (congrArg (World.drewN _) (Nat.add_assoc _ _ _))⟩)))
         repeat (go_quiet (first|(go_at_call 41;(with_reducible refine (spec_l10Vlan.calls (rd l0_3 x4_2) false _ A12.out).mono ?_);rintro e w' ⟨rfl,⟨nd,rfl⟩⟩;(try first|exact ⟨rfl,_,World.drewN_drewN _ _ _⟩|exact ⟨rfl,_,Eq.trans (World.drewN_drewN _ _ _) (congrArg (World.drewN _) (Nat.add_assoc _ _ _))⟩)));try go_wp2_with (first|(go_at_call 41;(with_reducible refine (spec_l10Vlan.calls (rd l0_3 x4_2) false _ A12.out).mono ?_);rintro e w' ⟨rfl,⟨nd,rfl⟩⟩;(try first|exact ⟨rfl,_,World.drewN_drewN _ _ _⟩|exact ⟨rfl,_,Eq.trans (World.drewN_drewN _ _ _) (congrArg (World.drewN _) (Nat.add_assoc _ _ _))⟩))))
         go_ret
         exact ⟨qe_,u1_ HB GE418⟩
       ·rw [if_neg c11] at H
        exact absurd H (by simp)
      ·rw [if_neg c10] at H
       have c10b0 : decide (x4_2 < (l0_3.length : Int)) = false:=decide_eq_false c10
       clear c10
       replace H:=Option.bind_eq_some_iff.mp H
       obtain ⟨t423,A160,H⟩:=H
       replace H : (if t423 = true then (if (l0_2.length : Int) = (l0_3.length : Int) then (some (decide ((l0_2.length : Int) ≤ 15))) else (some false)) else (some false)) = some r:=H
       have A16:=mk_ A160
       clear A160
       by_cases c17 : t423 = true
       ·subst c17
        have H1 : (if (l0_2.length : Int) = (l0_3.length : Int) then (some (decide ((l0_2.length : Int) ≤ 15))) else (some false)) = some r:=by rw [if_pos rfl] at H;exact H
        clear H
        have H:=H1
        clear H1
        by_cases c18 : (l0_2.length : Int) = (l0_3.length : Int)
        ·rw [if_pos c18] at H
         have c18b0 : ((l0_2.length : Int) == (l0_3.length : Int)) = true:=beq_iff_eq.mpr c18
         have c18b1 : ((l0_2.length : Int) != (l0_3.length : Int)) = false:=bne_eq_false_iff_eq.mpr c18
         have c18b2 : (l0_2.length == l0_3.length) = true:=by first|simpa using c18|(simp at c18 ⊢;omega)
         clear c18
         obtain rfl:=Option.some.inj H
         have hcz19_0 : wr.cell? ⟨gb418,0,none⟩ = some (.int .i64 a0_0):=(bc_ BK418.out 0).trans rfl
         have hcz19_1 : wr.cell? ⟨gb418,1,none⟩ = some (.slice A0_1 l0_1.length c0_1):=(bc_ BK418.out 1).trans rfl
         have hcz19_2 : wr.cell? ⟨gb418,2,none⟩ = some (.slice A0_2 l0_2.length c0_2):=(bc_ BK418.out 2).trans rfl
         have hcz19_3 : wr.cell? ⟨gb418,3,none⟩ = some (.slice A0_3 l0_3.length c0_3):=(bc_ BK418.out 3).trans rfl
         have hfz19_0:=bf_ BK418.out 0
         have hfz19_1:=bf_ BK418.out 1
         have hfz19_2:=bf_ BK418.out 2
         have hfz19_3:=bf_ BK418.out 3
         go_wp2_with (first|(go_at_call 42;(with_reducible refine (spec_CablesValid.calls k2 a0_0 _ _ l0_1 true _ ?side1 ?side2 A16.out).mono ?_);(case side1 => exact qn_ HR0_1 HB);(case side2 => exact HC0_1.out);rintro e w20 ⟨rfl,hb⟩;have n0_:=mk_ (blk_below (g:=gb418) (o:=.cells #[.int .i64 a0_0,.slice A0_1 l0_1.length c0_1,.slice A0_2 l0_2.length c0_2,.slice A0_3 l0_3.length c0_3] 30 (0,0)) (qk_ BK418) hb);have n1_:=mk_ (st_ (qc_ HB GE418) hb);clear BK418;clear HB;have BK418:=n0_;have HB:=n1_;clear n0_ n1_;(try clear hb);(try clear hb2);(try clear hk);(try clear hi);have hcz21_0 : w20.cell? ⟨gb418,0,none⟩ = some (.int .i64 a0_0):=(bc_ BK418.out 0).trans rfl;have hcz21_1 : w20.cell? ⟨gb418,1,none⟩ = some (.slice A0_1 l0_1.length c0_1):=(bc_ BK418.out 1).trans rfl;have hcz21_2 : w20.cell? ⟨gb418,2,none⟩ = some (.slice A0_2 l0_2.length c0_2):=(bc_ BK418.out 2).trans rfl;have hcz21_3 : w20.cell? ⟨gb418,3,none⟩ = some (.slice A0_3 l0_3.length c0_3):=(bc_ BK418.out 3).trans rfl;have hfz21_0:=bf_ BK418.out 0;have hfz21_1:=bf_ BK418.out 1;have hfz21_2:=bf_ BK418.out 2;have hfz21_3:=bf_ BK418.out 3))
         repeat (go_quiet (first|(go_at_call 42;(with_reducible refine (spec_CablesValid.calls k2 a0_0 _ _ l0_1 true _ ?side1 ?side2 A16.out).mono ?_);(case side1 => exact qn_ HR0_1 HB);(case side2 => exact HC0_1.out);rintro e w20 ⟨rfl,hb⟩;have n0_:=mk_ (blk_below (g:=gb418) (o:=.cells #[.int .i64 a0_0,.slice A0_1 l0_1.length c0_1,.slice A0_2 l0_2.length c0_2,.slice A0_3 l0_3.length c0_3] 30 (0,0)) (qk_ BK418) hb);have n1_:=mk_ (st_ (qc_ HB GE418) hb);clear BK418;clear HB;have BK418:=n0_;have HB:=n1_;clear n0_ n1_;(try clear hb);(try clear hb2);(try clear hk);(try clear hi);have hcz21_0 : w20.cell? ⟨gb418,0,none⟩ = some (.int .i64 a0_0):=(bc_ BK418.out 0).trans rfl;have hcz21_1 : w20.cell? ⟨gb418,1,none⟩ = some (.slice A0_1 l0_1.length c0_1):=(bc_ BK418.out 1).trans rfl;have hcz21_2 : w20.cell? ⟨gb418,2,none⟩ = some (.slice A0_2 l0_2.length c0_2):=(bc_ BK418.out 2).trans rfl;have hcz21_3 : w20.cell? ⟨gb418,3,none⟩ = some (.slice A0_3 l0_3.length c0_3):=(bc_ BK418.out 3).trans rfl;have hfz21_0:=bf_ BK418.out 0;have hfz21_1:=bf_ BK418.out 1;have hfz21_2:=bf_ BK418.out 2;have hfz21_3:=bf_ BK418.out 3));try go_wp2_with (first|(go_at_call 42;(with_reducible refine (spec_CablesValid.calls k2 a0_0 _ _ l0_1 true _ ?side1 ?side2 A16.out).mono ?_);(case side1 => exact qn_ HR0_1 HB);(case side2 => exact HC0_1.out);rintro e w20 ⟨rfl,hb⟩;have n0_:=mk_ (blk_below (g:=gb418) (o:=.cells #[.int .i64 a0_0,.slice A0_1 l0_1.length c0_1,.slice A0_2 l0_2.length c0_2,.slice A0_3 l0_3.length c0_3] 30 (0,0)) (qk_ BK418) hb);have n1_:=mk_ (st_ (qc_ HB GE418) hb);clear BK418;clear HB;have BK418:=n0_;have HB:=n1_;clear n0_ n1_;(try clear hb);(try clear hb2);(try clear hk);(try clear hi);have hcz21_0 : w20.cell? ⟨gb418,0,none⟩ = some (.int .i64 a0_0):=(bc_ BK418.out 0).trans rfl;have hcz21_1 : w20.cell? ⟨gb418,1,none⟩ = some (.slice A0_1 l0_1.length c0_1):=(bc_ BK418.out 1).trans rfl;have hcz21_2 : w20.cell? ⟨gb418,2,none⟩ = some (.slice A0_2 l0_2.length c0_2):=(bc_ BK418.out 2).trans rfl;have hcz21_3 : w20.cell? ⟨gb418,3,none⟩ = some (.slice A0_3 l0_3.length c0_3):=(bc_ BK418.out 3).trans rfl;have hfz21_0:=bf_ BK418.out 0;have hfz21_1:=bf_ BK418.out 1;have hfz21_2:=bf_ BK418.out 2;have hfz21_3:=bf_ BK418.out 3)))
         go_ret
         exact ⟨qe_,u1_ HB GE418⟩
        ·rw [if_neg c18] at H
         have c18b0 : ((l0_2.length : Int) == (l0_3.length : Int)) = false:=beq_eq_false_iff_ne.mpr c18
         have c18b1 : ((l0_2.length : Int) != (l0_3.length : Int)) = true:=bne_iff_ne.mpr c18
         have c18b2 : (l0_2.length == l0_3.length) = false:=by first|simpa using c18|(simp at c18 ⊢;omega)
         obtain rfl:=Option.some.inj H
         have hcz22_0 : wr.cell? ⟨gb418,0,none⟩ = some (.int .i64 a0_0):=(bc_ BK418.out 0).trans rfl
         have hcz22_1 : wr.cell? ⟨gb418,1,none⟩ = some (.slice A0_1 l0_1.length c0_1):=(bc_ BK418.out 1).trans rfl
         have hcz22_2 : wr.cell? ⟨gb418,2,none⟩ = some (.slice A0_2 l0_2.length c0_2):=(bc_ BK418.out 2).trans rfl
         have hcz22_3 : wr.cell? ⟨gb418,3,none⟩ = some (.slice A0_3 l0_3.length c0_3):=(bc_ BK418.out 3).trans rfl
         have hfz22_0:=bf_ BK418.out 0
         have hfz22_1:=bf_ BK418.out 1
         have hfz22_2:=bf_ BK418.out 2
         have hfz22_3:=bf_ BK418.out 3
         go_wp2_with (first|(go_at_call 42;(with_reducible refine (spec_CablesValid.calls k2 a0_0 _ _ l0_1 true _ ?side1 ?side2 A16.out).mono ?_);(case side1 => exact qn_ HR0_1 HB);(case side2 => exact HC0_1.out);rintro e w23 ⟨rfl,hb⟩;have n0_:=mk_ (blk_below (g:=gb418) (o:=.cells #[.int .i64 a0_0,.slice A0_1 l0_1.length c0_1,.slice A0_2 l0_2.length c0_2,.slice A0_3 l0_3.length c0_3] 30 (0,0)) (qk_ BK418) hb);have n1_:=mk_ (st_ (qc_ HB GE418) hb);clear BK418;clear HB;have BK418:=n0_;have HB:=n1_;clear n0_ n1_;(try clear hb);(try clear hb2);(try clear hk);(try clear hi);have hcz24_0 : w23.cell? ⟨gb418,0,none⟩ = some (.int .i64 a0_0):=(bc_ BK418.out 0).trans rfl;have hcz24_1 : w23.cell? ⟨gb418,1,none⟩ = some (.slice A0_1 l0_1.length c0_1):=(bc_ BK418.out 1).trans rfl;have hcz24_2 : w23.cell? ⟨gb418,2,none⟩ = some (.slice A0_2 l0_2.length c0_2):=(bc_ BK418.out 2).trans rfl;have hcz24_3 : w23.cell? ⟨gb418,3,none⟩ = some (.slice A0_3 l0_3.length c0_3):=(bc_ BK418.out 3).trans rfl;have hfz24_0:=bf_ BK418.out 0;have hfz24_1:=bf_ BK418.out 1;have hfz24_2:=bf_ BK418.out 2;have hfz24_3:=bf_ BK418.out 3))
         repeat (go_quiet (first|(go_at_call 42;(with_reducible refine (spec_CablesValid.calls k2 a0_0 _ _ l0_1 true _ ?side1 ?side2 A16.out).mono ?_);(case side1 => exact qn_ HR0_1 HB);(case side2 => exact HC0_1.out);rintro e w23 ⟨rfl,hb⟩;have n0_:=mk_ (blk_below (g:=gb418) (o:=.cells #[.int .i64 a0_0,.slice A0_1 l0_1.length c0_1,.slice A0_2 l0_2.length c0_2,.slice A0_3 l0_3.length c0_3] 30 (0,0)) (qk_ BK418) hb);have n1_:=mk_ (st_ (qc_ HB GE418) hb);clear BK418;clear HB;have BK418:=n0_;have HB:=n1_;clear n0_ n1_;(try clear hb);(try clear hb2);(try clear hk);(try clear hi);have hcz24_0 : w23.cell? ⟨gb418,0,none⟩ = some (.int .i64 a0_0):=(bc_ BK418.out 0).trans rfl;have hcz24_1 : w23.cell? ⟨gb418,1,none⟩ = some (.slice A0_1 l0_1.length c0_1):=(bc_ BK418.out 1).trans rfl;have hcz24_2 : w23.cell? ⟨gb418,2,none⟩ = some (.slice A0_2 l0_2.length c0_2):=(bc_ BK418.out 2).trans rfl;have hcz24_3 : w23.cell? ⟨gb418,3,none⟩ = some (.slice A0_3 l0_3.length c0_3):=(bc_ BK418.out 3).trans rfl;have hfz24_0:=bf_ BK418.out 0;have hfz24_1:=bf_ BK418.out 1;have hfz24_2:=bf_ BK418.out 2;have hfz24_3:=bf_ BK418.out 3));try go_wp2_with (first|(go_at_call 42;(with_reducible refine (spec_CablesValid.calls k2 a0_0 _ _ l0_1 true _ ?side1 ?side2 A16.out).mono ?_);(case side1 => exact qn_ HR0_1 HB);(case side2 => exact HC0_1.out);rintro e w23 ⟨rfl,hb⟩;have n0_:=mk_ (blk_below (g:=gb418) (o:=.cells #[.int .i64 a0_0,.slice A0_1 l0_1.length c0_1,.slice A0_2 l0_2.length c0_2,.slice A0_3 l0_3.length c0_3] 30 (0,0)) (qk_ BK418) hb);have n1_:=mk_ (st_ (qc_ HB GE418) hb);clear BK418;clear HB;have BK418:=n0_;have HB:=n1_;clear n0_ n1_;(try clear hb);(try clear hb2);(try clear hk);(try clear hi);have hcz24_0 : w23.cell? ⟨gb418,0,none⟩ = some (.int .i64 a0_0):=(bc_ BK418.out 0).trans rfl;have hcz24_1 : w23.cell? ⟨gb418,1,none⟩ = some (.slice A0_1 l0_1.length c0_1):=(bc_ BK418.out 1).trans rfl;have hcz24_2 : w23.cell? ⟨gb418,2,none⟩ = some (.slice A0_2 l0_2.length c0_2):=(bc_ BK418.out 2).trans rfl;have hcz24_3 : w23.cell? ⟨gb418,3,none⟩ = some (.slice A0_3 l0_3.length c0_3):=(bc_ BK418.out 3).trans rfl;have hfz24_0:=bf_ BK418.out 0;have hfz24_1:=bf_ BK418.out 1;have hfz24_2:=bf_ BK418.out 2;have hfz24_3:=bf_ BK418.out 3)))
         go_ret
         exact ⟨qe_,u1_ HB GE418⟩
       ·replace c17:=Bool.eq_false_iff.mpr c17
        subst c17
        have H1 : (some false) = some r:=by rw [if_neg (show ¬ (false = true) by decide)] at H;exact H
        clear H
        have H:=H1
        clear H1
        obtain rfl:=Option.some.inj H
        have hcz25_0 : wr.cell? ⟨gb418,0,none⟩ = some (.int .i64 a0_0):=(bc_ BK418.out 0).trans rfl
        have hcz25_1 : wr.cell? ⟨gb418,1,none⟩ = some (.slice A0_1 l0_1.length c0_1):=(bc_ BK418.out 1).trans rfl
        have hcz25_2 : wr.cell? ⟨gb418,2,none⟩ = some (.slice A0_2 l0_2.length c0_2):=(bc_ BK418.out 2).trans rfl
        have hcz25_3 : wr.cell? ⟨gb418,3,none⟩ = some (.slice A0_3 l0_3.length c0_3):=(bc_ BK418.out 3).trans rfl
        have hfz25_0:=bf_ BK418.out 0
        have hfz25_1:=bf_ BK418.out 1
        have hfz25_2:=bf_ BK418.out 2
        have hfz25_3:=bf_ BK418.out 3
        go_wp2_with (first|(go_at_call 42;(with_reducible refine (spec_CablesValid.calls k2 a0_0 _ _ l0_1 false _ ?side1 ?side2 A16.out).mono ?_);(case side1 => exact qn_ HR0_1 HB);(case side2 => exact HC0_1.out);rintro e w26 ⟨rfl,hb⟩;have n0_:=mk_ (blk_below (g:=gb418) (o:=.cells #[.int .i64 a0_0,.slice A0_1 l0_1.length c0_1,.slice A0_2 l0_2.length c0_2,.slice A0_3 l0_3.length c0_3] 30 (0,0)) (qk_ BK418) hb);have n1_:=mk_ (st_ (qc_ HB GE418) hb);clear BK418;clear HB;have BK418:=n0_;have HB:=n1_;clear n0_ n1_;(try clear hb);(try clear hb2);(try clear hk);(try clear hi)))
        repeat (go_quiet (first|(go_at_call 42;(with_reducible refine (spec_CablesValid.calls k2 a0_0 _ _ l0_1 false _ ?side1 ?side2 A16.out).mono ?_);(case side1 => exact qn_ HR0_1 HB);(case side2 => exact HC0_1.out);rintro e w26 ⟨rfl,hb⟩;have n0_:=mk_ (blk_below (g:=gb418) (o:=.cells #[.int .i64 a0_0,.slice A0_1 l0_1.length c0_1,.slice A0_2 l0_2.length c0_2,.slice A0_3 l0_3.length c0_3] 30 (0,0)) (qk_ BK418) hb);have n1_:=mk_ (st_ (qc_ HB GE418) hb);clear BK418;clear HB;have BK418:=n0_;have HB:=n1_;clear n0_ n1_;(try clear hb);(try clear hb2);(try clear hk);(try clear hi)));try go_wp2_with (first|(go_at_call 42;(with_reducible refine (spec_CablesValid.calls k2 a0_0 _ _ l0_1 false _ ?side1 ?side2 A16.out).mono ?_);(case side1 => exact qn_ HR0_1 HB);(case side2 => exact HC0_1.out);rintro e w26 ⟨rfl,hb⟩;have n0_:=mk_ (blk_below (g:=gb418) (o:=.cells #[.int .i64 a0_0,.slice A0_1 l0_1.length c0_1,.slice A0_2 l0_2.length c0_2,.slice A0_3 l0_3.length c0_3] 30 (0,0)) (qk_ BK418) hb);have n1_:=mk_ (st_ (qc_ HB GE418) hb);clear BK418;clear HB;have BK418:=n0_;have HB:=n1_;clear n0_ n1_;(try clear hb);(try clear hb2);(try clear hk);(try clear hi))))
        go_ret
        exact ⟨qe_,u1_ HB GE418⟩

/-! ### spec_l19Station: function 56 -/
def spec_l19Station.f (a0_0 : Int) (l0_1 : List (S51)) (l0_2 : List Int) (l0_3 : List Int) (a1 : Int) : Option (Bool):=(spec_l1In.f a1 0 (wrap64 ((l0_2.length : Int) - 1))).bind fun t425 => (some t425)
set_option maxHeartbeats 8000000 in
set_option maxRecDepth 100000 in
theorem spec_l19Station.calls (a0_0 : Int) (A0_1 : Option Addr) (c0_1 : Nat) (l0_1 : List (S51)) (A0_2 : Option Addr) (c0_2 : Nat) (l0_2 : List Int) (A0_3 : Option Addr) (c0_3 : Nat) (l0_3 : List Int) (a1 : Int) (r : Bool) (w : World) (hr0_1 : Kd.C k51 w A0_1 l0_1.length l0_1) (hc0_1 : l0_1.length ≤ c0_1) (hr0_2 : Kd.C (Kd.int .i64) w A0_2 l0_2.length l0_2) (hc0_2 : l0_2.length ≤ c0_2) (hr0_3 : Kd.C (Kd.int .i64) w A0_3 l0_3.length l0_3) (hc0_3 : l0_3.length ≤ c0_3) (h : spec_l19Station.f a0_0 l0_1 l0_2 l0_3 a1 = some r) :
  Calls Try.prog 56 #[.agg #[.int .i64 a0_0,.slice A0_1 l0_1.length c0_1,.slice A0_2 l0_2.length c0_2,.slice A0_3 l0_3.length c0_3],.int .i64 a1] w fun e w' => e = .returned (.bool r) ∧ Below w.heap.size w w':=by
 have hu30:=Try.underlying30
 have HR0_1:=mk_ hr0_1
 have HC0_1:=mk_ hc0_1
 clear hr0_1 hc0_1
 have HR0_2:=mk_ hr0_2
 have HC0_2:=mk_ hc0_2
 clear hr0_2 hc0_2
 have HR0_3:=mk_ hr0_3
 have HC0_3:=mk_ hc0_3
 clear hr0_3 hc0_3
 have HB:=mk_ (Below.refl w.heap.size w)
 have H : ((spec_l1In.f a1 0 (wrap64 ((l0_2.length : Int) - 1))).bind fun t425 => (some t425)) = some r:=h
 clear h
 replace H:=Option.bind_eq_some_iff.mp H
 obtain ⟨t425,A30,H⟩:=H
 replace H : (some t425) = some r:=H
 have A3:=mk_ A30
 clear A30
 obtain rfl:=Option.some.inj H
 go_enter Try.func56,Try.ntmps56
 go_wp2_with (first|((with_reducible refine gate_dst (N:=2) rfl ?_);refine box_event ?hg (N:=2) ?hd (cs:=#[.int .i64 a0_0,.slice A0_1 l0_1.length c0_1,.slice A0_2 l0_2.length c0_2,.slice A0_3 l0_3.length c0_3]) (t:=30) ?hr ?_;(case hd => rfl);(case hg => rfl);(case hr => first|(go_simp;done)|(go_simp;rfl));intro gb424 hg w4 hbox hb;have n0_:=mk_ (st_ (qb_ HB) hb);have n1_:=mk_ (hbox);have n2_:=mk_ ((by rw [hg];exact (bz_ (qb_ HB)) : w.heap.size ≤ gb424));have n3_:=mk_ ((by rw [hg];exact (bz_ (qb_ HB)) : w.heap.size ≤ gb424));clear HB;have HB:=n0_;have BK424:=n1_;have GW424:=n2_;have GE424:=n3_;clear n0_ n1_ n2_ n3_;clear hb hbox hg;have hcz5_0 : w4.cell? ⟨gb424,0,none⟩ = some (.int .i64 a0_0):=(bc_ BK424.out 0).trans rfl;have hcz5_1 : w4.cell? ⟨gb424,1,none⟩ = some (.slice A0_1 l0_1.length c0_1):=(bc_ BK424.out 1).trans rfl;have hcz5_2 : w4.cell? ⟨gb424,2,none⟩ = some (.slice A0_2 l0_2.length c0_2):=(bc_ BK424.out 2).trans rfl;have hcz5_3 : w4.cell? ⟨gb424,3,none⟩ = some (.slice A0_3 l0_3.length c0_3):=(bc_ BK424.out 3).trans rfl;have hfz5_0:=bf_ BK424.out 0;have hfz5_1:=bf_ BK424.out 1;have hfz5_2:=bf_ BK424.out 2;have hfz5_3:=bf_ BK424.out 3)|((with_reducible refine gate_callee (f:=40) rfl ?_);refine goesL_ (some 10) rfl rfl Try.func40 (by kernel_rfl) rfl #[.int .i64 a1,.int .i64 0,.int .i64 (wrap64 ((l0_2.length : Int) - 1))] rfl qm_ ?_;(with_reducible refine (spec_l1In.calls a1 0 (wrap64 ((l0_2.length : Int) - 1)) t425 _ A3.out).mono ?_);rintro e w' ⟨rfl,⟨nd,rfl⟩⟩;refine ⟨_,rfl,?_⟩))
 go_ret
 exact ⟨qe_,u1_ HB GE424⟩

/-! ### spec_l7Joined: function 57 -/
mutual
def spec_l7Joined.l0 : Nat → List (S51) → List Bool → Int → Int → Option (List Bool)
 | 0,_,_,_,_ => none
 | k + 1,x1,x7,x14,x15 => if x15 < x14 then (spec_l7Joined.l1 k x1 x7 0 x14 x15) else (some x7)
def spec_l7Joined.l1 : Nat → List (S51) → List Bool → Int → Int → Int → Option (List Bool)
 | 0,_,_,_,_,_ => none
 | k + 1,x1,x7,x8,x14,x15 => if x8 < (x1.length : Int) then (if 0 ≤ x8 then (if 0 ≤ ((rd_T51 x1 x8).f0) then (if ((rd_T51 x1 x8).f0) < (x7.length : Int) then (if rdOf false x7 ((rd_T51 x1 x8).f0) = true then (if 0 ≤ ((rd_T51 x1 x8).f1) then (if ((rd_T51 x1 x8).f1) < (x7.length : Int) then (spec_l7Joined.l1 k x1 ((x7.set (((rd_T51 x1 x8).f0) : Int).toNat true).set (((rd_T51 x1 x8).f1) : Int).toNat true) (wrap64 (x8 + 1)) x14 x15) else (none)) else (none)) else (if 0 ≤ ((rd_T51 x1 x8).f1) then (if ((rd_T51 x1 x8).f1) < (x7.length : Int) then (if rdOf false x7 ((rd_T51 x1 x8).f1) = true then (spec_l7Joined.l1 k x1 ((x7.set (((rd_T51 x1 x8).f0) : Int).toNat true).set (((rd_T51 x1 x8).f1) : Int).toNat true) (wrap64 (x8 + 1)) x14 x15) else (spec_l7Joined.l1 k x1 x7 (wrap64 (x8 + 1)) x14 x15)) else (none)) else (none))) else (none)) else (none)) else (none)) else (spec_l7Joined.l0 k x1 x7 x14 (wrap64 (x15 + 1)))
end
def spec_l7Joined.f (k : Nat) (a0 : Int) (l1 : List (S51)) (a2 : Int) : Option (List Bool):=if 0 ≤ a0 then (if (a0 : Int).toNat ≤ 281474976710656 then ((some (List.replicate (a0 : Int).toNat false : List Bool)).bind fun y426 => (if 0 ≤ a2 then (if a2 < (y426.length : Int) then (spec_l7Joined.l0 k l1 (y426.set (a2 : Int).toNat true) a0 0) else (none)) else (none))) else (none)) else (none)
theorem spec_l7Joined.mono_l : ∀ k,(∀ y0 y1 y2 y3,LeO (spec_l7Joined.l0 k y0 y1 y2 y3) (spec_l7Joined.l0 (k + 1) y0 y1 y2 y3)) ∧ (∀ y0 y1 y2 y3 y4,LeO (spec_l7Joined.l1 k y0 y1 y2 y3 y4) (spec_l7Joined.l1 (k + 1) y0 y1 y2 y3 y4))
 | 0 => ⟨fun _ _ _ _ r h => by simp [spec_l7Joined.l0] at h,fun _ _ _ _ _ r h => by simp [spec_l7Joined.l1] at h⟩
 | k + 1 => by
  obtain ⟨ih0,ih1⟩:=spec_l7Joined.mono_l k
  refine ⟨?_,?_⟩
  ·intro y0 y1 y2 y3
   unfold spec_l7Joined.l0
   repeat' first
   | (with_reducible exact ih0 _ _ _ _)
   | (with_reducible exact ih1 _ _ _ _ _)
   | (with_reducible exact LeO.refl _)
   | (with_reducible exact LeO.none _)
   | (with_reducible refine LeO.ite ?_ ?_)
   | (with_reducible refine LeO.bind ?_ (fun _ => ?_))
   | exact ih0 _ _ _ _
   | exact ih1 _ _ _ _ _
   | exact LeO.none _
   | refine LeO.ite ?_ ?_
   | refine LeO.bind ?_ (fun _ => ?_)
  ·intro y0 y1 y2 y3 y4
   unfold spec_l7Joined.l1
   repeat' first
   | (with_reducible exact ih0 _ _ _ _)
   | (with_reducible exact ih1 _ _ _ _ _)
   | (with_reducible exact LeO.refl _)
   | (with_reducible exact LeO.none _)
   | (with_reducible refine LeO.ite ?_ ?_)
   | (with_reducible refine LeO.bind ?_ (fun _ => ?_))
   | exact ih0 _ _ _ _
   | exact ih1 _ _ _ _ _
   | exact LeO.none _
   | refine LeO.ite ?_ ?_
   | refine LeO.bind ?_ (fun _ => ?_)
theorem spec_l7Joined.mono : ∀ a0 a1 a2 k,LeO (spec_l7Joined.f k a0 a1 a2) (spec_l7Joined.f (k + 1) a0 a1 a2):=by
 intro a0 a1 a2 k
 obtain ⟨ih0,ih1⟩:=spec_l7Joined.mono_l k
 unfold spec_l7Joined.f
 repeat' first
   | (with_reducible exact ih0 _ _ _ _)
   | (with_reducible exact ih1 _ _ _ _ _)
   | (with_reducible exact LeO.refl _)
   | (with_reducible exact LeO.none _)
   | (with_reducible refine LeO.ite ?_ ?_)
   | (with_reducible refine LeO.bind ?_ (fun _ => ?_))
   | exact ih0 _ _ _ _
   | exact ih1 _ _ _ _ _
   | exact LeO.none _
   | refine LeO.ite ?_ ?_
   | refine LeO.bind ?_ (fun _ => ?_)
set_option maxHeartbeats 8000000 in
set_option maxRecDepth 100000 in
theorem spec_l7Joined.calls (k : Nat) (a0 : Int) (A1 : Option Addr) (c1 : Nat) (l1 : List (S51)) (a2 : Int) (r : List Bool) (w : World) (hr1 : Kd.C k51 w A1 l1.length l1) (hc1 : l1.length ≤ c1) (h : spec_l7Joined.f k a0 l1 a2 = some r) :
  Calls Try.prog 57 #[.int .i64 a0,.slice A1 l1.length c1,.int .i64 a2] w fun e w' => ∃ v0_ : Value,e = .returned (v0_) ∧ Kd.R Kd.bool 4 w' w.heap.size (fun _ => True) v0_ r ∧ Below w.heap.size w w':=by
 have HR1:=mk_ hr1
 have HC1:=mk_ hc1
 clear hr1 hc1
 have HB:=mk_ (Below.refl w.heap.size w)
 have H : (if 0 ≤ a0 then (if (a0 : Int).toNat ≤ 281474976710656 then ((some (List.replicate (a0 : Int).toNat false : List Bool)).bind fun y426 => (if 0 ≤ a2 then (if a2 < (y426.length : Int) then (spec_l7Joined.l0 k l1 (y426.set (a2 : Int).toNat true) a0 0) else (none)) else (none))) else (none)) else (none)) = some r:=h
 clear h
 by_cases c4 : 0 ≤ a0
 ·rw [if_pos c4] at H
  have c4b0:=eq_true c4
  have c4b1 : decide (0 ≤ a0) = true:=decide_eq_true c4
  clear c4
  by_cases c5 : (a0 : Int).toNat ≤ 281474976710656
  ·rw [if_pos c5] at H
   have c5b0:=eq_true c5
   have c5b1 : decide ((a0 : Int).toNat ≤ 281474976710656) = true:=decide_eq_true c5
   clear c5
   obtain ⟨y426,hy426⟩ : ∃ y_ : List Bool,y_ = (List.replicate (a0 : Int).toNat false):=⟨_,rfl⟩
   replace H : (if 0 ≤ a2 then (if a2 < (y426.length : Int) then (spec_l7Joined.l0 k l1 (y426.set (a2 : Int).toNat true) a0 0) else (none)) else (none)) = some r:=by first|(rw [hy426];with_reducible exact H)|(have H2_:=(Option.bind_some _ _).symm.trans H;rw [hy426];with_reducible exact H2_)|(have H2_:=(Option.bind_some _ _).symm.trans H;with_reducible exact H2_)|with_reducible exact H|(rw [hy426];exact H)|exact H
   have Ny426:=mk_ hy426
   clear hy426
   by_cases c6 : 0 ≤ a2
   ·rw [if_pos c6] at H
    have c6b0 : decide (0 ≤ a2) = true:=decide_eq_true c6
    clear c6
    by_cases c7 : a2 < (y426.length : Int)
    ·rw [if_pos c7] at H
     have c7b0 : decide (a2 < (y426.length : Int)) = true:=decide_eq_true c7
     clear c7
     obtain ⟨y429,hy429⟩ : ∃ y_ : List Bool,y_ = (y426.set (a2 : Int).toNat true):=⟨_,rfl⟩
     replace H : (spec_l7Joined.l0 k l1 y429 a0 0) = some r:=by first|(rw [hy429];with_reducible exact H)|(have H2_:=(Option.bind_some _ _).symm.trans H;rw [hy429];with_reducible exact H2_)|(have H2_:=(Option.bind_some _ _).symm.trans H;with_reducible exact H2_)|with_reducible exact H|(rw [hy429];exact H)|exact H
     have Ny429:=mk_ hy429
     clear hy429
     have H':=mk_ H
     clear H
     go_enter Try.func57,Try.ntmps57
     go_wp2_with (first|((with_reducible refine gate_dst (N:=10) rfl ?_);refine Kd.R_make Kd.bool _ 4 rfl (N:=10) rfl 67 _ _ rfl a0 rfl rfl Try.underlying67 (.bool false) 1 info4 rfl (by decide) (by omega) false (ok:=fun _ => True) (okp:=fun _ => True) rfl (fun _ hk => hk) trivial (od_ qa_) (Nat.le_trans (Nat.mul_le_mul_right _ (od_ qa_ : a0.toNat ≤ 281474976710656)) (by omega)) (Below.refl _ _) (Nat.le_refl _) ?_;intro v427 w9 ho10 hb hg_ hnew_;clear hg_ hnew_;(first|rw [← Ny426.out] at ho10|(simp only [Int.reduceToNat] at ho10;rw [← Ny426.out] at ho10));have n0_:=mk_ (Kd.R_lower ho10 (bz_ (qb_ HB)));have n1_:=mk_ (st_ (qb_ HB) hb);clear HB;have HO428:=n0_;have HB:=n1_;clear n0_ n1_;clear hb ho10;have p8 : 0 ≤ (a2 : Int):=od_ qa_;have q8 : (a2 : Int) < ((y426.length : Int) : Int):=od_ qa_;obtain ⟨go8,co8,eo8,gb8,gl8,cl8,HG8⟩:=Kd.R_form HO428.out (by omega);(first|cases eo8|(injection eo8 with ea_ en_ ec_;(first|subst ea_|(injection ea_ with ea_;subst ea_));subst ec_;clear en_));have GB8:=mk_ gb8;have GG8:=mk_ HG8;clear gb8 gl8 HG8;obtain ⟨hx8_0,hf8_0⟩:=Kd.R_celln false HO428.out (a2 : Int) p8 q8;replace p8:=eq_true p8;replace q8:=eq_true q8;obtain ⟨hy11_,hz11_⟩:=Kd.R_celln false HO428.out (a2 : Int) (od_ qa_) (od_ qa_);have HP11:=Kd.R_putg HO428.out (a2 : Int) true)|((with_reducible refine gate_store (t:=4) (p:=13) rfl ?_);refine store_event (t:=4) (p:=13) (v:=?vo_w12) (w1:=(w9.setCell ⟨go8,(a2 : Int).toNat,none⟩ (.bool true))) ?hg ?ho ?hn ?hr ?_;(case ho => rfl);(case hg => rfl);(case hn => rfl);(case hr => first|(go_simp;done)|(go_simp;rfl));intro w12 hw;have hg : w9.grownBy w12 (some go8):=(by rw [hw];exact HP11.2);have hp_ : Kd.R Kd.bool 4 w12 w.heap.size (fun _ => True) (.slice (some ⟨go8,0,none⟩) y426.length co8) y429:=(by rw [hw,Ny429.out];exact HP11.1);clear HP11;have n0_:=mk_ (hp_);have n1_:=mk_ ((by rw [hw];exact bs_ (HB.out) GB8.out : Below w.heap.size w w12));clear HO428;clear HB;have HO428:=n0_;have HB:=n1_;clear n0_ n1_;clear hg hw hp_))
     go_loopg [15] k (fun kq v15 w' => ∃ (x7_1 : List Bool) (x15_1 : Int),v15 = .int .i64 x15_1 ∧ Aside0 (spec_l7Joined.l0 kq l1 x7_1 a0 x15_1 = some r) ∧ Aside0 (kq ≤ k) ∧ Aside0 (Kd.R Kd.bool 4 w' w.heap.size (fun _ => True) (.slice (some ⟨go8,0,none⟩) y426.length co8) x7_1) ∧ Aside0 (Below w.heap.size w w'))
     case atStart => exact ⟨(y429),(0),qf_,H',⟨Nat.le_refl _⟩,⟨qr_ HO428⟩,⟨u0_ HB⟩⟩
     case round =>
      clear H'
      try clear c1
      try clear p2
      try clear c4
      try clear c4b0
      try clear c4b1
      try clear c5
      try clear c5b0
      try clear c5b1
      try clear c6
      try clear c6b0
      try clear c7
      try clear c7b0
      try clear p8
      try clear q8
      try clear hx8
      try clear hf8
      try clear hx8_0
      try clear p8
      try clear q8
      obtain ⟨x7_1,x15_1,rfl,HA,HK1,HO_7,HB⟩:=hrel
      have hl7_1:=(rr_ HO_7.out).1
      rw [hl7_1] at HO_7
      (try simp only [hl7_1])
      cases gk with
      | zero => exact absurd HA.out (by simp [spec_l7Joined.l0])
      | succ k1 =>
       have H:=HA.out
       clear HA
       simp only [spec_l7Joined.l0] at H
       by_cases c13 : x15_1 < a0
       ·rw [if_pos c13] at H
        have c13b0 : decide (x15_1 < a0) = true:=decide_eq_true c13
        clear c13
        have H':=mk_ H
        clear H
        go_wp2
        go_loopg [8] k1 (fun kq v8 w' => ∃ (x7_2 : List Bool) (x8_2 : Int),v8 = .int .i64 x8_2 ∧ Aside0 (spec_l7Joined.l1 kq l1 x7_2 x8_2 a0 x15_1 = some r) ∧ Aside0 (kq ≤ k1) ∧ Aside0 (Kd.R Kd.bool 4 w' w.heap.size (fun _ => True) (.slice (some ⟨go8,0,none⟩) x7_1.length co8) x7_2) ∧ Aside0 (Below w.heap.size w w'))
        case atStart => exact ⟨(x7_1),(0),qf_,H',⟨Nat.le_refl _⟩,⟨by (try simp only [hl7_1]);(with_reducible repeat (first|apply ra_|apply rn_|apply rd_));exact HO_7.out⟩,⟨u0_ HB⟩⟩
        case round =>
         clear H'
         try clear c1
         try clear p2
         try clear c4
         try clear c4b0
         try clear c4b1
         try clear c5
         try clear c5b0
         try clear c5b1
         try clear c6
         try clear c6b0
         try clear c7
         try clear c7b0
         try clear p8
         try clear q8
         try clear hx8
         try clear hf8
         try clear c13
         try clear c13b0
         try clear hx8_0
         try clear p2
         try clear p8
         try clear q8
         obtain ⟨x7_2,x8_2,rfl,HA,HK2,HO_7,HB⟩:=hrel
         have hl7_2:=(rr_ HO_7.out).1
         rw [hl7_2] at HO_7
         (try simp only [hl7_2])
         cases gk with
         | zero => exact absurd HA.out (by simp [spec_l7Joined.l1])
         | succ k2 =>
          have H:=HA.out
          clear HA
          simp only [spec_l7Joined.l1] at H
          by_cases c14 : x8_2 < (l1.length : Int)
          ·rw [if_pos c14] at H
           have c14b0 : decide (x8_2 < (l1.length : Int)) = true:=decide_eq_true c14
           clear c14
           by_cases c15 : 0 ≤ x8_2
           ·rw [if_pos c15] at H
            have c15b0 : decide (0 ≤ x8_2) = true:=decide_eq_true c15
            clear c15
            by_cases c16 : 0 ≤ ((rd_T51 l1 x8_2).f0)
            ·rw [if_pos c16] at H
             have c16b0 : decide (0 ≤ ((rd_T51 l1 x8_2).f0)) = true:=decide_eq_true c16
             clear c16
             by_cases c17 : ((rd_T51 l1 x8_2).f0) < (x7_2.length : Int)
             ·rw [if_pos c17] at H
              have c17b0 : decide (((rd_T51 l1 x8_2).f0) < (x7_2.length : Int)) = true:=decide_eq_true c17
              clear c17
              obtain ⟨bq18,hbq18⟩ : ∃ b_ : Bool,b_ = (rdOf false x7_2 ((rd_T51 l1 x8_2).f0)):=⟨_,rfl⟩
              replace H : (if bq18 = true then (if 0 ≤ ((rd_T51 l1 x8_2).f1) then (if ((rd_T51 l1 x8_2).f1) < (x7_2.length : Int) then (spec_l7Joined.l1 k2 l1 ((x7_2.set (((rd_T51 l1 x8_2).f0) : Int).toNat true).set (((rd_T51 l1 x8_2).f1) : Int).toNat true) (wrap64 (x8_2 + 1)) a0 x15_1) else (none)) else (none)) else (if 0 ≤ ((rd_T51 l1 x8_2).f1) then (if ((rd_T51 l1 x8_2).f1) < (x7_2.length : Int) then (if rdOf false x7_2 ((rd_T51 l1 x8_2).f1) = true then (spec_l7Joined.l1 k2 l1 ((x7_2.set (((rd_T51 l1 x8_2).f0) : Int).toNat true).set (((rd_T51 l1 x8_2).f1) : Int).toNat true) (wrap64 (x8_2 + 1)) a0 x15_1) else (spec_l7Joined.l1 k2 l1 x7_2 (wrap64 (x8_2 + 1)) a0 x15_1)) else (none)) else (none))) = some r:=by rw [← hbq18] at H;exact H
              have Nbq18:=mk_ hbq18
              clear hbq18
              by_cases c19 : bq18 = true
              ·subst c19
               have H1 : (if 0 ≤ ((rd_T51 l1 x8_2).f1) then (if ((rd_T51 l1 x8_2).f1) < (x7_2.length : Int) then (spec_l7Joined.l1 k2 l1 ((x7_2.set (((rd_T51 l1 x8_2).f0) : Int).toNat true).set (((rd_T51 l1 x8_2).f1) : Int).toNat true) (wrap64 (x8_2 + 1)) a0 x15_1) else (none)) else (none)) = some r:=by rw [if_pos rfl] at H;exact H
               clear H
               have H:=H1
               clear H1
               obtain ⟨y433,hy433⟩ : ∃ y_ : List Bool,y_ = (x7_2.set (((rd_T51 l1 x8_2).f0) : Int).toNat true):=⟨_,rfl⟩
               replace H : (if 0 ≤ ((rd_T51 l1 x8_2).f1) then (if ((rd_T51 l1 x8_2).f1) < (x7_2.length : Int) then (spec_l7Joined.l1 k2 l1 (y433.set (((rd_T51 l1 x8_2).f1) : Int).toNat true) (wrap64 (x8_2 + 1)) a0 x15_1) else (none)) else (none)) = some r:=by first|(rw [hy433];with_reducible exact H)|(have H2_:=(Option.bind_some _ _).symm.trans H;rw [hy433];with_reducible exact H2_)|(have H2_:=(Option.bind_some _ _).symm.trans H;with_reducible exact H2_)|with_reducible exact H|(rw [hy433];exact H)|exact H
               have Ny433:=mk_ hy433
               clear hy433
               by_cases c21 : 0 ≤ ((rd_T51 l1 x8_2).f1)
               ·rw [if_pos c21] at H
                have c21b0 : decide (0 ≤ ((rd_T51 l1 x8_2).f1)) = true:=decide_eq_true c21
                clear c21
                by_cases c22 : ((rd_T51 l1 x8_2).f1) < (x7_2.length : Int)
                ·rw [if_pos c22] at H
                 have c22b0 : decide (((rd_T51 l1 x8_2).f1) < (x7_2.length : Int)) = true:=decide_eq_true c22
                 clear c22
                 obtain ⟨y435,hy435⟩ : ∃ y_ : List Bool,y_ = (y433.set (((rd_T51 l1 x8_2).f1) : Int).toNat true):=⟨_,rfl⟩
                 replace H : (spec_l7Joined.l1 k2 l1 y435 (wrap64 (x8_2 + 1)) a0 x15_1) = some r:=by first|(rw [hy435];with_reducible exact H)|(have H2_:=(Option.bind_some _ _).symm.trans H;rw [hy435];with_reducible exact H2_)|(have H2_:=(Option.bind_some _ _).symm.trans H;with_reducible exact H2_)|with_reducible exact H|(rw [hy435];exact H)|exact H
                 have Ny435:=mk_ hy435
                 clear hy435
                 have H':=mk_ H
                 clear H
                 have p430 : 0 ≤ (x8_2 : Int):=od_ qa_
                 have q430 : x8_2 < (l1.length : Int):=od_ qa_
                 obtain ⟨ad430,e430,hx430_0,hx430_1,hx430_2⟩:=at_T51 HR1.out x8_2 p430 q430
                 cases e430
                 replace hx430_0:=(HB.out.cell (wl_ w _ hx430_0)).trans hx430_0
                 replace hx430_1:=(HB.out.cell (wl_ w _ hx430_1)).trans hx430_1
                 replace hx430_2:=(HB.out.cell (wl_ w _ hx430_2)).trans hx430_2
                 replace p430:=eq_true p430
                 replace q430:=eq_true q430
                 have p431 : 0 ≤ (((rd_T51 l1 x8_2).f0) : Int):=od_ qa_
                 have q431 : ((rd_T51 l1 x8_2).f0) < (x7_2.length : Int):=od_ qa_
                 obtain ⟨ad431,e431,hx431_0⟩:=Kd.at_bool (rr_ HO_7.out).2.2 ((rd_T51 l1 x8_2).f0) p431 q431
                 (try rw [← Nbq18.out] at hx431_0)
                 obtain rfl : (⟨go8,0,none⟩ : Addr) = ad431:=(by injection e431)
                 (first|simp only [add_plain] at hx431_0|simp only [add_at] at hx431_0|simp only [Addr.add,Nat.zero_add] at hx431_0|skip)
                 replace p431:=eq_true p431
                 replace q431:=eq_true q431
                 have p432 : 0 ≤ (x8_2 : Int):=od_ qa_
                 have q432 : x8_2 < (l1.length : Int):=od_ qa_
                 obtain ⟨ad432,e432,hx432_0,hx432_1,hx432_2⟩:=at_T51 HR1.out x8_2 p432 q432
                 obtain rfl : ad430 = ad432:=(by injection e432)
                 replace hx432_0:=(HB.out.cell (wl_ w _ hx432_0)).trans hx432_0
                 replace hx432_1:=(HB.out.cell (wl_ w _ hx432_1)).trans hx432_1
                 replace hx432_2:=(HB.out.cell (wl_ w _ hx432_2)).trans hx432_2
                 replace p432:=eq_true p432
                 replace q432:=eq_true q432
                 have p20 : 0 ≤ (((rd_T51 l1 x8_2).f0) : Int):=od_ qa_
                 have q20 : (((rd_T51 l1 x8_2).f0) : Int) < ((x7_2.length : Int) : Int):=od_ qa_
                 obtain ⟨hx20_0,hf20_0⟩:=Kd.R_celln false HO_7.out (((rd_T51 l1 x8_2).f0) : Int) p20 q20
                 replace p20:=eq_true p20
                 replace q20:=eq_true q20
                 have HP24:=Kd.R_putg HO_7.out (((rd_T51 l1 x8_2).f0) : Int) true
                 go_wp2_with (first|((with_reducible refine gate_store (t:=4) (p:=47) rfl ?_);refine store_event (t:=4) (p:=47) (v:=?vo_w25) (w1:=(wr.setCell ⟨go8,(((rd_T51 l1 x8_2).f0) : Int).toNat,none⟩ (.bool true))) ?hg ?ho ?hn ?hr ?_;(case ho => rfl);(case hg => rfl);(case hn => rfl);(case hr => first|(go_simp;done)|(go_simp;rfl));intro w25 hw;have hg : wr.grownBy w25 (some go8):=(by rw [hw];exact HP24.2);have hp_ : Kd.R Kd.bool 4 w25 w.heap.size (fun _ => True) (.slice (some ⟨go8,0,none⟩) x7_2.length co8) y433:=(by rw [hw,Ny433.out];exact HP24.1);clear HP24;have n0_:=mk_ (hp_);have n1_:=mk_ ((by rw [hw];exact bs_ (HB.out) GB8.out : Below w.heap.size w w25));clear HO_7;clear HB;have HO_7:=n0_;have HB:=n1_;clear n0_ n1_;clear hg hw hp_;have p434 : 0 ≤ (x8_2 : Int):=od_ qa_;have q434 : x8_2 < (l1.length : Int):=od_ qa_;obtain ⟨ad434,e434,hx434_0,hx434_1,hx434_2⟩:=at_T51 HR1.out x8_2 p434 q434;obtain rfl : ad430 = ad434:=(by injection e434);replace hx434_0:=(HB.out.cell (wl_ w _ hx434_0)).trans hx434_0;replace hx434_1:=(HB.out.cell (wl_ w _ hx434_1)).trans hx434_1;replace hx434_2:=(HB.out.cell (wl_ w _ hx434_2)).trans hx434_2;replace p434:=eq_true p434;replace q434:=eq_true q434;have p23 : 0 ≤ (((rd_T51 l1 x8_2).f1) : Int):=od_ qa_;have q23 : (((rd_T51 l1 x8_2).f1) : Int) < ((x7_2.length : Int) : Int):=od_ qa_;obtain ⟨hx23_0,hf23_0⟩:=Kd.R_celln false HO_7.out (((rd_T51 l1 x8_2).f1) : Int) p23 q23;replace p23:=eq_true p23;replace q23:=eq_true q23;obtain ⟨hy26_,hz26_⟩:=Kd.R_celln false HO_7.out (((rd_T51 l1 x8_2).f1) : Int) (od_ qa_) (od_ qa_);have HP26:=Kd.R_putg HO_7.out (((rd_T51 l1 x8_2).f1) : Int) true)|((with_reducible refine gate_store (t:=4) (p:=54) rfl ?_);refine store_event (t:=4) (p:=54) (v:=?vo_w27) (w1:=(w25.setCell ⟨go8,(((rd_T51 l1 x8_2).f1) : Int).toNat,none⟩ (.bool true))) ?hg ?ho ?hn ?hr ?_;(case ho => rfl);(case hg => rfl);(case hn => rfl);(case hr => first|(go_simp;done)|(go_simp;rfl));intro w27 hw;have hg : w25.grownBy w27 (some go8):=(by rw [hw];exact HP26.2);have hp_ : Kd.R Kd.bool 4 w27 w.heap.size (fun _ => True) (.slice (some ⟨go8,0,none⟩) x7_2.length co8) y435:=(by rw [hw,Ny435.out];exact HP26.1);clear HP26;have n0_:=mk_ (hp_);have n1_:=mk_ ((by rw [hw];exact bs_ (HB.out) GB8.out : Below w.heap.size w w27));clear HO_7;clear HB;have HO_7:=n0_;have HB:=n1_;clear n0_ n1_;clear hg hw hp_))
                 (try simp only [← hl7_2])
                 go_roundg k2
                 case measure => have:=HK1.out;have:=HK2.out;omega
                 case rel => exact ⟨(y435),(wrap64 (x8_2 + 1)),qf_,H',⟨by have:=HK1.out;have:=HK2.out;omega⟩,⟨by (try simp only [hl7_1]);(try simp only [hl7_2]);(with_reducible repeat (first|apply ra_|apply rn_|apply rd_));exact HO_7.out⟩,⟨u0_ HB⟩⟩
                ·rw [if_neg c22] at H
                 exact absurd H (by simp)
               ·rw [if_neg c21] at H
                exact absurd H (by simp)
              ·replace c19:=Bool.eq_false_iff.mpr c19
               subst c19
               have H1 : (if 0 ≤ ((rd_T51 l1 x8_2).f1) then (if ((rd_T51 l1 x8_2).f1) < (x7_2.length : Int) then (if rdOf false x7_2 ((rd_T51 l1 x8_2).f1) = true then (spec_l7Joined.l1 k2 l1 ((x7_2.set (((rd_T51 l1 x8_2).f0) : Int).toNat true).set (((rd_T51 l1 x8_2).f1) : Int).toNat true) (wrap64 (x8_2 + 1)) a0 x15_1) else (spec_l7Joined.l1 k2 l1 x7_2 (wrap64 (x8_2 + 1)) a0 x15_1)) else (none)) else (none)) = some r:=by rw [if_neg (show ¬ (false = true) by decide)] at H;exact H
               clear H
               have H:=H1
               clear H1
               by_cases c28 : 0 ≤ ((rd_T51 l1 x8_2).f1)
               ·rw [if_pos c28] at H
                have c28b0 : decide (0 ≤ ((rd_T51 l1 x8_2).f1)) = true:=decide_eq_true c28
                clear c28
                by_cases c29 : ((rd_T51 l1 x8_2).f1) < (x7_2.length : Int)
                ·rw [if_pos c29] at H
                 have c29b0 : decide (((rd_T51 l1 x8_2).f1) < (x7_2.length : Int)) = true:=decide_eq_true c29
                 clear c29
                 obtain ⟨bq30,hbq30⟩ : ∃ b_ : Bool,b_ = (rdOf false x7_2 ((rd_T51 l1 x8_2).f1)):=⟨_,rfl⟩
                 replace H : (if bq30 = true then (spec_l7Joined.l1 k2 l1 ((x7_2.set (((rd_T51 l1 x8_2).f0) : Int).toNat true).set (((rd_T51 l1 x8_2).f1) : Int).toNat true) (wrap64 (x8_2 + 1)) a0 x15_1) else (spec_l7Joined.l1 k2 l1 x7_2 (wrap64 (x8_2 + 1)) a0 x15_1)) = some r:=by rw [← hbq30] at H;exact H
                 have Nbq30:=mk_ hbq30
                 clear hbq30
                 by_cases c31 : bq30 = true
                 ·subst c31
                  have H1 : (spec_l7Joined.l1 k2 l1 ((x7_2.set (((rd_T51 l1 x8_2).f0) : Int).toNat true).set (((rd_T51 l1 x8_2).f1) : Int).toNat true) (wrap64 (x8_2 + 1)) a0 x15_1) = some r:=by rw [if_pos rfl] at H;exact H
                  clear H
                  have H:=H1
                  clear H1
                  obtain ⟨y439,hy439⟩ : ∃ y_ : List Bool,y_ = (x7_2.set (((rd_T51 l1 x8_2).f0) : Int).toNat true):=⟨_,rfl⟩
                  replace H : (spec_l7Joined.l1 k2 l1 (y439.set (((rd_T51 l1 x8_2).f1) : Int).toNat true) (wrap64 (x8_2 + 1)) a0 x15_1) = some r:=by first|(rw [hy439];with_reducible exact H)|(have H2_:=(Option.bind_some _ _).symm.trans H;rw [hy439];with_reducible exact H2_)|(have H2_:=(Option.bind_some _ _).symm.trans H;with_reducible exact H2_)|with_reducible exact H|(rw [hy439];exact H)|exact H
                  have Ny439:=mk_ hy439
                  clear hy439
                  obtain ⟨y441,hy441⟩ : ∃ y_ : List Bool,y_ = (y439.set (((rd_T51 l1 x8_2).f1) : Int).toNat true):=⟨_,rfl⟩
                  replace H : (spec_l7Joined.l1 k2 l1 y441 (wrap64 (x8_2 + 1)) a0 x15_1) = some r:=by first|(rw [hy441];with_reducible exact H)|(have H2_:=(Option.bind_some _ _).symm.trans H;rw [hy441];with_reducible exact H2_)|(have H2_:=(Option.bind_some _ _).symm.trans H;with_reducible exact H2_)|with_reducible exact H|(rw [hy441];exact H)|exact H
                  have Ny441:=mk_ hy441
                  clear hy441
                  have H':=mk_ H
                  clear H
                  have p430 : 0 ≤ (x8_2 : Int):=od_ qa_
                  have q430 : x8_2 < (l1.length : Int):=od_ qa_
                  obtain ⟨ad430,e430,hx430_0,hx430_1,hx430_2⟩:=at_T51 HR1.out x8_2 p430 q430
                  cases e430
                  replace hx430_0:=(HB.out.cell (wl_ w _ hx430_0)).trans hx430_0
                  replace hx430_1:=(HB.out.cell (wl_ w _ hx430_1)).trans hx430_1
                  replace hx430_2:=(HB.out.cell (wl_ w _ hx430_2)).trans hx430_2
                  replace p430:=eq_true p430
                  replace q430:=eq_true q430
                  have p431 : 0 ≤ (((rd_T51 l1 x8_2).f0) : Int):=od_ qa_
                  have q431 : ((rd_T51 l1 x8_2).f0) < (x7_2.length : Int):=od_ qa_
                  obtain ⟨ad431,e431,hx431_0⟩:=Kd.at_bool (rr_ HO_7.out).2.2 ((rd_T51 l1 x8_2).f0) p431 q431
                  (try rw [← Nbq18.out] at hx431_0)
                  (try rw [← Nbq30.out] at hx431_0)
                  obtain rfl : (⟨go8,0,none⟩ : Addr) = ad431:=(by injection e431)
                  (first|simp only [add_plain] at hx431_0|simp only [add_at] at hx431_0|simp only [Addr.add,Nat.zero_add] at hx431_0|skip)
                  replace p431:=eq_true p431
                  replace q431:=eq_true q431
                  have p436 : 0 ≤ (x8_2 : Int):=od_ qa_
                  have q436 : x8_2 < (l1.length : Int):=od_ qa_
                  obtain ⟨ad436,e436,hx436_0,hx436_1,hx436_2⟩:=at_T51 HR1.out x8_2 p436 q436
                  obtain rfl : ad430 = ad436:=(by injection e436)
                  replace hx436_0:=(HB.out.cell (wl_ w _ hx436_0)).trans hx436_0
                  replace hx436_1:=(HB.out.cell (wl_ w _ hx436_1)).trans hx436_1
                  replace hx436_2:=(HB.out.cell (wl_ w _ hx436_2)).trans hx436_2
                  replace p436:=eq_true p436
                  replace q436:=eq_true q436
                  have p437 : 0 ≤ (((rd_T51 l1 x8_2).f1) : Int):=od_ qa_
                  have q437 : ((rd_T51 l1 x8_2).f1) < (x7_2.length : Int):=od_ qa_
                  obtain ⟨ad437,e437,hx437_0⟩:=Kd.at_bool (rr_ HO_7.out).2.2 ((rd_T51 l1 x8_2).f1) p437 q437
                  (try rw [← Nbq18.out] at hx437_0)
                  (try rw [← Nbq30.out] at hx437_0)
                  obtain rfl : (⟨go8,0,none⟩ : Addr) = ad437:=(by injection e437)
                  (first|simp only [add_plain] at hx437_0|simp only [add_at] at hx437_0|simp only [Addr.add,Nat.zero_add] at hx437_0|skip)
                  replace p437:=eq_true p437
                  replace q437:=eq_true q437
                  have p438 : 0 ≤ (x8_2 : Int):=od_ qa_
                  have q438 : x8_2 < (l1.length : Int):=od_ qa_
                  obtain ⟨ad438,e438,hx438_0,hx438_1,hx438_2⟩:=at_T51 HR1.out x8_2 p438 q438
                  obtain rfl : ad430 = ad438:=(by injection e438)
                  replace hx438_0:=(HB.out.cell (wl_ w _ hx438_0)).trans hx438_0
                  replace hx438_1:=(HB.out.cell (wl_ w _ hx438_1)).trans hx438_1
                  replace hx438_2:=(HB.out.cell (wl_ w _ hx438_2)).trans hx438_2
                  replace p438:=eq_true p438
                  replace q438:=eq_true q438
                  have p32 : 0 ≤ (((rd_T51 l1 x8_2).f0) : Int):=od_ qa_
                  have q32 : (((rd_T51 l1 x8_2).f0) : Int) < ((x7_2.length : Int) : Int):=od_ qa_
                  obtain ⟨hx32_0,hf32_0⟩:=Kd.R_celln false HO_7.out (((rd_T51 l1 x8_2).f0) : Int) p32 q32
                  replace p32:=eq_true p32
                  replace q32:=eq_true q32
                  have HP34:=Kd.R_putg HO_7.out (((rd_T51 l1 x8_2).f0) : Int) true
                  go_wp2_with (first|((with_reducible refine gate_store (t:=4) (p:=47) rfl ?_);refine store_event (t:=4) (p:=47) (v:=?vo_w35) (w1:=(wr.setCell ⟨go8,(((rd_T51 l1 x8_2).f0) : Int).toNat,none⟩ (.bool true))) ?hg ?ho ?hn ?hr ?_;(case ho => rfl);(case hg => rfl);(case hn => rfl);(case hr => first|(go_simp;done)|(go_simp;rfl));intro w35 hw;have hg : wr.grownBy w35 (some go8):=(by rw [hw];exact HP34.2);have hp_ : Kd.R Kd.bool 4 w35 w.heap.size (fun _ => True) (.slice (some ⟨go8,0,none⟩) x7_2.length co8) y439:=(by rw [hw,Ny439.out];exact HP34.1);clear HP34;have n0_:=mk_ (hp_);have n1_:=mk_ ((by rw [hw];exact bs_ (HB.out) GB8.out : Below w.heap.size w w35));clear HO_7;clear HB;have HO_7:=n0_;have HB:=n1_;clear n0_ n1_;clear hg hw hp_;have p440 : 0 ≤ (x8_2 : Int):=od_ qa_;have q440 : x8_2 < (l1.length : Int):=od_ qa_;obtain ⟨ad440,e440,hx440_0,hx440_1,hx440_2⟩:=at_T51 HR1.out x8_2 p440 q440;obtain rfl : ad430 = ad440:=(by injection e440);replace hx440_0:=(HB.out.cell (wl_ w _ hx440_0)).trans hx440_0;replace hx440_1:=(HB.out.cell (wl_ w _ hx440_1)).trans hx440_1;replace hx440_2:=(HB.out.cell (wl_ w _ hx440_2)).trans hx440_2;replace p440:=eq_true p440;replace q440:=eq_true q440;have p33 : 0 ≤ (((rd_T51 l1 x8_2).f1) : Int):=od_ qa_;have q33 : (((rd_T51 l1 x8_2).f1) : Int) < ((x7_2.length : Int) : Int):=od_ qa_;obtain ⟨hx33_0,hf33_0⟩:=Kd.R_celln false HO_7.out (((rd_T51 l1 x8_2).f1) : Int) p33 q33;replace p33:=eq_true p33;replace q33:=eq_true q33;obtain ⟨hy36_,hz36_⟩:=Kd.R_celln false HO_7.out (((rd_T51 l1 x8_2).f1) : Int) (od_ qa_) (od_ qa_);have HP36:=Kd.R_putg HO_7.out (((rd_T51 l1 x8_2).f1) : Int) true)|((with_reducible refine gate_store (t:=4) (p:=54) rfl ?_);refine store_event (t:=4) (p:=54) (v:=?vo_w37) (w1:=(w35.setCell ⟨go8,(((rd_T51 l1 x8_2).f1) : Int).toNat,none⟩ (.bool true))) ?hg ?ho ?hn ?hr ?_;(case ho => rfl);(case hg => rfl);(case hn => rfl);(case hr => first|(go_simp;done)|(go_simp;rfl));intro w37 hw;have hg : w35.grownBy w37 (some go8):=(by rw [hw];exact HP36.2);have hp_ : Kd.R Kd.bool 4 w37 w.heap.size (fun _ => True) (.slice (some ⟨go8,0,none⟩) x7_2.length co8) y441:=(by rw [hw,Ny441.out];exact HP36.1);clear HP36;have n0_:=mk_ (hp_);have n1_:=mk_ ((by rw [hw];exact bs_ (HB.out) GB8.out : Below w.heap.size w w37));clear HO_7;clear HB;have HO_7:=n0_;have HB:=n1_;clear n0_ n1_;clear hg hw hp_))
                  (try simp only [← hl7_2])
                  go_roundg k2
                  case measure => have:=HK1.out;have:=HK2.out;omega
                  case rel => exact ⟨(y441),(wrap64 (x8_2 + 1)),qf_,H',⟨by have:=HK1.out;have:=HK2.out;omega⟩,⟨by (try simp only [hl7_1]);(try simp only [hl7_2]);(with_reducible repeat (first|apply ra_|apply rn_|apply rd_));exact HO_7.out⟩,⟨u0_ HB⟩⟩
                 ·replace c31:=Bool.eq_false_iff.mpr c31
                  subst c31
                  have H1 : (spec_l7Joined.l1 k2 l1 x7_2 (wrap64 (x8_2 + 1)) a0 x15_1) = some r:=by rw [if_neg (show ¬ (false = true) by decide)] at H;exact H
                  clear H
                  have H:=H1
                  clear H1
                  have H':=mk_ H
                  clear H
                  have p430 : 0 ≤ (x8_2 : Int):=od_ qa_
                  have q430 : x8_2 < (l1.length : Int):=od_ qa_
                  obtain ⟨ad430,e430,hx430_0,hx430_1,hx430_2⟩:=at_T51 HR1.out x8_2 p430 q430
                  cases e430
                  replace hx430_0:=(HB.out.cell (wl_ w _ hx430_0)).trans hx430_0
                  replace hx430_1:=(HB.out.cell (wl_ w _ hx430_1)).trans hx430_1
                  replace hx430_2:=(HB.out.cell (wl_ w _ hx430_2)).trans hx430_2
                  replace p430:=eq_true p430
                  replace q430:=eq_true q430
                  have p431 : 0 ≤ (((rd_T51 l1 x8_2).f0) : Int):=od_ qa_
                  have q431 : ((rd_T51 l1 x8_2).f0) < (x7_2.length : Int):=od_ qa_
                  obtain ⟨ad431,e431,hx431_0⟩:=Kd.at_bool (rr_ HO_7.out).2.2 ((rd_T51 l1 x8_2).f0) p431 q431
                  (try rw [← Nbq18.out] at hx431_0)
                  (try rw [← Nbq30.out] at hx431_0)
                  obtain rfl : (⟨go8,0,none⟩ : Addr) = ad431:=(by injection e431)
                  (first|simp only [add_plain] at hx431_0|simp only [add_at] at hx431_0|simp only [Addr.add,Nat.zero_add] at hx431_0|skip)
                  replace p431:=eq_true p431
                  replace q431:=eq_true q431
                  have p436 : 0 ≤ (x8_2 : Int):=od_ qa_
                  have q436 : x8_2 < (l1.length : Int):=od_ qa_
                  obtain ⟨ad436,e436,hx436_0,hx436_1,hx436_2⟩:=at_T51 HR1.out x8_2 p436 q436
                  obtain rfl : ad430 = ad436:=(by injection e436)
                  replace hx436_0:=(HB.out.cell (wl_ w _ hx436_0)).trans hx436_0
                  replace hx436_1:=(HB.out.cell (wl_ w _ hx436_1)).trans hx436_1
                  replace hx436_2:=(HB.out.cell (wl_ w _ hx436_2)).trans hx436_2
                  replace p436:=eq_true p436
                  replace q436:=eq_true q436
                  have p437 : 0 ≤ (((rd_T51 l1 x8_2).f1) : Int):=od_ qa_
                  have q437 : ((rd_T51 l1 x8_2).f1) < (x7_2.length : Int):=od_ qa_
                  obtain ⟨ad437,e437,hx437_0⟩:=Kd.at_bool (rr_ HO_7.out).2.2 ((rd_T51 l1 x8_2).f1) p437 q437
                  (try rw [← Nbq18.out] at hx437_0)
                  (try rw [← Nbq30.out] at hx437_0)
                  obtain rfl : (⟨go8,0,none⟩ : Addr) = ad437:=(by injection e437)
                  (first|simp only [add_plain] at hx437_0|simp only [add_at] at hx437_0|simp only [Addr.add,Nat.zero_add] at hx437_0|skip)
                  replace p437:=eq_true p437
                  replace q437:=eq_true q437
                  go_wp2
                  (try simp only [← hl7_2])
                  go_roundg k2
                  case measure => have:=HK1.out;have:=HK2.out;omega
                  case rel => exact ⟨(x7_2),(wrap64 (x8_2 + 1)),qf_,H',⟨by have:=HK1.out;have:=HK2.out;omega⟩,⟨by (try simp only [hl7_1]);(try simp only [hl7_2]);(with_reducible repeat (first|apply ra_|apply rn_|apply rd_));exact HO_7.out⟩,⟨u0_ HB⟩⟩
                ·rw [if_neg c29] at H
                 exact absurd H (by simp)
               ·rw [if_neg c28] at H
                exact absurd H (by simp)
             ·rw [if_neg c17] at H
              exact absurd H (by simp)
            ·rw [if_neg c16] at H
             exact absurd H (by simp)
           ·rw [if_neg c15] at H
            exact absurd H (by simp)
          ·rw [if_neg c14] at H
           have c14b0 : decide (x8_2 < (l1.length : Int)) = false:=decide_eq_false c14
           clear c14
           have H':=mk_ H
           clear H
           go_wp2
           (try simp only [← hl7_1,← hl7_2])
           go_roundg k2
           case measure => have:=HK1.out;have:=HK2.out;omega
           case rel => exact ⟨(x7_2),(wrap64 (x15_1 + 1)),qf_,H',⟨by have:=HK1.out;have:=HK2.out;omega⟩,⟨by (try simp only [hl7_1]);(try simp only [hl7_2]);(with_reducible repeat (first|apply ra_|apply rn_|apply rd_));exact HO_7.out⟩,⟨u0_ HB⟩⟩
       ·rw [if_neg c13] at H
        have c13b0 : decide (x15_1 < a0) = false:=decide_eq_false c13
        clear c13
        obtain rfl:=Option.some.inj H
        go_wp2
        go_ret
        exact ⟨_,qe_,qr_ HO_7,u0_ HB⟩
    ·rw [if_neg c7] at H
     exact absurd H (by simp)
   ·rw [if_neg c6] at H
    exact absurd H (by simp)
  ·rw [if_neg c5] at H
   exact absurd H (by simp)
 ·rw [if_neg c4] at H
  exact absurd H (by simp)

/-! ### spec_l7Root: function 68 -/
def spec_l7Root.l0 : Nat → List Bool → Int → Option (Int)
 | 0,_,_ => none
 | k + 1,x7,x8 => if 0 ≤ x8 then (if x8 < (x7.length : Int) then (if rdOf false x7 x8 = true then (some x8) else (spec_l7Root.l0 k x7 (wrap64 (x8 + 1)))) else (none)) else (none)
def spec_l7Root.f (k : Nat) (a0 : Int) (l1 : List (S51)) (a2 : Int) : Option (Int):=(spec_l7Joined.f k a0 l1 a2).bind fun t442 => (spec_l7Root.l0 k t442 0)
theorem spec_l7Root.mono_l : ∀ k,(∀ y0 y1,LeO (spec_l7Root.l0 k y0 y1) (spec_l7Root.l0 (k + 1) y0 y1))
 | 0 => fun _ _ r h => by simp [spec_l7Root.l0] at h
 | k + 1 => by
  have ih0:=spec_l7Root.mono_l k
  ·intro y0 y1
   unfold spec_l7Root.l0
   repeat' first
   | (with_reducible exact ih0 _ _)
   | (with_reducible exact spec_l7Joined.mono _ _ _ _)
   | (with_reducible exact LeO.refl _)
   | (with_reducible exact LeO.none _)
   | (with_reducible refine LeO.ite ?_ ?_)
   | (with_reducible refine LeO.bind ?_ (fun _ => ?_))
   | exact ih0 _ _
   | exact spec_l7Joined.mono _ _ _ _
   | exact LeO.none _
   | refine LeO.ite ?_ ?_
   | refine LeO.bind ?_ (fun _ => ?_)
theorem spec_l7Root.mono : ∀ a0 a1 a2 k,LeO (spec_l7Root.f k a0 a1 a2) (spec_l7Root.f (k + 1) a0 a1 a2):=by
 intro a0 a1 a2 k
 have ih0:=spec_l7Root.mono_l k
 unfold spec_l7Root.f
 repeat' first
   | (with_reducible exact ih0 _ _)
   | (with_reducible exact spec_l7Joined.mono _ _ _ _)
   | (with_reducible exact LeO.refl _)
   | (with_reducible exact LeO.none _)
   | (with_reducible refine LeO.ite ?_ ?_)
   | (with_reducible refine LeO.bind ?_ (fun _ => ?_))
   | exact ih0 _ _
   | exact spec_l7Joined.mono _ _ _ _
   | exact LeO.none _
   | refine LeO.ite ?_ ?_
   | refine LeO.bind ?_ (fun _ => ?_)
set_option maxHeartbeats 8000000 in
set_option maxRecDepth 100000 in
theorem spec_l7Root.calls (k : Nat) (a0 : Int) (A1 : Option Addr) (c1 : Nat) (l1 : List (S51)) (a2 : Int) (r : Int) (w : World) (hr1 : Kd.C k51 w A1 l1.length l1) (hc1 : l1.length ≤ c1) (h : spec_l7Root.f k a0 l1 a2 = some r) :
  Calls Try.prog 68 #[.int .i64 a0,.slice A1 l1.length c1,.int .i64 a2] w fun e w' => e = .returned (.int .i64 r) ∧ Below w.heap.size w w':=by
 have HR1:=mk_ hr1
 have HC1:=mk_ hc1
 clear hr1 hc1
 have HB:=mk_ (Below.refl w.heap.size w)
 have H : ((spec_l7Joined.f k a0 l1 a2).bind fun t442 => (spec_l7Root.l0 k t442 0)) = some r:=h
 clear h
 replace H:=Option.bind_eq_some_iff.mp H
 obtain ⟨t442,A40,H⟩:=H
 replace H : (spec_l7Root.l0 k t442 0) = some r:=H
 have A4:=mk_ A40
 clear A40
 have H':=mk_ H
 clear H
 go_enter Try.func68,Try.ntmps68
 go_wp2_with (first|((with_reducible refine gate_callee (f:=57) rfl ?_);refine goesL_ (some 12) rfl rfl Try.func57 (by kernel_rfl) rfl #[.int .i64 a0,.slice A1 l1.length c1,.int .i64 a2] rfl qm_ ?_;(with_reducible refine (spec_l7Joined.calls k a0 _ _ l1 a2 t442 _ ?side1 ?side2 A4.out).mono ?_);(case side1 => repeat (first|exact HR1.out|(with_reducible refine ca_ ?_ _)|(with_reducible refine cn_ ?_ _)|(with_reducible refine cd_ ?_)));(case side2 => exact HC1.out);rintro e w5 ⟨v443,rfl,ho0,hb⟩;refine ⟨_,rfl,?_⟩;have n0_:=mk_ (Kd.R_lower ho0 (bz_ (qb_ HB)));have n1_:=mk_ (st_ (qb_ HB) hb);clear HB;have HO444:=n0_;have HB:=n1_;clear n0_ n1_;(try clear hb);(try clear hb2);(try clear hk);(try clear hi);(try clear ho0)))
 go_loopg [8] k (fun kq v8 w' => ∃ (x8_1 : Int),v8 = .int .i64 x8_1 ∧ Aside0 (spec_l7Root.l0 kq t442 x8_1 = some r) ∧ Aside0 (kq ≤ k) ∧ Aside0 (Kd.R Kd.bool 4 w' w.heap.size (fun _ => True) v443 t442) ∧ Aside0 (Below w.heap.size w w'))
 case atStart => exact ⟨(0),qf_,H',⟨Nat.le_refl _⟩,⟨qr_ HO444⟩,⟨u0_ HB⟩⟩
 case round =>
  clear H'
  try clear c1
  try clear p2
  try clear c5
  obtain ⟨x8_1,rfl,HA,HK1,HO_7,HB⟩:=hrel
  cases gk with
  | zero => exact absurd HA.out (by simp [spec_l7Root.l0])
  | succ k1 =>
   have H:=HA.out
   clear HA
   simp only [spec_l7Root.l0] at H
   by_cases c6 : 0 ≤ x8_1
   ·rw [if_pos c6] at H
    have c6b0 : decide (0 ≤ x8_1) = true:=decide_eq_true c6
    clear c6
    by_cases c7 : x8_1 < (t442.length : Int)
    ·rw [if_pos c7] at H
     have c7b0 : decide (x8_1 < (t442.length : Int)) = true:=decide_eq_true c7
     clear c7
     obtain ⟨bq8,hbq8⟩ : ∃ b_ : Bool,b_ = (rdOf false t442 x8_1):=⟨_,rfl⟩
     replace H : (if bq8 = true then (some x8_1) else (spec_l7Root.l0 k1 t442 (wrap64 (x8_1 + 1)))) = some r:=by rw [← hbq8] at H;exact H
     have Nbq8:=mk_ hbq8
     clear hbq8
     by_cases c9 : bq8 = true
     ·subst c9
      have H1 : (some x8_1) = some r:=by rw [if_pos rfl] at H;exact H
      clear H
      have H:=H1
      clear H1
      obtain rfl:=Option.some.inj H
      obtain ⟨Ao10,co10,eo10⟩:=Kd.R_slice HO_7.out
      subst eo10
      have p445 : 0 ≤ (x8_1 : Int):=od_ qa_
      have q445 : x8_1 < (t442.length : Int):=od_ qa_
      obtain ⟨ad445,e445,hx445_0⟩:=Kd.at_bool (rr_ HO_7.out).2.2 x8_1 p445 q445
      (try rw [← Nbq8.out] at hx445_0)
      cases e445
      replace p445:=eq_true p445
      replace q445:=eq_true q445
      go_wp2
      go_ret
      exact ⟨qe_,u0_ HB⟩
     ·replace c9:=Bool.eq_false_iff.mpr c9
      subst c9
      have H1 : (spec_l7Root.l0 k1 t442 (wrap64 (x8_1 + 1))) = some r:=by rw [if_neg (show ¬ (false = true) by decide)] at H;exact H
      clear H
      have H:=H1
      clear H1
      have H':=mk_ H
      clear H
      obtain ⟨Ao11,co11,eo11⟩:=Kd.R_slice HO_7.out
      subst eo11
      have p445 : 0 ≤ (x8_1 : Int):=od_ qa_
      have q445 : x8_1 < (t442.length : Int):=od_ qa_
      obtain ⟨ad445,e445,hx445_0⟩:=Kd.at_bool (rr_ HO_7.out).2.2 x8_1 p445 q445
      (try rw [← Nbq8.out] at hx445_0)
      cases e445
      replace p445:=eq_true p445
      replace q445:=eq_true q445
      go_wp2
      go_roundg k1
      case measure => have:=HK1.out;omega
      case rel => exact ⟨(wrap64 (x8_1 + 1)),qf_,H',⟨by have:=HK1.out;omega⟩,⟨qr_ HO_7⟩,⟨u0_ HB⟩⟩
    ·rw [if_neg c7] at H
     exact absurd H (by simp)
   ·rw [if_neg c6] at H
    exact absurd H (by simp)

/-! ### spec_l7Costs: function 85 -/
mutual
def spec_l7Costs.l0 : Nat → Int → List (S51) → List Int → Int → Option (List Int)
 | 0,_,_,_,_ => none
 | k + 1,x0,x1,x5,x6 => if x6 < x0 then ((spec_l7Root.f k x0 x1 x6).bind fun t449 => (if t449 = x6 then (if x5.length < 17592186044416 then (spec_l7Costs.l0 k x0 x1 (x5 ++ [0]) (wrap64 (x6 + 1))) else (none)) else (if x5.length < 17592186044416 then (spec_l7Costs.l0 k x0 x1 (x5 ++ [10000]) (wrap64 (x6 + 1))) else (none)))) else (spec_l7Costs.l1 k x1 x5 x0 0)
def spec_l7Costs.l1 : Nat → List (S51) → List Int → Int → Int → Option (List Int)
 | 0,_,_,_,_ => none
 | k + 1,x1,x5,x27,x28 => if x28 < x27 then (spec_l7Costs.l2 k x1 x5 0 x27 x28) else (some x5)
def spec_l7Costs.l2 : Nat → List (S51) → List Int → Int → Int → Int → Option (List Int)
 | 0,_,_,_,_,_ => none
 | k + 1,x1,x5,x7,x27,x28 => if x7 < (x1.length : Int) then (if 0 ≤ x7 then (if 0 ≤ ((rd_T51 x1 x7).f0) then (if ((rd_T51 x1 x7).f0) < (x5.length : Int) then (if 0 ≤ ((rd_T51 x1 x7).f1) then (if ((rd_T51 x1 x7).f1) < (x5.length : Int) then ((some (x5.set (((rd_T51 x1 x7).f0) : Int).toNat (mn (rd x5 ((rd_T51 x1 x7).f0)) (wrap64 ((rd x5 ((rd_T51 x1 x7).f1)) + ((rd_T51 x1 x7).f2)))) : List Int)).bind fun y460 => (spec_l7Costs.l2 k x1 (y460.set (((rd_T51 x1 x7).f1) : Int).toNat (mn (rd y460 ((rd_T51 x1 x7).f1)) (wrap64 ((rd y460 ((rd_T51 x1 x7).f0)) + ((rd_T51 x1 x7).f2))))) (wrap64 (x7 + 1)) x27 x28)) else (none)) else (none)) else (none)) else (none)) else (none)) else (spec_l7Costs.l1 k x1 x5 x27 (wrap64 (x28 + 1)))
end
def spec_l7Costs.f (k : Nat) (a0 : Int) (l1 : List (S51)) : Option (List Int):=spec_l7Costs.l0 k a0 l1 (([] : List Int)) 0
theorem spec_l7Costs.mono_l : ∀ k,(∀ y0 y1 y2 y3,LeO (spec_l7Costs.l0 k y0 y1 y2 y3) (spec_l7Costs.l0 (k + 1) y0 y1 y2 y3)) ∧ (∀ y0 y1 y2 y3,LeO (spec_l7Costs.l1 k y0 y1 y2 y3) (spec_l7Costs.l1 (k + 1) y0 y1 y2 y3)) ∧ (∀ y0 y1 y2 y3 y4,LeO (spec_l7Costs.l2 k y0 y1 y2 y3 y4) (spec_l7Costs.l2 (k + 1) y0 y1 y2 y3 y4))
 | 0 => ⟨fun _ _ _ _ r h => by simp [spec_l7Costs.l0] at h,fun _ _ _ _ r h => by simp [spec_l7Costs.l1] at h,fun _ _ _ _ _ r h => by simp [spec_l7Costs.l2] at h⟩
 | k + 1 => by
  obtain ⟨ih0,ih1,ih2⟩:=spec_l7Costs.mono_l k
  refine ⟨?_,?_,?_⟩
  ·intro y0 y1 y2 y3
   unfold spec_l7Costs.l0
   repeat' first
   | (with_reducible exact ih0 _ _ _ _)
   | (with_reducible exact ih1 _ _ _ _)
   | (with_reducible exact ih2 _ _ _ _ _)
   | (with_reducible exact spec_l7Root.mono _ _ _ _)
   | (with_reducible exact LeO.refl _)
   | (with_reducible exact LeO.none _)
   | (with_reducible refine LeO.ite ?_ ?_)
   | (with_reducible refine LeO.bind ?_ (fun _ => ?_))
   | exact ih0 _ _ _ _
   | exact ih1 _ _ _ _
   | exact ih2 _ _ _ _ _
   | exact spec_l7Root.mono _ _ _ _
   | exact LeO.none _
   | refine LeO.ite ?_ ?_
   | refine LeO.bind ?_ (fun _ => ?_)
  ·intro y0 y1 y2 y3
   unfold spec_l7Costs.l1
   repeat' first
   | (with_reducible exact ih0 _ _ _ _)
   | (with_reducible exact ih1 _ _ _ _)
   | (with_reducible exact ih2 _ _ _ _ _)
   | (with_reducible exact spec_l7Root.mono _ _ _ _)
   | (with_reducible exact LeO.refl _)
   | (with_reducible exact LeO.none _)
   | (with_reducible refine LeO.ite ?_ ?_)
   | (with_reducible refine LeO.bind ?_ (fun _ => ?_))
   | exact ih0 _ _ _ _
   | exact ih1 _ _ _ _
   | exact ih2 _ _ _ _ _
   | exact spec_l7Root.mono _ _ _ _
   | exact LeO.none _
   | refine LeO.ite ?_ ?_
   | refine LeO.bind ?_ (fun _ => ?_)
  ·intro y0 y1 y2 y3 y4
   unfold spec_l7Costs.l2
   repeat' first
   | (with_reducible exact ih0 _ _ _ _)
   | (with_reducible exact ih1 _ _ _ _)
   | (with_reducible exact ih2 _ _ _ _ _)
   | (with_reducible exact spec_l7Root.mono _ _ _ _)
   | (with_reducible exact LeO.refl _)
   | (with_reducible exact LeO.none _)
   | (with_reducible refine LeO.ite ?_ ?_)
   | (with_reducible refine LeO.bind ?_ (fun _ => ?_))
   | exact ih0 _ _ _ _
   | exact ih1 _ _ _ _
   | exact ih2 _ _ _ _ _
   | exact spec_l7Root.mono _ _ _ _
   | exact LeO.none _
   | refine LeO.ite ?_ ?_
   | refine LeO.bind ?_ (fun _ => ?_)
theorem spec_l7Costs.mono : ∀ a0 a1 k,LeO (spec_l7Costs.f k a0 a1) (spec_l7Costs.f (k + 1) a0 a1):=by
 intro a0 a1 k
 obtain ⟨ih0,ih1,ih2⟩:=spec_l7Costs.mono_l k
 unfold spec_l7Costs.f
 repeat' first
   | (with_reducible exact ih0 _ _ _ _)
   | (with_reducible exact ih1 _ _ _ _)
   | (with_reducible exact ih2 _ _ _ _ _)
   | (with_reducible exact spec_l7Root.mono _ _ _ _)
   | (with_reducible exact LeO.refl _)
   | (with_reducible exact LeO.none _)
   | (with_reducible refine LeO.ite ?_ ?_)
   | (with_reducible refine LeO.bind ?_ (fun _ => ?_))
   | exact ih0 _ _ _ _
   | exact ih1 _ _ _ _
   | exact ih2 _ _ _ _ _
   | exact spec_l7Root.mono _ _ _ _
   | exact LeO.none _
   | refine LeO.ite ?_ ?_
   | refine LeO.bind ?_ (fun _ => ?_)
def spec_l7Costs.T14 : Bool × List (List Nat × List Nat):=(true,[([],[]),([],[]),([1],[1]),([],[]),([],[]),([4],[4]),([3,5],[3,5]),([6],[6]),([],[]),([],[]),([9],[9]),([8,10],[8,10]),([11],[11]),([],[]),([13],[13]),([12,14],[12,14]),([7,15],[7,15]),([0,2,0,1,2,3,4,5,6,7,8,9,10,11,12,13,14,15,16],[0,2]),([17,16,0,1,2,3,4,5,6,7,8,9,10,11,12,13,14,15,16],[16,17])])
def spec_l7Costs.B14 : List Nat:=[0,0,2,0,0,16,56,120,0,0,512,1792,3840,0,8192,32512,65528,131071,262143]
theorem spec_l7Costs.tab14 : rtab .any (opsOf Try.f85 14) = spec_l7Costs.T14:=by kernel_rfl
theorem spec_l7Costs.bits14 : waitsOk spec_l7Costs.T14.2 spec_l7Costs.B14 = true:=by kernel_rfl
def spec_l7Costs.T15 : Bool × List (List Nat × List Nat):=(true,[([],[]),([],[]),([1],[1]),([],[]),([],[]),([4],[4]),([3,5],[3,5]),([6],[6]),([],[]),([],[]),([9],[9]),([8,10],[8,10]),([11],[11]),([],[]),([13],[13]),([12,14],[12,14]),([7,15],[7,15]),([0,2,0,1,2,3,4,5,6,7,8,9,10,11,12,13,14,15,16],[0,2]),([17,16,0,1,2,3,4,5,6,7,8,9,10,11,12,13,14,15,16],[16,17])])
def spec_l7Costs.B15 : List Nat:=[0,0,2,0,0,16,56,120,0,0,512,1792,3840,0,8192,32512,65528,131071,262143]
theorem spec_l7Costs.tab15 : rtab .any (opsOf Try.f85 15) = spec_l7Costs.T15:=by kernel_rfl
theorem spec_l7Costs.bits15 : waitsOk spec_l7Costs.T15.2 spec_l7Costs.B15 = true:=by kernel_rfl
set_option maxHeartbeats 8000000 in
set_option maxRecDepth 100000 in
theorem spec_l7Costs.calls (k : Nat) (a0 : Int) (A1 : Option Addr) (c1 : Nat) (l1 : List (S51)) (r : List Int) (w : World) (hr1 : Kd.C k51 w A1 l1.length l1) (hc1 : l1.length ≤ c1) (h : spec_l7Costs.f k a0 l1 = some r) :
  Calls Try.prog 85 #[.int .i64 a0,.slice A1 l1.length c1] w fun e w' => ∃ v0_ : Value,e = .returned (v0_) ∧ Kd.R (Kd.int .i64) 3 w' w.heap.size (fun _ => True) v0_ r ∧ Below w.heap.size w w':=by
 have hu51:=Try.underlying51
 have HR1:=mk_ hr1
 have HC1:=mk_ hc1
 clear hr1 hc1
 have HB:=mk_ (Below.refl w.heap.size w)
 have H : (spec_l7Costs.l0 k a0 l1 (([] : List Int)) 0) = some r:=h
 clear h
 obtain ⟨y446,hy446⟩ : ∃ y_ : List Int,y_ = (([] : List Int)):=⟨_,rfl⟩
 replace H : (spec_l7Costs.l0 k a0 l1 y446 0) = some r:=by first|(rw [hy446];with_reducible exact H)|(have H2_:=(Option.bind_some _ _).symm.trans H;rw [hy446];with_reducible exact H2_)|(have H2_:=(Option.bind_some _ _).symm.trans H;with_reducible exact H2_)|with_reducible exact H|(rw [hy446];exact H)|exact H
 have Ny446:=mk_ hy446
 clear hy446
 have H':=mk_ H
 clear H
 go_enter Try.func85,Try.ntmps85
 go_wp2_with (first|((with_reducible refine gate_dst (N:=9) rfl ?_);refine Kd.R_lit (Kd.int .i64) _ 3 ?hg (N:=9) ?hd (xs:=([] : List Int)) (inner:=[]) (ok:=fun _ => True) (okp:=fun _ => True) ?hr ?hp (fun _ hk => hk) trivial (Below.refl _ _) (Nat.le_refl _) (by simp) ?_;(case hd => rfl);(case hg => rfl);(case hr => first|(go_simp;done)|(go_simp;rfl));(case hp => exact (Reps.none _ _));intro v447 w3 ho4 hb hg_ hnew_;clear hg_ hnew_;(first|rw [← Ny446.out] at ho4|(simp only [Int.reduceToNat] at ho4;rw [← Ny446.out] at ho4));have n0_:=mk_ (Kd.R_lower ho4 (bz_ (qb_ HB)));have n1_:=mk_ (st_ (qb_ HB) hb);clear HB;have HO448:=n0_;have HB:=n1_;clear n0_ n1_;clear hb ho4))
 go_loopg [5,6] k (fun kq v5 v6 w' => ∃ (x5_1 : List Int) (x6_1 : Int),v6 = .int .i64 x6_1 ∧ Aside0 (spec_l7Costs.l0 kq a0 l1 x5_1 x6_1 = some r) ∧ Aside0 (kq ≤ k) ∧ Aside0 (Kd.R (Kd.int .i64) 3 w' w.heap.size (fun _ => True) v5 x5_1) ∧ Aside0 (Below w.heap.size w w'))
 case atStart => exact ⟨(y446),(0),qf_,H',⟨Nat.le_refl _⟩,⟨qr_ HO448⟩,⟨u0_ HB⟩⟩
 case round =>
  clear H'
  try clear c1
  try clear p2
  obtain ⟨x5_1,x6_1,rfl,HA,HK1,HO_5,HB⟩:=hrel
  cases gk with
  | zero => exact absurd HA.out (by simp [spec_l7Costs.l0])
  | succ k1 =>
   have H:=HA.out
   clear HA
   simp only [spec_l7Costs.l0] at H
   by_cases c5 : x6_1 < a0
   ·rw [if_pos c5] at H
    have c5b0 : decide (x6_1 < a0) = true:=decide_eq_true c5
    clear c5
    replace H:=Option.bind_eq_some_iff.mp H
    obtain ⟨t449,A60,H⟩:=H
    replace H : (if t449 = x6_1 then (if x5_1.length < 17592186044416 then (spec_l7Costs.l0 k1 a0 l1 (x5_1 ++ [0]) (wrap64 (x6_1 + 1))) else (none)) else (if x5_1.length < 17592186044416 then (spec_l7Costs.l0 k1 a0 l1 (x5_1 ++ [10000]) (wrap64 (x6_1 + 1))) else (none))) = some r:=H
    have A6:=mk_ A60
    clear A60
    by_cases c7 : t449 = x6_1
    ·rw [if_pos c7] at H
     have c7b0 : (t449 == x6_1) = true:=beq_iff_eq.mpr c7
     have c7b1 : (t449 != x6_1) = false:=bne_eq_false_iff_eq.mpr c7
     clear c7
     by_cases c8 : x5_1.length < 17592186044416
     ·rw [if_pos c8] at H
      have LMc8:=mk_ c8
      clear c8
      obtain ⟨y450,hy450⟩ : ∃ y_ : List Int,y_ = (x5_1 ++ [0]):=⟨_,rfl⟩
      replace H : (spec_l7Costs.l0 k1 a0 l1 y450 (wrap64 (x6_1 + 1))) = some r:=by first|(rw [hy450];with_reducible exact H)|(have H2_:=(Option.bind_some _ _).symm.trans H;rw [hy450];with_reducible exact H2_)|(have H2_:=(Option.bind_some _ _).symm.trans H;with_reducible exact H2_)|with_reducible exact H|(rw [hy450];exact H)|exact H
      have Ny450:=mk_ hy450
      clear hy450
      have H':=mk_ H
      clear H
      go_wp2_with (first|((with_reducible refine gate_callee (f:=68) rfl ?_);refine goesL_ (some 18) rfl rfl Try.func68 (by kernel_rfl) rfl #[.int .i64 a0,.slice A1 l1.length c1,.int .i64 x6_1] rfl qm_ ?_;(with_reducible refine (spec_l7Root.calls k1 a0 _ _ l1 x6_1 t449 _ ?side1 ?side2 A6.out).mono ?_);(case side1 => exact qn_ HR1 HB);(case side2 => exact HC1.out);rintro e w9 ⟨rfl,hb⟩;refine ⟨_,rfl,?_⟩;have n0_:=mk_ (rb_ (qr_ HO_5) hb);have n1_:=mk_ (st_ (qb_ HB) hb);clear HO_5;clear HB;have HO_5:=n0_;have HB:=n1_;clear n0_ n1_;(try clear hb);(try clear hb2);(try clear hk);(try clear hi))|((with_reducible refine gate_builtin (b:=.append) (xs:=#[.tmp 21,.tmp 22]) rfl ?_);at_builtin;refine Kd.R_append (Kd.int .i64) (w0:=w) w.heap.size rfl (.tmp 21) (.tmp 22) 23 3 (.int .i64 0) 8 rfl Try.underlying23 info3 rfl (by decide) (by omega) u5 x5_1 0 [.int .i64 0] (fun _ => True) (fun _ => False) rfl rfl ?aP (fun _ hk => hk.elim) ?aF ?aO ?aB ?aS ?aL ?_;(case aP => exact rfl);(case aB => exact (qb_ HB));(case aF => exact (fun _ _ => trivial));(case aO => exact (qr_ HO_5));(case aS => exact (bz_ (qb_ HB)));(case aL => have:=LMc8.out;omega);intro v451 w10 ho hb hg hat;rw [← Ny450.out] at ho;have n0_:=mk_ (hb);have n1_:=mk_ (ho);clear HB;clear HO_5;have HB:=n0_;have HO452:=n1_;clear n0_ n1_;clear ho hb hg hat))
      go_roundg k1
      case measure => have:=HK1.out;omega
      case rel => exact ⟨(y450),(wrap64 (x6_1 + 1)),qf_,H',⟨by have:=HK1.out;omega⟩,⟨qr_ HO452⟩,⟨u0_ HB⟩⟩
     ·rw [if_neg c8] at H
      exact absurd H (by simp)
    ·rw [if_neg c7] at H
     have c7b0 : (t449 == x6_1) = false:=beq_eq_false_iff_ne.mpr c7
     have c7b1 : (t449 != x6_1) = true:=bne_iff_ne.mpr c7
     by_cases c11 : x5_1.length < 17592186044416
     ·rw [if_pos c11] at H
      have LMc11:=mk_ c11
      clear c11
      obtain ⟨y453,hy453⟩ : ∃ y_ : List Int,y_ = (x5_1 ++ [10000]):=⟨_,rfl⟩
      replace H : (spec_l7Costs.l0 k1 a0 l1 y453 (wrap64 (x6_1 + 1))) = some r:=by first|(rw [hy453];with_reducible exact H)|(have H2_:=(Option.bind_some _ _).symm.trans H;rw [hy453];with_reducible exact H2_)|(have H2_:=(Option.bind_some _ _).symm.trans H;with_reducible exact H2_)|with_reducible exact H|(rw [hy453];exact H)|exact H
      have Ny453:=mk_ hy453
      clear hy453
      have H':=mk_ H
      clear H
      go_wp2_with (first|((with_reducible refine gate_callee (f:=68) rfl ?_);refine goesL_ (some 18) rfl rfl Try.func68 (by kernel_rfl) rfl #[.int .i64 a0,.slice A1 l1.length c1,.int .i64 x6_1] rfl qm_ ?_;(with_reducible refine (spec_l7Root.calls k1 a0 _ _ l1 x6_1 t449 _ ?side1 ?side2 A6.out).mono ?_);(case side1 => exact qn_ HR1 HB);(case side2 => exact HC1.out);rintro e w12 ⟨rfl,hb⟩;refine ⟨_,rfl,?_⟩;have n0_:=mk_ (rb_ (qr_ HO_5) hb);have n1_:=mk_ (st_ (qb_ HB) hb);clear HO_5;clear HB;have HO_5:=n0_;have HB:=n1_;clear n0_ n1_;(try clear hb);(try clear hb2);(try clear hk);(try clear hi))|((with_reducible refine gate_builtin (b:=.append) (xs:=#[.tmp 24,.tmp 25]) rfl ?_);at_builtin;refine Kd.R_append (Kd.int .i64) (w0:=w) w.heap.size rfl (.tmp 24) (.tmp 25) 23 3 (.int .i64 0) 8 rfl Try.underlying23 info3 rfl (by decide) (by omega) u5 x5_1 10000 [.int .i64 10000] (fun _ => True) (fun _ => False) rfl rfl ?aP (fun _ hk => hk.elim) ?aF ?aO ?aB ?aS ?aL ?_;(case aP => exact rfl);(case aB => exact (qb_ HB));(case aF => exact (fun _ _ => trivial));(case aO => exact (qr_ HO_5));(case aS => exact (bz_ (qb_ HB)));(case aL => have:=LMc11.out;omega);intro v454 w13 ho hb hg hat;rw [← Ny453.out] at ho;have n0_:=mk_ (hb);have n1_:=mk_ (ho);clear HB;clear HO_5;have HB:=n0_;have HO455:=n1_;clear n0_ n1_;clear ho hb hg hat))
      go_roundg k1
      case measure => have:=HK1.out;omega
      case rel => exact ⟨(y453),(wrap64 (x6_1 + 1)),qf_,H',⟨by have:=HK1.out;omega⟩,⟨qr_ HO455⟩,⟨u0_ HB⟩⟩
     ·rw [if_neg c11] at H
      exact absurd H (by simp)
   ·rw [if_neg c5] at H
    have c5b0 : decide (x6_1 < a0) = false:=decide_eq_false c5
    clear c5
    have H':=mk_ H
    clear H
    go_wp2
    go_loopg [28] k1 (fun kq v28 w' => ∃ (x5_2 : List Int) (x28_2 : Int),v28 = .int .i64 x28_2 ∧ Aside0 (spec_l7Costs.l1 kq l1 x5_2 a0 x28_2 = some r) ∧ Aside0 (kq ≤ k1) ∧ Aside0 (Kd.R (Kd.int .i64) 3 w' w.heap.size (fun _ => True) u5 x5_2) ∧ Aside0 (Below w.heap.size w w'))
    case atStart => exact ⟨(x5_1),(0),qf_,H',⟨Nat.le_refl _⟩,⟨qr_ HO_5⟩,⟨u0_ HB⟩⟩
    case round =>
     clear H'
     try clear c1
     try clear p2
     try clear c5
     try clear c5b0
     try clear c6
     try clear p6
     try clear c7
     try clear c7b0
     try clear c7b1
     try clear c8
     try clear c11
     try clear p2
     obtain ⟨x5_2,x28_2,rfl,HA,HK2,HO_5,HB⟩:=hrel
     cases gk with
     | zero => exact absurd HA.out (by simp [spec_l7Costs.l1])
     | succ k2 =>
      have H:=HA.out
      clear HA
      simp only [spec_l7Costs.l1] at H
      by_cases c14 : x28_2 < a0
      ·rw [if_pos c14] at H
       have c14b0 : decide (x28_2 < a0) = true:=decide_eq_true c14
       clear c14
       have H':=mk_ H
       clear H
       go_wp2
       go_loopg [7] k2 (fun kq v7 w' => ∃ (x5_3 : List Int) (x7_3 : Int),v7 = .int .i64 x7_3 ∧ Aside0 (spec_l7Costs.l2 kq l1 x5_3 x7_3 a0 x28_2 = some r) ∧ Aside0 (kq ≤ k2) ∧ Aside0 (Kd.R (Kd.int .i64) 3 w' w.heap.size (fun _ => True) u5 x5_3) ∧ Aside0 (Below w.heap.size w w'))
       case atStart => exact ⟨(x5_2),(0),qf_,H',⟨Nat.le_refl _⟩,⟨qr_ HO_5⟩,⟨u0_ HB⟩⟩
       case round =>
        clear H'
        try clear c1
        try clear p2
        try clear c5
        try clear c5b0
        try clear c6
        try clear p6
        try clear c7
        try clear c7b0
        try clear c7b1
        try clear c8
        try clear c11
        try clear c14
        try clear c14b0
        try clear p2
        try clear p6
        obtain ⟨x5_3,x7_3,rfl,HA,HK3,HO_5,HB⟩:=hrel
        cases gk with
        | zero => exact absurd HA.out (by simp [spec_l7Costs.l2])
        | succ k3 =>
         have H:=HA.out
         clear HA
         simp only [spec_l7Costs.l2] at H
         by_cases c15 : x7_3 < (l1.length : Int)
         ·rw [if_pos c15] at H
          have c15b0 : decide (x7_3 < (l1.length : Int)) = true:=decide_eq_true c15
          clear c15
          by_cases c16 : 0 ≤ x7_3
          ·rw [if_pos c16] at H
           have c16b0 : decide (0 ≤ x7_3) = true:=decide_eq_true c16
           clear c16
           by_cases c17 : 0 ≤ ((rd_T51 l1 x7_3).f0)
           ·rw [if_pos c17] at H
            have c17b0 : decide (0 ≤ ((rd_T51 l1 x7_3).f0)) = true:=decide_eq_true c17
            clear c17
            by_cases c18 : ((rd_T51 l1 x7_3).f0) < (x5_3.length : Int)
            ·rw [if_pos c18] at H
             have c18b0 : decide (((rd_T51 l1 x7_3).f0) < (x5_3.length : Int)) = true:=decide_eq_true c18
             clear c18
             by_cases c19 : 0 ≤ ((rd_T51 l1 x7_3).f1)
             ·rw [if_pos c19] at H
              have c19b0 : decide (0 ≤ ((rd_T51 l1 x7_3).f1)) = true:=decide_eq_true c19
              clear c19
              by_cases c20 : ((rd_T51 l1 x7_3).f1) < (x5_3.length : Int)
              ·rw [if_pos c20] at H
               have c20b0 : decide (((rd_T51 l1 x7_3).f1) < (x5_3.length : Int)) = true:=decide_eq_true c20
               clear c20
               obtain ⟨ji21,hji21⟩ : ∃ j_ : Int,(mn (rd x5_3 ((rd_T51 l1 x7_3).f0)) (wrap64 ((rd x5_3 ((rd_T51 l1 x7_3).f1)) + ((rd_T51 l1 x7_3).f2)))) = j_:=⟨_,rfl⟩
               replace H : ((some (x5_3.set (((rd_T51 l1 x7_3).f0) : Int).toNat (ji21) : List Int)).bind fun y460 => (spec_l7Costs.l2 k3 l1 (y460.set (((rd_T51 l1 x7_3).f1) : Int).toNat (mn (rd y460 ((rd_T51 l1 x7_3).f1)) (wrap64 ((rd y460 ((rd_T51 l1 x7_3).f0)) + ((rd_T51 l1 x7_3).f2))))) (wrap64 (x7_3 + 1)) a0 x28_2)) = some r:=by first|(rw [hji21] at H;exact H)|(simp only [hji21] at H ⊢;exact H)
               have hji21_ : (if (wrap64 ((rd x5_3 ((rd_T51 l1 x7_3).f1)) + ((rd_T51 l1 x7_3).f2))) < (rd x5_3 ((rd_T51 l1 x7_3).f0)) then (wrap64 ((rd x5_3 ((rd_T51 l1 x7_3).f1)) + ((rd_T51 l1 x7_3).f2))) else (rd x5_3 ((rd_T51 l1 x7_3).f0))) = ji21:=hji21
               obtain ⟨y460,hy460⟩ : ∃ y_ : List Int,y_ = (x5_3.set (((rd_T51 l1 x7_3).f0) : Int).toNat (ji21)):=⟨_,rfl⟩
               replace H : (spec_l7Costs.l2 k3 l1 (y460.set (((rd_T51 l1 x7_3).f1) : Int).toNat (mn (rd y460 ((rd_T51 l1 x7_3).f1)) (wrap64 ((rd y460 ((rd_T51 l1 x7_3).f0)) + ((rd_T51 l1 x7_3).f2))))) (wrap64 (x7_3 + 1)) a0 x28_2) = some r:=by first|(rw [hy460];with_reducible exact H)|(have H2_:=(Option.bind_some _ _).symm.trans H;rw [hy460];with_reducible exact H2_)|(have H2_:=(Option.bind_some _ _).symm.trans H;with_reducible exact H2_)|with_reducible exact H|(rw [hy460];exact H)|exact H
               have Ny460:=mk_ hy460
               clear hy460
               obtain ⟨ji23,hji23⟩ : ∃ j_ : Int,(mn (rd y460 ((rd_T51 l1 x7_3).f1)) (wrap64 ((rd y460 ((rd_T51 l1 x7_3).f0)) + ((rd_T51 l1 x7_3).f2)))) = j_:=⟨_,rfl⟩
               replace H : (spec_l7Costs.l2 k3 l1 (y460.set (((rd_T51 l1 x7_3).f1) : Int).toNat (ji23)) (wrap64 (x7_3 + 1)) a0 x28_2) = some r:=by first|(rw [hji23] at H;exact H)|(simp only [hji23] at H ⊢;exact H)
               have hji23_ : (if (wrap64 ((rd y460 ((rd_T51 l1 x7_3).f0)) + ((rd_T51 l1 x7_3).f2))) < (rd y460 ((rd_T51 l1 x7_3).f1)) then (wrap64 ((rd y460 ((rd_T51 l1 x7_3).f0)) + ((rd_T51 l1 x7_3).f2))) else (rd y460 ((rd_T51 l1 x7_3).f1))) = ji23:=hji23
               obtain ⟨y463,hy463⟩ : ∃ y_ : List Int,y_ = (y460.set (((rd_T51 l1 x7_3).f1) : Int).toNat (ji23)):=⟨_,rfl⟩
               replace H : (spec_l7Costs.l2 k3 l1 y463 (wrap64 (x7_3 + 1)) a0 x28_2) = some r:=by first|(rw [hy463];with_reducible exact H)|(have H2_:=(Option.bind_some _ _).symm.trans H;rw [hy463];with_reducible exact H2_)|(have H2_:=(Option.bind_some _ _).symm.trans H;with_reducible exact H2_)|with_reducible exact H|(rw [hy463];exact H)|exact H
               have Ny463:=mk_ hy463
               clear hy463
               have H':=mk_ H
               clear H
               have p456 : 0 ≤ (x7_3 : Int):=od_ qa_
               have q456 : x7_3 < (l1.length : Int):=od_ qa_
               obtain ⟨ad456,e456,hx456_0,hx456_1,hx456_2⟩:=at_T51 HR1.out x7_3 p456 q456
               cases e456
               replace hx456_0:=(HB.out.cell (wl_ w _ hx456_0)).trans hx456_0
               replace hx456_1:=(HB.out.cell (wl_ w _ hx456_1)).trans hx456_1
               replace hx456_2:=(HB.out.cell (wl_ w _ hx456_2)).trans hx456_2
               replace p456:=eq_true p456
               replace q456:=eq_true q456
               try go_wp2_with (first|((with_reducible refine gate_dst (N:=8) rfl ?_);refine box_event ?hg (N:=8) ?hd (cs:=#[.int .i64 0,.int .i64 0,.int .i64 0]) (t:=51) ?hr ?_;(case hd => rfl);(case hg => rfl);(case hr => first|(go_simp;done)|(go_simp;rfl));intro gb457 hg w25 hbox hb;have n0_:=mk_ (rb_ (qr_ HO_5) hb);have n1_:=mk_ (st_ (qb_ HB) hb);have n2_:=mk_ (hbox);have n3_:=mk_ ((by rw [hg];exact (bz_ (qb_ HB)) : w.heap.size ≤ gb457));have n4_:=mk_ ((by rw [hg];exact (bz_ (qb_ HB)) : w.heap.size ≤ gb457));clear HO_5;clear HB;have HO_5:=n0_;have HB:=n1_;have BK457:=n2_;have GW457:=n3_;have GE457:=n4_;clear n0_ n1_ n2_ n3_ n4_;clear hb hbox hg;have hcz26_0 : w25.cell? ⟨gb457,0,none⟩ = some (.int .i64 0):=(bc_ BK457.out 0).trans rfl;have hcz26_1 : w25.cell? ⟨gb457,1,none⟩ = some (.int .i64 0):=(bc_ BK457.out 1).trans rfl;have hcz26_2 : w25.cell? ⟨gb457,2,none⟩ = some (.int .i64 0):=(bc_ BK457.out 2).trans rfl;have hfz26_0:=bf_ BK457.out 0;have hfz26_1:=bf_ BK457.out 1;have hfz26_2:=bf_ BK457.out 2))
               have n0_ : Aside0 (Kd.R (Kd.int .i64) 3 (((w25.setCell ⟨gb457,0,none⟩ (.int .i64 ((rd_T51 l1 x7_3).f0))).setCell ⟨gb457,1,none⟩ (.int .i64 ((rd_T51 l1 x7_3).f1))).setCell ⟨gb457,2,none⟩ (.int .i64 ((rd_T51 l1 x7_3).f2))) w.heap.size (fun _ => True) u5 x5_3):=⟨by (with_reducible repeat (first|apply ra_|apply rn_|apply rd_));exact rm_ (rf_ (p:=⟨gb457,2,none⟩) (rf_ (p:=⟨gb457,1,none⟩) (rf_ (p:=⟨gb457,0,none⟩) (rt_ HO_5.out BK457.out (by decide)) (fun _ hk => hk.2) (.int .i64 ((rd_T51 l1 x7_3).f0))) (fun _ hk => hk.2) (.int .i64 ((rd_T51 l1 x7_3).f1))) (fun _ hk => hk.2) (.int .i64 ((rd_T51 l1 x7_3).f2))) (fun _ hk => trivial)⟩
               have n1_ : Aside0 ((((w25.setCell ⟨gb457,0,none⟩ (.int .i64 ((rd_T51 l1 x7_3).f0))).setCell ⟨gb457,1,none⟩ (.int .i64 ((rd_T51 l1 x7_3).f1))).setCell ⟨gb457,2,none⟩ (.int .i64 ((rd_T51 l1 x7_3).f2))).heap[gb457]? = some (.cells #[.int .i64 ((rd_T51 l1 x7_3).f0),.int .i64 ((rd_T51 l1 x7_3).f1),.int .i64 ((rd_T51 l1 x7_3).f2)] 51 (0,0))):=⟨by (with_reducible repeat (first|refine kn_ ?_ _|refine kd_ ?_|refine ka_ ?_ _));refine blk_put (cs:=#[.int .i64 ((rd_T51 l1 x7_3).f0),.int .i64 ((rd_T51 l1 x7_3).f1),.int .i64 0]) ?_ 2 _ rfl;(with_reducible repeat (first|refine kn_ ?_ _|refine kd_ ?_|refine ka_ ?_ _));refine blk_put (cs:=#[.int .i64 ((rd_T51 l1 x7_3).f0),.int .i64 0,.int .i64 0]) ?_ 1 _ rfl;(with_reducible repeat (first|refine kn_ ?_ _|refine kd_ ?_|refine ka_ ?_ _));refine blk_put (cs:=#[.int .i64 0,.int .i64 0,.int .i64 0]) ?_ 0 _ rfl;(with_reducible repeat (first|refine kn_ ?_ _|refine kd_ ?_|refine ka_ ?_ _));exact BK457.out⟩
               have n2_ : Aside0 (Below w.heap.size w (((w25.setCell ⟨gb457,0,none⟩ (.int .i64 ((rd_T51 l1 x7_3).f0))).setCell ⟨gb457,1,none⟩ (.int .i64 ((rd_T51 l1 x7_3).f1))).setCell ⟨gb457,2,none⟩ (.int .i64 ((rd_T51 l1 x7_3).f2)))):=⟨u1_ HB GE457⟩
               (try clear HO_5)
               (try clear BK457)
               (try clear HB)
               generalize (((w25.setCell ⟨gb457,0,none⟩ (.int .i64 ((rd_T51 l1 x7_3).f0))).setCell ⟨gb457,1,none⟩ (.int .i64 ((rd_T51 l1 x7_3).f1))).setCell ⟨gb457,2,none⟩ (.int .i64 ((rd_T51 l1 x7_3).f2))) = w27 at n0_ n1_ n2_ ⊢
               have HO_5:=n0_
               have BK457:=n1_
               have HB:=n2_
               clear n0_ n1_ n2_
               have n0_:=mk_ (rd_ HO_5.out)
               have n1_:=mk_ (kd_ BK457.out)
               have n2_:=mk_ (bd_ HB.out)
               clear HO_5
               clear BK457
               clear HB
               have HO_5:=n0_
               have BK457:=n1_
               have HB:=n2_
               clear n0_ n1_ n2_
               obtain ⟨Ao29,co29,eo29⟩:=Kd.R_slice HO_5.out
               (first|subst eo29|(injection eo29 with f1_ f2_ f3_;have f4_:=f1_.symm;have f5_:=f3_.symm;clear f1_ f2_ f3_;subst f4_;subst f5_))
               have p458 : 0 ≤ (((rd_T51 l1 x7_3).f0) : Int):=od_ qa_
               have q458 : ((rd_T51 l1 x7_3).f0) < (x5_3.length : Int):=od_ qa_
               obtain ⟨ad458,e458,hx458_0⟩:=Kd.at_int (rr_ HO_5.out).2.2 ((rd_T51 l1 x7_3).f0) p458 q458
               cases e458
               replace p458:=eq_true p458
               replace q458:=eq_true q458
               have p459 : 0 ≤ (((rd_T51 l1 x7_3).f1) : Int):=od_ qa_
               have q459 : ((rd_T51 l1 x7_3).f1) < (x5_3.length : Int):=od_ qa_
               obtain ⟨ad459,e459,hx459_0⟩:=Kd.at_int (rr_ HO_5.out).2.2 ((rd_T51 l1 x7_3).f1) p459 q459
               obtain rfl : ad458 = ad459:=(by injection e459)
               replace p459:=eq_true p459
               replace q459:=eq_true q459
               have p22 : 0 ≤ (((rd_T51 l1 x7_3).f0) : Int):=od_ qa_
               have q22 : (((rd_T51 l1 x7_3).f0) : Int) < ((x5_3.length : Int) : Int):=od_ qa_
               obtain ⟨go22,co22,eo22,gb22,gl22,cl22,HG22⟩:=Kd.R_form HO_5.out (by omega)
               (first|cases eo22|(injection eo22 with ea_ en_ ec_;(first|subst ea_|(injection ea_ with ea_;subst ea_));subst ec_;clear en_))
               have GB22:=mk_ gb22
               have GG22:=mk_ HG22
               clear gb22 gl22 HG22
               (first|simp only [add_plain] at hx458_0|skip)
               (first|simp only [add_plain] at hx459_0|skip)
               obtain ⟨hx22_0,hf22_0⟩:=Kd.R_celln 0 HO_5.out (((rd_T51 l1 x7_3).f0) : Int) p22 q22
               replace p22:=eq_true p22
               replace q22:=eq_true q22
               have HP30:=Kd.R_putn HO_5.out (((rd_T51 l1 x7_3).f0) : Int) ji21
               rw [← Ny460.out] at HP30
               have HQ30:=mk_ HP30
               clear HP30
               refine start_ (n:=19) (S:=fun w' => w'.cell? ⟨gb457,0,none⟩ = some (.int .i64 ((rd_T51 l1 x7_3).f0)) ∧ w'.cell? ⟨gb457,1,none⟩ = some (.int .i64 ((rd_T51 l1 x7_3).f1)) ∧ w'.cell? ⟨gb457,2,none⟩ = some (.int .i64 ((rd_T51 l1 x7_3).f2)) ∧ w'.cell? ⟨go22,(((rd_T51 l1 x7_3).f0)).toNat,none⟩ = some (.int .i64 (rd x5_3 ((rd_T51 l1 x7_3).f0))) ∧ w'.cell? ⟨go22,(((rd_T51 l1 x7_3).f1)).toNat,none⟩ = some (.int .i64 (rd x5_3 ((rd_T51 l1 x7_3).f1)))) (ds:=[18]) #[false,false,false,false,false,false,false,false,false,false,false,false,false,false,false,false,false,false,false] (by kernel_rfl) rfl rfl ⟨(bc_ BK457.out 0).trans rfl,(bc_ BK457.out 1).trans rfl,(bc_ BK457.out 2).trans rfl,hx458_0,hx459_0⟩ (fun hHeld => ?_);refine with_tabW spec_l7Costs.tab14 spec_l7Costs.bits14 (fun HT_ HW_ => ?_)
               generalize w27.drew = w28 at HO_5 BK457 HB GG22 HQ30 hf22_0 hx22_0 hx458_0 hx459_0 hHeld ⊢
               refine pure_ (i:=0) (N:=some 40) (v:=?_) (a':=?_) #[true,false,false,false,false,false,false,false,false,false,false,false,false,false,false,false,false,false,false] rfl rfl (any_of HT_.out (by kernel_rfl)) (fun _ _ _ h => h) (Or.inl ⟨by rfl,?_⟩) ?_ ?_
               rotate_left
               ·intro w'
                go_simp
                with_reducible rfl
               rotate_left
               ·simp only [Act.put,sx_,sy_,sz_,i64_w,i32_w]
                rfl
               refine pure_ (i:=1) (N:=some 41) (v:=?_) (a':=?_) #[true,true,false,false,false,false,false,false,false,false,false,false,false,false,false,false,false,false,false] rfl rfl (any_of HT_.out (by kernel_rfl)) (fun _ _ _ h => h) (Or.inl ⟨by rfl,?_⟩) ?_ ?_
               rotate_left
               ·intro w'
                go_simp
                with_reducible rfl
               rotate_left
               ·simp only [Act.put,sx_,sy_,sz_,i64_w,i32_w]
                rfl
               refine pure_ (i:=3) (N:=some 43) (v:=?_) (a':=?_) #[true,true,false,true,false,false,false,false,false,false,false,false,false,false,false,false,false,false,false] rfl rfl (any_of HT_.out (by kernel_rfl)) (fun _ _ _ h => h) (Or.inl ⟨by rfl,?_⟩) ?_ ?_
               rotate_left
               ·intro w'
                go_simp
                with_reducible rfl
               rotate_left
               ·simp only [Act.put,sx_,sy_,sz_,i64_w,i32_w]
                rfl
               refine pure_ (i:=4) (N:=some 44) (v:=?_) (a':=?_) #[true,true,false,true,true,false,false,false,false,false,false,false,false,false,false,false,false,false,false] rfl rfl (any_of HT_.out (by kernel_rfl)) (fun _ _ _ h => h) (Or.inl ⟨by rfl,?_⟩) ?_ ?_
               rotate_left
               ·intro w'
                go_simp
                with_reducible rfl
               rotate_left
               ·simp only [Act.put,sx_,sy_,sz_,i64_w,i32_w]
                rfl
               refine pure_ (i:=8) (N:=some 48) (v:=?_) (a':=?_) #[true,true,false,true,true,false,false,false,true,false,false,false,false,false,false,false,false,false,false] rfl rfl (any_of HT_.out (by kernel_rfl)) (fun _ _ _ h => h) (Or.inl ⟨by rfl,?_⟩) ?_ ?_
               rotate_left
               ·intro w'
                go_simp
                with_reducible rfl
               rotate_left
               ·simp only [Act.put,sx_,sy_,sz_,i64_w,i32_w]
                rfl
               refine pure_ (i:=9) (N:=some 49) (v:=?_) (a':=?_) #[true,true,false,true,true,false,false,false,true,true,false,false,false,false,false,false,false,false,false] rfl rfl (any_of HT_.out (by kernel_rfl)) (fun _ _ _ h => h) (Or.inl ⟨by rfl,?_⟩) ?_ ?_
               rotate_left
               ·intro w'
                go_simp
                with_reducible rfl
               rotate_left
               ·simp only [Act.put,sx_,sy_,sz_,i64_w,i32_w]
                rfl
               refine pure_ (i:=13) (N:=some 53) (v:=?_) (a':=?_) #[true,true,false,true,true,false,false,false,true,true,false,false,false,true,false,false,false,false,false] rfl rfl (any_of HT_.out (by kernel_rfl)) (fun _ _ _ h => h) (Or.inl ⟨by rfl,?_⟩) ?_ ?_
               rotate_left
               ·intro w'
                go_simp
                with_reducible rfl
               rotate_left
               ·simp only [Act.put,sx_,sy_,sz_,i64_w,i32_w]
                rfl
               refine take_ (i:=2) (N:=some 42) (v:=?_) (a':=?_) #[true,true,true,true,true,false,false,false,true,true,false,false,false,true,false,false,false,false,false] rfl rfl (take_ofW HT_.out HW_.out (by kernel_rfl)) (fun _ _ _ h => h) (Or.inl ⟨by rfl,?_⟩) hHeld ?_ ?_
               rotate_left
               ·rintro w' ⟨s0,s1,s2,s3,s4⟩
                go_simp
                with_reducible rfl
               rotate_left
               ·simp only [Act.put,sx_,sy_,sz_,i64_w,i32_w]
                rfl
               refine take_ (i:=5) (N:=some 45) (v:=?_) (a':=?_) #[true,true,true,true,true,true,false,false,true,true,false,false,false,true,false,false,false,false,false] rfl rfl (take_ofW HT_.out HW_.out (by kernel_rfl)) (fun _ _ _ h => h) (Or.inl ⟨by rfl,?_⟩) hHeld ?_ ?_
               rotate_left
               ·rintro w' ⟨s0,s1,s2,s3,s4⟩
                go_simp
                with_reducible rfl
               rotate_left
               ·simp only [Act.put,sx_,sy_,sz_,i64_w,i32_w]
                rfl
               refine pure_ (i:=6) (N:=some 46) (v:=?_) (a':=?_) #[true,true,true,true,true,true,true,false,true,true,false,false,false,true,false,false,false,false,false] rfl rfl (any_of HT_.out (by kernel_rfl)) (fun _ _ _ h => h) (Or.inl ⟨by rfl,?_⟩) ?_ ?_
               rotate_left
               ·intro w'
                go_simp
                with_reducible rfl
               rotate_left
               ·simp only [Act.put,sx_,sy_,sz_,i64_w,i32_w]
                rfl
               refine take_ (i:=7) (N:=some 47) (v:=?_) (a':=?_) #[true,true,true,true,true,true,true,true,true,true,false,false,false,true,false,false,false,false,false] rfl rfl (take_ofW HT_.out HW_.out (by kernel_rfl)) (fun _ _ _ h => h) (Or.inl ⟨by rfl,?_⟩) hHeld ?_ ?_
               rotate_left
               ·rintro w' ⟨s0,s1,s2,s3,s4⟩
                go_simp
                with_reducible rfl
               rotate_left
               ·simp only [Act.put,sx_,sy_,sz_,i64_w,i32_w]
                rfl
               refine take_ (i:=10) (N:=some 50) (v:=?_) (a':=?_) #[true,true,true,true,true,true,true,true,true,true,true,false,false,true,false,false,false,false,false] rfl rfl (take_ofW HT_.out HW_.out (by kernel_rfl)) (fun _ _ _ h => h) (Or.inl ⟨by rfl,?_⟩) hHeld ?_ ?_
               rotate_left
               ·rintro w' ⟨s0,s1,s2,s3,s4⟩
                go_simp
                with_reducible rfl
               rotate_left
               ·simp only [Act.put,sx_,sy_,sz_,i64_w,i32_w]
                rfl
               refine pure_ (i:=11) (N:=some 51) (v:=?_) (a':=?_) #[true,true,true,true,true,true,true,true,true,true,true,true,false,true,false,false,false,false,false] rfl rfl (any_of HT_.out (by kernel_rfl)) (fun _ _ _ h => h) (Or.inl ⟨by rfl,?_⟩) ?_ ?_
               rotate_left
               ·intro w'
                go_simp
                with_reducible rfl
               rotate_left
               ·simp only [Act.put,sx_,sy_,sz_,i64_w,i32_w]
                rfl
               refine take_ (i:=12) (N:=some 52) (v:=?_) (a':=?_) #[true,true,true,true,true,true,true,true,true,true,true,true,true,true,false,false,false,false,false] rfl rfl (take_ofW HT_.out HW_.out (by kernel_rfl)) (fun _ _ _ h => h) (Or.inl ⟨by rfl,?_⟩) hHeld ?_ ?_
               rotate_left
               ·rintro w' ⟨s0,s1,s2,s3,s4⟩
                go_simp
                with_reducible rfl
               rotate_left
               ·simp only [Act.put,sx_,sy_,sz_,i64_w,i32_w]
                rfl
               refine take_ (i:=14) (N:=some 54) (v:=?_) (a':=?_) #[true,true,true,true,true,true,true,true,true,true,true,true,true,true,true,false,false,false,false] rfl rfl (take_ofW HT_.out HW_.out (by kernel_rfl)) (fun _ _ _ h => h) (Or.inl ⟨by rfl,?_⟩) hHeld ?_ ?_
               rotate_left
               ·rintro w' ⟨s0,s1,s2,s3,s4⟩
                go_simp
                with_reducible rfl
               rotate_left
               ·simp only [Act.put,sx_,sy_,sz_,i64_w,i32_w]
                rfl
               refine pure_ (i:=15) (N:=some 55) (v:=?_) (a':=?_) #[true,true,true,true,true,true,true,true,true,true,true,true,true,true,true,true,false,false,false] rfl rfl (any_of HT_.out (by kernel_rfl)) (fun _ _ _ h => h) (Or.inl ⟨by rfl,?_⟩) ?_ ?_
               rotate_left
               ·intro w'
                go_simp
                with_reducible rfl
               rotate_left
               ·simp only [Act.put,sx_,sy_,sz_,i64_w,i32_w]
                rfl
               refine pure_ (i:=16) (N:=some 56) (v:=?_) (a':=?_) #[true,true,true,true,true,true,true,true,true,true,true,true,true,true,true,true,true,false,false] rfl rfl (any_of HT_.out (by kernel_rfl)) (fun _ _ _ h => h) (Or.inl ⟨by rfl,?_⟩) ?_ ?_
               rotate_left
               ·intro w'
                go_simp
                with_reducible rfl
               rotate_left
               ·simp only [Act.put,sx_,sy_,sz_,i64_w,i32_w]
                rfl
               refine pure_ (i:=17) (N:=some 57) (v:=?_) (a':=?_) #[true,true,true,true,true,true,true,true,true,true,true,true,true,true,true,true,true,true,false] rfl rfl (any_of HT_.out (by kernel_rfl)) (fun _ _ _ h => h) (Or.inl ⟨by rfl,?_⟩) ?_ ?_
               rotate_left
               ·intro w'
                go_simp
                with_reducible rfl
               rotate_left
               ·simp only [Act.put,sx_,sy_,sz_,i64_w,i32_w]
                rfl
               refine last_ (i:=18) (N:=none) #[true,true,true,true,true,true,true,true,true,true,true,true,true,true,true,true,true,true,true] rfl rfl (one_of HT_.out (by kernel_rfl)) (by decide) (fun K hK => ?_)
               refine skip_ (w1:=?_) (by rfl) rfl ?_ ?_
               rotate_left
               ·go_simp
                rfl
               refine hK.out _ _ ?_
               clear hK K
               refine done_ (done_of HT_.out (by kernel_rfl)) ?_
               try go_wp2
               have n0_ : Aside0 (Kd.R (Kd.int .i64) 3 (w28.setCell ⟨go22,(((rd_T51 l1 x7_3).f0) : Int).toNat,none⟩ (.int .i64 ji21)) w.heap.size (fun _ => True) (.slice (some ⟨go22,0,none⟩) x5_3.length co29) y460):=⟨qr_ HQ30⟩
               have n1_ : Aside0 ((w28.setCell ⟨go22,(((rd_T51 l1 x7_3).f0) : Int).toNat,none⟩ (.int .i64 ji21)).heap[gb457]? = some (.cells #[.int .i64 ((rd_T51 l1 x7_3).f0),.int .i64 ((rd_T51 l1 x7_3).f1),.int .i64 ((rd_T51 l1 x7_3).f2)] 51 (0,0))):=⟨by (with_reducible repeat (first|refine kn_ ?_ _|refine kd_ ?_|refine ka_ ?_ _));refine blk_far ?_ (by have h_:=Kd.R_ne HO_5.out BK457.out (by decide);intro e_;exact h_ (by rw [e_];rfl)) _;(with_reducible repeat (first|refine kn_ ?_ _|refine kd_ ?_|refine ka_ ?_ _));exact BK457.out⟩
               have n2_ : Aside0 (Below w.heap.size w (w28.setCell ⟨go22,(((rd_T51 l1 x7_3).f0) : Int).toNat,none⟩ (.int .i64 ji21))):=⟨u2_ HB GB22 GE457⟩
               (try clear HO_5)
               (try clear BK457)
               (try clear HB)
               generalize (w28.setCell ⟨go22,(((rd_T51 l1 x7_3).f0) : Int).toNat,none⟩ (.int .i64 ji21)) = w31 at n0_ n1_ n2_ ⊢
               have HO_5:=n0_
               have BK457:=n1_
               have HB:=n2_
               clear n0_ n1_ n2_
               have n0_:=mk_ (rd_ HO_5.out)
               have n1_:=mk_ (kd_ BK457.out)
               have n2_:=mk_ (bd_ HB.out)
               clear HO_5
               clear BK457
               clear HB
               have HO_5:=n0_
               have BK457:=n1_
               have HB:=n2_
               clear n0_ n1_ n2_
               have p461 : 0 ≤ (((rd_T51 l1 x7_3).f1) : Int):=od_ qa_
               have q461 : ((rd_T51 l1 x7_3).f1) < (y460.length : Int):=(by have h_ : (((rd_T51 l1 x7_3).f1) : Int) < ((x5_3.length : Int) : Int):=od_ qa_;first|(have e_:=(rr_ HO_5.out).1;omega)|simpa only [Ny460.out,List.length_set] using h_)
               have ql461 : ((((rd_T51 l1 x7_3).f1) : Int) < ((x5_3.length : Int) : Int)) = True:=eq_true (od_ qa_)
               obtain ⟨ad461,e461,hx461_0⟩:=Kd.at_int (rr_ HO_5.out).2.2 ((rd_T51 l1 x7_3).f1) p461 q461
               obtain rfl : (⟨go22,0,none⟩ : Addr) = ad461:=(by injection e461)
               (first|simp only [add_plain] at hx461_0|simp only [add_at] at hx461_0|simp only [Addr.add,Nat.zero_add] at hx461_0|skip)
               replace p461:=eq_true p461
               replace q461:=eq_true q461
               have p462 : 0 ≤ (((rd_T51 l1 x7_3).f0) : Int):=od_ qa_
               have q462 : ((rd_T51 l1 x7_3).f0) < (y460.length : Int):=(by have h_ : (((rd_T51 l1 x7_3).f0) : Int) < ((x5_3.length : Int) : Int):=od_ qa_;first|(have e_:=(rr_ HO_5.out).1;omega)|simpa only [Ny460.out,List.length_set] using h_)
               have ql462 : ((((rd_T51 l1 x7_3).f0) : Int) < ((x5_3.length : Int) : Int)) = True:=eq_true (od_ qa_)
               obtain ⟨ad462,e462,hx462_0⟩:=Kd.at_int (rr_ HO_5.out).2.2 ((rd_T51 l1 x7_3).f0) p462 q462
               obtain rfl : (⟨go22,0,none⟩ : Addr) = ad462:=(by injection e462)
               (first|simp only [add_plain] at hx462_0|simp only [add_at] at hx462_0|simp only [Addr.add,Nat.zero_add] at hx462_0|skip)
               replace p462:=eq_true p462
               replace q462:=eq_true q462
               have p24 : 0 ≤ (((rd_T51 l1 x7_3).f1) : Int):=od_ qa_
               have q24 : (((rd_T51 l1 x7_3).f1) : Int) < ((x5_3.length : Int) : Int):=od_ qa_
               obtain ⟨hx24_0,hf24_0⟩:=Kd.R_celln 0 HO_5.out (((rd_T51 l1 x7_3).f1) : Int) p24 q24
               replace p24:=eq_true p24
               replace q24:=eq_true q24
               have HP33:=Kd.R_putn HO_5.out (((rd_T51 l1 x7_3).f1) : Int) ji23
               rw [← Ny463.out] at HP33
               have HQ33:=mk_ HP33
               clear HP33
               refine start_ (n:=19) (S:=fun w' => w'.cell? ⟨gb457,0,none⟩ = some (.int .i64 ((rd_T51 l1 x7_3).f0)) ∧ w'.cell? ⟨gb457,1,none⟩ = some (.int .i64 ((rd_T51 l1 x7_3).f1)) ∧ w'.cell? ⟨gb457,2,none⟩ = some (.int .i64 ((rd_T51 l1 x7_3).f2)) ∧ w'.cell? ⟨go22,(((rd_T51 l1 x7_3).f1)).toNat,none⟩ = some (.int .i64 (rd y460 ((rd_T51 l1 x7_3).f1))) ∧ w'.cell? ⟨go22,(((rd_T51 l1 x7_3).f0)).toNat,none⟩ = some (.int .i64 (rd y460 ((rd_T51 l1 x7_3).f0)))) (ds:=[18]) #[false,false,false,false,false,false,false,false,false,false,false,false,false,false,false,false,false,false,false] (by kernel_rfl) rfl rfl ⟨(bc_ BK457.out 0).trans rfl,(bc_ BK457.out 1).trans rfl,(bc_ BK457.out 2).trans rfl,hx461_0,hx462_0⟩ (fun hHeld => ?_);refine with_tabW spec_l7Costs.tab15 spec_l7Costs.bits15 (fun HT_ HW_ => ?_)
               generalize w31.drew = w32 at HO_5 BK457 HB HQ30 HQ33 hf24_0 hx24_0 hx461_0 hx462_0 hHeld ⊢
               refine pure_ (i:=0) (N:=some 58) (v:=?_) (a':=?_) #[true,false,false,false,false,false,false,false,false,false,false,false,false,false,false,false,false,false,false] rfl rfl (any_of HT_.out (by kernel_rfl)) (fun _ _ _ h => h) (Or.inl ⟨by rfl,?_⟩) ?_ ?_
               rotate_left
               ·intro w'
                go_simp
                with_reducible rfl
               rotate_left
               ·simp only [Act.put,sx_,sy_,sz_,i64_w,i32_w]
                rfl
               refine pure_ (i:=1) (N:=some 59) (v:=?_) (a':=?_) #[true,true,false,false,false,false,false,false,false,false,false,false,false,false,false,false,false,false,false] rfl rfl (any_of HT_.out (by kernel_rfl)) (fun _ _ _ h => h) (Or.inl ⟨by rfl,?_⟩) ?_ ?_
               rotate_left
               ·intro w'
                go_simp
                with_reducible rfl
               rotate_left
               ·simp only [Act.put,sx_,sy_,sz_,i64_w,i32_w]
                rfl
               refine pure_ (i:=3) (N:=some 61) (v:=?_) (a':=?_) #[true,true,false,true,false,false,false,false,false,false,false,false,false,false,false,false,false,false,false] rfl rfl (any_of HT_.out (by kernel_rfl)) (fun _ _ _ h => h) (Or.inl ⟨by rfl,?_⟩) ?_ ?_
               rotate_left
               ·intro w'
                go_simp
                with_reducible rfl
               rotate_left
               ·simp only [Act.put,sx_,sy_,sz_,i64_w,i32_w]
                rfl
               refine pure_ (i:=4) (N:=some 62) (v:=?_) (a':=?_) #[true,true,false,true,true,false,false,false,false,false,false,false,false,false,false,false,false,false,false] rfl rfl (any_of HT_.out (by kernel_rfl)) (fun _ _ _ h => h) (Or.inl ⟨by rfl,?_⟩) ?_ ?_
               rotate_left
               ·intro w'
                go_simp
                with_reducible rfl
               rotate_left
               ·simp only [Act.put,sx_,sy_,sz_,i64_w,i32_w]
                rfl
               refine pure_ (i:=8) (N:=some 66) (v:=?_) (a':=?_) #[true,true,false,true,true,false,false,false,true,false,false,false,false,false,false,false,false,false,false] rfl rfl (any_of HT_.out (by kernel_rfl)) (fun _ _ _ h => h) (Or.inl ⟨by rfl,?_⟩) ?_ ?_
               rotate_left
               ·intro w'
                go_simp
                with_reducible rfl
               rotate_left
               ·simp only [Act.put,sx_,sy_,sz_,i64_w,i32_w]
                rfl
               refine pure_ (i:=9) (N:=some 67) (v:=?_) (a':=?_) #[true,true,false,true,true,false,false,false,true,true,false,false,false,false,false,false,false,false,false] rfl rfl (any_of HT_.out (by kernel_rfl)) (fun _ _ _ h => h) (Or.inl ⟨by rfl,?_⟩) ?_ ?_
               rotate_left
               ·intro w'
                go_simp
                with_reducible rfl
               rotate_left
               ·simp only [Act.put,sx_,sy_,sz_,i64_w,i32_w]
                rfl
               refine pure_ (i:=13) (N:=some 71) (v:=?_) (a':=?_) #[true,true,false,true,true,false,false,false,true,true,false,false,false,true,false,false,false,false,false] rfl rfl (any_of HT_.out (by kernel_rfl)) (fun _ _ _ h => h) (Or.inl ⟨by rfl,?_⟩) ?_ ?_
               rotate_left
               ·intro w'
                go_simp
                with_reducible rfl
               rotate_left
               ·simp only [Act.put,sx_,sy_,sz_,i64_w,i32_w]
                rfl
               refine take_ (i:=2) (N:=some 60) (v:=?_) (a':=?_) #[true,true,true,true,true,false,false,false,true,true,false,false,false,true,false,false,false,false,false] rfl rfl (take_ofW HT_.out HW_.out (by kernel_rfl)) (fun _ _ _ h => h) (Or.inl ⟨by rfl,?_⟩) hHeld ?_ ?_
               rotate_left
               ·rintro w' ⟨s0,s1,s2,s3,s4⟩
                go_simp
                with_reducible rfl
               rotate_left
               ·simp only [Act.put,sx_,sy_,sz_,i64_w,i32_w]
                rfl
               refine take_ (i:=5) (N:=some 63) (v:=?_) (a':=?_) #[true,true,true,true,true,true,false,false,true,true,false,false,false,true,false,false,false,false,false] rfl rfl (take_ofW HT_.out HW_.out (by kernel_rfl)) (fun _ _ _ h => h) (Or.inl ⟨by rfl,?_⟩) hHeld ?_ ?_
               rotate_left
               ·rintro w' ⟨s0,s1,s2,s3,s4⟩
                go_simp
                with_reducible rfl
               rotate_left
               ·simp only [Act.put,sx_,sy_,sz_,i64_w,i32_w]
                rfl
               refine pure_ (i:=6) (N:=some 64) (v:=?_) (a':=?_) #[true,true,true,true,true,true,true,false,true,true,false,false,false,true,false,false,false,false,false] rfl rfl (any_of HT_.out (by kernel_rfl)) (fun _ _ _ h => h) (Or.inl ⟨by rfl,?_⟩) ?_ ?_
               rotate_left
               ·intro w'
                go_simp
                with_reducible rfl
               rotate_left
               ·simp only [Act.put,sx_,sy_,sz_,i64_w,i32_w]
                rfl
               refine take_ (i:=7) (N:=some 65) (v:=?_) (a':=?_) #[true,true,true,true,true,true,true,true,true,true,false,false,false,true,false,false,false,false,false] rfl rfl (take_ofW HT_.out HW_.out (by kernel_rfl)) (fun _ _ _ h => h) (Or.inl ⟨by rfl,?_⟩) hHeld ?_ ?_
               rotate_left
               ·rintro w' ⟨s0,s1,s2,s3,s4⟩
                go_simp
                with_reducible rfl
               rotate_left
               ·simp only [Act.put,sx_,sy_,sz_,i64_w,i32_w]
                rfl
               refine take_ (i:=10) (N:=some 68) (v:=?_) (a':=?_) #[true,true,true,true,true,true,true,true,true,true,true,false,false,true,false,false,false,false,false] rfl rfl (take_ofW HT_.out HW_.out (by kernel_rfl)) (fun _ _ _ h => h) (Or.inl ⟨by rfl,?_⟩) hHeld ?_ ?_
               rotate_left
               ·rintro w' ⟨s0,s1,s2,s3,s4⟩
                go_simp
                with_reducible rfl
               rotate_left
               ·simp only [Act.put,sx_,sy_,sz_,i64_w,i32_w]
                rfl
               refine pure_ (i:=11) (N:=some 69) (v:=?_) (a':=?_) #[true,true,true,true,true,true,true,true,true,true,true,true,false,true,false,false,false,false,false] rfl rfl (any_of HT_.out (by kernel_rfl)) (fun _ _ _ h => h) (Or.inl ⟨by rfl,?_⟩) ?_ ?_
               rotate_left
               ·intro w'
                go_simp
                with_reducible rfl
               rotate_left
               ·simp only [Act.put,sx_,sy_,sz_,i64_w,i32_w]
                rfl
               refine take_ (i:=12) (N:=some 70) (v:=?_) (a':=?_) #[true,true,true,true,true,true,true,true,true,true,true,true,true,true,false,false,false,false,false] rfl rfl (take_ofW HT_.out HW_.out (by kernel_rfl)) (fun _ _ _ h => h) (Or.inl ⟨by rfl,?_⟩) hHeld ?_ ?_
               rotate_left
               ·rintro w' ⟨s0,s1,s2,s3,s4⟩
                go_simp
                with_reducible rfl
               rotate_left
               ·simp only [Act.put,sx_,sy_,sz_,i64_w,i32_w]
                rfl
               refine take_ (i:=14) (N:=some 72) (v:=?_) (a':=?_) #[true,true,true,true,true,true,true,true,true,true,true,true,true,true,true,false,false,false,false] rfl rfl (take_ofW HT_.out HW_.out (by kernel_rfl)) (fun _ _ _ h => h) (Or.inl ⟨by rfl,?_⟩) hHeld ?_ ?_
               rotate_left
               ·rintro w' ⟨s0,s1,s2,s3,s4⟩
                go_simp
                with_reducible rfl
               rotate_left
               ·simp only [Act.put,sx_,sy_,sz_,i64_w,i32_w]
                rfl
               refine pure_ (i:=15) (N:=some 73) (v:=?_) (a':=?_) #[true,true,true,true,true,true,true,true,true,true,true,true,true,true,true,true,false,false,false] rfl rfl (any_of HT_.out (by kernel_rfl)) (fun _ _ _ h => h) (Or.inl ⟨by rfl,?_⟩) ?_ ?_
               rotate_left
               ·intro w'
                go_simp
                with_reducible rfl
               rotate_left
               ·simp only [Act.put,sx_,sy_,sz_,i64_w,i32_w]
                rfl
               refine pure_ (i:=16) (N:=some 74) (v:=?_) (a':=?_) #[true,true,true,true,true,true,true,true,true,true,true,true,true,true,true,true,true,false,false] rfl rfl (any_of HT_.out (by kernel_rfl)) (fun _ _ _ h => h) (Or.inl ⟨by rfl,?_⟩) ?_ ?_
               rotate_left
               ·intro w'
                go_simp
                with_reducible rfl
               rotate_left
               ·simp only [Act.put,sx_,sy_,sz_,i64_w,i32_w]
                rfl
               refine pure_ (i:=17) (N:=some 75) (v:=?_) (a':=?_) #[true,true,true,true,true,true,true,true,true,true,true,true,true,true,true,true,true,true,false] rfl rfl (any_of HT_.out (by kernel_rfl)) (fun _ _ _ h => h) (Or.inl ⟨by rfl,?_⟩) ?_ ?_
               rotate_left
               ·intro w'
                go_simp
                with_reducible rfl
               rotate_left
               ·simp only [Act.put,sx_,sy_,sz_,i64_w,i32_w]
                rfl
               refine last_ (i:=18) (N:=none) #[true,true,true,true,true,true,true,true,true,true,true,true,true,true,true,true,true,true,true] rfl rfl (one_of HT_.out (by kernel_rfl)) (by decide) (fun K hK => ?_)
               refine skip_ (w1:=?_) (by rfl) rfl ?_ ?_
               rotate_left
               ·go_simp
                rfl
               refine hK.out _ _ ?_
               clear hK K
               refine done_ (done_of HT_.out (by kernel_rfl)) ?_
               try go_wp2
               go_roundg k3
               case measure => have:=HK1.out;have:=HK2.out;have:=HK3.out;omega
               case rel => exact ⟨(y463),(wrap64 (x7_3 + 1)),qf_,H',⟨by have:=HK1.out;have:=HK2.out;have:=HK3.out;omega⟩,⟨qr_ HQ33⟩,⟨u2_ HB GB22 GE457⟩⟩
              ·rw [if_neg c20] at H
               exact absurd H (by simp)
             ·rw [if_neg c19] at H
              exact absurd H (by simp)
            ·rw [if_neg c18] at H
             exact absurd H (by simp)
           ·rw [if_neg c17] at H
            exact absurd H (by simp)
          ·rw [if_neg c16] at H
           exact absurd H (by simp)
         ·rw [if_neg c15] at H
          have c15b0 : decide (x7_3 < (l1.length : Int)) = false:=decide_eq_false c15
          clear c15
          have H':=mk_ H
          clear H
          go_wp2
          go_roundg k3
          case measure => have:=HK1.out;have:=HK2.out;have:=HK3.out;omega
          case rel => exact ⟨(x5_3),(wrap64 (x28_2 + 1)),qf_,H',⟨by have:=HK1.out;have:=HK2.out;have:=HK3.out;omega⟩,⟨qr_ HO_5⟩,⟨u0_ HB⟩⟩
      ·rw [if_neg c14] at H
       have c14b0 : decide (x28_2 < a0) = false:=decide_eq_false c14
       clear c14
       obtain rfl:=Option.some.inj H
       go_wp2
       go_ret
       exact ⟨_,qe_,qr_ HO_5,u0_ HB⟩

end Go.Proofs.Ytdamdcdjodmemaa.PAll

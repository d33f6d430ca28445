/- Proved here: contracts of functions of the given program, or lemmas on them, for the laws of this seat. Written by xprint.py, a program of this session, on the ground of the kit's print; parts by hand: wip/x/ext. -/
import Derived.Test.YtdpnloibbimblaaPAllx0
import Derived.Test.YtdpnloibbimblaaPAllx1
import Derived.Test.YtdpnloibbimblaaPAllx2
import Derived.Test.YtdpnloibbimblaaPAllx3
namespace Go.Proofs.Ytdpnloibbimblaa.PAll
open Go.RowKit Go.Proofs.YtdpnloibbimblaaW.PrintWords Go.Proofs.YtdpnloibbimblaaW.PrintLast Go.Proofs.YtdpnloibbimblaaW.PrintMore
attribute [local go_sem] max2_int min2_int max_two min_two max_three min_three max_four min_four   -- for this text's walks alone
set_option linter.unusedVariables false
set_option linter.unusedSimpArgs false

/-- A state of type 68 at block g of W; what its slices lead to came in by w0. -/
def IsS68 (w0 W : World) (g : Nat) (f0 : List Int) (f1 : Int) : Prop:=∃ A0 c0,W.heap[g]? = some (.cells #[.slice A0 f0.length c0,.int .i64 f1] 68 (0,0)) ∧ w0.heap.size ≤ g ∧ Kd.C (Kd.int .u8) w0 A0 f0.length f0
theorem IsS68.grown {w0 W : World} {g : Nat} {f0 : List Int} {f1 : Int} {W1 : World} {row : Option Nat} (h : IsS68 w0 W g f0 f1) (hw : W.grownBy W1 row) (hne : some g ≠ row) : IsS68 w0 W1 g f0 f1:=by
  obtain ⟨A0,c0,hb,hg,hr0⟩:=h
  exact ⟨A0,c0,blk_grown hb hw hne,hg,hr0⟩
theorem IsS68.own_neN {w0 W : World} {g : Nat} {f0 : List Int} {f1 : Int} {α : Type} {d : Kd α} {e : Nat} {base : Nat} {ok : Nat → Prop} {v : Value} {xs : List α} (h : IsS68 w0 W g f0 f1) (ho : Kd.N d e W base ok v xs) (ht : e ≠ 68) : some g ≠ v.ownBlock:=by
  obtain ⟨A0,c0,hb,hg,hr0⟩:=h
  exact Kd.N_ne ho hb ht
theorem IsS68.fresh {w0 W : World} {g : Nat} {f0 : List Int} {f1 : Int} (h : IsS68 w0 W g f0 f1) : ∀ k,W.heap.size ≤ k → k ≠ g:=by
  obtain ⟨A0,c0,hb,hg,hr0⟩:=h
  exact Kd.freshB hb
theorem IsS68.kept {w0 W : World} {g : Nat} {f0 : List Int} {f1 : Int} {W1 : World} {S : Nat → Prop} (h : IsS68 w0 W g f0 f1) (hk : Kept W W1 S) (hne : ¬ S g) : IsS68 w0 W1 g f0 f1:=by
  obtain ⟨A0,c0,hb,hg,hr0⟩:=h
  exact ⟨A0,c0,blk_kept hb hk hne,hg,hr0⟩
theorem IsS68.below {w0 W : World} {g : Nat} {f0 : List Int} {f1 : Int} {W1 : World} (h : IsS68 w0 W g f0 f1) (hw : Below W.heap.size W W1) : IsS68 w0 W1 g f0 f1:=h.grown (grown_of_below hw none) (by simp)
theorem IsS68.alloc {w0 W : World} {g : Nat} {f0 : List Int} {f1 : Int} (h : IsS68 w0 W g f0 f1) (o : Obj) : IsS68 w0 (W.alloc o) g f0 f1:=h.below (below_alloc (Below.refl _ _) o)
theorem IsS68.drewN {w0 W : World} {g : Nat} {f0 : List Int} {f1 : Int} (h : IsS68 w0 W g f0 f1) (m : Nat) : IsS68 w0 (W.drewN m) g f0 f1:=h
theorem IsS68.drew {w0 W : World} {g : Nat} {f0 : List Int} {f1 : Int} (h : IsS68 w0 W g f0 f1) : IsS68 w0 W.drew g f0 f1:=h
theorem IsS68.at_ {w0 W : World} {g : Nat} {f0 : List Int} {f1 : Int} {w' : World} {m : Nat} (hq : W.drewN m = w') (h : IsS68 w0 W g f0 f1) : IsS68 w0 w' g f0 f1:=by subst hq;exact IsS68.drewN h m
theorem IsS68.apart {w0 W : World} {g : Nat} {f0 : List Int} {f1 : Int} {α : Type} {d : Kd α} {e : Nat} {base : Nat} {ok : Nat → Prop} {v : Value} {xs : List α} (h : IsS68 w0 W g f0 f1) (ho : d.R e W base ok v xs) (ht : ∀ q,q ∈ e :: d.E → q ≠ 68) : d.R e W base (fun k => ok k ∧ k ≠ g) v xs:=by
  obtain ⟨A0,c0,hb,hg,hr0⟩:=h
  exact Kd.R_types ho hb ht
theorem IsS68.own_ne {w0 W : World} {g : Nat} {f0 : List Int} {f1 : Int} {α : Type} {d : Kd α} {e : Nat} {base : Nat} {ok : Nat → Prop} {v : Value} {xs : List α} (h : IsS68 w0 W g f0 f1) (ho : d.R e W base ok v xs) (ht : e ≠ 68) : some g ≠ v.ownBlock:=by
  obtain ⟨A0,c0,hb,hg,hr0⟩:=h
  exact Kd.R_ne ho hb ht
theorem IsS68.apartQ {w0 W : World} {g : Nat} {f0 : List Int} {f1 : Int} {α : Type} {d : Kd α} {e : Nat} {base : Nat} {ok : Nat → Prop} {v : Value} {xs : List α} (h : IsS68 w0 W g f0 f1) (ho : d.Q e W base ok v xs) (ht : ∀ q,q ∈ e :: d.E → q ≠ 68) : d.Q e W base (fun k => ok k ∧ k ≠ g) v xs:=by
  obtain ⟨A0,c0,hb,hg,hr0⟩:=h
  exact Kd.Q_types ho hb ht
theorem IsS68.own_neQ {w0 W : World} {g : Nat} {f0 : List Int} {f1 : Int} {α : Type} {d : Kd α} {e : Nat} {base : Nat} {ok : Nat → Prop} {v : Value} {xs : List α} (h : IsS68 w0 W g f0 f1) (ho : d.Q e W base ok v xs) (ht : e ≠ 68) : some g ≠ v.ownBlock:=by
  obtain ⟨A0,c0,hb,hg,hr0⟩:=h
  exact Kd.Q_ne ho hb ht
theorem IsS68.apartS {w0 W : World} {g : Nat} {f0 : List Int} {f1 : Int} {α : Type} {d : Kd α} {e : Nat} {base : Nat} {ok : Nat → Prop} {v : Value} {xs : List α} (h : IsS68 w0 W g f0 f1) (ho : d.S e W base ok v xs) (ht : ∀ q,q ∈ e :: d.E → q ≠ 68) : d.S e W base (fun k => ok k ∧ k ≠ g) v xs:=by
  obtain ⟨A0,c0,hb,hg,hr0⟩:=h
  exact Kd.S_types ho hb ht
theorem IsS68.own_neS {w0 W : World} {g : Nat} {f0 : List Int} {f1 : Int} {α : Type} {d : Kd α} {e : Nat} {base : Nat} {ok : Nat → Prop} {v : Value} {xs : List α} (h : IsS68 w0 W g f0 f1) (ho : d.S e W base ok v xs) (ht : e ≠ 68) : some g ≠ v.ownBlock:=by
  obtain ⟨A0,c0,hb,hg,hr0⟩:=h
  exact Kd.S_ne ho hb ht
theorem IsS68.lt {w0 W : World} {g : Nat} {f0 : List Int} {f1 : Int} (h : IsS68 w0 W g f0 f1) : g < W.heap.size:=by
  obtain ⟨A0,c0,hb,hg,hr0⟩:=h
  exact blk_lt hb
theorem IsS68.ge {w0 W : World} {g : Nat} {f0 : List Int} {f1 : Int} (h : IsS68 w0 W g f0 f1) : w0.heap.size ≤ g:=by
  obtain ⟨A0,c0,hb,hg,hr0⟩:=h
  exact hg
theorem IsS68.ne_blk {w0 W : World} {g : Nat} {f0 : List Int} {f1 : Int} {a : Nat} {cs : Array Value} {t : TypeId} {fr : Nat × Nat} (h : IsS68 w0 W g f0 f1) (hb2 : W.heap[a]? = some (.cells cs t fr)) (ht : t ≠ 68) : g ≠ a:=by
  obtain ⟨A0,c0,hb,hg,hr0⟩:=h
  rintro rfl
  rw [hb] at hb2
  injection hb2 with hb2
  injection hb2 with _ ht2
  exact ht ht2.symm
theorem IsS68.far {w0 W : World} {g : Nat} {f0 : List Int} {f1 : Int} {p : Addr} (h : IsS68 w0 W g f0 f1) (hne : g ≠ p.block) (u : Value) : IsS68 w0 (W.setCell p u) g f0 f1:=by
  obtain ⟨A0,c0,hb,hg,hr0⟩:=h
  exact ⟨A0,c0,blk_far hb hne u,hg,hr0⟩
theorem cellS68_0 {W : World} {g : Nat} {A0 : Option Addr} {c0 : Nat} {f0 : List Int} {f1 : Int} (h : W.heap[g]? = some (.cells #[.slice A0 f0.length c0,.int .i64 f1] 68 (0,0))) : W.cell? ⟨g,0,none⟩ = some (.slice A0 f0.length c0):=(blk_cell h 0).trans rfl
theorem cellS68_1 {W : World} {g : Nat} {A0 : Option Addr} {c0 : Nat} {f0 : List Int} {f1 : Int} (h : W.heap[g]? = some (.cells #[.slice A0 f0.length c0,.int .i64 f1] 68 (0,0))) : W.cell? ⟨g,1,none⟩ = some (.int .i64 f1):=(blk_cell h 1).trans rfl
theorem IsS68.set_1 {w0 W : World} {g : Nat} {f0 : List Int} {f1 : Int} (h : IsS68 w0 W g f0 f1) (x : Int) : IsS68 w0 (W.setCell ⟨g,1,none⟩ (.int .i64 x)) g f0 x:=by
  obtain ⟨A0,c0,hb,hg,hr0⟩:=h
  exact ⟨A0,c0,by simpa using blk_set hb 1 (.int .i64 x),hg,hr0⟩
theorem IsS68.new (w0 W : World) (A0 : Option Addr) (c0 : Nat) (f0 : List Int) (f1 : Int) (hB : Below w0.heap.size w0 W) (hr0 : Kd.C (Kd.int .u8) w0 A0 f0.length f0) : IsS68 w0 (W.alloc (.cells #[.slice A0 f0.length c0,.int .i64 f1] 68)) W.heap.size f0 f1:=⟨A0,c0,by simpa using heap_alloc_new W _,hB.size,hr0⟩

/-! ### spec_l21Rd_pick: function 49 -/
def spec_l21Rd_pick.j0 : Nat → Int → Bool → List Int → Int → Option (Int × Int)
 | 0,_,_,_,_ => none
 | k + 1,x1,x24,x1000,x1001 => if x24 = true then (some (0,x1001)) else (if (wrap64 (x1001 - 1)) < (x1000.length : Int) then (if 0 ≤ (wrap64 (x1001 - 1)) then (if x1 = 0 then (none) else (some (Int.tmod (wrap64 (rd x1000 (wrap64 (x1001 - 1)))) x1,x1001))) else (none)) else (if (x1000.length : Int) = 0 then (none) else (if 0 ≤ (Int.tmod (wrap64 (x1001 - 1)) (x1000.length : Int)) then (if (Int.tmod (wrap64 (x1001 - 1)) (x1000.length : Int)) < (x1000.length : Int) then (if 0 ≤ (Int.tmod (wrap64 ((wrap64 ((wrap64 (x1001 - 1)) * 7)) + 3)) (x1000.length : Int)) then (if (Int.tmod (wrap64 ((wrap64 ((wrap64 (x1001 - 1)) * 7)) + 3)) (x1000.length : Int)) < (x1000.length : Int) then (if x1 = 0 then (none) else (some (Int.tmod (Go.bits .xor .i64 (wrap64 ((wrap64 ((wrap64 ((wrap64 ((wrap64 (rd x1000 (Int.tmod (wrap64 (x1001 - 1)) (x1000.length : Int)))) * 131)) + (wrap64 ((wrap64 (rd x1000 (Int.tmod (wrap64 ((wrap64 ((wrap64 (x1001 - 1)) * 7)) + 3)) (x1000.length : Int)))) * 1117)))) + (wrap64 ((wrap64 (x1001 - 1)) * 29)))) + (wrap64 ((wrap64 (Int.tdiv (wrap64 (x1001 - 1)) (x1000.length : Int))) * 53)))) (wrap64 (Int.tdiv (wrap64 ((wrap64 ((wrap64 ((wrap64 ((wrap64 (rd x1000 (Int.tmod (wrap64 (x1001 - 1)) (x1000.length : Int)))) * 131)) + (wrap64 ((wrap64 (rd x1000 (Int.tmod (wrap64 ((wrap64 ((wrap64 (x1001 - 1)) * 7)) + 3)) (x1000.length : Int)))) * 1117)))) + (wrap64 ((wrap64 (x1001 - 1)) * 29)))) + (wrap64 ((wrap64 (Int.tdiv (wrap64 (x1001 - 1)) (x1000.length : Int))) * 53)))) 64))) x1,x1001))) else (none)) else (none)) else (none)) else (none))))
def spec_l21Rd_pick.f (k : Nat) (s0_0 : List Int) (s0_1 : Int) (a1 : Int) : Option (Int × Int):=if a1 < 1 then (spec_l21Rd_pick.j0 k a1 true s0_0 (wrap64 (s0_1 + 1))) else (spec_l21Rd_pick.j0 k a1 ((s0_0.length : Int) == 0) s0_0 (wrap64 (s0_1 + 1)))
theorem spec_l21Rd_pick.mono_l : ∀ k,(∀ y0 y1 y2 y3,LeO (spec_l21Rd_pick.j0 k y0 y1 y2 y3) (spec_l21Rd_pick.j0 (k + 1) y0 y1 y2 y3))
 | 0 => fun _ _ _ _ r h => by simp [spec_l21Rd_pick.j0] at h
 | k + 1 => by
  have ih0:=spec_l21Rd_pick.mono_l k
  ·intro y0 y1 y2 y3
   unfold spec_l21Rd_pick.j0
   repeat' first
   | (with_reducible exact ih0 _ _ _ _)
   | (with_reducible exact LeO.refl _)
   | (with_reducible exact LeO.none _)
   | (with_reducible refine LeO.ite ?_ ?_)
   | (with_reducible refine LeO.bind ?_ (fun _ => ?_))
   | exact ih0 _ _ _ _
   | exact LeO.none _
   | refine LeO.ite ?_ ?_
   | refine LeO.bind ?_ (fun _ => ?_)
theorem spec_l21Rd_pick.mono : ∀ a0 a1 a2 k,LeO (spec_l21Rd_pick.f k a0 a1 a2) (spec_l21Rd_pick.f (k + 1) a0 a1 a2):=by
 intro a0 a1 a2 k
 have ih0:=spec_l21Rd_pick.mono_l k
 unfold spec_l21Rd_pick.f
 repeat' first
   | (with_reducible exact ih0 _ _ _ _)
   | (with_reducible exact LeO.refl _)
   | (with_reducible exact LeO.none _)
   | (with_reducible refine LeO.ite ?_ ?_)
   | (with_reducible refine LeO.bind ?_ (fun _ => ?_))
   | exact ih0 _ _ _ _
   | exact LeO.none _
   | refine LeO.ite ?_ ?_
   | refine LeO.bind ?_ (fun _ => ?_)
set_option maxHeartbeats 8000000 in
set_option maxRecDepth 100000 in
theorem spec_l21Rd_pick.calls (k : Nat) (g : Nat) (s0_0 : List Int) (s0_1 : Int) (a1 : Int) (r1 : Int) (r2 : Int) (w0 w : World) (hI : IsS68 w0 w g s0_0 s0_1) (hB : Below w0.heap.size w0 w) (h : spec_l21Rd_pick.f k s0_0 s0_1 a1 = some (r1,r2)) :
  Calls Try.prog 49 #[.pointer (some ⟨g,0,none⟩),.int .i64 a1] w fun e w' => e = .returned (.int .i64 r1) ∧ IsS68 w0 w' g s0_0 r2 ∧ Below w0.heap.size w0 w' ∧ KeepBut w w' g none:=by
 have HI0:=mk_ hI
 have HK:=mk_ (KeepBut.refl w g none)
 have HL:=mk_ hB.size
 clear hI
 have HW0:=mk_ hB.size
 have HB:=mk_ hB
 clear hB
 have H : (if a1 < 1 then (spec_l21Rd_pick.j0 k a1 true s0_0 (wrap64 (s0_1 + 1))) else (spec_l21Rd_pick.j0 k a1 ((s0_0.length : Int) == 0) s0_0 (wrap64 (s0_1 + 1)))) = some (r1,r2):=h
 clear h
 have HC3:=mk_ H
 clear H
 obtain ⟨ASz4_0,cSz4_0,HGz4,hgz4,HSz4_0⟩:=HI0.out
 have hcz4_0:=cellS68_0 HGz4
 have hcz4_1:=cellS68_1 HGz4
 have hfz4_1:=bf_ HGz4 1
 clear HGz4 hgz4
 go_enter Try.func49,Try.ntmps49
 go_upto_region 2 with (fail)
 repeat (go_quiet (fail);go_upto_region 2 with (fail))
 go_cut [24] (fun v24 wc => ∃ (kq : Nat) (x24_2 : Bool),v24 = .bool x24_2 ∧ Aside0 (spec_l21Rd_pick.j0 kq a1 x24_2 s0_0 (wrap64 (s0_1 + 1)) = some (r1,r2)) ∧ Aside0 (kq ≤ k) ∧ Aside0 (IsS68 w0 wc g s0_0 (wrap64 (s0_1 + 1))) ∧ Aside0 (KeepBut w wc g none) ∧ Aside0 (Below w0.heap.size w0 wc))
 case first =>
  have H:=HC3.out
  clear HC3
  by_cases c5 : a1 < 1
  ·rw [if_pos c5] at H
   have c5b0 : decide (a1 < 1) = true:=decide_eq_true c5
   clear c5
   (first|rw [c5b0]|(simp only [i64_w,i32_w];rw [c5b0])|skip)
   have H':=mk_ H
   clear H
   go_wp2
   repeat (go_quiet (fail);try go_wp2)
   go_meet
   case rel => exact ⟨_,(true),qf_,H',⟨by first|omega|exact Nat.le_refl _⟩,⟨u2_ HI0⟩,⟨u3_ HK⟩,⟨u4_ HB HI0⟩⟩
  ·rw [if_neg c5] at H
   have c5b0 : decide (a1 < 1) = false:=decide_eq_false c5
   clear c5
   (first|rw [c5b0]|(simp only [i64_w,i32_w];rw [c5b0])|skip)
   have H':=mk_ H
   clear H
   obtain ⟨ASz6_0,cSz6_0,HGz6,hgz6,HSz6_0⟩:=HI0.out
   have hcz6_0:=cellS68_0 HGz6
   have hcz6_1:=cellS68_1 HGz6
   have hfz6_1:=bf_ HGz6 1
   clear HGz6 hgz6
   go_wp2
   repeat (go_quiet (fail);try go_wp2)
   go_meet
   case rel => exact ⟨_,(((s0_0.length : Int) == 0)),qf_,H',⟨by first|omega|exact Nat.le_refl _⟩,⟨u2_ HI0⟩,⟨u3_ HK⟩,⟨u4_ HB HI0⟩⟩
 case rest =>
  clear HC3
  try clear p2
  try clear c4
  try clear c5
  try clear c5b0
  try clear p6
  try clear hcz4_0
  try clear hcz4_1
  try clear hcz6_0
  try clear hcz6_1
  try clear hfz4_1
  try clear hfz6_1
  obtain ⟨kq,x24_2,rfl,HA,HJ2,HI0,HK,HB⟩:=hcut
  cases kq with
  | zero => exact absurd HA.out (by simp [spec_l21Rd_pick.j0])
  | succ kj2 =>
   have H:=HA.out
   clear HA
   simp only [spec_l21Rd_pick.j0] at H
   by_cases c7 : x24_2 = true
   ·subst c7
    have H1 : (some (0,(wrap64 (s0_1 + 1)))) = some (r1,r2):=by rw [if_pos rfl] at H;exact H
    clear H
    have H:=H1
    clear H1
    simp only [Option.some.injEq,Prod.mk.injEq] at H
    obtain ⟨rfl,rfl⟩:=H
    go_wp2
    repeat (go_quiet (fail);try go_wp2)
    go_ret
    exact ⟨qe_,u2_ HI0,u4_ HB HI0,u3_ HK⟩
   ·replace c7:=Bool.eq_false_iff.mpr c7
    subst c7
    have H1 : (if (wrap64 ((wrap64 (s0_1 + 1)) - 1)) < (s0_0.length : Int) then (if 0 ≤ (wrap64 ((wrap64 (s0_1 + 1)) - 1)) then (if a1 = 0 then (none) else (some (Int.tmod (wrap64 (rd s0_0 (wrap64 ((wrap64 (s0_1 + 1)) - 1)))) a1,(wrap64 (s0_1 + 1))))) else (none)) else (if (s0_0.length : Int) = 0 then (none) else (if 0 ≤ (Int.tmod (wrap64 ((wrap64 (s0_1 + 1)) - 1)) (s0_0.length : Int)) then (if (Int.tmod (wrap64 ((wrap64 (s0_1 + 1)) - 1)) (s0_0.length : Int)) < (s0_0.length : Int) then (if 0 ≤ (Int.tmod (wrap64 ((wrap64 ((wrap64 ((wrap64 (s0_1 + 1)) - 1)) * 7)) + 3)) (s0_0.length : Int)) then (if (Int.tmod (wrap64 ((wrap64 ((wrap64 ((wrap64 (s0_1 + 1)) - 1)) * 7)) + 3)) (s0_0.length : Int)) < (s0_0.length : Int) then (if a1 = 0 then (none) else (some (Int.tmod (Go.bits .xor .i64 (wrap64 ((wrap64 ((wrap64 ((wrap64 ((wrap64 (rd s0_0 (Int.tmod (wrap64 ((wrap64 (s0_1 + 1)) - 1)) (s0_0.length : Int)))) * 131)) + (wrap64 ((wrap64 (rd s0_0 (Int.tmod (wrap64 ((wrap64 ((wrap64 ((wrap64 (s0_1 + 1)) - 1)) * 7)) + 3)) (s0_0.length : Int)))) * 1117)))) + (wrap64 ((wrap64 ((wrap64 (s0_1 + 1)) - 1)) * 29)))) + (wrap64 ((wrap64 (Int.tdiv (wrap64 ((wrap64 (s0_1 + 1)) - 1)) (s0_0.length : Int))) * 53)))) (wrap64 (Int.tdiv (wrap64 ((wrap64 ((wrap64 ((wrap64 ((wrap64 (rd s0_0 (Int.tmod (wrap64 ((wrap64 (s0_1 + 1)) - 1)) (s0_0.length : Int)))) * 131)) + (wrap64 ((wrap64 (rd s0_0 (Int.tmod (wrap64 ((wrap64 ((wrap64 ((wrap64 (s0_1 + 1)) - 1)) * 7)) + 3)) (s0_0.length : Int)))) * 1117)))) + (wrap64 ((wrap64 ((wrap64 (s0_1 + 1)) - 1)) * 29)))) + (wrap64 ((wrap64 (Int.tdiv (wrap64 ((wrap64 (s0_1 + 1)) - 1)) (s0_0.length : Int))) * 53)))) 64))) a1,(wrap64 (s0_1 + 1))))) else (none)) else (none)) else (none)) else (none)))) = some (r1,r2):=by rw [if_neg (show ¬ (false = true) by decide)] at H;exact H
    clear H
    have H:=H1
    clear H1
    by_cases c8 : (wrap64 ((wrap64 (s0_1 + 1)) - 1)) < (s0_0.length : Int)
    ·rw [if_pos c8] at H
     have c8b0 : decide ((wrap64 ((wrap64 (s0_1 + 1)) - 1)) < (s0_0.length : Int)) = true:=decide_eq_true c8
     clear c8
     obtain ⟨ji9,hji9⟩ : ∃ j_ : Int,(wrap64 ((wrap64 (s0_1 + 1)) - 1)) = j_:=⟨_,rfl⟩
     replace H : (if 0 ≤ (ji9) then (if a1 = 0 then (none) else (some (Int.tmod (wrap64 (rd s0_0 (ji9))) a1,(wrap64 (s0_1 + 1))))) else (none)) = some (r1,r2):=by first|(rw [hji9] at H;exact H)|(simp only [hji9] at H ⊢;exact H)
     (try rw [hji9] at c8b0)
     have hji9w : (IntKind.i64.wrap ((wrap64 (s0_1 + 1)) - 1)) = ji9:=(i64_w _).trans hji9
     by_cases c10 : 0 ≤ (ji9)
     ·rw [if_pos c10] at H
      have c10b0 : decide (0 ≤ (ji9)) = true:=decide_eq_true c10
      clear c10
      by_cases c11 : a1 = 0
      ·rw [if_pos c11] at H
       exact absurd H (by simp)
      ·rw [if_neg c11] at H
       have c11b0 : (a1 == 0) = false:=beq_eq_false_iff_ne.mpr c11
       have c11b1 : (a1 != 0) = true:=bne_iff_ne.mpr c11
       simp only [Option.some.injEq,Prod.mk.injEq] at H
       obtain ⟨rfl,rfl⟩:=H
       obtain ⟨ASz12_0,cSz12_0,HGz12,hgz12,HSz12_0⟩:=HI0.out
       have hcz12_0:=cellS68_0 HGz12
       have hcz12_1:=cellS68_1 HGz12
       have hfz12_1:=bf_ HGz12 1
       clear HGz12 hgz12
       have p406 : 0 ≤ ((ji9) : Int):=od_ qa_
       have q406 : (ji9) < (s0_0.length : Int):=od_ qa_
       obtain ⟨ad406,e406,hx406_0⟩:=Kd.at_int HSz12_0 (ji9) p406 q406
       cases e406
       replace hx406_0:=pw_cell_below HB.out hx406_0
       replace p406:=eq_true p406
       replace q406:=eq_true q406
       go_wp2
       repeat (go_quiet (fail);try go_wp2)
       go_ret
       exact ⟨by first|rfl|(simp [errW_none,errW_some] <;> rfl)|(simp only [← hji9];first|rfl|(simp [errW_none,errW_some] <;> rfl))|(simp [*,errW_none,errW_some] <;> rfl),u2_ HI0,u4_ HB HI0,u3_ HK⟩
     ·rw [if_neg c10] at H
      exact absurd H (by simp)
    ·rw [if_neg c8] at H
     have c8b0 : decide ((wrap64 ((wrap64 (s0_1 + 1)) - 1)) < (s0_0.length : Int)) = false:=decide_eq_false c8
     clear c8
     by_cases c13 : (s0_0.length : Int) = 0
     ·rw [if_pos c13] at H
      exact absurd H (by simp)
     ·rw [if_neg c13] at H
      have c13b0 : ((s0_0.length : Int) == 0) = false:=beq_eq_false_iff_ne.mpr c13
      have c13b1 : ((s0_0.length : Int) != 0) = true:=bne_iff_ne.mpr c13
      have c13b2 : ¬ (s0_0 = []):=fun h_ => c13 (by rw [h_];rfl)
      obtain ⟨ji14,hji14⟩ : ∃ j_ : Int,(Int.tmod (wrap64 ((wrap64 (s0_1 + 1)) - 1)) (s0_0.length : Int)) = j_:=⟨_,rfl⟩
      replace H : (if 0 ≤ (ji14) then (if (ji14) < (s0_0.length : Int) then (if 0 ≤ (Int.tmod (wrap64 ((wrap64 ((wrap64 ((wrap64 (s0_1 + 1)) - 1)) * 7)) + 3)) (s0_0.length : Int)) then (if (Int.tmod (wrap64 ((wrap64 ((wrap64 ((wrap64 (s0_1 + 1)) - 1)) * 7)) + 3)) (s0_0.length : Int)) < (s0_0.length : Int) then (if a1 = 0 then (none) else (some (Int.tmod (Go.bits .xor .i64 (wrap64 ((wrap64 ((wrap64 ((wrap64 ((wrap64 (rd s0_0 (ji14))) * 131)) + (wrap64 ((wrap64 (rd s0_0 (Int.tmod (wrap64 ((wrap64 ((wrap64 ((wrap64 (s0_1 + 1)) - 1)) * 7)) + 3)) (s0_0.length : Int)))) * 1117)))) + (wrap64 ((wrap64 ((wrap64 (s0_1 + 1)) - 1)) * 29)))) + (wrap64 ((wrap64 (Int.tdiv (wrap64 ((wrap64 (s0_1 + 1)) - 1)) (s0_0.length : Int))) * 53)))) (wrap64 (Int.tdiv (wrap64 ((wrap64 ((wrap64 ((wrap64 ((wrap64 (rd s0_0 (ji14))) * 131)) + (wrap64 ((wrap64 (rd s0_0 (Int.tmod (wrap64 ((wrap64 ((wrap64 ((wrap64 (s0_1 + 1)) - 1)) * 7)) + 3)) (s0_0.length : Int)))) * 1117)))) + (wrap64 ((wrap64 ((wrap64 (s0_1 + 1)) - 1)) * 29)))) + (wrap64 ((wrap64 (Int.tdiv (wrap64 ((wrap64 (s0_1 + 1)) - 1)) (s0_0.length : Int))) * 53)))) 64))) a1,(wrap64 (s0_1 + 1))))) else (none)) else (none)) else (none)) else (none)) = some (r1,r2):=by first|(rw [hji14] at H;exact H)|(simp only [hji14] at H ⊢;exact H)
      by_cases c15 : 0 ≤ (ji14)
      ·rw [if_pos c15] at H
       have c15b0 : decide (0 ≤ (ji14)) = true:=decide_eq_true c15
       clear c15
       by_cases c16 : (ji14) < (s0_0.length : Int)
       ·rw [if_pos c16] at H
        have c16b0 : decide ((ji14) < (s0_0.length : Int)) = true:=decide_eq_true c16
        clear c16
        obtain ⟨ji17,hji17⟩ : ∃ j_ : Int,(Int.tmod (wrap64 ((wrap64 ((wrap64 ((wrap64 (s0_1 + 1)) - 1)) * 7)) + 3)) (s0_0.length : Int)) = j_:=⟨_,rfl⟩
        replace H : (if 0 ≤ (ji17) then (if (ji17) < (s0_0.length : Int) then (if a1 = 0 then (none) else (some (Int.tmod (Go.bits .xor .i64 (wrap64 ((wrap64 ((wrap64 ((wrap64 ((wrap64 (rd s0_0 (ji14))) * 131)) + (wrap64 ((wrap64 (rd s0_0 (ji17))) * 1117)))) + (wrap64 ((wrap64 ((wrap64 (s0_1 + 1)) - 1)) * 29)))) + (wrap64 ((wrap64 (Int.tdiv (wrap64 ((wrap64 (s0_1 + 1)) - 1)) (s0_0.length : Int))) * 53)))) (wrap64 (Int.tdiv (wrap64 ((wrap64 ((wrap64 ((wrap64 ((wrap64 (rd s0_0 (ji14))) * 131)) + (wrap64 ((wrap64 (rd s0_0 (ji17))) * 1117)))) + (wrap64 ((wrap64 ((wrap64 (s0_1 + 1)) - 1)) * 29)))) + (wrap64 ((wrap64 (Int.tdiv (wrap64 ((wrap64 (s0_1 + 1)) - 1)) (s0_0.length : Int))) * 53)))) 64))) a1,(wrap64 (s0_1 + 1))))) else (none)) else (none)) = some (r1,r2):=by first|(rw [hji17] at H;exact H)|(simp only [hji17] at H ⊢;exact H)
        by_cases c18 : 0 ≤ (ji17)
        ·rw [if_pos c18] at H
         have c18b0 : decide (0 ≤ (ji17)) = true:=decide_eq_true c18
         clear c18
         by_cases c19 : (ji17) < (s0_0.length : Int)
         ·rw [if_pos c19] at H
          have c19b0 : decide ((ji17) < (s0_0.length : Int)) = true:=decide_eq_true c19
          clear c19
          by_cases c20 : a1 = 0
          ·rw [if_pos c20] at H
           exact absurd H (by simp)
          ·rw [if_neg c20] at H
           have c20b0 : (a1 == 0) = false:=beq_eq_false_iff_ne.mpr c20
           have c20b1 : (a1 != 0) = true:=bne_iff_ne.mpr c20
           simp only [Option.some.injEq,Prod.mk.injEq] at H
           obtain ⟨rfl,rfl⟩:=H
           obtain ⟨ASz21_0,cSz21_0,HGz21,hgz21,HSz21_0⟩:=HI0.out
           have hcz21_0:=cellS68_0 HGz21
           have hcz21_1:=cellS68_1 HGz21
           have hfz21_1:=bf_ HGz21 1
           clear HGz21 hgz21
           have p407 : 0 ≤ ((ji14) : Int):=od_ qa_
           have q407 : (ji14) < (s0_0.length : Int):=od_ qa_
           obtain ⟨ad407,e407,hx407_0⟩:=Kd.at_int HSz21_0 (ji14) p407 q407
           cases e407
           replace hx407_0:=pw_cell_below HB.out hx407_0
           replace p407:=eq_true p407
           replace q407:=eq_true q407
           have p408 : 0 ≤ ((ji17) : Int):=od_ qa_
           have q408 : (ji17) < (s0_0.length : Int):=od_ qa_
           obtain ⟨ad408,e408,hx408_0⟩:=Kd.at_int HSz21_0 (ji17) p408 q408
           obtain rfl : ad407 = ad408:=(by injection e408)
           replace hx408_0:=pw_cell_below HB.out hx408_0
           replace p408:=eq_true p408
           replace q408:=eq_true q408
           go_wp2
           repeat (go_quiet (fail);try go_wp2)
           go_ret
           exact ⟨by first|rfl|(simp [errW_none,errW_some] <;> rfl)|(simp only [← hji14,← hji17];first|rfl|(simp [errW_none,errW_some] <;> rfl))|(simp [*,errW_none,errW_some] <;> rfl),u2_ HI0,u4_ HB HI0,u3_ HK⟩
         ·rw [if_neg c19] at H
          exact absurd H (by simp)
        ·rw [if_neg c18] at H
         exact absurd H (by simp)
       ·rw [if_neg c16] at H
        exact absurd H (by simp)
      ·rw [if_neg c15] at H
       exact absurd H (by simp)

/-! ### spec_l21Rd_num: function 41 -/
def spec_l21Rd_num.f (k : Nat) (s0_0 : List Int) (s0_1 : Int) (l1 : List Int) : Option (Int × Int):=(spec_l21Rd_pick.f k s0_0 s0_1 (l1.length : Int)).bind fun bt409 => (if 0 ≤ bt409.1 then (if bt409.1 < (l1.length : Int) then (some (rd l1 bt409.1,bt409.2)) else (none)) else (none))
theorem spec_l21Rd_num.mono : ∀ a0 a1 a2 k,LeO (spec_l21Rd_num.f k a0 a1 a2) (spec_l21Rd_num.f (k + 1) a0 a1 a2):=by
 intro a0 a1 a2 k
 unfold spec_l21Rd_num.f
 repeat' first
   | (with_reducible exact spec_l21Rd_pick.mono _ _ _ _)
   | (with_reducible exact LeO.refl _)
   | (with_reducible exact LeO.none _)
   | (with_reducible refine LeO.ite ?_ ?_)
   | (with_reducible refine LeO.bind ?_ (fun _ => ?_))
   | exact spec_l21Rd_pick.mono _ _ _ _
   | exact LeO.none _
   | refine LeO.ite ?_ ?_
   | refine LeO.bind ?_ (fun _ => ?_)
set_option maxHeartbeats 8000000 in
set_option maxRecDepth 100000 in
theorem spec_l21Rd_num.calls (k : Nat) (g : Nat) (s0_0 : List Int) (s0_1 : Int) (A1 : Option Addr) (c1 : Nat) (l1 : List Int) (r1 : Int) (r2 : Int) (w0 w : World) (hI : IsS68 w0 w g s0_0 s0_1) (hB : Below w0.heap.size w0 w) (hr1 : Kd.C (Kd.int .i64) w A1 l1.length l1) (hc1 : l1.length ≤ c1) (hf1 : ∀ ad,A1 = some ad → 0 < l1.length → ad.block ≠ g) (h : spec_l21Rd_num.f k s0_0 s0_1 l1 = some (r1,r2)) :
  Calls Try.prog 41 #[.pointer (some ⟨g,0,none⟩),.slice A1 l1.length c1] w fun e w' => e = .returned (.int .i64 r1) ∧ IsS68 w0 w' g s0_0 r2 ∧ Below w0.heap.size w0 w' ∧ KeepBut w w' g none:=by
 have HR1:=mk_ hr1
 have HC1:=mk_ hc1
 clear hr1 hc1
 have HI0:=mk_ hI
 have HK:=mk_ (KeepBut.refl w g none)
 have HL:=mk_ hB.size
 clear hI
 have HW0:=mk_ hB.size
 have HB:=mk_ hB
 clear hB
 have H : ((spec_l21Rd_pick.f k s0_0 s0_1 (l1.length : Int)).bind fun bt409 => (if 0 ≤ bt409.1 then (if bt409.1 < (l1.length : Int) then (some (rd l1 bt409.1,bt409.2)) else (none)) else (none))) = some (r1,r2):=h
 clear h
 replace H:=Option.bind_eq_some_iff.mp H
 obtain ⟨⟨t409,t410⟩,A30,H⟩:=H
 replace H : (if 0 ≤ t409 then (if t409 < (l1.length : Int) then (some (rd l1 t409,t410)) else (none)) else (none)) = some (r1,r2):=H
 have A3:=mk_ A30
 clear A30
 by_cases c4 : 0 ≤ t409
 ·rw [if_pos c4] at H
  have c4b0 : decide (0 ≤ t409) = true:=decide_eq_true c4
  clear c4
  by_cases c5 : t409 < (l1.length : Int)
  ·rw [if_pos c5] at H
   have c5b0 : decide (t409 < (l1.length : Int)) = true:=decide_eq_true c5
   clear c5
   simp only [Option.some.injEq,Prod.mk.injEq] at H
   obtain ⟨rfl,rfl⟩:=H
   go_enter Try.func41,Try.ntmps41
   go_wp2_with (first|((with_reducible refine gate_callee (f:=49) rfl ?_);refine goesL_ (some 9) rfl rfl Try.func49 (by kernel_rfl) rfl #[.pointer (some ⟨g,0,none⟩),.int .i64 (l1.length : Int)] rfl qm_ ?_;(with_reducible refine (spec_l21Rd_pick.calls k g s0_0 s0_1 (l1.length : Int) t409 t410 w0 _ ?side1 ?side2 A3.out).mono ?_);(case side1 => exact u2_ HI0);(case side2 => exact u4_ HB HI0);rintro e w6 ⟨rfl,hi,hb,hk⟩;refine ⟨_,rfl,?_⟩;have n0_:=mk_ (KeepBut.trans (u3_ HK) hk (.inl rfl));have n1_:=mk_ (hb);have n2_:=mk_ (hi);clear HK HB HI0;have HK:=n0_;have HB:=n1_;have HI0:=n2_;clear n0_ n1_ n2_;(try clear hb);(try clear hb2);(try clear hk);(try clear hi);have p411 : 0 ≤ (t409 : Int):=od_ qa_;have q411 : t409 < (l1.length : Int):=od_ qa_;obtain ⟨ad411,e411,hx411_0⟩:=Kd.at_int HR1.out t409 p411 q411;cases e411;replace hx411_0:=keep_cell HK.out hx411_0 (by first|(rw [add_block];exact hf1 _ rfl (by omega))|exact hf1 _ rfl (by omega)|exact hf1 ad411 rfl (by omega));replace p411:=eq_true p411;replace q411:=eq_true q411))
   go_ret
   exact ⟨qe_,u2_ HI0,u4_ HB HI0,u3_ HK⟩
  ·rw [if_neg c5] at H
   exact absurd H (by simp)
 ·rw [if_neg c4] at H
  exact absurd H (by simp)

/-! ### spec_l1Some: function 62 -/
def spec_l1Some.l0 : Nat → Int → List Int → Int → List Int → Int → Option (List Int × Int)
 | 0,_,_,_,_,_ => none
 | k + 1,x1,x5,x6,x1000,x1001 => if x6 < x1 then ((spec_l21Rd_pick.f k x1000 x1001 4).bind fun bt415 => (if bt415.1 = 0 then ((spec_l21Rd_num.f k x1000 bt415.2 (([0,1,125,126,127,128,255,94,93] : List Int))).bind fun bt420 => (if x5.length < 140737488355328 then (spec_l1Some.l0 k x1 (x5 ++ [(bt420.1) % 256]) (wrap64 (x6 + 1)) x1000 bt420.2) else (none))) else ((spec_l21Rd_pick.f k x1000 bt415.2 256).bind fun bt425 => (if x5.length < 140737488355328 then (spec_l1Some.l0 k x1 (x5 ++ [(bt425.1) % 256]) (wrap64 (x6 + 1)) x1000 bt425.2) else (none))))) else (some (x5,x1001))
def spec_l1Some.f (k : Nat) (s0_0 : List Int) (s0_1 : Int) (a1 : Int) : Option (List Int × Int):=spec_l1Some.l0 k a1 (([] : List Int)) 0 s0_0 s0_1
theorem spec_l1Some.mono_l : ∀ k,(∀ y0 y1 y2 y3 y4,LeO (spec_l1Some.l0 k y0 y1 y2 y3 y4) (spec_l1Some.l0 (k + 1) y0 y1 y2 y3 y4))
 | 0 => fun _ _ _ _ _ r h => by simp [spec_l1Some.l0] at h
 | k + 1 => by
  have ih0:=spec_l1Some.mono_l k
  ·intro y0 y1 y2 y3 y4
   unfold spec_l1Some.l0
   repeat' first
   | (with_reducible exact ih0 _ _ _ _ _)
   | (with_reducible exact spec_l21Rd_num.mono _ _ _ _)
   | (with_reducible exact spec_l21Rd_pick.mono _ _ _ _)
   | (with_reducible exact LeO.refl _)
   | (with_reducible exact LeO.none _)
   | (with_reducible refine LeO.ite ?_ ?_)
   | (with_reducible refine LeO.bind ?_ (fun _ => ?_))
   | exact ih0 _ _ _ _ _
   | exact spec_l21Rd_num.mono _ _ _ _
   | exact spec_l21Rd_pick.mono _ _ _ _
   | exact LeO.none _
   | refine LeO.ite ?_ ?_
   | refine LeO.bind ?_ (fun _ => ?_)
theorem spec_l1Some.mono : ∀ a0 a1 a2 k,LeO (spec_l1Some.f k a0 a1 a2) (spec_l1Some.f (k + 1) a0 a1 a2):=by
 intro a0 a1 a2 k
 have ih0:=spec_l1Some.mono_l k
 unfold spec_l1Some.f
 repeat' first
   | (with_reducible exact ih0 _ _ _ _ _)
   | (with_reducible exact spec_l21Rd_num.mono _ _ _ _)
   | (with_reducible exact spec_l21Rd_pick.mono _ _ _ _)
   | (with_reducible exact LeO.refl _)
   | (with_reducible exact LeO.none _)
   | (with_reducible refine LeO.ite ?_ ?_)
   | (with_reducible refine LeO.bind ?_ (fun _ => ?_))
   | exact ih0 _ _ _ _ _
   | exact spec_l21Rd_num.mono _ _ _ _
   | exact spec_l21Rd_pick.mono _ _ _ _
   | exact LeO.none _
   | refine LeO.ite ?_ ?_
   | refine LeO.bind ?_ (fun _ => ?_)
set_option maxHeartbeats 8000000 in
set_option maxRecDepth 100000 in
theorem spec_l1Some.calls (k : Nat) (g : Nat) (s0_0 : List Int) (s0_1 : Int) (a1 : Int) (r1 : List Int) (r2 : Int) (w0 w : World) (hI : IsS68 w0 w g s0_0 s0_1) (hB : Below w0.heap.size w0 w) (h : spec_l1Some.f k s0_0 s0_1 a1 = some (r1,r2)) :
  Calls Try.prog 62 #[.pointer (some ⟨g,0,none⟩),.int .i64 a1] w fun e w' => ∃ v0_ : Value,e = .returned (v0_) ∧ Kd.R (Kd.int .u8) 5 w' w.heap.size (fun _ => True) v0_ r1 ∧ IsS68 w0 w' g s0_0 r2 ∧ Below w0.heap.size w0 w' ∧ KeepBut w w' g none:=by
 have HI0:=mk_ hI
 have HK:=mk_ (KeepBut.refl w g none)
 have HL:=mk_ hB.size
 clear hI
 have HW0:=mk_ hB.size
 have HB:=mk_ hB
 clear hB
 have H : (spec_l1Some.l0 k a1 (([] : List Int)) 0 s0_0 s0_1) = some (r1,r2):=h
 clear h
 obtain ⟨y412,hy412⟩ : ∃ y_ : List Int,y_ = (([] : List Int)):=⟨_,rfl⟩
 replace H : (spec_l1Some.l0 k a1 y412 0 s0_0 s0_1) = some (r1,r2):=by first|(rw [hy412];with_reducible exact H)|(have H2_:=(Option.bind_some _ _).symm.trans H;rw [hy412];with_reducible exact H2_)|(have H2_:=(Option.bind_some _ _).symm.trans H;with_reducible exact H2_)|with_reducible exact H|(rw [hy412];exact H)|exact H
 have Ny412:=mk_ hy412
 clear hy412
 have H':=mk_ H
 clear H
 go_enter Try.func62,Try.ntmps62
 go_wp2_with (first|((with_reducible refine gate_dst (N:=7) rfl ?_);refine Kd.R_lit (Kd.int .u8) _ 5 ?hg (N:=7) ?hd (xs:=([] : List Int)) (inner:=[]) (ok:=fun _ => True) (okp:=fun _ => True) ?hr ?hp (fun _ hk => hk) trivial (Below.refl _ _) (Nat.le_refl _) (by simp) ?_;(case hd => rfl);(case hg => rfl);(case hr => first|(go_simp;done)|(go_simp;rfl));(case hp => exact (Reps.none _ _));intro v413 w3 ho4 hb hg_ hnew_;clear hg_ hnew_;(first|rw [← Ny412.out] at ho4|(simp only [Int.reduceToNat] at ho4;rw [← Ny412.out] at ho4));have n0_:=mk_ (Kd.R_lower ho4 (keep_size (w:=w) (g:=g) (row:=none) (u3_ HK)));have n1_:=mk_ (IsS68.below (u2_ HI0) hb);have n2_:=mk_ (KeepBut.trans (u3_ HK) (KeepBut.of_below hb g none) (.inl rfl));have n3_:=mk_ (st_ (u4_ HB HI0) hb);clear HI0 HK HB;have HO414:=n0_;have HI0:=n1_;have HK:=n2_;have HB:=n3_;clear n0_ n1_ n2_ n3_ hb ho4))
 go_loopg [5,6] k (fun kq v5 v6 w' => ∃ (x5_1 : List Int) (x6_1 : Int) (x1001_1 : Int),v6 = .int .i64 x6_1 ∧ Aside0 (spec_l1Some.l0 kq a1 x5_1 x6_1 s0_0 x1001_1 = some (r1,r2)) ∧ Aside0 (kq ≤ k) ∧ Aside0 (Kd.R (Kd.int .u8) 5 w' w.heap.size (fun _ => True) v5 x5_1) ∧ Aside0 (IsS68 w0 w' g s0_0 x1001_1) ∧ Aside0 (KeepBut w w' g none) ∧ Aside0 (Below w0.heap.size w0 w'))
 case atStart => exact ⟨(y412),(0),(s0_1),qf_,H',⟨Nat.le_refl _⟩,⟨qr_ HO414⟩,⟨u2_ HI0⟩,⟨u3_ HK⟩,⟨u4_ HB HI0⟩⟩
 case round =>
  clear H'
  try clear p2
  obtain ⟨x5_1,x6_1,x1001_1,rfl,HA,HK1,HO_5,HI0,HK,HB⟩:=hrel
  cases gk with
  | zero => exact absurd HA.out (by simp [spec_l1Some.l0])
  | succ k1 =>
   have H:=HA.out
   clear HA
   simp only [spec_l1Some.l0] at H
   by_cases c5 : x6_1 < a1
   ·rw [if_pos c5] at H
    have c5b0 : decide (x6_1 < a1) = true:=decide_eq_true c5
    clear c5
    replace H:=Option.bind_eq_some_iff.mp H
    obtain ⟨⟨t415,t416⟩,A60,H⟩:=H
    replace H : (if t415 = 0 then ((spec_l21Rd_num.f k1 s0_0 t416 (([0,1,125,126,127,128,255,94,93] : List Int))).bind fun bt420 => (if x5_1.length < 140737488355328 then (spec_l1Some.l0 k1 a1 (x5_1 ++ [(bt420.1) % 256]) (wrap64 (x6_1 + 1)) s0_0 bt420.2) else (none))) else ((spec_l21Rd_pick.f k1 s0_0 t416 256).bind fun bt425 => (if x5_1.length < 140737488355328 then (spec_l1Some.l0 k1 a1 (x5_1 ++ [(bt425.1) % 256]) (wrap64 (x6_1 + 1)) s0_0 bt425.2) else (none)))) = some (r1,r2):=H
    have A6:=mk_ A60
    clear A60
    by_cases c7 : t415 = 0
    ·rw [if_pos c7] at H
     have c7b0 : (t415 == 0) = true:=beq_iff_eq.mpr c7
     have c7b1 : (t415 != 0) = false:=bne_eq_false_iff_eq.mpr c7
     clear c7
     obtain ⟨y417,hy417⟩ : ∃ y_ : List Int,y_ = (([0,1,125,126,127,128,255,94,93] : List Int)):=⟨_,rfl⟩
     replace H : ((spec_l21Rd_num.f k1 s0_0 t416 y417).bind fun bt420 => (if x5_1.length < 140737488355328 then (spec_l1Some.l0 k1 a1 (x5_1 ++ [(bt420.1) % 256]) (wrap64 (x6_1 + 1)) s0_0 bt420.2) else (none))) = some (r1,r2):=by first|(rw [hy417];with_reducible exact H)|(have H2_:=(Option.bind_some _ _).symm.trans H;rw [hy417];with_reducible exact H2_)|(have H2_:=(Option.bind_some _ _).symm.trans H;with_reducible exact H2_)|with_reducible exact H|(rw [hy417];exact H)|exact H
     have Ny417:=mk_ hy417
     clear hy417
     replace H:=Option.bind_eq_some_iff.mp H
     obtain ⟨⟨t420,t421⟩,A80,H⟩:=H
     replace H : (if x5_1.length < 140737488355328 then (spec_l1Some.l0 k1 a1 (x5_1 ++ [(t420) % 256]) (wrap64 (x6_1 + 1)) s0_0 t421) else (none)) = some (r1,r2):=H
     have A8:=mk_ A80
     clear A80
     by_cases c9 : x5_1.length < 140737488355328
     ·rw [if_pos c9] at H
      have LMc9:=mk_ c9
      clear c9
      obtain ⟨y422,hy422⟩ : ∃ y_ : List Int,y_ = (x5_1 ++ [(t420) % 256]):=⟨_,rfl⟩
      replace H : (spec_l1Some.l0 k1 a1 y422 (wrap64 (x6_1 + 1)) s0_0 t421) = some (r1,r2):=by first|(rw [hy422];with_reducible exact H)|(have H2_:=(Option.bind_some _ _).symm.trans H;rw [hy422];with_reducible exact H2_)|(have H2_:=(Option.bind_some _ _).symm.trans H;with_reducible exact H2_)|with_reducible exact H|(rw [hy422];exact H)|exact H
      have Ny422:=mk_ hy422
      clear hy422
      have H':=mk_ H
      clear H
      go_wp2_with (first|((with_reducible refine gate_callee (f:=49) rfl ?_);refine goesL_ (some 14) rfl rfl Try.func49 (by kernel_rfl) rfl #[.pointer (some ⟨g,0,none⟩),.int .i64 4] rfl qm_ ?_;(with_reducible refine (spec_l21Rd_pick.calls k1 g s0_0 x1001_1 4 t415 t416 w0 _ ?side1 ?side2 A6.out).mono ?_);(case side1 => exact u2_ HI0);(case side2 => exact u4_ HB HI0);rintro e w10 ⟨rfl,hi,hb,hk⟩;refine ⟨_,rfl,?_⟩;have n0_:=mk_ (rm_ (Kd.R_keep (IsS68.apart (show IsS68 w0 _ g s0_0 x1001_1 from u2_ HI0) (qr_ HO_5) (by decide)) hk (fun _ h => h.2)) (fun _ h => h.1));have n1_:=mk_ (KeepBut.trans (u3_ HK) hk (.inl rfl));have n2_:=mk_ (hb);have n3_:=mk_ (hi);clear HO_5 HK HB HI0;have HO_5:=n0_;have HK:=n1_;have HB:=n2_;have HI0:=n3_;clear n0_ n1_ n2_ n3_;(try clear hb);(try clear hb2);(try clear hk);(try clear hi))|((with_reducible refine gate_dst (N:=25) rfl ?_);refine Kd.R_lit (Kd.int .i64) _ 3 ?hg (N:=25) ?hd (xs:=([0,1,125,126,127,128,255,94,93] : List Int)) (inner:=[.int .i64 0,.int .i64 1,.int .i64 125,.int .i64 126,.int .i64 127,.int .i64 128,.int .i64 255,.int .i64 94,.int .i64 93]) (ok:=fun _ => True) (okp:=fun _ => True) ?hr ?hp (fun _ hk => hk) trivial (Below.refl _ _) (Nat.le_refl _) (by simp) ?_;(case hd => rfl);(case hg => rfl);(case hr => first|(go_simp;done)|(go_simp;rfl));(case hp => exact (Reps.one (show Kd.M (Kd.int .i64) _ _ _ 0 [.int .i64 0] from rfl) (Reps.one (show Kd.M (Kd.int .i64) _ _ _ 1 [.int .i64 1] from rfl) (Reps.one (show Kd.M (Kd.int .i64) _ _ _ 125 [.int .i64 125] from rfl) (Reps.one (show Kd.M (Kd.int .i64) _ _ _ 126 [.int .i64 126] from rfl) (Reps.one (show Kd.M (Kd.int .i64) _ _ _ 127 [.int .i64 127] from rfl) (Reps.one (show Kd.M (Kd.int .i64) _ _ _ 128 [.int .i64 128] from rfl) (Reps.one (show Kd.M (Kd.int .i64) _ _ _ 255 [.int .i64 255] from rfl) (Reps.one (show Kd.M (Kd.int .i64) _ _ _ 94 [.int .i64 94] from rfl) (Reps.one (show Kd.M (Kd.int .i64) _ _ _ 93 [.int .i64 93] from rfl) (Reps.none _ _)))))))))));intro v418 w11 ho12 hb hg_ hnew_;clear hg_ hnew_;(first|rw [← Ny417.out] at ho12|(simp only [Int.reduceToNat] at ho12;rw [← Ny417.out] at ho12));have n0_:=mk_ (rb_ (qr_ HO_5) hb);have n1_:=mk_ (Kd.R_lower ho12 (keep_size (w:=w) (g:=g) (row:=none) (u3_ HK)));have n2_:=mk_ (IsS68.below (u2_ HI0) hb);have n3_:=mk_ (KeepBut.trans (u3_ HK) (KeepBut.of_below hb g none) (.inl rfl));have n4_:=mk_ (st_ (u4_ HB HI0) hb);clear HO_5 HI0 HK HB;have HO_5:=n0_;have HO419:=n1_;have HI0:=n2_;have HK:=n3_;have HB:=n4_;clear n0_ n1_ n2_ n3_ n4_ hb ho12;obtain ⟨Ao13,co13,eo13⟩:=Kd.R_slice HO419.out;subst eo13)|((with_reducible refine gate_callee (f:=41) rfl ?_);refine goesL_ (some 26) rfl rfl Try.func41 (by kernel_rfl) rfl #[.pointer (some ⟨g,0,none⟩),.slice Ao13 y417.length co13] rfl qm_ ?_;(with_reducible refine (spec_l21Rd_num.calls k1 g s0_0 t416 _ _ y417 t420 t421 w0 _ ?side1 ?side2 ?side3 ?side4 ?side5 A8.out).mono ?_);(case side1 => exact u2_ HI0);(case side2 => exact u4_ HB HI0);(case side3 => repeat (first|exact (rr_ HO419.out).2.2|(with_reducible refine ca_ ?_ _)|(with_reducible refine cn_ ?_ _)|(with_reducible refine cd_ ?_)));(case side4 => exact (rr_ HO419.out).2.1);(case side5 => exact far_slice (IsS68.own_ne HI0.out HO419.out (by decide)));rintro e w14 ⟨rfl,hi,hb,hk⟩;refine ⟨_,rfl,?_⟩;have n0_:=mk_ (rm_ (Kd.R_keep (IsS68.apart (show IsS68 w0 _ g s0_0 t416 from u2_ HI0) (qr_ HO_5) (by decide)) hk (fun _ h => h.2)) (fun _ h => h.1));have n1_:=mk_ (rm_ (Kd.R_keep (IsS68.apart (show IsS68 w0 _ g s0_0 t416 from u2_ HI0) (qr_ HO419) (by decide)) hk (fun _ h => h.2)) (fun _ h => h.1));have n2_:=mk_ (KeepBut.trans (u3_ HK) hk (.inl rfl));have n3_:=mk_ (hb);have n4_:=mk_ (hi);clear HO_5 HO419 HK HB HI0;have HO_5:=n0_;have HO419:=n1_;have HK:=n2_;have HB:=n3_;have HI0:=n4_;clear n0_ n1_ n2_ n3_ n4_;(try clear hb);(try clear hb2);(try clear hk);(try clear hi))|((with_reducible refine gate_builtin (b:=.append) (xs:=#[.tmp 23,.tmp 28]) rfl ?_);at_builtin;refine Kd.R_append (Kd.int .u8) w.heap.size rfl (.tmp 23) (.tmp 28) 22 5 (.int .u8 0) 1 rfl Try.underlying22 info5 rfl (by decide) (by omega) u5 x5_1 ((t420) % 256) [.int .u8 ((t420) % 256)] (fun _ => True) (fun _ => False) rfl rfl ?aP (fun _ hk => hk.elim) ?aF ?aO (Below.refl _ _) ?aS ?aL ?_;(case aP => exact rfl);(case aF => exact (fun _ _ => trivial));(case aO => exact (qr_ HO_5));(case aS => exact (keep_size (w:=w) (g:=g) (row:=none) (u3_ HK)));(case aL => have:=LMc9.out;omega);intro v423 w15 ho hb hg hat;rw [← Ny422.out] at ho;have n0_:=mk_ (IsS68.grown (u2_ HI0) hg (IsS68.own_ne HI0.out HO_5.out (by decide)));have n1_:=mk_ (Kd.R_over' (qr_ HO419) (Kd.R_typed (qr_ HO_5)) (by decide) hg);have n2_:=mk_ (below_weaken (u4_ HB HI0) HL.out hb);have n3_:=mk_ (KeepBut.trans (u3_ HK) (KeepBut.of_grown hg g) (Kd.R_base2 HO_5.out));have n4_:=mk_ (ho);clear HI0 HO419 HB HK HO_5;have HI0:=n0_;have HO419:=n1_;have HB:=n2_;have HK:=n3_;have HO424:=n4_;clear n0_ n1_ n2_ n3_ n4_ ho hb hg hat))
      go_roundg k1
      case measure => have:=HK1.out;omega
      case rel => exact ⟨(y422),(wrap64 (x6_1 + 1)),(t421),qf_,H',⟨by have:=HK1.out;omega⟩,⟨qr_ HO424⟩,⟨u2_ HI0⟩,⟨u3_ HK⟩,⟨u4_ HB HI0⟩⟩
     ·rw [if_neg c9] at H
      exact absurd H (by simp)
    ·rw [if_neg c7] at H
     have c7b0 : (t415 == 0) = false:=beq_eq_false_iff_ne.mpr c7
     have c7b1 : (t415 != 0) = true:=bne_iff_ne.mpr c7
     replace H:=Option.bind_eq_some_iff.mp H
     obtain ⟨⟨t425,t426⟩,A160,H⟩:=H
     replace H : (if x5_1.length < 140737488355328 then (spec_l1Some.l0 k1 a1 (x5_1 ++ [(t425) % 256]) (wrap64 (x6_1 + 1)) s0_0 t426) else (none)) = some (r1,r2):=H
     have A16:=mk_ A160
     clear A160
     by_cases c17 : x5_1.length < 140737488355328
     ·rw [if_pos c17] at H
      have LMc17:=mk_ c17
      clear c17
      obtain ⟨y427,hy427⟩ : ∃ y_ : List Int,y_ = (x5_1 ++ [(t425) % 256]):=⟨_,rfl⟩
      replace H : (spec_l1Some.l0 k1 a1 y427 (wrap64 (x6_1 + 1)) s0_0 t426) = some (r1,r2):=by first|(rw [hy427];with_reducible exact H)|(have H2_:=(Option.bind_some _ _).symm.trans H;rw [hy427];with_reducible exact H2_)|(have H2_:=(Option.bind_some _ _).symm.trans H;with_reducible exact H2_)|with_reducible exact H|(rw [hy427];exact H)|exact H
      have Ny427:=mk_ hy427
      clear hy427
      have H':=mk_ H
      clear H
      go_wp2_with (first|((with_reducible refine gate_callee (f:=49) rfl ?_);refine goesL_ (some 14) rfl rfl Try.func49 (by kernel_rfl) rfl #[.pointer (some ⟨g,0,none⟩),.int .i64 4] rfl qm_ ?_;(with_reducible refine (spec_l21Rd_pick.calls k1 g s0_0 x1001_1 4 t415 t416 w0 _ ?side1 ?side2 A6.out).mono ?_);(case side1 => exact u2_ HI0);(case side2 => exact u4_ HB HI0);rintro e w18 ⟨rfl,hi,hb,hk⟩;refine ⟨_,rfl,?_⟩;have n0_:=mk_ (rm_ (Kd.R_keep (IsS68.apart (show IsS68 w0 _ g s0_0 x1001_1 from u2_ HI0) (qr_ HO_5) (by decide)) hk (fun _ h => h.2)) (fun _ h => h.1));have n1_:=mk_ (KeepBut.trans (u3_ HK) hk (.inl rfl));have n2_:=mk_ (hb);have n3_:=mk_ (hi);clear HO_5 HK HB HI0;have HO_5:=n0_;have HK:=n1_;have HB:=n2_;have HI0:=n3_;clear n0_ n1_ n2_ n3_;(try clear hb);(try clear hb2);(try clear hk);(try clear hi))|((with_reducible refine gate_callee (f:=49) rfl ?_);refine goesL_ (some 17) rfl rfl Try.func49 (by kernel_rfl) rfl #[.pointer (some ⟨g,0,none⟩),.int .i64 256] rfl qm_ ?_;(with_reducible refine (spec_l21Rd_pick.calls k1 g s0_0 t416 256 t425 t426 w0 _ ?side1 ?side2 A16.out).mono ?_);(case side1 => exact u2_ HI0);(case side2 => exact u4_ HB HI0);rintro e w19 ⟨rfl,hi,hb,hk⟩;refine ⟨_,rfl,?_⟩;have n0_:=mk_ (rm_ (Kd.R_keep (IsS68.apart (show IsS68 w0 _ g s0_0 t416 from u2_ HI0) (qr_ HO_5) (by decide)) hk (fun _ h => h.2)) (fun _ h => h.1));have n1_:=mk_ (KeepBut.trans (u3_ HK) hk (.inl rfl));have n2_:=mk_ (hb);have n3_:=mk_ (hi);clear HO_5 HK HB HI0;have HO_5:=n0_;have HK:=n1_;have HB:=n2_;have HI0:=n3_;clear n0_ n1_ n2_ n3_;(try clear hb);(try clear hb2);(try clear hk);(try clear hi))|((with_reducible refine gate_builtin (b:=.append) (xs:=#[.tmp 15,.tmp 19]) rfl ?_);at_builtin;refine Kd.R_append (Kd.int .u8) w.heap.size rfl (.tmp 15) (.tmp 19) 22 5 (.int .u8 0) 1 rfl Try.underlying22 info5 rfl (by decide) (by omega) u5 x5_1 ((t425) % 256) [.int .u8 ((t425) % 256)] (fun _ => True) (fun _ => False) rfl rfl ?aP (fun _ hk => hk.elim) ?aF ?aO (Below.refl _ _) ?aS ?aL ?_;(case aP => exact rfl);(case aF => exact (fun _ _ => trivial));(case aO => exact (qr_ HO_5));(case aS => exact (keep_size (w:=w) (g:=g) (row:=none) (u3_ HK)));(case aL => have:=LMc17.out;omega);intro v428 w20 ho hb hg hat;rw [← Ny427.out] at ho;have n0_:=mk_ (IsS68.grown (u2_ HI0) hg (IsS68.own_ne HI0.out HO_5.out (by decide)));have n1_:=mk_ (below_weaken (u4_ HB HI0) HL.out hb);have n2_:=mk_ (KeepBut.trans (u3_ HK) (KeepBut.of_grown hg g) (Kd.R_base2 HO_5.out));have n3_:=mk_ (ho);clear HI0 HB HK HO_5;have HI0:=n0_;have HB:=n1_;have HK:=n2_;have HO429:=n3_;clear n0_ n1_ n2_ n3_ ho hb hg hat))
      go_roundg k1
      case measure => have:=HK1.out;omega
      case rel => exact ⟨(y427),(wrap64 (x6_1 + 1)),(t426),qf_,H',⟨by have:=HK1.out;omega⟩,⟨qr_ HO429⟩,⟨u2_ HI0⟩,⟨u3_ HK⟩,⟨u4_ HB HI0⟩⟩
     ·rw [if_neg c17] at H
      exact absurd H (by simp)
   ·rw [if_neg c5] at H
    have c5b0 : decide (x6_1 < a1) = false:=decide_eq_false c5
    clear c5
    simp only [Option.some.injEq,Prod.mk.injEq] at H
    obtain ⟨rfl,rfl⟩:=H
    go_wp2
    go_ret
    exact ⟨_,qe_,qr_ HO_5,u2_ HI0,u4_ HB HI0,u3_ HK⟩

/-! ### spec_l4Sent: function 47 -/
def spec_l4Sent.l0 : Nat → List (List Int) → Int → List Int → Int → Option ((List (List Int)) × Int)
 | 0,_,_,_,_ => none
 | k + 1,x3,x4,x1000,x1001 => if x4 > 0 then ((spec_l21Rd_num.f k x1000 x1001 (([1,2,0,4] : List Int))).bind fun bt441 => ((spec_l1Some.f k x1000 bt441.2 bt441.1).bind fun bt443 => (if x3.length < 5864062014805 then (spec_l4Sent.l0 k (x3 ++ [bt443.1]) (wrap64 (x4 - 1)) x1000 bt443.2) else (none)))) else (some (x3,x1001))
def spec_l4Sent.f (k : Nat) (s0_0 : List Int) (s0_1 : Int) : Option ((List (List Int)) × Int):=(spec_l21Rd_num.f k s0_0 s0_1 (([3,5,0,8,1,14] : List Int))).bind fun bt436 => (spec_l4Sent.l0 k (([] : List (List Int))) bt436.1 s0_0 bt436.2)
theorem spec_l4Sent.mono_l : ∀ k,(∀ y0 y1 y2 y3,LeO (spec_l4Sent.l0 k y0 y1 y2 y3) (spec_l4Sent.l0 (k + 1) y0 y1 y2 y3))
 | 0 => fun _ _ _ _ r h => by simp [spec_l4Sent.l0] at h
 | k + 1 => by
  have ih0:=spec_l4Sent.mono_l k
  ·intro y0 y1 y2 y3
   unfold spec_l4Sent.l0
   repeat' first
   | (with_reducible exact ih0 _ _ _ _)
   | (with_reducible exact spec_l1Some.mono _ _ _ _)
   | (with_reducible exact spec_l21Rd_num.mono _ _ _ _)
   | (with_reducible exact LeO.refl _)
   | (with_reducible exact LeO.none _)
   | (with_reducible refine LeO.ite ?_ ?_)
   | (with_reducible refine LeO.bind ?_ (fun _ => ?_))
   | exact ih0 _ _ _ _
   | exact spec_l1Some.mono _ _ _ _
   | exact spec_l21Rd_num.mono _ _ _ _
   | exact LeO.none _
   | refine LeO.ite ?_ ?_
   | refine LeO.bind ?_ (fun _ => ?_)
theorem spec_l4Sent.mono : ∀ a0 a1 k,LeO (spec_l4Sent.f k a0 a1) (spec_l4Sent.f (k + 1) a0 a1):=by
 intro a0 a1 k
 have ih0:=spec_l4Sent.mono_l k
 unfold spec_l4Sent.f
 repeat' first
   | (with_reducible exact ih0 _ _ _ _)
   | (with_reducible exact spec_l1Some.mono _ _ _ _)
   | (with_reducible exact spec_l21Rd_num.mono _ _ _ _)
   | (with_reducible exact LeO.refl _)
   | (with_reducible exact LeO.none _)
   | (with_reducible refine LeO.ite ?_ ?_)
   | (with_reducible refine LeO.bind ?_ (fun _ => ?_))
   | exact ih0 _ _ _ _
   | exact spec_l1Some.mono _ _ _ _
   | exact spec_l21Rd_num.mono _ _ _ _
   | exact LeO.none _
   | refine LeO.ite ?_ ?_
   | refine LeO.bind ?_ (fun _ => ?_)
set_option maxHeartbeats 8000000 in
set_option maxRecDepth 100000 in
theorem spec_l4Sent.calls (k : Nat) (g : Nat) (s0_0 : List Int) (s0_1 : Int) (r1 : List (List Int)) (r2 : Int) (w0 w : World) (hI : IsS68 w0 w g s0_0 s0_1) (hB : Below w0.heap.size w0 w) (h : spec_l4Sent.f k s0_0 s0_1 = some (r1,r2)) :
  Calls Try.prog 47 #[.pointer (some ⟨g,0,none⟩)] w fun e w' => ∃ v0_ : Value,e = .returned (v0_) ∧ Kd.S (Kd.slice 5 (Kd.int .u8)) 22 w' w.heap.size (fun _ => True) v0_ r1 ∧ IsS68 w0 w' g s0_0 r2 ∧ Below w0.heap.size w0 w' ∧ KeepBut w w' g none:=by
 have HI0:=mk_ hI
 have HK:=mk_ (KeepBut.refl w g none)
 have HL:=mk_ hB.size
 clear hI
 have HW0:=mk_ hB.size
 have HB:=mk_ hB
 clear hB
 have H : ((spec_l21Rd_num.f k s0_0 s0_1 (([3,5,0,8,1,14] : List Int))).bind fun bt436 => (spec_l4Sent.l0 k (([] : List (List Int))) bt436.1 s0_0 bt436.2)) = some (r1,r2):=h
 clear h
 obtain ⟨y430,hy430⟩ : ∃ y_ : List (List Int),y_ = (([] : List (List Int))):=⟨_,rfl⟩
 replace H : ((spec_l21Rd_num.f k s0_0 s0_1 (([3,5,0,8,1,14] : List Int))).bind fun bt436 => (spec_l4Sent.l0 k y430 bt436.1 s0_0 bt436.2)) = some (r1,r2):=by first|(rw [hy430];with_reducible exact H)|(have H2_:=(Option.bind_some _ _).symm.trans H;rw [hy430];with_reducible exact H2_)|(have H2_:=(Option.bind_some _ _).symm.trans H;with_reducible exact H2_)|with_reducible exact H|(rw [hy430];exact H)|exact H
 have Ny430:=mk_ hy430
 clear hy430
 obtain ⟨y433,hy433⟩ : ∃ y_ : List Int,y_ = (([3,5,0,8,1,14] : List Int)):=⟨_,rfl⟩
 replace H : ((spec_l21Rd_num.f k s0_0 s0_1 y433).bind fun bt436 => (spec_l4Sent.l0 k y430 bt436.1 s0_0 bt436.2)) = some (r1,r2):=by first|(rw [hy433];with_reducible exact H)|(have H2_:=(Option.bind_some _ _).symm.trans H;rw [hy433];with_reducible exact H2_)|(have H2_:=(Option.bind_some _ _).symm.trans H;with_reducible exact H2_)|with_reducible exact H|(rw [hy433];exact H)|exact H
 have Ny433:=mk_ hy433
 clear hy433
 replace H:=Option.bind_eq_some_iff.mp H
 obtain ⟨⟨t436,t437⟩,A20,H⟩:=H
 replace H : (spec_l4Sent.l0 k y430 t436 s0_0 t437) = some (r1,r2):=H
 have A2:=mk_ A20
 clear A20
 have H':=mk_ H
 clear H
 go_enter Try.func47,Try.ntmps47
 go_wp2_with (first|((with_reducible refine gate_dst (N:=5) rfl ?_);refine Kd.S_lit (Kd.slice 5 (Kd.int .u8)) _ 22 ?hg (N:=5) ?hd (xs:=([] : List (List Int))) (inner:=[]) (ok:=fun _ => True) (okp:=fun _ => True) ?hr ?hp (fun _ hk => hk) trivial (Below.refl _ _) (Nat.le_refl _) (by simp) ?_;(case hd => rfl);(case hg => rfl);(case hr => first|(go_simp;done)|(go_simp;rfl));(case hp => exact (Reps.none _ _));intro v431 w3 ho4 hb hg_ hnew_;clear hg_ hnew_;(first|rw [← Ny430.out] at ho4|(simp only [Int.reduceToNat] at ho4;rw [← Ny430.out] at ho4));have n0_:=mk_ (Kd.S_lower ho4 (keep_size (w:=w) (g:=g) (row:=none) (u3_ HK)));have n1_:=mk_ (IsS68.below (u2_ HI0) hb);have n2_:=mk_ (KeepBut.trans (u3_ HK) (KeepBut.of_below hb g none) (.inl rfl));have n3_:=mk_ (st_ (u4_ HB HI0) hb);clear HI0 HK HB;have HO432:=n0_;have HI0:=n1_;have HK:=n2_;have HB:=n3_;clear n0_ n1_ n2_ n3_ hb ho4)|((with_reducible refine gate_dst (N:=7) rfl ?_);refine Kd.R_lit (Kd.int .i64) _ 3 ?hg (N:=7) ?hd (xs:=([3,5,0,8,1,14] : List Int)) (inner:=[.int .i64 3,.int .i64 5,.int .i64 0,.int .i64 8,.int .i64 1,.int .i64 14]) (ok:=fun _ => True) (okp:=fun _ => True) ?hr ?hp (fun _ hk => hk) trivial (Below.refl _ _) (Nat.le_refl _) (by simp) ?_;(case hd => rfl);(case hg => rfl);(case hr => first|(go_simp;done)|(go_simp;rfl));(case hp => exact (Reps.one (show Kd.M (Kd.int .i64) _ _ _ 3 [.int .i64 3] from rfl) (Reps.one (show Kd.M (Kd.int .i64) _ _ _ 5 [.int .i64 5] from rfl) (Reps.one (show Kd.M (Kd.int .i64) _ _ _ 0 [.int .i64 0] from rfl) (Reps.one (show Kd.M (Kd.int .i64) _ _ _ 8 [.int .i64 8] from rfl) (Reps.one (show Kd.M (Kd.int .i64) _ _ _ 1 [.int .i64 1] from rfl) (Reps.one (show Kd.M (Kd.int .i64) _ _ _ 14 [.int .i64 14] from rfl) (Reps.none _ _))))))));intro v434 w5 ho6 hb hg_ hnew_;clear hg_ hnew_;(first|rw [← Ny433.out] at ho6|(simp only [Int.reduceToNat] at ho6;rw [← Ny433.out] at ho6));have n0_:=mk_ (Kd.S_below (by (with_reducible repeat (first|apply Kd.S_alloc|apply Kd.S_drewN|apply Kd.S_drew));exact HO432.out) hb);have n1_:=mk_ (Kd.R_lower ho6 (keep_size (w:=w) (g:=g) (row:=none) (u3_ HK)));have n2_:=mk_ (IsS68.below (u2_ HI0) hb);have n3_:=mk_ (KeepBut.trans (u3_ HK) (KeepBut.of_below hb g none) (.inl rfl));have n4_:=mk_ (st_ (u4_ HB HI0) hb);clear HO432 HI0 HK HB;have HO432:=n0_;have HO435:=n1_;have HI0:=n2_;have HK:=n3_;have HB:=n4_;clear n0_ n1_ n2_ n3_ n4_ hb ho6;obtain ⟨Ao7,co7,eo7⟩:=Kd.R_slice HO435.out;subst eo7)|((with_reducible refine gate_callee (f:=41) rfl ?_);refine goesL_ (some 8) rfl rfl Try.func41 (by kernel_rfl) rfl #[.pointer (some ⟨g,0,none⟩),.slice Ao7 y433.length co7] rfl qm_ ?_;(with_reducible refine (spec_l21Rd_num.calls k g s0_0 s0_1 _ _ y433 t436 t437 w0 _ ?side1 ?side2 ?side3 ?side4 ?side5 A2.out).mono ?_);(case side1 => exact u2_ HI0);(case side2 => exact u4_ HB HI0);(case side3 => repeat (first|exact (rr_ HO435.out).2.2|(with_reducible refine ca_ ?_ _)|(with_reducible refine cn_ ?_ _)|(with_reducible refine cd_ ?_)));(case side4 => exact (rr_ HO435.out).2.1);(case side5 => exact far_slice (IsS68.own_ne HI0.out HO435.out (by decide)));rintro e w8 ⟨rfl,hi,hb,hk⟩;refine ⟨_,rfl,?_⟩;have n0_:=mk_ (Kd.S_mono (Kd.S_keep (IsS68.apartS (show IsS68 w0 _ g s0_0 s0_1 from u2_ HI0) (by (with_reducible repeat (first|apply Kd.S_alloc|apply Kd.S_drewN|apply Kd.S_drew));exact HO432.out) (by decide)) hk (fun _ h => h.2)) (fun _ h => h.1));have n1_:=mk_ (rm_ (Kd.R_keep (IsS68.apart (show IsS68 w0 _ g s0_0 s0_1 from u2_ HI0) (qr_ HO435) (by decide)) hk (fun _ h => h.2)) (fun _ h => h.1));have n2_:=mk_ (KeepBut.trans (u3_ HK) hk (.inl rfl));have n3_:=mk_ (hb);have n4_:=mk_ (hi);clear HO432 HO435 HK HB HI0;have HO432:=n0_;have HO435:=n1_;have HK:=n2_;have HB:=n3_;have HI0:=n4_;clear n0_ n1_ n2_ n3_ n4_;(try clear hb);(try clear hb2);(try clear hk);(try clear hi)))
 go_loopg [3,4] k (fun kq v3 v4 w' => ∃ (x3_1 : List (List Int)) (x4_1 : Int) (x1001_1 : Int),v4 = .int .i64 x4_1 ∧ Aside0 (spec_l4Sent.l0 kq x3_1 x4_1 s0_0 x1001_1 = some (r1,r2)) ∧ Aside0 (kq ≤ k) ∧ Aside0 (Kd.S (Kd.slice 5 (Kd.int .u8)) 22 w' w.heap.size (fun _ => True) v3 x3_1) ∧ Aside0 (IsS68 w0 w' g s0_0 x1001_1) ∧ Aside0 (KeepBut w w' g none) ∧ Aside0 (Below w0.heap.size w0 w'))
 case atStart => exact ⟨(y430),(t436),(t437),qf_,H',⟨Nat.le_refl _⟩,⟨by (with_reducible repeat (first|apply Kd.S_alloc|apply Kd.S_drewN|apply Kd.S_drew));exact HO432.out⟩,⟨u2_ HI0⟩,⟨u3_ HK⟩,⟨u4_ HB HI0⟩⟩
 case round =>
  clear H'
  try clear p2
  try clear c4
  obtain ⟨x3_1,x4_1,x1001_1,rfl,HA,HK1,HO_3,HI0,HK,HB⟩:=hrel
  cases gk with
  | zero => exact absurd HA.out (by simp [spec_l4Sent.l0])
  | succ k1 =>
   have H:=HA.out
   clear HA
   simp only [spec_l4Sent.l0] at H
   by_cases c9 : x4_1 > 0
   ·rw [if_pos c9] at H
    have c9b0 : decide (0 < x4_1) = true:=decide_eq_true c9
    clear c9
    obtain ⟨y438,hy438⟩ : ∃ y_ : List Int,y_ = (([1,2,0,4] : List Int)):=⟨_,rfl⟩
    replace H : ((spec_l21Rd_num.f k1 s0_0 x1001_1 y438).bind fun bt441 => ((spec_l1Some.f k1 s0_0 bt441.2 bt441.1).bind fun bt443 => (if x3_1.length < 5864062014805 then (spec_l4Sent.l0 k1 (x3_1 ++ [bt443.1]) (wrap64 (x4_1 - 1)) s0_0 bt443.2) else (none)))) = some (r1,r2):=by first|(rw [hy438];with_reducible exact H)|(have H2_:=(Option.bind_some _ _).symm.trans H;rw [hy438];with_reducible exact H2_)|(have H2_:=(Option.bind_some _ _).symm.trans H;with_reducible exact H2_)|with_reducible exact H|(rw [hy438];exact H)|exact H
    have Ny438:=mk_ hy438
    clear hy438
    replace H:=Option.bind_eq_some_iff.mp H
    obtain ⟨⟨t441,t442⟩,A100,H⟩:=H
    replace H : ((spec_l1Some.f k1 s0_0 t442 t441).bind fun bt443 => (if x3_1.length < 5864062014805 then (spec_l4Sent.l0 k1 (x3_1 ++ [bt443.1]) (wrap64 (x4_1 - 1)) s0_0 bt443.2) else (none))) = some (r1,r2):=H
    have A10:=mk_ A100
    clear A100
    replace H:=Option.bind_eq_some_iff.mp H
    obtain ⟨⟨t443,t446⟩,A110,H⟩:=H
    replace H : (if x3_1.length < 5864062014805 then (spec_l4Sent.l0 k1 (x3_1 ++ [t443]) (wrap64 (x4_1 - 1)) s0_0 t446) else (none)) = some (r1,r2):=H
    have A11:=mk_ A110
    clear A110
    by_cases c12 : x3_1.length < 5864062014805
    ·rw [if_pos c12] at H
     have LMc12:=mk_ c12
     clear c12
     obtain ⟨y447,hy447⟩ : ∃ y_ : List (List Int),y_ = (x3_1 ++ [t443]):=⟨_,rfl⟩
     replace H : (spec_l4Sent.l0 k1 y447 (wrap64 (x4_1 - 1)) s0_0 t446) = some (r1,r2):=by first|(rw [hy447];with_reducible exact H)|(have H2_:=(Option.bind_some _ _).symm.trans H;rw [hy447];with_reducible exact H2_)|(have H2_:=(Option.bind_some _ _).symm.trans H;with_reducible exact H2_)|with_reducible exact H|(rw [hy447];exact H)|exact H
     have Ny447:=mk_ hy447
     clear hy447
     have H':=mk_ H
     clear H
     go_wp2_with (first|((with_reducible refine gate_dst (N:=16) rfl ?_);refine Kd.R_lit (Kd.int .i64) _ 3 ?hg (N:=16) ?hd (xs:=([1,2,0,4] : List Int)) (inner:=[.int .i64 1,.int .i64 2,.int .i64 0,.int .i64 4]) (ok:=fun _ => True) (okp:=fun _ => True) ?hr ?hp (fun _ hk => hk) trivial (Below.refl _ _) (Nat.le_refl _) (by simp) ?_;(case hd => rfl);(case hg => rfl);(case hr => first|(go_simp;done)|(go_simp;rfl));(case hp => exact (Reps.one (show Kd.M (Kd.int .i64) _ _ _ 1 [.int .i64 1] from rfl) (Reps.one (show Kd.M (Kd.int .i64) _ _ _ 2 [.int .i64 2] from rfl) (Reps.one (show Kd.M (Kd.int .i64) _ _ _ 0 [.int .i64 0] from rfl) (Reps.one (show Kd.M (Kd.int .i64) _ _ _ 4 [.int .i64 4] from rfl) (Reps.none _ _))))));intro v439 w13 ho14 hb hg_ hnew_;clear hg_ hnew_;(first|rw [← Ny438.out] at ho14|(simp only [Int.reduceToNat] at ho14;rw [← Ny438.out] at ho14));have n0_:=mk_ (Kd.S_below (by (with_reducible repeat (first|apply Kd.S_alloc|apply Kd.S_drewN|apply Kd.S_drew));exact HO_3.out) hb);have n1_:=mk_ (Kd.R_lower ho14 (keep_size (w:=w) (g:=g) (row:=none) (u3_ HK)));have n2_:=mk_ (IsS68.below (u2_ HI0) hb);have n3_:=mk_ (KeepBut.trans (u3_ HK) (KeepBut.of_below hb g none) (.inl rfl));have n4_:=mk_ (st_ (u4_ HB HI0) hb);clear HO_3 HI0 HK HB;have HO_3:=n0_;have HO440:=n1_;have HI0:=n2_;have HK:=n3_;have HB:=n4_;clear n0_ n1_ n2_ n3_ n4_ hb ho14;obtain ⟨Ao15,co15,eo15⟩:=Kd.R_slice HO440.out;subst eo15)|((with_reducible refine gate_callee (f:=41) rfl ?_);refine goesL_ (some 17) rfl rfl Try.func41 (by kernel_rfl) rfl #[.pointer (some ⟨g,0,none⟩),.slice Ao15 y438.length co15] rfl qm_ ?_;(with_reducible refine (spec_l21Rd_num.calls k1 g s0_0 x1001_1 _ _ y438 t441 t442 w0 _ ?side1 ?side2 ?side3 ?side4 ?side5 A10.out).mono ?_);(case side1 => exact u2_ HI0);(case side2 => exact u4_ HB HI0);(case side3 => repeat (first|exact (rr_ HO440.out).2.2|(with_reducible refine ca_ ?_ _)|(with_reducible refine cn_ ?_ _)|(with_reducible refine cd_ ?_)));(case side4 => exact (rr_ HO440.out).2.1);(case side5 => exact far_slice (IsS68.own_ne HI0.out HO440.out (by decide)));rintro e w16 ⟨rfl,hi,hb,hk⟩;refine ⟨_,rfl,?_⟩;have n0_:=mk_ (Kd.S_mono (Kd.S_keep (IsS68.apartS (show IsS68 w0 _ g s0_0 x1001_1 from u2_ HI0) (by (with_reducible repeat (first|apply Kd.S_alloc|apply Kd.S_drewN|apply Kd.S_drew));exact HO_3.out) (by decide)) hk (fun _ h => h.2)) (fun _ h => h.1));have n1_:=mk_ (rm_ (Kd.R_keep (IsS68.apart (show IsS68 w0 _ g s0_0 x1001_1 from u2_ HI0) (qr_ HO440) (by decide)) hk (fun _ h => h.2)) (fun _ h => h.1));have n2_:=mk_ (KeepBut.trans (u3_ HK) hk (.inl rfl));have n3_:=mk_ (hb);have n4_:=mk_ (hi);clear HO_3 HO440 HK HB HI0;have HO_3:=n0_;have HO440:=n1_;have HK:=n2_;have HB:=n3_;have HI0:=n4_;clear n0_ n1_ n2_ n3_ n4_;(try clear hb);(try clear hb2);(try clear hk);(try clear hi))|((with_reducible refine gate_callee (f:=62) rfl ?_);refine goesL_ (some 18) rfl rfl Try.func62 (by kernel_rfl) rfl #[.pointer (some ⟨g,0,none⟩),.int .i64 t441] rfl qm_ ?_;(with_reducible refine (spec_l1Some.calls k1 g s0_0 t442 t441 t443 t446 w0 _ ?side1 ?side2 A11.out).mono ?_);(case side1 => exact u2_ HI0);(case side2 => exact u4_ HB HI0);rintro e w17 ⟨v444,rfl,ho0,hi,hb,hk⟩;refine ⟨_,rfl,?_⟩;have n0_:=mk_ (Kd.S_mono (Kd.S_told (Kd.S_oldK (IsS68.apartS (show IsS68 w0 _ g s0_0 t442 from u2_ HI0) (by (with_reducible repeat (first|apply Kd.S_alloc|apply Kd.S_drewN|apply Kd.S_drew));exact HO_3.out) (by decide)) hk) (Kd.R_base ho0)) (λ_ h=>h.1));have n1_:=mk_ (rm_ (Kd.R_keep (IsS68.apart (show IsS68 w0 _ g s0_0 t442 from u2_ HI0) (qr_ HO440) (by decide)) hk (fun _ h => h.2)) (fun _ h => h.1));have n2_:=mk_ (Kd.R_lower ho0 (keep_size (w:=w) (g:=g) (row:=none) (u3_ HK)));have n3_:=mk_ (KeepBut.trans (u3_ HK) hk (.inl rfl));have n4_:=mk_ (hb);have n5_:=mk_ (hi);clear HO_3 HO440 HK HB HI0;have HO_3:=n0_;have HO440:=n1_;have HO445:=n2_;have HK:=n3_;have HB:=n4_;have HI0:=n5_;clear n0_ n1_ n2_ n3_ n4_ n5_;(try clear hb);(try clear hb2);(try clear hk);(try clear hi);(try clear ho0);obtain ⟨Ao19,co19,eo19⟩:=Kd.R_slice HO445.out;subst eo19)|((with_reducible refine gate_builtin (b:=.append) (xs:=#[.tmp 13,.tmp 19]) rfl ?_);at_builtin;refine Kd.S_append (Kd.slice 5 (Kd.int .u8)) w.heap.size rfl (.tmp 13) (.tmp 19) 23 22 (.slice none 0 0) 24 rfl Try.underlying23 info22 rfl (by decide) (by omega) u3 x3_1 t443 [.slice Ao19 t443.length co19] (fun _ => True) (fun k_ => some k_ = (.slice Ao19 t443.length co19 : Value).ownBlock) rfl rfl ?aP (fun k_ hk_ => ((rm_ (ok':=fun k_ => ((fun _ => True)) k_ ∧ some k_ ≠ (u3 : Value).ownBlock) (Kd.R_apart' (HO445.out) (Kd.S_typed HO_3.out) (by decide)) (fun k_ hk => ⟨trivial,hk.2⟩))).1 k_ hk_.symm) ?aF ?aO (Below.refl _ _) ?aS ?aL ?_;(case aP => exact Kd.M_row (rm_ (Kd.R_tight rfl (rm_ (ok':=fun k_ => ((fun _ => True)) k_ ∧ some k_ ≠ (u3 : Value).ownBlock) (Kd.R_apart' (HO445.out) (Kd.S_typed HO_3.out) (by decide)) (fun k_ hk => ⟨trivial,hk.2⟩))) (fun _ h_ => h_)));(case aF => exact (fun _ _ => trivial));(case aO => exact (by (with_reducible repeat (first|apply Kd.S_alloc|apply Kd.S_drewN|apply Kd.S_drew));exact Kd.S_mono HO_3.out (fun k_ hk => ⟨trivial,fun e_ => hk.2 e_⟩)));(case aS => exact (keep_size (w:=w) (g:=g) (row:=none) (u3_ HK)));(case aL => have:=LMc12.out;omega);intro v448 w18 ho hb hg hat;rw [← Ny447.out] at ho;have n0_:=mk_ (IsS68.grown (u2_ HI0) hg (IsS68.own_neS HI0.out HO_3.out (by decide)));have n1_:=mk_ (Kd.R_over' (qr_ HO440) (Kd.S_typed (by (with_reducible repeat (first|apply Kd.S_alloc|apply Kd.S_drewN|apply Kd.S_drew));exact HO_3.out)) (by decide) hg);have n2_:=mk_ (below_weaken (u4_ HB HI0) HL.out hb);have n3_:=mk_ (KeepBut.trans (u3_ HK) (KeepBut.of_grown hg g) (Kd.S_base2 HO_3.out));have n4_:=mk_ (ho);clear HI0 HO440 HB HK HO_3 HO445;have HI0:=n0_;have HO440:=n1_;have HB:=n2_;have HK:=n3_;have HO449:=n4_;clear n0_ n1_ n2_ n3_ n4_ ho hb hg hat))
     go_roundg k1
     case measure => have:=HK1.out;omega
     case rel => exact ⟨(y447),(wrap64 (x4_1 - 1)),(t446),qf_,H',⟨by have:=HK1.out;omega⟩,⟨by (with_reducible repeat (first|apply Kd.S_alloc|apply Kd.S_drewN|apply Kd.S_drew));exact HO449.out⟩,⟨u2_ HI0⟩,⟨u3_ HK⟩,⟨u4_ HB HI0⟩⟩
    ·rw [if_neg c12] at H
     exact absurd H (by simp)
   ·rw [if_neg c9] at H
    have c9b0 : decide (0 < x4_1) = false:=decide_eq_false c9
    clear c9
    simp only [Option.some.injEq,Prod.mk.injEq] at H
    obtain ⟨rfl,rfl⟩:=H
    go_wp2
    go_ret
    exact ⟨_,qe_,by (with_reducible repeat (first|apply Kd.S_alloc|apply Kd.S_drewN|apply Kd.S_drew));exact HO_3.out,u2_ HI0,u4_ HB HI0,u3_ HK⟩

/-! ### spec_l4Fates: function 48 -/
def spec_l4Fates.l0 : Nat → List Int → Int → Int → List Int → Int → Option (List Int × Int)
 | 0,_,_,_,_,_ => none
 | k + 1,x3,x4,x5,x1000,x1001 => if x5 > 0 then ((spec_l21Rd_pick.f k x1000 x1001 x4).bind fun bt463 => (if bt463.1 = 0 then ((spec_l21Rd_pick.f k x1000 bt463.2 5).bind fun bt465 => (if x3.length < 17592186044416 then (spec_l4Fates.l0 k (x3 ++ [bt465.1]) x4 (wrap64 (x5 - 1)) x1000 bt465.2) else (none))) else (if x3.length < 17592186044416 then (spec_l4Fates.l0 k (x3 ++ [0]) x4 (wrap64 (x5 - 1)) x1000 bt463.2) else (none)))) else (some (x3,x1001))
def spec_l4Fates.f (k : Nat) (s0_0 : List Int) (s0_1 : Int) : Option (List Int × Int):=(spec_l21Rd_num.f k s0_0 s0_1 (([2,1,3,8] : List Int))).bind fun bt456 => ((spec_l21Rd_num.f k s0_0 bt456.2 (([6,0,12,3,30] : List Int))).bind fun bt461 => (spec_l4Fates.l0 k (([] : List Int)) bt456.1 bt461.1 s0_0 bt461.2))
theorem spec_l4Fates.mono_l : ∀ k,(∀ y0 y1 y2 y3 y4,LeO (spec_l4Fates.l0 k y0 y1 y2 y3 y4) (spec_l4Fates.l0 (k + 1) y0 y1 y2 y3 y4))
 | 0 => fun _ _ _ _ _ r h => by simp [spec_l4Fates.l0] at h
 | k + 1 => by
  have ih0:=spec_l4Fates.mono_l k
  ·intro y0 y1 y2 y3 y4
   unfold spec_l4Fates.l0
   repeat' first
   | (with_reducible exact ih0 _ _ _ _ _)
   | (with_reducible exact spec_l21Rd_num.mono _ _ _ _)
   | (with_reducible exact spec_l21Rd_pick.mono _ _ _ _)
   | (with_reducible exact LeO.refl _)
   | (with_reducible exact LeO.none _)
   | (with_reducible refine LeO.ite ?_ ?_)
   | (with_reducible refine LeO.bind ?_ (fun _ => ?_))
   | exact ih0 _ _ _ _ _
   | exact spec_l21Rd_num.mono _ _ _ _
   | exact spec_l21Rd_pick.mono _ _ _ _
   | exact LeO.none _
   | refine LeO.ite ?_ ?_
   | refine LeO.bind ?_ (fun _ => ?_)
theorem spec_l4Fates.mono : ∀ a0 a1 k,LeO (spec_l4Fates.f k a0 a1) (spec_l4Fates.f (k + 1) a0 a1):=by
 intro a0 a1 k
 have ih0:=spec_l4Fates.mono_l k
 unfold spec_l4Fates.f
 repeat' first
   | (with_reducible exact ih0 _ _ _ _ _)
   | (with_reducible exact spec_l21Rd_num.mono _ _ _ _)
   | (with_reducible exact spec_l21Rd_pick.mono _ _ _ _)
   | (with_reducible exact LeO.refl _)
   | (with_reducible exact LeO.none _)
   | (with_reducible refine LeO.ite ?_ ?_)
   | (with_reducible refine LeO.bind ?_ (fun _ => ?_))
   | exact ih0 _ _ _ _ _
   | exact spec_l21Rd_num.mono _ _ _ _
   | exact spec_l21Rd_pick.mono _ _ _ _
   | exact LeO.none _
   | refine LeO.ite ?_ ?_
   | refine LeO.bind ?_ (fun _ => ?_)
set_option maxHeartbeats 8000000 in
set_option maxRecDepth 100000 in
theorem spec_l4Fates.calls (k : Nat) (g : Nat) (s0_0 : List Int) (s0_1 : Int) (r1 : List Int) (r2 : Int) (w0 w : World) (hI : IsS68 w0 w g s0_0 s0_1) (hB : Below w0.heap.size w0 w) (h : spec_l4Fates.f k s0_0 s0_1 = some (r1,r2)) :
  Calls Try.prog 48 #[.pointer (some ⟨g,0,none⟩)] w fun e w' => ∃ v0_ : Value,e = .returned (v0_) ∧ Kd.R (Kd.int .i64) 3 w' w.heap.size (fun _ => True) v0_ r1 ∧ IsS68 w0 w' g s0_0 r2 ∧ Below w0.heap.size w0 w' ∧ KeepBut w w' g none:=by
 have HI0:=mk_ hI
 have HK:=mk_ (KeepBut.refl w g none)
 have HL:=mk_ hB.size
 clear hI
 have HW0:=mk_ hB.size
 have HB:=mk_ hB
 clear hB
 have H : ((spec_l21Rd_num.f k s0_0 s0_1 (([2,1,3,8] : List Int))).bind fun bt456 => ((spec_l21Rd_num.f k s0_0 bt456.2 (([6,0,12,3,30] : List Int))).bind fun bt461 => (spec_l4Fates.l0 k (([] : List Int)) bt456.1 bt461.1 s0_0 bt461.2))) = some (r1,r2):=h
 clear h
 obtain ⟨y450,hy450⟩ : ∃ y_ : List Int,y_ = (([] : List Int)):=⟨_,rfl⟩
 replace H : ((spec_l21Rd_num.f k s0_0 s0_1 (([2,1,3,8] : List Int))).bind fun bt456 => ((spec_l21Rd_num.f k s0_0 bt456.2 (([6,0,12,3,30] : List Int))).bind fun bt461 => (spec_l4Fates.l0 k y450 bt456.1 bt461.1 s0_0 bt461.2))) = some (r1,r2):=by first|(rw [hy450];with_reducible exact H)|(have H2_:=(Option.bind_some _ _).symm.trans H;rw [hy450];with_reducible exact H2_)|(have H2_:=(Option.bind_some _ _).symm.trans H;with_reducible exact H2_)|with_reducible exact H|(rw [hy450];exact H)|exact H
 have Ny450:=mk_ hy450
 clear hy450
 obtain ⟨y453,hy453⟩ : ∃ y_ : List Int,y_ = (([2,1,3,8] : List Int)):=⟨_,rfl⟩
 replace H : ((spec_l21Rd_num.f k s0_0 s0_1 y453).bind fun bt456 => ((spec_l21Rd_num.f k s0_0 bt456.2 (([6,0,12,3,30] : List Int))).bind fun bt461 => (spec_l4Fates.l0 k y450 bt456.1 bt461.1 s0_0 bt461.2))) = some (r1,r2):=by first|(rw [hy453];with_reducible exact H)|(have H2_:=(Option.bind_some _ _).symm.trans H;rw [hy453];with_reducible exact H2_)|(have H2_:=(Option.bind_some _ _).symm.trans H;with_reducible exact H2_)|with_reducible exact H|(rw [hy453];exact H)|exact H
 have Ny453:=mk_ hy453
 clear hy453
 replace H:=Option.bind_eq_some_iff.mp H
 obtain ⟨⟨t456,t457⟩,A20,H⟩:=H
 replace H : ((spec_l21Rd_num.f k s0_0 t457 (([6,0,12,3,30] : List Int))).bind fun bt461 => (spec_l4Fates.l0 k y450 t456 bt461.1 s0_0 bt461.2)) = some (r1,r2):=H
 have A2:=mk_ A20
 clear A20
 obtain ⟨y458,hy458⟩ : ∃ y_ : List Int,y_ = (([6,0,12,3,30] : List Int)):=⟨_,rfl⟩
 replace H : ((spec_l21Rd_num.f k s0_0 t457 y458).bind fun bt461 => (spec_l4Fates.l0 k y450 t456 bt461.1 s0_0 bt461.2)) = some (r1,r2):=by first|(rw [hy458];with_reducible exact H)|(have H2_:=(Option.bind_some _ _).symm.trans H;rw [hy458];with_reducible exact H2_)|(have H2_:=(Option.bind_some _ _).symm.trans H;with_reducible exact H2_)|with_reducible exact H|(rw [hy458];exact H)|exact H
 have Ny458:=mk_ hy458
 clear hy458
 replace H:=Option.bind_eq_some_iff.mp H
 obtain ⟨⟨t461,t462⟩,A30,H⟩:=H
 replace H : (spec_l4Fates.l0 k y450 t456 t461 s0_0 t462) = some (r1,r2):=H
 have A3:=mk_ A30
 clear A30
 have H':=mk_ H
 clear H
 go_enter Try.func48,Try.ntmps48
 go_wp2_with (first|((with_reducible refine gate_dst (N:=6) rfl ?_);refine Kd.R_lit (Kd.int .i64) _ 3 ?hg (N:=6) ?hd (xs:=([] : List Int)) (inner:=[]) (ok:=fun _ => True) (okp:=fun _ => True) ?hr ?hp (fun _ hk => hk) trivial (Below.refl _ _) (Nat.le_refl _) (by simp) ?_;(case hd => rfl);(case hg => rfl);(case hr => first|(go_simp;done)|(go_simp;rfl));(case hp => exact (Reps.none _ _));intro v451 w4 ho5 hb hg_ hnew_;clear hg_ hnew_;(first|rw [← Ny450.out] at ho5|(simp only [Int.reduceToNat] at ho5;rw [← Ny450.out] at ho5));have n0_:=mk_ (Kd.R_lower ho5 (keep_size (w:=w) (g:=g) (row:=none) (u3_ HK)));have n1_:=mk_ (IsS68.below (u2_ HI0) hb);have n2_:=mk_ (KeepBut.trans (u3_ HK) (KeepBut.of_below hb g none) (.inl rfl));have n3_:=mk_ (st_ (u4_ HB HI0) hb);clear HI0 HK HB;have HO452:=n0_;have HI0:=n1_;have HK:=n2_;have HB:=n3_;clear n0_ n1_ n2_ n3_ hb ho5)|((with_reducible refine gate_dst (N:=8) rfl ?_);refine Kd.R_lit (Kd.int .i64) _ 3 ?hg (N:=8) ?hd (xs:=([2,1,3,8] : List Int)) (inner:=[.int .i64 2,.int .i64 1,.int .i64 3,.int .i64 8]) (ok:=fun _ => True) (okp:=fun _ => True) ?hr ?hp (fun _ hk => hk) trivial (Below.refl _ _) (Nat.le_refl _) (by simp) ?_;(case hd => rfl);(case hg => rfl);(case hr => first|(go_simp;done)|(go_simp;rfl));(case hp => exact (Reps.one (show Kd.M (Kd.int .i64) _ _ _ 2 [.int .i64 2] from rfl) (Reps.one (show Kd.M (Kd.int .i64) _ _ _ 1 [.int .i64 1] from rfl) (Reps.one (show Kd.M (Kd.int .i64) _ _ _ 3 [.int .i64 3] from rfl) (Reps.one (show Kd.M (Kd.int .i64) _ _ _ 8 [.int .i64 8] from rfl) (Reps.none _ _))))));intro v454 w6 ho7 hb hg_ hnew_;clear hg_ hnew_;(first|rw [← Ny453.out] at ho7|(simp only [Int.reduceToNat] at ho7;rw [← Ny453.out] at ho7));have n0_:=mk_ (re_ (qr_ HO452) (Kd.R_base ho7) hb);have n1_:=mk_ (Kd.R_lower (Kd.R_new' ho7 (Kd.R_lt (qr_ HO452))) (keep_size (w:=w) (g:=g) (row:=none) (u3_ HK)));have n2_:=mk_ (IsS68.below (u2_ HI0) hb);have n3_:=mk_ (KeepBut.trans (u3_ HK) (KeepBut.of_below hb g none) (.inl rfl));have n4_:=mk_ (st_ (u4_ HB HI0) hb);clear HO452 HI0 HK HB;have HO452:=n0_;have HO455:=n1_;have HI0:=n2_;have HK:=n3_;have HB:=n4_;clear n0_ n1_ n2_ n3_ n4_ hb ho7;obtain ⟨Ao8,co8,eo8⟩:=Kd.R_slice HO455.out;subst eo8)|((with_reducible refine gate_callee (f:=41) rfl ?_);refine goesL_ (some 9) rfl rfl Try.func41 (by kernel_rfl) rfl #[.pointer (some ⟨g,0,none⟩),.slice Ao8 y453.length co8] rfl qm_ ?_;(with_reducible refine (spec_l21Rd_num.calls k g s0_0 s0_1 _ _ y453 t456 t457 w0 _ ?side1 ?side2 ?side3 ?side4 ?side5 A2.out).mono ?_);(case side1 => exact u2_ HI0);(case side2 => exact u4_ HB HI0);(case side3 => repeat (first|exact (rr_ HO455.out).2.2|(with_reducible refine ca_ ?_ _)|(with_reducible refine cn_ ?_ _)|(with_reducible refine cd_ ?_)));(case side4 => exact (rr_ HO455.out).2.1);(case side5 => exact far_slice (IsS68.own_ne HI0.out HO455.out (by decide)));rintro e w9 ⟨rfl,hi,hb,hk⟩;refine ⟨_,rfl,?_⟩;have n0_:=mk_ (rm_ (Kd.R_keep (IsS68.apart (show IsS68 w0 _ g s0_0 s0_1 from u2_ HI0) (qr_ HO452) (by decide)) hk (fun _ h => h.2)) (fun _ h => h.1));have n1_:=mk_ (rm_ (Kd.R_keep (IsS68.apart (show IsS68 w0 _ g s0_0 s0_1 from u2_ HI0) (qr_ HO455) (by decide)) hk (fun _ h => h.2)) (fun _ h => h.1));have n2_:=mk_ (KeepBut.trans (u3_ HK) hk (.inl rfl));have n3_:=mk_ (hb);have n4_:=mk_ (hi);clear HO452 HO455 HK HB HI0;have HO452:=n0_;have HO455:=n1_;have HK:=n2_;have HB:=n3_;have HI0:=n4_;clear n0_ n1_ n2_ n3_ n4_;(try clear hb);(try clear hb2);(try clear hk);(try clear hi))|((with_reducible refine gate_dst (N:=11) rfl ?_);refine Kd.R_lit (Kd.int .i64) _ 3 ?hg (N:=11) ?hd (xs:=([6,0,12,3,30] : List Int)) (inner:=[.int .i64 6,.int .i64 0,.int .i64 12,.int .i64 3,.int .i64 30]) (ok:=fun _ => True) (okp:=fun _ => True) ?hr ?hp (fun _ hk => hk) trivial (Below.refl _ _) (Nat.le_refl _) (by simp) ?_;(case hd => rfl);(case hg => rfl);(case hr => first|(go_simp;done)|(go_simp;rfl));(case hp => exact (Reps.one (show Kd.M (Kd.int .i64) _ _ _ 6 [.int .i64 6] from rfl) (Reps.one (show Kd.M (Kd.int .i64) _ _ _ 0 [.int .i64 0] from rfl) (Reps.one (show Kd.M (Kd.int .i64) _ _ _ 12 [.int .i64 12] from rfl) (Reps.one (show Kd.M (Kd.int .i64) _ _ _ 3 [.int .i64 3] from rfl) (Reps.one (show Kd.M (Kd.int .i64) _ _ _ 30 [.int .i64 30] from rfl) (Reps.none _ _)))))));intro v459 w10 ho11 hb hg_ hnew_;clear hg_ hnew_;(first|rw [← Ny458.out] at ho11|(simp only [Int.reduceToNat] at ho11;rw [← Ny458.out] at ho11));have n0_:=mk_ (re_ (qr_ HO452) (Kd.R_base ho11) hb);have n1_:=mk_ (re_ (qr_ HO455) (Kd.R_base ho11) hb);have n2_:=mk_ (Kd.R_lower (Kd.R_new' (Kd.R_new' ho11 (Kd.R_lt (qr_ HO452))) (Kd.R_lt (qr_ HO455))) (keep_size (w:=w) (g:=g) (row:=none) (u3_ HK)));have n3_:=mk_ (IsS68.below (u2_ HI0) hb);have n4_:=mk_ (KeepBut.trans (u3_ HK) (KeepBut.of_below hb g none) (.inl rfl));have n5_:=mk_ (st_ (u4_ HB HI0) hb);clear HO452 HO455 HI0 HK HB;have HO452:=n0_;have HO455:=n1_;have HO460:=n2_;have HI0:=n3_;have HK:=n4_;have HB:=n5_;clear n0_ n1_ n2_ n3_ n4_ n5_ hb ho11;obtain ⟨Ao12,co12,eo12⟩:=Kd.R_slice HO460.out;subst eo12)|((with_reducible refine gate_callee (f:=41) rfl ?_);refine goesL_ (some 12) rfl rfl Try.func41 (by kernel_rfl) rfl #[.pointer (some ⟨g,0,none⟩),.slice Ao12 y458.length co12] rfl qm_ ?_;(with_reducible refine (spec_l21Rd_num.calls k g s0_0 t457 _ _ y458 t461 t462 w0 _ ?side1 ?side2 ?side3 ?side4 ?side5 A3.out).mono ?_);(case side1 => exact u2_ HI0);(case side2 => exact u4_ HB HI0);(case side3 => repeat (first|exact (rr_ HO460.out).2.2|(with_reducible refine ca_ ?_ _)|(with_reducible refine cn_ ?_ _)|(with_reducible refine cd_ ?_)));(case side4 => exact (rr_ HO460.out).2.1);(case side5 => exact far_slice (IsS68.own_ne HI0.out HO460.out (by decide)));rintro e w13 ⟨rfl,hi,hb,hk⟩;refine ⟨_,rfl,?_⟩;have n0_:=mk_ (rm_ (Kd.R_keep (IsS68.apart (show IsS68 w0 _ g s0_0 t457 from u2_ HI0) (qr_ HO452) (by decide)) hk (fun _ h => h.2)) (fun _ h => h.1));have n1_:=mk_ (rm_ (Kd.R_keep (IsS68.apart (show IsS68 w0 _ g s0_0 t457 from u2_ HI0) (qr_ HO455) (by decide)) hk (fun _ h => h.2)) (fun _ h => h.1));have n2_:=mk_ (rm_ (Kd.R_keep (IsS68.apart (show IsS68 w0 _ g s0_0 t457 from u2_ HI0) (qr_ HO460) (by decide)) hk (fun _ h => h.2)) (fun _ h => h.1));have n3_:=mk_ (KeepBut.trans (u3_ HK) hk (.inl rfl));have n4_:=mk_ (hb);have n5_:=mk_ (hi);clear HO452 HO455 HO460 HK HB HI0;have HO452:=n0_;have HO455:=n1_;have HO460:=n2_;have HK:=n3_;have HB:=n4_;have HI0:=n5_;clear n0_ n1_ n2_ n3_ n4_ n5_;(try clear hb);(try clear hb2);(try clear hk);(try clear hi)))
 go_loopg [3,5] k (fun kq v3 v5 w' => ∃ (x3_1 : List Int) (x5_1 : Int) (x1001_1 : Int),v5 = .int .i64 x5_1 ∧ Aside0 (spec_l4Fates.l0 kq x3_1 t456 x5_1 s0_0 x1001_1 = some (r1,r2)) ∧ Aside0 (kq ≤ k) ∧ Aside0 (Kd.R (Kd.int .i64) 3 w' w.heap.size (fun _ => True) v3 x3_1) ∧ Aside0 (IsS68 w0 w' g s0_0 x1001_1) ∧ Aside0 (KeepBut w w' g none) ∧ Aside0 (Below w0.heap.size w0 w'))
 case atStart => exact ⟨(y450),(t461),(t462),qf_,H',⟨Nat.le_refl _⟩,⟨by (with_reducible repeat (first|apply ra_|apply rn_|apply rd_));exact rm_ HO452.out (λ_ _=>trivial)⟩,⟨u2_ HI0⟩,⟨u3_ HK⟩,⟨u4_ HB HI0⟩⟩
 case round =>
  clear H'
  try clear p2
  try clear c4
  obtain ⟨x3_1,x5_1,x1001_1,rfl,HA,HK1,HO_3,HI0,HK,HB⟩:=hrel
  cases gk with
  | zero => exact absurd HA.out (by simp [spec_l4Fates.l0])
  | succ k1 =>
   have H:=HA.out
   clear HA
   simp only [spec_l4Fates.l0] at H
   by_cases c14 : x5_1 > 0
   ·rw [if_pos c14] at H
    have c14b0 : decide (0 < x5_1) = true:=decide_eq_true c14
    clear c14
    replace H:=Option.bind_eq_some_iff.mp H
    obtain ⟨⟨t463,t464⟩,A150,H⟩:=H
    replace H : (if t463 = 0 then ((spec_l21Rd_pick.f k1 s0_0 t464 5).bind fun bt465 => (if x3_1.length < 17592186044416 then (spec_l4Fates.l0 k1 (x3_1 ++ [bt465.1]) t456 (wrap64 (x5_1 - 1)) s0_0 bt465.2) else (none))) else (if x3_1.length < 17592186044416 then (spec_l4Fates.l0 k1 (x3_1 ++ [0]) t456 (wrap64 (x5_1 - 1)) s0_0 t464) else (none))) = some (r1,r2):=H
    have A15:=mk_ A150
    clear A150
    by_cases c16 : t463 = 0
    ·rw [if_pos c16] at H
     have c16b0 : (t463 == 0) = true:=beq_iff_eq.mpr c16
     have c16b1 : (t463 != 0) = false:=bne_eq_false_iff_eq.mpr c16
     clear c16
     replace H:=Option.bind_eq_some_iff.mp H
     obtain ⟨⟨t465,t466⟩,A170,H⟩:=H
     replace H : (if x3_1.length < 17592186044416 then (spec_l4Fates.l0 k1 (x3_1 ++ [t465]) t456 (wrap64 (x5_1 - 1)) s0_0 t466) else (none)) = some (r1,r2):=H
     have A17:=mk_ A170
     clear A170
     by_cases c18 : x3_1.length < 17592186044416
     ·rw [if_pos c18] at H
      have LMc18:=mk_ c18
      clear c18
      obtain ⟨y467,hy467⟩ : ∃ y_ : List Int,y_ = (x3_1 ++ [t465]):=⟨_,rfl⟩
      replace H : (spec_l4Fates.l0 k1 y467 t456 (wrap64 (x5_1 - 1)) s0_0 t466) = some (r1,r2):=by first|(rw [hy467];with_reducible exact H)|(have H2_:=(Option.bind_some _ _).symm.trans H;rw [hy467];with_reducible exact H2_)|(have H2_:=(Option.bind_some _ _).symm.trans H;with_reducible exact H2_)|with_reducible exact H|(rw [hy467];exact H)|exact H
      have Ny467:=mk_ hy467
      clear hy467
      have H':=mk_ H
      clear H
      go_wp2_with (first|((with_reducible refine gate_callee (f:=49) rfl ?_);refine goesL_ (some 19) rfl rfl Try.func49 (by kernel_rfl) rfl #[.pointer (some ⟨g,0,none⟩),.int .i64 t456] rfl qm_ ?_;(with_reducible refine (spec_l21Rd_pick.calls k1 g s0_0 x1001_1 t456 t463 t464 w0 _ ?side1 ?side2 A15.out).mono ?_);(case side1 => exact u2_ HI0);(case side2 => exact u4_ HB HI0);rintro e w19 ⟨rfl,hi,hb,hk⟩;refine ⟨_,rfl,?_⟩;have n0_:=mk_ (rm_ (Kd.R_keep (IsS68.apart (show IsS68 w0 _ g s0_0 x1001_1 from u2_ HI0) (qr_ HO_3) (by decide)) hk (fun _ h => h.2)) (fun _ h => h.1));have n1_:=mk_ (KeepBut.trans (u3_ HK) hk (.inl rfl));have n2_:=mk_ (hb);have n3_:=mk_ (hi);clear HO_3 HK HB HI0;have HO_3:=n0_;have HK:=n1_;have HB:=n2_;have HI0:=n3_;clear n0_ n1_ n2_ n3_;(try clear hb);(try clear hb2);(try clear hk);(try clear hi))|((with_reducible refine gate_callee (f:=49) rfl ?_);refine goesL_ (some 23) rfl rfl Try.func49 (by kernel_rfl) rfl #[.pointer (some ⟨g,0,none⟩),.int .i64 5] rfl qm_ ?_;(with_reducible refine (spec_l21Rd_pick.calls k1 g s0_0 t464 5 t465 t466 w0 _ ?side1 ?side2 A17.out).mono ?_);(case side1 => exact u2_ HI0);(case side2 => exact u4_ HB HI0);rintro e w20 ⟨rfl,hi,hb,hk⟩;refine ⟨_,rfl,?_⟩;have n0_:=mk_ (rm_ (Kd.R_keep (IsS68.apart (show IsS68 w0 _ g s0_0 t464 from u2_ HI0) (qr_ HO_3) (by decide)) hk (fun _ h => h.2)) (fun _ h => h.1));have n1_:=mk_ (KeepBut.trans (u3_ HK) hk (.inl rfl));have n2_:=mk_ (hb);have n3_:=mk_ (hi);clear HO_3 HK HB HI0;have HO_3:=n0_;have HK:=n1_;have HB:=n2_;have HI0:=n3_;clear n0_ n1_ n2_ n3_;(try clear hb);(try clear hb2);(try clear hk);(try clear hi))|((with_reducible refine gate_builtin (b:=.append) (xs:=#[.tmp 21,.tmp 24]) rfl ?_);at_builtin;refine Kd.R_append (Kd.int .i64) w.heap.size rfl (.tmp 21) (.tmp 24) 24 3 (.int .i64 0) 8 rfl Try.underlying24 info3 rfl (by decide) (by omega) u3 x3_1 t465 [.int .i64 t465] (fun _ => True) (fun _ => False) rfl rfl ?aP (fun _ hk => hk.elim) ?aF ?aO (Below.refl _ _) ?aS ?aL ?_;(case aP => exact rfl);(case aF => exact (fun _ _ => trivial));(case aO => exact (qr_ HO_3));(case aS => exact (keep_size (w:=w) (g:=g) (row:=none) (u3_ HK)));(case aL => have:=LMc18.out;omega);intro v468 w21 ho hb hg hat;rw [← Ny467.out] at ho;have n0_:=mk_ (IsS68.grown (u2_ HI0) hg (IsS68.own_ne HI0.out HO_3.out (by decide)));have n1_:=mk_ (below_weaken (u4_ HB HI0) HL.out hb);have n2_:=mk_ (KeepBut.trans (u3_ HK) (KeepBut.of_grown hg g) (Kd.R_base2 HO_3.out));have n3_:=mk_ (ho);clear HI0 HB HK HO_3;have HI0:=n0_;have HB:=n1_;have HK:=n2_;have HO469:=n3_;clear n0_ n1_ n2_ n3_ ho hb hg hat))
      go_roundg k1
      case measure => have:=HK1.out;omega
      case rel => exact ⟨(y467),(wrap64 (x5_1 - 1)),(t466),qf_,H',⟨by have:=HK1.out;omega⟩,⟨qr_ HO469⟩,⟨u2_ HI0⟩,⟨u3_ HK⟩,⟨u4_ HB HI0⟩⟩
     ·rw [if_neg c18] at H
      exact absurd H (by simp)
    ·rw [if_neg c16] at H
     have c16b0 : (t463 == 0) = false:=beq_eq_false_iff_ne.mpr c16
     have c16b1 : (t463 != 0) = true:=bne_iff_ne.mpr c16
     by_cases c22 : x3_1.length < 17592186044416
     ·rw [if_pos c22] at H
      have LMc22:=mk_ c22
      clear c22
      obtain ⟨y470,hy470⟩ : ∃ y_ : List Int,y_ = (x3_1 ++ [0]):=⟨_,rfl⟩
      replace H : (spec_l4Fates.l0 k1 y470 t456 (wrap64 (x5_1 - 1)) s0_0 t464) = some (r1,r2):=by first|(rw [hy470];with_reducible exact H)|(have H2_:=(Option.bind_some _ _).symm.trans H;rw [hy470];with_reducible exact H2_)|(have H2_:=(Option.bind_some _ _).symm.trans H;with_reducible exact H2_)|with_reducible exact H|(rw [hy470];exact H)|exact H
      have Ny470:=mk_ hy470
      clear hy470
      have H':=mk_ H
      clear H
      go_wp2_with (first|((with_reducible refine gate_callee (f:=49) rfl ?_);refine goesL_ (some 19) rfl rfl Try.func49 (by kernel_rfl) rfl #[.pointer (some ⟨g,0,none⟩),.int .i64 t456] rfl qm_ ?_;(with_reducible refine (spec_l21Rd_pick.calls k1 g s0_0 x1001_1 t456 t463 t464 w0 _ ?side1 ?side2 A15.out).mono ?_);(case side1 => exact u2_ HI0);(case side2 => exact u4_ HB HI0);rintro e w23 ⟨rfl,hi,hb,hk⟩;refine ⟨_,rfl,?_⟩;have n0_:=mk_ (rm_ (Kd.R_keep (IsS68.apart (show IsS68 w0 _ g s0_0 x1001_1 from u2_ HI0) (qr_ HO_3) (by decide)) hk (fun _ h => h.2)) (fun _ h => h.1));have n1_:=mk_ (KeepBut.trans (u3_ HK) hk (.inl rfl));have n2_:=mk_ (hb);have n3_:=mk_ (hi);clear HO_3 HK HB HI0;have HO_3:=n0_;have HK:=n1_;have HB:=n2_;have HI0:=n3_;clear n0_ n1_ n2_ n3_;(try clear hb);(try clear hb2);(try clear hk);(try clear hi))|((with_reducible refine gate_builtin (b:=.append) (xs:=#[.tmp 26,.tmp 27]) rfl ?_);at_builtin;refine Kd.R_append (Kd.int .i64) w.heap.size rfl (.tmp 26) (.tmp 27) 24 3 (.int .i64 0) 8 rfl Try.underlying24 info3 rfl (by decide) (by omega) u3 x3_1 0 [.int .i64 0] (fun _ => True) (fun _ => False) rfl rfl ?aP (fun _ hk => hk.elim) ?aF ?aO (Below.refl _ _) ?aS ?aL ?_;(case aP => exact rfl);(case aF => exact (fun _ _ => trivial));(case aO => exact (qr_ HO_3));(case aS => exact (keep_size (w:=w) (g:=g) (row:=none) (u3_ HK)));(case aL => have:=LMc22.out;omega);intro v471 w24 ho hb hg hat;rw [← Ny470.out] at ho;have n0_:=mk_ (IsS68.grown (u2_ HI0) hg (IsS68.own_ne HI0.out HO_3.out (by decide)));have n1_:=mk_ (below_weaken (u4_ HB HI0) HL.out hb);have n2_:=mk_ (KeepBut.trans (u3_ HK) (KeepBut.of_grown hg g) (Kd.R_base2 HO_3.out));have n3_:=mk_ (ho);clear HI0 HB HK HO_3;have HI0:=n0_;have HB:=n1_;have HK:=n2_;have HO472:=n3_;clear n0_ n1_ n2_ n3_ ho hb hg hat))
      go_roundg k1
      case measure => have:=HK1.out;omega
      case rel => exact ⟨(y470),(wrap64 (x5_1 - 1)),(t464),qf_,H',⟨by have:=HK1.out;omega⟩,⟨qr_ HO472⟩,⟨u2_ HI0⟩,⟨u3_ HK⟩,⟨u4_ HB HI0⟩⟩
     ·rw [if_neg c22] at H
      exact absurd H (by simp)
   ·rw [if_neg c14] at H
    have c14b0 : decide (0 < x5_1) = false:=decide_eq_false c14
    clear c14
    simp only [Option.some.injEq,Prod.mk.injEq] at H
    obtain ⟨rfl,rfl⟩:=H
    go_wp2
    go_ret
    exact ⟨_,qe_,qr_ HO_3,u2_ HI0,u4_ HB HI0,u3_ HK⟩

/-! ### spec_l5Draw: function 29 -/
def spec_l5Draw.f (k : Nat) (s0_0 : List Int) (s0_1 : Int) : Option (Int × (List (List Int)) × List Int × List Int × Int):=(spec_l4Sent.f k s0_0 s0_1).bind fun bt473 => ((spec_l21Rd_num.f k s0_0 bt473.2 (([4,1,2,8,3] : List Int))).bind fun bt480 => ((spec_l4Fates.f k s0_0 bt480.2).bind fun bt482 => ((spec_l4Fates.f k s0_0 bt482.2).bind fun bt486 => ((spec_l21Rd_pick.f k s0_0 bt486.2 48).bind fun bt490 => (if bt490.1 = 0 then ((spec_l21Rd_num.f k s0_0 bt490.2 (([0,9] : List Int))).bind fun bt495 => (some (bt495.1,bt473.1,bt482.1,bt486.1,bt495.2))) else (if bt490.1 = 1 then (if 598 ≤ 281474976710656 then (if bt473.1.length < 5864062014805 then (some (bt480.1,(bt473.1 ++ [(List.replicate 598 0)]),bt482.1,bt486.1,bt490.2)) else (none)) else (none)) else (if bt490.1 = 2 then (if bt482.1.length < 17592186044416 then (some (bt480.1,bt473.1,(bt482.1 ++ [7]),bt486.1,bt490.2)) else (none)) else (if bt490.1 = 3 then (if bt486.1.length < 17592186044416 then (some (bt480.1,bt473.1,bt482.1,(bt486.1 ++ [(-1)]),bt490.2)) else (none)) else (some (bt480.1,bt473.1,bt482.1,bt486.1,bt490.2))))))))))
theorem spec_l5Draw.mono : ∀ a0 a1 k,LeO (spec_l5Draw.f k a0 a1) (spec_l5Draw.f (k + 1) a0 a1):=by
 intro a0 a1 k
 unfold spec_l5Draw.f
 repeat' first
   | (with_reducible exact spec_l21Rd_num.mono _ _ _ _)
   | (with_reducible exact spec_l21Rd_pick.mono _ _ _ _)
   | (with_reducible exact spec_l4Fates.mono _ _ _)
   | (with_reducible exact spec_l4Sent.mono _ _ _)
   | (with_reducible exact LeO.refl _)
   | (with_reducible exact LeO.none _)
   | (with_reducible refine LeO.ite ?_ ?_)
   | (with_reducible refine LeO.bind ?_ (fun _ => ?_))
   | exact spec_l21Rd_num.mono _ _ _ _
   | exact spec_l21Rd_pick.mono _ _ _ _
   | exact spec_l4Fates.mono _ _ _
   | exact spec_l4Sent.mono _ _ _
   | exact LeO.none _
   | refine LeO.ite ?_ ?_
   | refine LeO.bind ?_ (fun _ => ?_)
set_option maxHeartbeats 8000000 in
set_option maxRecDepth 100000 in
theorem spec_l5Draw.calls (k : Nat) (g : Nat) (s0_0 : List Int) (s0_1 : Int) (r1 : Int) (r2 : List (List Int)) (r3 : List Int) (r4 : List Int) (r5 : Int) (w0 w : World) (hI : IsS68 w0 w g s0_0 s0_1) (hB : Below w0.heap.size w0 w) (h : spec_l5Draw.f k s0_0 s0_1 = some (r1,r2,r3,r4,r5)) :
  Calls Try.prog 29 #[.pointer (some ⟨g,0,none⟩)] w fun e w' => ∃ v1_ v2_ v3_ : Value,e = .returned (.tuple #[.int .i64 r1,v1_,v2_,v3_]) ∧ Kd.S (Kd.slice 5 (Kd.int .u8)) 22 w' w.heap.size (fun _ => True) v1_ r2 ∧ Kd.R (Kd.int .i64) 3 w' w.heap.size (fun k_ => some k_ ≠ (v3_ : Value).ownBlock) v2_ r3 ∧ Kd.R (Kd.int .i64) 3 w' w.heap.size (fun k_ => some k_ ≠ (v2_ : Value).ownBlock) v3_ r4 ∧ IsS68 w0 w' g s0_0 r5 ∧ Below w0.heap.size w0 w' ∧ KeepBut w w' g none:=by
 have HI0:=mk_ hI
 have HK:=mk_ (KeepBut.refl w g none)
 have HL:=mk_ hB.size
 clear hI
 have HW0:=mk_ hB.size
 have HB:=mk_ hB
 clear hB
 have H : ((spec_l4Sent.f k s0_0 s0_1).bind fun bt473 => ((spec_l21Rd_num.f k s0_0 bt473.2 (([4,1,2,8,3] : List Int))).bind fun bt480 => ((spec_l4Fates.f k s0_0 bt480.2).bind fun bt482 => ((spec_l4Fates.f k s0_0 bt482.2).bind fun bt486 => ((spec_l21Rd_pick.f k s0_0 bt486.2 48).bind fun bt490 => (if bt490.1 = 0 then ((spec_l21Rd_num.f k s0_0 bt490.2 (([0,9] : List Int))).bind fun bt495 => (some (bt495.1,bt473.1,bt482.1,bt486.1,bt495.2))) else (if bt490.1 = 1 then (if 598 ≤ 281474976710656 then (if bt473.1.length < 5864062014805 then (some (bt480.1,(bt473.1 ++ [(List.replicate 598 0)]),bt482.1,bt486.1,bt490.2)) else (none)) else (none)) else (if bt490.1 = 2 then (if bt482.1.length < 17592186044416 then (some (bt480.1,bt473.1,(bt482.1 ++ [7]),bt486.1,bt490.2)) else (none)) else (if bt490.1 = 3 then (if bt486.1.length < 17592186044416 then (some (bt480.1,bt473.1,bt482.1,(bt486.1 ++ [(-1)]),bt490.2)) else (none)) else (some (bt480.1,bt473.1,bt482.1,bt486.1,bt490.2))))))))))) = some (r1,r2,r3,r4,r5):=h
 clear h
 replace H:=Option.bind_eq_some_iff.mp H
 obtain ⟨⟨t473,t476⟩,A20,H⟩:=H
 replace H : ((spec_l21Rd_num.f k s0_0 t476 (([4,1,2,8,3] : List Int))).bind fun bt480 => ((spec_l4Fates.f k s0_0 bt480.2).bind fun bt482 => ((spec_l4Fates.f k s0_0 bt482.2).bind fun bt486 => ((spec_l21Rd_pick.f k s0_0 bt486.2 48).bind fun bt490 => (if bt490.1 = 0 then ((spec_l21Rd_num.f k s0_0 bt490.2 (([0,9] : List Int))).bind fun bt495 => (some (bt495.1,t473,bt482.1,bt486.1,bt495.2))) else (if bt490.1 = 1 then (if 598 ≤ 281474976710656 then (if t473.length < 5864062014805 then (some (bt480.1,(t473 ++ [(List.replicate 598 0)]),bt482.1,bt486.1,bt490.2)) else (none)) else (none)) else (if bt490.1 = 2 then (if bt482.1.length < 17592186044416 then (some (bt480.1,t473,(bt482.1 ++ [7]),bt486.1,bt490.2)) else (none)) else (if bt490.1 = 3 then (if bt486.1.length < 17592186044416 then (some (bt480.1,t473,bt482.1,(bt486.1 ++ [(-1)]),bt490.2)) else (none)) else (some (bt480.1,t473,bt482.1,bt486.1,bt490.2)))))))))) = some (r1,r2,r3,r4,r5):=H
 have A2:=mk_ A20
 clear A20
 obtain ⟨y477,hy477⟩ : ∃ y_ : List Int,y_ = (([4,1,2,8,3] : List Int)):=⟨_,rfl⟩
 replace H : ((spec_l21Rd_num.f k s0_0 t476 y477).bind fun bt480 => ((spec_l4Fates.f k s0_0 bt480.2).bind fun bt482 => ((spec_l4Fates.f k s0_0 bt482.2).bind fun bt486 => ((spec_l21Rd_pick.f k s0_0 bt486.2 48).bind fun bt490 => (if bt490.1 = 0 then ((spec_l21Rd_num.f k s0_0 bt490.2 (([0,9] : List Int))).bind fun bt495 => (some (bt495.1,t473,bt482.1,bt486.1,bt495.2))) else (if bt490.1 = 1 then (if 598 ≤ 281474976710656 then (if t473.length < 5864062014805 then (some (bt480.1,(t473 ++ [(List.replicate 598 0)]),bt482.1,bt486.1,bt490.2)) else (none)) else (none)) else (if bt490.1 = 2 then (if bt482.1.length < 17592186044416 then (some (bt480.1,t473,(bt482.1 ++ [7]),bt486.1,bt490.2)) else (none)) else (if bt490.1 = 3 then (if bt486.1.length < 17592186044416 then (some (bt480.1,t473,bt482.1,(bt486.1 ++ [(-1)]),bt490.2)) else (none)) else (some (bt480.1,t473,bt482.1,bt486.1,bt490.2)))))))))) = some (r1,r2,r3,r4,r5):=by first|(rw [hy477];with_reducible exact H)|(have H2_:=(Option.bind_some _ _).symm.trans H;rw [hy477];with_reducible exact H2_)|(have H2_:=(Option.bind_some _ _).symm.trans H;with_reducible exact H2_)|with_reducible exact H|(rw [hy477];exact H)|exact H
 have Ny477:=mk_ hy477
 clear hy477
 replace H:=Option.bind_eq_some_iff.mp H
 obtain ⟨⟨t480,t481⟩,A30,H⟩:=H
 replace H : ((spec_l4Fates.f k s0_0 t481).bind fun bt482 => ((spec_l4Fates.f k s0_0 bt482.2).bind fun bt486 => ((spec_l21Rd_pick.f k s0_0 bt486.2 48).bind fun bt490 => (if bt490.1 = 0 then ((spec_l21Rd_num.f k s0_0 bt490.2 (([0,9] : List Int))).bind fun bt495 => (some (bt495.1,t473,bt482.1,bt486.1,bt495.2))) else (if bt490.1 = 1 then (if 598 ≤ 281474976710656 then (if t473.length < 5864062014805 then (some (t480,(t473 ++ [(List.replicate 598 0)]),bt482.1,bt486.1,bt490.2)) else (none)) else (none)) else (if bt490.1 = 2 then (if bt482.1.length < 17592186044416 then (some (t480,t473,(bt482.1 ++ [7]),bt486.1,bt490.2)) else (none)) else (if bt490.1 = 3 then (if bt486.1.length < 17592186044416 then (some (t480,t473,bt482.1,(bt486.1 ++ [(-1)]),bt490.2)) else (none)) else (some (t480,t473,bt482.1,bt486.1,bt490.2))))))))) = some (r1,r2,r3,r4,r5):=H
 have A3:=mk_ A30
 clear A30
 replace H:=Option.bind_eq_some_iff.mp H
 obtain ⟨⟨t482,t485⟩,A40,H⟩:=H
 replace H : ((spec_l4Fates.f k s0_0 t485).bind fun bt486 => ((spec_l21Rd_pick.f k s0_0 bt486.2 48).bind fun bt490 => (if bt490.1 = 0 then ((spec_l21Rd_num.f k s0_0 bt490.2 (([0,9] : List Int))).bind fun bt495 => (some (bt495.1,t473,t482,bt486.1,bt495.2))) else (if bt490.1 = 1 then (if 598 ≤ 281474976710656 then (if t473.length < 5864062014805 then (some (t480,(t473 ++ [(List.replicate 598 0)]),t482,bt486.1,bt490.2)) else (none)) else (none)) else (if bt490.1 = 2 then (if t482.length < 17592186044416 then (some (t480,t473,(t482 ++ [7]),bt486.1,bt490.2)) else (none)) else (if bt490.1 = 3 then (if bt486.1.length < 17592186044416 then (some (t480,t473,t482,(bt486.1 ++ [(-1)]),bt490.2)) else (none)) else (some (t480,t473,t482,bt486.1,bt490.2)))))))) = some (r1,r2,r3,r4,r5):=H
 have A4:=mk_ A40
 clear A40
 replace H:=Option.bind_eq_some_iff.mp H
 obtain ⟨⟨t486,t489⟩,A50,H⟩:=H
 replace H : ((spec_l21Rd_pick.f k s0_0 t489 48).bind fun bt490 => (if bt490.1 = 0 then ((spec_l21Rd_num.f k s0_0 bt490.2 (([0,9] : List Int))).bind fun bt495 => (some (bt495.1,t473,t482,t486,bt495.2))) else (if bt490.1 = 1 then (if 598 ≤ 281474976710656 then (if t473.length < 5864062014805 then (some (t480,(t473 ++ [(List.replicate 598 0)]),t482,t486,bt490.2)) else (none)) else (none)) else (if bt490.1 = 2 then (if t482.length < 17592186044416 then (some (t480,t473,(t482 ++ [7]),t486,bt490.2)) else (none)) else (if bt490.1 = 3 then (if t486.length < 17592186044416 then (some (t480,t473,t482,(t486 ++ [(-1)]),bt490.2)) else (none)) else (some (t480,t473,t482,t486,bt490.2))))))) = some (r1,r2,r3,r4,r5):=H
 have A5:=mk_ A50
 clear A50
 replace H:=Option.bind_eq_some_iff.mp H
 obtain ⟨⟨t490,t491⟩,A60,H⟩:=H
 replace H : (if t490 = 0 then ((spec_l21Rd_num.f k s0_0 t491 (([0,9] : List Int))).bind fun bt495 => (some (bt495.1,t473,t482,t486,bt495.2))) else (if t490 = 1 then (if 598 ≤ 281474976710656 then (if t473.length < 5864062014805 then (some (t480,(t473 ++ [(List.replicate 598 0)]),t482,t486,t491)) else (none)) else (none)) else (if t490 = 2 then (if t482.length < 17592186044416 then (some (t480,t473,(t482 ++ [7]),t486,t491)) else (none)) else (if t490 = 3 then (if t486.length < 17592186044416 then (some (t480,t473,t482,(t486 ++ [(-1)]),t491)) else (none)) else (some (t480,t473,t482,t486,t491)))))) = some (r1,r2,r3,r4,r5):=H
 have A6:=mk_ A60
 clear A60
 by_cases c7 : t490 = 0
 ·rw [if_pos c7] at H
  have c7b0 : (t490 == 0) = true:=beq_iff_eq.mpr c7
  have c7b1 : (t490 != 0) = false:=bne_eq_false_iff_eq.mpr c7
  clear c7
  obtain ⟨y492,hy492⟩ : ∃ y_ : List Int,y_ = (([0,9] : List Int)):=⟨_,rfl⟩
  replace H : ((spec_l21Rd_num.f k s0_0 t491 y492).bind fun bt495 => (some (bt495.1,t473,t482,t486,bt495.2))) = some (r1,r2,r3,r4,r5):=by first|(rw [hy492];with_reducible exact H)|(have H2_:=(Option.bind_some _ _).symm.trans H;rw [hy492];with_reducible exact H2_)|(have H2_:=(Option.bind_some _ _).symm.trans H;with_reducible exact H2_)|with_reducible exact H|(rw [hy492];exact H)|exact H
  have Ny492:=mk_ hy492
  clear hy492
  replace H:=Option.bind_eq_some_iff.mp H
  obtain ⟨⟨t495,t496⟩,A80,H⟩:=H
  replace H : (some (t495,t473,t482,t486,t496)) = some (r1,r2,r3,r4,r5):=H
  have A8:=mk_ A80
  clear A80
  simp only [Option.some.injEq,Prod.mk.injEq] at H
  obtain ⟨rfl,rfl,rfl,rfl,rfl⟩:=H
  go_enter Try.func29,Try.ntmps29
  go_wp2_with (first|((with_reducible refine gate_callee (f:=47) rfl ?_);refine goesL_ (some 11) rfl rfl Try.func47 (by kernel_rfl) rfl #[.pointer (some ⟨g,0,none⟩)] rfl qm_ ?_;(with_reducible refine (spec_l4Sent.calls k g s0_0 s0_1 t473 t476 w0 _ ?side1 ?side2 A2.out).mono ?_);(case side1 => exact u2_ HI0);(case side2 => exact u4_ HB HI0);rintro e w9 ⟨v474,rfl,ho0,hi,hb,hk⟩;refine ⟨_,rfl,?_⟩;have n0_:=mk_ (Kd.S_lower ho0 (keep_size (w:=w) (g:=g) (row:=none) (u3_ HK)));have n1_:=mk_ (KeepBut.trans (u3_ HK) hk (.inl rfl));have n2_:=mk_ (hb);have n3_:=mk_ (hi);clear HK HB HI0;have HO475:=n0_;have HK:=n1_;have HB:=n2_;have HI0:=n3_;clear n0_ n1_ n2_ n3_;(try clear hb);(try clear hb2);(try clear hk);(try clear hi);(try clear ho0))|((with_reducible refine gate_dst (N:=13) rfl ?_);refine Kd.R_lit (Kd.int .i64) _ 3 ?hg (N:=13) ?hd (xs:=([4,1,2,8,3] : List Int)) (inner:=[.int .i64 4,.int .i64 1,.int .i64 2,.int .i64 8,.int .i64 3]) (ok:=fun _ => True) (okp:=fun _ => True) ?hr ?hp (fun _ hk => hk) trivial (Below.refl _ _) (Nat.le_refl _) (by simp) ?_;(case hd => rfl);(case hg => rfl);(case hr => first|(go_simp;done)|(go_simp;rfl));(case hp => exact (Reps.one (show Kd.M (Kd.int .i64) _ _ _ 4 [.int .i64 4] from rfl) (Reps.one (show Kd.M (Kd.int .i64) _ _ _ 1 [.int .i64 1] from rfl) (Reps.one (show Kd.M (Kd.int .i64) _ _ _ 2 [.int .i64 2] from rfl) (Reps.one (show Kd.M (Kd.int .i64) _ _ _ 8 [.int .i64 8] from rfl) (Reps.one (show Kd.M (Kd.int .i64) _ _ _ 3 [.int .i64 3] from rfl) (Reps.none _ _)))))));intro v478 w10 ho11 hb hg_ hnew_;clear hg_ hnew_;(first|rw [← Ny477.out] at ho11|(simp only [Int.reduceToNat] at ho11;rw [← Ny477.out] at ho11));have n0_:=mk_ (Kd.S_below (by (with_reducible repeat (first|apply Kd.S_alloc|apply Kd.S_drewN|apply Kd.S_drew));exact HO475.out) hb);have n1_:=mk_ (Kd.R_lower ho11 (keep_size (w:=w) (g:=g) (row:=none) (u3_ HK)));have n2_:=mk_ (IsS68.below (u2_ HI0) hb);have n3_:=mk_ (KeepBut.trans (u3_ HK) (KeepBut.of_below hb g none) (.inl rfl));have n4_:=mk_ (st_ (u4_ HB HI0) hb);clear HO475 HI0 HK HB;have HO475:=n0_;have HO479:=n1_;have HI0:=n2_;have HK:=n3_;have HB:=n4_;clear n0_ n1_ n2_ n3_ n4_ hb ho11;obtain ⟨Ao12,co12,eo12⟩:=Kd.R_slice HO479.out;subst eo12)|((with_reducible refine gate_callee (f:=41) rfl ?_);refine goesL_ (some 14) rfl rfl Try.func41 (by kernel_rfl) rfl #[.pointer (some ⟨g,0,none⟩),.slice Ao12 y477.length co12] rfl qm_ ?_;(with_reducible refine (spec_l21Rd_num.calls k g s0_0 t476 _ _ y477 t480 t481 w0 _ ?side1 ?side2 ?side3 ?side4 ?side5 A3.out).mono ?_);(case side1 => exact u2_ HI0);(case side2 => exact u4_ HB HI0);(case side3 => repeat (first|exact (rr_ HO479.out).2.2|(with_reducible refine ca_ ?_ _)|(with_reducible refine cn_ ?_ _)|(with_reducible refine cd_ ?_)));(case side4 => exact (rr_ HO479.out).2.1);(case side5 => exact far_slice (IsS68.own_ne HI0.out HO479.out (by decide)));rintro e w13 ⟨rfl,hi,hb,hk⟩;refine ⟨_,rfl,?_⟩;have n0_:=mk_ (Kd.S_mono (Kd.S_keep (IsS68.apartS (show IsS68 w0 _ g s0_0 t476 from u2_ HI0) (by (with_reducible repeat (first|apply Kd.S_alloc|apply Kd.S_drewN|apply Kd.S_drew));exact HO475.out) (by decide)) hk (fun _ h => h.2)) (fun _ h => h.1));have n1_:=mk_ (rm_ (Kd.R_keep (IsS68.apart (show IsS68 w0 _ g s0_0 t476 from u2_ HI0) (qr_ HO479) (by decide)) hk (fun _ h => h.2)) (fun _ h => h.1));have n2_:=mk_ (KeepBut.trans (u3_ HK) hk (.inl rfl));have n3_:=mk_ (hb);have n4_:=mk_ (hi);clear HO475 HO479 HK HB HI0;have HO475:=n0_;have HO479:=n1_;have HK:=n2_;have HB:=n3_;have HI0:=n4_;clear n0_ n1_ n2_ n3_ n4_;(try clear hb);(try clear hb2);(try clear hk);(try clear hi))|((with_reducible refine gate_callee (f:=48) rfl ?_);refine goesL_ (some 16) rfl rfl Try.func48 (by kernel_rfl) rfl #[.pointer (some ⟨g,0,none⟩)] rfl qm_ ?_;(with_reducible refine (spec_l4Fates.calls k g s0_0 t481 t482 t485 w0 _ ?side1 ?side2 A4.out).mono ?_);(case side1 => exact u2_ HI0);(case side2 => exact u4_ HB HI0);rintro e w14 ⟨v483,rfl,ho0,hi,hb,hk⟩;refine ⟨_,rfl,?_⟩;have n0_:=mk_ (Kd.S_mono (Kd.S_keep (IsS68.apartS (show IsS68 w0 _ g s0_0 t481 from u2_ HI0) (by (with_reducible repeat (first|apply Kd.S_alloc|apply Kd.S_drewN|apply Kd.S_drew));exact HO475.out) (by decide)) hk (fun _ h => h.2)) (fun _ h => h.1));have n1_:=mk_ (rm_ (Kd.R_told (Kd.R_oldK (IsS68.apart (show IsS68 w0 _ g s0_0 t481 from u2_ HI0) (qr_ HO479) (by decide)) hk) (Kd.R_base ho0)) (λ_ h=>h.1));have n2_:=mk_ (Kd.R_lower (Kd.R_new' ho0 (Kd.R_lt (qr_ HO479))) (keep_size (w:=w) (g:=g) (row:=none) (u3_ HK)));have n3_:=mk_ (KeepBut.trans (u3_ HK) hk (.inl rfl));have n4_:=mk_ (hb);have n5_:=mk_ (hi);clear HO475 HO479 HK HB HI0;have HO475:=n0_;have HO479:=n1_;have HO484:=n2_;have HK:=n3_;have HB:=n4_;have HI0:=n5_;clear n0_ n1_ n2_ n3_ n4_ n5_;(try clear hb);(try clear hb2);(try clear hk);(try clear hi);(try clear ho0))|((with_reducible refine gate_callee (f:=48) rfl ?_);refine goesL_ (some 18) rfl rfl Try.func48 (by kernel_rfl) rfl #[.pointer (some ⟨g,0,none⟩)] rfl qm_ ?_;(with_reducible refine (spec_l4Fates.calls k g s0_0 t485 t486 t489 w0 _ ?side1 ?side2 A5.out).mono ?_);(case side1 => exact u2_ HI0);(case side2 => exact u4_ HB HI0);rintro e w15 ⟨v487,rfl,ho0,hi,hb,hk⟩;refine ⟨_,rfl,?_⟩;have n0_:=mk_ (Kd.S_mono (Kd.S_keep (IsS68.apartS (show IsS68 w0 _ g s0_0 t485 from u2_ HI0) (by (with_reducible repeat (first|apply Kd.S_alloc|apply Kd.S_drewN|apply Kd.S_drew));exact HO475.out) (by decide)) hk (fun _ h => h.2)) (fun _ h => h.1));have n1_:=mk_ (rm_ (Kd.R_told (Kd.R_oldK (IsS68.apart (show IsS68 w0 _ g s0_0 t485 from u2_ HI0) (qr_ HO479) (by decide)) hk) (Kd.R_base ho0)) (λ_ h=>h.1));have n2_:=mk_ (rm_ (Kd.R_told (Kd.R_oldK (IsS68.apart (show IsS68 w0 _ g s0_0 t485 from u2_ HI0) (qr_ HO484) (by decide)) hk) (Kd.R_base ho0)) (λ_ h=>h.1));have n3_:=mk_ (Kd.R_lower (Kd.R_new' (Kd.R_new' ho0 (Kd.R_lt (qr_ HO479))) (Kd.R_lt (qr_ HO484))) (keep_size (w:=w) (g:=g) (row:=none) (u3_ HK)));have n4_:=mk_ (KeepBut.trans (u3_ HK) hk (.inl rfl));have n5_:=mk_ (hb);have n6_:=mk_ (hi);clear HO475 HO479 HO484 HK HB HI0;have HO475:=n0_;have HO479:=n1_;have HO484:=n2_;have HO488:=n3_;have HK:=n4_;have HB:=n5_;have HI0:=n6_;clear n0_ n1_ n2_ n3_ n4_ n5_ n6_;(try clear hb);(try clear hb2);(try clear hk);(try clear hi);(try clear ho0))|((with_reducible refine gate_callee (f:=49) rfl ?_);refine goesL_ (some 20) rfl rfl Try.func49 (by kernel_rfl) rfl #[.pointer (some ⟨g,0,none⟩),.int .i64 48] rfl qm_ ?_;(with_reducible refine (spec_l21Rd_pick.calls k g s0_0 t489 48 t490 t491 w0 _ ?side1 ?side2 A6.out).mono ?_);(case side1 => exact u2_ HI0);(case side2 => exact u4_ HB HI0);rintro e w16 ⟨rfl,hi,hb,hk⟩;refine ⟨_,rfl,?_⟩;have n0_:=mk_ (Kd.S_mono (Kd.S_keep (IsS68.apartS (show IsS68 w0 _ g s0_0 t489 from u2_ HI0) (by (with_reducible repeat (first|apply Kd.S_alloc|apply Kd.S_drewN|apply Kd.S_drew));exact HO475.out) (by decide)) hk (fun _ h => h.2)) (fun _ h => h.1));have n1_:=mk_ (rm_ (Kd.R_keep (IsS68.apart (show IsS68 w0 _ g s0_0 t489 from u2_ HI0) (qr_ HO479) (by decide)) hk (fun _ h => h.2)) (fun _ h => h.1));have n2_:=mk_ (rm_ (Kd.R_keep (IsS68.apart (show IsS68 w0 _ g s0_0 t489 from u2_ HI0) (qr_ HO484) (by decide)) hk (fun _ h => h.2)) (fun _ h => h.1));have n3_:=mk_ (rm_ (Kd.R_keep (IsS68.apart (show IsS68 w0 _ g s0_0 t489 from u2_ HI0) (qr_ HO488) (by decide)) hk (fun _ h => h.2)) (fun _ h => h.1));have n4_:=mk_ (KeepBut.trans (u3_ HK) hk (.inl rfl));have n5_:=mk_ (hb);have n6_:=mk_ (hi);clear HO475 HO479 HO484 HO488 HK HB HI0;have HO475:=n0_;have HO479:=n1_;have HO484:=n2_;have HO488:=n3_;have HK:=n4_;have HB:=n5_;have HI0:=n6_;clear n0_ n1_ n2_ n3_ n4_ n5_ n6_;(try clear hb);(try clear hb2);(try clear hk);(try clear hi))|((with_reducible refine gate_dst (N:=24) rfl ?_);refine Kd.R_lit (Kd.int .i64) _ 3 ?hg (N:=24) ?hd (xs:=([0,9] : List Int)) (inner:=[.int .i64 0,.int .i64 9]) (ok:=fun _ => True) (okp:=fun _ => True) ?hr ?hp (fun _ hk => hk) trivial (Below.refl _ _) (Nat.le_refl _) (by simp) ?_;(case hd => rfl);(case hg => rfl);(case hr => first|(go_simp;done)|(go_simp;rfl));(case hp => exact (Reps.one (show Kd.M (Kd.int .i64) _ _ _ 0 [.int .i64 0] from rfl) (Reps.one (show Kd.M (Kd.int .i64) _ _ _ 9 [.int .i64 9] from rfl) (Reps.none _ _))));intro v493 w17 ho18 hb hg_ hnew_;clear hg_ hnew_;(first|rw [← Ny492.out] at ho18|(simp only [Int.reduceToNat] at ho18;rw [← Ny492.out] at ho18));have n0_:=mk_ (Kd.S_below (by (with_reducible repeat (first|apply Kd.S_alloc|apply Kd.S_drewN|apply Kd.S_drew));exact HO475.out) hb);have n1_:=mk_ (re_ (qr_ HO479) (Kd.R_base ho18) hb);have n2_:=mk_ (re_ (qr_ HO484) (Kd.R_base ho18) hb);have n3_:=mk_ (re_ (qr_ HO488) (Kd.R_base ho18) hb);have n4_:=mk_ (Kd.R_lower (Kd.R_new' (Kd.R_new' (Kd.R_new' ho18 (Kd.R_lt (qr_ HO479))) (Kd.R_lt (qr_ HO484))) (Kd.R_lt (qr_ HO488))) (keep_size (w:=w) (g:=g) (row:=none) (u3_ HK)));have n5_:=mk_ (IsS68.below (u2_ HI0) hb);have n6_:=mk_ (KeepBut.trans (u3_ HK) (KeepBut.of_below hb g none) (.inl rfl));have n7_:=mk_ (st_ (u4_ HB HI0) hb);clear HO475 HO479 HO484 HO488 HI0 HK HB;have HO475:=n0_;have HO479:=n1_;have HO484:=n2_;have HO488:=n3_;have HO494:=n4_;have HI0:=n5_;have HK:=n6_;have HB:=n7_;clear n0_ n1_ n2_ n3_ n4_ n5_ n6_ n7_ hb ho18;obtain ⟨Ao19,co19,eo19⟩:=Kd.R_slice HO494.out;subst eo19)|((with_reducible refine gate_callee (f:=41) rfl ?_);refine goesL_ (some 25) rfl rfl Try.func41 (by kernel_rfl) rfl #[.pointer (some ⟨g,0,none⟩),.slice Ao19 y492.length co19] rfl qm_ ?_;(with_reducible refine (spec_l21Rd_num.calls k g s0_0 t491 _ _ y492 t495 t496 w0 _ ?side1 ?side2 ?side3 ?side4 ?side5 A8.out).mono ?_);(case side1 => exact u2_ HI0);(case side2 => exact u4_ HB HI0);(case side3 => repeat (first|exact (rr_ HO494.out).2.2|(with_reducible refine ca_ ?_ _)|(with_reducible refine cn_ ?_ _)|(with_reducible refine cd_ ?_)));(case side4 => exact (rr_ HO494.out).2.1);(case side5 => exact far_slice (IsS68.own_ne HI0.out HO494.out (by decide)));rintro e w20 ⟨rfl,hi,hb,hk⟩;refine ⟨_,rfl,?_⟩;have n0_:=mk_ (Kd.S_mono (Kd.S_keep (IsS68.apartS (show IsS68 w0 _ g s0_0 t491 from u2_ HI0) (by (with_reducible repeat (first|apply Kd.S_alloc|apply Kd.S_drewN|apply Kd.S_drew));exact HO475.out) (by decide)) hk (fun _ h => h.2)) (fun _ h => h.1));have n1_:=mk_ (rm_ (Kd.R_keep (IsS68.apart (show IsS68 w0 _ g s0_0 t491 from u2_ HI0) (qr_ HO479) (by decide)) hk (fun _ h => h.2)) (fun _ h => h.1));have n2_:=mk_ (rm_ (Kd.R_keep (IsS68.apart (show IsS68 w0 _ g s0_0 t491 from u2_ HI0) (qr_ HO484) (by decide)) hk (fun _ h => h.2)) (fun _ h => h.1));have n3_:=mk_ (rm_ (Kd.R_keep (IsS68.apart (show IsS68 w0 _ g s0_0 t491 from u2_ HI0) (qr_ HO488) (by decide)) hk (fun _ h => h.2)) (fun _ h => h.1));have n4_:=mk_ (rm_ (Kd.R_keep (IsS68.apart (show IsS68 w0 _ g s0_0 t491 from u2_ HI0) (qr_ HO494) (by decide)) hk (fun _ h => h.2)) (fun _ h => h.1));have n5_:=mk_ (KeepBut.trans (u3_ HK) hk (.inl rfl));have n6_:=mk_ (hb);have n7_:=mk_ (hi);clear HO475 HO479 HO484 HO488 HO494 HK HB HI0;have HO475:=n0_;have HO479:=n1_;have HO484:=n2_;have HO488:=n3_;have HO494:=n4_;have HK:=n5_;have HB:=n6_;have HI0:=n7_;clear n0_ n1_ n2_ n3_ n4_ n5_ n6_ n7_;(try clear hb);(try clear hb2);(try clear hk);(try clear hi)))
  refine bodyPost_ret (results_list (rs:=[.tmp 2,.tmp 3,.tmp 4,.tmp 5]) rfl (by simp) (.tmp (.tmp (.tmp (.tmp .nil))))) rfl ?_
  exact ⟨_,_,_,qe_,by (with_reducible repeat (first|apply Kd.S_alloc|apply Kd.S_drewN|apply Kd.S_drew));exact HO475.out,by (with_reducible repeat (first|apply ra_|apply rn_|apply rd_));exact rm_ HO484.out (fun _ hk => hk.1.2),by (with_reducible repeat (first|apply ra_|apply rn_|apply rd_));exact rm_ HO488.out (fun _ hk => hk.1.2),u2_ HI0,u4_ HB HI0,u3_ HK⟩
 ·rw [if_neg c7] at H
  have c7b0 : (t490 == 0) = false:=beq_eq_false_iff_ne.mpr c7
  have c7b1 : (t490 != 0) = true:=bne_iff_ne.mpr c7
  by_cases c21 : t490 = 1
  ·rw [if_pos c21] at H
   have c21b0 : (t490 == 1) = true:=beq_iff_eq.mpr c21
   have c21b1 : (t490 != 1) = false:=bne_eq_false_iff_eq.mpr c21
   clear c21
   by_cases c22 : 598 ≤ 281474976710656
   ·rw [if_pos c22] at H
    have c22b0:=eq_true c22
    have c22b1 : decide (598 ≤ 281474976710656) = true:=decide_eq_true c22
    clear c22
    obtain ⟨y497,hy497⟩ : ∃ y_ : List Int,y_ = (List.replicate 598 0):=⟨_,rfl⟩
    replace H : (if t473.length < 5864062014805 then (some (t480,(t473 ++ [y497]),t482,t486,t491)) else (none)) = some (r1,r2,r3,r4,r5):=by first|(rw [hy497];with_reducible exact H)|(have H2_:=(Option.bind_some _ _).symm.trans H;rw [hy497];with_reducible exact H2_)|(have H2_:=(Option.bind_some _ _).symm.trans H;with_reducible exact H2_)|with_reducible exact H|(rw [hy497];exact H)|exact H
    have Ny497:=mk_ hy497
    clear hy497
    by_cases c23 : t473.length < 5864062014805
    ·rw [if_pos c23] at H
     have LMc23:=mk_ c23
     clear c23
     obtain ⟨y500,hy500⟩ : ∃ y_ : List (List Int),y_ = (t473 ++ [y497]):=⟨_,rfl⟩
     replace H : (some (t480,y500,t482,t486,t491)) = some (r1,r2,r3,r4,r5):=by first|(rw [hy500];with_reducible exact H)|(have H2_:=(Option.bind_some _ _).symm.trans H;rw [hy500];with_reducible exact H2_)|(have H2_:=(Option.bind_some _ _).symm.trans H;with_reducible exact H2_)|with_reducible exact H|(rw [hy500];exact H)|exact H
     have Ny500:=mk_ hy500
     clear hy500
     simp only [Option.some.injEq,Prod.mk.injEq] at H
     obtain ⟨rfl,rfl,rfl,rfl,rfl⟩:=H
     go_enter Try.func29,Try.ntmps29
     go_wp2_with (first|((with_reducible refine gate_callee (f:=47) rfl ?_);refine goesL_ (some 11) rfl rfl Try.func47 (by kernel_rfl) rfl #[.pointer (some ⟨g,0,none⟩)] rfl qm_ ?_;(with_reducible refine (spec_l4Sent.calls k g s0_0 s0_1 t473 t476 w0 _ ?side1 ?side2 A2.out).mono ?_);(case side1 => exact u2_ HI0);(case side2 => exact u4_ HB HI0);rintro e w24 ⟨v474,rfl,ho0,hi,hb,hk⟩;refine ⟨_,rfl,?_⟩;have n0_:=mk_ (Kd.S_lower ho0 (keep_size (w:=w) (g:=g) (row:=none) (u3_ HK)));have n1_:=mk_ (KeepBut.trans (u3_ HK) hk (.inl rfl));have n2_:=mk_ (hb);have n3_:=mk_ (hi);clear HK HB HI0;have HO475:=n0_;have HK:=n1_;have HB:=n2_;have HI0:=n3_;clear n0_ n1_ n2_ n3_;(try clear hb);(try clear hb2);(try clear hk);(try clear hi);(try clear ho0))|((with_reducible refine gate_dst (N:=13) rfl ?_);refine Kd.R_lit (Kd.int .i64) _ 3 ?hg (N:=13) ?hd (xs:=([4,1,2,8,3] : List Int)) (inner:=[.int .i64 4,.int .i64 1,.int .i64 2,.int .i64 8,.int .i64 3]) (ok:=fun _ => True) (okp:=fun _ => True) ?hr ?hp (fun _ hk => hk) trivial (Below.refl _ _) (Nat.le_refl _) (by simp) ?_;(case hd => rfl);(case hg => rfl);(case hr => first|(go_simp;done)|(go_simp;rfl));(case hp => exact (Reps.one (show Kd.M (Kd.int .i64) _ _ _ 4 [.int .i64 4] from rfl) (Reps.one (show Kd.M (Kd.int .i64) _ _ _ 1 [.int .i64 1] from rfl) (Reps.one (show Kd.M (Kd.int .i64) _ _ _ 2 [.int .i64 2] from rfl) (Reps.one (show Kd.M (Kd.int .i64) _ _ _ 8 [.int .i64 8] from rfl) (Reps.one (show Kd.M (Kd.int .i64) _ _ _ 3 [.int .i64 3] from rfl) (Reps.none _ _)))))));intro v478 w25 ho26 hb hg_ hnew_;clear hg_ hnew_;(first|rw [← Ny477.out] at ho26|(simp only [Int.reduceToNat] at ho26;rw [← Ny477.out] at ho26));have n0_:=mk_ (Kd.S_below (by (with_reducible repeat (first|apply Kd.S_alloc|apply Kd.S_drewN|apply Kd.S_drew));exact HO475.out) hb);have n1_:=mk_ (Kd.R_lower ho26 (keep_size (w:=w) (g:=g) (row:=none) (u3_ HK)));have n2_:=mk_ (IsS68.below (u2_ HI0) hb);have n3_:=mk_ (KeepBut.trans (u3_ HK) (KeepBut.of_below hb g none) (.inl rfl));have n4_:=mk_ (st_ (u4_ HB HI0) hb);clear HO475 HI0 HK HB;have HO475:=n0_;have HO479:=n1_;have HI0:=n2_;have HK:=n3_;have HB:=n4_;clear n0_ n1_ n2_ n3_ n4_ hb ho26;obtain ⟨Ao27,co27,eo27⟩:=Kd.R_slice HO479.out;subst eo27)|((with_reducible refine gate_callee (f:=41) rfl ?_);refine goesL_ (some 14) rfl rfl Try.func41 (by kernel_rfl) rfl #[.pointer (some ⟨g,0,none⟩),.slice Ao27 y477.length co27] rfl qm_ ?_;(with_reducible refine (spec_l21Rd_num.calls k g s0_0 t476 _ _ y477 t480 t481 w0 _ ?side1 ?side2 ?side3 ?side4 ?side5 A3.out).mono ?_);(case side1 => exact u2_ HI0);(case side2 => exact u4_ HB HI0);(case side3 => repeat (first|exact (rr_ HO479.out).2.2|(with_reducible refine ca_ ?_ _)|(with_reducible refine cn_ ?_ _)|(with_reducible refine cd_ ?_)));(case side4 => exact (rr_ HO479.out).2.1);(case side5 => exact far_slice (IsS68.own_ne HI0.out HO479.out (by decide)));rintro e w28 ⟨rfl,hi,hb,hk⟩;refine ⟨_,rfl,?_⟩;have n0_:=mk_ (Kd.S_mono (Kd.S_keep (IsS68.apartS (show IsS68 w0 _ g s0_0 t476 from u2_ HI0) (by (with_reducible repeat (first|apply Kd.S_alloc|apply Kd.S_drewN|apply Kd.S_drew));exact HO475.out) (by decide)) hk (fun _ h => h.2)) (fun _ h => h.1));have n1_:=mk_ (rm_ (Kd.R_keep (IsS68.apart (show IsS68 w0 _ g s0_0 t476 from u2_ HI0) (qr_ HO479) (by decide)) hk (fun _ h => h.2)) (fun _ h => h.1));have n2_:=mk_ (KeepBut.trans (u3_ HK) hk (.inl rfl));have n3_:=mk_ (hb);have n4_:=mk_ (hi);clear HO475 HO479 HK HB HI0;have HO475:=n0_;have HO479:=n1_;have HK:=n2_;have HB:=n3_;have HI0:=n4_;clear n0_ n1_ n2_ n3_ n4_;(try clear hb);(try clear hb2);(try clear hk);(try clear hi))|((with_reducible refine gate_callee (f:=48) rfl ?_);refine goesL_ (some 16) rfl rfl Try.func48 (by kernel_rfl) rfl #[.pointer (some ⟨g,0,none⟩)] rfl qm_ ?_;(with_reducible refine (spec_l4Fates.calls k g s0_0 t481 t482 t485 w0 _ ?side1 ?side2 A4.out).mono ?_);(case side1 => exact u2_ HI0);(case side2 => exact u4_ HB HI0);rintro e w29 ⟨v483,rfl,ho0,hi,hb,hk⟩;refine ⟨_,rfl,?_⟩;have n0_:=mk_ (Kd.S_mono (Kd.S_keep (IsS68.apartS (show IsS68 w0 _ g s0_0 t481 from u2_ HI0) (by (with_reducible repeat (first|apply Kd.S_alloc|apply Kd.S_drewN|apply Kd.S_drew));exact HO475.out) (by decide)) hk (fun _ h => h.2)) (fun _ h => h.1));have n1_:=mk_ (rm_ (Kd.R_told (Kd.R_oldK (IsS68.apart (show IsS68 w0 _ g s0_0 t481 from u2_ HI0) (qr_ HO479) (by decide)) hk) (Kd.R_base ho0)) (λ_ h=>h.1));have n2_:=mk_ (Kd.R_lower (Kd.R_new' ho0 (Kd.R_lt (qr_ HO479))) (keep_size (w:=w) (g:=g) (row:=none) (u3_ HK)));have n3_:=mk_ (KeepBut.trans (u3_ HK) hk (.inl rfl));have n4_:=mk_ (hb);have n5_:=mk_ (hi);clear HO475 HO479 HK HB HI0;have HO475:=n0_;have HO479:=n1_;have HO484:=n2_;have HK:=n3_;have HB:=n4_;have HI0:=n5_;clear n0_ n1_ n2_ n3_ n4_ n5_;(try clear hb);(try clear hb2);(try clear hk);(try clear hi);(try clear ho0))|((with_reducible refine gate_callee (f:=48) rfl ?_);refine goesL_ (some 18) rfl rfl Try.func48 (by kernel_rfl) rfl #[.pointer (some ⟨g,0,none⟩)] rfl qm_ ?_;(with_reducible refine (spec_l4Fates.calls k g s0_0 t485 t486 t489 w0 _ ?side1 ?side2 A5.out).mono ?_);(case side1 => exact u2_ HI0);(case side2 => exact u4_ HB HI0);rintro e w30 ⟨v487,rfl,ho0,hi,hb,hk⟩;refine ⟨_,rfl,?_⟩;have n0_:=mk_ (Kd.S_mono (Kd.S_keep (IsS68.apartS (show IsS68 w0 _ g s0_0 t485 from u2_ HI0) (by (with_reducible repeat (first|apply Kd.S_alloc|apply Kd.S_drewN|apply Kd.S_drew));exact HO475.out) (by decide)) hk (fun _ h => h.2)) (fun _ h => h.1));have n1_:=mk_ (rm_ (Kd.R_told (Kd.R_oldK (IsS68.apart (show IsS68 w0 _ g s0_0 t485 from u2_ HI0) (qr_ HO479) (by decide)) hk) (Kd.R_base ho0)) (λ_ h=>h.1));have n2_:=mk_ (rm_ (Kd.R_told (Kd.R_oldK (IsS68.apart (show IsS68 w0 _ g s0_0 t485 from u2_ HI0) (qr_ HO484) (by decide)) hk) (Kd.R_base ho0)) (λ_ h=>h.1));have n3_:=mk_ (Kd.R_lower (Kd.R_new' (Kd.R_new' ho0 (Kd.R_lt (qr_ HO479))) (Kd.R_lt (qr_ HO484))) (keep_size (w:=w) (g:=g) (row:=none) (u3_ HK)));have n4_:=mk_ (KeepBut.trans (u3_ HK) hk (.inl rfl));have n5_:=mk_ (hb);have n6_:=mk_ (hi);clear HO475 HO479 HO484 HK HB HI0;have HO475:=n0_;have HO479:=n1_;have HO484:=n2_;have HO488:=n3_;have HK:=n4_;have HB:=n5_;have HI0:=n6_;clear n0_ n1_ n2_ n3_ n4_ n5_ n6_;(try clear hb);(try clear hb2);(try clear hk);(try clear hi);(try clear ho0))|((with_reducible refine gate_callee (f:=49) rfl ?_);refine goesL_ (some 20) rfl rfl Try.func49 (by kernel_rfl) rfl #[.pointer (some ⟨g,0,none⟩),.int .i64 48] rfl qm_ ?_;(with_reducible refine (spec_l21Rd_pick.calls k g s0_0 t489 48 t490 t491 w0 _ ?side1 ?side2 A6.out).mono ?_);(case side1 => exact u2_ HI0);(case side2 => exact u4_ HB HI0);rintro e w31 ⟨rfl,hi,hb,hk⟩;refine ⟨_,rfl,?_⟩;have n0_:=mk_ (Kd.S_mono (Kd.S_keep (IsS68.apartS (show IsS68 w0 _ g s0_0 t489 from u2_ HI0) (by (with_reducible repeat (first|apply Kd.S_alloc|apply Kd.S_drewN|apply Kd.S_drew));exact HO475.out) (by decide)) hk (fun _ h => h.2)) (fun _ h => h.1));have n1_:=mk_ (rm_ (Kd.R_keep (IsS68.apart (show IsS68 w0 _ g s0_0 t489 from u2_ HI0) (qr_ HO479) (by decide)) hk (fun _ h => h.2)) (fun _ h => h.1));have n2_:=mk_ (rm_ (Kd.R_keep (IsS68.apart (show IsS68 w0 _ g s0_0 t489 from u2_ HI0) (qr_ HO484) (by decide)) hk (fun _ h => h.2)) (fun _ h => h.1));have n3_:=mk_ (rm_ (Kd.R_keep (IsS68.apart (show IsS68 w0 _ g s0_0 t489 from u2_ HI0) (qr_ HO488) (by decide)) hk (fun _ h => h.2)) (fun _ h => h.1));have n4_:=mk_ (KeepBut.trans (u3_ HK) hk (.inl rfl));have n5_:=mk_ (hb);have n6_:=mk_ (hi);clear HO475 HO479 HO484 HO488 HK HB HI0;have HO475:=n0_;have HO479:=n1_;have HO484:=n2_;have HO488:=n3_;have HK:=n4_;have HB:=n5_;have HI0:=n6_;clear n0_ n1_ n2_ n3_ n4_ n5_ n6_;(try clear hb);(try clear hb2);(try clear hk);(try clear hi))|((with_reducible refine gate_dst (N:=29) rfl ?_);refine Kd.R_make (Kd.int .u8) _ 5 rfl (N:=29) rfl 22 _ _ rfl 598 rfl rfl Try.underlying22 (.int .u8 0) 1 info5 rfl (by decide) (by omega) 0 (ok:=fun _ => True) (okp:=fun _ => True) rfl (fun _ hk => hk) trivial (by omega) (by omega) (Below.refl _ _) (Nat.le_refl _) ?_;intro v498 w32 ho33 hb hg_ hnew_;clear hg_ hnew_;(first|rw [← Ny497.out] at ho33|(simp only [Int.reduceToNat] at ho33;rw [← Ny497.out] at ho33));have n0_:=mk_ (Kd.S_elder' (by (with_reducible repeat (first|apply Kd.S_alloc|apply Kd.S_drewN|apply Kd.S_drew));exact HO475.out) (Kd.R_base ho33) hb);have n1_:=mk_ (rb_ (qr_ HO479) hb);have n2_:=mk_ (rb_ (qr_ HO484) hb);have n3_:=mk_ (rb_ (qr_ HO488) hb);have n4_:=mk_ (Kd.R_lower ho33 (keep_size (w:=w) (g:=g) (row:=none) (u3_ HK)));have n5_:=mk_ (IsS68.below (u2_ HI0) hb);have n6_:=mk_ (KeepBut.trans (u3_ HK) (KeepBut.of_below hb g none) (.inl rfl));have n7_:=mk_ (st_ (u4_ HB HI0) hb);clear HO475 HO479 HO484 HO488 HI0 HK HB;have HO475:=n0_;have HO479:=n1_;have HO484:=n2_;have HO488:=n3_;have HO499:=n4_;have HI0:=n5_;have HK:=n6_;have HB:=n7_;clear n0_ n1_ n2_ n3_ n4_ n5_ n6_ n7_ hb ho33;obtain ⟨Ao35,co35,eo35⟩:=Kd.R_slice HO499.out;subst eo35)|((with_reducible refine gate_builtin (b:=.append) (xs:=#[.tmp 28,.tmp 30]) rfl ?_);at_builtin;refine Kd.S_append (Kd.slice 5 (Kd.int .u8)) w.heap.size rfl (.tmp 28) (.tmp 30) 23 22 (.slice none 0 0) 24 rfl Try.underlying23 info22 rfl (by decide) (by omega) v474 t473 y497 [.slice Ao35 y497.length co35] (fun _ => True) (fun k_ => some k_ = (.slice Ao35 y497.length co35 : Value).ownBlock) rfl rfl ?aP (fun k_ hk_ => ((rm_ (ok':=fun k_ => ((fun _ => True)) k_ ∧ some k_ ≠ (v474 : Value).ownBlock) (Kd.R_apart' (HO499.out) (Kd.S_typed HO475.out) (by decide)) (fun k_ hk => ⟨trivial,hk.2⟩))).1 k_ hk_.symm) ?aF ?aO (Below.refl _ _) ?aS ?aL ?_;(case aP => exact Kd.M_row (rm_ (Kd.R_tight rfl (rm_ (ok':=fun k_ => ((fun _ => True)) k_ ∧ some k_ ≠ (v474 : Value).ownBlock) (Kd.R_apart' (HO499.out) (Kd.S_typed HO475.out) (by decide)) (fun k_ hk => ⟨trivial,hk.2⟩))) (fun _ h_ => h_)));(case aF => exact (fun _ _ => trivial));(case aO => exact (by (with_reducible repeat (first|apply Kd.S_alloc|apply Kd.S_drewN|apply Kd.S_drew));exact Kd.S_mono HO475.out (fun k_ hk => ⟨trivial,fun e_ => hk.2 e_⟩)));(case aS => exact (keep_size (w:=w) (g:=g) (row:=none) (u3_ HK)));(case aL => have:=LMc23.out;omega);intro v501 w34 ho hb hg hat;rw [← Ny500.out] at ho;have n0_:=mk_ (IsS68.grown (u2_ HI0) hg (IsS68.own_neS HI0.out HO475.out (by decide)));have n1_:=mk_ (Kd.R_over' (qr_ HO479) (Kd.S_typed (by (with_reducible repeat (first|apply Kd.S_alloc|apply Kd.S_drewN|apply Kd.S_drew));exact HO475.out)) (by decide) hg);have n2_:=mk_ (Kd.R_over' (qr_ HO484) (Kd.S_typed (by (with_reducible repeat (first|apply Kd.S_alloc|apply Kd.S_drewN|apply Kd.S_drew));exact HO475.out)) (by decide) hg);have n3_:=mk_ (Kd.R_over' (qr_ HO488) (Kd.S_typed (by (with_reducible repeat (first|apply Kd.S_alloc|apply Kd.S_drewN|apply Kd.S_drew));exact HO475.out)) (by decide) hg);have n4_:=mk_ (below_weaken (u4_ HB HI0) HL.out hb);have n5_:=mk_ (KeepBut.trans (u3_ HK) (KeepBut.of_grown hg g) (Kd.S_base2 HO475.out));have n6_:=mk_ (ho);clear HI0 HO479 HO484 HO488 HB HK HO475 HO499;have HI0:=n0_;have HO479:=n1_;have HO484:=n2_;have HO488:=n3_;have HB:=n4_;have HK:=n5_;have HO502:=n6_;clear n0_ n1_ n2_ n3_ n4_ n5_ n6_ ho hb hg hat))
     refine bodyPost_ret (results_list (rs:=[.tmp 2,.tmp 3,.tmp 4,.tmp 5]) rfl (by simp) (.tmp (.tmp (.tmp (.tmp .nil))))) rfl ?_
     exact ⟨_,_,_,qe_,by (with_reducible repeat (first|apply Kd.S_alloc|apply Kd.S_drewN|apply Kd.S_drew));exact HO502.out,by (with_reducible repeat (first|apply ra_|apply rn_|apply rd_));exact rm_ HO484.out (λ_ h=>h.2),by (with_reducible repeat (first|apply ra_|apply rn_|apply rd_));exact rm_ HO488.out (λ_ h=>h.2),u2_ HI0,u4_ HB HI0,u3_ HK⟩
    ·rw [if_neg c23] at H
     exact absurd H (by simp)
   ·rw [if_neg c22] at H
    exact absurd H (by simp)
  ·rw [if_neg c21] at H
   have c21b0 : (t490 == 1) = false:=beq_eq_false_iff_ne.mpr c21
   have c21b1 : (t490 != 1) = true:=bne_iff_ne.mpr c21
   by_cases c36 : t490 = 2
   ·rw [if_pos c36] at H
    have c36b0 : (t490 == 2) = true:=beq_iff_eq.mpr c36
    have c36b1 : (t490 != 2) = false:=bne_eq_false_iff_eq.mpr c36
    clear c36
    by_cases c37 : t482.length < 17592186044416
    ·rw [if_pos c37] at H
     have LMc37:=mk_ c37
     clear c37
     obtain ⟨y503,hy503⟩ : ∃ y_ : List Int,y_ = (t482 ++ [7]):=⟨_,rfl⟩
     replace H : (some (t480,t473,y503,t486,t491)) = some (r1,r2,r3,r4,r5):=by first|(rw [hy503];with_reducible exact H)|(have H2_:=(Option.bind_some _ _).symm.trans H;rw [hy503];with_reducible exact H2_)|(have H2_:=(Option.bind_some _ _).symm.trans H;with_reducible exact H2_)|with_reducible exact H|(rw [hy503];exact H)|exact H
     have Ny503:=mk_ hy503
     clear hy503
     simp only [Option.some.injEq,Prod.mk.injEq] at H
     obtain ⟨rfl,rfl,rfl,rfl,rfl⟩:=H
     go_enter Try.func29,Try.ntmps29
     go_wp2_with (first|((with_reducible refine gate_callee (f:=47) rfl ?_);refine goesL_ (some 11) rfl rfl Try.func47 (by kernel_rfl) rfl #[.pointer (some ⟨g,0,none⟩)] rfl qm_ ?_;(with_reducible refine (spec_l4Sent.calls k g s0_0 s0_1 t473 t476 w0 _ ?side1 ?side2 A2.out).mono ?_);(case side1 => exact u2_ HI0);(case side2 => exact u4_ HB HI0);rintro e w38 ⟨v474,rfl,ho0,hi,hb,hk⟩;refine ⟨_,rfl,?_⟩;have n0_:=mk_ (Kd.S_lower ho0 (keep_size (w:=w) (g:=g) (row:=none) (u3_ HK)));have n1_:=mk_ (KeepBut.trans (u3_ HK) hk (.inl rfl));have n2_:=mk_ (hb);have n3_:=mk_ (hi);clear HK HB HI0;have HO475:=n0_;have HK:=n1_;have HB:=n2_;have HI0:=n3_;clear n0_ n1_ n2_ n3_;(try clear hb);(try clear hb2);(try clear hk);(try clear hi);(try clear ho0))|((with_reducible refine gate_dst (N:=13) rfl ?_);refine Kd.R_lit (Kd.int .i64) _ 3 ?hg (N:=13) ?hd (xs:=([4,1,2,8,3] : List Int)) (inner:=[.int .i64 4,.int .i64 1,.int .i64 2,.int .i64 8,.int .i64 3]) (ok:=fun _ => True) (okp:=fun _ => True) ?hr ?hp (fun _ hk => hk) trivial (Below.refl _ _) (Nat.le_refl _) (by simp) ?_;(case hd => rfl);(case hg => rfl);(case hr => first|(go_simp;done)|(go_simp;rfl));(case hp => exact (Reps.one (show Kd.M (Kd.int .i64) _ _ _ 4 [.int .i64 4] from rfl) (Reps.one (show Kd.M (Kd.int .i64) _ _ _ 1 [.int .i64 1] from rfl) (Reps.one (show Kd.M (Kd.int .i64) _ _ _ 2 [.int .i64 2] from rfl) (Reps.one (show Kd.M (Kd.int .i64) _ _ _ 8 [.int .i64 8] from rfl) (Reps.one (show Kd.M (Kd.int .i64) _ _ _ 3 [.int .i64 3] from rfl) (Reps.none _ _)))))));intro v478 w39 ho40 hb hg_ hnew_;clear hg_ hnew_;(first|rw [← Ny477.out] at ho40|(simp only [Int.reduceToNat] at ho40;rw [← Ny477.out] at ho40));have n0_:=mk_ (Kd.S_below (by (with_reducible repeat (first|apply Kd.S_alloc|apply Kd.S_drewN|apply Kd.S_drew));exact HO475.out) hb);have n1_:=mk_ (Kd.R_lower ho40 (keep_size (w:=w) (g:=g) (row:=none) (u3_ HK)));have n2_:=mk_ (IsS68.below (u2_ HI0) hb);have n3_:=mk_ (KeepBut.trans (u3_ HK) (KeepBut.of_below hb g none) (.inl rfl));have n4_:=mk_ (st_ (u4_ HB HI0) hb);clear HO475 HI0 HK HB;have HO475:=n0_;have HO479:=n1_;have HI0:=n2_;have HK:=n3_;have HB:=n4_;clear n0_ n1_ n2_ n3_ n4_ hb ho40;obtain ⟨Ao41,co41,eo41⟩:=Kd.R_slice HO479.out;subst eo41)|((with_reducible refine gate_callee (f:=41) rfl ?_);refine goesL_ (some 14) rfl rfl Try.func41 (by kernel_rfl) rfl #[.pointer (some ⟨g,0,none⟩),.slice Ao41 y477.length co41] rfl qm_ ?_;(with_reducible refine (spec_l21Rd_num.calls k g s0_0 t476 _ _ y477 t480 t481 w0 _ ?side1 ?side2 ?side3 ?side4 ?side5 A3.out).mono ?_);(case side1 => exact u2_ HI0);(case side2 => exact u4_ HB HI0);(case side3 => repeat (first|exact (rr_ HO479.out).2.2|(with_reducible refine ca_ ?_ _)|(with_reducible refine cn_ ?_ _)|(with_reducible refine cd_ ?_)));(case side4 => exact (rr_ HO479.out).2.1);(case side5 => exact far_slice (IsS68.own_ne HI0.out HO479.out (by decide)));rintro e w42 ⟨rfl,hi,hb,hk⟩;refine ⟨_,rfl,?_⟩;have n0_:=mk_ (Kd.S_mono (Kd.S_keep (IsS68.apartS (show IsS68 w0 _ g s0_0 t476 from u2_ HI0) (by (with_reducible repeat (first|apply Kd.S_alloc|apply Kd.S_drewN|apply Kd.S_drew));exact HO475.out) (by decide)) hk (fun _ h => h.2)) (fun _ h => h.1));have n1_:=mk_ (rm_ (Kd.R_keep (IsS68.apart (show IsS68 w0 _ g s0_0 t476 from u2_ HI0) (qr_ HO479) (by decide)) hk (fun _ h => h.2)) (fun _ h => h.1));have n2_:=mk_ (KeepBut.trans (u3_ HK) hk (.inl rfl));have n3_:=mk_ (hb);have n4_:=mk_ (hi);clear HO475 HO479 HK HB HI0;have HO475:=n0_;have HO479:=n1_;have HK:=n2_;have HB:=n3_;have HI0:=n4_;clear n0_ n1_ n2_ n3_ n4_;(try clear hb);(try clear hb2);(try clear hk);(try clear hi))|((with_reducible refine gate_callee (f:=48) rfl ?_);refine goesL_ (some 16) rfl rfl Try.func48 (by kernel_rfl) rfl #[.pointer (some ⟨g,0,none⟩)] rfl qm_ ?_;(with_reducible refine (spec_l4Fates.calls k g s0_0 t481 t482 t485 w0 _ ?side1 ?side2 A4.out).mono ?_);(case side1 => exact u2_ HI0);(case side2 => exact u4_ HB HI0);rintro e w43 ⟨v483,rfl,ho0,hi,hb,hk⟩;refine ⟨_,rfl,?_⟩;have n0_:=mk_ (Kd.S_mono (Kd.S_keep (IsS68.apartS (show IsS68 w0 _ g s0_0 t481 from u2_ HI0) (by (with_reducible repeat (first|apply Kd.S_alloc|apply Kd.S_drewN|apply Kd.S_drew));exact HO475.out) (by decide)) hk (fun _ h => h.2)) (fun _ h => h.1));have n1_:=mk_ (rm_ (Kd.R_told (Kd.R_oldK (IsS68.apart (show IsS68 w0 _ g s0_0 t481 from u2_ HI0) (qr_ HO479) (by decide)) hk) (Kd.R_base ho0)) (λ_ h=>h.1));have n2_:=mk_ (Kd.R_lower (Kd.R_new' ho0 (Kd.R_lt (qr_ HO479))) (keep_size (w:=w) (g:=g) (row:=none) (u3_ HK)));have n3_:=mk_ (KeepBut.trans (u3_ HK) hk (.inl rfl));have n4_:=mk_ (hb);have n5_:=mk_ (hi);clear HO475 HO479 HK HB HI0;have HO475:=n0_;have HO479:=n1_;have HO484:=n2_;have HK:=n3_;have HB:=n4_;have HI0:=n5_;clear n0_ n1_ n2_ n3_ n4_ n5_;(try clear hb);(try clear hb2);(try clear hk);(try clear hi);(try clear ho0))|((with_reducible refine gate_callee (f:=48) rfl ?_);refine goesL_ (some 18) rfl rfl Try.func48 (by kernel_rfl) rfl #[.pointer (some ⟨g,0,none⟩)] rfl qm_ ?_;(with_reducible refine (spec_l4Fates.calls k g s0_0 t485 t486 t489 w0 _ ?side1 ?side2 A5.out).mono ?_);(case side1 => exact u2_ HI0);(case side2 => exact u4_ HB HI0);rintro e w44 ⟨v487,rfl,ho0,hi,hb,hk⟩;refine ⟨_,rfl,?_⟩;have n0_:=mk_ (Kd.S_mono (Kd.S_keep (IsS68.apartS (show IsS68 w0 _ g s0_0 t485 from u2_ HI0) (by (with_reducible repeat (first|apply Kd.S_alloc|apply Kd.S_drewN|apply Kd.S_drew));exact HO475.out) (by decide)) hk (fun _ h => h.2)) (fun _ h => h.1));have n1_:=mk_ (rm_ (Kd.R_told (Kd.R_oldK (IsS68.apart (show IsS68 w0 _ g s0_0 t485 from u2_ HI0) (qr_ HO479) (by decide)) hk) (Kd.R_base ho0)) (λ_ h=>h.1));have n2_:=mk_ (rm_ (Kd.R_told (Kd.R_oldK (IsS68.apart (show IsS68 w0 _ g s0_0 t485 from u2_ HI0) (qr_ HO484) (by decide)) hk) (Kd.R_base ho0)) (λ_ h=>h.1));have n3_:=mk_ (Kd.R_lower (Kd.R_new' (Kd.R_new' ho0 (Kd.R_lt (qr_ HO479))) (Kd.R_lt (qr_ HO484))) (keep_size (w:=w) (g:=g) (row:=none) (u3_ HK)));have n4_:=mk_ (KeepBut.trans (u3_ HK) hk (.inl rfl));have n5_:=mk_ (hb);have n6_:=mk_ (hi);clear HO475 HO479 HO484 HK HB HI0;have HO475:=n0_;have HO479:=n1_;have HO484:=n2_;have HO488:=n3_;have HK:=n4_;have HB:=n5_;have HI0:=n6_;clear n0_ n1_ n2_ n3_ n4_ n5_ n6_;(try clear hb);(try clear hb2);(try clear hk);(try clear hi);(try clear ho0))|((with_reducible refine gate_callee (f:=49) rfl ?_);refine goesL_ (some 20) rfl rfl Try.func49 (by kernel_rfl) rfl #[.pointer (some ⟨g,0,none⟩),.int .i64 48] rfl qm_ ?_;(with_reducible refine (spec_l21Rd_pick.calls k g s0_0 t489 48 t490 t491 w0 _ ?side1 ?side2 A6.out).mono ?_);(case side1 => exact u2_ HI0);(case side2 => exact u4_ HB HI0);rintro e w45 ⟨rfl,hi,hb,hk⟩;refine ⟨_,rfl,?_⟩;have n0_:=mk_ (Kd.S_mono (Kd.S_keep (IsS68.apartS (show IsS68 w0 _ g s0_0 t489 from u2_ HI0) (by (with_reducible repeat (first|apply Kd.S_alloc|apply Kd.S_drewN|apply Kd.S_drew));exact HO475.out) (by decide)) hk (fun _ h => h.2)) (fun _ h => h.1));have n1_:=mk_ (rm_ (Kd.R_keep (IsS68.apart (show IsS68 w0 _ g s0_0 t489 from u2_ HI0) (qr_ HO479) (by decide)) hk (fun _ h => h.2)) (fun _ h => h.1));have n2_:=mk_ (rm_ (Kd.R_keep (IsS68.apart (show IsS68 w0 _ g s0_0 t489 from u2_ HI0) (qr_ HO484) (by decide)) hk (fun _ h => h.2)) (fun _ h => h.1));have n3_:=mk_ (rm_ (Kd.R_keep (IsS68.apart (show IsS68 w0 _ g s0_0 t489 from u2_ HI0) (qr_ HO488) (by decide)) hk (fun _ h => h.2)) (fun _ h => h.1));have n4_:=mk_ (KeepBut.trans (u3_ HK) hk (.inl rfl));have n5_:=mk_ (hb);have n6_:=mk_ (hi);clear HO475 HO479 HO484 HO488 HK HB HI0;have HO475:=n0_;have HO479:=n1_;have HO484:=n2_;have HO488:=n3_;have HK:=n4_;have HB:=n5_;have HI0:=n6_;clear n0_ n1_ n2_ n3_ n4_ n5_ n6_;(try clear hb);(try clear hb2);(try clear hk);(try clear hi))|((with_reducible refine gate_builtin (b:=.append) (xs:=#[.tmp 34,.tmp 35]) rfl ?_);at_builtin;refine Kd.R_append (Kd.int .i64) w.heap.size rfl (.tmp 34) (.tmp 35) 24 3 (.int .i64 0) 8 rfl Try.underlying24 info3 rfl (by decide) (by omega) v483 t482 7 [.int .i64 7] (fun k_ => some k_ ≠ (.slice Ao41 y477.length co41 : Value).ownBlock ∧ some k_ ≠ (v487 : Value).ownBlock) (fun _ => False) rfl rfl ?aP (fun _ hk => hk.elim) ?aF ?aO (Below.refl _ _) ?aS ?aL ?_;(case aP => exact rfl);(case aF => exact (fun k_ hk => ⟨Kd.fresh' (Kd.R_lt (qr_ HO479)) k_ hk,Kd.fresh' (Kd.R_lt (qr_ HO488)) k_ hk⟩));(case aO => exact (by (with_reducible repeat (first|apply ra_|apply rn_|apply rd_));exact rm_ HO484.out (fun _ hk => ⟨hk.1.2,hk.2⟩)));(case aS => exact (keep_size (w:=w) (g:=g) (row:=none) (u3_ HK)));(case aL => have:=LMc37.out;omega);intro v504 w46 ho hb hg hat;rw [← Ny503.out] at ho;have n0_:=mk_ (IsS68.grown (u2_ HI0) hg (IsS68.own_ne HI0.out HO484.out (by decide)));have n1_:=mk_ (Kd.S_over' (by (with_reducible repeat (first|apply Kd.S_alloc|apply Kd.S_drewN|apply Kd.S_drew));exact HO475.out) (Kd.R_typed (qr_ HO484)) (by decide) hg);have n2_:=mk_ (Kd.R_after (ok:=(fun k_ => some k_ ≠ (v487 : Value).ownBlock)) (by (with_reducible repeat (first|apply ra_|apply rn_|apply rd_));exact rm_ HO479.out (fun _ hk => ⟨hk.2,hk.1.2⟩)) hg hat);have n3_:=mk_ (Kd.R_after (ok:=(fun k_ => some k_ ≠ (.slice Ao41 y477.length co41 : Value).ownBlock)) (by (with_reducible repeat (first|apply ra_|apply rn_|apply rd_));exact rm_ HO488.out (fun _ hk => ⟨hk.1.2,hk.2⟩)) hg hat);have n4_:=mk_ (below_weaken (u4_ HB HI0) HL.out hb);have n5_:=mk_ (KeepBut.trans (u3_ HK) (KeepBut.of_grown hg g) (Kd.R_base2 HO484.out));have n6_:=mk_ (ho);clear HI0 HO475 HO479 HO488 HB HK HO484;have HI0:=n0_;have HO475:=n1_;have HO479:=n2_;have HO488:=n3_;have HB:=n4_;have HK:=n5_;have HO505:=n6_;clear n0_ n1_ n2_ n3_ n4_ n5_ n6_ ho hb hg hat))
     refine bodyPost_ret (results_list (rs:=[.tmp 2,.tmp 3,.tmp 4,.tmp 5]) rfl (by simp) (.tmp (.tmp (.tmp (.tmp .nil))))) rfl ?_
     exact ⟨_,_,_,qe_,by (with_reducible repeat (first|apply Kd.S_alloc|apply Kd.S_drewN|apply Kd.S_drew));exact HO475.out,by (with_reducible repeat (first|apply ra_|apply rn_|apply rd_));exact rm_ HO505.out (λ_ h=>h.2),by (with_reducible repeat (first|apply ra_|apply rn_|apply rd_));exact rm_ HO488.out (λ_ h=>h.2),u2_ HI0,u4_ HB HI0,u3_ HK⟩
    ·rw [if_neg c37] at H
     exact absurd H (by simp)
   ·rw [if_neg c36] at H
    have c36b0 : (t490 == 2) = false:=beq_eq_false_iff_ne.mpr c36
    have c36b1 : (t490 != 2) = true:=bne_iff_ne.mpr c36
    by_cases c47 : t490 = 3
    ·rw [if_pos c47] at H
     have c47b0 : (t490 == 3) = true:=beq_iff_eq.mpr c47
     have c47b1 : (t490 != 3) = false:=bne_eq_false_iff_eq.mpr c47
     clear c47
     by_cases c48 : t486.length < 17592186044416
     ·rw [if_pos c48] at H
      have LMc48:=mk_ c48
      clear c48
      obtain ⟨y506,hy506⟩ : ∃ y_ : List Int,y_ = (t486 ++ [(-1)]):=⟨_,rfl⟩
      replace H : (some (t480,t473,t482,y506,t491)) = some (r1,r2,r3,r4,r5):=by first|(rw [hy506];with_reducible exact H)|(have H2_:=(Option.bind_some _ _).symm.trans H;rw [hy506];with_reducible exact H2_)|(have H2_:=(Option.bind_some _ _).symm.trans H;with_reducible exact H2_)|with_reducible exact H|(rw [hy506];exact H)|exact H
      have Ny506:=mk_ hy506
      clear hy506
      simp only [Option.some.injEq,Prod.mk.injEq] at H
      obtain ⟨rfl,rfl,rfl,rfl,rfl⟩:=H
      go_enter Try.func29,Try.ntmps29
      go_wp2_with (first|((with_reducible refine gate_callee (f:=47) rfl ?_);refine goesL_ (some 11) rfl rfl Try.func47 (by kernel_rfl) rfl #[.pointer (some ⟨g,0,none⟩)] rfl qm_ ?_;(with_reducible refine (spec_l4Sent.calls k g s0_0 s0_1 t473 t476 w0 _ ?side1 ?side2 A2.out).mono ?_);(case side1 => exact u2_ HI0);(case side2 => exact u4_ HB HI0);rintro e w49 ⟨v474,rfl,ho0,hi,hb,hk⟩;refine ⟨_,rfl,?_⟩;have n0_:=mk_ (Kd.S_lower ho0 (keep_size (w:=w) (g:=g) (row:=none) (u3_ HK)));have n1_:=mk_ (KeepBut.trans (u3_ HK) hk (.inl rfl));have n2_:=mk_ (hb);have n3_:=mk_ (hi);clear HK HB HI0;have HO475:=n0_;have HK:=n1_;have HB:=n2_;have HI0:=n3_;clear n0_ n1_ n2_ n3_;(try clear hb);(try clear hb2);(try clear hk);(try clear hi);(try clear ho0))|((with_reducible refine gate_dst (N:=13) rfl ?_);refine Kd.R_lit (Kd.int .i64) _ 3 ?hg (N:=13) ?hd (xs:=([4,1,2,8,3] : List Int)) (inner:=[.int .i64 4,.int .i64 1,.int .i64 2,.int .i64 8,.int .i64 3]) (ok:=fun _ => True) (okp:=fun _ => True) ?hr ?hp (fun _ hk => hk) trivial (Below.refl _ _) (Nat.le_refl _) (by simp) ?_;(case hd => rfl);(case hg => rfl);(case hr => first|(go_simp;done)|(go_simp;rfl));(case hp => exact (Reps.one (show Kd.M (Kd.int .i64) _ _ _ 4 [.int .i64 4] from rfl) (Reps.one (show Kd.M (Kd.int .i64) _ _ _ 1 [.int .i64 1] from rfl) (Reps.one (show Kd.M (Kd.int .i64) _ _ _ 2 [.int .i64 2] from rfl) (Reps.one (show Kd.M (Kd.int .i64) _ _ _ 8 [.int .i64 8] from rfl) (Reps.one (show Kd.M (Kd.int .i64) _ _ _ 3 [.int .i64 3] from rfl) (Reps.none _ _)))))));intro v478 w50 ho51 hb hg_ hnew_;clear hg_ hnew_;(first|rw [← Ny477.out] at ho51|(simp only [Int.reduceToNat] at ho51;rw [← Ny477.out] at ho51));have n0_:=mk_ (Kd.S_below (by (with_reducible repeat (first|apply Kd.S_alloc|apply Kd.S_drewN|apply Kd.S_drew));exact HO475.out) hb);have n1_:=mk_ (Kd.R_lower ho51 (keep_size (w:=w) (g:=g) (row:=none) (u3_ HK)));have n2_:=mk_ (IsS68.below (u2_ HI0) hb);have n3_:=mk_ (KeepBut.trans (u3_ HK) (KeepBut.of_below hb g none) (.inl rfl));have n4_:=mk_ (st_ (u4_ HB HI0) hb);clear HO475 HI0 HK HB;have HO475:=n0_;have HO479:=n1_;have HI0:=n2_;have HK:=n3_;have HB:=n4_;clear n0_ n1_ n2_ n3_ n4_ hb ho51;obtain ⟨Ao52,co52,eo52⟩:=Kd.R_slice HO479.out;subst eo52)|((with_reducible refine gate_callee (f:=41) rfl ?_);refine goesL_ (some 14) rfl rfl Try.func41 (by kernel_rfl) rfl #[.pointer (some ⟨g,0,none⟩),.slice Ao52 y477.length co52] rfl qm_ ?_;(with_reducible refine (spec_l21Rd_num.calls k g s0_0 t476 _ _ y477 t480 t481 w0 _ ?side1 ?side2 ?side3 ?side4 ?side5 A3.out).mono ?_);(case side1 => exact u2_ HI0);(case side2 => exact u4_ HB HI0);(case side3 => repeat (first|exact (rr_ HO479.out).2.2|(with_reducible refine ca_ ?_ _)|(with_reducible refine cn_ ?_ _)|(with_reducible refine cd_ ?_)));(case side4 => exact (rr_ HO479.out).2.1);(case side5 => exact far_slice (IsS68.own_ne HI0.out HO479.out (by decide)));rintro e w53 ⟨rfl,hi,hb,hk⟩;refine ⟨_,rfl,?_⟩;have n0_:=mk_ (Kd.S_mono (Kd.S_keep (IsS68.apartS (show IsS68 w0 _ g s0_0 t476 from u2_ HI0) (by (with_reducible repeat (first|apply Kd.S_alloc|apply Kd.S_drewN|apply Kd.S_drew));exact HO475.out) (by decide)) hk (fun _ h => h.2)) (fun _ h => h.1));have n1_:=mk_ (rm_ (Kd.R_keep (IsS68.apart (show IsS68 w0 _ g s0_0 t476 from u2_ HI0) (qr_ HO479) (by decide)) hk (fun _ h => h.2)) (fun _ h => h.1));have n2_:=mk_ (KeepBut.trans (u3_ HK) hk (.inl rfl));have n3_:=mk_ (hb);have n4_:=mk_ (hi);clear HO475 HO479 HK HB HI0;have HO475:=n0_;have HO479:=n1_;have HK:=n2_;have HB:=n3_;have HI0:=n4_;clear n0_ n1_ n2_ n3_ n4_;(try clear hb);(try clear hb2);(try clear hk);(try clear hi))|((with_reducible refine gate_callee (f:=48) rfl ?_);refine goesL_ (some 16) rfl rfl Try.func48 (by kernel_rfl) rfl #[.pointer (some ⟨g,0,none⟩)] rfl qm_ ?_;(with_reducible refine (spec_l4Fates.calls k g s0_0 t481 t482 t485 w0 _ ?side1 ?side2 A4.out).mono ?_);(case side1 => exact u2_ HI0);(case side2 => exact u4_ HB HI0);rintro e w54 ⟨v483,rfl,ho0,hi,hb,hk⟩;refine ⟨_,rfl,?_⟩;have n0_:=mk_ (Kd.S_mono (Kd.S_keep (IsS68.apartS (show IsS68 w0 _ g s0_0 t481 from u2_ HI0) (by (with_reducible repeat (first|apply Kd.S_alloc|apply Kd.S_drewN|apply Kd.S_drew));exact HO475.out) (by decide)) hk (fun _ h => h.2)) (fun _ h => h.1));have n1_:=mk_ (rm_ (Kd.R_told (Kd.R_oldK (IsS68.apart (show IsS68 w0 _ g s0_0 t481 from u2_ HI0) (qr_ HO479) (by decide)) hk) (Kd.R_base ho0)) (λ_ h=>h.1));have n2_:=mk_ (Kd.R_lower (Kd.R_new' ho0 (Kd.R_lt (qr_ HO479))) (keep_size (w:=w) (g:=g) (row:=none) (u3_ HK)));have n3_:=mk_ (KeepBut.trans (u3_ HK) hk (.inl rfl));have n4_:=mk_ (hb);have n5_:=mk_ (hi);clear HO475 HO479 HK HB HI0;have HO475:=n0_;have HO479:=n1_;have HO484:=n2_;have HK:=n3_;have HB:=n4_;have HI0:=n5_;clear n0_ n1_ n2_ n3_ n4_ n5_;(try clear hb);(try clear hb2);(try clear hk);(try clear hi);(try clear ho0))|((with_reducible refine gate_callee (f:=48) rfl ?_);refine goesL_ (some 18) rfl rfl Try.func48 (by kernel_rfl) rfl #[.pointer (some ⟨g,0,none⟩)] rfl qm_ ?_;(with_reducible refine (spec_l4Fates.calls k g s0_0 t485 t486 t489 w0 _ ?side1 ?side2 A5.out).mono ?_);(case side1 => exact u2_ HI0);(case side2 => exact u4_ HB HI0);rintro e w55 ⟨v487,rfl,ho0,hi,hb,hk⟩;refine ⟨_,rfl,?_⟩;have n0_:=mk_ (Kd.S_mono (Kd.S_keep (IsS68.apartS (show IsS68 w0 _ g s0_0 t485 from u2_ HI0) (by (with_reducible repeat (first|apply Kd.S_alloc|apply Kd.S_drewN|apply Kd.S_drew));exact HO475.out) (by decide)) hk (fun _ h => h.2)) (fun _ h => h.1));have n1_:=mk_ (rm_ (Kd.R_told (Kd.R_oldK (IsS68.apart (show IsS68 w0 _ g s0_0 t485 from u2_ HI0) (qr_ HO479) (by decide)) hk) (Kd.R_base ho0)) (λ_ h=>h.1));have n2_:=mk_ (rm_ (Kd.R_told (Kd.R_oldK (IsS68.apart (show IsS68 w0 _ g s0_0 t485 from u2_ HI0) (qr_ HO484) (by decide)) hk) (Kd.R_base ho0)) (λ_ h=>h.1));have n3_:=mk_ (Kd.R_lower (Kd.R_new' (Kd.R_new' ho0 (Kd.R_lt (qr_ HO479))) (Kd.R_lt (qr_ HO484))) (keep_size (w:=w) (g:=g) (row:=none) (u3_ HK)));have n4_:=mk_ (KeepBut.trans (u3_ HK) hk (.inl rfl));have n5_:=mk_ (hb);have n6_:=mk_ (hi);clear HO475 HO479 HO484 HK HB HI0;have HO475:=n0_;have HO479:=n1_;have HO484:=n2_;have HO488:=n3_;have HK:=n4_;have HB:=n5_;have HI0:=n6_;clear n0_ n1_ n2_ n3_ n4_ n5_ n6_;(try clear hb);(try clear hb2);(try clear hk);(try clear hi);(try clear ho0))|((with_reducible refine gate_callee (f:=49) rfl ?_);refine goesL_ (some 20) rfl rfl Try.func49 (by kernel_rfl) rfl #[.pointer (some ⟨g,0,none⟩),.int .i64 48] rfl qm_ ?_;(with_reducible refine (spec_l21Rd_pick.calls k g s0_0 t489 48 t490 t491 w0 _ ?side1 ?side2 A6.out).mono ?_);(case side1 => exact u2_ HI0);(case side2 => exact u4_ HB HI0);rintro e w56 ⟨rfl,hi,hb,hk⟩;refine ⟨_,rfl,?_⟩;have n0_:=mk_ (Kd.S_mono (Kd.S_keep (IsS68.apartS (show IsS68 w0 _ g s0_0 t489 from u2_ HI0) (by (with_reducible repeat (first|apply Kd.S_alloc|apply Kd.S_drewN|apply Kd.S_drew));exact HO475.out) (by decide)) hk (fun _ h => h.2)) (fun _ h => h.1));have n1_:=mk_ (rm_ (Kd.R_keep (IsS68.apart (show IsS68 w0 _ g s0_0 t489 from u2_ HI0) (qr_ HO479) (by decide)) hk (fun _ h => h.2)) (fun _ h => h.1));have n2_:=mk_ (rm_ (Kd.R_keep (IsS68.apart (show IsS68 w0 _ g s0_0 t489 from u2_ HI0) (qr_ HO484) (by decide)) hk (fun _ h => h.2)) (fun _ h => h.1));have n3_:=mk_ (rm_ (Kd.R_keep (IsS68.apart (show IsS68 w0 _ g s0_0 t489 from u2_ HI0) (qr_ HO488) (by decide)) hk (fun _ h => h.2)) (fun _ h => h.1));have n4_:=mk_ (KeepBut.trans (u3_ HK) hk (.inl rfl));have n5_:=mk_ (hb);have n6_:=mk_ (hi);clear HO475 HO479 HO484 HO488 HK HB HI0;have HO475:=n0_;have HO479:=n1_;have HO484:=n2_;have HO488:=n3_;have HK:=n4_;have HB:=n5_;have HI0:=n6_;clear n0_ n1_ n2_ n3_ n4_ n5_ n6_;(try clear hb);(try clear hb2);(try clear hk);(try clear hi))|((with_reducible refine gate_builtin (b:=.append) (xs:=#[.tmp 39,.tmp 40]) rfl ?_);at_builtin;refine Kd.R_append (Kd.int .i64) w.heap.size rfl (.tmp 39) (.tmp 40) 24 3 (.int .i64 0) 8 rfl Try.underlying24 info3 rfl (by decide) (by omega) v487 t486 (-1) [.int .i64 (-1)] (fun k_ => some k_ ≠ (.slice Ao52 y477.length co52 : Value).ownBlock ∧ some k_ ≠ (v483 : Value).ownBlock) (fun _ => False) rfl rfl ?aP (fun _ hk => hk.elim) ?aF ?aO (Below.refl _ _) ?aS ?aL ?_;(case aP => exact rfl);(case aF => exact (fun k_ hk => ⟨Kd.fresh' (Kd.R_lt (qr_ HO479)) k_ hk,Kd.fresh' (Kd.R_lt (qr_ HO484)) k_ hk⟩));(case aO => exact (by (with_reducible repeat (first|apply ra_|apply rn_|apply rd_));exact rm_ HO488.out (fun _ hk => ⟨hk.1.2,hk.2⟩)));(case aS => exact (keep_size (w:=w) (g:=g) (row:=none) (u3_ HK)));(case aL => have:=LMc48.out;omega);intro v507 w57 ho hb hg hat;rw [← Ny506.out] at ho;have n0_:=mk_ (IsS68.grown (u2_ HI0) hg (IsS68.own_ne HI0.out HO488.out (by decide)));have n1_:=mk_ (Kd.S_over' (by (with_reducible repeat (first|apply Kd.S_alloc|apply Kd.S_drewN|apply Kd.S_drew));exact HO475.out) (Kd.R_typed (qr_ HO488)) (by decide) hg);have n2_:=mk_ (Kd.R_after (ok:=(fun k_ => some k_ ≠ (v483 : Value).ownBlock)) (by (with_reducible repeat (first|apply ra_|apply rn_|apply rd_));exact rm_ HO479.out (fun _ hk => ⟨hk.1.2,hk.2⟩)) hg hat);have n3_:=mk_ (Kd.R_after (ok:=(fun k_ => some k_ ≠ (.slice Ao52 y477.length co52 : Value).ownBlock)) (by (with_reducible repeat (first|apply ra_|apply rn_|apply rd_));exact rm_ HO484.out (fun _ hk => ⟨hk.1.2,hk.2⟩)) hg hat);have n4_:=mk_ (below_weaken (u4_ HB HI0) HL.out hb);have n5_:=mk_ (KeepBut.trans (u3_ HK) (KeepBut.of_grown hg g) (Kd.R_base2 HO488.out));have n6_:=mk_ (ho);clear HI0 HO475 HO479 HO484 HB HK HO488;have HI0:=n0_;have HO475:=n1_;have HO479:=n2_;have HO484:=n3_;have HB:=n4_;have HK:=n5_;have HO508:=n6_;clear n0_ n1_ n2_ n3_ n4_ n5_ n6_ ho hb hg hat))
      refine bodyPost_ret (results_list (rs:=[.tmp 2,.tmp 3,.tmp 4,.tmp 5]) rfl (by simp) (.tmp (.tmp (.tmp (.tmp .nil))))) rfl ?_
      exact ⟨_,_,_,qe_,by (with_reducible repeat (first|apply Kd.S_alloc|apply Kd.S_drewN|apply Kd.S_drew));exact HO475.out,by (with_reducible repeat (first|apply ra_|apply rn_|apply rd_));exact rm_ HO484.out (λ_ h=>h.2),by (with_reducible repeat (first|apply ra_|apply rn_|apply rd_));exact rm_ HO508.out (λ_ h=>h.2),u2_ HI0,u4_ HB HI0,u3_ HK⟩
     ·rw [if_neg c48] at H
      exact absurd H (by simp)
    ·rw [if_neg c47] at H
     have c47b0 : (t490 == 3) = false:=beq_eq_false_iff_ne.mpr c47
     have c47b1 : (t490 != 3) = true:=bne_iff_ne.mpr c47
     simp only [Option.some.injEq,Prod.mk.injEq] at H
     obtain ⟨rfl,rfl,rfl,rfl,rfl⟩:=H
     go_enter Try.func29,Try.ntmps29
     go_wp2_with (first|((with_reducible refine gate_callee (f:=47) rfl ?_);refine goesL_ (some 11) rfl rfl Try.func47 (by kernel_rfl) rfl #[.pointer (some ⟨g,0,none⟩)] rfl qm_ ?_;(with_reducible refine (spec_l4Sent.calls k g s0_0 s0_1 t473 t476 w0 _ ?side1 ?side2 A2.out).mono ?_);(case side1 => exact u2_ HI0);(case side2 => exact u4_ HB HI0);rintro e w58 ⟨v474,rfl,ho0,hi,hb,hk⟩;refine ⟨_,rfl,?_⟩;have n0_:=mk_ (Kd.S_lower ho0 (keep_size (w:=w) (g:=g) (row:=none) (u3_ HK)));have n1_:=mk_ (KeepBut.trans (u3_ HK) hk (.inl rfl));have n2_:=mk_ (hb);have n3_:=mk_ (hi);clear HK HB HI0;have HO475:=n0_;have HK:=n1_;have HB:=n2_;have HI0:=n3_;clear n0_ n1_ n2_ n3_;(try clear hb);(try clear hb2);(try clear hk);(try clear hi);(try clear ho0))|((with_reducible refine gate_dst (N:=13) rfl ?_);refine Kd.R_lit (Kd.int .i64) _ 3 ?hg (N:=13) ?hd (xs:=([4,1,2,8,3] : List Int)) (inner:=[.int .i64 4,.int .i64 1,.int .i64 2,.int .i64 8,.int .i64 3]) (ok:=fun _ => True) (okp:=fun _ => True) ?hr ?hp (fun _ hk => hk) trivial (Below.refl _ _) (Nat.le_refl _) (by simp) ?_;(case hd => rfl);(case hg => rfl);(case hr => first|(go_simp;done)|(go_simp;rfl));(case hp => exact (Reps.one (show Kd.M (Kd.int .i64) _ _ _ 4 [.int .i64 4] from rfl) (Reps.one (show Kd.M (Kd.int .i64) _ _ _ 1 [.int .i64 1] from rfl) (Reps.one (show Kd.M (Kd.int .i64) _ _ _ 2 [.int .i64 2] from rfl) (Reps.one (show Kd.M (Kd.int .i64) _ _ _ 8 [.int .i64 8] from rfl) (Reps.one (show Kd.M (Kd.int .i64) _ _ _ 3 [.int .i64 3] from rfl) (Reps.none _ _)))))));intro v478 w59 ho60 hb hg_ hnew_;clear hg_ hnew_;(first|rw [← Ny477.out] at ho60|(simp only [Int.reduceToNat] at ho60;rw [← Ny477.out] at ho60));have n0_:=mk_ (Kd.S_below (by (with_reducible repeat (first|apply Kd.S_alloc|apply Kd.S_drewN|apply Kd.S_drew));exact HO475.out) hb);have n1_:=mk_ (Kd.R_lower ho60 (keep_size (w:=w) (g:=g) (row:=none) (u3_ HK)));have n2_:=mk_ (IsS68.below (u2_ HI0) hb);have n3_:=mk_ (KeepBut.trans (u3_ HK) (KeepBut.of_below hb g none) (.inl rfl));have n4_:=mk_ (st_ (u4_ HB HI0) hb);clear HO475 HI0 HK HB;have HO475:=n0_;have HO479:=n1_;have HI0:=n2_;have HK:=n3_;have HB:=n4_;clear n0_ n1_ n2_ n3_ n4_ hb ho60;obtain ⟨Ao61,co61,eo61⟩:=Kd.R_slice HO479.out;subst eo61)|((with_reducible refine gate_callee (f:=41) rfl ?_);refine goesL_ (some 14) rfl rfl Try.func41 (by kernel_rfl) rfl #[.pointer (some ⟨g,0,none⟩),.slice Ao61 y477.length co61] rfl qm_ ?_;(with_reducible refine (spec_l21Rd_num.calls k g s0_0 t476 _ _ y477 t480 t481 w0 _ ?side1 ?side2 ?side3 ?side4 ?side5 A3.out).mono ?_);(case side1 => exact u2_ HI0);(case side2 => exact u4_ HB HI0);(case side3 => repeat (first|exact (rr_ HO479.out).2.2|(with_reducible refine ca_ ?_ _)|(with_reducible refine cn_ ?_ _)|(with_reducible refine cd_ ?_)));(case side4 => exact (rr_ HO479.out).2.1);(case side5 => exact far_slice (IsS68.own_ne HI0.out HO479.out (by decide)));rintro e w62 ⟨rfl,hi,hb,hk⟩;refine ⟨_,rfl,?_⟩;have n0_:=mk_ (Kd.S_mono (Kd.S_keep (IsS68.apartS (show IsS68 w0 _ g s0_0 t476 from u2_ HI0) (by (with_reducible repeat (first|apply Kd.S_alloc|apply Kd.S_drewN|apply Kd.S_drew));exact HO475.out) (by decide)) hk (fun _ h => h.2)) (fun _ h => h.1));have n1_:=mk_ (rm_ (Kd.R_keep (IsS68.apart (show IsS68 w0 _ g s0_0 t476 from u2_ HI0) (qr_ HO479) (by decide)) hk (fun _ h => h.2)) (fun _ h => h.1));have n2_:=mk_ (KeepBut.trans (u3_ HK) hk (.inl rfl));have n3_:=mk_ (hb);have n4_:=mk_ (hi);clear HO475 HO479 HK HB HI0;have HO475:=n0_;have HO479:=n1_;have HK:=n2_;have HB:=n3_;have HI0:=n4_;clear n0_ n1_ n2_ n3_ n4_;(try clear hb);(try clear hb2);(try clear hk);(try clear hi))|((with_reducible refine gate_callee (f:=48) rfl ?_);refine goesL_ (some 16) rfl rfl Try.func48 (by kernel_rfl) rfl #[.pointer (some ⟨g,0,none⟩)] rfl qm_ ?_;(with_reducible refine (spec_l4Fates.calls k g s0_0 t481 t482 t485 w0 _ ?side1 ?side2 A4.out).mono ?_);(case side1 => exact u2_ HI0);(case side2 => exact u4_ HB HI0);rintro e w63 ⟨v483,rfl,ho0,hi,hb,hk⟩;refine ⟨_,rfl,?_⟩;have n0_:=mk_ (Kd.S_mono (Kd.S_keep (IsS68.apartS (show IsS68 w0 _ g s0_0 t481 from u2_ HI0) (by (with_reducible repeat (first|apply Kd.S_alloc|apply Kd.S_drewN|apply Kd.S_drew));exact HO475.out) (by decide)) hk (fun _ h => h.2)) (fun _ h => h.1));have n1_:=mk_ (rm_ (Kd.R_told (Kd.R_oldK (IsS68.apart (show IsS68 w0 _ g s0_0 t481 from u2_ HI0) (qr_ HO479) (by decide)) hk) (Kd.R_base ho0)) (λ_ h=>h.1));have n2_:=mk_ (Kd.R_lower (Kd.R_new' ho0 (Kd.R_lt (qr_ HO479))) (keep_size (w:=w) (g:=g) (row:=none) (u3_ HK)));have n3_:=mk_ (KeepBut.trans (u3_ HK) hk (.inl rfl));have n4_:=mk_ (hb);have n5_:=mk_ (hi);clear HO475 HO479 HK HB HI0;have HO475:=n0_;have HO479:=n1_;have HO484:=n2_;have HK:=n3_;have HB:=n4_;have HI0:=n5_;clear n0_ n1_ n2_ n3_ n4_ n5_;(try clear hb);(try clear hb2);(try clear hk);(try clear hi);(try clear ho0))|((with_reducible refine gate_callee (f:=48) rfl ?_);refine goesL_ (some 18) rfl rfl Try.func48 (by kernel_rfl) rfl #[.pointer (some ⟨g,0,none⟩)] rfl qm_ ?_;(with_reducible refine (spec_l4Fates.calls k g s0_0 t485 t486 t489 w0 _ ?side1 ?side2 A5.out).mono ?_);(case side1 => exact u2_ HI0);(case side2 => exact u4_ HB HI0);rintro e w64 ⟨v487,rfl,ho0,hi,hb,hk⟩;refine ⟨_,rfl,?_⟩;have n0_:=mk_ (Kd.S_mono (Kd.S_keep (IsS68.apartS (show IsS68 w0 _ g s0_0 t485 from u2_ HI0) (by (with_reducible repeat (first|apply Kd.S_alloc|apply Kd.S_drewN|apply Kd.S_drew));exact HO475.out) (by decide)) hk (fun _ h => h.2)) (fun _ h => h.1));have n1_:=mk_ (rm_ (Kd.R_told (Kd.R_oldK (IsS68.apart (show IsS68 w0 _ g s0_0 t485 from u2_ HI0) (qr_ HO479) (by decide)) hk) (Kd.R_base ho0)) (λ_ h=>h.1));have n2_:=mk_ (rm_ (Kd.R_told (Kd.R_oldK (IsS68.apart (show IsS68 w0 _ g s0_0 t485 from u2_ HI0) (qr_ HO484) (by decide)) hk) (Kd.R_base ho0)) (λ_ h=>h.1));have n3_:=mk_ (Kd.R_lower (Kd.R_new' (Kd.R_new' ho0 (Kd.R_lt (qr_ HO479))) (Kd.R_lt (qr_ HO484))) (keep_size (w:=w) (g:=g) (row:=none) (u3_ HK)));have n4_:=mk_ (KeepBut.trans (u3_ HK) hk (.inl rfl));have n5_:=mk_ (hb);have n6_:=mk_ (hi);clear HO475 HO479 HO484 HK HB HI0;have HO475:=n0_;have HO479:=n1_;have HO484:=n2_;have HO488:=n3_;have HK:=n4_;have HB:=n5_;have HI0:=n6_;clear n0_ n1_ n2_ n3_ n4_ n5_ n6_;(try clear hb);(try clear hb2);(try clear hk);(try clear hi);(try clear ho0))|((with_reducible refine gate_callee (f:=49) rfl ?_);refine goesL_ (some 20) rfl rfl Try.func49 (by kernel_rfl) rfl #[.pointer (some ⟨g,0,none⟩),.int .i64 48] rfl qm_ ?_;(with_reducible refine (spec_l21Rd_pick.calls k g s0_0 t489 48 t490 t491 w0 _ ?side1 ?side2 A6.out).mono ?_);(case side1 => exact u2_ HI0);(case side2 => exact u4_ HB HI0);rintro e w65 ⟨rfl,hi,hb,hk⟩;refine ⟨_,rfl,?_⟩;have n0_:=mk_ (Kd.S_mono (Kd.S_keep (IsS68.apartS (show IsS68 w0 _ g s0_0 t489 from u2_ HI0) (by (with_reducible repeat (first|apply Kd.S_alloc|apply Kd.S_drewN|apply Kd.S_drew));exact HO475.out) (by decide)) hk (fun _ h => h.2)) (fun _ h => h.1));have n1_:=mk_ (rm_ (Kd.R_keep (IsS68.apart (show IsS68 w0 _ g s0_0 t489 from u2_ HI0) (qr_ HO479) (by decide)) hk (fun _ h => h.2)) (fun _ h => h.1));have n2_:=mk_ (rm_ (Kd.R_keep (IsS68.apart (show IsS68 w0 _ g s0_0 t489 from u2_ HI0) (qr_ HO484) (by decide)) hk (fun _ h => h.2)) (fun _ h => h.1));have n3_:=mk_ (rm_ (Kd.R_keep (IsS68.apart (show IsS68 w0 _ g s0_0 t489 from u2_ HI0) (qr_ HO488) (by decide)) hk (fun _ h => h.2)) (fun _ h => h.1));have n4_:=mk_ (KeepBut.trans (u3_ HK) hk (.inl rfl));have n5_:=mk_ (hb);have n6_:=mk_ (hi);clear HO475 HO479 HO484 HO488 HK HB HI0;have HO475:=n0_;have HO479:=n1_;have HO484:=n2_;have HO488:=n3_;have HK:=n4_;have HB:=n5_;have HI0:=n6_;clear n0_ n1_ n2_ n3_ n4_ n5_ n6_;(try clear hb);(try clear hb2);(try clear hk);(try clear hi)))
     refine bodyPost_ret (results_list (rs:=[.tmp 2,.tmp 3,.tmp 4,.tmp 5]) rfl (by simp) (.tmp (.tmp (.tmp (.tmp .nil))))) rfl ?_
     exact ⟨_,_,_,qe_,by (with_reducible repeat (first|apply Kd.S_alloc|apply Kd.S_drewN|apply Kd.S_drew));exact HO475.out,by (with_reducible repeat (first|apply ra_|apply rn_|apply rd_));exact rm_ HO484.out (λ_ h=>h.2),by (with_reducible repeat (first|apply ra_|apply rn_|apply rd_));exact rm_ HO488.out (λ_ h=>h.2),u2_ HI0,u4_ HB HI0,u3_ HK⟩

/-! ### spec_l21Open: function 30 -/
def spec_l21Open.f (l0 : List Int) : Option (List Int × Int):=if (l0.length : Int) > 2000 then (if 2000 ≤ (l0.length : Int) then (some (l0.take 2000,0)) else (none)) else (some (l0,0))
set_option maxHeartbeats 8000000 in
set_option maxRecDepth 100000 in
theorem spec_l21Open.calls (A0 : Option Addr) (c0 : Nat) (l0 : List Int) (r1 : List Int) (r2 : Int) (w0 w : World) (hB : Below w0.heap.size w0 w) (hr0 : Kd.C (Kd.int .u8) w0 A0 l0.length l0) (hc0 : l0.length ≤ c0) (h : spec_l21Open.f l0 = some (r1,r2)) :
  Calls Try.prog 30 #[.slice A0 l0.length c0] w fun e w' => ∃ g_ : Nat,e = .returned (.pointer (some ⟨g_,0,none⟩)) ∧ IsS68 w0 w' g_ r1 r2 ∧ Below w0.heap.size w0 w' ∧ Below w.heap.size w w':=by
 have hu68:=Try.underlying68
 have HR0:=mk_ hr0
 have HC0:=mk_ hc0
 clear hr0 hc0
 have HBW:=mk_ (Below.refl w.heap.size w)
 have HW0:=mk_ hB.size
 have HB:=mk_ hB
 clear hB
 have H : (if (l0.length : Int) > 2000 then (if 2000 ≤ (l0.length : Int) then (some (l0.take 2000,0)) else (none)) else (some (l0,0))) = some (r1,r2):=h
 clear h
 by_cases c2 : (l0.length : Int) > 2000
 ·rw [if_pos c2] at H
  have c2b0 : decide (2000 < (l0.length : Int)) = true:=decide_eq_true c2
  have c2b1 : decide (2000 < l0.length) = true:=decide_eq_true (by omega)
  clear c2
  by_cases c3 : 2000 ≤ (l0.length : Int)
  ·rw [if_pos c3] at H
   have c3b0:=eq_true c3
   have c3b1 : decide (2000 ≤ (l0.length : Int)) = true:=decide_eq_true c3
   clear c3
   simp only [Option.some.injEq,Prod.mk.injEq] at H
   obtain ⟨rfl,rfl⟩:=H
   obtain ⟨i04,hi04,_,hsz4,_⟩:=info_parts info5
   obtain ⟨hcut4,hA4,hC4⟩:=print_take_of (P:=Try.prog) (Value.int .u8) 0 22 5 .i64 Try.underlying22 hi04 hsz4 A0 c0 l0 2000 (by omega) (od_ qa_) HC0.out
   have HR509:=mk_ (Kd.C_of_reads (h1:=fun _ => rfl) (hA4 _ (Kd.reads_of_C HR0.out)))
   have HC509:=mk_ hC4
   clear hA4 hC4 hi04 hsz4
   go_enter Try.func30,Try.ntmps30
   go_wp2_with (first|((with_reducible refine gate_dst (N:=10) rfl ?_);refine box_event ?hg (N:=10) ?hd (cs:=#[.slice A0 (l0.take 2000).length c0,.int .i64 0]) (t:=68) ?hr ?_;(case hd => rfl);(case hg => rfl);(case hr => first|(go_simp;done)|(go_simp;rfl));intro gb510 hg w5 hbox hb;have n0_:=mk_ (st_ HBW.out hb);have n1_:=mk_ (st_ (qb_ HB) hb);have n2_:=mk_ (hbox);have n3_:=mk_ ((by rw [hg];exact (bz_ (u0_ HBW)) : w.heap.size ≤ gb510));have n4_:=mk_ ((Nat.le_trans HW0.out (by rw [hg];exact (bz_ (u0_ HBW)) : w.heap.size ≤ gb510) : w0.heap.size ≤ gb510));clear HBW HB;have HBW:=n0_;have HB:=n1_;have BK510:=n2_;have GW510:=n3_;have GE510:=n4_;clear n0_ n1_ n2_ n3_ n4_ hb hbox hg))
   go_ret
   exact ⟨_,rfl,(show IsS68 w0 _ gb510 (l0.take 2000) 0 from ⟨_,_,qk_ BK510,GE510.out,HR509.out⟩),u1_ HB GE510,u1_ HBW GW510⟩
  ·rw [if_neg c3] at H
   exact absurd H (by simp)
 ·rw [if_neg c2] at H
  have c2b0 : decide (2000 < (l0.length : Int)) = false:=decide_eq_false c2
  have c2b1 : decide (2000 < l0.length) = false:=decide_eq_false (by omega)
  clear c2
  simp only [Option.some.injEq,Prod.mk.injEq] at H
  obtain ⟨rfl,rfl⟩:=H
  go_enter Try.func30,Try.ntmps30
  go_wp2_with (first|((with_reducible refine gate_dst (N:=10) rfl ?_);refine box_event ?hg (N:=10) ?hd (cs:=#[.slice A0 l0.length c0,.int .i64 0]) (t:=68) ?hr ?_;(case hd => rfl);(case hg => rfl);(case hr => first|(go_simp;done)|(go_simp;rfl));intro gb511 hg w6 hbox hb;have n0_:=mk_ (st_ HBW.out hb);have n1_:=mk_ (st_ (qb_ HB) hb);have n2_:=mk_ (hbox);have n3_:=mk_ ((by rw [hg];exact (bz_ (u0_ HBW)) : w.heap.size ≤ gb511));have n4_:=mk_ ((Nat.le_trans HW0.out (by rw [hg];exact (bz_ (u0_ HBW)) : w.heap.size ≤ gb511) : w0.heap.size ≤ gb511));clear HBW HB;have HBW:=n0_;have HB:=n1_;have BK511:=n2_;have GW511:=n3_;have GE511:=n4_;clear n0_ n1_ n2_ n3_ n4_ hb hbox hg))
  go_ret
  exact ⟨_,rfl,(show IsS68 w0 _ gb511 l0 0 from ⟨_,_,qk_ BK511,GE511.out,HR0.out⟩),u1_ HB GE511,u1_ HBW GW511⟩

/-! ### spec_DrawRunLink: function 19 -/
def spec_DrawRunLink.f (k : Nat) (l0 : List Int) : Option (Int × (List (List Int)) × List Int × List Int × Int):=(spec_l21Open.f l0).bind fun bt512 => ((spec_l5Draw.f k bt512.1 bt512.2).bind fun bt515 => ((spec_l21Rd_num.f k bt512.1 bt515.2.2.2.2 (([20,3,1,60,0,400,401,(-1)] : List Int))).bind fun bt529 => (some (bt515.1,bt515.2.1,bt515.2.2.1,bt515.2.2.2.1,bt529.1))))
theorem spec_DrawRunLink.mono : ∀ a0 k,LeO (spec_DrawRunLink.f k a0) (spec_DrawRunLink.f (k + 1) a0):=by
 intro a0 k
 unfold spec_DrawRunLink.f
 repeat' first
   | (with_reducible exact spec_l21Rd_num.mono _ _ _ _)
   | (with_reducible exact spec_l5Draw.mono _ _ _)
   | (with_reducible exact LeO.refl _)
   | (with_reducible exact LeO.none _)
   | (with_reducible refine LeO.ite ?_ ?_)
   | (with_reducible refine LeO.bind ?_ (fun _ => ?_))
   | exact spec_l21Rd_num.mono _ _ _ _
   | exact spec_l5Draw.mono _ _ _
   | exact LeO.none _
   | refine LeO.ite ?_ ?_
   | refine LeO.bind ?_ (fun _ => ?_)
set_option maxHeartbeats 8000000 in
set_option maxRecDepth 100000 in
theorem spec_DrawRunLink.calls (k : Nat) (A0 : Option Addr) (c0 : Nat) (l0 : List Int) (r1 : Int) (r2 : List (List Int)) (r3 : List Int) (r4 : List Int) (r5 : Int) (w : World) (hr0 : Kd.C (Kd.int .u8) w A0 l0.length l0) (hc0 : l0.length ≤ c0) (h : spec_DrawRunLink.f k l0 = some (r1,r2,r3,r4,r5)) :
  Calls Try.prog 19 #[.slice A0 l0.length c0] w fun e w' => ∃ v1_ v2_ v3_ : Value,e = .returned (.tuple #[.int .i64 r1,v1_,v2_,v3_,.int .i64 r5]) ∧ Kd.S (Kd.slice 5 (Kd.int .u8)) 22 w' w.heap.size (fun _ => True) v1_ r2 ∧ Kd.R (Kd.int .i64) 3 w' w.heap.size (fun k_ => some k_ ≠ (v3_ : Value).ownBlock) v2_ r3 ∧ Kd.R (Kd.int .i64) 3 w' w.heap.size (fun k_ => some k_ ≠ (v2_ : Value).ownBlock) v3_ r4 ∧ Below w.heap.size w w':=by
 have HR0:=mk_ hr0
 have HC0:=mk_ hc0
 clear hr0 hc0
 have HB:=mk_ (Below.refl w.heap.size w)
 have H : ((spec_l21Open.f l0).bind fun bt512 => ((spec_l5Draw.f k bt512.1 bt512.2).bind fun bt515 => ((spec_l21Rd_num.f k bt512.1 bt515.2.2.2.2 (([20,3,1,60,0,400,401,(-1)] : List Int))).bind fun bt529 => (some (bt515.1,bt515.2.1,bt515.2.2.1,bt515.2.2.2.1,bt529.1))))) = some (r1,r2,r3,r4,r5):=h
 clear h
 replace H:=Option.bind_eq_some_iff.mp H
 obtain ⟨⟨t512,t513⟩,A20,H⟩:=H
 replace H : ((spec_l5Draw.f k t512 t513).bind fun bt515 => ((spec_l21Rd_num.f k t512 bt515.2.2.2.2 (([20,3,1,60,0,400,401,(-1)] : List Int))).bind fun bt529 => (some (bt515.1,bt515.2.1,bt515.2.2.1,bt515.2.2.2.1,bt529.1)))) = some (r1,r2,r3,r4,r5):=H
 have A2:=mk_ A20
 clear A20
 replace H:=Option.bind_eq_some_iff.mp H
 obtain ⟨⟨t515,t516,t519,t522,t525⟩,A30,H⟩:=H
 replace H : ((spec_l21Rd_num.f k t512 t525 (([20,3,1,60,0,400,401,(-1)] : List Int))).bind fun bt529 => (some (t515,t516,t519,t522,bt529.1))) = some (r1,r2,r3,r4,r5):=H
 have A3:=mk_ A30
 clear A30
 obtain ⟨y526,hy526⟩ : ∃ y_ : List Int,y_ = (([20,3,1,60,0,400,401,(-1)] : List Int)):=⟨_,rfl⟩
 replace H : ((spec_l21Rd_num.f k t512 t525 y526).bind fun bt529 => (some (t515,t516,t519,t522,bt529.1))) = some (r1,r2,r3,r4,r5):=by first|(rw [hy526];with_reducible exact H)|(have H2_:=(Option.bind_some _ _).symm.trans H;rw [hy526];with_reducible exact H2_)|(have H2_:=(Option.bind_some _ _).symm.trans H;with_reducible exact H2_)|with_reducible exact H|(rw [hy526];exact H)|exact H
 have Ny526:=mk_ hy526
 clear hy526
 replace H:=Option.bind_eq_some_iff.mp H
 obtain ⟨⟨t529,t530⟩,A40,H⟩:=H
 replace H : (some (t515,t516,t519,t522,t529)) = some (r1,r2,r3,r4,r5):=H
 have A4:=mk_ A40
 clear A40
 simp only [Option.some.injEq,Prod.mk.injEq] at H
 obtain ⟨rfl,rfl,rfl,rfl,rfl⟩:=H
 go_enter Try.func19,Try.ntmps19
 go_wp2_with (first|((with_reducible refine gate_callee (f:=30) rfl ?_);refine goesL_ (some 13) rfl rfl Try.func30 (by kernel_rfl) rfl #[.slice A0 l0.length c0] rfl qm_ ?_;(with_reducible refine (spec_l21Open.calls _ _ l0 t512 t513 w _ ?side1 ?side2 ?side3 A2.out).mono ?_);(case side1 => exact u0_ HB);(case side2 => exact HR0.out);(case side3 => exact HC0.out);rintro e w5 ⟨g514,rfl,hi,hb,hb2⟩;refine ⟨_,rfl,?_⟩;have n0_:=mk_ (hb);have n1_:=mk_ (hi);clear HB;have HB:=n0_;have HI514:=n1_;clear n0_ n1_;(try clear hb);(try clear hb2);(try clear hk);(try clear hi))|((with_reducible refine gate_callee (f:=29) rfl ?_);refine goesL_ (some 16) rfl rfl Try.func29 (by kernel_rfl) rfl #[.pointer (some ⟨g514,0,none⟩)] rfl qm_ ?_;(with_reducible refine (spec_l5Draw.calls k g514 t512 t513 t515 t516 t519 t522 t525 w _ ?side1 ?side2 A3.out).mono ?_);(case side1 => exact u2_ HI514);(case side2 => exact u4_ HB HI514);rintro e w6 ⟨v517,v520,v523,rfl,ho0,ho1,ho2,hi,hb,hk⟩;refine ⟨_,rfl,?_⟩;have n0_:=mk_ (Kd.S_lower ho0 (bz_ (u4_ HB HI514)));have n1_:=mk_ (Kd.R_lower ho1 (bz_ (u4_ HB HI514)));have n2_:=mk_ (Kd.R_lower ho2 (bz_ (u4_ HB HI514)));have n3_:=mk_ (hb);have n4_:=mk_ (hi);clear HB HI514;have HO518:=n0_;have HO521:=n1_;have HO524:=n2_;have HB:=n3_;have HI514:=n4_;clear n0_ n1_ n2_ n3_ n4_;(try clear hb);(try clear hb2);(try clear hk);(try clear hi);(try clear ho0);(try clear ho1);(try clear ho2))|((with_reducible refine gate_dst (N:=26) rfl ?_);refine Kd.R_lit (Kd.int .i64) _ 3 ?hg (N:=26) ?hd (xs:=([20,3,1,60,0,400,401,(-1)] : List Int)) (inner:=[.int .i64 20,.int .i64 3,.int .i64 1,.int .i64 60,.int .i64 0,.int .i64 400,.int .i64 401,.int .i64 (-1)]) (ok:=fun _ => True) (okp:=fun _ => True) ?hr ?hp (fun _ hk => hk) trivial (Below.refl _ _) (Nat.le_refl _) (by simp) ?_;(case hd => rfl);(case hg => rfl);(case hr => first|(go_simp;done)|(go_simp;rfl));(case hp => exact (Reps.one (show Kd.M (Kd.int .i64) _ _ _ 20 [.int .i64 20] from rfl) (Reps.one (show Kd.M (Kd.int .i64) _ _ _ 3 [.int .i64 3] from rfl) (Reps.one (show Kd.M (Kd.int .i64) _ _ _ 1 [.int .i64 1] from rfl) (Reps.one (show Kd.M (Kd.int .i64) _ _ _ 60 [.int .i64 60] from rfl) (Reps.one (show Kd.M (Kd.int .i64) _ _ _ 0 [.int .i64 0] from rfl) (Reps.one (show Kd.M (Kd.int .i64) _ _ _ 400 [.int .i64 400] from rfl) (Reps.one (show Kd.M (Kd.int .i64) _ _ _ 401 [.int .i64 401] from rfl) (Reps.one (show Kd.M (Kd.int .i64) _ _ _ (-1) [.int .i64 (-1)] from rfl) (Reps.none _ _))))))))));intro v527 w7 ho8 hb hg_ hnew_;clear hg_ hnew_;(first|rw [← Ny526.out] at ho8|(simp only [Int.reduceToNat] at ho8;rw [← Ny526.out] at ho8));have n0_:=mk_ (Kd.S_below (by (with_reducible repeat (first|apply Kd.S_alloc|apply Kd.S_drewN|apply Kd.S_drew));exact HO518.out) hb);have n1_:=mk_ (re_ (qr_ HO521) (Kd.R_base ho8) hb);have n2_:=mk_ (re_ (qr_ HO524) (Kd.R_base ho8) hb);have n3_:=mk_ (Kd.R_lower (Kd.R_new' (Kd.R_new' ho8 (Kd.R_lt (qr_ HO521))) (Kd.R_lt (qr_ HO524))) (bz_ (u4_ HB HI514)));have n4_:=mk_ (IsS68.below (u2_ HI514) hb);have n5_:=mk_ (st_ (u4_ HB HI514) hb);clear HO518 HO521 HO524 HI514 HB;have HO518:=n0_;have HO521:=n1_;have HO524:=n2_;have HO528:=n3_;have HI514:=n4_;have HB:=n5_;clear n0_ n1_ n2_ n3_ n4_ n5_ hb ho8;obtain ⟨Ao9,co9,eo9⟩:=Kd.R_slice HO528.out;subst eo9)|((with_reducible refine gate_callee (f:=41) rfl ?_);refine goesL_ (some 27) rfl rfl Try.func41 (by kernel_rfl) rfl #[.pointer (some ⟨g514,0,none⟩),.slice Ao9 y526.length co9] rfl qm_ ?_;(with_reducible refine (spec_l21Rd_num.calls k g514 t512 t525 _ _ y526 t529 t530 w _ ?side1 ?side2 ?side3 ?side4 ?side5 A4.out).mono ?_);(case side1 => exact u2_ HI514);(case side2 => exact u4_ HB HI514);(case side3 => repeat (first|exact (rr_ HO528.out).2.2|(with_reducible refine ca_ ?_ _)|(with_reducible refine cn_ ?_ _)|(with_reducible refine cd_ ?_)));(case side4 => exact (rr_ HO528.out).2.1);(case side5 => exact far_slice (IsS68.own_ne HI514.out HO528.out (by decide)));rintro e w10 ⟨rfl,hi,hb,hk⟩;refine ⟨_,rfl,?_⟩;have n0_:=mk_ (Kd.S_mono (Kd.S_keep (IsS68.apartS (show IsS68 w _ g514 t512 t525 from u2_ HI514) (by (with_reducible repeat (first|apply Kd.S_alloc|apply Kd.S_drewN|apply Kd.S_drew));exact HO518.out) (by decide)) hk (fun _ h => h.2)) (fun _ h => h.1));have n1_:=mk_ (rm_ (Kd.R_keep (IsS68.apart (show IsS68 w _ g514 t512 t525 from u2_ HI514) (qr_ HO521) (by decide)) hk (fun _ h => h.2)) (fun _ h => h.1));have n2_:=mk_ (rm_ (Kd.R_keep (IsS68.apart (show IsS68 w _ g514 t512 t525 from u2_ HI514) (qr_ HO524) (by decide)) hk (fun _ h => h.2)) (fun _ h => h.1));have n3_:=mk_ (rm_ (Kd.R_keep (IsS68.apart (show IsS68 w _ g514 t512 t525 from u2_ HI514) (qr_ HO528) (by decide)) hk (fun _ h => h.2)) (fun _ h => h.1));have n4_:=mk_ (hb);have n5_:=mk_ (hi);clear HO518 HO521 HO524 HO528 HB HI514;have HO518:=n0_;have HO521:=n1_;have HO524:=n2_;have HO528:=n3_;have HB:=n4_;have HI514:=n5_;clear n0_ n1_ n2_ n3_ n4_ n5_;(try clear hb);(try clear hb2);(try clear hk);(try clear hi)))
 refine bodyPost_ret (results_list (rs:=[.tmp 2,.tmp 3,.tmp 4,.tmp 5,.tmp 6]) rfl (by simp) (.tmp (.tmp (.tmp (.tmp (.tmp .nil)))))) rfl ?_
 exact ⟨_,_,_,qe_,by (with_reducible repeat (first|apply Kd.S_alloc|apply Kd.S_drewN|apply Kd.S_drew));exact HO518.out,by (with_reducible repeat (first|apply ra_|apply rn_|apply rd_));exact rm_ HO521.out (fun _ hk => hk.1),by (with_reducible repeat (first|apply ra_|apply rn_|apply rd_));exact rm_ HO524.out (fun _ hk => hk.1),u4_ HB HI514⟩

/-! ### spec_DrawLinkRounds: function 9 -/
def spec_DrawLinkRounds.f (k : Nat) (l0 : List Int) : Option (Int × (List (List Int)) × List Int × List Int):=(spec_l21Open.f l0).bind fun bt567 => ((spec_l5Draw.f k bt567.1 bt567.2).bind fun bt570 => (some (bt570.1,bt570.2.1,bt570.2.2.1,bt570.2.2.2.1)))
theorem spec_DrawLinkRounds.mono : ∀ a0 k,LeO (spec_DrawLinkRounds.f k a0) (spec_DrawLinkRounds.f (k + 1) a0):=by
 intro a0 k
 unfold spec_DrawLinkRounds.f
 repeat' first
   | (with_reducible exact spec_l5Draw.mono _ _ _)
   | (with_reducible exact LeO.refl _)
   | (with_reducible exact LeO.none _)
   | (with_reducible refine LeO.ite ?_ ?_)
   | (with_reducible refine LeO.bind ?_ (fun _ => ?_))
   | exact spec_l5Draw.mono _ _ _
   | exact LeO.none _
   | refine LeO.ite ?_ ?_
   | refine LeO.bind ?_ (fun _ => ?_)
set_option maxHeartbeats 8000000 in
set_option maxRecDepth 100000 in
theorem spec_DrawLinkRounds.calls (k : Nat) (A0 : Option Addr) (c0 : Nat) (l0 : List Int) (r1 : Int) (r2 : List (List Int)) (r3 : List Int) (r4 : List Int) (w : World) (hr0 : Kd.C (Kd.int .u8) w A0 l0.length l0) (hc0 : l0.length ≤ c0) (h : spec_DrawLinkRounds.f k l0 = some (r1,r2,r3,r4)) :
  Calls Try.prog 9 #[.slice A0 l0.length c0] w fun e w' => ∃ v1_ v2_ v3_ : Value,e = .returned (.tuple #[.int .i64 r1,v1_,v2_,v3_]) ∧ Kd.S (Kd.slice 5 (Kd.int .u8)) 22 w' w.heap.size (fun _ => True) v1_ r2 ∧ Kd.R (Kd.int .i64) 3 w' w.heap.size (fun k_ => some k_ ≠ (v3_ : Value).ownBlock) v2_ r3 ∧ Kd.R (Kd.int .i64) 3 w' w.heap.size (fun k_ => some k_ ≠ (v2_ : Value).ownBlock) v3_ r4 ∧ Below w.heap.size w w':=by
 have HR0:=mk_ hr0
 have HC0:=mk_ hc0
 clear hr0 hc0
 have HB:=mk_ (Below.refl w.heap.size w)
 have H : ((spec_l21Open.f l0).bind fun bt567 => ((spec_l5Draw.f k bt567.1 bt567.2).bind fun bt570 => (some (bt570.1,bt570.2.1,bt570.2.2.1,bt570.2.2.2.1)))) = some (r1,r2,r3,r4):=h
 clear h
 replace H:=Option.bind_eq_some_iff.mp H
 obtain ⟨⟨t567,t568⟩,A20,H⟩:=H
 replace H : ((spec_l5Draw.f k t567 t568).bind fun bt570 => (some (bt570.1,bt570.2.1,bt570.2.2.1,bt570.2.2.2.1))) = some (r1,r2,r3,r4):=H
 have A2:=mk_ A20
 clear A20
 replace H:=Option.bind_eq_some_iff.mp H
 obtain ⟨⟨t570,t571,t574,t577,t580⟩,A30,H⟩:=H
 replace H : (some (t570,t571,t574,t577)) = some (r1,r2,r3,r4):=H
 have A3:=mk_ A30
 clear A30
 simp only [Option.some.injEq,Prod.mk.injEq] at H
 obtain ⟨rfl,rfl,rfl,rfl⟩:=H
 go_enter Try.func9,Try.ntmps9
 go_wp2_with (first|((with_reducible refine gate_callee (f:=30) rfl ?_);refine goesL_ (some 7) rfl rfl Try.func30 (by kernel_rfl) rfl #[.slice A0 l0.length c0] rfl qm_ ?_;(with_reducible refine (spec_l21Open.calls _ _ l0 t567 t568 w _ ?side1 ?side2 ?side3 A2.out).mono ?_);(case side1 => exact u0_ HB);(case side2 => exact HR0.out);(case side3 => exact HC0.out);rintro e w4 ⟨g569,rfl,hi,hb,hb2⟩;refine ⟨_,rfl,?_⟩;have n0_:=mk_ (hb);have n1_:=mk_ (hi);clear HB;have HB:=n0_;have HI569:=n1_;clear n0_ n1_;(try clear hb);(try clear hb2);(try clear hk);(try clear hi))|((with_reducible refine gate_callee (f:=29) rfl ?_);refine goesL_ (some 8) rfl rfl Try.func29 (by kernel_rfl) rfl #[.pointer (some ⟨g569,0,none⟩)] rfl qm_ ?_;(with_reducible refine (spec_l5Draw.calls k g569 t567 t568 t570 t571 t574 t577 t580 w _ ?side1 ?side2 A3.out).mono ?_);(case side1 => exact u2_ HI569);(case side2 => exact u4_ HB HI569);rintro e w5 ⟨v572,v575,v578,rfl,ho0,ho1,ho2,hi,hb,hk⟩;refine ⟨_,rfl,?_⟩;have n0_:=mk_ (Kd.S_lower ho0 (bz_ (u4_ HB HI569)));have n1_:=mk_ (Kd.R_lower ho1 (bz_ (u4_ HB HI569)));have n2_:=mk_ (Kd.R_lower ho2 (bz_ (u4_ HB HI569)));have n3_:=mk_ (hb);have n4_:=mk_ (hi);clear HB HI569;have HO573:=n0_;have HO576:=n1_;have HO579:=n2_;have HB:=n3_;have HI569:=n4_;clear n0_ n1_ n2_ n3_ n4_;(try clear hb);(try clear hb2);(try clear hk);(try clear hi);(try clear ho0);(try clear ho1);(try clear ho2)))
 refine bodyPost_ret (results_list (rs:=[.tmp 2,.tmp 3,.tmp 4,.tmp 5]) rfl (by simp) (.tmp (.tmp (.tmp (.tmp .nil))))) rfl ?_
 exact ⟨_,_,_,qe_,by (with_reducible repeat (first|apply Kd.S_alloc|apply Kd.S_drewN|apply Kd.S_drew));exact HO573.out,qr_ HO576,qr_ HO579,u4_ HB HI569⟩

/-! ### spec_DrawLinkBound: function 21 -/
def spec_DrawLinkBound.f (k : Nat) (l0 : List Int) : Option (Int × Int × List Int × List Int):=(spec_l21Open.f l0).bind fun bt597 => ((spec_l5Draw.f k bt597.1 bt597.2).bind fun bt600 => ((spec_l21Rd_num.f k bt597.1 bt600.2.2.2.2 (([(bt600.2.1.length : Int),0,60,61,(-1),9] : List Int))).bind fun bt614 => (some (bt600.1,bt614.1,bt600.2.2.1,bt600.2.2.2.1))))
theorem spec_DrawLinkBound.mono : ∀ a0 k,LeO (spec_DrawLinkBound.f k a0) (spec_DrawLinkBound.f (k + 1) a0):=by
 intro a0 k
 unfold spec_DrawLinkBound.f
 repeat' first
   | (with_reducible exact spec_l21Rd_num.mono _ _ _ _)
   | (with_reducible exact spec_l5Draw.mono _ _ _)
   | (with_reducible exact LeO.refl _)
   | (with_reducible exact LeO.none _)
   | (with_reducible refine LeO.ite ?_ ?_)
   | (with_reducible refine LeO.bind ?_ (fun _ => ?_))
   | exact spec_l21Rd_num.mono _ _ _ _
   | exact spec_l5Draw.mono _ _ _
   | exact LeO.none _
   | refine LeO.ite ?_ ?_
   | refine LeO.bind ?_ (fun _ => ?_)
set_option maxHeartbeats 8000000 in
set_option maxRecDepth 100000 in
theorem spec_DrawLinkBound.calls (k : Nat) (A0 : Option Addr) (c0 : Nat) (l0 : List Int) (r1 : Int) (r2 : Int) (r3 : List Int) (r4 : List Int) (w : World) (hr0 : Kd.C (Kd.int .u8) w A0 l0.length l0) (hc0 : l0.length ≤ c0) (h : spec_DrawLinkBound.f k l0 = some (r1,r2,r3,r4)) :
  Calls Try.prog 21 #[.slice A0 l0.length c0] w fun e w' => ∃ v2_ v3_ : Value,e = .returned (.tuple #[.int .i64 r1,.int .i64 r2,v2_,v3_]) ∧ Kd.R (Kd.int .i64) 3 w' w.heap.size (fun k_ => some k_ ≠ (v3_ : Value).ownBlock) v2_ r3 ∧ Kd.R (Kd.int .i64) 3 w' w.heap.size (fun k_ => some k_ ≠ (v2_ : Value).ownBlock) v3_ r4 ∧ Below w.heap.size w w':=by
 have HR0:=mk_ hr0
 have HC0:=mk_ hc0
 clear hr0 hc0
 have HB:=mk_ (Below.refl w.heap.size w)
 have H : ((spec_l21Open.f l0).bind fun bt597 => ((spec_l5Draw.f k bt597.1 bt597.2).bind fun bt600 => ((spec_l21Rd_num.f k bt597.1 bt600.2.2.2.2 (([(bt600.2.1.length : Int),0,60,61,(-1),9] : List Int))).bind fun bt614 => (some (bt600.1,bt614.1,bt600.2.2.1,bt600.2.2.2.1))))) = some (r1,r2,r3,r4):=h
 clear h
 replace H:=Option.bind_eq_some_iff.mp H
 obtain ⟨⟨t597,t598⟩,A20,H⟩:=H
 replace H : ((spec_l5Draw.f k t597 t598).bind fun bt600 => ((spec_l21Rd_num.f k t597 bt600.2.2.2.2 (([(bt600.2.1.length : Int),0,60,61,(-1),9] : List Int))).bind fun bt614 => (some (bt600.1,bt614.1,bt600.2.2.1,bt600.2.2.2.1)))) = some (r1,r2,r3,r4):=H
 have A2:=mk_ A20
 clear A20
 replace H:=Option.bind_eq_some_iff.mp H
 obtain ⟨⟨t600,t601,t604,t607,t610⟩,A30,H⟩:=H
 replace H : ((spec_l21Rd_num.f k t597 t610 (([(t601.length : Int),0,60,61,(-1),9] : List Int))).bind fun bt614 => (some (t600,bt614.1,t604,t607))) = some (r1,r2,r3,r4):=H
 have A3:=mk_ A30
 clear A30
 obtain ⟨y611,hy611⟩ : ∃ y_ : List Int,y_ = (([(t601.length : Int),0,60,61,(-1),9] : List Int)):=⟨_,rfl⟩
 replace H : ((spec_l21Rd_num.f k t597 t610 y611).bind fun bt614 => (some (t600,bt614.1,t604,t607))) = some (r1,r2,r3,r4):=by first|(rw [hy611];with_reducible exact H)|(have H2_:=(Option.bind_some _ _).symm.trans H;rw [hy611];with_reducible exact H2_)|(have H2_:=(Option.bind_some _ _).symm.trans H;with_reducible exact H2_)|with_reducible exact H|(rw [hy611];exact H)|exact H
 have Ny611:=mk_ hy611
 clear hy611
 replace H:=Option.bind_eq_some_iff.mp H
 obtain ⟨⟨t614,t615⟩,A40,H⟩:=H
 replace H : (some (t600,t614,t604,t607)) = some (r1,r2,r3,r4):=H
 have A4:=mk_ A40
 clear A40
 simp only [Option.some.injEq,Prod.mk.injEq] at H
 obtain ⟨rfl,rfl,rfl,rfl⟩:=H
 go_enter Try.func21,Try.ntmps21
 go_wp2_with (first|((with_reducible refine gate_callee (f:=30) rfl ?_);refine goesL_ (some 12) rfl rfl Try.func30 (by kernel_rfl) rfl #[.slice A0 l0.length c0] rfl qm_ ?_;(with_reducible refine (spec_l21Open.calls _ _ l0 t597 t598 w _ ?side1 ?side2 ?side3 A2.out).mono ?_);(case side1 => exact u0_ HB);(case side2 => exact HR0.out);(case side3 => exact HC0.out);rintro e w5 ⟨g599,rfl,hi,hb,hb2⟩;refine ⟨_,rfl,?_⟩;have n0_:=mk_ (hb);have n1_:=mk_ (hi);clear HB;have HB:=n0_;have HI599:=n1_;clear n0_ n1_;(try clear hb);(try clear hb2);(try clear hk);(try clear hi))|((with_reducible refine gate_callee (f:=29) rfl ?_);refine goesL_ (some 15) rfl rfl Try.func29 (by kernel_rfl) rfl #[.pointer (some ⟨g599,0,none⟩)] rfl qm_ ?_;(with_reducible refine (spec_l5Draw.calls k g599 t597 t598 t600 t601 t604 t607 t610 w _ ?side1 ?side2 A3.out).mono ?_);(case side1 => exact u2_ HI599);(case side2 => exact u4_ HB HI599);rintro e w6 ⟨v602,v605,v608,rfl,ho0,ho1,ho2,hi,hb,hk⟩;refine ⟨_,rfl,?_⟩;have n0_:=mk_ (Kd.S_lower ho0 (bz_ (u4_ HB HI599)));have n1_:=mk_ (Kd.R_lower ho1 (bz_ (u4_ HB HI599)));have n2_:=mk_ (Kd.R_lower ho2 (bz_ (u4_ HB HI599)));have n3_:=mk_ (hb);have n4_:=mk_ (hi);clear HB HI599;have HO603:=n0_;have HO606:=n1_;have HO609:=n2_;have HB:=n3_;have HI599:=n4_;clear n0_ n1_ n2_ n3_ n4_;(try clear hb);(try clear hb2);(try clear hk);(try clear hi);(try clear ho0);(try clear ho1);(try clear ho2);obtain ⟨Ao7,co7,eo7⟩:=Kd.S_slice HO603.out;subst eo7)|((with_reducible refine gate_dst (N:=24) rfl ?_);refine Kd.R_lit (Kd.int .i64) _ 3 ?hg (N:=24) ?hd (xs:=([(t601.length : Int),0,60,61,(-1),9] : List Int)) (inner:=[.int .i64 (t601.length : Int),.int .i64 0,.int .i64 60,.int .i64 61,.int .i64 (-1),.int .i64 9]) (ok:=fun _ => True) (okp:=fun _ => True) ?hr ?hp (fun _ hk => hk) trivial (Below.refl _ _) (Nat.le_refl _) (by simp) ?_;(case hd => rfl);(case hg => rfl);(case hr => first|(go_simp;done)|(go_simp;rfl));(case hp => exact (Reps.one (show Kd.M (Kd.int .i64) _ _ _ (t601.length : Int) [.int .i64 (t601.length : Int)] from rfl) (Reps.one (show Kd.M (Kd.int .i64) _ _ _ 0 [.int .i64 0] from rfl) (Reps.one (show Kd.M (Kd.int .i64) _ _ _ 60 [.int .i64 60] from rfl) (Reps.one (show Kd.M (Kd.int .i64) _ _ _ 61 [.int .i64 61] from rfl) (Reps.one (show Kd.M (Kd.int .i64) _ _ _ (-1) [.int .i64 (-1)] from rfl) (Reps.one (show Kd.M (Kd.int .i64) _ _ _ 9 [.int .i64 9] from rfl) (Reps.none _ _))))))));intro v612 w8 ho9 hb hg_ hnew_;clear hg_ hnew_;(first|rw [← Ny611.out] at ho9|(simp only [Int.reduceToNat] at ho9;rw [← Ny611.out] at ho9));have n0_:=mk_ (Kd.S_below (by (with_reducible repeat (first|apply Kd.S_alloc|apply Kd.S_drewN|apply Kd.S_drew));exact HO603.out) hb);have n1_:=mk_ (re_ (qr_ HO606) (Kd.R_base ho9) hb);have n2_:=mk_ (re_ (qr_ HO609) (Kd.R_base ho9) hb);have n3_:=mk_ (Kd.R_lower (Kd.R_new' (Kd.R_new' ho9 (Kd.R_lt (qr_ HO606))) (Kd.R_lt (qr_ HO609))) (bz_ (u4_ HB HI599)));have n4_:=mk_ (IsS68.below (u2_ HI599) hb);have n5_:=mk_ (st_ (u4_ HB HI599) hb);clear HO603 HO606 HO609 HI599 HB;have HO603:=n0_;have HO606:=n1_;have HO609:=n2_;have HO613:=n3_;have HI599:=n4_;have HB:=n5_;clear n0_ n1_ n2_ n3_ n4_ n5_ hb ho9;obtain ⟨Ao10,co10,eo10⟩:=Kd.R_slice HO613.out;subst eo10)|((with_reducible refine gate_callee (f:=41) rfl ?_);refine goesL_ (some 25) rfl rfl Try.func41 (by kernel_rfl) rfl #[.pointer (some ⟨g599,0,none⟩),.slice Ao10 y611.length co10] rfl qm_ ?_;(with_reducible refine (spec_l21Rd_num.calls k g599 t597 t610 _ _ y611 t614 t615 w _ ?side1 ?side2 ?side3 ?side4 ?side5 A4.out).mono ?_);(case side1 => exact u2_ HI599);(case side2 => exact u4_ HB HI599);(case side3 => repeat (first|exact (rr_ HO613.out).2.2|(with_reducible refine ca_ ?_ _)|(with_reducible refine cn_ ?_ _)|(with_reducible refine cd_ ?_)));(case side4 => exact (rr_ HO613.out).2.1);(case side5 => exact far_slice (IsS68.own_ne HI599.out HO613.out (by decide)));rintro e w11 ⟨rfl,hi,hb,hk⟩;refine ⟨_,rfl,?_⟩;have n0_:=mk_ (Kd.S_mono (Kd.S_keep (IsS68.apartS (show IsS68 w _ g599 t597 t610 from u2_ HI599) (by (with_reducible repeat (first|apply Kd.S_alloc|apply Kd.S_drewN|apply Kd.S_drew));exact HO603.out) (by decide)) hk (fun _ h => h.2)) (fun _ h => h.1));have n1_:=mk_ (rm_ (Kd.R_keep (IsS68.apart (show IsS68 w _ g599 t597 t610 from u2_ HI599) (qr_ HO606) (by decide)) hk (fun _ h => h.2)) (fun _ h => h.1));have n2_:=mk_ (rm_ (Kd.R_keep (IsS68.apart (show IsS68 w _ g599 t597 t610 from u2_ HI599) (qr_ HO609) (by decide)) hk (fun _ h => h.2)) (fun _ h => h.1));have n3_:=mk_ (rm_ (Kd.R_keep (IsS68.apart (show IsS68 w _ g599 t597 t610 from u2_ HI599) (qr_ HO613) (by decide)) hk (fun _ h => h.2)) (fun _ h => h.1));have n4_:=mk_ (hb);have n5_:=mk_ (hi);clear HO603 HO606 HO609 HO613 HB HI599;have HO603:=n0_;have HO606:=n1_;have HO609:=n2_;have HO613:=n3_;have HB:=n4_;have HI599:=n5_;clear n0_ n1_ n2_ n3_ n4_ n5_;(try clear hb);(try clear hb2);(try clear hk);(try clear hi)))
 refine bodyPost_ret (results_list (rs:=[.tmp 2,.tmp 3,.tmp 4,.tmp 5]) rfl (by simp) (.tmp (.tmp (.tmp (.tmp .nil))))) rfl ?_
 exact ⟨_,_,qe_,by (with_reducible repeat (first|apply ra_|apply rn_|apply rd_));exact rm_ HO606.out (fun _ hk => hk.1),by (with_reducible repeat (first|apply ra_|apply rn_|apply rd_));exact rm_ HO609.out (fun _ hk => hk.1),u4_ HB HI599⟩

-- LIB linklaw
/-- What a run keeps: the receiver has the beginning of the list, and no more than a window beyond what the sender knows. -/
structure InvL (win : Nat) (list : List (List Int)) (s : LS) : Prop where
  pre : s.got = list.take s.got.length
  lo : s.known ≤ s.got.length
  hi : s.got.length ≤ list.length
  wi : s.got.length ≤ s.known + win
theorem take_snocL (list : List (List Int)) (n : Nat) (h : n < list.length) : list.take n ++ [list.getD n []] = list.take (n + 1):=by
  rw [List.take_succ_eq_append_getElem h]
  simp [List.getD_eq_getElem?_getD,h]
theorem takeL_inv (list : List (List Int)) (known m : Nat) (hm : m ≤ 8) (hl : known + m ≤ list.length) (fs : List Int) (r : List Int) (hr : ∀ x ∈ r, 0 ≤ x ∧ x < m) : ∀ g : List (List Int), g = list.take g.length → known ≤ g.length → g.length ≤ known + m →
    takeL list known fs r g = list.take (takeL list known fs r g).length ∧ g.length ≤ (takeL list known fs r g).length ∧ (takeL list known fs r g).length ≤ known + m:=by
  induction r with
  | nil => intro g hg h1 h2;exact ⟨hg,Nat.le_refl _,h2⟩
  | cons x r ih =>
    intro g hg h1 h2
    have hx:=hr x (List.mem_cons_self ..)
    have ih:=ih (fun y hy => hr y (List.mem_cons_of_mem _ hy))
    unfold takeL
    by_cases h4 : fs.getD x.toNat 0 = 4
    · rw [if_pos h4];exact ih g hg h1 h2
    · rw [if_neg h4]
      by_cases h5 : (known + x.toNat) % 16 = g.length % 16
      · rw [if_pos h5]
        have e : known + x.toNat = g.length:=by omega
        rw [e]
        have hs : g ++ [list.getD g.length []] = list.take (g.length + 1):=by
          have:=take_snocL list g.length (by omega)
          rw [← hg] at this
          exact this
        have hln : (g ++ [list.getD g.length []]).length = g.length + 1:=by simp
        obtain ⟨a,b,c⟩:=ih (g ++ [list.getD g.length []]) (by rw [hln];exact hs) (by rw [hln];omega) (by rw [hln];omega)
        rw [hln] at b
        exact ⟨a,by omega,c⟩
      · rw [if_neg h5];exact ih g hg h1 h2
theorem seekF_hit (q : Nat) (t : Nat) (hq : t % 16 = q) (f : Nat) : ∀ k d,k ≤ t → t < k + f → t < k + 16 → seekF q f k d = t:=by
  induction f with
  | zero => intro k d h1 h2;omega
  | succ f ih =>
    intro k d h1 h2 h3
    unfold seekF
    by_cases e : k = t
    · subst e;rw [if_pos hq]
    · rw [if_neg (by omega)]
      exact ih (k + 1) d (by omega) (by omega) (by omega)
theorem seekL_hit {kn win t : Nat} (h1 : kn ≤ t) (h2 : t ≤ kn + win) (hw : win ≤ 8) : seekL kn win (t % 16) = t:=seekF_hit _ t rfl _ kn kn h1 (by omega) (by omega)
theorem hearL_two {kn win t : Nat} (bad : Bool) (h1 : kn ≤ t) (h2 : t ≤ kn + win) (hw : win ≤ 8) (c : Nat) : hearL bad win (t % 16) c kn = kn ∨ hearL bad win (t % 16) c kn = t:=by
  induction c with
  | zero => exact Or.inl rfl
  | succ c ih =>
    rw [hearL_snoc]
    cases bad with
    | true => rw [if_pos rfl];exact ih
    | false =>
      rw [if_neg (by decide)]
      rcases ih with h | h
      · rw [h];exact Or.inr (seekL_hit h1 h2 hw)
      · rw [h];exact Or.inr (seekL_hit (Nat.le_refl t) (by omega) hw)
theorem manyL_le {list : List (List Int)} {win known : Nat} (hw : win ≤ 8) (hk : known < list.length) : manyL list win known ≤ 8 ∧ known + manyL list win known ≤ list.length ∧ known + manyL list win known ≤ known + win:=by
  unfold manyL
  omega
theorem manyL_pos {list : List (List Int)} {win known : Nat} (h1 : 1 ≤ win) (hk : known < list.length) : 1 ≤ manyL list win known:=by
  unfold manyL
  omega
theorem round_inv {win : Nat} {list : List (List Int)} {there back : List Int} {s : LS} (hw : win ≤ 8) (hk : s.known < list.length) (h : InvL win list s) :
    InvL win list (roundL win list there back s) ∧ s.got.length ≤ (roundL win list there back s).got.length ∧ s.known ≤ (roundL win list there back s).known:=by
  obtain ⟨hm1,hm2,hm3⟩:=manyL_le hw hk
  have hgm : s.got.length ≤ s.known + manyL list win s.known:=by
    have a:=h.hi
    have b:=h.wi
    unfold manyL
    omega
  obtain ⟨a,b,c⟩:=takeL_inv list s.known (manyL list win s.known) hm1 hm2 (there.drop s.so) (arrI (there.drop s.so) (manyL list win s.known)) (arrI_in _ _) s.got h.pre h.lo hgm
  have hg : (roundL win list there back s).got = gotL win list there s:=rfl
  have e : takeL list s.known (there.drop s.so) (arrI (there.drop s.so) (manyL list win s.known)) s.got = gotL win list there s:=rfl
  rw [e] at a b c
  have hkn : (roundL win list there back s).known = s.known ∨ (roundL win list there back s).known = (gotL win list there s).length:=hearL_two _ (Nat.le_trans h.lo b) (by omega) hw _
  have hlo:=h.lo
  refine ⟨⟨by rw [hg];exact a,?_,?_,?_⟩,by rw [hg];exact b,?_⟩
  · rw [hg];rcases hkn with k | k <;> rw [k] <;> omega
  · rw [hg];omega
  · rw [hg];rcases hkn with k | k <;> rw [k] <;> omega
  · rcases hkn with k | k <;> rw [k] <;> omega
theorem run_inv {win : Nat} {list : List (List Int)} {there back : List Int} (hw : win ≤ 8) (f : Nat) : ∀ s,InvL win list s → InvL win list (runL win list there back f s) ∧ s.got.length ≤ (runL win list there back f s).got.length ∧ (runL win list there back f s).rounds ≤ s.rounds + f:=by
  induction f with
  | zero => intro s h;exact ⟨h,Nat.le_refl _,Nat.le_refl _⟩
  | succ f ih =>
    intro s h
    rw [runL]
    by_cases hk : s.known < list.length
    · rw [if_pos hk]
      obtain ⟨a,b,_⟩:=round_inv (there:=there) (back:=back) hw hk h
      obtain ⟨a2,b2,c2⟩:=ih _ a
      have hr : (roundL win list there back s).rounds = s.rounds + 1:=rfl
      exact ⟨a2,by omega,by omega⟩
    · rw [if_neg hk];exact ⟨h,Nat.le_refl _,by omega⟩
theorem inv_start (win : Nat) (list : List (List Int)) : InvL win list startL:=⟨by simp [startL],Nat.le_refl _,Nat.zero_le _,Nat.zero_le _⟩
theorem run_done {win : Nat} {list : List (List Int)} {there back : List Int} {s : LS} (h : list.length ≤ s.known) (f : Nat) : runL win list there back f s = s:=by
  cases f with
  | zero => rfl
  | succ f => rw [runL,if_neg (by omega)]
theorem run_add {win : Nat} {list : List (List Int)} {there back : List Int} (a b : Nat) : ∀ s,runL win list there back (a + b) s = runL win list there back b (runL win list there back a s):=by
  induction a with
  | zero => intro s;rw [Nat.zero_add];rfl
  | succ a ih =>
    intro s
    rw [Nat.succ_add,runL,runL]
    by_cases hk : s.known < list.length
    · rw [if_pos hk,if_pos hk];exact ih _
    · rw [if_neg hk,if_neg hk,run_done (by omega)]
theorem arrAll_nil (n : Nat) : arrAll [] n = (List.range n).map fun i : Nat => (2 * (i : Int),(i : Int)):=by
  induction n with
  | zero => rfl
  | succ n ih =>
    rw [arrAll,ih,List.range_succ,List.map_append]
    rfl
theorem arrI_nil (n : Nat) : arrI [] n = (List.range n).map fun i : Nat => (i : Int):=by
  have hs : (arrAll [] n).Pairwise leA:=by
    rw [arrAll_nil,List.pairwise_map]
    refine List.pairwise_lt_range.imp ?_
    intro a b hab
    exact Or.inl (by show (2 * (a : Int)) < 2 * (b : Int);omega)
  unfold arrI
  rw [List.Perm.eq_of_pairwise (fun a b _ _ h1 h2 => leA_anti h1 h2) (outA_sorted _) hs (outA_perm _),arrAll_nil,List.map_map]
  rfl
theorem takeL_clear (list : List (List Int)) (known m : Nat) (hm : m ≤ 8) (d : Nat) : ∀ (j : Nat) (g : List (List Int)), j + d = m → known + j ≤ g.length → g.length ≤ known + m →
    known + m ≤ (takeL list known [] ((List.range' j d).map fun i : Nat => (i : Int)) g).length:=by
  induction d with
  | zero => intro j g hj h1 h2;simp only [List.range'_zero,List.map_nil,takeL];omega
  | succ d ih =>
    intro j g hj h1 h2
    rw [List.range'_succ,List.map_cons]
    unfold takeL
    rw [if_neg (by simp),Int.toNat_natCast]
    by_cases h5 : (known + j) % 16 = g.length % 16
    · rw [if_pos h5]
      exact ih (j + 1) _ (by omega) (by simp;omega) (by simp;omega)
    · rw [if_neg h5]
      exact ih (j + 1) _ (by omega) (by omega) (by omega)
theorem round_clear {win : Nat} {list : List (List Int)} {there back : List Int} {s : LS} (hw : win ≤ 8) (hk : s.known < list.length) (h : InvL win list s) (ht : there.length ≤ s.so) (hb : back.length ≤ s.si) :
    (roundL win list there back s).known = s.known + manyL list win s.known:=by
  obtain ⟨hm1,hm2,hm3⟩:=manyL_le hw hk
  have hgm : s.got.length ≤ s.known + manyL list win s.known:=by
    have a:=h.hi
    have b:=h.wi
    unfold manyL
    omega
  obtain ⟨a,b,c⟩:=takeL_inv list s.known (manyL list win s.known) hm1 hm2 (there.drop s.so) (arrI (there.drop s.so) (manyL list win s.known)) (arrI_in _ _) s.got h.pre h.lo hgm
  have hd : there.drop s.so = []:=List.drop_eq_nil_of_le ht
  have hbd : back.drop s.si = []:=List.drop_eq_nil_of_le hb
  have hlen : (gotL win list there s).length = s.known + manyL list win s.known:=by
    have h1:=takeL_clear list s.known (manyL list win s.known) hm1 (manyL list win s.known) 0 s.got (by omega) (by have:=h.lo;omega) hgm
    unfold gotL
    rw [hd] at c ⊢
    rw [arrI_nil,List.range_eq_range'] at c ⊢
    omega
  show knownL win list there back s = _
  unfold knownL
  rw [hbd,hlen,arrI_nil]
  have e : (([] : List Int).getD 0 0 = 4) = False:=by simp
  simp only [e,decide_false,List.length_map,List.length_range]
  unfold hearL
  rw [if_neg (by decide)]
  unfold hearL
  exact seekL_hit (by omega) (by omega) hw
/-- How many windows are left. -/
def ceilL (n win : Nat) : Nat:=(n + win - 1) / win
theorem ceil_pos {n win : Nat} (hw : 1 ≤ win) (hn : 0 < n) : 1 ≤ ceilL n win:=by
  unfold ceilL
  exact (Nat.le_div_iff_mul_le (by omega)).2 (by omega)
theorem ceil_step {n win : Nat} (hw : 1 ≤ win) (hn : 0 < n) : ceilL (n - min n win) win + 1 = ceilL n win:=by
  unfold ceilL
  by_cases h : n ≤ win
  · rw [Nat.min_eq_left h,Nat.sub_self,Nat.zero_add,Nat.div_eq_of_lt (by omega)]
    symm
    refine (Nat.div_eq_iff (by omega)).2 ?_
    constructor <;> omega
  · rw [Nat.min_eq_right (by omega),show n + win - 1 = (n - win + win - 1) + win from by omega,Nat.add_div_right _ (by omega)]
theorem ceil_mono {a b win : Nat} (h : a ≤ b) : ceilL a win ≤ ceilL b win:=Nat.div_le_div_right (by omega)
/-- A link whose wires are clear from some time on is done in time. -/
theorem run_live {win : Nat} {list : List (List Int)} {there back : List Int} (hw1 : 1 ≤ win) (hw : win ≤ 8) (R0 : Nat) (ht : there.length ≤ R0) (hb : back.length ≤ R0) (f : Nat) : ∀ s, InvL win list s → s.rounds ≤ s.so → s.si = s.rounds → (R0 - s.rounds) + ceilL (list.length - s.known) win ≤ f →
    list.length ≤ (runL win list there back f s).known:=by
  induction f with
  | zero =>
    intro s h hso hsi hf
    by_cases hk : s.known < list.length
    · have:=ceil_pos (n:=list.length - s.known) hw1 (by omega)
      omega
    · show list.length ≤ s.known;omega
  | succ f ih =>
    intro s h hso hsi hf
    rw [runL]
    by_cases hk : s.known < list.length
    · rw [if_pos hk]
      obtain ⟨a,_,c⟩:=round_inv (there:=there) (back:=back) hw hk h
      have hr : (roundL win list there back s).rounds = s.rounds + 1:=rfl
      have hs : (roundL win list there back s).so = s.so + manyL list win s.known:=rfl
      have hi : (roundL win list there back s).si = s.si + 1:=rfl
      have hm:=manyL_pos (list:=list) hw1 hk
      refine ih _ a (by omega) (by omega) ?_
      rw [hr]
      by_cases hR : s.rounds < R0
      · have:=ceil_mono (a:=list.length - (roundL win list there back s).known) (b:=list.length - s.known) (win:=win) (by omega)
        omega
      · have hcl:=round_clear (there:=there) (back:=back) hw hk h (by omega) (by omega)
        have e : list.length - (roundL win list there back s).known = (list.length - s.known) - min (list.length - s.known) win:=by rw [hcl];unfold manyL;omega
        have:=ceil_step (n:=list.length - s.known) hw1 (by omega)
        rw [e]
        omega
    · rw [if_neg hk];omega

-- LIB pdraw
/-- What a draw reads: at most 2000 bytes. -/
def Bytes (b : List Int) : Prop:=b.length ≤ 2000 ∧ ∀ x ∈ b,0 ≤ x ∧ x ≤ 255
theorem bits_xor_nonneg (a b : Int) (h1 : 0 ≤ a) (h2 : a < 4611686018427387904) (h3 : 0 ≤ b) (h4 : b < 4611686018427387904) : 0 ≤ Go.bits .xor .i64 a b:=by
  obtain ⟨A,rfl⟩:=Int.eq_ofNat_of_zero_le h1
  obtain ⟨B,rfl⟩:=Int.eq_ofNat_of_zero_le h3
  have hx : A ^^^ B < 2 ^ 62:=Nat.xor_lt_two_pow (by omega) (by omega)
  have eA : (BitVec.ofInt 64 (A : Int)).toNat = A:=by rw [BitVec.ofInt_natCast,BitVec.toNat_ofNat];exact Nat.mod_eq_of_lt (by omega)
  have eB : (BitVec.ofInt 64 (B : Int)).toNat = B:=by rw [BitVec.ofInt_natCast,BitVec.toNat_ofNat];exact Nat.mod_eq_of_lt (by omega)
  show 0 ≤ IntKind.i64.wrap ((BitVec.ofInt 64 (A : Int) ^^^ BitVec.ofInt 64 (B : Int)).toNat : Int)
  rw [BitVec.toNat_xor,eA,eB,IntKind.wrap_i64]
  omega
theorem open_ok (l : List Int) (h : ∀ x ∈ l,(Lit.int .u8 x).wf = true) : ∃ b,spec_l21Open.f l = some (b,0) ∧ Bytes b:=by
  have hb : ∀ x ∈ l,0 ≤ x ∧ x ≤ 255:=by
    intro x hx
    have h':=h x hx
    simp [Lit.wf,IntKind.min,IntKind.max,IntKind.signed,IntKind.bits] at h'
    omega
  unfold spec_l21Open.f
  by_cases hl : (l.length : Int) > 2000
  · rw [if_pos hl,if_pos (by omega)]
    exact ⟨_,rfl,by rw [List.length_take];omega,fun x hx => hb x (List.mem_of_mem_take hx)⟩
  · rw [if_neg hl]
    exact ⟨_,rfl,by omega,hb⟩
theorem rd_mem {b : List Int} {i : Int} (h0 : 0 ≤ i) (h1 : i < b.length) : rd b i ∈ b:=by
  obtain ⟨j,rfl⟩:=Int.eq_ofNat_of_zero_le h0
  rw [rd_get b j (by omega)]
  exact List.getElem_mem _
theorem tmod_range {a n : Int} (h0 : 0 ≤ a) (h1 : 1 ≤ n) : 0 ≤ Int.tmod a n ∧ Int.tmod a n < n:=by
  rw [Int.tmod_eq_emod_of_nonneg h0]
  exact ⟨Int.emod_nonneg _ (by omega),Int.emod_lt_of_pos _ (by omega)⟩
/-- A draw of a number below n. -/
theorem pick_ok {b : List Int} (hb : Bytes b) {p : Int} (n : Int) (h0 : 0 ≤ p) (h1 : p ≤ 1099511627776) :
    ∃ r,0 ≤ r ∧ (1 ≤ n → r < n) ∧ (n < 1 → r = 0) ∧ ∀ k,1 ≤ k → spec_l21Rd_pick.f k b p n = some (r,p + 1):=by
  have e1 : wrap64 (p + 1) = p + 1:=wrap_eq (by omega) (by omega)
  have e2 : wrap64 (p + 1 - 1) = p:=by rw [wrap_eq (by omega) (by omega)];omega
  by_cases hn : n < 1
  · refine ⟨0,by omega,fun h => by omega,fun _ => rfl,fun k hk => ?_⟩
    obtain ⟨k,rfl⟩ : ∃ m,k = m + 1:=⟨k - 1,by omega⟩
    unfold spec_l21Rd_pick.f
    simp only [spec_l21Rd_pick.j0]
    rw [if_pos hn,if_pos trivial,e1]
  by_cases hl : b.length = 0
  · refine ⟨0,by omega,fun h => by omega,fun _ => rfl,fun k hk => ?_⟩
    obtain ⟨k,rfl⟩ : ∃ m,k = m + 1:=⟨k - 1,by omega⟩
    unfold spec_l21Rd_pick.f
    simp only [spec_l21Rd_pick.j0]
    rw [if_neg hn,if_pos (by simp [hl]),e1]
  obtain ⟨hb1,hb2⟩:=hb
  have hl0 : ((b.length : Int) == 0) = false:=beq_eq_false_iff_ne.2 (by omega)
  by_cases hp : p < b.length
  · have hv:=hb2 _ (rd_mem h0 hp)
    have ht:=tmod_range hv.1 (show 1 ≤ n by omega)
    refine ⟨Int.tmod (rd b p) n,ht.1,fun _ => ht.2,fun h => by omega,fun k hk => ?_⟩
    obtain ⟨k,rfl⟩ : ∃ m,k = m + 1:=⟨k - 1,by omega⟩
    unfold spec_l21Rd_pick.f
    simp only [spec_l21Rd_pick.j0]
    rw [if_neg hn,hl0,if_neg (by decide),e1,e2,if_pos hp,if_pos h0,if_neg (by omega),wrap_eq (by omega) (by omega)]
  · have hi1:=tmod_range h0 (show (1 : Int) ≤ b.length by omega)
    have hi2:=tmod_range (show 0 ≤ p * 7 + 3 by omega) (show (1 : Int) ≤ b.length by omega)
    have e3 : wrap64 (wrap64 (p * 7) + 3) = p * 7 + 3:=by rw [wrap_eq (x:=p * 7) (by omega) (by omega),wrap_eq (by omega) (by omega)]
    have hv1:=hb2 _ (rd_mem hi1.1 hi1.2)
    have hv2:=hb2 _ (rd_mem hi2.1 hi2.2)
    have hd : Int.tdiv p b.length = p / b.length:=Int.tdiv_eq_ediv_of_nonneg h0
    have hd0 : 0 ≤ p / (b.length : Int):=Int.ediv_nonneg h0 (by omega)
    have hd1 : p / (b.length : Int) ≤ p:=Int.ediv_le_self _ h0
    generalize hx1 : rd b (Int.tmod p b.length) = v1 at hv1
    generalize hx2 : rd b (Int.tmod (p * 7 + 3) b.length) = v2 at hv2
    generalize hx3 : p / (b.length : Int) = q at hd hd0 hd1
    have e4 : wrap64 (wrap64 (wrap64 (wrap64 (wrap64 v1 * 131) + wrap64 (wrap64 v2 * 1117)) + wrap64 (p * 29)) + wrap64 (wrap64 q * 53)) = v1 * 131 + v2 * 1117 + p * 29 + q * 53:=by
      rw [wrap_eq (x:=v1) (by omega) (by omega),wrap_eq (x:=v2) (by omega) (by omega),wrap_eq (x:=q) (by omega) (by omega),wrap_eq (x:=v1 * 131) (by omega) (by omega),wrap_eq (x:=v2 * 1117) (by omega) (by omega),wrap_eq (x:=p * 29) (by omega) (by omega),wrap_eq (x:=q * 53) (by omega) (by omega),wrap_eq (x:=v1 * 131 + v2 * 1117) (by omega) (by omega),wrap_eq (x:=v1 * 131 + v2 * 1117 + p * 29) (by omega) (by omega),wrap_eq (by omega) (by omega)]
    have hX : 0 ≤ v1 * 131 + v2 * 1117 + p * 29 + q * 53 ∧ v1 * 131 + v2 * 1117 + p * 29 + q * 53 ≤ 4000000000000000:=by omega
    generalize v1 * 131 + v2 * 1117 + p * 29 + q * 53 = X at e4 hX
    have hY : Int.tdiv X 64 = X / 64:=Int.tdiv_eq_ediv_of_nonneg hX.1
    have e5 : wrap64 (X / 64) = X / 64:=wrap_eq (by omega) (by omega)
    have hZ:=bits_xor_nonneg X (X / 64) hX.1 (by omega) (by omega) (by omega)
    have ht:=tmod_range hZ (show 1 ≤ n by omega)
    refine ⟨Int.tmod (Go.bits .xor .i64 X (X / 64)) n,ht.1,fun _ => ht.2,fun h => by omega,fun k hk => ?_⟩
    obtain ⟨k,rfl⟩ : ∃ m,k = m + 1:=⟨k - 1,by omega⟩
    unfold spec_l21Rd_pick.f
    simp only [spec_l21Rd_pick.j0]
    rw [if_neg hn,hl0,if_neg (by decide),e1,e2,e3,if_neg hp,if_neg (by omega),if_pos hi1.1,if_pos hi1.2,if_pos hi2.1,if_pos hi2.2,if_neg (by omega),hx1,hx2,hd,e4,hY,e5]
/-- A draw of one of a list's numbers. -/
theorem num_ok {b : List Int} (hb : Bytes b) {p : Int} (l : List Int) (h0 : 0 ≤ p) (h1 : p ≤ 1099511627776) (hl : 0 < l.length) :
    ∃ x,x ∈ l ∧ ∀ k,1 ≤ k → spec_l21Rd_num.f k b p l = some (x,p + 1):=by
  obtain ⟨r,hr0,hr1,_,hr⟩:=pick_ok hb (l.length : Int) h0 h1
  have hr2:=hr1 (by omega)
  refine ⟨rd l r,rd_mem hr0 hr2,fun k hk => ?_⟩
  unfold spec_l21Rd_num.f
  rw [hr k hk,Option.bind_some]
  simp only []
  rw [if_pos hr0,if_pos hr2]

end Go.Proofs.Ytdpnloibbimblaa.PAll

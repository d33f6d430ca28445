/- Proved here: contracts of functions of the given program, or lemmas on them, for the laws of this seat. Written by xprint.py, a program of this session, on the ground of the kit's print; parts by hand: wip/x/ext. -/
import Derived.Test.YtdpnloibbimblaaPAllx0
namespace Go.Proofs.Ytdpnloibbimblaa.PAll
open Go.RowKit Go.Proofs.YtdpnloibbimblaaW.PrintWords Go.Proofs.YtdpnloibbimblaaW.PrintLast Go.Proofs.YtdpnloibbimblaaW.PrintMore
attribute [local go_sem] max2_int min2_int max_two min_two max_three min_three max_four min_four   -- for this text's walks alone
set_option linter.unusedVariables false
set_option linter.unusedSimpArgs false

/-- A state of type 68 at block g of W; what its slices lead to came in by w0. -/
def IsS68 (w0 W : World) (g : Nat) (f0 : List Int) (f1 : Int) : Prop:=∃ A0 c0,W.heap[g]? = some (.cells #[.slice A0 f0.length c0,.int .i64 f1] 68 (0,0)) ∧ w0.heap.size ≤ g ∧ Kd.C (Kd.int .u8) w0 A0 f0.length f0
theorem IsS68.grown {w0 W : World} {g : Nat} {f0 : List Int} {f1 : Int} {W1 : World} {row : Option Nat} (h : IsS68 w0 W g f0 f1) (hw : W.grownBy W1 row) (hne : some g ≠ row) : IsS68 w0 W1 g f0 f1:=by
  obtain ⟨A0,c0,hb,hg,hr0⟩:=h
  exact ⟨A0,c0,blk_grown hb hw hne,hg,hr0⟩
theorem IsS68.own_neN {w0 W : World} {g : Nat} {f0 : List Int} {f1 : Int} {α : Type} {d : Kd α} {e : Nat} {base : Nat} {ok : Nat → Prop} {v : Value} {xs : List α} (h : IsS68 w0 W g f0 f1) (ho : Kd.N d e W base ok v xs) (ht : e ≠ 68) : some g ≠ v.ownBlock:=by
  obtain ⟨A0,c0,hb,hg,hr0⟩:=h
  exact Kd.N_ne ho hb ht
theorem IsS68.fresh {w0 W : World} {g : Nat} {f0 : List Int} {f1 : Int} (h : IsS68 w0 W g f0 f1) : ∀ k,W.heap.size ≤ k → k ≠ g:=by
  obtain ⟨A0,c0,hb,hg,hr0⟩:=h
  exact Kd.freshB hb
theorem IsS68.kept {w0 W : World} {g : Nat} {f0 : List Int} {f1 : Int} {W1 : World} {S : Nat → Prop} (h : IsS68 w0 W g f0 f1) (hk : Kept W W1 S) (hne : ¬ S g) : IsS68 w0 W1 g f0 f1:=by
  obtain ⟨A0,c0,hb,hg,hr0⟩:=h
  exact ⟨A0,c0,blk_kept hb hk hne,hg,hr0⟩
theorem IsS68.below {w0 W : World} {g : Nat} {f0 : List Int} {f1 : Int} {W1 : World} (h : IsS68 w0 W g f0 f1) (hw : Below W.heap.size W W1) : IsS68 w0 W1 g f0 f1:=h.grown (grown_of_below hw none) (by simp)
theorem IsS68.alloc {w0 W : World} {g : Nat} {f0 : List Int} {f1 : Int} (h : IsS68 w0 W g f0 f1) (o : Obj) : IsS68 w0 (W.alloc o) g f0 f1:=h.below (below_alloc (Below.refl _ _) o)
theorem IsS68.drewN {w0 W : World} {g : Nat} {f0 : List Int} {f1 : Int} (h : IsS68 w0 W g f0 f1) (m : Nat) : IsS68 w0 (W.drewN m) g f0 f1:=h
theorem IsS68.drew {w0 W : World} {g : Nat} {f0 : List Int} {f1 : Int} (h : IsS68 w0 W g f0 f1) : IsS68 w0 W.drew g f0 f1:=h
theorem IsS68.at_ {w0 W : World} {g : Nat} {f0 : List Int} {f1 : Int} {w' : World} {m : Nat} (hq : W.drewN m = w') (h : IsS68 w0 W g f0 f1) : IsS68 w0 w' g f0 f1:=by subst hq;exact IsS68.drewN h m
theorem IsS68.apart {w0 W : World} {g : Nat} {f0 : List Int} {f1 : Int} {α : Type} {d : Kd α} {e : Nat} {base : Nat} {ok : Nat → Prop} {v : Value} {xs : List α} (h : IsS68 w0 W g f0 f1) (ho : d.R e W base ok v xs) (ht : ∀ q,q ∈ e :: d.E → q ≠ 68) : d.R e W base (fun k => ok k ∧ k ≠ g) v xs:=by
  obtain ⟨A0,c0,hb,hg,hr0⟩:=h
  exact Kd.R_types ho hb ht
theorem IsS68.own_ne {w0 W : World} {g : Nat} {f0 : List Int} {f1 : Int} {α : Type} {d : Kd α} {e : Nat} {base : Nat} {ok : Nat → Prop} {v : Value} {xs : List α} (h : IsS68 w0 W g f0 f1) (ho : d.R e W base ok v xs) (ht : e ≠ 68) : some g ≠ v.ownBlock:=by
  obtain ⟨A0,c0,hb,hg,hr0⟩:=h
  exact Kd.R_ne ho hb ht
theorem IsS68.apartQ {w0 W : World} {g : Nat} {f0 : List Int} {f1 : Int} {α : Type} {d : Kd α} {e : Nat} {base : Nat} {ok : Nat → Prop} {v : Value} {xs : List α} (h : IsS68 w0 W g f0 f1) (ho : d.Q e W base ok v xs) (ht : ∀ q,q ∈ e :: d.E → q ≠ 68) : d.Q e W base (fun k => ok k ∧ k ≠ g) v xs:=by
  obtain ⟨A0,c0,hb,hg,hr0⟩:=h
  exact Kd.Q_types ho hb ht
theorem IsS68.own_neQ {w0 W : World} {g : Nat} {f0 : List Int} {f1 : Int} {α : Type} {d : Kd α} {e : Nat} {base : Nat} {ok : Nat → Prop} {v : Value} {xs : List α} (h : IsS68 w0 W g f0 f1) (ho : d.Q e W base ok v xs) (ht : e ≠ 68) : some g ≠ v.ownBlock:=by
  obtain ⟨A0,c0,hb,hg,hr0⟩:=h
  exact Kd.Q_ne ho hb ht
theorem IsS68.apartS {w0 W : World} {g : Nat} {f0 : List Int} {f1 : Int} {α : Type} {d : Kd α} {e : Nat} {base : Nat} {ok : Nat → Prop} {v : Value} {xs : List α} (h : IsS68 w0 W g f0 f1) (ho : d.S e W base ok v xs) (ht : ∀ q,q ∈ e :: d.E → q ≠ 68) : d.S e W base (fun k => ok k ∧ k ≠ g) v xs:=by
  obtain ⟨A0,c0,hb,hg,hr0⟩:=h
  exact Kd.S_types ho hb ht
theorem IsS68.own_neS {w0 W : World} {g : Nat} {f0 : List Int} {f1 : Int} {α : Type} {d : Kd α} {e : Nat} {base : Nat} {ok : Nat → Prop} {v : Value} {xs : List α} (h : IsS68 w0 W g f0 f1) (ho : d.S e W base ok v xs) (ht : e ≠ 68) : some g ≠ v.ownBlock:=by
  obtain ⟨A0,c0,hb,hg,hr0⟩:=h
  exact Kd.S_ne ho hb ht
theorem IsS68.lt {w0 W : World} {g : Nat} {f0 : List Int} {f1 : Int} (h : IsS68 w0 W g f0 f1) : g < W.heap.size:=by
  obtain ⟨A0,c0,hb,hg,hr0⟩:=h
  exact blk_lt hb
theorem IsS68.ge {w0 W : World} {g : Nat} {f0 : List Int} {f1 : Int} (h : IsS68 w0 W g f0 f1) : w0.heap.size ≤ g:=by
  obtain ⟨A0,c0,hb,hg,hr0⟩:=h
  exact hg
theorem IsS68.ne_blk {w0 W : World} {g : Nat} {f0 : List Int} {f1 : Int} {a : Nat} {cs : Array Value} {t : TypeId} {fr : Nat × Nat} (h : IsS68 w0 W g f0 f1) (hb2 : W.heap[a]? = some (.cells cs t fr)) (ht : t ≠ 68) : g ≠ a:=by
  obtain ⟨A0,c0,hb,hg,hr0⟩:=h
  rintro rfl
  rw [hb] at hb2
  injection hb2 with hb2
  injection hb2 with _ ht2
  exact ht ht2.symm
theorem IsS68.far {w0 W : World} {g : Nat} {f0 : List Int} {f1 : Int} {p : Addr} (h : IsS68 w0 W g f0 f1) (hne : g ≠ p.block) (u : Value) : IsS68 w0 (W.setCell p u) g f0 f1:=by
  obtain ⟨A0,c0,hb,hg,hr0⟩:=h
  exact ⟨A0,c0,blk_far hb hne u,hg,hr0⟩
theorem cellS68_0 {W : World} {g : Nat} {A0 : Option Addr} {c0 : Nat} {f0 : List Int} {f1 : Int} (h : W.heap[g]? = some (.cells #[.slice A0 f0.length c0,.int .i64 f1] 68 (0,0))) : W.cell? ⟨g,0,none⟩ = some (.slice A0 f0.length c0):=(blk_cell h 0).trans rfl
theorem cellS68_1 {W : World} {g : Nat} {A0 : Option Addr} {c0 : Nat} {f0 : List Int} {f1 : Int} (h : W.heap[g]? = some (.cells #[.slice A0 f0.length c0,.int .i64 f1] 68 (0,0))) : W.cell? ⟨g,1,none⟩ = some (.int .i64 f1):=(blk_cell h 1).trans rfl
theorem IsS68.set_1 {w0 W : World} {g : Nat} {f0 : List Int} {f1 : Int} (h : IsS68 w0 W g f0 f1) (x : Int) : IsS68 w0 (W.setCell ⟨g,1,none⟩ (.int .i64 x)) g f0 x:=by
  obtain ⟨A0,c0,hb,hg,hr0⟩:=h
  exact ⟨A0,c0,by simpa using blk_set hb 1 (.int .i64 x),hg,hr0⟩
theorem IsS68.new (w0 W : World) (A0 : Option Addr) (c0 : Nat) (f0 : List Int) (f1 : Int) (hB : Below w0.heap.size w0 W) (hr0 : Kd.C (Kd.int .u8) w0 A0 f0.length f0) : IsS68 w0 (W.alloc (.cells #[.slice A0 f0.length c0,.int .i64 f1] 68)) W.heap.size f0 f1:=⟨A0,c0,by simpa using heap_alloc_new W _,hB.size,hr0⟩

/-! ### spec_l21Rd_pick: function 49 -/
def spec_l21Rd_pick.j0 : Nat → Int → Bool → List Int → Int → Option (Int × Int)
 | 0,_,_,_,_ => none
 | k + 1,x1,x24,x1000,x1001 => if x24 = true then (some (0,x1001)) else (if (wrap64 (x1001 - 1)) < (x1000.length : Int) then (if 0 ≤ (wrap64 (x1001 - 1)) then (if x1 = 0 then (none) else (some (Int.tmod (wrap64 (rd x1000 (wrap64 (x1001 - 1)))) x1,x1001))) else (none)) else (if (x1000.length : Int) = 0 then (none) else (if 0 ≤ (Int.tmod (wrap64 (x1001 - 1)) (x1000.length : Int)) then (if (Int.tmod (wrap64 (x1001 - 1)) (x1000.length : Int)) < (x1000.length : Int) then (if 0 ≤ (Int.tmod (wrap64 ((wrap64 ((wrap64 (x1001 - 1)) * 7)) + 3)) (x1000.length : Int)) then (if (Int.tmod (wrap64 ((wrap64 ((wrap64 (x1001 - 1)) * 7)) + 3)) (x1000.length : Int)) < (x1000.length : Int) then (if x1 = 0 then (none) else (some (Int.tmod (Go.bits .xor .i64 (wrap64 ((wrap64 ((wrap64 ((wrap64 ((wrap64 (rd x1000 (Int.tmod (wrap64 (x1001 - 1)) (x1000.length : Int)))) * 131)) + (wrap64 ((wrap64 (rd x1000 (Int.tmod (wrap64 ((wrap64 ((wrap64 (x1001 - 1)) * 7)) + 3)) (x1000.length : Int)))) * 1117)))) + (wrap64 ((wrap64 (x1001 - 1)) * 29)))) + (wrap64 ((wrap64 (Int.tdiv (wrap64 (x1001 - 1)) (x1000.length : Int))) * 53)))) (wrap64 (Int.tdiv (wrap64 ((wrap64 ((wrap64 ((wrap64 ((wrap64 (rd x1000 (Int.tmod (wrap64 (x1001 - 1)) (x1000.length : Int)))) * 131)) + (wrap64 ((wrap64 (rd x1000 (Int.tmod (wrap64 ((wrap64 ((wrap64 (x1001 - 1)) * 7)) + 3)) (x1000.length : Int)))) * 1117)))) + (wrap64 ((wrap64 (x1001 - 1)) * 29)))) + (wrap64 ((wrap64 (Int.tdiv (wrap64 (x1001 - 1)) (x1000.length : Int))) * 53)))) 64))) x1,x1001))) else (none)) else (none)) else (none)) else (none))))
def spec_l21Rd_pick.f (k : Nat) (s0_0 : List Int) (s0_1 : Int) (a1 : Int) : Option (Int × Int):=if a1 < 1 then (spec_l21Rd_pick.j0 k a1 true s0_0 (wrap64 (s0_1 + 1))) else (spec_l21Rd_pick.j0 k a1 ((s0_0.length : Int) == 0) s0_0 (wrap64 (s0_1 + 1)))
theorem spec_l21Rd_pick.mono_l : ∀ k,(∀ y0 y1 y2 y3,LeO (spec_l21Rd_pick.j0 k y0 y1 y2 y3) (spec_l21Rd_pick.j0 (k + 1) y0 y1 y2 y3))
 | 0 => fun _ _ _ _ r h => by simp [spec_l21Rd_pick.j0] at h
 | k + 1 => by
  have ih0:=spec_l21Rd_pick.mono_l k
  ·intro y0 y1 y2 y3
   unfold spec_l21Rd_pick.j0
   repeat' first
   | (with_reducible exact ih0 _ _ _ _)
   | (with_reducible exact LeO.refl _)
   | (with_reducible exact LeO.none _)
   | (with_reducible refine LeO.ite ?_ ?_)
   | (with_reducible refine LeO.bind ?_ (fun _ => ?_))
   | exact ih0 _ _ _ _
   | exact LeO.none _
   | refine LeO.ite ?_ ?_
   | refine LeO.bind ?_ (fun _ => ?_)
theorem spec_l21Rd_pick.mono : ∀ a0 a1 a2 k,LeO (spec_l21Rd_pick.f k a0 a1 a2) (spec_l21Rd_pick.f (k + 1) a0 a1 a2):=by
 intro a0 a1 a2 k
 have ih0:=spec_l21Rd_pick.mono_l k
 unfold spec_l21Rd_pick.f
 repeat' first
   | (with_reducible exact ih0 _ _ _ _)
   | (with_reducible exact LeO.refl _)
   | (with_reducible exact LeO.none _)
   | (with_reducible refine LeO.ite ?_ ?_)
   | (with_reducible refine LeO.bind ?_ (fun _ => ?_))
   | exact ih0 _ _ _ _
   | exact LeO.none _
   | refine LeO.ite ?_ ?_
   | refine LeO.bind ?_ (fun _ => ?_)
set_option maxHeartbeats 8000000 in
set_option maxRecDepth 100000 in
theorem spec_l21Rd_pick.calls (k : Nat) (g : Nat) (s0_0 : List Int) (s0_1 : Int) (a1 : Int) (r1 : Int) (r2 : Int) (w0 w : World) (hI : IsS68 w0 w g s0_0 s0_1) (hB : Below w0.heap.size w0 w) (h : spec_l21Rd_pick.f k s0_0 s0_1 a1 = some (r1,r2)) :
  Calls Try.prog 49 #[.pointer (some ⟨g,0,none⟩),.int .i64 a1] w fun e w' => e = .returned (.int .i64 r1) ∧ IsS68 w0 w' g s0_0 r2 ∧ Below w0.heap.size w0 w' ∧ KeepBut w w' g none:=by
 have HI0:=mk_ hI
 have HK:=mk_ (KeepBut.refl w g none)
 have HL:=mk_ hB.size
 clear hI
 have HW0:=mk_ hB.size
 have HB:=mk_ hB
 clear hB
 have H : (if a1 < 1 then (spec_l21Rd_pick.j0 k a1 true s0_0 (wrap64 (s0_1 + 1))) else (spec_l21Rd_pick.j0 k a1 ((s0_0.length : Int) == 0) s0_0 (wrap64 (s0_1 + 1)))) = some (r1,r2):=h
 clear h
 have HC3:=mk_ H
 clear H
 obtain ⟨ASz4_0,cSz4_0,HGz4,hgz4,HSz4_0⟩:=HI0.out
 have hcz4_0:=cellS68_0 HGz4
 have hcz4_1:=cellS68_1 HGz4
 have hfz4_1:=bf_ HGz4 1
 clear HGz4 hgz4
 go_enter Try.func49,Try.ntmps49
 go_upto_region 2 with (fail)
 repeat (go_quiet (fail);go_upto_region 2 with (fail))
 go_cut [24] (fun v24 wc => ∃ (kq : Nat) (x24_2 : Bool),v24 = .bool x24_2 ∧ Aside0 (spec_l21Rd_pick.j0 kq a1 x24_2 s0_0 (wrap64 (s0_1 + 1)) = some (r1,r2)) ∧ Aside0 (kq ≤ k) ∧ Aside0 (IsS68 w0 wc g s0_0 (wrap64 (s0_1 + 1))) ∧ Aside0 (KeepBut w wc g none) ∧ Aside0 (Below w0.heap.size w0 wc))
 case first =>
  have H:=HC3.out
  clear HC3
  by_cases c5 : a1 < 1
  ·rw [if_pos c5] at H
   have c5b0 : decide (a1 < 1) = true:=decide_eq_true c5
   clear c5
   (first|rw [c5b0]|(simp only [i64_w,i32_w];rw [c5b0])|skip)
   have H':=mk_ H
   clear H
   go_wp2
   repeat (go_quiet (fail);try go_wp2)
   go_meet
   case rel => exact ⟨_,(true),qf_,H',⟨by first|omega|exact Nat.le_refl _⟩,⟨u0_ HI0⟩,⟨u1_ HK⟩,⟨u2_ HB HI0⟩⟩
  ·rw [if_neg c5] at H
   have c5b0 : decide (a1 < 1) = false:=decide_eq_false c5
   clear c5
   (first|rw [c5b0]|(simp only [i64_w,i32_w];rw [c5b0])|skip)
   have H':=mk_ H
   clear H
   obtain ⟨ASz6_0,cSz6_0,HGz6,hgz6,HSz6_0⟩:=HI0.out
   have hcz6_0:=cellS68_0 HGz6
   have hcz6_1:=cellS68_1 HGz6
   have hfz6_1:=bf_ HGz6 1
   clear HGz6 hgz6
   go_wp2
   repeat (go_quiet (fail);try go_wp2)
   go_meet
   case rel => exact ⟨_,(((s0_0.length : Int) == 0)),qf_,H',⟨by first|omega|exact Nat.le_refl _⟩,⟨u0_ HI0⟩,⟨u1_ HK⟩,⟨u2_ HB HI0⟩⟩
 case rest =>
  clear HC3
  try clear p2
  try clear c4
  try clear c5
  try clear c5b0
  try clear p6
  try clear hcz4_0
  try clear hcz4_1
  try clear hcz6_0
  try clear hcz6_1
  try clear hfz4_1
  try clear hfz6_1
  obtain ⟨kq,x24_2,rfl,HA,HJ2,HI0,HK,HB⟩:=hcut
  cases kq with
  | zero => exact absurd HA.out (by simp [spec_l21Rd_pick.j0])
  | succ kj2 =>
   have H:=HA.out
   clear HA
   simp only [spec_l21Rd_pick.j0] at H
   by_cases c7 : x24_2 = true
   ·subst c7
    have H1 : (some (0,(wrap64 (s0_1 + 1)))) = some (r1,r2):=by rw [if_pos rfl] at H;exact H
    clear H
    have H:=H1
    clear H1
    simp only [Option.some.injEq,Prod.mk.injEq] at H
    obtain ⟨rfl,rfl⟩:=H
    go_wp2
    repeat (go_quiet (fail);try go_wp2)
    go_ret
    exact ⟨qe_,u0_ HI0,u2_ HB HI0,u1_ HK⟩
   ·replace c7:=Bool.eq_false_iff.mpr c7
    subst c7
    have H1 : (if (wrap64 ((wrap64 (s0_1 + 1)) - 1)) < (s0_0.length : Int) then (if 0 ≤ (wrap64 ((wrap64 (s0_1 + 1)) - 1)) then (if a1 = 0 then (none) else (some (Int.tmod (wrap64 (rd s0_0 (wrap64 ((wrap64 (s0_1 + 1)) - 1)))) a1,(wrap64 (s0_1 + 1))))) else (none)) else (if (s0_0.length : Int) = 0 then (none) else (if 0 ≤ (Int.tmod (wrap64 ((wrap64 (s0_1 + 1)) - 1)) (s0_0.length : Int)) then (if (Int.tmod (wrap64 ((wrap64 (s0_1 + 1)) - 1)) (s0_0.length : Int)) < (s0_0.length : Int) then (if 0 ≤ (Int.tmod (wrap64 ((wrap64 ((wrap64 ((wrap64 (s0_1 + 1)) - 1)) * 7)) + 3)) (s0_0.length : Int)) then (if (Int.tmod (wrap64 ((wrap64 ((wrap64 ((wrap64 (s0_1 + 1)) - 1)) * 7)) + 3)) (s0_0.length : Int)) < (s0_0.length : Int) then (if a1 = 0 then (none) else (some (Int.tmod (Go.bits .xor .i64 (wrap64 ((wrap64 ((wrap64 ((wrap64 ((wrap64 (rd s0_0 (Int.tmod (wrap64 ((wrap64 (s0_1 + 1)) - 1)) (s0_0.length : Int)))) * 131)) + (wrap64 ((wrap64 (rd s0_0 (Int.tmod (wrap64 ((wrap64 ((wrap64 ((wrap64 (s0_1 + 1)) - 1)) * 7)) + 3)) (s0_0.length : Int)))) * 1117)))) + (wrap64 ((wrap64 ((wrap64 (s0_1 + 1)) - 1)) * 29)))) + (wrap64 ((wrap64 (Int.tdiv (wrap64 ((wrap64 (s0_1 + 1)) - 1)) (s0_0.length : Int))) * 53)))) (wrap64 (Int.tdiv (wrap64 ((wrap64 ((wrap64 ((wrap64 ((wrap64 (rd s0_0 (Int.tmod (wrap64 ((wrap64 (s0_1 + 1)) - 1)) (s0_0.length : Int)))) * 131)) + (wrap64 ((wrap64 (rd s0_0 (Int.tmod (wrap64 ((wrap64 ((wrap64 ((wrap64 (s0_1 + 1)) - 1)) * 7)) + 3)) (s0_0.length : Int)))) * 1117)))) + (wrap64 ((wrap64 ((wrap64 (s0_1 + 1)) - 1)) * 29)))) + (wrap64 ((wrap64 (Int.tdiv (wrap64 ((wrap64 (s0_1 + 1)) - 1)) (s0_0.length : Int))) * 53)))) 64))) a1,(wrap64 (s0_1 + 1))))) else (none)) else (none)) else (none)) else (none)))) = some (r1,r2):=by rw [if_neg (show ¬ (false = true) by decide)] at H;exact H
    clear H
    have H:=H1
    clear H1
    by_cases c8 : (wrap64 ((wrap64 (s0_1 + 1)) - 1)) < (s0_0.length : Int)
    ·rw [if_pos c8] at H
     have c8b0 : decide ((wrap64 ((wrap64 (s0_1 + 1)) - 1)) < (s0_0.length : Int)) = true:=decide_eq_true c8
     clear c8
     obtain ⟨ji9,hji9⟩ : ∃ j_ : Int,(wrap64 ((wrap64 (s0_1 + 1)) - 1)) = j_:=⟨_,rfl⟩
     replace H : (if 0 ≤ (ji9) then (if a1 = 0 then (none) else (some (Int.tmod (wrap64 (rd s0_0 (ji9))) a1,(wrap64 (s0_1 + 1))))) else (none)) = some (r1,r2):=by first|(rw [hji9] at H;exact H)|(simp only [hji9] at H ⊢;exact H)
     (try rw [hji9] at c8b0)
     have hji9w : (IntKind.i64.wrap ((wrap64 (s0_1 + 1)) - 1)) = ji9:=(i64_w _).trans hji9
     by_cases c10 : 0 ≤ (ji9)
     ·rw [if_pos c10] at H
      have c10b0 : decide (0 ≤ (ji9)) = true:=decide_eq_true c10
      clear c10
      by_cases c11 : a1 = 0
      ·rw [if_pos c11] at H
       exact absurd H (by simp)
      ·rw [if_neg c11] at H
       have c11b0 : (a1 == 0) = false:=beq_eq_false_iff_ne.mpr c11
       have c11b1 : (a1 != 0) = true:=bne_iff_ne.mpr c11
       simp only [Option.some.injEq,Prod.mk.injEq] at H
       obtain ⟨rfl,rfl⟩:=H
       obtain ⟨ASz12_0,cSz12_0,HGz12,hgz12,HSz12_0⟩:=HI0.out
       have hcz12_0:=cellS68_0 HGz12
       have hcz12_1:=cellS68_1 HGz12
       have hfz12_1:=bf_ HGz12 1
       clear HGz12 hgz12
       have p101 : 0 ≤ ((ji9) : Int):=od_ qa_
       have q101 : (ji9) < (s0_0.length : Int):=od_ qa_
       obtain ⟨ad101,e101,hx101_0⟩:=Kd.at_int HSz12_0 (ji9) p101 q101
       cases e101
       replace hx101_0:=pw_cell_below HB.out hx101_0
       replace p101:=eq_true p101
       replace q101:=eq_true q101
       go_wp2
       repeat (go_quiet (fail);try go_wp2)
       go_ret
       exact ⟨by first|rfl|(simp [errW_none,errW_some] <;> rfl)|(simp only [← hji9];first|rfl|(simp [errW_none,errW_some] <;> rfl))|(simp [*,errW_none,errW_some] <;> rfl),u0_ HI0,u2_ HB HI0,u1_ HK⟩
     ·rw [if_neg c10] at H
      exact absurd H (by simp)
    ·rw [if_neg c8] at H
     have c8b0 : decide ((wrap64 ((wrap64 (s0_1 + 1)) - 1)) < (s0_0.length : Int)) = false:=decide_eq_false c8
     clear c8
     by_cases c13 : (s0_0.length : Int) = 0
     ·rw [if_pos c13] at H
      exact absurd H (by simp)
     ·rw [if_neg c13] at H
      have c13b0 : ((s0_0.length : Int) == 0) = false:=beq_eq_false_iff_ne.mpr c13
      have c13b1 : ((s0_0.length : Int) != 0) = true:=bne_iff_ne.mpr c13
      have c13b2 : ¬ (s0_0 = []):=fun h_ => c13 (by rw [h_];rfl)
      obtain ⟨ji14,hji14⟩ : ∃ j_ : Int,(Int.tmod (wrap64 ((wrap64 (s0_1 + 1)) - 1)) (s0_0.length : Int)) = j_:=⟨_,rfl⟩
      replace H : (if 0 ≤ (ji14) then (if (ji14) < (s0_0.length : Int) then (if 0 ≤ (Int.tmod (wrap64 ((wrap64 ((wrap64 ((wrap64 (s0_1 + 1)) - 1)) * 7)) + 3)) (s0_0.length : Int)) then (if (Int.tmod (wrap64 ((wrap64 ((wrap64 ((wrap64 (s0_1 + 1)) - 1)) * 7)) + 3)) (s0_0.length : Int)) < (s0_0.length : Int) then (if a1 = 0 then (none) else (some (Int.tmod (Go.bits .xor .i64 (wrap64 ((wrap64 ((wrap64 ((wrap64 ((wrap64 (rd s0_0 (ji14))) * 131)) + (wrap64 ((wrap64 (rd s0_0 (Int.tmod (wrap64 ((wrap64 ((wrap64 ((wrap64 (s0_1 + 1)) - 1)) * 7)) + 3)) (s0_0.length : Int)))) * 1117)))) + (wrap64 ((wrap64 ((wrap64 (s0_1 + 1)) - 1)) * 29)))) + (wrap64 ((wrap64 (Int.tdiv (wrap64 ((wrap64 (s0_1 + 1)) - 1)) (s0_0.length : Int))) * 53)))) (wrap64 (Int.tdiv (wrap64 ((wrap64 ((wrap64 ((wrap64 ((wrap64 (rd s0_0 (ji14))) * 131)) + (wrap64 ((wrap64 (rd s0_0 (Int.tmod (wrap64 ((wrap64 ((wrap64 ((wrap64 (s0_1 + 1)) - 1)) * 7)) + 3)) (s0_0.length : Int)))) * 1117)))) + (wrap64 ((wrap64 ((wrap64 (s0_1 + 1)) - 1)) * 29)))) + (wrap64 ((wrap64 (Int.tdiv (wrap64 ((wrap64 (s0_1 + 1)) - 1)) (s0_0.length : Int))) * 53)))) 64))) a1,(wrap64 (s0_1 + 1))))) else (none)) else (none)) else (none)) else (none)) = some (r1,r2):=by first|(rw [hji14] at H;exact H)|(simp only [hji14] at H ⊢;exact H)
      by_cases c15 : 0 ≤ (ji14)
      ·rw [if_pos c15] at H
       have c15b0 : decide (0 ≤ (ji14)) = true:=decide_eq_true c15
       clear c15
       by_cases c16 : (ji14) < (s0_0.length : Int)
       ·rw [if_pos c16] at H
        have c16b0 : decide ((ji14) < (s0_0.length : Int)) = true:=decide_eq_true c16
        clear c16
        obtain ⟨ji17,hji17⟩ : ∃ j_ : Int,(Int.tmod (wrap64 ((wrap64 ((wrap64 ((wrap64 (s0_1 + 1)) - 1)) * 7)) + 3)) (s0_0.length : Int)) = j_:=⟨_,rfl⟩
        replace H : (if 0 ≤ (ji17) then (if (ji17) < (s0_0.length : Int) then (if a1 = 0 then (none) else (some (Int.tmod (Go.bits .xor .i64 (wrap64 ((wrap64 ((wrap64 ((wrap64 ((wrap64 (rd s0_0 (ji14))) * 131)) + (wrap64 ((wrap64 (rd s0_0 (ji17))) * 1117)))) + (wrap64 ((wrap64 ((wrap64 (s0_1 + 1)) - 1)) * 29)))) + (wrap64 ((wrap64 (Int.tdiv (wrap64 ((wrap64 (s0_1 + 1)) - 1)) (s0_0.length : Int))) * 53)))) (wrap64 (Int.tdiv (wrap64 ((wrap64 ((wrap64 ((wrap64 ((wrap64 (rd s0_0 (ji14))) * 131)) + (wrap64 ((wrap64 (rd s0_0 (ji17))) * 1117)))) + (wrap64 ((wrap64 ((wrap64 (s0_1 + 1)) - 1)) * 29)))) + (wrap64 ((wrap64 (Int.tdiv (wrap64 ((wrap64 (s0_1 + 1)) - 1)) (s0_0.length : Int))) * 53)))) 64))) a1,(wrap64 (s0_1 + 1))))) else (none)) else (none)) = some (r1,r2):=by first|(rw [hji17] at H;exact H)|(simp only [hji17] at H ⊢;exact H)
        by_cases c18 : 0 ≤ (ji17)
        ·rw [if_pos c18] at H
         have c18b0 : decide (0 ≤ (ji17)) = true:=decide_eq_true c18
         clear c18
         by_cases c19 : (ji17) < (s0_0.length : Int)
         ·rw [if_pos c19] at H
          have c19b0 : decide ((ji17) < (s0_0.length : Int)) = true:=decide_eq_true c19
          clear c19
          by_cases c20 : a1 = 0
          ·rw [if_pos c20] at H
           exact absurd H (by simp)
          ·rw [if_neg c20] at H
           have c20b0 : (a1 == 0) = false:=beq_eq_false_iff_ne.mpr c20
           have c20b1 : (a1 != 0) = true:=bne_iff_ne.mpr c20
           simp only [Option.some.injEq,Prod.mk.injEq] at H
           obtain ⟨rfl,rfl⟩:=H
           obtain ⟨ASz21_0,cSz21_0,HGz21,hgz21,HSz21_0⟩:=HI0.out
           have hcz21_0:=cellS68_0 HGz21
           have hcz21_1:=cellS68_1 HGz21
           have hfz21_1:=bf_ HGz21 1
           clear HGz21 hgz21
           have p102 : 0 ≤ ((ji14) : Int):=od_ qa_
           have q102 : (ji14) < (s0_0.length : Int):=od_ qa_
           obtain ⟨ad102,e102,hx102_0⟩:=Kd.at_int HSz21_0 (ji14) p102 q102
           cases e102
           replace hx102_0:=pw_cell_below HB.out hx102_0
           replace p102:=eq_true p102
           replace q102:=eq_true q102
           have p103 : 0 ≤ ((ji17) : Int):=od_ qa_
           have q103 : (ji17) < (s0_0.length : Int):=od_ qa_
           obtain ⟨ad103,e103,hx103_0⟩:=Kd.at_int HSz21_0 (ji17) p103 q103
           obtain rfl : ad102 = ad103:=(by injection e103)
           replace hx103_0:=pw_cell_below HB.out hx103_0
           replace p103:=eq_true p103
           replace q103:=eq_true q103
           go_wp2
           repeat (go_quiet (fail);try go_wp2)
           go_ret
           exact ⟨by first|rfl|(simp [errW_none,errW_some] <;> rfl)|(simp only [← hji14,← hji17];first|rfl|(simp [errW_none,errW_some] <;> rfl))|(simp [*,errW_none,errW_some] <;> rfl),u0_ HI0,u2_ HB HI0,u1_ HK⟩
         ·rw [if_neg c19] at H
          exact absurd H (by simp)
        ·rw [if_neg c18] at H
         exact absurd H (by simp)
       ·rw [if_neg c16] at H
        exact absurd H (by simp)
      ·rw [if_neg c15] at H
       exact absurd H (by simp)

/-! ### spec_l21Rd_num: function 41 -/
def spec_l21Rd_num.f (k : Nat) (s0_0 : List Int) (s0_1 : Int) (l1 : List Int) : Option (Int × Int):=(spec_l21Rd_pick.f k s0_0 s0_1 (l1.length : Int)).bind fun bt104 => (if 0 ≤ bt104.1 then (if bt104.1 < (l1.length : Int) then (some (rd l1 bt104.1,bt104.2)) else (none)) else (none))
theorem spec_l21Rd_num.mono : ∀ a0 a1 a2 k,LeO (spec_l21Rd_num.f k a0 a1 a2) (spec_l21Rd_num.f (k + 1) a0 a1 a2):=by
 intro a0 a1 a2 k
 unfold spec_l21Rd_num.f
 repeat' first
   | (with_reducible exact spec_l21Rd_pick.mono _ _ _ _)
   | (with_reducible exact LeO.refl _)
   | (with_reducible exact LeO.none _)
   | (with_reducible refine LeO.ite ?_ ?_)
   | (with_reducible refine LeO.bind ?_ (fun _ => ?_))
   | exact spec_l21Rd_pick.mono _ _ _ _
   | exact LeO.none _
   | refine LeO.ite ?_ ?_
   | refine LeO.bind ?_ (fun _ => ?_)
set_option maxHeartbeats 8000000 in
set_option maxRecDepth 100000 in
theorem spec_l21Rd_num.calls (k : Nat) (g : Nat) (s0_0 : List Int) (s0_1 : Int) (A1 : Option Addr) (c1 : Nat) (l1 : List Int) (r1 : Int) (r2 : Int) (w0 w : World) (hI : IsS68 w0 w g s0_0 s0_1) (hB : Below w0.heap.size w0 w) (hr1 : Kd.C (Kd.int .i64) w A1 l1.length l1) (hc1 : l1.length ≤ c1) (hf1 : ∀ ad,A1 = some ad → 0 < l1.length → ad.block ≠ g) (h : spec_l21Rd_num.f k s0_0 s0_1 l1 = some (r1,r2)) :
  Calls Try.prog 41 #[.pointer (some ⟨g,0,none⟩),.slice A1 l1.length c1] w fun e w' => e = .returned (.int .i64 r1) ∧ IsS68 w0 w' g s0_0 r2 ∧ Below w0.heap.size w0 w' ∧ KeepBut w w' g none:=by
 have HR1:=mk_ hr1
 have HC1:=mk_ hc1
 clear hr1 hc1
 have HI0:=mk_ hI
 have HK:=mk_ (KeepBut.refl w g none)
 have HL:=mk_ hB.size
 clear hI
 have HW0:=mk_ hB.size
 have HB:=mk_ hB
 clear hB
 have H : ((spec_l21Rd_pick.f k s0_0 s0_1 (l1.length : Int)).bind fun bt104 => (if 0 ≤ bt104.1 then (if bt104.1 < (l1.length : Int) then (some (rd l1 bt104.1,bt104.2)) else (none)) else (none))) = some (r1,r2):=h
 clear h
 replace H:=Option.bind_eq_some_iff.mp H
 obtain ⟨⟨t104,t105⟩,A30,H⟩:=H
 replace H : (if 0 ≤ t104 then (if t104 < (l1.length : Int) then (some (rd l1 t104,t105)) else (none)) else (none)) = some (r1,r2):=H
 have A3:=mk_ A30
 clear A30
 by_cases c4 : 0 ≤ t104
 ·rw [if_pos c4] at H
  have c4b0 : decide (0 ≤ t104) = true:=decide_eq_true c4
  clear c4
  by_cases c5 : t104 < (l1.length : Int)
  ·rw [if_pos c5] at H
   have c5b0 : decide (t104 < (l1.length : Int)) = true:=decide_eq_true c5
   clear c5
   simp only [Option.some.injEq,Prod.mk.injEq] at H
   obtain ⟨rfl,rfl⟩:=H
   go_enter Try.func41,Try.ntmps41
   go_wp2_with (first|((with_reducible refine gate_callee (f:=49) rfl ?_);refine goesL_ (some 9) rfl rfl Try.func49 (by kernel_rfl) rfl #[.pointer (some ⟨g,0,none⟩),.int .i64 (l1.length : Int)] rfl qm_ ?_;(with_reducible refine (spec_l21Rd_pick.calls k g s0_0 s0_1 (l1.length : Int) t104 t105 w0 _ ?side1 ?side2 A3.out).mono ?_);(case side1 => exact u0_ HI0);(case side2 => exact u2_ HB HI0);rintro e w6 ⟨rfl,hi,hb,hk⟩;refine ⟨_,rfl,?_⟩;have n0_:=mk_ (KeepBut.trans (u1_ HK) hk (.inl rfl));have n1_:=mk_ (hb);have n2_:=mk_ (hi);clear HK HB HI0;have HK:=n0_;have HB:=n1_;have HI0:=n2_;clear n0_ n1_ n2_;(try clear hb);(try clear hb2);(try clear hk);(try clear hi);have p106 : 0 ≤ (t104 : Int):=od_ qa_;have q106 : t104 < (l1.length : Int):=od_ qa_;obtain ⟨ad106,e106,hx106_0⟩:=Kd.at_int HR1.out t104 p106 q106;cases e106;replace hx106_0:=keep_cell HK.out hx106_0 (by first|(rw [add_block];exact hf1 _ rfl (by omega))|exact hf1 _ rfl (by omega)|exact hf1 ad106 rfl (by omega));replace p106:=eq_true p106;replace q106:=eq_true q106))
   go_ret
   exact ⟨qe_,u0_ HI0,u2_ HB HI0,u1_ HK⟩
  ·rw [if_neg c5] at H
   exact absurd H (by simp)
 ·rw [if_neg c4] at H
  exact absurd H (by simp)

/-! ### spec_l1Some: function 62 -/
def spec_l1Some.l0 : Nat → Int → List Int → Int → List Int → Int → Option (List Int × Int)
 | 0,_,_,_,_,_ => none
 | k + 1,x1,x5,x6,x1000,x1001 => if x6 < x1 then ((spec_l21Rd_pick.f k x1000 x1001 4).bind fun bt110 => (if bt110.1 = 0 then ((spec_l21Rd_num.f k x1000 bt110.2 (([0,1,125,126,127,128,255,94,93] : List Int))).bind fun bt115 => (if x5.length < 140737488355328 then (spec_l1Some.l0 k x1 (x5 ++ [(bt115.1) % 256]) (wrap64 (x6 + 1)) x1000 bt115.2) else (none))) else ((spec_l21Rd_pick.f k x1000 bt110.2 256).bind fun bt120 => (if x5.length < 140737488355328 then (spec_l1Some.l0 k x1 (x5 ++ [(bt120.1) % 256]) (wrap64 (x6 + 1)) x1000 bt120.2) else (none))))) else (some (x5,x1001))
def spec_l1Some.f (k : Nat) (s0_0 : List Int) (s0_1 : Int) (a1 : Int) : Option (List Int × Int):=spec_l1Some.l0 k a1 (([] : List Int)) 0 s0_0 s0_1
theorem spec_l1Some.mono_l : ∀ k,(∀ y0 y1 y2 y3 y4,LeO (spec_l1Some.l0 k y0 y1 y2 y3 y4) (spec_l1Some.l0 (k + 1) y0 y1 y2 y3 y4))
 | 0 => fun _ _ _ _ _ r h => by simp [spec_l1Some.l0] at h
 | k + 1 => by
  have ih0:=spec_l1Some.mono_l k
  ·intro y0 y1 y2 y3 y4
   unfold spec_l1Some.l0
   repeat' first
   | (with_reducible exact ih0 _ _ _ _ _)
   | (with_reducible exact spec_l21Rd_num.mono _ _ _ _)
   | (with_reducible exact spec_l21Rd_pick.mono _ _ _ _)
   | (with_reducible exact LeO.refl _)
   | (with_reducible exact LeO.none _)
   | (with_reducible refine LeO.ite ?_ ?_)
   | (with_reducible refine LeO.bind ?_ (fun _ => ?_))
   | exact ih0 _ _ _ _ _
   | exact spec_l21Rd_num.mono _ _ _ _
   | exact spec_l21Rd_pick.mono _ _ _ _
   | exact LeO.none _
   | refine LeO.ite ?_ ?_
   | refine LeO.bind ?_ (fun _ => ?_)
theorem spec_l1Some.mono : ∀ a0 a1 a2 k,LeO (spec_l1Some.f k a0 a1 a2) (spec_l1Some.f (k + 1) a0 a1 a2):=by
 intro a0 a1 a2 k
 have ih0:=spec_l1Some.mono_l k
 unfold spec_l1Some.f
 repeat' first
   | (with_reducible exact ih0 _ _ _ _ _)
   | (with_reducible exact spec_l21Rd_num.mono _ _ _ _)
   | (with_reducible exact spec_l21Rd_pick.mono _ _ _ _)
   | (with_reducible exact LeO.refl _)
   | (with_reducible exact LeO.none _)
   | (with_reducible refine LeO.ite ?_ ?_)
   | (with_reducible refine LeO.bind ?_ (fun _ => ?_))
   | exact ih0 _ _ _ _ _
   | exact spec_l21Rd_num.mono _ _ _ _
   | exact spec_l21Rd_pick.mono _ _ _ _
   | exact LeO.none _
   | refine LeO.ite ?_ ?_
   | refine LeO.bind ?_ (fun _ => ?_)
set_option maxHeartbeats 8000000 in
set_option maxRecDepth 100000 in
theorem spec_l1Some.calls (k : Nat) (g : Nat) (s0_0 : List Int) (s0_1 : Int) (a1 : Int) (r1 : List Int) (r2 : Int) (w0 w : World) (hI : IsS68 w0 w g s0_0 s0_1) (hB : Below w0.heap.size w0 w) (h : spec_l1Some.f k s0_0 s0_1 a1 = some (r1,r2)) :
  Calls Try.prog 62 #[.pointer (some ⟨g,0,none⟩),.int .i64 a1] w fun e w' => ∃ v0_ : Value,e = .returned (v0_) ∧ Kd.R (Kd.int .u8) 5 w' w.heap.size (fun _ => True) v0_ r1 ∧ IsS68 w0 w' g s0_0 r2 ∧ Below w0.heap.size w0 w' ∧ KeepBut w w' g none:=by
 have HI0:=mk_ hI
 have HK:=mk_ (KeepBut.refl w g none)
 have HL:=mk_ hB.size
 clear hI
 have HW0:=mk_ hB.size
 have HB:=mk_ hB
 clear hB
 have H : (spec_l1Some.l0 k a1 (([] : List Int)) 0 s0_0 s0_1) = some (r1,r2):=h
 clear h
 obtain ⟨y107,hy107⟩ : ∃ y_ : List Int,y_ = (([] : List Int)):=⟨_,rfl⟩
 replace H : (spec_l1Some.l0 k a1 y107 0 s0_0 s0_1) = some (r1,r2):=by first|(rw [hy107];with_reducible exact H)|(have H2_:=(Option.bind_some _ _).symm.trans H;rw [hy107];with_reducible exact H2_)|(have H2_:=(Option.bind_some _ _).symm.trans H;with_reducible exact H2_)|with_reducible exact H|(rw [hy107];exact H)|exact H
 have Ny107:=mk_ hy107
 clear hy107
 have H':=mk_ H
 clear H
 go_enter Try.func62,Try.ntmps62
 go_wp2_with (first|((with_reducible refine gate_dst (N:=7) rfl ?_);refine Kd.R_lit (Kd.int .u8) _ 5 ?hg (N:=7) ?hd (xs:=([] : List Int)) (inner:=[]) (ok:=fun _ => True) (okp:=fun _ => True) ?hr ?hp (fun _ hk => hk) trivial (Below.refl _ _) (Nat.le_refl _) (by simp) ?_;(case hd => rfl);(case hg => rfl);(case hr => first|(go_simp;done)|(go_simp;rfl));(case hp => exact (Reps.none _ _));intro v108 w3 ho4 hb hg_ hnew_;clear hg_ hnew_;(first|rw [← Ny107.out] at ho4|(simp only [Int.reduceToNat] at ho4;rw [← Ny107.out] at ho4));have n0_:=mk_ (Kd.R_lower ho4 (keep_size (w:=w) (g:=g) (row:=none) (u1_ HK)));have n1_:=mk_ (IsS68.below (u0_ HI0) hb);have n2_:=mk_ (KeepBut.trans (u1_ HK) (KeepBut.of_below hb g none) (.inl rfl));have n3_:=mk_ (st_ (u2_ HB HI0) hb);clear HI0 HK HB;have HO109:=n0_;have HI0:=n1_;have HK:=n2_;have HB:=n3_;clear n0_ n1_ n2_ n3_ hb ho4))
 go_loopg [5,6] k (fun kq v5 v6 w' => ∃ (x5_1 : List Int) (x6_1 : Int) (x1001_1 : Int),v6 = .int .i64 x6_1 ∧ Aside0 (spec_l1Some.l0 kq a1 x5_1 x6_1 s0_0 x1001_1 = some (r1,r2)) ∧ Aside0 (kq ≤ k) ∧ Aside0 (Kd.R (Kd.int .u8) 5 w' w.heap.size (fun _ => True) v5 x5_1) ∧ Aside0 (IsS68 w0 w' g s0_0 x1001_1) ∧ Aside0 (KeepBut w w' g none) ∧ Aside0 (Below w0.heap.size w0 w'))
 case atStart => exact ⟨(y107),(0),(s0_1),qf_,H',⟨Nat.le_refl _⟩,⟨qr_ HO109⟩,⟨u0_ HI0⟩,⟨u1_ HK⟩,⟨u2_ HB HI0⟩⟩
 case round =>
  clear H'
  try clear p2
  obtain ⟨x5_1,x6_1,x1001_1,rfl,HA,HK1,HO_5,HI0,HK,HB⟩:=hrel
  cases gk with
  | zero => exact absurd HA.out (by simp [spec_l1Some.l0])
  | succ k1 =>
   have H:=HA.out
   clear HA
   simp only [spec_l1Some.l0] at H
   by_cases c5 : x6_1 < a1
   ·rw [if_pos c5] at H
    have c5b0 : decide (x6_1 < a1) = true:=decide_eq_true c5
    clear c5
    replace H:=Option.bind_eq_some_iff.mp H
    obtain ⟨⟨t110,t111⟩,A60,H⟩:=H
    replace H : (if t110 = 0 then ((spec_l21Rd_num.f k1 s0_0 t111 (([0,1,125,126,127,128,255,94,93] : List Int))).bind fun bt115 => (if x5_1.length < 140737488355328 then (spec_l1Some.l0 k1 a1 (x5_1 ++ [(bt115.1) % 256]) (wrap64 (x6_1 + 1)) s0_0 bt115.2) else (none))) else ((spec_l21Rd_pick.f k1 s0_0 t111 256).bind fun bt120 => (if x5_1.length < 140737488355328 then (spec_l1Some.l0 k1 a1 (x5_1 ++ [(bt120.1) % 256]) (wrap64 (x6_1 + 1)) s0_0 bt120.2) else (none)))) = some (r1,r2):=H
    have A6:=mk_ A60
    clear A60
    by_cases c7 : t110 = 0
    ·rw [if_pos c7] at H
     have c7b0 : (t110 == 0) = true:=beq_iff_eq.mpr c7
     have c7b1 : (t110 != 0) = false:=bne_eq_false_iff_eq.mpr c7
     clear c7
     obtain ⟨y112,hy112⟩ : ∃ y_ : List Int,y_ = (([0,1,125,126,127,128,255,94,93] : List Int)):=⟨_,rfl⟩
     replace H : ((spec_l21Rd_num.f k1 s0_0 t111 y112).bind fun bt115 => (if x5_1.length < 140737488355328 then (spec_l1Some.l0 k1 a1 (x5_1 ++ [(bt115.1) % 256]) (wrap64 (x6_1 + 1)) s0_0 bt115.2) else (none))) = some (r1,r2):=by first|(rw [hy112];with_reducible exact H)|(have H2_:=(Option.bind_some _ _).symm.trans H;rw [hy112];with_reducible exact H2_)|(have H2_:=(Option.bind_some _ _).symm.trans H;with_reducible exact H2_)|with_reducible exact H|(rw [hy112];exact H)|exact H
     have Ny112:=mk_ hy112
     clear hy112
     replace H:=Option.bind_eq_some_iff.mp H
     obtain ⟨⟨t115,t116⟩,A80,H⟩:=H
     replace H : (if x5_1.length < 140737488355328 then (spec_l1Some.l0 k1 a1 (x5_1 ++ [(t115) % 256]) (wrap64 (x6_1 + 1)) s0_0 t116) else (none)) = some (r1,r2):=H
     have A8:=mk_ A80
     clear A80
     by_cases c9 : x5_1.length < 140737488355328
     ·rw [if_pos c9] at H
      have LMc9:=mk_ c9
      clear c9
      obtain ⟨y117,hy117⟩ : ∃ y_ : List Int,y_ = (x5_1 ++ [(t115) % 256]):=⟨_,rfl⟩
      replace H : (spec_l1Some.l0 k1 a1 y117 (wrap64 (x6_1 + 1)) s0_0 t116) = some (r1,r2):=by first|(rw [hy117];with_reducible exact H)|(have H2_:=(Option.bind_some _ _).symm.trans H;rw [hy117];with_reducible exact H2_)|(have H2_:=(Option.bind_some _ _).symm.trans H;with_reducible exact H2_)|with_reducible exact H|(rw [hy117];exact H)|exact H
      have Ny117:=mk_ hy117
      clear hy117
      have H':=mk_ H
      clear H
      go_wp2_with (first|((with_reducible refine gate_callee (f:=49) rfl ?_);refine goesL_ (some 14) rfl rfl Try.func49 (by kernel_rfl) rfl #[.pointer (some ⟨g,0,none⟩),.int .i64 4] rfl qm_ ?_;(with_reducible refine (spec_l21Rd_pick.calls k1 g s0_0 x1001_1 4 t110 t111 w0 _ ?side1 ?side2 A6.out).mono ?_);(case side1 => exact u0_ HI0);(case side2 => exact u2_ HB HI0);rintro e w10 ⟨rfl,hi,hb,hk⟩;refine ⟨_,rfl,?_⟩;have n0_:=mk_ (rm_ (Kd.R_keep (IsS68.apart (show IsS68 w0 _ g s0_0 x1001_1 from u0_ HI0) (qr_ HO_5) (by decide)) hk (fun _ h => h.2)) (fun _ h => h.1));have n1_:=mk_ (KeepBut.trans (u1_ HK) hk (.inl rfl));have n2_:=mk_ (hb);have n3_:=mk_ (hi);clear HO_5 HK HB HI0;have HO_5:=n0_;have HK:=n1_;have HB:=n2_;have HI0:=n3_;clear n0_ n1_ n2_ n3_;(try clear hb);(try clear hb2);(try clear hk);(try clear hi))|((with_reducible refine gate_dst (N:=25) rfl ?_);refine Kd.R_lit (Kd.int .i64) _ 3 ?hg (N:=25) ?hd (xs:=([0,1,125,126,127,128,255,94,93] : List Int)) (inner:=[.int .i64 0,.int .i64 1,.int .i64 125,.int .i64 126,.int .i64 127,.int .i64 128,.int .i64 255,.int .i64 94,.int .i64 93]) (ok:=fun _ => True) (okp:=fun _ => True) ?hr ?hp (fun _ hk => hk) trivial (Below.refl _ _) (Nat.le_refl _) (by simp) ?_;(case hd => rfl);(case hg => rfl);(case hr => first|(go_simp;done)|(go_simp;rfl));(case hp => exact (Reps.one (show Kd.M (Kd.int .i64) _ _ _ 0 [.int .i64 0] from rfl) (Reps.one (show Kd.M (Kd.int .i64) _ _ _ 1 [.int .i64 1] from rfl) (Reps.one (show Kd.M (Kd.int .i64) _ _ _ 125 [.int .i64 125] from rfl) (Reps.one (show Kd.M (Kd.int .i64) _ _ _ 126 [.int .i64 126] from rfl) (Reps.one (show Kd.M (Kd.int .i64) _ _ _ 127 [.int .i64 127] from rfl) (Reps.one (show Kd.M (Kd.int .i64) _ _ _ 128 [.int .i64 128] from rfl) (Reps.one (show Kd.M (Kd.int .i64) _ _ _ 255 [.int .i64 255] from rfl) (Reps.one (show Kd.M (Kd.int .i64) _ _ _ 94 [.int .i64 94] from rfl) (Reps.one (show Kd.M (Kd.int .i64) _ _ _ 93 [.int .i64 93] from rfl) (Reps.none _ _)))))))))));intro v113 w11 ho12 hb hg_ hnew_;clear hg_ hnew_;(first|rw [← Ny112.out] at ho12|(simp only [Int.reduceToNat] at ho12;rw [← Ny112.out] at ho12));have n0_:=mk_ (rb_ (qr_ HO_5) hb);have n1_:=mk_ (Kd.R_lower ho12 (keep_size (w:=w) (g:=g) (row:=none) (u1_ HK)));have n2_:=mk_ (IsS68.below (u0_ HI0) hb);have n3_:=mk_ (KeepBut.trans (u1_ HK) (KeepBut.of_below hb g none) (.inl rfl));have n4_:=mk_ (st_ (u2_ HB HI0) hb);clear HO_5 HI0 HK HB;have HO_5:=n0_;have HO114:=n1_;have HI0:=n2_;have HK:=n3_;have HB:=n4_;clear n0_ n1_ n2_ n3_ n4_ hb ho12;obtain ⟨Ao13,co13,eo13⟩:=Kd.R_slice HO114.out;subst eo13)|((with_reducible refine gate_callee (f:=41) rfl ?_);refine goesL_ (some 26) rfl rfl Try.func41 (by kernel_rfl) rfl #[.pointer (some ⟨g,0,none⟩),.slice Ao13 y112.length co13] rfl qm_ ?_;(with_reducible refine (spec_l21Rd_num.calls k1 g s0_0 t111 _ _ y112 t115 t116 w0 _ ?side1 ?side2 ?side3 ?side4 ?side5 A8.out).mono ?_);(case side1 => exact u0_ HI0);(case side2 => exact u2_ HB HI0);(case side3 => repeat (first|exact (rr_ HO114.out).2.2|(with_reducible refine ca_ ?_ _)|(with_reducible refine cn_ ?_ _)|(with_reducible refine cd_ ?_)));(case side4 => exact (rr_ HO114.out).2.1);(case side5 => exact far_slice (IsS68.own_ne HI0.out HO114.out (by decide)));rintro e w14 ⟨rfl,hi,hb,hk⟩;refine ⟨_,rfl,?_⟩;have n0_:=mk_ (rm_ (Kd.R_keep (IsS68.apart (show IsS68 w0 _ g s0_0 t111 from u0_ HI0) (qr_ HO_5) (by decide)) hk (fun _ h => h.2)) (fun _ h => h.1));have n1_:=mk_ (rm_ (Kd.R_keep (IsS68.apart (show IsS68 w0 _ g s0_0 t111 from u0_ HI0) (qr_ HO114) (by decide)) hk (fun _ h => h.2)) (fun _ h => h.1));have n2_:=mk_ (KeepBut.trans (u1_ HK) hk (.inl rfl));have n3_:=mk_ (hb);have n4_:=mk_ (hi);clear HO_5 HO114 HK HB HI0;have HO_5:=n0_;have HO114:=n1_;have HK:=n2_;have HB:=n3_;have HI0:=n4_;clear n0_ n1_ n2_ n3_ n4_;(try clear hb);(try clear hb2);(try clear hk);(try clear hi))|((with_reducible refine gate_builtin (b:=.append) (xs:=#[.tmp 23,.tmp 28]) rfl ?_);at_builtin;refine Kd.R_append (Kd.int .u8) w.heap.size rfl (.tmp 23) (.tmp 28) 22 5 (.int .u8 0) 1 rfl Try.underlying22 info5 rfl (by decide) (by omega) u5 x5_1 ((t115) % 256) [.int .u8 ((t115) % 256)] (fun _ => True) (fun _ => False) rfl rfl ?aP (fun _ hk => hk.elim) ?aF ?aO (Below.refl _ _) ?aS ?aL ?_;(case aP => exact rfl);(case aF => exact (fun _ _ => trivial));(case aO => exact (qr_ HO_5));(case aS => exact (keep_size (w:=w) (g:=g) (row:=none) (u1_ HK)));(case aL => have:=LMc9.out;omega);intro v118 w15 ho hb hg hat;rw [← Ny117.out] at ho;have n0_:=mk_ (IsS68.grown (u0_ HI0) hg (IsS68.own_ne HI0.out HO_5.out (by decide)));have n1_:=mk_ (Kd.R_over' (qr_ HO114) (Kd.R_typed (qr_ HO_5)) (by decide) hg);have n2_:=mk_ (below_weaken (u2_ HB HI0) HL.out hb);have n3_:=mk_ (KeepBut.trans (u1_ HK) (KeepBut.of_grown hg g) (Kd.R_base2 HO_5.out));have n4_:=mk_ (ho);clear HI0 HO114 HB HK HO_5;have HI0:=n0_;have HO114:=n1_;have HB:=n2_;have HK:=n3_;have HO119:=n4_;clear n0_ n1_ n2_ n3_ n4_ ho hb hg hat))
      go_roundg k1
      case measure => have:=HK1.out;omega
      case rel => exact ⟨(y117),(wrap64 (x6_1 + 1)),(t116),qf_,H',⟨by have:=HK1.out;omega⟩,⟨qr_ HO119⟩,⟨u0_ HI0⟩,⟨u1_ HK⟩,⟨u2_ HB HI0⟩⟩
     ·rw [if_neg c9] at H
      exact absurd H (by simp)
    ·rw [if_neg c7] at H
     have c7b0 : (t110 == 0) = false:=beq_eq_false_iff_ne.mpr c7
     have c7b1 : (t110 != 0) = true:=bne_iff_ne.mpr c7
     replace H:=Option.bind_eq_some_iff.mp H
     obtain ⟨⟨t120,t121⟩,A160,H⟩:=H
     replace H : (if x5_1.length < 140737488355328 then (spec_l1Some.l0 k1 a1 (x5_1 ++ [(t120) % 256]) (wrap64 (x6_1 + 1)) s0_0 t121) else (none)) = some (r1,r2):=H
     have A16:=mk_ A160
     clear A160
     by_cases c17 : x5_1.length < 140737488355328
     ·rw [if_pos c17] at H
      have LMc17:=mk_ c17
      clear c17
      obtain ⟨y122,hy122⟩ : ∃ y_ : List Int,y_ = (x5_1 ++ [(t120) % 256]):=⟨_,rfl⟩
      replace H : (spec_l1Some.l0 k1 a1 y122 (wrap64 (x6_1 + 1)) s0_0 t121) = some (r1,r2):=by first|(rw [hy122];with_reducible exact H)|(have H2_:=(Option.bind_some _ _).symm.trans H;rw [hy122];with_reducible exact H2_)|(have H2_:=(Option.bind_some _ _).symm.trans H;with_reducible exact H2_)|with_reducible exact H|(rw [hy122];exact H)|exact H
      have Ny122:=mk_ hy122
      clear hy122
      have H':=mk_ H
      clear H
      go_wp2_with (first|((with_reducible refine gate_callee (f:=49) rfl ?_);refine goesL_ (some 14) rfl rfl Try.func49 (by kernel_rfl) rfl #[.pointer (some ⟨g,0,none⟩),.int .i64 4] rfl qm_ ?_;(with_reducible refine (spec_l21Rd_pick.calls k1 g s0_0 x1001_1 4 t110 t111 w0 _ ?side1 ?side2 A6.out).mono ?_);(case side1 => exact u0_ HI0);(case side2 => exact u2_ HB HI0);rintro e w18 ⟨rfl,hi,hb,hk⟩;refine ⟨_,rfl,?_⟩;have n0_:=mk_ (rm_ (Kd.R_keep (IsS68.apart (show IsS68 w0 _ g s0_0 x1001_1 from u0_ HI0) (qr_ HO_5) (by decide)) hk (fun _ h => h.2)) (fun _ h => h.1));have n1_:=mk_ (KeepBut.trans (u1_ HK) hk (.inl rfl));have n2_:=mk_ (hb);have n3_:=mk_ (hi);clear HO_5 HK HB HI0;have HO_5:=n0_;have HK:=n1_;have HB:=n2_;have HI0:=n3_;clear n0_ n1_ n2_ n3_;(try clear hb);(try clear hb2);(try clear hk);(try clear hi))|((with_reducible refine gate_callee (f:=49) rfl ?_);refine goesL_ (some 17) rfl rfl Try.func49 (by kernel_rfl) rfl #[.pointer (some ⟨g,0,none⟩),.int .i64 256] rfl qm_ ?_;(with_reducible refine (spec_l21Rd_pick.calls k1 g s0_0 t111 256 t120 t121 w0 _ ?side1 ?side2 A16.out).mono ?_);(case side1 => exact u0_ HI0);(case side2 => exact u2_ HB HI0);rintro e w19 ⟨rfl,hi,hb,hk⟩;refine ⟨_,rfl,?_⟩;have n0_:=mk_ (rm_ (Kd.R_keep (IsS68.apart (show IsS68 w0 _ g s0_0 t111 from u0_ HI0) (qr_ HO_5) (by decide)) hk (fun _ h => h.2)) (fun _ h => h.1));have n1_:=mk_ (KeepBut.trans (u1_ HK) hk (.inl rfl));have n2_:=mk_ (hb);have n3_:=mk_ (hi);clear HO_5 HK HB HI0;have HO_5:=n0_;have HK:=n1_;have HB:=n2_;have HI0:=n3_;clear n0_ n1_ n2_ n3_;(try clear hb);(try clear hb2);(try clear hk);(try clear hi))|((with_reducible refine gate_builtin (b:=.append) (xs:=#[.tmp 15,.tmp 19]) rfl ?_);at_builtin;refine Kd.R_append (Kd.int .u8) w.heap.size rfl (.tmp 15) (.tmp 19) 22 5 (.int .u8 0) 1 rfl Try.underlying22 info5 rfl (by decide) (by omega) u5 x5_1 ((t120) % 256) [.int .u8 ((t120) % 256)] (fun _ => True) (fun _ => False) rfl rfl ?aP (fun _ hk => hk.elim) ?aF ?aO (Below.refl _ _) ?aS ?aL ?_;(case aP => exact rfl);(case aF => exact (fun _ _ => trivial));(case aO => exact (qr_ HO_5));(case aS => exact (keep_size (w:=w) (g:=g) (row:=none) (u1_ HK)));(case aL => have:=LMc17.out;omega);intro v123 w20 ho hb hg hat;rw [← Ny122.out] at ho;have n0_:=mk_ (IsS68.grown (u0_ HI0) hg (IsS68.own_ne HI0.out HO_5.out (by decide)));have n1_:=mk_ (below_weaken (u2_ HB HI0) HL.out hb);have n2_:=mk_ (KeepBut.trans (u1_ HK) (KeepBut.of_grown hg g) (Kd.R_base2 HO_5.out));have n3_:=mk_ (ho);clear HI0 HB HK HO_5;have HI0:=n0_;have HB:=n1_;have HK:=n2_;have HO124:=n3_;clear n0_ n1_ n2_ n3_ ho hb hg hat))
      go_roundg k1
      case measure => have:=HK1.out;omega
      case rel => exact ⟨(y122),(wrap64 (x6_1 + 1)),(t121),qf_,H',⟨by have:=HK1.out;omega⟩,⟨qr_ HO124⟩,⟨u0_ HI0⟩,⟨u1_ HK⟩,⟨u2_ HB HI0⟩⟩
     ·rw [if_neg c17] at H
      exact absurd H (by simp)
   ·rw [if_neg c5] at H
    have c5b0 : decide (x6_1 < a1) = false:=decide_eq_false c5
    clear c5
    simp only [Option.some.injEq,Prod.mk.injEq] at H
    obtain ⟨rfl,rfl⟩:=H
    go_wp2
    go_ret
    exact ⟨_,qe_,qr_ HO_5,u0_ HI0,u2_ HB HI0,u1_ HK⟩

/-! ### spec_l4Sent: function 47 -/
def spec_l4Sent.l0 : Nat → List (List Int) → Int → List Int → Int → Option ((List (List Int)) × Int)
 | 0,_,_,_,_ => none
 | k + 1,x3,x4,x1000,x1001 => if x4 > 0 then ((spec_l21Rd_num.f k x1000 x1001 (([1,2,0,4] : List Int))).bind fun bt136 => ((spec_l1Some.f k x1000 bt136.2 bt136.1).bind fun bt138 => (if x3.length < 5864062014805 then (spec_l4Sent.l0 k (x3 ++ [bt138.1]) (wrap64 (x4 - 1)) x1000 bt138.2) else (none)))) else (some (x3,x1001))
def spec_l4Sent.f (k : Nat) (s0_0 : List Int) (s0_1 : Int) : Option ((List (List Int)) × Int):=(spec_l21Rd_num.f k s0_0 s0_1 (([3,5,0,8,1,14] : List Int))).bind fun bt131 => (spec_l4Sent.l0 k (([] : List (List Int))) bt131.1 s0_0 bt131.2)
theorem spec_l4Sent.mono_l : ∀ k,(∀ y0 y1 y2 y3,LeO (spec_l4Sent.l0 k y0 y1 y2 y3) (spec_l4Sent.l0 (k + 1) y0 y1 y2 y3))
 | 0 => fun _ _ _ _ r h => by simp [spec_l4Sent.l0] at h
 | k + 1 => by
  have ih0:=spec_l4Sent.mono_l k
  ·intro y0 y1 y2 y3
   unfold spec_l4Sent.l0
   repeat' first
   | (with_reducible exact ih0 _ _ _ _)
   | (with_reducible exact spec_l1Some.mono _ _ _ _)
   | (with_reducible exact spec_l21Rd_num.mono _ _ _ _)
   | (with_reducible exact LeO.refl _)
   | (with_reducible exact LeO.none _)
   | (with_reducible refine LeO.ite ?_ ?_)
   | (with_reducible refine LeO.bind ?_ (fun _ => ?_))
   | exact ih0 _ _ _ _
   | exact spec_l1Some.mono _ _ _ _
   | exact spec_l21Rd_num.mono _ _ _ _
   | exact LeO.none _
   | refine LeO.ite ?_ ?_
   | refine LeO.bind ?_ (fun _ => ?_)
theorem spec_l4Sent.mono : ∀ a0 a1 k,LeO (spec_l4Sent.f k a0 a1) (spec_l4Sent.f (k + 1) a0 a1):=by
 intro a0 a1 k
 have ih0:=spec_l4Sent.mono_l k
 unfold spec_l4Sent.f
 repeat' first
   | (with_reducible exact ih0 _ _ _ _)
   | (with_reducible exact spec_l1Some.mono _ _ _ _)
   | (with_reducible exact spec_l21Rd_num.mono _ _ _ _)
   | (with_reducible exact LeO.refl _)
   | (with_reducible exact LeO.none _)
   | (with_reducible refine LeO.ite ?_ ?_)
   | (with_reducible refine LeO.bind ?_ (fun _ => ?_))
   | exact ih0 _ _ _ _
   | exact spec_l1Some.mono _ _ _ _
   | exact spec_l21Rd_num.mono _ _ _ _
   | exact LeO.none _
   | refine LeO.ite ?_ ?_
   | refine LeO.bind ?_ (fun _ => ?_)
set_option maxHeartbeats 8000000 in
set_option maxRecDepth 100000 in
theorem spec_l4Sent.calls (k : Nat) (g : Nat) (s0_0 : List Int) (s0_1 : Int) (r1 : List (List Int)) (r2 : Int) (w0 w : World) (hI : IsS68 w0 w g s0_0 s0_1) (hB : Below w0.heap.size w0 w) (h : spec_l4Sent.f k s0_0 s0_1 = some (r1,r2)) :
  Calls Try.prog 47 #[.pointer (some ⟨g,0,none⟩)] w fun e w' => ∃ v0_ : Value,e = .returned (v0_) ∧ Kd.S (Kd.slice 5 (Kd.int .u8)) 22 w' w.heap.size (fun _ => True) v0_ r1 ∧ IsS68 w0 w' g s0_0 r2 ∧ Below w0.heap.size w0 w' ∧ KeepBut w w' g none:=by
 have HI0:=mk_ hI
 have HK:=mk_ (KeepBut.refl w g none)
 have HL:=mk_ hB.size
 clear hI
 have HW0:=mk_ hB.size
 have HB:=mk_ hB
 clear hB
 have H : ((spec_l21Rd_num.f k s0_0 s0_1 (([3,5,0,8,1,14] : List Int))).bind fun bt131 => (spec_l4Sent.l0 k (([] : List (List Int))) bt131.1 s0_0 bt131.2)) = some (r1,r2):=h
 clear h
 obtain ⟨y125,hy125⟩ : ∃ y_ : List (List Int),y_ = (([] : List (List Int))):=⟨_,rfl⟩
 replace H : ((spec_l21Rd_num.f k s0_0 s0_1 (([3,5,0,8,1,14] : List Int))).bind fun bt131 => (spec_l4Sent.l0 k y125 bt131.1 s0_0 bt131.2)) = some (r1,r2):=by first|(rw [hy125];with_reducible exact H)|(have H2_:=(Option.bind_some _ _).symm.trans H;rw [hy125];with_reducible exact H2_)|(have H2_:=(Option.bind_some _ _).symm.trans H;with_reducible exact H2_)|with_reducible exact H|(rw [hy125];exact H)|exact H
 have Ny125:=mk_ hy125
 clear hy125
 obtain ⟨y128,hy128⟩ : ∃ y_ : List Int,y_ = (([3,5,0,8,1,14] : List Int)):=⟨_,rfl⟩
 replace H : ((spec_l21Rd_num.f k s0_0 s0_1 y128).bind fun bt131 => (spec_l4Sent.l0 k y125 bt131.1 s0_0 bt131.2)) = some (r1,r2):=by first|(rw [hy128];with_reducible exact H)|(have H2_:=(Option.bind_some _ _).symm.trans H;rw [hy128];with_reducible exact H2_)|(have H2_:=(Option.bind_some _ _).symm.trans H;with_reducible exact H2_)|with_reducible exact H|(rw [hy128];exact H)|exact H
 have Ny128:=mk_ hy128
 clear hy128
 replace H:=Option.bind_eq_some_iff.mp H
 obtain ⟨⟨t131,t132⟩,A20,H⟩:=H
 replace H : (spec_l4Sent.l0 k y125 t131 s0_0 t132) = some (r1,r2):=H
 have A2:=mk_ A20
 clear A20
 have H':=mk_ H
 clear H
 go_enter Try.func47,Try.ntmps47
 go_wp2_with (first|((with_reducible refine gate_dst (N:=5) rfl ?_);refine Kd.S_lit (Kd.slice 5 (Kd.int .u8)) _ 22 ?hg (N:=5) ?hd (xs:=([] : List (List Int))) (inner:=[]) (ok:=fun _ => True) (okp:=fun _ => True) ?hr ?hp (fun _ hk => hk) trivial (Below.refl _ _) (Nat.le_refl _) (by simp) ?_;(case hd => rfl);(case hg => rfl);(case hr => first|(go_simp;done)|(go_simp;rfl));(case hp => exact (Reps.none _ _));intro v126 w3 ho4 hb hg_ hnew_;clear hg_ hnew_;(first|rw [← Ny125.out] at ho4|(simp only [Int.reduceToNat] at ho4;rw [← Ny125.out] at ho4));have n0_:=mk_ (Kd.S_lower ho4 (keep_size (w:=w) (g:=g) (row:=none) (u1_ HK)));have n1_:=mk_ (IsS68.below (u0_ HI0) hb);have n2_:=mk_ (KeepBut.trans (u1_ HK) (KeepBut.of_below hb g none) (.inl rfl));have n3_:=mk_ (st_ (u2_ HB HI0) hb);clear HI0 HK HB;have HO127:=n0_;have HI0:=n1_;have HK:=n2_;have HB:=n3_;clear n0_ n1_ n2_ n3_ hb ho4)|((with_reducible refine gate_dst (N:=7) rfl ?_);refine Kd.R_lit (Kd.int .i64) _ 3 ?hg (N:=7) ?hd (xs:=([3,5,0,8,1,14] : List Int)) (inner:=[.int .i64 3,.int .i64 5,.int .i64 0,.int .i64 8,.int .i64 1,.int .i64 14]) (ok:=fun _ => True) (okp:=fun _ => True) ?hr ?hp (fun _ hk => hk) trivial (Below.refl _ _) (Nat.le_refl _) (by simp) ?_;(case hd => rfl);(case hg => rfl);(case hr => first|(go_simp;done)|(go_simp;rfl));(case hp => exact (Reps.one (show Kd.M (Kd.int .i64) _ _ _ 3 [.int .i64 3] from rfl) (Reps.one (show Kd.M (Kd.int .i64) _ _ _ 5 [.int .i64 5] from rfl) (Reps.one (show Kd.M (Kd.int .i64) _ _ _ 0 [.int .i64 0] from rfl) (Reps.one (show Kd.M (Kd.int .i64) _ _ _ 8 [.int .i64 8] from rfl) (Reps.one (show Kd.M (Kd.int .i64) _ _ _ 1 [.int .i64 1] from rfl) (Reps.one (show Kd.M (Kd.int .i64) _ _ _ 14 [.int .i64 14] from rfl) (Reps.none _ _))))))));intro v129 w5 ho6 hb hg_ hnew_;clear hg_ hnew_;(first|rw [← Ny128.out] at ho6|(simp only [Int.reduceToNat] at ho6;rw [← Ny128.out] at ho6));have n0_:=mk_ (Kd.S_below (by (with_reducible repeat (first|apply Kd.S_alloc|apply Kd.S_drewN|apply Kd.S_drew));exact HO127.out) hb);have n1_:=mk_ (Kd.R_lower ho6 (keep_size (w:=w) (g:=g) (row:=none) (u1_ HK)));have n2_:=mk_ (IsS68.below (u0_ HI0) hb);have n3_:=mk_ (KeepBut.trans (u1_ HK) (KeepBut.of_below hb g none) (.inl rfl));have n4_:=mk_ (st_ (u2_ HB HI0) hb);clear HO127 HI0 HK HB;have HO127:=n0_;have HO130:=n1_;have HI0:=n2_;have HK:=n3_;have HB:=n4_;clear n0_ n1_ n2_ n3_ n4_ hb ho6;obtain ⟨Ao7,co7,eo7⟩:=Kd.R_slice HO130.out;subst eo7)|((with_reducible refine gate_callee (f:=41) rfl ?_);refine goesL_ (some 8) rfl rfl Try.func41 (by kernel_rfl) rfl #[.pointer (some ⟨g,0,none⟩),.slice Ao7 y128.length co7] rfl qm_ ?_;(with_reducible refine (spec_l21Rd_num.calls k g s0_0 s0_1 _ _ y128 t131 t132 w0 _ ?side1 ?side2 ?side3 ?side4 ?side5 A2.out).mono ?_);(case side1 => exact u0_ HI0);(case side2 => exact u2_ HB HI0);(case side3 => repeat (first|exact (rr_ HO130.out).2.2|(with_reducible refine ca_ ?_ _)|(with_reducible refine cn_ ?_ _)|(with_reducible refine cd_ ?_)));(case side4 => exact (rr_ HO130.out).2.1);(case side5 => exact far_slice (IsS68.own_ne HI0.out HO130.out (by decide)));rintro e w8 ⟨rfl,hi,hb,hk⟩;refine ⟨_,rfl,?_⟩;have n0_:=mk_ (Kd.S_mono (Kd.S_keep (IsS68.apartS (show IsS68 w0 _ g s0_0 s0_1 from u0_ HI0) (by (with_reducible repeat (first|apply Kd.S_alloc|apply Kd.S_drewN|apply Kd.S_drew));exact HO127.out) (by decide)) hk (fun _ h => h.2)) (fun _ h => h.1));have n1_:=mk_ (rm_ (Kd.R_keep (IsS68.apart (show IsS68 w0 _ g s0_0 s0_1 from u0_ HI0) (qr_ HO130) (by decide)) hk (fun _ h => h.2)) (fun _ h => h.1));have n2_:=mk_ (KeepBut.trans (u1_ HK) hk (.inl rfl));have n3_:=mk_ (hb);have n4_:=mk_ (hi);clear HO127 HO130 HK HB HI0;have HO127:=n0_;have HO130:=n1_;have HK:=n2_;have HB:=n3_;have HI0:=n4_;clear n0_ n1_ n2_ n3_ n4_;(try clear hb);(try clear hb2);(try clear hk);(try clear hi)))
 go_loopg [3,4] k (fun kq v3 v4 w' => ∃ (x3_1 : List (List Int)) (x4_1 : Int) (x1001_1 : Int),v4 = .int .i64 x4_1 ∧ Aside0 (spec_l4Sent.l0 kq x3_1 x4_1 s0_0 x1001_1 = some (r1,r2)) ∧ Aside0 (kq ≤ k) ∧ Aside0 (Kd.S (Kd.slice 5 (Kd.int .u8)) 22 w' w.heap.size (fun _ => True) v3 x3_1) ∧ Aside0 (IsS68 w0 w' g s0_0 x1001_1) ∧ Aside0 (KeepBut w w' g none) ∧ Aside0 (Below w0.heap.size w0 w'))
 case atStart => exact ⟨(y125),(t131),(t132),qf_,H',⟨Nat.le_refl _⟩,⟨by (with_reducible repeat (first|apply Kd.S_alloc|apply Kd.S_drewN|apply Kd.S_drew));exact HO127.out⟩,⟨u0_ HI0⟩,⟨u1_ HK⟩,⟨u2_ HB HI0⟩⟩
 case round =>
  clear H'
  try clear p2
  try clear c4
  obtain ⟨x3_1,x4_1,x1001_1,rfl,HA,HK1,HO_3,HI0,HK,HB⟩:=hrel
  cases gk with
  | zero => exact absurd HA.out (by simp [spec_l4Sent.l0])
  | succ k1 =>
   have H:=HA.out
   clear HA
   simp only [spec_l4Sent.l0] at H
   by_cases c9 : x4_1 > 0
   ·rw [if_pos c9] at H
    have c9b0 : decide (0 < x4_1) = true:=decide_eq_true c9
    clear c9
    obtain ⟨y133,hy133⟩ : ∃ y_ : List Int,y_ = (([1,2,0,4] : List Int)):=⟨_,rfl⟩
    replace H : ((spec_l21Rd_num.f k1 s0_0 x1001_1 y133).bind fun bt136 => ((spec_l1Some.f k1 s0_0 bt136.2 bt136.1).bind fun bt138 => (if x3_1.length < 5864062014805 then (spec_l4Sent.l0 k1 (x3_1 ++ [bt138.1]) (wrap64 (x4_1 - 1)) s0_0 bt138.2) else (none)))) = some (r1,r2):=by first|(rw [hy133];with_reducible exact H)|(have H2_:=(Option.bind_some _ _).symm.trans H;rw [hy133];with_reducible exact H2_)|(have H2_:=(Option.bind_some _ _).symm.trans H;with_reducible exact H2_)|with_reducible exact H|(rw [hy133];exact H)|exact H
    have Ny133:=mk_ hy133
    clear hy133
    replace H:=Option.bind_eq_some_iff.mp H
    obtain ⟨⟨t136,t137⟩,A100,H⟩:=H
    replace H : ((spec_l1Some.f k1 s0_0 t137 t136).bind fun bt138 => (if x3_1.length < 5864062014805 then (spec_l4Sent.l0 k1 (x3_1 ++ [bt138.1]) (wrap64 (x4_1 - 1)) s0_0 bt138.2) else (none))) = some (r1,r2):=H
    have A10:=mk_ A100
    clear A100
    replace H:=Option.bind_eq_some_iff.mp H
    obtain ⟨⟨t138,t141⟩,A110,H⟩:=H
    replace H : (if x3_1.length < 5864062014805 then (spec_l4Sent.l0 k1 (x3_1 ++ [t138]) (wrap64 (x4_1 - 1)) s0_0 t141) else (none)) = some (r1,r2):=H
    have A11:=mk_ A110
    clear A110
    by_cases c12 : x3_1.length < 5864062014805
    ·rw [if_pos c12] at H
     have LMc12:=mk_ c12
     clear c12
     obtain ⟨y142,hy142⟩ : ∃ y_ : List (List Int),y_ = (x3_1 ++ [t138]):=⟨_,rfl⟩
     replace H : (spec_l4Sent.l0 k1 y142 (wrap64 (x4_1 - 1)) s0_0 t141) = some (r1,r2):=by first|(rw [hy142];with_reducible exact H)|(have H2_:=(Option.bind_some _ _).symm.trans H;rw [hy142];with_reducible exact H2_)|(have H2_:=(Option.bind_some _ _).symm.trans H;with_reducible exact H2_)|with_reducible exact H|(rw [hy142];exact H)|exact H
     have Ny142:=mk_ hy142
     clear hy142
     have H':=mk_ H
     clear H
     go_wp2_with (first|((with_reducible refine gate_dst (N:=16) rfl ?_);refine Kd.R_lit (Kd.int .i64) _ 3 ?hg (N:=16) ?hd (xs:=([1,2,0,4] : List Int)) (inner:=[.int .i64 1,.int .i64 2,.int .i64 0,.int .i64 4]) (ok:=fun _ => True) (okp:=fun _ => True) ?hr ?hp (fun _ hk => hk) trivial (Below.refl _ _) (Nat.le_refl _) (by simp) ?_;(case hd => rfl);(case hg => rfl);(case hr => first|(go_simp;done)|(go_simp;rfl));(case hp => exact (Reps.one (show Kd.M (Kd.int .i64) _ _ _ 1 [.int .i64 1] from rfl) (Reps.one (show Kd.M (Kd.int .i64) _ _ _ 2 [.int .i64 2] from rfl) (Reps.one (show Kd.M (Kd.int .i64) _ _ _ 0 [.int .i64 0] from rfl) (Reps.one (show Kd.M (Kd.int .i64) _ _ _ 4 [.int .i64 4] from rfl) (Reps.none _ _))))));intro v134 w13 ho14 hb hg_ hnew_;clear hg_ hnew_;(first|rw [← Ny133.out] at ho14|(simp only [Int.reduceToNat] at ho14;rw [← Ny133.out] at ho14));have n0_:=mk_ (Kd.S_below (by (with_reducible repeat (first|apply Kd.S_alloc|apply Kd.S_drewN|apply Kd.S_drew));exact HO_3.out) hb);have n1_:=mk_ (Kd.R_lower ho14 (keep_size (w:=w) (g:=g) (row:=none) (u1_ HK)));have n2_:=mk_ (IsS68.below (u0_ HI0) hb);have n3_:=mk_ (KeepBut.trans (u1_ HK) (KeepBut.of_below hb g none) (.inl rfl));have n4_:=mk_ (st_ (u2_ HB HI0) hb);clear HO_3 HI0 HK HB;have HO_3:=n0_;have HO135:=n1_;have HI0:=n2_;have HK:=n3_;have HB:=n4_;clear n0_ n1_ n2_ n3_ n4_ hb ho14;obtain ⟨Ao15,co15,eo15⟩:=Kd.R_slice HO135.out;subst eo15)|((with_reducible refine gate_callee (f:=41) rfl ?_);refine goesL_ (some 17) rfl rfl Try.func41 (by kernel_rfl) rfl #[.pointer (some ⟨g,0,none⟩),.slice Ao15 y133.length co15] rfl qm_ ?_;(with_reducible refine (spec_l21Rd_num.calls k1 g s0_0 x1001_1 _ _ y133 t136 t137 w0 _ ?side1 ?side2 ?side3 ?side4 ?side5 A10.out).mono ?_);(case side1 => exact u0_ HI0);(case side2 => exact u2_ HB HI0);(case side3 => repeat (first|exact (rr_ HO135.out).2.2|(with_reducible refine ca_ ?_ _)|(with_reducible refine cn_ ?_ _)|(with_reducible refine cd_ ?_)));(case side4 => exact (rr_ HO135.out).2.1);(case side5 => exact far_slice (IsS68.own_ne HI0.out HO135.out (by decide)));rintro e w16 ⟨rfl,hi,hb,hk⟩;refine ⟨_,rfl,?_⟩;have n0_:=mk_ (Kd.S_mono (Kd.S_keep (IsS68.apartS (show IsS68 w0 _ g s0_0 x1001_1 from u0_ HI0) (by (with_reducible repeat (first|apply Kd.S_alloc|apply Kd.S_drewN|apply Kd.S_drew));exact HO_3.out) (by decide)) hk (fun _ h => h.2)) (fun _ h => h.1));have n1_:=mk_ (rm_ (Kd.R_keep (IsS68.apart (show IsS68 w0 _ g s0_0 x1001_1 from u0_ HI0) (qr_ HO135) (by decide)) hk (fun _ h => h.2)) (fun _ h => h.1));have n2_:=mk_ (KeepBut.trans (u1_ HK) hk (.inl rfl));have n3_:=mk_ (hb);have n4_:=mk_ (hi);clear HO_3 HO135 HK HB HI0;have HO_3:=n0_;have HO135:=n1_;have HK:=n2_;have HB:=n3_;have HI0:=n4_;clear n0_ n1_ n2_ n3_ n4_;(try clear hb);(try clear hb2);(try clear hk);(try clear hi))|((with_reducible refine gate_callee (f:=62) rfl ?_);refine goesL_ (some 18) rfl rfl Try.func62 (by kernel_rfl) rfl #[.pointer (some ⟨g,0,none⟩),.int .i64 t136] rfl qm_ ?_;(with_reducible refine (spec_l1Some.calls k1 g s0_0 t137 t136 t138 t141 w0 _ ?side1 ?side2 A11.out).mono ?_);(case side1 => exact u0_ HI0);(case side2 => exact u2_ HB HI0);rintro e w17 ⟨v139,rfl,ho0,hi,hb,hk⟩;refine ⟨_,rfl,?_⟩;have n0_:=mk_ (Kd.S_mono (Kd.S_told (Kd.S_oldK (IsS68.apartS (show IsS68 w0 _ g s0_0 t137 from u0_ HI0) (by (with_reducible repeat (first|apply Kd.S_alloc|apply Kd.S_drewN|apply Kd.S_drew));exact HO_3.out) (by decide)) hk) (Kd.R_base ho0)) (λ_ h=>h.1));have n1_:=mk_ (rm_ (Kd.R_keep (IsS68.apart (show IsS68 w0 _ g s0_0 t137 from u0_ HI0) (qr_ HO135) (by decide)) hk (fun _ h => h.2)) (fun _ h => h.1));have n2_:=mk_ (Kd.R_lower ho0 (keep_size (w:=w) (g:=g) (row:=none) (u1_ HK)));have n3_:=mk_ (KeepBut.trans (u1_ HK) hk (.inl rfl));have n4_:=mk_ (hb);have n5_:=mk_ (hi);clear HO_3 HO135 HK HB HI0;have HO_3:=n0_;have HO135:=n1_;have HO140:=n2_;have HK:=n3_;have HB:=n4_;have HI0:=n5_;clear n0_ n1_ n2_ n3_ n4_ n5_;(try clear hb);(try clear hb2);(try clear hk);(try clear hi);(try clear ho0);obtain ⟨Ao19,co19,eo19⟩:=Kd.R_slice HO140.out;subst eo19)|((with_reducible refine gate_builtin (b:=.append) (xs:=#[.tmp 13,.tmp 19]) rfl ?_);at_builtin;refine Kd.S_append (Kd.slice 5 (Kd.int .u8)) w.heap.size rfl (.tmp 13) (.tmp 19) 23 22 (.slice none 0 0) 24 rfl Try.underlying23 info22 rfl (by decide) (by omega) u3 x3_1 t138 [.slice Ao19 t138.length co19] (fun _ => True) (fun k_ => some k_ = (.slice Ao19 t138.length co19 : Value).ownBlock) rfl rfl ?aP (fun k_ hk_ => ((rm_ (ok':=fun k_ => ((fun _ => True)) k_ ∧ some k_ ≠ (u3 : Value).ownBlock) (Kd.R_apart' (HO140.out) (Kd.S_typed HO_3.out) (by decide)) (fun k_ hk => ⟨trivial,hk.2⟩))).1 k_ hk_.symm) ?aF ?aO (Below.refl _ _) ?aS ?aL ?_;(case aP => exact Kd.M_row (rm_ (Kd.R_tight rfl (rm_ (ok':=fun k_ => ((fun _ => True)) k_ ∧ some k_ ≠ (u3 : Value).ownBlock) (Kd.R_apart' (HO140.out) (Kd.S_typed HO_3.out) (by decide)) (fun k_ hk => ⟨trivial,hk.2⟩))) (fun _ h_ => h_)));(case aF => exact (fun _ _ => trivial));(case aO => exact (by (with_reducible repeat (first|apply Kd.S_alloc|apply Kd.S_drewN|apply Kd.S_drew));exact Kd.S_mono HO_3.out (fun k_ hk => ⟨trivial,fun e_ => hk.2 e_⟩)));(case aS => exact (keep_size (w:=w) (g:=g) (row:=none) (u1_ HK)));(case aL => have:=LMc12.out;omega);intro v143 w18 ho hb hg hat;rw [← Ny142.out] at ho;have n0_:=mk_ (IsS68.grown (u0_ HI0) hg (IsS68.own_neS HI0.out HO_3.out (by decide)));have n1_:=mk_ (Kd.R_over' (qr_ HO135) (Kd.S_typed (by (with_reducible repeat (first|apply Kd.S_alloc|apply Kd.S_drewN|apply Kd.S_drew));exact HO_3.out)) (by decide) hg);have n2_:=mk_ (below_weaken (u2_ HB HI0) HL.out hb);have n3_:=mk_ (KeepBut.trans (u1_ HK) (KeepBut.of_grown hg g) (Kd.S_base2 HO_3.out));have n4_:=mk_ (ho);clear HI0 HO135 HB HK HO_3 HO140;have HI0:=n0_;have HO135:=n1_;have HB:=n2_;have HK:=n3_;have HO144:=n4_;clear n0_ n1_ n2_ n3_ n4_ ho hb hg hat))
     go_roundg k1
     case measure => have:=HK1.out;omega
     case rel => exact ⟨(y142),(wrap64 (x4_1 - 1)),(t141),qf_,H',⟨by have:=HK1.out;omega⟩,⟨by (with_reducible repeat (first|apply Kd.S_alloc|apply Kd.S_drewN|apply Kd.S_drew));exact HO144.out⟩,⟨u0_ HI0⟩,⟨u1_ HK⟩,⟨u2_ HB HI0⟩⟩
    ·rw [if_neg c12] at H
     exact absurd H (by simp)
   ·rw [if_neg c9] at H
    have c9b0 : decide (0 < x4_1) = false:=decide_eq_false c9
    clear c9
    simp only [Option.some.injEq,Prod.mk.injEq] at H
    obtain ⟨rfl,rfl⟩:=H
    go_wp2
    go_ret
    exact ⟨_,qe_,by (with_reducible repeat (first|apply Kd.S_alloc|apply Kd.S_drewN|apply Kd.S_drew));exact HO_3.out,u0_ HI0,u2_ HB HI0,u1_ HK⟩

/-! ### spec_l4Fates: function 48 -/
def spec_l4Fates.l0 : Nat → List Int → Int → Int → List Int → Int → Option (List Int × Int)
 | 0,_,_,_,_,_ => none
 | k + 1,x3,x4,x5,x1000,x1001 => if x5 > 0 then ((spec_l21Rd_pick.f k x1000 x1001 x4).bind fun bt158 => (if bt158.1 = 0 then ((spec_l21Rd_pick.f k x1000 bt158.2 5).bind fun bt160 => (if x3.length < 17592186044416 then (spec_l4Fates.l0 k (x3 ++ [bt160.1]) x4 (wrap64 (x5 - 1)) x1000 bt160.2) else (none))) else (if x3.length < 17592186044416 then (spec_l4Fates.l0 k (x3 ++ [0]) x4 (wrap64 (x5 - 1)) x1000 bt158.2) else (none)))) else (some (x3,x1001))
def spec_l4Fates.f (k : Nat) (s0_0 : List Int) (s0_1 : Int) : Option (List Int × Int):=(spec_l21Rd_num.f k s0_0 s0_1 (([2,1,3,8] : List Int))).bind fun bt151 => ((spec_l21Rd_num.f k s0_0 bt151.2 (([6,0,12,3,30] : List Int))).bind fun bt156 => (spec_l4Fates.l0 k (([] : List Int)) bt151.1 bt156.1 s0_0 bt156.2))
theorem spec_l4Fates.mono_l : ∀ k,(∀ y0 y1 y2 y3 y4,LeO (spec_l4Fates.l0 k y0 y1 y2 y3 y4) (spec_l4Fates.l0 (k + 1) y0 y1 y2 y3 y4))
 | 0 => fun _ _ _ _ _ r h => by simp [spec_l4Fates.l0] at h
 | k + 1 => by
  have ih0:=spec_l4Fates.mono_l k
  ·intro y0 y1 y2 y3 y4
   unfold spec_l4Fates.l0
   repeat' first
   | (with_reducible exact ih0 _ _ _ _ _)
   | (with_reducible exact spec_l21Rd_num.mono _ _ _ _)
   | (with_reducible exact spec_l21Rd_pick.mono _ _ _ _)
   | (with_reducible exact LeO.refl _)
   | (with_reducible exact LeO.none _)
   | (with_reducible refine LeO.ite ?_ ?_)
   | (with_reducible refine LeO.bind ?_ (fun _ => ?_))
   | exact ih0 _ _ _ _ _
   | exact spec_l21Rd_num.mono _ _ _ _
   | exact spec_l21Rd_pick.mono _ _ _ _
   | exact LeO.none _
   | refine LeO.ite ?_ ?_
   | refine LeO.bind ?_ (fun _ => ?_)
theorem spec_l4Fates.mono : ∀ a0 a1 k,LeO (spec_l4Fates.f k a0 a1) (spec_l4Fates.f (k + 1) a0 a1):=by
 intro a0 a1 k
 have ih0:=spec_l4Fates.mono_l k
 unfold spec_l4Fates.f
 repeat' first
   | (with_reducible exact ih0 _ _ _ _ _)
   | (with_reducible exact spec_l21Rd_num.mono _ _ _ _)
   | (with_reducible exact spec_l21Rd_pick.mono _ _ _ _)
   | (with_reducible exact LeO.refl _)
   | (with_reducible exact LeO.none _)
   | (with_reducible refine LeO.ite ?_ ?_)
   | (with_reducible refine LeO.bind ?_ (fun _ => ?_))
   | exact ih0 _ _ _ _ _
   | exact spec_l21Rd_num.mono _ _ _ _
   | exact spec_l21Rd_pick.mono _ _ _ _
   | exact LeO.none _
   | refine LeO.ite ?_ ?_
   | refine LeO.bind ?_ (fun _ => ?_)
set_option maxHeartbeats 8000000 in
set_option maxRecDepth 100000 in
theorem spec_l4Fates.calls (k : Nat) (g : Nat) (s0_0 : List Int) (s0_1 : Int) (r1 : List Int) (r2 : Int) (w0 w : World) (hI : IsS68 w0 w g s0_0 s0_1) (hB : Below w0.heap.size w0 w) (h : spec_l4Fates.f k s0_0 s0_1 = some (r1,r2)) :
  Calls Try.prog 48 #[.pointer (some ⟨g,0,none⟩)] w fun e w' => ∃ v0_ : Value,e = .returned (v0_) ∧ Kd.R (Kd.int .i64) 3 w' w.heap.size (fun _ => True) v0_ r1 ∧ IsS68 w0 w' g s0_0 r2 ∧ Below w0.heap.size w0 w' ∧ KeepBut w w' g none:=by
 have HI0:=mk_ hI
 have HK:=mk_ (KeepBut.refl w g none)
 have HL:=mk_ hB.size
 clear hI
 have HW0:=mk_ hB.size
 have HB:=mk_ hB
 clear hB
 have H : ((spec_l21Rd_num.f k s0_0 s0_1 (([2,1,3,8] : List Int))).bind fun bt151 => ((spec_l21Rd_num.f k s0_0 bt151.2 (([6,0,12,3,30] : List Int))).bind fun bt156 => (spec_l4Fates.l0 k (([] : List Int)) bt151.1 bt156.1 s0_0 bt156.2))) = some (r1,r2):=h
 clear h
 obtain ⟨y145,hy145⟩ : ∃ y_ : List Int,y_ = (([] : List Int)):=⟨_,rfl⟩
 replace H : ((spec_l21Rd_num.f k s0_0 s0_1 (([2,1,3,8] : List Int))).bind fun bt151 => ((spec_l21Rd_num.f k s0_0 bt151.2 (([6,0,12,3,30] : List Int))).bind fun bt156 => (spec_l4Fates.l0 k y145 bt151.1 bt156.1 s0_0 bt156.2))) = some (r1,r2):=by first|(rw [hy145];with_reducible exact H)|(have H2_:=(Option.bind_some _ _).symm.trans H;rw [hy145];with_reducible exact H2_)|(have H2_:=(Option.bind_some _ _).symm.trans H;with_reducible exact H2_)|with_reducible exact H|(rw [hy145];exact H)|exact H
 have Ny145:=mk_ hy145
 clear hy145
 obtain ⟨y148,hy148⟩ : ∃ y_ : List Int,y_ = (([2,1,3,8] : List Int)):=⟨_,rfl⟩
 replace H : ((spec_l21Rd_num.f k s0_0 s0_1 y148).bind fun bt151 => ((spec_l21Rd_num.f k s0_0 bt151.2 (([6,0,12,3,30] : List Int))).bind fun bt156 => (spec_l4Fates.l0 k y145 bt151.1 bt156.1 s0_0 bt156.2))) = some (r1,r2):=by first|(rw [hy148];with_reducible exact H)|(have H2_:=(Option.bind_some _ _).symm.trans H;rw [hy148];with_reducible exact H2_)|(have H2_:=(Option.bind_some _ _).symm.trans H;with_reducible exact H2_)|with_reducible exact H|(rw [hy148];exact H)|exact H
 have Ny148:=mk_ hy148
 clear hy148
 replace H:=Option.bind_eq_some_iff.mp H
 obtain ⟨⟨t151,t152⟩,A20,H⟩:=H
 replace H : ((spec_l21Rd_num.f k s0_0 t152 (([6,0,12,3,30] : List Int))).bind fun bt156 => (spec_l4Fates.l0 k y145 t151 bt156.1 s0_0 bt156.2)) = some (r1,r2):=H
 have A2:=mk_ A20
 clear A20
 obtain ⟨y153,hy153⟩ : ∃ y_ : List Int,y_ = (([6,0,12,3,30] : List Int)):=⟨_,rfl⟩
 replace H : ((spec_l21Rd_num.f k s0_0 t152 y153).bind fun bt156 => (spec_l4Fates.l0 k y145 t151 bt156.1 s0_0 bt156.2)) = some (r1,r2):=by first|(rw [hy153];with_reducible exact H)|(have H2_:=(Option.bind_some _ _).symm.trans H;rw [hy153];with_reducible exact H2_)|(have H2_:=(Option.bind_some _ _).symm.trans H;with_reducible exact H2_)|with_reducible exact H|(rw [hy153];exact H)|exact H
 have Ny153:=mk_ hy153
 clear hy153
 replace H:=Option.bind_eq_some_iff.mp H
 obtain ⟨⟨t156,t157⟩,A30,H⟩:=H
 replace H : (spec_l4Fates.l0 k y145 t151 t156 s0_0 t157) = some (r1,r2):=H
 have A3:=mk_ A30
 clear A30
 have H':=mk_ H
 clear H
 go_enter Try.func48,Try.ntmps48
 go_wp2_with (first|((with_reducible refine gate_dst (N:=6) rfl ?_);refine Kd.R_lit (Kd.int .i64) _ 3 ?hg (N:=6) ?hd (xs:=([] : List Int)) (inner:=[]) (ok:=fun _ => True) (okp:=fun _ => True) ?hr ?hp (fun _ hk => hk) trivial (Below.refl _ _) (Nat.le_refl _) (by simp) ?_;(case hd => rfl);(case hg => rfl);(case hr => first|(go_simp;done)|(go_simp;rfl));(case hp => exact (Reps.none _ _));intro v146 w4 ho5 hb hg_ hnew_;clear hg_ hnew_;(first|rw [← Ny145.out] at ho5|(simp only [Int.reduceToNat] at ho5;rw [← Ny145.out] at ho5));have n0_:=mk_ (Kd.R_lower ho5 (keep_size (w:=w) (g:=g) (row:=none) (u1_ HK)));have n1_:=mk_ (IsS68.below (u0_ HI0) hb);have n2_:=mk_ (KeepBut.trans (u1_ HK) (KeepBut.of_below hb g none) (.inl rfl));have n3_:=mk_ (st_ (u2_ HB HI0) hb);clear HI0 HK HB;have HO147:=n0_;have HI0:=n1_;have HK:=n2_;have HB:=n3_;clear n0_ n1_ n2_ n3_ hb ho5)|((with_reducible refine gate_dst (N:=8) rfl ?_);refine Kd.R_lit (Kd.int .i64) _ 3 ?hg (N:=8) ?hd (xs:=([2,1,3,8] : List Int)) (inner:=[.int .i64 2,.int .i64 1,.int .i64 3,.int .i64 8]) (ok:=fun _ => True) (okp:=fun _ => True) ?hr ?hp (fun _ hk => hk) trivial (Below.refl _ _) (Nat.le_refl _) (by simp) ?_;(case hd => rfl);(case hg => rfl);(case hr => first|(go_simp;done)|(go_simp;rfl));(case hp => exact (Reps.one (show Kd.M (Kd.int .i64) _ _ _ 2 [.int .i64 2] from rfl) (Reps.one (show Kd.M (Kd.int .i64) _ _ _ 1 [.int .i64 1] from rfl) (Reps.one (show Kd.M (Kd.int .i64) _ _ _ 3 [.int .i64 3] from rfl) (Reps.one (show Kd.M (Kd.int .i64) _ _ _ 8 [.int .i64 8] from rfl) (Reps.none _ _))))));intro v149 w6 ho7 hb hg_ hnew_;clear hg_ hnew_;(first|rw [← Ny148.out] at ho7|(simp only [Int.reduceToNat] at ho7;rw [← Ny148.out] at ho7));have n0_:=mk_ (re_ (qr_ HO147) (Kd.R_base ho7) hb);have n1_:=mk_ (Kd.R_lower (Kd.R_new' ho7 (Kd.R_lt (qr_ HO147))) (keep_size (w:=w) (g:=g) (row:=none) (u1_ HK)));have n2_:=mk_ (IsS68.below (u0_ HI0) hb);have n3_:=mk_ (KeepBut.trans (u1_ HK) (KeepBut.of_below hb g none) (.inl rfl));have n4_:=mk_ (st_ (u2_ HB HI0) hb);clear HO147 HI0 HK HB;have HO147:=n0_;have HO150:=n1_;have HI0:=n2_;have HK:=n3_;have HB:=n4_;clear n0_ n1_ n2_ n3_ n4_ hb ho7;obtain ⟨Ao8,co8,eo8⟩:=Kd.R_slice HO150.out;subst eo8)|((with_reducible refine gate_callee (f:=41) rfl ?_);refine goesL_ (some 9) rfl rfl Try.func41 (by kernel_rfl) rfl #[.pointer (some ⟨g,0,none⟩),.slice Ao8 y148.length co8] rfl qm_ ?_;(with_reducible refine (spec_l21Rd_num.calls k g s0_0 s0_1 _ _ y148 t151 t152 w0 _ ?side1 ?side2 ?side3 ?side4 ?side5 A2.out).mono ?_);(case side1 => exact u0_ HI0);(case side2 => exact u2_ HB HI0);(case side3 => repeat (first|exact (rr_ HO150.out).2.2|(with_reducible refine ca_ ?_ _)|(with_reducible refine cn_ ?_ _)|(with_reducible refine cd_ ?_)));(case side4 => exact (rr_ HO150.out).2.1);(case side5 => exact far_slice (IsS68.own_ne HI0.out HO150.out (by decide)));rintro e w9 ⟨rfl,hi,hb,hk⟩;refine ⟨_,rfl,?_⟩;have n0_:=mk_ (rm_ (Kd.R_keep (IsS68.apart (show IsS68 w0 _ g s0_0 s0_1 from u0_ HI0) (qr_ HO147) (by decide)) hk (fun _ h => h.2)) (fun _ h => h.1));have n1_:=mk_ (rm_ (Kd.R_keep (IsS68.apart (show IsS68 w0 _ g s0_0 s0_1 from u0_ HI0) (qr_ HO150) (by decide)) hk (fun _ h => h.2)) (fun _ h => h.1));have n2_:=mk_ (KeepBut.trans (u1_ HK) hk (.inl rfl));have n3_:=mk_ (hb);have n4_:=mk_ (hi);clear HO147 HO150 HK HB HI0;have HO147:=n0_;have HO150:=n1_;have HK:=n2_;have HB:=n3_;have HI0:=n4_;clear n0_ n1_ n2_ n3_ n4_;(try clear hb);(try clear hb2);(try clear hk);(try clear hi))|((with_reducible refine gate_dst (N:=11) rfl ?_);refine Kd.R_lit (Kd.int .i64) _ 3 ?hg (N:=11) ?hd (xs:=([6,0,12,3,30] : List Int)) (inner:=[.int .i64 6,.int .i64 0,.int .i64 12,.int .i64 3,.int .i64 30]) (ok:=fun _ => True) (okp:=fun _ => True) ?hr ?hp (fun _ hk => hk) trivial (Below.refl _ _) (Nat.le_refl _) (by simp) ?_;(case hd => rfl);(case hg => rfl);(case hr => first|(go_simp;done)|(go_simp;rfl));(case hp => exact (Reps.one (show Kd.M (Kd.int .i64) _ _ _ 6 [.int .i64 6] from rfl) (Reps.one (show Kd.M (Kd.int .i64) _ _ _ 0 [.int .i64 0] from rfl) (Reps.one (show Kd.M (Kd.int .i64) _ _ _ 12 [.int .i64 12] from rfl) (Reps.one (show Kd.M (Kd.int .i64) _ _ _ 3 [.int .i64 3] from rfl) (Reps.one (show Kd.M (Kd.int .i64) _ _ _ 30 [.int .i64 30] from rfl) (Reps.none _ _)))))));intro v154 w10 ho11 hb hg_ hnew_;clear hg_ hnew_;(first|rw [← Ny153.out] at ho11|(simp only [Int.reduceToNat] at ho11;rw [← Ny153.out] at ho11));have n0_:=mk_ (re_ (qr_ HO147) (Kd.R_base ho11) hb);have n1_:=mk_ (re_ (qr_ HO150) (Kd.R_base ho11) hb);have n2_:=mk_ (Kd.R_lower (Kd.R_new' (Kd.R_new' ho11 (Kd.R_lt (qr_ HO147))) (Kd.R_lt (qr_ HO150))) (keep_size (w:=w) (g:=g) (row:=none) (u1_ HK)));have n3_:=mk_ (IsS68.below (u0_ HI0) hb);have n4_:=mk_ (KeepBut.trans (u1_ HK) (KeepBut.of_below hb g none) (.inl rfl));have n5_:=mk_ (st_ (u2_ HB HI0) hb);clear HO147 HO150 HI0 HK HB;have HO147:=n0_;have HO150:=n1_;have HO155:=n2_;have HI0:=n3_;have HK:=n4_;have HB:=n5_;clear n0_ n1_ n2_ n3_ n4_ n5_ hb ho11;obtain ⟨Ao12,co12,eo12⟩:=Kd.R_slice HO155.out;subst eo12)|((with_reducible refine gate_callee (f:=41) rfl ?_);refine goesL_ (some 12) rfl rfl Try.func41 (by kernel_rfl) rfl #[.pointer (some ⟨g,0,none⟩),.slice Ao12 y153.length co12] rfl qm_ ?_;(with_reducible refine (spec_l21Rd_num.calls k g s0_0 t152 _ _ y153 t156 t157 w0 _ ?side1 ?side2 ?side3 ?side4 ?side5 A3.out).mono ?_);(case side1 => exact u0_ HI0);(case side2 => exact u2_ HB HI0);(case side3 => repeat (first|exact (rr_ HO155.out).2.2|(with_reducible refine ca_ ?_ _)|(with_reducible refine cn_ ?_ _)|(with_reducible refine cd_ ?_)));(case side4 => exact (rr_ HO155.out).2.1);(case side5 => exact far_slice (IsS68.own_ne HI0.out HO155.out (by decide)));rintro e w13 ⟨rfl,hi,hb,hk⟩;refine ⟨_,rfl,?_⟩;have n0_:=mk_ (rm_ (Kd.R_keep (IsS68.apart (show IsS68 w0 _ g s0_0 t152 from u0_ HI0) (qr_ HO147) (by decide)) hk (fun _ h => h.2)) (fun _ h => h.1));have n1_:=mk_ (rm_ (Kd.R_keep (IsS68.apart (show IsS68 w0 _ g s0_0 t152 from u0_ HI0) (qr_ HO150) (by decide)) hk (fun _ h => h.2)) (fun _ h => h.1));have n2_:=mk_ (rm_ (Kd.R_keep (IsS68.apart (show IsS68 w0 _ g s0_0 t152 from u0_ HI0) (qr_ HO155) (by decide)) hk (fun _ h => h.2)) (fun _ h => h.1));have n3_:=mk_ (KeepBut.trans (u1_ HK) hk (.inl rfl));have n4_:=mk_ (hb);have n5_:=mk_ (hi);clear HO147 HO150 HO155 HK HB HI0;have HO147:=n0_;have HO150:=n1_;have HO155:=n2_;have HK:=n3_;have HB:=n4_;have HI0:=n5_;clear n0_ n1_ n2_ n3_ n4_ n5_;(try clear hb);(try clear hb2);(try clear hk);(try clear hi)))
 go_loopg [3,5] k (fun kq v3 v5 w' => ∃ (x3_1 : List Int) (x5_1 : Int) (x1001_1 : Int),v5 = .int .i64 x5_1 ∧ Aside0 (spec_l4Fates.l0 kq x3_1 t151 x5_1 s0_0 x1001_1 = some (r1,r2)) ∧ Aside0 (kq ≤ k) ∧ Aside0 (Kd.R (Kd.int .i64) 3 w' w.heap.size (fun _ => True) v3 x3_1) ∧ Aside0 (IsS68 w0 w' g s0_0 x1001_1) ∧ Aside0 (KeepBut w w' g none) ∧ Aside0 (Below w0.heap.size w0 w'))
 case atStart => exact ⟨(y145),(t156),(t157),qf_,H',⟨Nat.le_refl _⟩,⟨by (with_reducible repeat (first|apply ra_|apply rn_|apply rd_));exact rm_ HO147.out (λ_ _=>trivial)⟩,⟨u0_ HI0⟩,⟨u1_ HK⟩,⟨u2_ HB HI0⟩⟩
 case round =>
  clear H'
  try clear p2
  try clear c4
  obtain ⟨x3_1,x5_1,x1001_1,rfl,HA,HK1,HO_3,HI0,HK,HB⟩:=hrel
  cases gk with
  | zero => exact absurd HA.out (by simp [spec_l4Fates.l0])
  | succ k1 =>
   have H:=HA.out
   clear HA
   simp only [spec_l4Fates.l0] at H
   by_cases c14 : x5_1 > 0
   ·rw [if_pos c14] at H
    have c14b0 : decide (0 < x5_1) = true:=decide_eq_true c14
    clear c14
    replace H:=Option.bind_eq_some_iff.mp H
    obtain ⟨⟨t158,t159⟩,A150,H⟩:=H
    replace H : (if t158 = 0 then ((spec_l21Rd_pick.f k1 s0_0 t159 5).bind fun bt160 => (if x3_1.length < 17592186044416 then (spec_l4Fates.l0 k1 (x3_1 ++ [bt160.1]) t151 (wrap64 (x5_1 - 1)) s0_0 bt160.2) else (none))) else (if x3_1.length < 17592186044416 then (spec_l4Fates.l0 k1 (x3_1 ++ [0]) t151 (wrap64 (x5_1 - 1)) s0_0 t159) else (none))) = some (r1,r2):=H
    have A15:=mk_ A150
    clear A150
    by_cases c16 : t158 = 0
    ·rw [if_pos c16] at H
     have c16b0 : (t158 == 0) = true:=beq_iff_eq.mpr c16
     have c16b1 : (t158 != 0) = false:=bne_eq_false_iff_eq.mpr c16
     clear c16
     replace H:=Option.bind_eq_some_iff.mp H
     obtain ⟨⟨t160,t161⟩,A170,H⟩:=H
     replace H : (if x3_1.length < 17592186044416 then (spec_l4Fates.l0 k1 (x3_1 ++ [t160]) t151 (wrap64 (x5_1 - 1)) s0_0 t161) else (none)) = some (r1,r2):=H
     have A17:=mk_ A170
     clear A170
     by_cases c18 : x3_1.length < 17592186044416
     ·rw [if_pos c18] at H
      have LMc18:=mk_ c18
      clear c18
      obtain ⟨y162,hy162⟩ : ∃ y_ : List Int,y_ = (x3_1 ++ [t160]):=⟨_,rfl⟩
      replace H : (spec_l4Fates.l0 k1 y162 t151 (wrap64 (x5_1 - 1)) s0_0 t161) = some (r1,r2):=by first|(rw [hy162];with_reducible exact H)|(have H2_:=(Option.bind_some _ _).symm.trans H;rw [hy162];with_reducible exact H2_)|(have H2_:=(Option.bind_some _ _).symm.trans H;with_reducible exact H2_)|with_reducible exact H|(rw [hy162];exact H)|exact H
      have Ny162:=mk_ hy162
      clear hy162
      have H':=mk_ H
      clear H
      go_wp2_with (first|((with_reducible refine gate_callee (f:=49) rfl ?_);refine goesL_ (some 19) rfl rfl Try.func49 (by kernel_rfl) rfl #[.pointer (some ⟨g,0,none⟩),.int .i64 t151] rfl qm_ ?_;(with_reducible refine (spec_l21Rd_pick.calls k1 g s0_0 x1001_1 t151 t158 t159 w0 _ ?side1 ?side2 A15.out).mono ?_);(case side1 => exact u0_ HI0);(case side2 => exact u2_ HB HI0);rintro e w19 ⟨rfl,hi,hb,hk⟩;refine ⟨_,rfl,?_⟩;have n0_:=mk_ (rm_ (Kd.R_keep (IsS68.apart (show IsS68 w0 _ g s0_0 x1001_1 from u0_ HI0) (qr_ HO_3) (by decide)) hk (fun _ h => h.2)) (fun _ h => h.1));have n1_:=mk_ (KeepBut.trans (u1_ HK) hk (.inl rfl));have n2_:=mk_ (hb);have n3_:=mk_ (hi);clear HO_3 HK HB HI0;have HO_3:=n0_;have HK:=n1_;have HB:=n2_;have HI0:=n3_;clear n0_ n1_ n2_ n3_;(try clear hb);(try clear hb2);(try clear hk);(try clear hi))|((with_reducible refine gate_callee (f:=49) rfl ?_);refine goesL_ (some 23) rfl rfl Try.func49 (by kernel_rfl) rfl #[.pointer (some ⟨g,0,none⟩),.int .i64 5] rfl qm_ ?_;(with_reducible refine (spec_l21Rd_pick.calls k1 g s0_0 t159 5 t160 t161 w0 _ ?side1 ?side2 A17.out).mono ?_);(case side1 => exact u0_ HI0);(case side2 => exact u2_ HB HI0);rintro e w20 ⟨rfl,hi,hb,hk⟩;refine ⟨_,rfl,?_⟩;have n0_:=mk_ (rm_ (Kd.R_keep (IsS68.apart (show IsS68 w0 _ g s0_0 t159 from u0_ HI0) (qr_ HO_3) (by decide)) hk (fun _ h => h.2)) (fun _ h => h.1));have n1_:=mk_ (KeepBut.trans (u1_ HK) hk (.inl rfl));have n2_:=mk_ (hb);have n3_:=mk_ (hi);clear HO_3 HK HB HI0;have HO_3:=n0_;have HK:=n1_;have HB:=n2_;have HI0:=n3_;clear n0_ n1_ n2_ n3_;(try clear hb);(try clear hb2);(try clear hk);(try clear hi))|((with_reducible refine gate_builtin (b:=.append) (xs:=#[.tmp 21,.tmp 24]) rfl ?_);at_builtin;refine Kd.R_append (Kd.int .i64) w.heap.size rfl (.tmp 21) (.tmp 24) 24 3 (.int .i64 0) 8 rfl Try.underlying24 info3 rfl (by decide) (by omega) u3 x3_1 t160 [.int .i64 t160] (fun _ => True) (fun _ => False) rfl rfl ?aP (fun _ hk => hk.elim) ?aF ?aO (Below.refl _ _) ?aS ?aL ?_;(case aP => exact rfl);(case aF => exact (fun _ _ => trivial));(case aO => exact (qr_ HO_3));(case aS => exact (keep_size (w:=w) (g:=g) (row:=none) (u1_ HK)));(case aL => have:=LMc18.out;omega);intro v163 w21 ho hb hg hat;rw [← Ny162.out] at ho;have n0_:=mk_ (IsS68.grown (u0_ HI0) hg (IsS68.own_ne HI0.out HO_3.out (by decide)));have n1_:=mk_ (below_weaken (u2_ HB HI0) HL.out hb);have n2_:=mk_ (KeepBut.trans (u1_ HK) (KeepBut.of_grown hg g) (Kd.R_base2 HO_3.out));have n3_:=mk_ (ho);clear HI0 HB HK HO_3;have HI0:=n0_;have HB:=n1_;have HK:=n2_;have HO164:=n3_;clear n0_ n1_ n2_ n3_ ho hb hg hat))
      go_roundg k1
      case measure => have:=HK1.out;omega
      case rel => exact ⟨(y162),(wrap64 (x5_1 - 1)),(t161),qf_,H',⟨by have:=HK1.out;omega⟩,⟨qr_ HO164⟩,⟨u0_ HI0⟩,⟨u1_ HK⟩,⟨u2_ HB HI0⟩⟩
     ·rw [if_neg c18] at H
      exact absurd H (by simp)
    ·rw [if_neg c16] at H
     have c16b0 : (t158 == 0) = false:=beq_eq_false_iff_ne.mpr c16
     have c16b1 : (t158 != 0) = true:=bne_iff_ne.mpr c16
     by_cases c22 : x3_1.length < 17592186044416
     ·rw [if_pos c22] at H
      have LMc22:=mk_ c22
      clear c22
      obtain ⟨y165,hy165⟩ : ∃ y_ : List Int,y_ = (x3_1 ++ [0]):=⟨_,rfl⟩
      replace H : (spec_l4Fates.l0 k1 y165 t151 (wrap64 (x5_1 - 1)) s0_0 t159) = some (r1,r2):=by first|(rw [hy165];with_reducible exact H)|(have H2_:=(Option.bind_some _ _).symm.trans H;rw [hy165];with_reducible exact H2_)|(have H2_:=(Option.bind_some _ _).symm.trans H;with_reducible exact H2_)|with_reducible exact H|(rw [hy165];exact H)|exact H
      have Ny165:=mk_ hy165
      clear hy165
      have H':=mk_ H
      clear H
      go_wp2_with (first|((with_reducible refine gate_callee (f:=49) rfl ?_);refine goesL_ (some 19) rfl rfl Try.func49 (by kernel_rfl) rfl #[.pointer (some ⟨g,0,none⟩),.int .i64 t151] rfl qm_ ?_;(with_reducible refine (spec_l21Rd_pick.calls k1 g s0_0 x1001_1 t151 t158 t159 w0 _ ?side1 ?side2 A15.out).mono ?_);(case side1 => exact u0_ HI0);(case side2 => exact u2_ HB HI0);rintro e w23 ⟨rfl,hi,hb,hk⟩;refine ⟨_,rfl,?_⟩;have n0_:=mk_ (rm_ (Kd.R_keep (IsS68.apart (show IsS68 w0 _ g s0_0 x1001_1 from u0_ HI0) (qr_ HO_3) (by decide)) hk (fun _ h => h.2)) (fun _ h => h.1));have n1_:=mk_ (KeepBut.trans (u1_ HK) hk (.inl rfl));have n2_:=mk_ (hb);have n3_:=mk_ (hi);clear HO_3 HK HB HI0;have HO_3:=n0_;have HK:=n1_;have HB:=n2_;have HI0:=n3_;clear n0_ n1_ n2_ n3_;(try clear hb);(try clear hb2);(try clear hk);(try clear hi))|((with_reducible refine gate_builtin (b:=.append) (xs:=#[.tmp 26,.tmp 27]) rfl ?_);at_builtin;refine Kd.R_append (Kd.int .i64) w.heap.size rfl (.tmp 26) (.tmp 27) 24 3 (.int .i64 0) 8 rfl Try.underlying24 info3 rfl (by decide) (by omega) u3 x3_1 0 [.int .i64 0] (fun _ => True) (fun _ => False) rfl rfl ?aP (fun _ hk => hk.elim) ?aF ?aO (Below.refl _ _) ?aS ?aL ?_;(case aP => exact rfl);(case aF => exact (fun _ _ => trivial));(case aO => exact (qr_ HO_3));(case aS => exact (keep_size (w:=w) (g:=g) (row:=none) (u1_ HK)));(case aL => have:=LMc22.out;omega);intro v166 w24 ho hb hg hat;rw [← Ny165.out] at ho;have n0_:=mk_ (IsS68.grown (u0_ HI0) hg (IsS68.own_ne HI0.out HO_3.out (by decide)));have n1_:=mk_ (below_weaken (u2_ HB HI0) HL.out hb);have n2_:=mk_ (KeepBut.trans (u1_ HK) (KeepBut.of_grown hg g) (Kd.R_base2 HO_3.out));have n3_:=mk_ (ho);clear HI0 HB HK HO_3;have HI0:=n0_;have HB:=n1_;have HK:=n2_;have HO167:=n3_;clear n0_ n1_ n2_ n3_ ho hb hg hat))
      go_roundg k1
      case measure => have:=HK1.out;omega
      case rel => exact ⟨(y165),(wrap64 (x5_1 - 1)),(t159),qf_,H',⟨by have:=HK1.out;omega⟩,⟨qr_ HO167⟩,⟨u0_ HI0⟩,⟨u1_ HK⟩,⟨u2_ HB HI0⟩⟩
     ·rw [if_neg c22] at H
      exact absurd H (by simp)
   ·rw [if_neg c14] at H
    have c14b0 : decide (0 < x5_1) = false:=decide_eq_false c14
    clear c14
    simp only [Option.some.injEq,Prod.mk.injEq] at H
    obtain ⟨rfl,rfl⟩:=H
    go_wp2
    go_ret
    exact ⟨_,qe_,qr_ HO_3,u0_ HI0,u2_ HB HI0,u1_ HK⟩

/-! ### spec_l5Draw: function 29 -/
def spec_l5Draw.f (k : Nat) (s0_0 : List Int) (s0_1 : Int) : Option (Int × (List (List Int)) × List Int × List Int × Int):=(spec_l4Sent.f k s0_0 s0_1).bind fun bt168 => ((spec_l21Rd_num.f k s0_0 bt168.2 (([4,1,2,8,3] : List Int))).bind fun bt175 => ((spec_l4Fates.f k s0_0 bt175.2).bind fun bt177 => ((spec_l4Fates.f k s0_0 bt177.2).bind fun bt181 => ((spec_l21Rd_pick.f k s0_0 bt181.2 48).bind fun bt185 => (if bt185.1 = 0 then ((spec_l21Rd_num.f k s0_0 bt185.2 (([0,9] : List Int))).bind fun bt190 => (some (bt190.1,bt168.1,bt177.1,bt181.1,bt190.2))) else (if bt185.1 = 1 then (if 598 ≤ 281474976710656 then (if bt168.1.length < 5864062014805 then (some (bt175.1,(bt168.1 ++ [(List.replicate 598 0)]),bt177.1,bt181.1,bt185.2)) else (none)) else (none)) else (if bt185.1 = 2 then (if bt177.1.length < 17592186044416 then (some (bt175.1,bt168.1,(bt177.1 ++ [7]),bt181.1,bt185.2)) else (none)) else (if bt185.1 = 3 then (if bt181.1.length < 17592186044416 then (some (bt175.1,bt168.1,bt177.1,(bt181.1 ++ [(-1)]),bt185.2)) else (none)) else (some (bt175.1,bt168.1,bt177.1,bt181.1,bt185.2))))))))))
theorem spec_l5Draw.mono : ∀ a0 a1 k,LeO (spec_l5Draw.f k a0 a1) (spec_l5Draw.f (k + 1) a0 a1):=by
 intro a0 a1 k
 unfold spec_l5Draw.f
 repeat' first
   | (with_reducible exact spec_l21Rd_num.mono _ _ _ _)
   | (with_reducible exact spec_l21Rd_pick.mono _ _ _ _)
   | (with_reducible exact spec_l4Fates.mono _ _ _)
   | (with_reducible exact spec_l4Sent.mono _ _ _)
   | (with_reducible exact LeO.refl _)
   | (with_reducible exact LeO.none _)
   | (with_reducible refine LeO.ite ?_ ?_)
   | (with_reducible refine LeO.bind ?_ (fun _ => ?_))
   | exact spec_l21Rd_num.mono _ _ _ _
   | exact spec_l21Rd_pick.mono _ _ _ _
   | exact spec_l4Fates.mono _ _ _
   | exact spec_l4Sent.mono _ _ _
   | exact LeO.none _
   | refine LeO.ite ?_ ?_
   | refine LeO.bind ?_ (fun _ => ?_)
set_option maxHeartbeats 8000000 in
set_option maxRecDepth 100000 in
theorem spec_l5Draw.calls (k : Nat) (g : Nat) (s0_0 : List Int) (s0_1 : Int) (r1 : Int) (r2 : List (List Int)) (r3 : List Int) (r4 : List Int) (r5 : Int) (w0 w : World) (hI : IsS68 w0 w g s0_0 s0_1) (hB : Below w0.heap.size w0 w) (h : spec_l5Draw.f k s0_0 s0_1 = some (r1,r2,r3,r4,r5)) :
  Calls Try.prog 29 #[.pointer (some ⟨g,0,none⟩)] w fun e w' => ∃ v1_ v2_ v3_ : Value,e = .returned (.tuple #[.int .i64 r1,v1_,v2_,v3_]) ∧ Kd.S (Kd.slice 5 (Kd.int .u8)) 22 w' w.heap.size (fun _ => True) v1_ r2 ∧ Kd.R (Kd.int .i64) 3 w' w.heap.size (fun k_ => some k_ ≠ (v3_ : Value).ownBlock) v2_ r3 ∧ Kd.R (Kd.int .i64) 3 w' w.heap.size (fun k_ => some k_ ≠ (v2_ : Value).ownBlock) v3_ r4 ∧ IsS68 w0 w' g s0_0 r5 ∧ Below w0.heap.size w0 w' ∧ KeepBut w w' g none:=by
 have HI0:=mk_ hI
 have HK:=mk_ (KeepBut.refl w g none)
 have HL:=mk_ hB.size
 clear hI
 have HW0:=mk_ hB.size
 have HB:=mk_ hB
 clear hB
 have H : ((spec_l4Sent.f k s0_0 s0_1).bind fun bt168 => ((spec_l21Rd_num.f k s0_0 bt168.2 (([4,1,2,8,3] : List Int))).bind fun bt175 => ((spec_l4Fates.f k s0_0 bt175.2).bind fun bt177 => ((spec_l4Fates.f k s0_0 bt177.2).bind fun bt181 => ((spec_l21Rd_pick.f k s0_0 bt181.2 48).bind fun bt185 => (if bt185.1 = 0 then ((spec_l21Rd_num.f k s0_0 bt185.2 (([0,9] : List Int))).bind fun bt190 => (some (bt190.1,bt168.1,bt177.1,bt181.1,bt190.2))) else (if bt185.1 = 1 then (if 598 ≤ 281474976710656 then (if bt168.1.length < 5864062014805 then (some (bt175.1,(bt168.1 ++ [(List.replicate 598 0)]),bt177.1,bt181.1,bt185.2)) else (none)) else (none)) else (if bt185.1 = 2 then (if bt177.1.length < 17592186044416 then (some (bt175.1,bt168.1,(bt177.1 ++ [7]),bt181.1,bt185.2)) else (none)) else (if bt185.1 = 3 then (if bt181.1.length < 17592186044416 then (some (bt175.1,bt168.1,bt177.1,(bt181.1 ++ [(-1)]),bt185.2)) else (none)) else (some (bt175.1,bt168.1,bt177.1,bt181.1,bt185.2))))))))))) = some (r1,r2,r3,r4,r5):=h
 clear h
 replace H:=Option.bind_eq_some_iff.mp H
 obtain ⟨⟨t168,t171⟩,A20,H⟩:=H
 replace H : ((spec_l21Rd_num.f k s0_0 t171 (([4,1,2,8,3] : List Int))).bind fun bt175 => ((spec_l4Fates.f k s0_0 bt175.2).bind fun bt177 => ((spec_l4Fates.f k s0_0 bt177.2).bind fun bt181 => ((spec_l21Rd_pick.f k s0_0 bt181.2 48).bind fun bt185 => (if bt185.1 = 0 then ((spec_l21Rd_num.f k s0_0 bt185.2 (([0,9] : List Int))).bind fun bt190 => (some (bt190.1,t168,bt177.1,bt181.1,bt190.2))) else (if bt185.1 = 1 then (if 598 ≤ 281474976710656 then (if t168.length < 5864062014805 then (some (bt175.1,(t168 ++ [(List.replicate 598 0)]),bt177.1,bt181.1,bt185.2)) else (none)) else (none)) else (if bt185.1 = 2 then (if bt177.1.length < 17592186044416 then (some (bt175.1,t168,(bt177.1 ++ [7]),bt181.1,bt185.2)) else (none)) else (if bt185.1 = 3 then (if bt181.1.length < 17592186044416 then (some (bt175.1,t168,bt177.1,(bt181.1 ++ [(-1)]),bt185.2)) else (none)) else (some (bt175.1,t168,bt177.1,bt181.1,bt185.2)))))))))) = some (r1,r2,r3,r4,r5):=H
 have A2:=mk_ A20
 clear A20
 obtain ⟨y172,hy172⟩ : ∃ y_ : List Int,y_ = (([4,1,2,8,3] : List Int)):=⟨_,rfl⟩
 replace H : ((spec_l21Rd_num.f k s0_0 t171 y172).bind fun bt175 => ((spec_l4Fates.f k s0_0 bt175.2).bind fun bt177 => ((spec_l4Fates.f k s0_0 bt177.2).bind fun bt181 => ((spec_l21Rd_pick.f k s0_0 bt181.2 48).bind fun bt185 => (if bt185.1 = 0 then ((spec_l21Rd_num.f k s0_0 bt185.2 (([0,9] : List Int))).bind fun bt190 => (some (bt190.1,t168,bt177.1,bt181.1,bt190.2))) else (if bt185.1 = 1 then (if 598 ≤ 281474976710656 then (if t168.length < 5864062014805 then (some (bt175.1,(t168 ++ [(List.replicate 598 0)]),bt177.1,bt181.1,bt185.2)) else (none)) else (none)) else (if bt185.1 = 2 then (if bt177.1.length < 17592186044416 then (some (bt175.1,t168,(bt177.1 ++ [7]),bt181.1,bt185.2)) else (none)) else (if bt185.1 = 3 then (if bt181.1.length < 17592186044416 then (some (bt175.1,t168,bt177.1,(bt181.1 ++ [(-1)]),bt185.2)) else (none)) else (some (bt175.1,t168,bt177.1,bt181.1,bt185.2)))))))))) = some (r1,r2,r3,r4,r5):=by first|(rw [hy172];with_reducible exact H)|(have H2_:=(Option.bind_some _ _).symm.trans H;rw [hy172];with_reducible exact H2_)|(have H2_:=(Option.bind_some _ _).symm.trans H;with_reducible exact H2_)|with_reducible exact H|(rw [hy172];exact H)|exact H
 have Ny172:=mk_ hy172
 clear hy172
 replace H:=Option.bind_eq_some_iff.mp H
 obtain ⟨⟨t175,t176⟩,A30,H⟩:=H
 replace H : ((spec_l4Fates.f k s0_0 t176).bind fun bt177 => ((spec_l4Fates.f k s0_0 bt177.2).bind fun bt181 => ((spec_l21Rd_pick.f k s0_0 bt181.2 48).bind fun bt185 => (if bt185.1 = 0 then ((spec_l21Rd_num.f k s0_0 bt185.2 (([0,9] : List Int))).bind fun bt190 => (some (bt190.1,t168,bt177.1,bt181.1,bt190.2))) else (if bt185.1 = 1 then (if 598 ≤ 281474976710656 then (if t168.length < 5864062014805 then (some (t175,(t168 ++ [(List.replicate 598 0)]),bt177.1,bt181.1,bt185.2)) else (none)) else (none)) else (if bt185.1 = 2 then (if bt177.1.length < 17592186044416 then (some (t175,t168,(bt177.1 ++ [7]),bt181.1,bt185.2)) else (none)) else (if bt185.1 = 3 then (if bt181.1.length < 17592186044416 then (some (t175,t168,bt177.1,(bt181.1 ++ [(-1)]),bt185.2)) else (none)) else (some (t175,t168,bt177.1,bt181.1,bt185.2))))))))) = some (r1,r2,r3,r4,r5):=H
 have A3:=mk_ A30
 clear A30
 replace H:=Option.bind_eq_some_iff.mp H
 obtain ⟨⟨t177,t180⟩,A40,H⟩:=H
 replace H : ((spec_l4Fates.f k s0_0 t180).bind fun bt181 => ((spec_l21Rd_pick.f k s0_0 bt181.2 48).bind fun bt185 => (if bt185.1 = 0 then ((spec_l21Rd_num.f k s0_0 bt185.2 (([0,9] : List Int))).bind fun bt190 => (some (bt190.1,t168,t177,bt181.1,bt190.2))) else (if bt185.1 = 1 then (if 598 ≤ 281474976710656 then (if t168.length < 5864062014805 then (some (t175,(t168 ++ [(List.replicate 598 0)]),t177,bt181.1,bt185.2)) else (none)) else (none)) else (if bt185.1 = 2 then (if t177.length < 17592186044416 then (some (t175,t168,(t177 ++ [7]),bt181.1,bt185.2)) else (none)) else (if bt185.1 = 3 then (if bt181.1.length < 17592186044416 then (some (t175,t168,t177,(bt181.1 ++ [(-1)]),bt185.2)) else (none)) else (some (t175,t168,t177,bt181.1,bt185.2)))))))) = some (r1,r2,r3,r4,r5):=H
 have A4:=mk_ A40
 clear A40
 replace H:=Option.bind_eq_some_iff.mp H
 obtain ⟨⟨t181,t184⟩,A50,H⟩:=H
 replace H : ((spec_l21Rd_pick.f k s0_0 t184 48).bind fun bt185 => (if bt185.1 = 0 then ((spec_l21Rd_num.f k s0_0 bt185.2 (([0,9] : List Int))).bind fun bt190 => (some (bt190.1,t168,t177,t181,bt190.2))) else (if bt185.1 = 1 then (if 598 ≤ 281474976710656 then (if t168.length < 5864062014805 then (some (t175,(t168 ++ [(List.replicate 598 0)]),t177,t181,bt185.2)) else (none)) else (none)) else (if bt185.1 = 2 then (if t177.length < 17592186044416 then (some (t175,t168,(t177 ++ [7]),t181,bt185.2)) else (none)) else (if bt185.1 = 3 then (if t181.length < 17592186044416 then (some (t175,t168,t177,(t181 ++ [(-1)]),bt185.2)) else (none)) else (some (t175,t168,t177,t181,bt185.2))))))) = some (r1,r2,r3,r4,r5):=H
 have A5:=mk_ A50
 clear A50
 replace H:=Option.bind_eq_some_iff.mp H
 obtain ⟨⟨t185,t186⟩,A60,H⟩:=H
 replace H : (if t185 = 0 then ((spec_l21Rd_num.f k s0_0 t186 (([0,9] : List Int))).bind fun bt190 => (some (bt190.1,t168,t177,t181,bt190.2))) else (if t185 = 1 then (if 598 ≤ 281474976710656 then (if t168.length < 5864062014805 then (some (t175,(t168 ++ [(List.replicate 598 0)]),t177,t181,t186)) else (none)) else (none)) else (if t185 = 2 then (if t177.length < 17592186044416 then (some (t175,t168,(t177 ++ [7]),t181,t186)) else (none)) else (if t185 = 3 then (if t181.length < 17592186044416 then (some (t175,t168,t177,(t181 ++ [(-1)]),t186)) else (none)) else (some (t175,t168,t177,t181,t186)))))) = some (r1,r2,r3,r4,r5):=H
 have A6:=mk_ A60
 clear A60
 by_cases c7 : t185 = 0
 ·rw [if_pos c7] at H
  have c7b0 : (t185 == 0) = true:=beq_iff_eq.mpr c7
  have c7b1 : (t185 != 0) = false:=bne_eq_false_iff_eq.mpr c7
  clear c7
  obtain ⟨y187,hy187⟩ : ∃ y_ : List Int,y_ = (([0,9] : List Int)):=⟨_,rfl⟩
  replace H : ((spec_l21Rd_num.f k s0_0 t186 y187).bind fun bt190 => (some (bt190.1,t168,t177,t181,bt190.2))) = some (r1,r2,r3,r4,r5):=by first|(rw [hy187];with_reducible exact H)|(have H2_:=(Option.bind_some _ _).symm.trans H;rw [hy187];with_reducible exact H2_)|(have H2_:=(Option.bind_some _ _).symm.trans H;with_reducible exact H2_)|with_reducible exact H|(rw [hy187];exact H)|exact H
  have Ny187:=mk_ hy187
  clear hy187
  replace H:=Option.bind_eq_some_iff.mp H
  obtain ⟨⟨t190,t191⟩,A80,H⟩:=H
  replace H : (some (t190,t168,t177,t181,t191)) = some (r1,r2,r3,r4,r5):=H
  have A8:=mk_ A80
  clear A80
  simp only [Option.some.injEq,Prod.mk.injEq] at H
  obtain ⟨rfl,rfl,rfl,rfl,rfl⟩:=H
  go_enter Try.func29,Try.ntmps29
  go_wp2_with (first|((with_reducible refine gate_callee (f:=47) rfl ?_);refine goesL_ (some 11) rfl rfl Try.func47 (by kernel_rfl) rfl #[.pointer (some ⟨g,0,none⟩)] rfl qm_ ?_;(with_reducible refine (spec_l4Sent.calls k g s0_0 s0_1 t168 t171 w0 _ ?side1 ?side2 A2.out).mono ?_);(case side1 => exact u0_ HI0);(case side2 => exact u2_ HB HI0);rintro e w9 ⟨v169,rfl,ho0,hi,hb,hk⟩;refine ⟨_,rfl,?_⟩;have n0_:=mk_ (Kd.S_lower ho0 (keep_size (w:=w) (g:=g) (row:=none) (u1_ HK)));have n1_:=mk_ (KeepBut.trans (u1_ HK) hk (.inl rfl));have n2_:=mk_ (hb);have n3_:=mk_ (hi);clear HK HB HI0;have HO170:=n0_;have HK:=n1_;have HB:=n2_;have HI0:=n3_;clear n0_ n1_ n2_ n3_;(try clear hb);(try clear hb2);(try clear hk);(try clear hi);(try clear ho0))|((with_reducible refine gate_dst (N:=13) rfl ?_);refine Kd.R_lit (Kd.int .i64) _ 3 ?hg (N:=13) ?hd (xs:=([4,1,2,8,3] : List Int)) (inner:=[.int .i64 4,.int .i64 1,.int .i64 2,.int .i64 8,.int .i64 3]) (ok:=fun _ => True) (okp:=fun _ => True) ?hr ?hp (fun _ hk => hk) trivial (Below.refl _ _) (Nat.le_refl _) (by simp) ?_;(case hd => rfl);(case hg => rfl);(case hr => first|(go_simp;done)|(go_simp;rfl));(case hp => exact (Reps.one (show Kd.M (Kd.int .i64) _ _ _ 4 [.int .i64 4] from rfl) (Reps.one (show Kd.M (Kd.int .i64) _ _ _ 1 [.int .i64 1] from rfl) (Reps.one (show Kd.M (Kd.int .i64) _ _ _ 2 [.int .i64 2] from rfl) (Reps.one (show Kd.M (Kd.int .i64) _ _ _ 8 [.int .i64 8] from rfl) (Reps.one (show Kd.M (Kd.int .i64) _ _ _ 3 [.int .i64 3] from rfl) (Reps.none _ _)))))));intro v173 w10 ho11 hb hg_ hnew_;clear hg_ hnew_;(first|rw [← Ny172.out] at ho11|(simp only [Int.reduceToNat] at ho11;rw [← Ny172.out] at ho11));have n0_:=mk_ (Kd.S_below (by (with_reducible repeat (first|apply Kd.S_alloc|apply Kd.S_drewN|apply Kd.S_drew));exact HO170.out) hb);have n1_:=mk_ (Kd.R_lower ho11 (keep_size (w:=w) (g:=g) (row:=none) (u1_ HK)));have n2_:=mk_ (IsS68.below (u0_ HI0) hb);have n3_:=mk_ (KeepBut.trans (u1_ HK) (KeepBut.of_below hb g none) (.inl rfl));have n4_:=mk_ (st_ (u2_ HB HI0) hb);clear HO170 HI0 HK HB;have HO170:=n0_;have HO174:=n1_;have HI0:=n2_;have HK:=n3_;have HB:=n4_;clear n0_ n1_ n2_ n3_ n4_ hb ho11;obtain ⟨Ao12,co12,eo12⟩:=Kd.R_slice HO174.out;subst eo12)|((with_reducible refine gate_callee (f:=41) rfl ?_);refine goesL_ (some 14) rfl rfl Try.func41 (by kernel_rfl) rfl #[.pointer (some ⟨g,0,none⟩),.slice Ao12 y172.length co12] rfl qm_ ?_;(with_reducible refine (spec_l21Rd_num.calls k g s0_0 t171 _ _ y172 t175 t176 w0 _ ?side1 ?side2 ?side3 ?side4 ?side5 A3.out).mono ?_);(case side1 => exact u0_ HI0);(case side2 => exact u2_ HB HI0);(case side3 => repeat (first|exact (rr_ HO174.out).2.2|(with_reducible refine ca_ ?_ _)|(with_reducible refine cn_ ?_ _)|(with_reducible refine cd_ ?_)));(case side4 => exact (rr_ HO174.out).2.1);(case side5 => exact far_slice (IsS68.own_ne HI0.out HO174.out (by decide)));rintro e w13 ⟨rfl,hi,hb,hk⟩;refine ⟨_,rfl,?_⟩;have n0_:=mk_ (Kd.S_mono (Kd.S_keep (IsS68.apartS (show IsS68 w0 _ g s0_0 t171 from u0_ HI0) (by (with_reducible repeat (first|apply Kd.S_alloc|apply Kd.S_drewN|apply Kd.S_drew));exact HO170.out) (by decide)) hk (fun _ h => h.2)) (fun _ h => h.1));have n1_:=mk_ (rm_ (Kd.R_keep (IsS68.apart (show IsS68 w0 _ g s0_0 t171 from u0_ HI0) (qr_ HO174) (by decide)) hk (fun _ h => h.2)) (fun _ h => h.1));have n2_:=mk_ (KeepBut.trans (u1_ HK) hk (.inl rfl));have n3_:=mk_ (hb);have n4_:=mk_ (hi);clear HO170 HO174 HK HB HI0;have HO170:=n0_;have HO174:=n1_;have HK:=n2_;have HB:=n3_;have HI0:=n4_;clear n0_ n1_ n2_ n3_ n4_;(try clear hb);(try clear hb2);(try clear hk);(try clear hi))|((with_reducible refine gate_callee (f:=48) rfl ?_);refine goesL_ (some 16) rfl rfl Try.func48 (by kernel_rfl) rfl #[.pointer (some ⟨g,0,none⟩)] rfl qm_ ?_;(with_reducible refine (spec_l4Fates.calls k g s0_0 t176 t177 t180 w0 _ ?side1 ?side2 A4.out).mono ?_);(case side1 => exact u0_ HI0);(case side2 => exact u2_ HB HI0);rintro e w14 ⟨v178,rfl,ho0,hi,hb,hk⟩;refine ⟨_,rfl,?_⟩;have n0_:=mk_ (Kd.S_mono (Kd.S_keep (IsS68.apartS (show IsS68 w0 _ g s0_0 t176 from u0_ HI0) (by (with_reducible repeat (first|apply Kd.S_alloc|apply Kd.S_drewN|apply Kd.S_drew));exact HO170.out) (by decide)) hk (fun _ h => h.2)) (fun _ h => h.1));have n1_:=mk_ (rm_ (Kd.R_told (Kd.R_oldK (IsS68.apart (show IsS68 w0 _ g s0_0 t176 from u0_ HI0) (qr_ HO174) (by decide)) hk) (Kd.R_base ho0)) (λ_ h=>h.1));have n2_:=mk_ (Kd.R_lower (Kd.R_new' ho0 (Kd.R_lt (qr_ HO174))) (keep_size (w:=w) (g:=g) (row:=none) (u1_ HK)));have n3_:=mk_ (KeepBut.trans (u1_ HK) hk (.inl rfl));have n4_:=mk_ (hb);have n5_:=mk_ (hi);clear HO170 HO174 HK HB HI0;have HO170:=n0_;have HO174:=n1_;have HO179:=n2_;have HK:=n3_;have HB:=n4_;have HI0:=n5_;clear n0_ n1_ n2_ n3_ n4_ n5_;(try clear hb);(try clear hb2);(try clear hk);(try clear hi);(try clear ho0))|((with_reducible refine gate_callee (f:=48) rfl ?_);refine goesL_ (some 18) rfl rfl Try.func48 (by kernel_rfl) rfl #[.pointer (some ⟨g,0,none⟩)] rfl qm_ ?_;(with_reducible refine (spec_l4Fates.calls k g s0_0 t180 t181 t184 w0 _ ?side1 ?side2 A5.out).mono ?_);(case side1 => exact u0_ HI0);(case side2 => exact u2_ HB HI0);rintro e w15 ⟨v182,rfl,ho0,hi,hb,hk⟩;refine ⟨_,rfl,?_⟩;have n0_:=mk_ (Kd.S_mono (Kd.S_keep (IsS68.apartS (show IsS68 w0 _ g s0_0 t180 from u0_ HI0) (by (with_reducible repeat (first|apply Kd.S_alloc|apply Kd.S_drewN|apply Kd.S_drew));exact HO170.out) (by decide)) hk (fun _ h => h.2)) (fun _ h => h.1));have n1_:=mk_ (rm_ (Kd.R_told (Kd.R_oldK (IsS68.apart (show IsS68 w0 _ g s0_0 t180 from u0_ HI0) (qr_ HO174) (by decide)) hk) (Kd.R_base ho0)) (λ_ h=>h.1));have n2_:=mk_ (rm_ (Kd.R_told (Kd.R_oldK (IsS68.apart (show IsS68 w0 _ g s0_0 t180 from u0_ HI0) (qr_ HO179) (by decide)) hk) (Kd.R_base ho0)) (λ_ h=>h.1));have n3_:=mk_ (Kd.R_lower (Kd.R_new' (Kd.R_new' ho0 (Kd.R_lt (qr_ HO174))) (Kd.R_lt (qr_ HO179))) (keep_size (w:=w) (g:=g) (row:=none) (u1_ HK)));have n4_:=mk_ (KeepBut.trans (u1_ HK) hk (.inl rfl));have n5_:=mk_ (hb);have n6_:=mk_ (hi);clear HO170 HO174 HO179 HK HB HI0;have HO170:=n0_;have HO174:=n1_;have HO179:=n2_;have HO183:=n3_;have HK:=n4_;have HB:=n5_;have HI0:=n6_;clear n0_ n1_ n2_ n3_ n4_ n5_ n6_;(try clear hb);(try clear hb2);(try clear hk);(try clear hi);(try clear ho0))|((with_reducible refine gate_callee (f:=49) rfl ?_);refine goesL_ (some 20) rfl rfl Try.func49 (by kernel_rfl) rfl #[.pointer (some ⟨g,0,none⟩),.int .i64 48] rfl qm_ ?_;(with_reducible refine (spec_l21Rd_pick.calls k g s0_0 t184 48 t185 t186 w0 _ ?side1 ?side2 A6.out).mono ?_);(case side1 => exact u0_ HI0);(case side2 => exact u2_ HB HI0);rintro e w16 ⟨rfl,hi,hb,hk⟩;refine ⟨_,rfl,?_⟩;have n0_:=mk_ (Kd.S_mono (Kd.S_keep (IsS68.apartS (show IsS68 w0 _ g s0_0 t184 from u0_ HI0) (by (with_reducible repeat (first|apply Kd.S_alloc|apply Kd.S_drewN|apply Kd.S_drew));exact HO170.out) (by decide)) hk (fun _ h => h.2)) (fun _ h => h.1));have n1_:=mk_ (rm_ (Kd.R_keep (IsS68.apart (show IsS68 w0 _ g s0_0 t184 from u0_ HI0) (qr_ HO174) (by decide)) hk (fun _ h => h.2)) (fun _ h => h.1));have n2_:=mk_ (rm_ (Kd.R_keep (IsS68.apart (show IsS68 w0 _ g s0_0 t184 from u0_ HI0) (qr_ HO179) (by decide)) hk (fun _ h => h.2)) (fun _ h => h.1));have n3_:=mk_ (rm_ (Kd.R_keep (IsS68.apart (show IsS68 w0 _ g s0_0 t184 from u0_ HI0) (qr_ HO183) (by decide)) hk (fun _ h => h.2)) (fun _ h => h.1));have n4_:=mk_ (KeepBut.trans (u1_ HK) hk (.inl rfl));have n5_:=mk_ (hb);have n6_:=mk_ (hi);clear HO170 HO174 HO179 HO183 HK HB HI0;have HO170:=n0_;have HO174:=n1_;have HO179:=n2_;have HO183:=n3_;have HK:=n4_;have HB:=n5_;have HI0:=n6_;clear n0_ n1_ n2_ n3_ n4_ n5_ n6_;(try clear hb);(try clear hb2);(try clear hk);(try clear hi))|((with_reducible refine gate_dst (N:=24) rfl ?_);refine Kd.R_lit (Kd.int .i64) _ 3 ?hg (N:=24) ?hd (xs:=([0,9] : List Int)) (inner:=[.int .i64 0,.int .i64 9]) (ok:=fun _ => True) (okp:=fun _ => True) ?hr ?hp (fun _ hk => hk) trivial (Below.refl _ _) (Nat.le_refl _) (by simp) ?_;(case hd => rfl);(case hg => rfl);(case hr => first|(go_simp;done)|(go_simp;rfl));(case hp => exact (Reps.one (show Kd.M (Kd.int .i64) _ _ _ 0 [.int .i64 0] from rfl) (Reps.one (show Kd.M (Kd.int .i64) _ _ _ 9 [.int .i64 9] from rfl) (Reps.none _ _))));intro v188 w17 ho18 hb hg_ hnew_;clear hg_ hnew_;(first|rw [← Ny187.out] at ho18|(simp only [Int.reduceToNat] at ho18;rw [← Ny187.out] at ho18));have n0_:=mk_ (Kd.S_below (by (with_reducible repeat (first|apply Kd.S_alloc|apply Kd.S_drewN|apply Kd.S_drew));exact HO170.out) hb);have n1_:=mk_ (re_ (qr_ HO174) (Kd.R_base ho18) hb);have n2_:=mk_ (re_ (qr_ HO179) (Kd.R_base ho18) hb);have n3_:=mk_ (re_ (qr_ HO183) (Kd.R_base ho18) hb);have n4_:=mk_ (Kd.R_lower (Kd.R_new' (Kd.R_new' (Kd.R_new' ho18 (Kd.R_lt (qr_ HO174))) (Kd.R_lt (qr_ HO179))) (Kd.R_lt (qr_ HO183))) (keep_size (w:=w) (g:=g) (row:=none) (u1_ HK)));have n5_:=mk_ (IsS68.below (u0_ HI0) hb);have n6_:=mk_ (KeepBut.trans (u1_ HK) (KeepBut.of_below hb g none) (.inl rfl));have n7_:=mk_ (st_ (u2_ HB HI0) hb);clear HO170 HO174 HO179 HO183 HI0 HK HB;have HO170:=n0_;have HO174:=n1_;have HO179:=n2_;have HO183:=n3_;have HO189:=n4_;have HI0:=n5_;have HK:=n6_;have HB:=n7_;clear n0_ n1_ n2_ n3_ n4_ n5_ n6_ n7_ hb ho18;obtain ⟨Ao19,co19,eo19⟩:=Kd.R_slice HO189.out;subst eo19)|((with_reducible refine gate_callee (f:=41) rfl ?_);refine goesL_ (some 25) rfl rfl Try.func41 (by kernel_rfl) rfl #[.pointer (some ⟨g,0,none⟩),.slice Ao19 y187.length co19] rfl qm_ ?_;(with_reducible refine (spec_l21Rd_num.calls k g s0_0 t186 _ _ y187 t190 t191 w0 _ ?side1 ?side2 ?side3 ?side4 ?side5 A8.out).mono ?_);(case side1 => exact u0_ HI0);(case side2 => exact u2_ HB HI0);(case side3 => repeat (first|exact (rr_ HO189.out).2.2|(with_reducible refine ca_ ?_ _)|(with_reducible refine cn_ ?_ _)|(with_reducible refine cd_ ?_)));(case side4 => exact (rr_ HO189.out).2.1);(case side5 => exact far_slice (IsS68.own_ne HI0.out HO189.out (by decide)));rintro e w20 ⟨rfl,hi,hb,hk⟩;refine ⟨_,rfl,?_⟩;have n0_:=mk_ (Kd.S_mono (Kd.S_keep (IsS68.apartS (show IsS68 w0 _ g s0_0 t186 from u0_ HI0) (by (with_reducible repeat (first|apply Kd.S_alloc|apply Kd.S_drewN|apply Kd.S_drew));exact HO170.out) (by decide)) hk (fun _ h => h.2)) (fun _ h => h.1));have n1_:=mk_ (rm_ (Kd.R_keep (IsS68.apart (show IsS68 w0 _ g s0_0 t186 from u0_ HI0) (qr_ HO174) (by decide)) hk (fun _ h => h.2)) (fun _ h => h.1));have n2_:=mk_ (rm_ (Kd.R_keep (IsS68.apart (show IsS68 w0 _ g s0_0 t186 from u0_ HI0) (qr_ HO179) (by decide)) hk (fun _ h => h.2)) (fun _ h => h.1));have n3_:=mk_ (rm_ (Kd.R_keep (IsS68.apart (show IsS68 w0 _ g s0_0 t186 from u0_ HI0) (qr_ HO183) (by decide)) hk (fun _ h => h.2)) (fun _ h => h.1));have n4_:=mk_ (rm_ (Kd.R_keep (IsS68.apart (show IsS68 w0 _ g s0_0 t186 from u0_ HI0) (qr_ HO189) (by decide)) hk (fun _ h => h.2)) (fun _ h => h.1));have n5_:=mk_ (KeepBut.trans (u1_ HK) hk (.inl rfl));have n6_:=mk_ (hb);have n7_:=mk_ (hi);clear HO170 HO174 HO179 HO183 HO189 HK HB HI0;have HO170:=n0_;have HO174:=n1_;have HO179:=n2_;have HO183:=n3_;have HO189:=n4_;have HK:=n5_;have HB:=n6_;have HI0:=n7_;clear n0_ n1_ n2_ n3_ n4_ n5_ n6_ n7_;(try clear hb);(try clear hb2);(try clear hk);(try clear hi)))
  refine bodyPost_ret (results_list (rs:=[.tmp 2,.tmp 3,.tmp 4,.tmp 5]) rfl (by simp) (.tmp (.tmp (.tmp (.tmp .nil))))) rfl ?_
  exact ⟨_,_,_,qe_,by (with_reducible repeat (first|apply Kd.S_alloc|apply Kd.S_drewN|apply Kd.S_drew));exact HO170.out,by (with_reducible repeat (first|apply ra_|apply rn_|apply rd_));exact rm_ HO179.out (fun _ hk => hk.1.2),by (with_reducible repeat (first|apply ra_|apply rn_|apply rd_));exact rm_ HO183.out (fun _ hk => hk.1.2),u0_ HI0,u2_ HB HI0,u1_ HK⟩
 ·rw [if_neg c7] at H
  have c7b0 : (t185 == 0) = false:=beq_eq_false_iff_ne.mpr c7
  have c7b1 : (t185 != 0) = true:=bne_iff_ne.mpr c7
  by_cases c21 : t185 = 1
  ·rw [if_pos c21] at H
   have c21b0 : (t185 == 1) = true:=beq_iff_eq.mpr c21
   have c21b1 : (t185 != 1) = false:=bne_eq_false_iff_eq.mpr c21
   clear c21
   by_cases c22 : 598 ≤ 281474976710656
   ·rw [if_pos c22] at H
    have c22b0:=eq_true c22
    have c22b1 : decide (598 ≤ 281474976710656) = true:=decide_eq_true c22
    clear c22
    obtain ⟨y192,hy192⟩ : ∃ y_ : List Int,y_ = (List.replicate 598 0):=⟨_,rfl⟩
    replace H : (if t168.length < 5864062014805 then (some (t175,(t168 ++ [y192]),t177,t181,t186)) else (none)) = some (r1,r2,r3,r4,r5):=by first|(rw [hy192];with_reducible exact H)|(have H2_:=(Option.bind_some _ _).symm.trans H;rw [hy192];with_reducible exact H2_)|(have H2_:=(Option.bind_some _ _).symm.trans H;with_reducible exact H2_)|with_reducible exact H|(rw [hy192];exact H)|exact H
    have Ny192:=mk_ hy192
    clear hy192
    by_cases c23 : t168.length < 5864062014805
    ·rw [if_pos c23] at H
     have LMc23:=mk_ c23
     clear c23
     obtain ⟨y195,hy195⟩ : ∃ y_ : List (List Int),y_ = (t168 ++ [y192]):=⟨_,rfl⟩
     replace H : (some (t175,y195,t177,t181,t186)) = some (r1,r2,r3,r4,r5):=by first|(rw [hy195];with_reducible exact H)|(have H2_:=(Option.bind_some _ _).symm.trans H;rw [hy195];with_reducible exact H2_)|(have H2_:=(Option.bind_some _ _).symm.trans H;with_reducible exact H2_)|with_reducible exact H|(rw [hy195];exact H)|exact H
     have Ny195:=mk_ hy195
     clear hy195
     simp only [Option.some.injEq,Prod.mk.injEq] at H
     obtain ⟨rfl,rfl,rfl,rfl,rfl⟩:=H
     go_enter Try.func29,Try.ntmps29
     go_wp2_with (first|((with_reducible refine gate_callee (f:=47) rfl ?_);refine goesL_ (some 11) rfl rfl Try.func47 (by kernel_rfl) rfl #[.pointer (some ⟨g,0,none⟩)] rfl qm_ ?_;(with_reducible refine (spec_l4Sent.calls k g s0_0 s0_1 t168 t171 w0 _ ?side1 ?side2 A2.out).mono ?_);(case side1 => exact u0_ HI0);(case side2 => exact u2_ HB HI0);rintro e w24 ⟨v169,rfl,ho0,hi,hb,hk⟩;refine ⟨_,rfl,?_⟩;have n0_:=mk_ (Kd.S_lower ho0 (keep_size (w:=w) (g:=g) (row:=none) (u1_ HK)));have n1_:=mk_ (KeepBut.trans (u1_ HK) hk (.inl rfl));have n2_:=mk_ (hb);have n3_:=mk_ (hi);clear HK HB HI0;have HO170:=n0_;have HK:=n1_;have HB:=n2_;have HI0:=n3_;clear n0_ n1_ n2_ n3_;(try clear hb);(try clear hb2);(try clear hk);(try clear hi);(try clear ho0))|((with_reducible refine gate_dst (N:=13) rfl ?_);refine Kd.R_lit (Kd.int .i64) _ 3 ?hg (N:=13) ?hd (xs:=([4,1,2,8,3] : List Int)) (inner:=[.int .i64 4,.int .i64 1,.int .i64 2,.int .i64 8,.int .i64 3]) (ok:=fun _ => True) (okp:=fun _ => True) ?hr ?hp (fun _ hk => hk) trivial (Below.refl _ _) (Nat.le_refl _) (by simp) ?_;(case hd => rfl);(case hg => rfl);(case hr => first|(go_simp;done)|(go_simp;rfl));(case hp => exact (Reps.one (show Kd.M (Kd.int .i64) _ _ _ 4 [.int .i64 4] from rfl) (Reps.one (show Kd.M (Kd.int .i64) _ _ _ 1 [.int .i64 1] from rfl) (Reps.one (show Kd.M (Kd.int .i64) _ _ _ 2 [.int .i64 2] from rfl) (Reps.one (show Kd.M (Kd.int .i64) _ _ _ 8 [.int .i64 8] from rfl) (Reps.one (show Kd.M (Kd.int .i64) _ _ _ 3 [.int .i64 3] from rfl) (Reps.none _ _)))))));intro v173 w25 ho26 hb hg_ hnew_;clear hg_ hnew_;(first|rw [← Ny172.out] at ho26|(simp only [Int.reduceToNat] at ho26;rw [← Ny172.out] at ho26));have n0_:=mk_ (Kd.S_below (by (with_reducible repeat (first|apply Kd.S_alloc|apply Kd.S_drewN|apply Kd.S_drew));exact HO170.out) hb);have n1_:=mk_ (Kd.R_lower ho26 (keep_size (w:=w) (g:=g) (row:=none) (u1_ HK)));have n2_:=mk_ (IsS68.below (u0_ HI0) hb);have n3_:=mk_ (KeepBut.trans (u1_ HK) (KeepBut.of_below hb g none) (.inl rfl));have n4_:=mk_ (st_ (u2_ HB HI0) hb);clear HO170 HI0 HK HB;have HO170:=n0_;have HO174:=n1_;have HI0:=n2_;have HK:=n3_;have HB:=n4_;clear n0_ n1_ n2_ n3_ n4_ hb ho26;obtain ⟨Ao27,co27,eo27⟩:=Kd.R_slice HO174.out;subst eo27)|((with_reducible refine gate_callee (f:=41) rfl ?_);refine goesL_ (some 14) rfl rfl Try.func41 (by kernel_rfl) rfl #[.pointer (some ⟨g,0,none⟩),.slice Ao27 y172.length co27] rfl qm_ ?_;(with_reducible refine (spec_l21Rd_num.calls k g s0_0 t171 _ _ y172 t175 t176 w0 _ ?side1 ?side2 ?side3 ?side4 ?side5 A3.out).mono ?_);(case side1 => exact u0_ HI0);(case side2 => exact u2_ HB HI0);(case side3 => repeat (first|exact (rr_ HO174.out).2.2|(with_reducible refine ca_ ?_ _)|(with_reducible refine cn_ ?_ _)|(with_reducible refine cd_ ?_)));(case side4 => exact (rr_ HO174.out).2.1);(case side5 => exact far_slice (IsS68.own_ne HI0.out HO174.out (by decide)));rintro e w28 ⟨rfl,hi,hb,hk⟩;refine ⟨_,rfl,?_⟩;have n0_:=mk_ (Kd.S_mono (Kd.S_keep (IsS68.apartS (show IsS68 w0 _ g s0_0 t171 from u0_ HI0) (by (with_reducible repeat (first|apply Kd.S_alloc|apply Kd.S_drewN|apply Kd.S_drew));exact HO170.out) (by decide)) hk (fun _ h => h.2)) (fun _ h => h.1));have n1_:=mk_ (rm_ (Kd.R_keep (IsS68.apart (show IsS68 w0 _ g s0_0 t171 from u0_ HI0) (qr_ HO174) (by decide)) hk (fun _ h => h.2)) (fun _ h => h.1));have n2_:=mk_ (KeepBut.trans (u1_ HK) hk (.inl rfl));have n3_:=mk_ (hb);have n4_:=mk_ (hi);clear HO170 HO174 HK HB HI0;have HO170:=n0_;have HO174:=n1_;have HK:=n2_;have HB:=n3_;have HI0:=n4_;clear n0_ n1_ n2_ n3_ n4_;(try clear hb);(try clear hb2);(try clear hk);(try clear hi))|((with_reducible refine gate_callee (f:=48) rfl ?_);refine goesL_ (some 16) rfl rfl Try.func48 (by kernel_rfl) rfl #[.pointer (some ⟨g,0,none⟩)] rfl qm_ ?_;(with_reducible refine (spec_l4Fates.calls k g s0_0 t176 t177 t180 w0 _ ?side1 ?side2 A4.out).mono ?_);(case side1 => exact u0_ HI0);(case side2 => exact u2_ HB HI0);rintro e w29 ⟨v178,rfl,ho0,hi,hb,hk⟩;refine ⟨_,rfl,?_⟩;have n0_:=mk_ (Kd.S_mono (Kd.S_keep (IsS68.apartS (show IsS68 w0 _ g s0_0 t176 from u0_ HI0) (by (with_reducible repeat (first|apply Kd.S_alloc|apply Kd.S_drewN|apply Kd.S_drew));exact HO170.out) (by decide)) hk (fun _ h => h.2)) (fun _ h => h.1));have n1_:=mk_ (rm_ (Kd.R_told (Kd.R_oldK (IsS68.apart (show IsS68 w0 _ g s0_0 t176 from u0_ HI0) (qr_ HO174) (by decide)) hk) (Kd.R_base ho0)) (λ_ h=>h.1));have n2_:=mk_ (Kd.R_lower (Kd.R_new' ho0 (Kd.R_lt (qr_ HO174))) (keep_size (w:=w) (g:=g) (row:=none) (u1_ HK)));have n3_:=mk_ (KeepBut.trans (u1_ HK) hk (.inl rfl));have n4_:=mk_ (hb);have n5_:=mk_ (hi);clear HO170 HO174 HK HB HI0;have HO170:=n0_;have HO174:=n1_;have HO179:=n2_;have HK:=n3_;have HB:=n4_;have HI0:=n5_;clear n0_ n1_ n2_ n3_ n4_ n5_;(try clear hb);(try clear hb2);(try clear hk);(try clear hi);(try clear ho0))|((with_reducible refine gate_callee (f:=48) rfl ?_);refine goesL_ (some 18) rfl rfl Try.func48 (by kernel_rfl) rfl #[.pointer (some ⟨g,0,none⟩)] rfl qm_ ?_;(with_reducible refine (spec_l4Fates.calls k g s0_0 t180 t181 t184 w0 _ ?side1 ?side2 A5.out).mono ?_);(case side1 => exact u0_ HI0);(case side2 => exact u2_ HB HI0);rintro e w30 ⟨v182,rfl,ho0,hi,hb,hk⟩;refine ⟨_,rfl,?_⟩;have n0_:=mk_ (Kd.S_mono (Kd.S_keep (IsS68.apartS (show IsS68 w0 _ g s0_0 t180 from u0_ HI0) (by (with_reducible repeat (first|apply Kd.S_alloc|apply Kd.S_drewN|apply Kd.S_drew));exact HO170.out) (by decide)) hk (fun _ h => h.2)) (fun _ h => h.1));have n1_:=mk_ (rm_ (Kd.R_told (Kd.R_oldK (IsS68.apart (show IsS68 w0 _ g s0_0 t180 from u0_ HI0) (qr_ HO174) (by decide)) hk) (Kd.R_base ho0)) (λ_ h=>h.1));have n2_:=mk_ (rm_ (Kd.R_told (Kd.R_oldK (IsS68.apart (show IsS68 w0 _ g s0_0 t180 from u0_ HI0) (qr_ HO179) (by decide)) hk) (Kd.R_base ho0)) (λ_ h=>h.1));have n3_:=mk_ (Kd.R_lower (Kd.R_new' (Kd.R_new' ho0 (Kd.R_lt (qr_ HO174))) (Kd.R_lt (qr_ HO179))) (keep_size (w:=w) (g:=g) (row:=none) (u1_ HK)));have n4_:=mk_ (KeepBut.trans (u1_ HK) hk (.inl rfl));have n5_:=mk_ (hb);have n6_:=mk_ (hi);clear HO170 HO174 HO179 HK HB HI0;have HO170:=n0_;have HO174:=n1_;have HO179:=n2_;have HO183:=n3_;have HK:=n4_;have HB:=n5_;have HI0:=n6_;clear n0_ n1_ n2_ n3_ n4_ n5_ n6_;(try clear hb);(try clear hb2);(try clear hk);(try clear hi);(try clear ho0))|((with_reducible refine gate_callee (f:=49) rfl ?_);refine goesL_ (some 20) rfl rfl Try.func49 (by kernel_rfl) rfl #[.pointer (some ⟨g,0,none⟩),.int .i64 48] rfl qm_ ?_;(with_reducible refine (spec_l21Rd_pick.calls k g s0_0 t184 48 t185 t186 w0 _ ?side1 ?side2 A6.out).mono ?_);(case side1 => exact u0_ HI0);(case side2 => exact u2_ HB HI0);rintro e w31 ⟨rfl,hi,hb,hk⟩;refine ⟨_,rfl,?_⟩;have n0_:=mk_ (Kd.S_mono (Kd.S_keep (IsS68.apartS (show IsS68 w0 _ g s0_0 t184 from u0_ HI0) (by (with_reducible repeat (first|apply Kd.S_alloc|apply Kd.S_drewN|apply Kd.S_drew));exact HO170.out) (by decide)) hk (fun _ h => h.2)) (fun _ h => h.1));have n1_:=mk_ (rm_ (Kd.R_keep (IsS68.apart (show IsS68 w0 _ g s0_0 t184 from u0_ HI0) (qr_ HO174) (by decide)) hk (fun _ h => h.2)) (fun _ h => h.1));have n2_:=mk_ (rm_ (Kd.R_keep (IsS68.apart (show IsS68 w0 _ g s0_0 t184 from u0_ HI0) (qr_ HO179) (by decide)) hk (fun _ h => h.2)) (fun _ h => h.1));have n3_:=mk_ (rm_ (Kd.R_keep (IsS68.apart (show IsS68 w0 _ g s0_0 t184 from u0_ HI0) (qr_ HO183) (by decide)) hk (fun _ h => h.2)) (fun _ h => h.1));have n4_:=mk_ (KeepBut.trans (u1_ HK) hk (.inl rfl));have n5_:=mk_ (hb);have n6_:=mk_ (hi);clear HO170 HO174 HO179 HO183 HK HB HI0;have HO170:=n0_;have HO174:=n1_;have HO179:=n2_;have HO183:=n3_;have HK:=n4_;have HB:=n5_;have HI0:=n6_;clear n0_ n1_ n2_ n3_ n4_ n5_ n6_;(try clear hb);(try clear hb2);(try clear hk);(try clear hi))|((with_reducible refine gate_dst (N:=29) rfl ?_);refine Kd.R_make (Kd.int .u8) _ 5 rfl (N:=29) rfl 22 _ _ rfl 598 rfl rfl Try.underlying22 (.int .u8 0) 1 info5 rfl (by decide) (by omega) 0 (ok:=fun _ => True) (okp:=fun _ => True) rfl (fun _ hk => hk) trivial (by omega) (by omega) (Below.refl _ _) (Nat.le_refl _) ?_;intro v193 w32 ho33 hb hg_ hnew_;clear hg_ hnew_;(first|rw [← Ny192.out] at ho33|(simp only [Int.reduceToNat] at ho33;rw [← Ny192.out] at ho33));have n0_:=mk_ (Kd.S_elder' (by (with_reducible repeat (first|apply Kd.S_alloc|apply Kd.S_drewN|apply Kd.S_drew));exact HO170.out) (Kd.R_base ho33) hb);have n1_:=mk_ (rb_ (qr_ HO174) hb);have n2_:=mk_ (rb_ (qr_ HO179) hb);have n3_:=mk_ (rb_ (qr_ HO183) hb);have n4_:=mk_ (Kd.R_lower ho33 (keep_size (w:=w) (g:=g) (row:=none) (u1_ HK)));have n5_:=mk_ (IsS68.below (u0_ HI0) hb);have n6_:=mk_ (KeepBut.trans (u1_ HK) (KeepBut.of_below hb g none) (.inl rfl));have n7_:=mk_ (st_ (u2_ HB HI0) hb);clear HO170 HO174 HO179 HO183 HI0 HK HB;have HO170:=n0_;have HO174:=n1_;have HO179:=n2_;have HO183:=n3_;have HO194:=n4_;have HI0:=n5_;have HK:=n6_;have HB:=n7_;clear n0_ n1_ n2_ n3_ n4_ n5_ n6_ n7_ hb ho33;obtain ⟨Ao35,co35,eo35⟩:=Kd.R_slice HO194.out;subst eo35)|((with_reducible refine gate_builtin (b:=.append) (xs:=#[.tmp 28,.tmp 30]) rfl ?_);at_builtin;refine Kd.S_append (Kd.slice 5 (Kd.int .u8)) w.heap.size rfl (.tmp 28) (.tmp 30) 23 22 (.slice none 0 0) 24 rfl Try.underlying23 info22 rfl (by decide) (by omega) v169 t168 y192 [.slice Ao35 y192.length co35] (fun _ => True) (fun k_ => some k_ = (.slice Ao35 y192.length co35 : Value).ownBlock) rfl rfl ?aP (fun k_ hk_ => ((rm_ (ok':=fun k_ => ((fun _ => True)) k_ ∧ some k_ ≠ (v169 : Value).ownBlock) (Kd.R_apart' (HO194.out) (Kd.S_typed HO170.out) (by decide)) (fun k_ hk => ⟨trivial,hk.2⟩))).1 k_ hk_.symm) ?aF ?aO (Below.refl _ _) ?aS ?aL ?_;(case aP => exact Kd.M_row (rm_ (Kd.R_tight rfl (rm_ (ok':=fun k_ => ((fun _ => True)) k_ ∧ some k_ ≠ (v169 : Value).ownBlock) (Kd.R_apart' (HO194.out) (Kd.S_typed HO170.out) (by decide)) (fun k_ hk => ⟨trivial,hk.2⟩))) (fun _ h_ => h_)));(case aF => exact (fun _ _ => trivial));(case aO => exact (by (with_reducible repeat (first|apply Kd.S_alloc|apply Kd.S_drewN|apply Kd.S_drew));exact Kd.S_mono HO170.out (fun k_ hk => ⟨trivial,fun e_ => hk.2 e_⟩)));(case aS => exact (keep_size (w:=w) (g:=g) (row:=none) (u1_ HK)));(case aL => have:=LMc23.out;omega);intro v196 w34 ho hb hg hat;rw [← Ny195.out] at ho;have n0_:=mk_ (IsS68.grown (u0_ HI0) hg (IsS68.own_neS HI0.out HO170.out (by decide)));have n1_:=mk_ (Kd.R_over' (qr_ HO174) (Kd.S_typed (by (with_reducible repeat (first|apply Kd.S_alloc|apply Kd.S_drewN|apply Kd.S_drew));exact HO170.out)) (by decide) hg);have n2_:=mk_ (Kd.R_over' (qr_ HO179) (Kd.S_typed (by (with_reducible repeat (first|apply Kd.S_alloc|apply Kd.S_drewN|apply Kd.S_drew));exact HO170.out)) (by decide) hg);have n3_:=mk_ (Kd.R_over' (qr_ HO183) (Kd.S_typed (by (with_reducible repeat (first|apply Kd.S_alloc|apply Kd.S_drewN|apply Kd.S_drew));exact HO170.out)) (by decide) hg);have n4_:=mk_ (below_weaken (u2_ HB HI0) HL.out hb);have n5_:=mk_ (KeepBut.trans (u1_ HK) (KeepBut.of_grown hg g) (Kd.S_base2 HO170.out));have n6_:=mk_ (ho);clear HI0 HO174 HO179 HO183 HB HK HO170 HO194;have HI0:=n0_;have HO174:=n1_;have HO179:=n2_;have HO183:=n3_;have HB:=n4_;have HK:=n5_;have HO197:=n6_;clear n0_ n1_ n2_ n3_ n4_ n5_ n6_ ho hb hg hat))
     refine bodyPost_ret (results_list (rs:=[.tmp 2,.tmp 3,.tmp 4,.tmp 5]) rfl (by simp) (.tmp (.tmp (.tmp (.tmp .nil))))) rfl ?_
     exact ⟨_,_,_,qe_,by (with_reducible repeat (first|apply Kd.S_alloc|apply Kd.S_drewN|apply Kd.S_drew));exact HO197.out,by (with_reducible repeat (first|apply ra_|apply rn_|apply rd_));exact rm_ HO179.out (λ_ h=>h.2),by (with_reducible repeat (first|apply ra_|apply rn_|apply rd_));exact rm_ HO183.out (λ_ h=>h.2),u0_ HI0,u2_ HB HI0,u1_ HK⟩
    ·rw [if_neg c23] at H
     exact absurd H (by simp)
   ·rw [if_neg c22] at H
    exact absurd H (by simp)
  ·rw [if_neg c21] at H
   have c21b0 : (t185 == 1) = false:=beq_eq_false_iff_ne.mpr c21
   have c21b1 : (t185 != 1) = true:=bne_iff_ne.mpr c21
   by_cases c36 : t185 = 2
   ·rw [if_pos c36] at H
    have c36b0 : (t185 == 2) = true:=beq_iff_eq.mpr c36
    have c36b1 : (t185 != 2) = false:=bne_eq_false_iff_eq.mpr c36
    clear c36
    by_cases c37 : t177.length < 17592186044416
    ·rw [if_pos c37] at H
     have LMc37:=mk_ c37
     clear c37
     obtain ⟨y198,hy198⟩ : ∃ y_ : List Int,y_ = (t177 ++ [7]):=⟨_,rfl⟩
     replace H : (some (t175,t168,y198,t181,t186)) = some (r1,r2,r3,r4,r5):=by first|(rw [hy198];with_reducible exact H)|(have H2_:=(Option.bind_some _ _).symm.trans H;rw [hy198];with_reducible exact H2_)|(have H2_:=(Option.bind_some _ _).symm.trans H;with_reducible exact H2_)|with_reducible exact H|(rw [hy198];exact H)|exact H
     have Ny198:=mk_ hy198
     clear hy198
     simp only [Option.some.injEq,Prod.mk.injEq] at H
     obtain ⟨rfl,rfl,rfl,rfl,rfl⟩:=H
     go_enter Try.func29,Try.ntmps29
     go_wp2_with (first|((with_reducible refine gate_callee (f:=47) rfl ?_);refine goesL_ (some 11) rfl rfl Try.func47 (by kernel_rfl) rfl #[.pointer (some ⟨g,0,none⟩)] rfl qm_ ?_;(with_reducible refine (spec_l4Sent.calls k g s0_0 s0_1 t168 t171 w0 _ ?side1 ?side2 A2.out).mono ?_);(case side1 => exact u0_ HI0);(case side2 => exact u2_ HB HI0);rintro e w38 ⟨v169,rfl,ho0,hi,hb,hk⟩;refine ⟨_,rfl,?_⟩;have n0_:=mk_ (Kd.S_lower ho0 (keep_size (w:=w) (g:=g) (row:=none) (u1_ HK)));have n1_:=mk_ (KeepBut.trans (u1_ HK) hk (.inl rfl));have n2_:=mk_ (hb);have n3_:=mk_ (hi);clear HK HB HI0;have HO170:=n0_;have HK:=n1_;have HB:=n2_;have HI0:=n3_;clear n0_ n1_ n2_ n3_;(try clear hb);(try clear hb2);(try clear hk);(try clear hi);(try clear ho0))|((with_reducible refine gate_dst (N:=13) rfl ?_);refine Kd.R_lit (Kd.int .i64) _ 3 ?hg (N:=13) ?hd (xs:=([4,1,2,8,3] : List Int)) (inner:=[.int .i64 4,.int .i64 1,.int .i64 2,.int .i64 8,.int .i64 3]) (ok:=fun _ => True) (okp:=fun _ => True) ?hr ?hp (fun _ hk => hk) trivial (Below.refl _ _) (Nat.le_refl _) (by simp) ?_;(case hd => rfl);(case hg => rfl);(case hr => first|(go_simp;done)|(go_simp;rfl));(case hp => exact (Reps.one (show Kd.M (Kd.int .i64) _ _ _ 4 [.int .i64 4] from rfl) (Reps.one (show Kd.M (Kd.int .i64) _ _ _ 1 [.int .i64 1] from rfl) (Reps.one (show Kd.M (Kd.int .i64) _ _ _ 2 [.int .i64 2] from rfl) (Reps.one (show Kd.M (Kd.int .i64) _ _ _ 8 [.int .i64 8] from rfl) (Reps.one (show Kd.M (Kd.int .i64) _ _ _ 3 [.int .i64 3] from rfl) (Reps.none _ _)))))));intro v173 w39 ho40 hb hg_ hnew_;clear hg_ hnew_;(first|rw [← Ny172.out] at ho40|(simp only [Int.reduceToNat] at ho40;rw [← Ny172.out] at ho40));have n0_:=mk_ (Kd.S_below (by (with_reducible repeat (first|apply Kd.S_alloc|apply Kd.S_drewN|apply Kd.S_drew));exact HO170.out) hb);have n1_:=mk_ (Kd.R_lower ho40 (keep_size (w:=w) (g:=g) (row:=none) (u1_ HK)));have n2_:=mk_ (IsS68.below (u0_ HI0) hb);have n3_:=mk_ (KeepBut.trans (u1_ HK) (KeepBut.of_below hb g none) (.inl rfl));have n4_:=mk_ (st_ (u2_ HB HI0) hb);clear HO170 HI0 HK HB;have HO170:=n0_;have HO174:=n1_;have HI0:=n2_;have HK:=n3_;have HB:=n4_;clear n0_ n1_ n2_ n3_ n4_ hb ho40;obtain ⟨Ao41,co41,eo41⟩:=Kd.R_slice HO174.out;subst eo41)|((with_reducible refine gate_callee (f:=41) rfl ?_);refine goesL_ (some 14) rfl rfl Try.func41 (by kernel_rfl) rfl #[.pointer (some ⟨g,0,none⟩),.slice Ao41 y172.length co41] rfl qm_ ?_;(with_reducible refine (spec_l21Rd_num.calls k g s0_0 t171 _ _ y172 t175 t176 w0 _ ?side1 ?side2 ?side3 ?side4 ?side5 A3.out).mono ?_);(case side1 => exact u0_ HI0);(case side2 => exact u2_ HB HI0);(case side3 => repeat (first|exact (rr_ HO174.out).2.2|(with_reducible refine ca_ ?_ _)|(with_reducible refine cn_ ?_ _)|(with_reducible refine cd_ ?_)));(case side4 => exact (rr_ HO174.out).2.1);(case side5 => exact far_slice (IsS68.own_ne HI0.out HO174.out (by decide)));rintro e w42 ⟨rfl,hi,hb,hk⟩;refine ⟨_,rfl,?_⟩;have n0_:=mk_ (Kd.S_mono (Kd.S_keep (IsS68.apartS (show IsS68 w0 _ g s0_0 t171 from u0_ HI0) (by (with_reducible repeat (first|apply Kd.S_alloc|apply Kd.S_drewN|apply Kd.S_drew));exact HO170.out) (by decide)) hk (fun _ h => h.2)) (fun _ h => h.1));have n1_:=mk_ (rm_ (Kd.R_keep (IsS68.apart (show IsS68 w0 _ g s0_0 t171 from u0_ HI0) (qr_ HO174) (by decide)) hk (fun _ h => h.2)) (fun _ h => h.1));have n2_:=mk_ (KeepBut.trans (u1_ HK) hk (.inl rfl));have n3_:=mk_ (hb);have n4_:=mk_ (hi);clear HO170 HO174 HK HB HI0;have HO170:=n0_;have HO174:=n1_;have HK:=n2_;have HB:=n3_;have HI0:=n4_;clear n0_ n1_ n2_ n3_ n4_;(try clear hb);(try clear hb2);(try clear hk);(try clear hi))|((with_reducible refine gate_callee (f:=48) rfl ?_);refine goesL_ (some 16) rfl rfl Try.func48 (by kernel_rfl) rfl #[.pointer (some ⟨g,0,none⟩)] rfl qm_ ?_;(with_reducible refine (spec_l4Fates.calls k g s0_0 t176 t177 t180 w0 _ ?side1 ?side2 A4.out).mono ?_);(case side1 => exact u0_ HI0);(case side2 => exact u2_ HB HI0);rintro e w43 ⟨v178,rfl,ho0,hi,hb,hk⟩;refine ⟨_,rfl,?_⟩;have n0_:=mk_ (Kd.S_mono (Kd.S_keep (IsS68.apartS (show IsS68 w0 _ g s0_0 t176 from u0_ HI0) (by (with_reducible repeat (first|apply Kd.S_alloc|apply Kd.S_drewN|apply Kd.S_drew));exact HO170.out) (by decide)) hk (fun _ h => h.2)) (fun _ h => h.1));have n1_:=mk_ (rm_ (Kd.R_told (Kd.R_oldK (IsS68.apart (show IsS68 w0 _ g s0_0 t176 from u0_ HI0) (qr_ HO174) (by decide)) hk) (Kd.R_base ho0)) (λ_ h=>h.1));have n2_:=mk_ (Kd.R_lower (Kd.R_new' ho0 (Kd.R_lt (qr_ HO174))) (keep_size (w:=w) (g:=g) (row:=none) (u1_ HK)));have n3_:=mk_ (KeepBut.trans (u1_ HK) hk (.inl rfl));have n4_:=mk_ (hb);have n5_:=mk_ (hi);clear HO170 HO174 HK HB HI0;have HO170:=n0_;have HO174:=n1_;have HO179:=n2_;have HK:=n3_;have HB:=n4_;have HI0:=n5_;clear n0_ n1_ n2_ n3_ n4_ n5_;(try clear hb);(try clear hb2);(try clear hk);(try clear hi);(try clear ho0))|((with_reducible refine gate_callee (f:=48) rfl ?_);refine goesL_ (some 18) rfl rfl Try.func48 (by kernel_rfl) rfl #[.pointer (some ⟨g,0,none⟩)] rfl qm_ ?_;(with_reducible refine (spec_l4Fates.calls k g s0_0 t180 t181 t184 w0 _ ?side1 ?side2 A5.out).mono ?_);(case side1 => exact u0_ HI0);(case side2 => exact u2_ HB HI0);rintro e w44 ⟨v182,rfl,ho0,hi,hb,hk⟩;refine ⟨_,rfl,?_⟩;have n0_:=mk_ (Kd.S_mono (Kd.S_keep (IsS68.apartS (show IsS68 w0 _ g s0_0 t180 from u0_ HI0) (by (with_reducible repeat (first|apply Kd.S_alloc|apply Kd.S_drewN|apply Kd.S_drew));exact HO170.out) (by decide)) hk (fun _ h => h.2)) (fun _ h => h.1));have n1_:=mk_ (rm_ (Kd.R_told (Kd.R_oldK (IsS68.apart (show IsS68 w0 _ g s0_0 t180 from u0_ HI0) (qr_ HO174) (by decide)) hk) (Kd.R_base ho0)) (λ_ h=>h.1));have n2_:=mk_ (rm_ (Kd.R_told (Kd.R_oldK (IsS68.apart (show IsS68 w0 _ g s0_0 t180 from u0_ HI0) (qr_ HO179) (by decide)) hk) (Kd.R_base ho0)) (λ_ h=>h.1));have n3_:=mk_ (Kd.R_lower (Kd.R_new' (Kd.R_new' ho0 (Kd.R_lt (qr_ HO174))) (Kd.R_lt (qr_ HO179))) (keep_size (w:=w) (g:=g) (row:=none) (u1_ HK)));have n4_:=mk_ (KeepBut.trans (u1_ HK) hk (.inl rfl));have n5_:=mk_ (hb);have n6_:=mk_ (hi);clear HO170 HO174 HO179 HK HB HI0;have HO170:=n0_;have HO174:=n1_;have HO179:=n2_;have HO183:=n3_;have HK:=n4_;have HB:=n5_;have HI0:=n6_;clear n0_ n1_ n2_ n3_ n4_ n5_ n6_;(try clear hb);(try clear hb2);(try clear hk);(try clear hi);(try clear ho0))|((with_reducible refine gate_callee (f:=49) rfl ?_);refine goesL_ (some 20) rfl rfl Try.func49 (by kernel_rfl) rfl #[.pointer (some ⟨g,0,none⟩),.int .i64 48] rfl qm_ ?_;(with_reducible refine (spec_l21Rd_pick.calls k g s0_0 t184 48 t185 t186 w0 _ ?side1 ?side2 A6.out).mono ?_);(case side1 => exact u0_ HI0);(case side2 => exact u2_ HB HI0);rintro e w45 ⟨rfl,hi,hb,hk⟩;refine ⟨_,rfl,?_⟩;have n0_:=mk_ (Kd.S_mono (Kd.S_keep (IsS68.apartS (show IsS68 w0 _ g s0_0 t184 from u0_ HI0) (by (with_reducible repeat (first|apply Kd.S_alloc|apply Kd.S_drewN|apply Kd.S_drew));exact HO170.out) (by decide)) hk (fun _ h => h.2)) (fun _ h => h.1));have n1_:=mk_ (rm_ (Kd.R_keep (IsS68.apart (show IsS68 w0 _ g s0_0 t184 from u0_ HI0) (qr_ HO174) (by decide)) hk (fun _ h => h.2)) (fun _ h => h.1));have n2_:=mk_ (rm_ (Kd.R_keep (IsS68.apart (show IsS68 w0 _ g s0_0 t184 from u0_ HI0) (qr_ HO179) (by decide)) hk (fun _ h => h.2)) (fun _ h => h.1));have n3_:=mk_ (rm_ (Kd.R_keep (IsS68.apart (show IsS68 w0 _ g s0_0 t184 from u0_ HI0) (qr_ HO183) (by decide)) hk (fun _ h => h.2)) (fun _ h => h.1));have n4_:=mk_ (KeepBut.trans (u1_ HK) hk (.inl rfl));have n5_:=mk_ (hb);have n6_:=mk_ (hi);clear HO170 HO174 HO179 HO183 HK HB HI0;have HO170:=n0_;have HO174:=n1_;have HO179:=n2_;have HO183:=n3_;have HK:=n4_;have HB:=n5_;have HI0:=n6_;clear n0_ n1_ n2_ n3_ n4_ n5_ n6_;(try clear hb);(try clear hb2);(try clear hk);(try clear hi))|((with_reducible refine gate_builtin (b:=.append) (xs:=#[.tmp 34,.tmp 35]) rfl ?_);at_builtin;refine Kd.R_append (Kd.int .i64) w.heap.size rfl (.tmp 34) (.tmp 35) 24 3 (.int .i64 0) 8 rfl Try.underlying24 info3 rfl (by decide) (by omega) v178 t177 7 [.int .i64 7] (fun k_ => some k_ ≠ (.slice Ao41 y172.length co41 : Value).ownBlock ∧ some k_ ≠ (v182 : Value).ownBlock) (fun _ => False) rfl rfl ?aP (fun _ hk => hk.elim) ?aF ?aO (Below.refl _ _) ?aS ?aL ?_;(case aP => exact rfl);(case aF => exact (fun k_ hk => ⟨Kd.fresh' (Kd.R_lt (qr_ HO174)) k_ hk,Kd.fresh' (Kd.R_lt (qr_ HO183)) k_ hk⟩));(case aO => exact (by (with_reducible repeat (first|apply ra_|apply rn_|apply rd_));exact rm_ HO179.out (fun _ hk => ⟨hk.1.2,hk.2⟩)));(case aS => exact (keep_size (w:=w) (g:=g) (row:=none) (u1_ HK)));(case aL => have:=LMc37.out;omega);intro v199 w46 ho hb hg hat;rw [← Ny198.out] at ho;have n0_:=mk_ (IsS68.grown (u0_ HI0) hg (IsS68.own_ne HI0.out HO179.out (by decide)));have n1_:=mk_ (Kd.S_over' (by (with_reducible repeat (first|apply Kd.S_alloc|apply Kd.S_drewN|apply Kd.S_drew));exact HO170.out) (Kd.R_typed (qr_ HO179)) (by decide) hg);have n2_:=mk_ (Kd.R_after (ok:=(fun k_ => some k_ ≠ (v182 : Value).ownBlock)) (by (with_reducible repeat (first|apply ra_|apply rn_|apply rd_));exact rm_ HO174.out (fun _ hk => ⟨hk.2,hk.1.2⟩)) hg hat);have n3_:=mk_ (Kd.R_after (ok:=(fun k_ => some k_ ≠ (.slice Ao41 y172.length co41 : Value).ownBlock)) (by (with_reducible repeat (first|apply ra_|apply rn_|apply rd_));exact rm_ HO183.out (fun _ hk => ⟨hk.1.2,hk.2⟩)) hg hat);have n4_:=mk_ (below_weaken (u2_ HB HI0) HL.out hb);have n5_:=mk_ (KeepBut.trans (u1_ HK) (KeepBut.of_grown hg g) (Kd.R_base2 HO179.out));have n6_:=mk_ (ho);clear HI0 HO170 HO174 HO183 HB HK HO179;have HI0:=n0_;have HO170:=n1_;have HO174:=n2_;have HO183:=n3_;have HB:=n4_;have HK:=n5_;have HO200:=n6_;clear n0_ n1_ n2_ n3_ n4_ n5_ n6_ ho hb hg hat))
     refine bodyPost_ret (results_list (rs:=[.tmp 2,.tmp 3,.tmp 4,.tmp 5]) rfl (by simp) (.tmp (.tmp (.tmp (.tmp .nil))))) rfl ?_
     exact ⟨_,_,_,qe_,by (with_reducible repeat (first|apply Kd.S_alloc|apply Kd.S_drewN|apply Kd.S_drew));exact HO170.out,by (with_reducible repeat (first|apply ra_|apply rn_|apply rd_));exact rm_ HO200.out (λ_ h=>h.2),by (with_reducible repeat (first|apply ra_|apply rn_|apply rd_));exact rm_ HO183.out (λ_ h=>h.2),u0_ HI0,u2_ HB HI0,u1_ HK⟩
    ·rw [if_neg c37] at H
     exact absurd H (by simp)
   ·rw [if_neg c36] at H
    have c36b0 : (t185 == 2) = false:=beq_eq_false_iff_ne.mpr c36
    have c36b1 : (t185 != 2) = true:=bne_iff_ne.mpr c36
    by_cases c47 : t185 = 3
    ·rw [if_pos c47] at H
     have c47b0 : (t185 == 3) = true:=beq_iff_eq.mpr c47
     have c47b1 : (t185 != 3) = false:=bne_eq_false_iff_eq.mpr c47
     clear c47
     by_cases c48 : t181.length < 17592186044416
     ·rw [if_pos c48] at H
      have LMc48:=mk_ c48
      clear c48
      obtain ⟨y201,hy201⟩ : ∃ y_ : List Int,y_ = (t181 ++ [(-1)]):=⟨_,rfl⟩
      replace H : (some (t175,t168,t177,y201,t186)) = some (r1,r2,r3,r4,r5):=by first|(rw [hy201];with_reducible exact H)|(have H2_:=(Option.bind_some _ _).symm.trans H;rw [hy201];with_reducible exact H2_)|(have H2_:=(Option.bind_some _ _).symm.trans H;with_reducible exact H2_)|with_reducible exact H|(rw [hy201];exact H)|exact H
      have Ny201:=mk_ hy201
      clear hy201
      simp only [Option.some.injEq,Prod.mk.injEq] at H
      obtain ⟨rfl,rfl,rfl,rfl,rfl⟩:=H
      go_enter Try.func29,Try.ntmps29
      go_wp2_with (first|((with_reducible refine gate_callee (f:=47) rfl ?_);refine goesL_ (some 11) rfl rfl Try.func47 (by kernel_rfl) rfl #[.pointer (some ⟨g,0,none⟩)] rfl qm_ ?_;(with_reducible refine (spec_l4Sent.calls k g s0_0 s0_1 t168 t171 w0 _ ?side1 ?side2 A2.out).mono ?_);(case side1 => exact u0_ HI0);(case side2 => exact u2_ HB HI0);rintro e w49 ⟨v169,rfl,ho0,hi,hb,hk⟩;refine ⟨_,rfl,?_⟩;have n0_:=mk_ (Kd.S_lower ho0 (keep_size (w:=w) (g:=g) (row:=none) (u1_ HK)));have n1_:=mk_ (KeepBut.trans (u1_ HK) hk (.inl rfl));have n2_:=mk_ (hb);have n3_:=mk_ (hi);clear HK HB HI0;have HO170:=n0_;have HK:=n1_;have HB:=n2_;have HI0:=n3_;clear n0_ n1_ n2_ n3_;(try clear hb);(try clear hb2);(try clear hk);(try clear hi);(try clear ho0))|((with_reducible refine gate_dst (N:=13) rfl ?_);refine Kd.R_lit (Kd.int .i64) _ 3 ?hg (N:=13) ?hd (xs:=([4,1,2,8,3] : List Int)) (inner:=[.int .i64 4,.int .i64 1,.int .i64 2,.int .i64 8,.int .i64 3]) (ok:=fun _ => True) (okp:=fun _ => True) ?hr ?hp (fun _ hk => hk) trivial (Below.refl _ _) (Nat.le_refl _) (by simp) ?_;(case hd => rfl);(case hg => rfl);(case hr => first|(go_simp;done)|(go_simp;rfl));(case hp => exact (Reps.one (show Kd.M (Kd.int .i64) _ _ _ 4 [.int .i64 4] from rfl) (Reps.one (show Kd.M (Kd.int .i64) _ _ _ 1 [.int .i64 1] from rfl) (Reps.one (show Kd.M (Kd.int .i64) _ _ _ 2 [.int .i64 2] from rfl) (Reps.one (show Kd.M (Kd.int .i64) _ _ _ 8 [.int .i64 8] from rfl) (Reps.one (show Kd.M (Kd.int .i64) _ _ _ 3 [.int .i64 3] from rfl) (Reps.none _ _)))))));intro v173 w50 ho51 hb hg_ hnew_;clear hg_ hnew_;(first|rw [← Ny172.out] at ho51|(simp only [Int.reduceToNat] at ho51;rw [← Ny172.out] at ho51));have n0_:=mk_ (Kd.S_below (by (with_reducible repeat (first|apply Kd.S_alloc|apply Kd.S_drewN|apply Kd.S_drew));exact HO170.out) hb);have n1_:=mk_ (Kd.R_lower ho51 (keep_size (w:=w) (g:=g) (row:=none) (u1_ HK)));have n2_:=mk_ (IsS68.below (u0_ HI0) hb);have n3_:=mk_ (KeepBut.trans (u1_ HK) (KeepBut.of_below hb g none) (.inl rfl));have n4_:=mk_ (st_ (u2_ HB HI0) hb);clear HO170 HI0 HK HB;have HO170:=n0_;have HO174:=n1_;have HI0:=n2_;have HK:=n3_;have HB:=n4_;clear n0_ n1_ n2_ n3_ n4_ hb ho51;obtain ⟨Ao52,co52,eo52⟩:=Kd.R_slice HO174.out;subst eo52)|((with_reducible refine gate_callee (f:=41) rfl ?_);refine goesL_ (some 14) rfl rfl Try.func41 (by kernel_rfl) rfl #[.pointer (some ⟨g,0,none⟩),.slice Ao52 y172.length co52] rfl qm_ ?_;(with_reducible refine (spec_l21Rd_num.calls k g s0_0 t171 _ _ y172 t175 t176 w0 _ ?side1 ?side2 ?side3 ?side4 ?side5 A3.out).mono ?_);(case side1 => exact u0_ HI0);(case side2 => exact u2_ HB HI0);(case side3 => repeat (first|exact (rr_ HO174.out).2.2|(with_reducible refine ca_ ?_ _)|(with_reducible refine cn_ ?_ _)|(with_reducible refine cd_ ?_)));(case side4 => exact (rr_ HO174.out).2.1);(case side5 => exact far_slice (IsS68.own_ne HI0.out HO174.out (by decide)));rintro e w53 ⟨rfl,hi,hb,hk⟩;refine ⟨_,rfl,?_⟩;have n0_:=mk_ (Kd.S_mono (Kd.S_keep (IsS68.apartS (show IsS68 w0 _ g s0_0 t171 from u0_ HI0) (by (with_reducible repeat (first|apply Kd.S_alloc|apply Kd.S_drewN|apply Kd.S_drew));exact HO170.out) (by decide)) hk (fun _ h => h.2)) (fun _ h => h.1));have n1_:=mk_ (rm_ (Kd.R_keep (IsS68.apart (show IsS68 w0 _ g s0_0 t171 from u0_ HI0) (qr_ HO174) (by decide)) hk (fun _ h => h.2)) (fun _ h => h.1));have n2_:=mk_ (KeepBut.trans (u1_ HK) hk (.inl rfl));have n3_:=mk_ (hb);have n4_:=mk_ (hi);clear HO170 HO174 HK HB HI0;have HO170:=n0_;have HO174:=n1_;have HK:=n2_;have HB:=n3_;have HI0:=n4_;clear n0_ n1_ n2_ n3_ n4_;(try clear hb);(try clear hb2);(try clear hk);(try clear hi))|((with_reducible refine gate_callee (f:=48) rfl ?_);refine goesL_ (some 16) rfl rfl Try.func48 (by kernel_rfl) rfl #[.pointer (some ⟨g,0,none⟩)] rfl qm_ ?_;(with_reducible refine (spec_l4Fates.calls k g s0_0 t176 t177 t180 w0 _ ?side1 ?side2 A4.out).mono ?_);(case side1 => exact u0_ HI0);(case side2 => exact u2_ HB HI0);rintro e w54 ⟨v178,rfl,ho0,hi,hb,hk⟩;refine ⟨_,rfl,?_⟩;have n0_:=mk_ (Kd.S_mono (Kd.S_keep (IsS68.apartS (show IsS68 w0 _ g s0_0 t176 from u0_ HI0) (by (with_reducible repeat (first|apply Kd.S_alloc|apply Kd.S_drewN|apply Kd.S_drew));exact HO170.out) (by decide)) hk (fun _ h => h.2)) (fun _ h => h.1));have n1_:=mk_ (rm_ (Kd.R_told (Kd.R_oldK (IsS68.apart (show IsS68 w0 _ g s0_0 t176 from u0_ HI0) (qr_ HO174) (by decide)) hk) (Kd.R_base ho0)) (λ_ h=>h.1));have n2_:=mk_ (Kd.R_lower (Kd.R_new' ho0 (Kd.R_lt (qr_ HO174))) (keep_size (w:=w) (g:=g) (row:=none) (u1_ HK)));have n3_:=mk_ (KeepBut.trans (u1_ HK) hk (.inl rfl));have n4_:=mk_ (hb);have n5_:=mk_ (hi);clear HO170 HO174 HK HB HI0;have HO170:=n0_;have HO174:=n1_;have HO179:=n2_;have HK:=n3_;have HB:=n4_;have HI0:=n5_;clear n0_ n1_ n2_ n3_ n4_ n5_;(try clear hb);(try clear hb2);(try clear hk);(try clear hi);(try clear ho0))|((with_reducible refine gate_callee (f:=48) rfl ?_);refine goesL_ (some 18) rfl rfl Try.func48 (by kernel_rfl) rfl #[.pointer (some ⟨g,0,none⟩)] rfl qm_ ?_;(with_reducible refine (spec_l4Fates.calls k g s0_0 t180 t181 t184 w0 _ ?side1 ?side2 A5.out).mono ?_);(case side1 => exact u0_ HI0);(case side2 => exact u2_ HB HI0);rintro e w55 ⟨v182,rfl,ho0,hi,hb,hk⟩;refine ⟨_,rfl,?_⟩;have n0_:=mk_ (Kd.S_mono (Kd.S_keep (IsS68.apartS (show IsS68 w0 _ g s0_0 t180 from u0_ HI0) (by (with_reducible repeat (first|apply Kd.S_alloc|apply Kd.S_drewN|apply Kd.S_drew));exact HO170.out) (by decide)) hk (fun _ h => h.2)) (fun _ h => h.1));have n1_:=mk_ (rm_ (Kd.R_told (Kd.R_oldK (IsS68.apart (show IsS68 w0 _ g s0_0 t180 from u0_ HI0) (qr_ HO174) (by decide)) hk) (Kd.R_base ho0)) (λ_ h=>h.1));have n2_:=mk_ (rm_ (Kd.R_told (Kd.R_oldK (IsS68.apart (show IsS68 w0 _ g s0_0 t180 from u0_ HI0) (qr_ HO179) (by decide)) hk) (Kd.R_base ho0)) (λ_ h=>h.1));have n3_:=mk_ (Kd.R_lower (Kd.R_new' (Kd.R_new' ho0 (Kd.R_lt (qr_ HO174))) (Kd.R_lt (qr_ HO179))) (keep_size (w:=w) (g:=g) (row:=none) (u1_ HK)));have n4_:=mk_ (KeepBut.trans (u1_ HK) hk (.inl rfl));have n5_:=mk_ (hb);have n6_:=mk_ (hi);clear HO170 HO174 HO179 HK HB HI0;have HO170:=n0_;have HO174:=n1_;have HO179:=n2_;have HO183:=n3_;have HK:=n4_;have HB:=n5_;have HI0:=n6_;clear n0_ n1_ n2_ n3_ n4_ n5_ n6_;(try clear hb);(try clear hb2);(try clear hk);(try clear hi);(try clear ho0))|((with_reducible refine gate_callee (f:=49) rfl ?_);refine goesL_ (some 20) rfl rfl Try.func49 (by kernel_rfl) rfl #[.pointer (some ⟨g,0,none⟩),.int .i64 48] rfl qm_ ?_;(with_reducible refine (spec_l21Rd_pick.calls k g s0_0 t184 48 t185 t186 w0 _ ?side1 ?side2 A6.out).mono ?_);(case side1 => exact u0_ HI0);(case side2 => exact u2_ HB HI0);rintro e w56 ⟨rfl,hi,hb,hk⟩;refine ⟨_,rfl,?_⟩;have n0_:=mk_ (Kd.S_mono (Kd.S_keep (IsS68.apartS (show IsS68 w0 _ g s0_0 t184 from u0_ HI0) (by (with_reducible repeat (first|apply Kd.S_alloc|apply Kd.S_drewN|apply Kd.S_drew));exact HO170.out) (by decide)) hk (fun _ h => h.2)) (fun _ h => h.1));have n1_:=mk_ (rm_ (Kd.R_keep (IsS68.apart (show IsS68 w0 _ g s0_0 t184 from u0_ HI0) (qr_ HO174) (by decide)) hk (fun _ h => h.2)) (fun _ h => h.1));have n2_:=mk_ (rm_ (Kd.R_keep (IsS68.apart (show IsS68 w0 _ g s0_0 t184 from u0_ HI0) (qr_ HO179) (by decide)) hk (fun _ h => h.2)) (fun _ h => h.1));have n3_:=mk_ (rm_ (Kd.R_keep (IsS68.apart (show IsS68 w0 _ g s0_0 t184 from u0_ HI0) (qr_ HO183) (by decide)) hk (fun _ h => h.2)) (fun _ h => h.1));have n4_:=mk_ (KeepBut.trans (u1_ HK) hk (.inl rfl));have n5_:=mk_ (hb);have n6_:=mk_ (hi);clear HO170 HO174 HO179 HO183 HK HB HI0;have HO170:=n0_;have HO174:=n1_;have HO179:=n2_;have HO183:=n3_;have HK:=n4_;have HB:=n5_;have HI0:=n6_;clear n0_ n1_ n2_ n3_ n4_ n5_ n6_;(try clear hb);(try clear hb2);(try clear hk);(try clear hi))|((with_reducible refine gate_builtin (b:=.append) (xs:=#[.tmp 39,.tmp 40]) rfl ?_);at_builtin;refine Kd.R_append (Kd.int .i64) w.heap.size rfl (.tmp 39) (.tmp 40) 24 3 (.int .i64 0) 8 rfl Try.underlying24 info3 rfl (by decide) (by omega) v182 t181 (-1) [.int .i64 (-1)] (fun k_ => some k_ ≠ (.slice Ao52 y172.length co52 : Value).ownBlock ∧ some k_ ≠ (v178 : Value).ownBlock) (fun _ => False) rfl rfl ?aP (fun _ hk => hk.elim) ?aF ?aO (Below.refl _ _) ?aS ?aL ?_;(case aP => exact rfl);(case aF => exact (fun k_ hk => ⟨Kd.fresh' (Kd.R_lt (qr_ HO174)) k_ hk,Kd.fresh' (Kd.R_lt (qr_ HO179)) k_ hk⟩));(case aO => exact (by (with_reducible repeat (first|apply ra_|apply rn_|apply rd_));exact rm_ HO183.out (fun _ hk => ⟨hk.1.2,hk.2⟩)));(case aS => exact (keep_size (w:=w) (g:=g) (row:=none) (u1_ HK)));(case aL => have:=LMc48.out;omega);intro v202 w57 ho hb hg hat;rw [← Ny201.out] at ho;have n0_:=mk_ (IsS68.grown (u0_ HI0) hg (IsS68.own_ne HI0.out HO183.out (by decide)));have n1_:=mk_ (Kd.S_over' (by (with_reducible repeat (first|apply Kd.S_alloc|apply Kd.S_drewN|apply Kd.S_drew));exact HO170.out) (Kd.R_typed (qr_ HO183)) (by decide) hg);have n2_:=mk_ (Kd.R_after (ok:=(fun k_ => some k_ ≠ (v178 : Value).ownBlock)) (by (with_reducible repeat (first|apply ra_|apply rn_|apply rd_));exact rm_ HO174.out (fun _ hk => ⟨hk.1.2,hk.2⟩)) hg hat);have n3_:=mk_ (Kd.R_after (ok:=(fun k_ => some k_ ≠ (.slice Ao52 y172.length co52 : Value).ownBlock)) (by (with_reducible repeat (first|apply ra_|apply rn_|apply rd_));exact rm_ HO179.out (fun _ hk => ⟨hk.1.2,hk.2⟩)) hg hat);have n4_:=mk_ (below_weaken (u2_ HB HI0) HL.out hb);have n5_:=mk_ (KeepBut.trans (u1_ HK) (KeepBut.of_grown hg g) (Kd.R_base2 HO183.out));have n6_:=mk_ (ho);clear HI0 HO170 HO174 HO179 HB HK HO183;have HI0:=n0_;have HO170:=n1_;have HO174:=n2_;have HO179:=n3_;have HB:=n4_;have HK:=n5_;have HO203:=n6_;clear n0_ n1_ n2_ n3_ n4_ n5_ n6_ ho hb hg hat))
      refine bodyPost_ret (results_list (rs:=[.tmp 2,.tmp 3,.tmp 4,.tmp 5]) rfl (by simp) (.tmp (.tmp (.tmp (.tmp .nil))))) rfl ?_
      exact ⟨_,_,_,qe_,by (with_reducible repeat (first|apply Kd.S_alloc|apply Kd.S_drewN|apply Kd.S_drew));exact HO170.out,by (with_reducible repeat (first|apply ra_|apply rn_|apply rd_));exact rm_ HO179.out (λ_ h=>h.2),by (with_reducible repeat (first|apply ra_|apply rn_|apply rd_));exact rm_ HO203.out (λ_ h=>h.2),u0_ HI0,u2_ HB HI0,u1_ HK⟩
     ·rw [if_neg c48] at H
      exact absurd H (by simp)
    ·rw [if_neg c47] at H
     have c47b0 : (t185 == 3) = false:=beq_eq_false_iff_ne.mpr c47
     have c47b1 : (t185 != 3) = true:=bne_iff_ne.mpr c47
     simp only [Option.some.injEq,Prod.mk.injEq] at H
     obtain ⟨rfl,rfl,rfl,rfl,rfl⟩:=H
     go_enter Try.func29,Try.ntmps29
     go_wp2_with (first|((with_reducible refine gate_callee (f:=47) rfl ?_);refine goesL_ (some 11) rfl rfl Try.func47 (by kernel_rfl) rfl #[.pointer (some ⟨g,0,none⟩)] rfl qm_ ?_;(with_reducible refine (spec_l4Sent.calls k g s0_0 s0_1 t168 t171 w0 _ ?side1 ?side2 A2.out).mono ?_);(case side1 => exact u0_ HI0);(case side2 => exact u2_ HB HI0);rintro e w58 ⟨v169,rfl,ho0,hi,hb,hk⟩;refine ⟨_,rfl,?_⟩;have n0_:=mk_ (Kd.S_lower ho0 (keep_size (w:=w) (g:=g) (row:=none) (u1_ HK)));have n1_:=mk_ (KeepBut.trans (u1_ HK) hk (.inl rfl));have n2_:=mk_ (hb);have n3_:=mk_ (hi);clear HK HB HI0;have HO170:=n0_;have HK:=n1_;have HB:=n2_;have HI0:=n3_;clear n0_ n1_ n2_ n3_;(try clear hb);(try clear hb2);(try clear hk);(try clear hi);(try clear ho0))|((with_reducible refine gate_dst (N:=13) rfl ?_);refine Kd.R_lit (Kd.int .i64) _ 3 ?hg (N:=13) ?hd (xs:=([4,1,2,8,3] : List Int)) (inner:=[.int .i64 4,.int .i64 1,.int .i64 2,.int .i64 8,.int .i64 3]) (ok:=fun _ => True) (okp:=fun _ => True) ?hr ?hp (fun _ hk => hk) trivial (Below.refl _ _) (Nat.le_refl _) (by simp) ?_;(case hd => rfl);(case hg => rfl);(case hr => first|(go_simp;done)|(go_simp;rfl));(case hp => exact (Reps.one (show Kd.M (Kd.int .i64) _ _ _ 4 [.int .i64 4] from rfl) (Reps.one (show Kd.M (Kd.int .i64) _ _ _ 1 [.int .i64 1] from rfl) (Reps.one (show Kd.M (Kd.int .i64) _ _ _ 2 [.int .i64 2] from rfl) (Reps.one (show Kd.M (Kd.int .i64) _ _ _ 8 [.int .i64 8] from rfl) (Reps.one (show Kd.M (Kd.int .i64) _ _ _ 3 [.int .i64 3] from rfl) (Reps.none _ _)))))));intro v173 w59 ho60 hb hg_ hnew_;clear hg_ hnew_;(first|rw [← Ny172.out] at ho60|(simp only [Int.reduceToNat] at ho60;rw [← Ny172.out] at ho60));have n0_:=mk_ (Kd.S_below (by (with_reducible repeat (first|apply Kd.S_alloc|apply Kd.S_drewN|apply Kd.S_drew));exact HO170.out) hb);have n1_:=mk_ (Kd.R_lower ho60 (keep_size (w:=w) (g:=g) (row:=none) (u1_ HK)));have n2_:=mk_ (IsS68.below (u0_ HI0) hb);have n3_:=mk_ (KeepBut.trans (u1_ HK) (KeepBut.of_below hb g none) (.inl rfl));have n4_:=mk_ (st_ (u2_ HB HI0) hb);clear HO170 HI0 HK HB;have HO170:=n0_;have HO174:=n1_;have HI0:=n2_;have HK:=n3_;have HB:=n4_;clear n0_ n1_ n2_ n3_ n4_ hb ho60;obtain ⟨Ao61,co61,eo61⟩:=Kd.R_slice HO174.out;subst eo61)|((with_reducible refine gate_callee (f:=41) rfl ?_);refine goesL_ (some 14) rfl rfl Try.func41 (by kernel_rfl) rfl #[.pointer (some ⟨g,0,none⟩),.slice Ao61 y172.length co61] rfl qm_ ?_;(with_reducible refine (spec_l21Rd_num.calls k g s0_0 t171 _ _ y172 t175 t176 w0 _ ?side1 ?side2 ?side3 ?side4 ?side5 A3.out).mono ?_);(case side1 => exact u0_ HI0);(case side2 => exact u2_ HB HI0);(case side3 => repeat (first|exact (rr_ HO174.out).2.2|(with_reducible refine ca_ ?_ _)|(with_reducible refine cn_ ?_ _)|(with_reducible refine cd_ ?_)));(case side4 => exact (rr_ HO174.out).2.1);(case side5 => exact far_slice (IsS68.own_ne HI0.out HO174.out (by decide)));rintro e w62 ⟨rfl,hi,hb,hk⟩;refine ⟨_,rfl,?_⟩;have n0_:=mk_ (Kd.S_mono (Kd.S_keep (IsS68.apartS (show IsS68 w0 _ g s0_0 t171 from u0_ HI0) (by (with_reducible repeat (first|apply Kd.S_alloc|apply Kd.S_drewN|apply Kd.S_drew));exact HO170.out) (by decide)) hk (fun _ h => h.2)) (fun _ h => h.1));have n1_:=mk_ (rm_ (Kd.R_keep (IsS68.apart (show IsS68 w0 _ g s0_0 t171 from u0_ HI0) (qr_ HO174) (by decide)) hk (fun _ h => h.2)) (fun _ h => h.1));have n2_:=mk_ (KeepBut.trans (u1_ HK) hk (.inl rfl));have n3_:=mk_ (hb);have n4_:=mk_ (hi);clear HO170 HO174 HK HB HI0;have HO170:=n0_;have HO174:=n1_;have HK:=n2_;have HB:=n3_;have HI0:=n4_;clear n0_ n1_ n2_ n3_ n4_;(try clear hb);(try clear hb2);(try clear hk);(try clear hi))|((with_reducible refine gate_callee (f:=48) rfl ?_);refine goesL_ (some 16) rfl rfl Try.func48 (by kernel_rfl) rfl #[.pointer (some ⟨g,0,none⟩)] rfl qm_ ?_;(with_reducible refine (spec_l4Fates.calls k g s0_0 t176 t177 t180 w0 _ ?side1 ?side2 A4.out).mono ?_);(case side1 => exact u0_ HI0);(case side2 => exact u2_ HB HI0);rintro e w63 ⟨v178,rfl,ho0,hi,hb,hk⟩;refine ⟨_,rfl,?_⟩;have n0_:=mk_ (Kd.S_mono (Kd.S_keep (IsS68.apartS (show IsS68 w0 _ g s0_0 t176 from u0_ HI0) (by (with_reducible repeat (first|apply Kd.S_alloc|apply Kd.S_drewN|apply Kd.S_drew));exact HO170.out) (by decide)) hk (fun _ h => h.2)) (fun _ h => h.1));have n1_:=mk_ (rm_ (Kd.R_told (Kd.R_oldK (IsS68.apart (show IsS68 w0 _ g s0_0 t176 from u0_ HI0) (qr_ HO174) (by decide)) hk) (Kd.R_base ho0)) (λ_ h=>h.1));have n2_:=mk_ (Kd.R_lower (Kd.R_new' ho0 (Kd.R_lt (qr_ HO174))) (keep_size (w:=w) (g:=g) (row:=none) (u1_ HK)));have n3_:=mk_ (KeepBut.trans (u1_ HK) hk (.inl rfl));have n4_:=mk_ (hb);have n5_:=mk_ (hi);clear HO170 HO174 HK HB HI0;have HO170:=n0_;have HO174:=n1_;have HO179:=n2_;have HK:=n3_;have HB:=n4_;have HI0:=n5_;clear n0_ n1_ n2_ n3_ n4_ n5_;(try clear hb);(try clear hb2);(try clear hk);(try clear hi);(try clear ho0))|((with_reducible refine gate_callee (f:=48) rfl ?_);refine goesL_ (some 18) rfl rfl Try.func48 (by kernel_rfl) rfl #[.pointer (some ⟨g,0,none⟩)] rfl qm_ ?_;(with_reducible refine (spec_l4Fates.calls k g s0_0 t180 t181 t184 w0 _ ?side1 ?side2 A5.out).mono ?_);(case side1 => exact u0_ HI0);(case side2 => exact u2_ HB HI0);rintro e w64 ⟨v182,rfl,ho0,hi,hb,hk⟩;refine ⟨_,rfl,?_⟩;have n0_:=mk_ (Kd.S_mono (Kd.S_keep (IsS68.apartS (show IsS68 w0 _ g s0_0 t180 from u0_ HI0) (by (with_reducible repeat (first|apply Kd.S_alloc|apply Kd.S_drewN|apply Kd.S_drew));exact HO170.out) (by decide)) hk (fun _ h => h.2)) (fun _ h => h.1));have n1_:=mk_ (rm_ (Kd.R_told (Kd.R_oldK (IsS68.apart (show IsS68 w0 _ g s0_0 t180 from u0_ HI0) (qr_ HO174) (by decide)) hk) (Kd.R_base ho0)) (λ_ h=>h.1));have n2_:=mk_ (rm_ (Kd.R_told (Kd.R_oldK (IsS68.apart (show IsS68 w0 _ g s0_0 t180 from u0_ HI0) (qr_ HO179) (by decide)) hk) (Kd.R_base ho0)) (λ_ h=>h.1));have n3_:=mk_ (Kd.R_lower (Kd.R_new' (Kd.R_new' ho0 (Kd.R_lt (qr_ HO174))) (Kd.R_lt (qr_ HO179))) (keep_size (w:=w) (g:=g) (row:=none) (u1_ HK)));have n4_:=mk_ (KeepBut.trans (u1_ HK) hk (.inl rfl));have n5_:=mk_ (hb);have n6_:=mk_ (hi);clear HO170 HO174 HO179 HK HB HI0;have HO170:=n0_;have HO174:=n1_;have HO179:=n2_;have HO183:=n3_;have HK:=n4_;have HB:=n5_;have HI0:=n6_;clear n0_ n1_ n2_ n3_ n4_ n5_ n6_;(try clear hb);(try clear hb2);(try clear hk);(try clear hi);(try clear ho0))|((with_reducible refine gate_callee (f:=49) rfl ?_);refine goesL_ (some 20) rfl rfl Try.func49 (by kernel_rfl) rfl #[.pointer (some ⟨g,0,none⟩),.int .i64 48] rfl qm_ ?_;(with_reducible refine (spec_l21Rd_pick.calls k g s0_0 t184 48 t185 t186 w0 _ ?side1 ?side2 A6.out).mono ?_);(case side1 => exact u0_ HI0);(case side2 => exact u2_ HB HI0);rintro e w65 ⟨rfl,hi,hb,hk⟩;refine ⟨_,rfl,?_⟩;have n0_:=mk_ (Kd.S_mono (Kd.S_keep (IsS68.apartS (show IsS68 w0 _ g s0_0 t184 from u0_ HI0) (by (with_reducible repeat (first|apply Kd.S_alloc|apply Kd.S_drewN|apply Kd.S_drew));exact HO170.out) (by decide)) hk (fun _ h => h.2)) (fun _ h => h.1));have n1_:=mk_ (rm_ (Kd.R_keep (IsS68.apart (show IsS68 w0 _ g s0_0 t184 from u0_ HI0) (qr_ HO174) (by decide)) hk (fun _ h => h.2)) (fun _ h => h.1));have n2_:=mk_ (rm_ (Kd.R_keep (IsS68.apart (show IsS68 w0 _ g s0_0 t184 from u0_ HI0) (qr_ HO179) (by decide)) hk (fun _ h => h.2)) (fun _ h => h.1));have n3_:=mk_ (rm_ (Kd.R_keep (IsS68.apart (show IsS68 w0 _ g s0_0 t184 from u0_ HI0) (qr_ HO183) (by decide)) hk (fun _ h => h.2)) (fun _ h => h.1));have n4_:=mk_ (KeepBut.trans (u1_ HK) hk (.inl rfl));have n5_:=mk_ (hb);have n6_:=mk_ (hi);clear HO170 HO174 HO179 HO183 HK HB HI0;have HO170:=n0_;have HO174:=n1_;have HO179:=n2_;have HO183:=n3_;have HK:=n4_;have HB:=n5_;have HI0:=n6_;clear n0_ n1_ n2_ n3_ n4_ n5_ n6_;(try clear hb);(try clear hb2);(try clear hk);(try clear hi)))
     refine bodyPost_ret (results_list (rs:=[.tmp 2,.tmp 3,.tmp 4,.tmp 5]) rfl (by simp) (.tmp (.tmp (.tmp (.tmp .nil))))) rfl ?_
     exact ⟨_,_,_,qe_,by (with_reducible repeat (first|apply Kd.S_alloc|apply Kd.S_drewN|apply Kd.S_drew));exact HO170.out,by (with_reducible repeat (first|apply ra_|apply rn_|apply rd_));exact rm_ HO179.out (λ_ h=>h.2),by (with_reducible repeat (first|apply ra_|apply rn_|apply rd_));exact rm_ HO183.out (λ_ h=>h.2),u0_ HI0,u2_ HB HI0,u1_ HK⟩

/-! ### spec_l21Open: function 30 -/
def spec_l21Open.f (l0 : List Int) : Option (List Int × Int):=if (l0.length : Int) > 2000 then (if 2000 ≤ (l0.length : Int) then (some (l0.take 2000,0)) else (none)) else (some (l0,0))
set_option maxHeartbeats 8000000 in
set_option maxRecDepth 100000 in
theorem spec_l21Open.calls (A0 : Option Addr) (c0 : Nat) (l0 : List Int) (r1 : List Int) (r2 : Int) (w0 w : World) (hB : Below w0.heap.size w0 w) (hr0 : Kd.C (Kd.int .u8) w0 A0 l0.length l0) (hc0 : l0.length ≤ c0) (h : spec_l21Open.f l0 = some (r1,r2)) :
  Calls Try.prog 30 #[.slice A0 l0.length c0] w fun e w' => ∃ g_ : Nat,e = .returned (.pointer (some ⟨g_,0,none⟩)) ∧ IsS68 w0 w' g_ r1 r2 ∧ Below w0.heap.size w0 w' ∧ Below w.heap.size w w':=by
 have hu68:=Try.underlying68
 have HR0:=mk_ hr0
 have HC0:=mk_ hc0
 clear hr0 hc0
 have HBW:=mk_ (Below.refl w.heap.size w)
 have HW0:=mk_ hB.size
 have HB:=mk_ hB
 clear hB
 have H : (if (l0.length : Int) > 2000 then (if 2000 ≤ (l0.length : Int) then (some (l0.take 2000,0)) else (none)) else (some (l0,0))) = some (r1,r2):=h
 clear h
 by_cases c2 : (l0.length : Int) > 2000
 ·rw [if_pos c2] at H
  have c2b0 : decide (2000 < (l0.length : Int)) = true:=decide_eq_true c2
  have c2b1 : decide (2000 < l0.length) = true:=decide_eq_true (by omega)
  clear c2
  by_cases c3 : 2000 ≤ (l0.length : Int)
  ·rw [if_pos c3] at H
   have c3b0:=eq_true c3
   have c3b1 : decide (2000 ≤ (l0.length : Int)) = true:=decide_eq_true c3
   clear c3
   simp only [Option.some.injEq,Prod.mk.injEq] at H
   obtain ⟨rfl,rfl⟩:=H
   obtain ⟨i04,hi04,_,hsz4,_⟩:=info_parts info5
   obtain ⟨hcut4,hA4,hC4⟩:=print_take_of (P:=Try.prog) (Value.int .u8) 0 22 5 .i64 Try.underlying22 hi04 hsz4 A0 c0 l0 2000 (by omega) (od_ qa_) HC0.out
   have HR204:=mk_ (Kd.C_of_reads (h1:=fun _ => rfl) (hA4 _ (Kd.reads_of_C HR0.out)))
   have HC204:=mk_ hC4
   clear hA4 hC4 hi04 hsz4
   go_enter Try.func30,Try.ntmps30
   go_wp2_with (first|((with_reducible refine gate_dst (N:=10) rfl ?_);refine box_event ?hg (N:=10) ?hd (cs:=#[.slice A0 (l0.take 2000).length c0,.int .i64 0]) (t:=68) ?hr ?_;(case hd => rfl);(case hg => rfl);(case hr => first|(go_simp;done)|(go_simp;rfl));intro gb205 hg w5 hbox hb;have n0_:=mk_ (st_ HBW.out hb);have n1_:=mk_ (st_ (qb_ HB) hb);have n2_:=mk_ (hbox);have n3_:=mk_ ((by rw [hg];exact (bz_ (u3_ HBW)) : w.heap.size ≤ gb205));have n4_:=mk_ ((Nat.le_trans HW0.out (by rw [hg];exact (bz_ (u3_ HBW)) : w.heap.size ≤ gb205) : w0.heap.size ≤ gb205));clear HBW HB;have HBW:=n0_;have HB:=n1_;have BK205:=n2_;have GW205:=n3_;have GE205:=n4_;clear n0_ n1_ n2_ n3_ n4_ hb hbox hg))
   go_ret
   exact ⟨_,rfl,(show IsS68 w0 _ gb205 (l0.take 2000) 0 from ⟨_,_,qk_ BK205,GE205.out,HR204.out⟩),u4_ HB GE205,u4_ HBW GW205⟩
  ·rw [if_neg c3] at H
   exact absurd H (by simp)
 ·rw [if_neg c2] at H
  have c2b0 : decide (2000 < (l0.length : Int)) = false:=decide_eq_false c2
  have c2b1 : decide (2000 < l0.length) = false:=decide_eq_false (by omega)
  clear c2
  simp only [Option.some.injEq,Prod.mk.injEq] at H
  obtain ⟨rfl,rfl⟩:=H
  go_enter Try.func30,Try.ntmps30
  go_wp2_with (first|((with_reducible refine gate_dst (N:=10) rfl ?_);refine box_event ?hg (N:=10) ?hd (cs:=#[.slice A0 l0.length c0,.int .i64 0]) (t:=68) ?hr ?_;(case hd => rfl);(case hg => rfl);(case hr => first|(go_simp;done)|(go_simp;rfl));intro gb206 hg w6 hbox hb;have n0_:=mk_ (st_ HBW.out hb);have n1_:=mk_ (st_ (qb_ HB) hb);have n2_:=mk_ (hbox);have n3_:=mk_ ((by rw [hg];exact (bz_ (u3_ HBW)) : w.heap.size ≤ gb206));have n4_:=mk_ ((Nat.le_trans HW0.out (by rw [hg];exact (bz_ (u3_ HBW)) : w.heap.size ≤ gb206) : w0.heap.size ≤ gb206));clear HBW HB;have HBW:=n0_;have HB:=n1_;have BK206:=n2_;have GW206:=n3_;have GE206:=n4_;clear n0_ n1_ n2_ n3_ n4_ hb hbox hg))
  go_ret
  exact ⟨_,rfl,(show IsS68 w0 _ gb206 l0 0 from ⟨_,_,qk_ BK206,GE206.out,HR0.out⟩),u4_ HB GE206,u4_ HBW GW206⟩

/-! ### spec_DrawLinkRounds: function 9 -/
def spec_DrawLinkRounds.f (k : Nat) (l0 : List Int) : Option (Int × (List (List Int)) × List Int × List Int):=(spec_l21Open.f l0).bind fun bt207 => ((spec_l5Draw.f k bt207.1 bt207.2).bind fun bt210 => (some (bt210.1,bt210.2.1,bt210.2.2.1,bt210.2.2.2.1)))
theorem spec_DrawLinkRounds.mono : ∀ a0 k,LeO (spec_DrawLinkRounds.f k a0) (spec_DrawLinkRounds.f (k + 1) a0):=by
 intro a0 k
 unfold spec_DrawLinkRounds.f
 repeat' first
   | (with_reducible exact spec_l5Draw.mono _ _ _)
   | (with_reducible exact LeO.refl _)
   | (with_reducible exact LeO.none _)
   | (with_reducible refine LeO.ite ?_ ?_)
   | (with_reducible refine LeO.bind ?_ (fun _ => ?_))
   | exact spec_l5Draw.mono _ _ _
   | exact LeO.none _
   | refine LeO.ite ?_ ?_
   | refine LeO.bind ?_ (fun _ => ?_)
set_option maxHeartbeats 8000000 in
set_option maxRecDepth 100000 in
theorem spec_DrawLinkRounds.calls (k : Nat) (A0 : Option Addr) (c0 : Nat) (l0 : List Int) (r1 : Int) (r2 : List (List Int)) (r3 : List Int) (r4 : List Int) (w : World) (hr0 : Kd.C (Kd.int .u8) w A0 l0.length l0) (hc0 : l0.length ≤ c0) (h : spec_DrawLinkRounds.f k l0 = some (r1,r2,r3,r4)) :
  Calls Try.prog 9 #[.slice A0 l0.length c0] w fun e w' => ∃ v1_ v2_ v3_ : Value,e = .returned (.tuple #[.int .i64 r1,v1_,v2_,v3_]) ∧ Kd.S (Kd.slice 5 (Kd.int .u8)) 22 w' w.heap.size (fun _ => True) v1_ r2 ∧ Kd.R (Kd.int .i64) 3 w' w.heap.size (fun k_ => some k_ ≠ (v3_ : Value).ownBlock) v2_ r3 ∧ Kd.R (Kd.int .i64) 3 w' w.heap.size (fun k_ => some k_ ≠ (v2_ : Value).ownBlock) v3_ r4 ∧ Below w.heap.size w w':=by
 have HR0:=mk_ hr0
 have HC0:=mk_ hc0
 clear hr0 hc0
 have HB:=mk_ (Below.refl w.heap.size w)
 have H : ((spec_l21Open.f l0).bind fun bt207 => ((spec_l5Draw.f k bt207.1 bt207.2).bind fun bt210 => (some (bt210.1,bt210.2.1,bt210.2.2.1,bt210.2.2.2.1)))) = some (r1,r2,r3,r4):=h
 clear h
 replace H:=Option.bind_eq_some_iff.mp H
 obtain ⟨⟨t207,t208⟩,A20,H⟩:=H
 replace H : ((spec_l5Draw.f k t207 t208).bind fun bt210 => (some (bt210.1,bt210.2.1,bt210.2.2.1,bt210.2.2.2.1))) = some (r1,r2,r3,r4):=H
 have A2:=mk_ A20
 clear A20
 replace H:=Option.bind_eq_some_iff.mp H
 obtain ⟨⟨t210,t211,t214,t217,t220⟩,A30,H⟩:=H
 replace H : (some (t210,t211,t214,t217)) = some (r1,r2,r3,r4):=H
 have A3:=mk_ A30
 clear A30
 simp only [Option.some.injEq,Prod.mk.injEq] at H
 obtain ⟨rfl,rfl,rfl,rfl⟩:=H
 go_enter Try.func9,Try.ntmps9
 go_wp2_with (first|((with_reducible refine gate_callee (f:=30) rfl ?_);refine goesL_ (some 7) rfl rfl Try.func30 (by kernel_rfl) rfl #[.slice A0 l0.length c0] rfl qm_ ?_;(with_reducible refine (spec_l21Open.calls _ _ l0 t207 t208 w _ ?side1 ?side2 ?side3 A2.out).mono ?_);(case side1 => exact u3_ HB);(case side2 => exact HR0.out);(case side3 => exact HC0.out);rintro e w4 ⟨g209,rfl,hi,hb,hb2⟩;refine ⟨_,rfl,?_⟩;have n0_:=mk_ (hb);have n1_:=mk_ (hi);clear HB;have HB:=n0_;have HI209:=n1_;clear n0_ n1_;(try clear hb);(try clear hb2);(try clear hk);(try clear hi))|((with_reducible refine gate_callee (f:=29) rfl ?_);refine goesL_ (some 8) rfl rfl Try.func29 (by kernel_rfl) rfl #[.pointer (some ⟨g209,0,none⟩)] rfl qm_ ?_;(with_reducible refine (spec_l5Draw.calls k g209 t207 t208 t210 t211 t214 t217 t220 w _ ?side1 ?side2 A3.out).mono ?_);(case side1 => exact u0_ HI209);(case side2 => exact u2_ HB HI209);rintro e w5 ⟨v212,v215,v218,rfl,ho0,ho1,ho2,hi,hb,hk⟩;refine ⟨_,rfl,?_⟩;have n0_:=mk_ (Kd.S_lower ho0 (bz_ (u2_ HB HI209)));have n1_:=mk_ (Kd.R_lower ho1 (bz_ (u2_ HB HI209)));have n2_:=mk_ (Kd.R_lower ho2 (bz_ (u2_ HB HI209)));have n3_:=mk_ (hb);have n4_:=mk_ (hi);clear HB HI209;have HO213:=n0_;have HO216:=n1_;have HO219:=n2_;have HB:=n3_;have HI209:=n4_;clear n0_ n1_ n2_ n3_ n4_;(try clear hb);(try clear hb2);(try clear hk);(try clear hi);(try clear ho0);(try clear ho1);(try clear ho2)))
 refine bodyPost_ret (results_list (rs:=[.tmp 2,.tmp 3,.tmp 4,.tmp 5]) rfl (by simp) (.tmp (.tmp (.tmp (.tmp .nil))))) rfl ?_
 exact ⟨_,_,_,qe_,by (with_reducible repeat (first|apply Kd.S_alloc|apply Kd.S_drewN|apply Kd.S_drew));exact HO213.out,qr_ HO216,qr_ HO219,u2_ HB HI209⟩

/-! ### impl_within: function 42 -/
def impl_within.f (a0 : Int) (a1 : Int) (a2 : Int) : Option (Bool):=if a1 ≤ a0 then (some (decide (a0 ≤ a2))) else (some false)
set_option maxHeartbeats 8000000 in
set_option maxRecDepth 100000 in
theorem impl_within.calls (a0 : Int) (a1 : Int) (a2 : Int) (r : Bool) (w : World) (h : impl_within.f a0 a1 a2 = some r) :
  Calls Try.prog 42 #[.int .i64 a0,.int .i64 a1,.int .i64 a2] w fun e w' => e = .returned (.bool r) ∧ Drawn0 w w':=by
 have H : (if a1 ≤ a0 then (some (decide (a0 ≤ a2))) else (some false)) = some r:=h
 clear h
 by_cases c4 : a1 ≤ a0
 ·rw [if_pos c4] at H
  have c4b0 : decide (a1 ≤ a0) = true:=decide_eq_true c4
  clear c4
  obtain rfl:=Option.some.inj H
  go_enter Try.func42,Try.ntmps42
  go_wp2
  go_ret
  exact ⟨by first|rfl|(simp;done)|(simp [*];done),by repeat (first|exact Drawn0.refl _|apply Drawn0.step)⟩
 ·rw [if_neg c4] at H
  have c4b0 : decide (a1 ≤ a0) = false:=decide_eq_false c4
  clear c4
  obtain rfl:=Option.some.inj H
  go_enter Try.func42,Try.ntmps42
  go_wp2
  go_ret
  exact ⟨by first|rfl|(simp;done)|(simp [*];done),by repeat (first|exact Drawn0.refl _|apply Drawn0.step)⟩

-- LIB preds
/-- What is asked of a function value that answers a bool: at every x, in every world in which all that lay in w lies as it lay, it answers p x and turns nothing that lies there. -/
def PredB {α : Type} (P : Program) (g : Nat) (lb : Array Value) (enc : α → Value) (p : α → Bool) (w : World) : Prop :=
  ∀ (W : World) (x : α),Below w.heap.size w W → Calls P g (#[enc x] ++ lb) W fun e w' => e = .returned (.bool (p x)) ∧ Below W.heap.size W w'
theorem PredB.later {α : Type} {P : Program} {g : Nat} {lb : Array Value} {enc : α → Value} {p : α → Bool} {w W : World} (h : PredB P g lb enc p w) (hb : Below w.heap.size w W) : PredB P g lb enc p W :=
  fun W' x hb' => h W' x (hb.trans (hb'.mono hb.size))
/-- The place of the first x of which p holds, from k on; -1. -/
def idxL {α : Type} (p : α → Bool) : List α → Nat → Int
  | [],_ => -1
  | x :: xs,k => if p x then (k : Int) else idxL p xs (k + 1)
theorem idxL_iff {α : Type} (p : α → Bool) (l : List α) (k : Nat) : 0 ≤ idxL p l k ↔ l.any p = true:=by
  induction l generalizing k with
  | nil => exact ⟨fun h => absurd h (by simp [idxL]),fun h => absurd h (by simp)⟩
  | cons x xs ih =>
    by_cases hp : p x = true
    · have e : idxL p (x :: xs) k = (k : Int):=if_pos hp
      rw [e]
      exact ⟨fun _ => by simp [hp],fun _ => by omega⟩
    · have e : idxL p (x :: xs) k = idxL p xs (k + 1):=if_neg hp
      rw [e,ih]
      simp [Bool.eq_false_iff.mpr hp]
theorem idxL_any {α : Type} (p : α → Bool) (l : List α) (k : Nat) : decide (0 ≤ idxL p l k) = l.any p:=by
  have h:=idxL_iff p l k
  cases ha : l.any p with
  | true => exact decide_eq_true (h.2 ha)
  | false => exact decide_eq_false (fun h0 => by rw [h.1 h0] at ha;cases ha)
theorem idxL_drop {α : Type} [Inhabited α] (p : α → Bool) (l : List α) (k : Nat) (h : k < l.length) : idxL p (l.drop k) k = if p (l.getD k default) then (k : Int) else idxL p (l.drop (k + 1)) (k + 1):=by
  rw [List.drop_eq_getElem_cons h,idxL]
  simp [List.getD_eq_getElem?_getD,h]
theorem below_step {w W W' : World} (h : Below w.heap.size w W) (h' : Below W.heap.size W W') : Below w.heap.size w W':=h.trans (h'.mono h.size)
theorem rd_getD (l : List Int) (k : Nat) : rd l (k : Int) = l.getD k default:=by simp [rd]

-- LIB containsint
set_option maxHeartbeats 4000000 in
set_option maxRecDepth 100000 in
theorem x_IndexFunc_int (p : Int → Bool) (g : Nat) (lb : Array Value) (eg : ∀ args w, (callFunc g args).run Try.prog w = .ok (.enter g args) w) (A0 : Option Addr) (c0 : Nat) (l0 : List Int) (w : World)
    (hp : PredB Try.prog g lb (Value.int .i64) p w) (hr0 : Kd.C (Kd.int .i64) w A0 l0.length l0) :
    Calls Try.prog 93 #[.slice A0 l0.length c0,.func (.func g) #[] lb] w fun e w' => e = .returned (.int .i64 (idxL p l0 0)) ∧ Below w.heap.size w w':=by
  have hlen:=Kd.C_max hr0
  have HR:=Aside0.mk hr0
  have HP:=Aside0.mk hp
  clear hr0 hp
  go_enter Try.func93,Try.ntmps93
  go_wp2
  go_loopg [5,8] l0.length (fun gg _ s8 wr => ∃ kk : Nat,kk ≤ l0.length ∧ l0.length - kk ≤ gg ∧ s8 = .int .i64 kk ∧ Aside0 (Below w.heap.size w wr) ∧ Aside0 (idxL p (l0.drop kk) kk = idxL p l0 0))
  case atStart => exact ⟨0,Nat.zero_le _,by omega,rfl,⟨Below.refl _ w⟩,⟨rfl⟩⟩
  case round =>
    obtain ⟨kk,hkk,hg,rfl,BW,HI⟩:=hrel
    by_cases hlt : kk < l0.length
    · obtain ⟨ad,e,hx⟩:=Kd.at_int (Kd.C_below HR.out BW.out) (kk : Int) (by omega) (by omega)
      cases e
      rw [Int.toNat_natCast] at hx
      obtain ⟨y,hy⟩ : ∃ y,y = rd l0 (kk : Int):=⟨_,rfl⟩
      rw [← hy] at hx
      have hcall:=HP.out wr y BW.out
      have HD : Aside0 (idxL p l0 0 = if p y then (kk : Int) else idxL p (l0.drop (kk + 1)) (kk + 1)):=⟨by rw [← HI.out,idxL_drop p l0 kk hlt,hy,rd_getD]⟩
      clear hy
      cases hq : p y with
      | true =>
        rw [hq] at hcall
        have HQ:=Aside0.mk hq
        clear hq
        go_wp2_with (go_at_fn g;refine hcall.mono ?_;rintro e w' ⟨rfl,hb'⟩)
        go_ret
        exact ⟨by rw [HD.out,HQ.out];rfl,below_step BW.out hb'⟩
      | false =>
        rw [hq] at hcall
        have HQ:=Aside0.mk hq
        clear hq
        go_wp2_with (go_at_fn g;refine hcall.mono ?_;rintro e w' ⟨rfl,hb'⟩)
        go_roundg (l0.length - (kk + 1))
        case measure => omega
        case rel => exact ⟨kk + 1,by omega,by omega,by go_num,⟨below_step BW.out hb'⟩,⟨by rw [HD.out,HQ.out];rfl⟩⟩
    · have e : kk = l0.length:=by omega
      subst e
      go_wp2
      go_ret
      exact ⟨by rw [← HI.out,List.drop_length];rfl,BW.out⟩
set_option maxHeartbeats 4000000 in
set_option maxRecDepth 100000 in
theorem x_ContainsFunc_int (p : Int → Bool) (g : Nat) (lb : Array Value) (eg : ∀ args w, (callFunc g args).run Try.prog w = .ok (.enter g args) w) (A0 : Option Addr) (c0 : Nat) (l0 : List Int) (w : World)
    (hp : PredB Try.prog g lb (Value.int .i64) p w) (hr0 : Kd.C (Kd.int .i64) w A0 l0.length l0) :
    Calls Try.prog 77 #[.slice A0 l0.length c0,.func (.func g) #[] lb] w fun e w' => e = .returned (.bool (l0.any p)) ∧ Below w.heap.size w w':=by
  have hcall:=x_IndexFunc_int p g lb eg A0 c0 l0 w hp hr0
  have HA:=Aside0.mk (idxL_any p l0 0)
  obtain ⟨z,hz⟩ : ∃ z,z = idxL p l0 0:=⟨_,rfl⟩
  rw [← hz] at hcall HA
  clear hp hr0 hz
  go_enter Try.func77,Try.ntmps77
  go_wp2_with (go_at_call 93;refine hcall.mono ?_;rintro e w' ⟨rfl,hb'⟩)
  go_ret
  exact ⟨by rw [← HA.out];rfl,hb'⟩

-- LIB allint
set_option maxHeartbeats 4000000 in
set_option maxRecDepth 100000 in
theorem x_all_int_1 {p : Int → Bool} {g : Nat} {lb : Array Value} (eg : ∀ args w, (callFunc g args).run Try.prog w = .ok (.enter g args) w) {b : Nat} {w : World}
    (hp : PredB Try.prog g lb (Value.int .i64) p w) (hb : b < w.heap.size) (hc : w.cell? ⟨b,0,none⟩ = some (.func (.func g) #[] lb)) :
    PredB Try.prog 78 #[.pointer (some ⟨b,0,none⟩)] (Value.int .i64) (fun x => !p x) w:=by
  intro W x hB
  have hc':=(hB.cell (p:=⟨b,0,none⟩) hb).trans hc
  have hcall:=hp W x hB
  clear hp hc hB hb
  go_enter Try.func78,Try.ntmps78
  go_wp2_with (go_at_fn g;refine hcall.mono ?_;rintro e w' ⟨rfl,hb'⟩)
  go_ret
  exact ⟨rfl,hb'⟩
theorem any_not_all {α : Type} (p : α → Bool) (l : List α) : (!l.any fun x => !p x) = l.all p:=by
  induction l with
  | nil => rfl
  | cons x xs ih => simp only [List.any_cons,List.all_cons,Bool.not_or,Bool.not_not,ih]
set_option maxHeartbeats 4000000 in
set_option maxRecDepth 100000 in
theorem x_all_int (p : Int → Bool) (g : Nat) (lb : Array Value) (eg : ∀ args w, (callFunc g args).run Try.prog w = .ok (.enter g args) w) (A0 : Option Addr) (c0 : Nat) (l0 : List Int) (w : World)
    (hp : PredB Try.prog g lb (Value.int .i64) p w) (hr0 : Kd.C (Kd.int .i64) w A0 l0.length l0) :
    Calls Try.prog 59 #[.slice A0 l0.length c0,.func (.func g) #[] lb] w fun e w' => e = .returned (.bool (l0.all p)) ∧ Below w.heap.size w w':=by
  have hmf : ∀ (fn : Fn) (first cap : Array Value) (w : World),(Instr.makeFunc fn first cap).run Try.prog w = .ok (.func fn first cap) w:=fun _ _ _ _ => rfl
  have hb0 : Below w.heap.size w (w.alloc (.cells #[.func (.func g) #[] lb] 80)):=(Below.refl _ w).alloc (Nat.le_refl _) _
  have hcall:=x_ContainsFunc_int (fun x => !p x) 78 #[.pointer (some ⟨w.heap.size,0,none⟩)] (enters_of Try.func78 (by kernel_rfl) rfl) A0 c0 l0 _ (x_all_int_1 eg (hp.later hb0) (by simp) (by simp)) (Kd.C_below hr0 hb0)
  have HB0:=Aside0.mk hb0
  clear hp hr0 hb0
  go_enter Try.func59,Try.ntmps59
  go_wp2_with (go_at_call 77;refine hcall.mono ?_;rintro e w' ⟨rfl,hb'⟩)
  go_ret
  exact ⟨by rw [any_not_all];rfl,below_step HB0.out hb'⟩

-- LIB pbase
theorem wrap_eq {x : Int} (h1 : -9223372036854775808 ≤ x) (h2 : x ≤ 9223372036854775807) : wrap64 x = x:=by unfold wrap64;omega
theorem rd_get (l : List Int) (i : Nat) (h : i < l.length) : rd l (i : Int) = l[i]:=by simp [rd,List.getD_eq_getElem?_getD,h]

-- LIB within
theorem win_is (n a b : Int) : impl_within.f n a b = some (decide (a ≤ n) && decide (n ≤ b)):=by
  unfold impl_within.f
  by_cases h : a ≤ n <;> simp [h]
theorem x_win (n a b : Int) (W : World) : Calls Try.prog 42 #[.int .i64 n,.int .i64 a,.int .i64 b] W fun e w' => e = .returned (.bool (decide (a ≤ n) && decide (n ≤ b))) ∧ Below W.heap.size W w' :=
  (impl_within.calls n a b _ W (win_is n a b)).mono fun e w' ⟨he,hd⟩ => ⟨he,hd.below⟩

/-! ### impl_FatesValid: function 43 (by hand) -/
/-- A fate;fates. -/
def fateB (x : Int) : Bool:=decide (0 ≤ x) && decide (x ≤ 4)
def fatesB (l : List Int) : Bool:=decide (l.length ≤ 200) && l.all fateB
set_option maxHeartbeats 4000000 in
set_option maxRecDepth 100000 in
theorem x_FatesValid_1 (w : World) : PredB Try.prog 60 #[] (Value.int .i64) fateB w:=by
 intro W x hB
 have hw:=x_win x 0 4 W
 have HZ : Aside0 (fateB x = (decide (0 ≤ x) && decide (x ≤ 4))):=⟨rfl⟩
 clear hB
 generalize fateB x = z at HZ ⊢
 generalize (decide (0 ≤ x) && decide (x ≤ 4)) = z2 at HZ hw
 go_enter Try.func60,Try.ntmps60
 go_wp2_with fail
 refine hw.mono ?_
 rintro e w' ⟨rfl,hb'⟩
 go_wp2_with fail
 go_ret
 exact ⟨by rw [HZ.out];rfl,hb'⟩
def impl_FatesValid.f (l0 : List Int) : Option (Bool) :=
 some (fatesB l0)
set_option maxHeartbeats 4000000 in
set_option maxRecDepth 100000 in
theorem impl_FatesValid.calls (A0 : Option Addr) (c0 : Nat) (l0 : List Int) (r : Bool) (w : World) (hr0 : Kd.C (Kd.int .i64) w A0 l0.length l0) (hc0 : l0.length ≤ c0) (h : impl_FatesValid.f l0 = some r) :
  Calls Try.prog 43 #[.slice A0 l0.length c0] w fun e w' => e = .returned (.bool r) ∧ Below w.heap.size w w':=by
 obtain rfl:=Option.some.inj h
 have hall:=x_all_int fateB 60 #[] (enters_of Try.func60 (by kernel_rfl) rfl) A0 c0 l0 w (x_FatesValid_1 w) hr0
 have HV : Aside0 (fatesB l0 = (decide (l0.length ≤ 200) && l0.all fateB)):=⟨rfl⟩
 have hlen:=Kd.C_max hr0
 generalize fatesB l0 = z at HV ⊢
 generalize l0.all fateB = t at HV hall
 clear h hr0 hc0
 by_cases c1 : (l0.length : Int) ≤ 200
 ·have HC1 : Aside0 (decide (l0.length ≤ 200) = true):=⟨by simp;omega⟩
  go_enter Try.func43,Try.ntmps43
  go_wp2_with (go_at_call 59;refine hall.mono ?_;rintro e w1 ⟨rfl,hb1⟩)
  go_ret
  exact ⟨by rw [HV.out,HC1.out];simp,hb1⟩
 ·have HC1 : Aside0 (decide (l0.length ≤ 200) = false):=⟨by simp;omega⟩
  go_enter Try.func43,Try.ntmps43
  go_wp2_with fail
  go_ret
  exact ⟨by rw [HV.out,HC1.out];simp,Below.refl _ _⟩

-- LIB alldata
/-- What is asked of a function value that answers a bool of a row's length alone. -/
def PredN (P : Program) (g : Nat) (lb : Array Value) (p : Nat → Bool) (w : World) : Prop :=
  ∀ (W : World) (A : Option Addr) (n c : Nat),Below w.heap.size w W → Calls P g (#[.slice A n c] ++ lb) W fun e w' => e = .returned (.bool (p n)) ∧ Below W.heap.size W w'
theorem PredN.later {P : Program} {g : Nat} {lb : Array Value} {p : Nat → Bool} {w W : World} (h : PredN P g lb p w) (hb : Below w.heap.size w W) : PredN P g lb p W :=
  fun W' A n c hb' => h W' A n c (hb.trans (hb'.mono hb.size))
theorem rdL_get (l : List (List Int)) (i : Nat) (h : i < l.length) : rd_L2 l (i : Int) = l[i]:=by simp [rd_L2,List.getD_eq_getElem?_getD,h]
theorem any_not_alld {α : Type} (p : α → Bool) (l : List α) : (!l.any fun x => !p x) = l.all p:=by
  induction l with
  | nil => rfl
  | cons x xs ih => simp only [List.any_cons,List.all_cons,Bool.not_or,Bool.not_not,ih]
set_option maxHeartbeats 4000000 in
set_option maxRecDepth 100000 in
theorem x_IndexFunc_dat (p : Nat → Bool) (g : Nat) (lb : Array Value) (eg : ∀ args w, (callFunc g args).run Try.prog w = .ok (.enter g args) w) (A0 : Option Addr) (c0 : Nat) (l0 : List (List Int)) (w : World)
    (hp : PredN Try.prog g lb p w) (hr0 : Kd.C (Kd.slice 5 (Kd.int .u8)) w A0 l0.length l0) :
    Calls Try.prog 79 #[.slice A0 l0.length c0,.func (.func g) #[] lb] w fun e w' => e = .returned (.int .i64 (idxL (fun x : List Int => p x.length) l0 0)) ∧ Below w.heap.size w w':=by
  have hlen:=Kd.C_max hr0
  have HR:=Aside0.mk hr0
  have HP:=Aside0.mk hp
  clear hr0 hp
  go_enter Try.func79,Try.ntmps79
  go_wp2
  go_loopg [5,8] l0.length (fun gg _ s8 wr => ∃ kk : Nat,kk ≤ l0.length ∧ l0.length - kk ≤ gg ∧ s8 = .int .i64 kk ∧ Aside0 (Below w.heap.size w wr) ∧ Aside0 (idxL (fun x : List Int => p x.length) (l0.drop kk) kk = idxL (fun x : List Int => p x.length) l0 0))
  case atStart => exact ⟨0,Nat.zero_le _,by omega,rfl,⟨Below.refl _ w⟩,⟨rfl⟩⟩
  case round =>
    obtain ⟨kk,hkk,hg,rfl,BW,HI⟩:=hrel
    by_cases hlt : kk < l0.length
    · obtain ⟨ad,A1,c1,e,hx,hcx,_⟩:=at_L2 (Kd.C_below HR.out BW.out) (kk : Int) (by omega) (by omega)
      cases e
      rw [Int.toNat_natCast,rdL_get l0 kk hlt] at hx
      have hcall:=HP.out wr A1 l0[kk].length c1 BW.out
      have HD : Aside0 (idxL (fun x : List Int => p x.length) l0 0 = if p l0[kk].length then (kk : Int) else idxL (fun x : List Int => p x.length) (l0.drop (kk + 1)) (kk + 1)):=⟨by rw [← HI.out,List.drop_eq_getElem_cons hlt,idxL]⟩
      generalize l0[kk].length = y at hx hcall HD
      clear hcx
      cases hq : p y with
      | true =>
        rw [hq] at hcall
        have HQ:=Aside0.mk hq
        clear hq
        go_wp2_with (go_at_fn g;refine hcall.mono ?_;rintro e w' ⟨rfl,hb'⟩)
        go_ret
        exact ⟨by rw [HD.out,HQ.out];rfl,below_step BW.out hb'⟩
      | false =>
        rw [hq] at hcall
        have HQ:=Aside0.mk hq
        clear hq
        go_wp2_with (go_at_fn g;refine hcall.mono ?_;rintro e w' ⟨rfl,hb'⟩)
        go_roundg (l0.length - (kk + 1))
        case measure => omega
        case rel => exact ⟨kk + 1,by omega,by omega,by go_num,⟨below_step BW.out hb'⟩,⟨by rw [HD.out,HQ.out];rfl⟩⟩
    · have e : kk = l0.length:=by omega
      subst e
      go_wp2
      go_ret
      exact ⟨by rw [← HI.out,List.drop_length];rfl,BW.out⟩
set_option maxHeartbeats 4000000 in
set_option maxRecDepth 100000 in
theorem x_ContainsFunc_dat (p : Nat → Bool) (g : Nat) (lb : Array Value) (eg : ∀ args w, (callFunc g args).run Try.prog w = .ok (.enter g args) w) (A0 : Option Addr) (c0 : Nat) (l0 : List (List Int)) (w : World)
    (hp : PredN Try.prog g lb p w) (hr0 : Kd.C (Kd.slice 5 (Kd.int .u8)) w A0 l0.length l0) :
    Calls Try.prog 63 #[.slice A0 l0.length c0,.func (.func g) #[] lb] w fun e w' => e = .returned (.bool (l0.any fun x => p x.length)) ∧ Below w.heap.size w w':=by
  have hcall:=x_IndexFunc_dat p g lb eg A0 c0 l0 w hp hr0
  have HA:=Aside0.mk (idxL_any (fun x : List Int => p x.length) l0 0)
  obtain ⟨z,hz⟩ : ∃ z,z = idxL (fun x : List Int => p x.length) l0 0:=⟨_,rfl⟩
  rw [← hz] at hcall HA
  clear hp hr0 hz
  go_enter Try.func63,Try.ntmps63
  go_wp2_with (go_at_call 79;refine hcall.mono ?_;rintro e w' ⟨rfl,hb'⟩)
  go_ret
  exact ⟨by rw [← HA.out];rfl,hb'⟩
set_option maxHeartbeats 4000000 in
set_option maxRecDepth 100000 in
theorem x_all_dat_1 {p : Nat → Bool} {g : Nat} {lb : Array Value} (eg : ∀ args w, (callFunc g args).run Try.prog w = .ok (.enter g args) w) {b : Nat} {w : World}
    (hp : PredN Try.prog g lb p w) (hb : b < w.heap.size) (hc : w.cell? ⟨b,0,none⟩ = some (.func (.func g) #[] lb)) :
    PredN Try.prog 64 #[.pointer (some ⟨b,0,none⟩)] (fun x => !p x) w:=by
  intro W A n c hB
  have hc':=(hB.cell (p:=⟨b,0,none⟩) hb).trans hc
  have hcall:=hp W A n c hB
  clear hp hc hB hb
  go_enter Try.func64,Try.ntmps64
  go_wp2_with (go_at_fn g;refine hcall.mono ?_;rintro e w' ⟨rfl,hb'⟩)
  go_ret
  exact ⟨rfl,hb'⟩
set_option maxHeartbeats 4000000 in
set_option maxRecDepth 100000 in
theorem x_all_dat (p : Nat → Bool) (g : Nat) (lb : Array Value) (eg : ∀ args w, (callFunc g args).run Try.prog w = .ok (.enter g args) w) (A0 : Option Addr) (c0 : Nat) (l0 : List (List Int)) (w : World)
    (hp : PredN Try.prog g lb p w) (hr0 : Kd.C (Kd.slice 5 (Kd.int .u8)) w A0 l0.length l0) :
    Calls Try.prog 50 #[.slice A0 l0.length c0,.func (.func g) #[] lb] w fun e w' => e = .returned (.bool (l0.all fun x => p x.length)) ∧ Below w.heap.size w w':=by
  have hmf : ∀ (fn : Fn) (first cap : Array Value) (w : World),(Instr.makeFunc fn first cap).run Try.prog w = .ok (.func fn first cap) w:=fun _ _ _ _ => rfl
  have hb0 : Below w.heap.size w (w.alloc (.cells #[.func (.func g) #[] lb] 31)):=(Below.refl _ w).alloc (Nat.le_refl _) _
  have hcall:=x_ContainsFunc_dat (fun x => !p x) 64 #[.pointer (some ⟨w.heap.size,0,none⟩)] (enters_of Try.func64 (by kernel_rfl) rfl) A0 c0 l0 _ (x_all_dat_1 eg (hp.later hb0) (by simp) (by simp)) (Kd.C_below hr0 hb0)
  have HB0:=Aside0.mk hb0
  clear hp hr0 hb0
  go_enter Try.func50,Try.ntmps50
  go_wp2_with (go_at_call 63;refine hcall.mono ?_;rintro e w' ⟨rfl,hb'⟩)
  go_ret
  exact ⟨by rw [any_not_alld];rfl,below_step HB0.out hb'⟩

/-! ### impl_linkOk: function 31 (by hand) -/
/-- What a link may be run with. -/
def linkB (a0 : Int) (l1 : List (List Int)) (l2 l3 : List Int) (a4 : Int) : Bool :=
 (decide (1 ≤ a0) && decide (a0 ≤ 8)) && (decide (l1.length ≤ 60) && ((l1.all fun x => decide (x.length ≤ 597)) && (fatesB l2 && (fatesB l3 && (decide (0 ≤ a4) && decide (a4 ≤ 400))))))
set_option maxHeartbeats 4000000 in
set_option maxRecDepth 100000 in
theorem x_linkOk_1 (w : World) : PredN Try.prog 51 #[] (fun n => decide (n ≤ 597)) w:=by
 intro W A n c hB
 have HZ : Aside0 (decide ((n : Int) ≤ 597) = decide (n ≤ 597)):=⟨by by_cases h : n ≤ 597 <;> simp [h] <;> omega⟩
 clear hB
 go_enter Try.func51,Try.ntmps51
 go_wp2_with fail
 go_ret
 exact ⟨by rw [← HZ.out];rfl,Below.refl _ _⟩
def impl_linkOk.f (a0 : Int) (l1 : List (List Int)) (l2 : List Int) (l3 : List Int) (a4 : Int) : Option (Bool) :=
 some (linkB a0 l1 l2 l3 a4)
set_option maxHeartbeats 4000000 in
set_option maxRecDepth 100000 in
theorem impl_linkOk.calls (a0 : Int) (A1 : Option Addr) (c1 : Nat) (l1 : List (List Int)) (A2 : Option Addr) (c2 : Nat) (l2 : List Int) (A3 : Option Addr) (c3 : Nat) (l3 : List Int) (a4 : Int) (r : Bool) (w : World) (hr1 : Kd.C (Kd.slice 5 (Kd.int .u8)) w A1 l1.length l1) (hc1 : l1.length ≤ c1) (hr2 : Kd.C (Kd.int .i64) w A2 l2.length l2) (hc2 : l2.length ≤ c2) (hr3 : Kd.C (Kd.int .i64) w A3 l3.length l3) (hc3 : l3.length ≤ c3) (h : impl_linkOk.f a0 l1 l2 l3 a4 = some r) :
  Calls Try.prog 31 #[.int .i64 a0,.slice A1 l1.length c1,.slice A2 l2.length c2,.slice A3 l3.length c3,.int .i64 a4] w fun e w' => e = .returned (.bool r) ∧ Below w.heap.size w w':=by
 obtain rfl:=Option.some.inj h
 have hw:=fun W => x_win a0 1 8 W
 have hq:=fun W => x_win a4 0 400 W
 have ha:=fun W (hW : Below w.heap.size w W) => x_all_dat (fun n => decide (n ≤ 597)) 51 #[] (enters_of Try.func51 (by kernel_rfl) rfl) A1 c1 l1 W (x_linkOk_1 W) (cb_ hr1 hW)
 have hf:=fun W (hW : Below w.heap.size w W) => impl_FatesValid.calls A2 c2 l2 _ W (cb_ hr2 hW) hc2 rfl
 have hg:=fun W (hW : Below w.heap.size w W) => impl_FatesValid.calls A3 c3 l3 _ W (cb_ hr3 hW) hc3 rfl
 have hlen:=Kd.C_max hr1
 have HV : Aside0 (linkB a0 l1 l2 l3 a4 = ((decide (1 ≤ a0) && decide (a0 ≤ 8)) && (decide (l1.length ≤ 60) && ((l1.all fun x => decide (x.length ≤ 597)) && (fatesB l2 && (fatesB l3 && (decide (0 ≤ a4) && decide (a4 ≤ 400)))))))):=⟨rfl⟩
 generalize linkB a0 l1 l2 l3 a4 = z at HV ⊢
 generalize (decide (1 ≤ a0) && decide (a0 ≤ 8)) = z1 at HV hw
 generalize (l1.all fun x => decide (x.length ≤ 597)) = z3 at HV ha
 generalize fatesB l2 = z4 at HV hf
 generalize fatesB l3 = z5 at HV hg
 generalize (decide (0 ≤ a4) && decide (a4 ≤ 400)) = z6 at HV hq
 have HA:=mk_ ha
 have HF:=mk_ hf
 have HG:=mk_ hg
 have HQ:=mk_ hq
 clear h hr1 hc1 hr2 hc2 hr3 hc3 ha hf hg hq
 cases z1 with
 | false =>
  have HZ : Aside0 (z = false):=⟨by rw [HV.out];rfl⟩
  go_enter Try.func31,Try.ntmps31
  go_wp2_with fail
  refine (hw _).mono ?_
  rintro e w1 ⟨rfl,hb1⟩
  go_wp2_with fail
  go_ret
  exact ⟨by rw [HZ.out];rfl,hb1⟩
 | true =>
  rw [Bool.true_and] at HV
  by_cases c2 : l1.length ≤ 60
  ·have e2 : ((l1.length : Int) ≤ 60) = True:=eq_true (by omega)
   rw [decide_eq_true c2,Bool.true_and] at HV
   clear c2
   cases z3 with
   | false =>
    have HZ : Aside0 (z = false):=⟨by rw [HV.out];rfl⟩
    go_enter Try.func31,Try.ntmps31
    go_wp2_with fail
    refine (hw _).mono ?_
    rintro e w1 ⟨rfl,hb1⟩
    have HB1:=mk_ hb1
    have ha:=HA.out _ hb1
    clear hb1
    go_wp2_with fail
    refine ha.mono ?_
    rintro e w2 ⟨rfl,hb2⟩
    go_wp2_with fail
    go_ret
    exact ⟨by rw [HZ.out];rfl,(st_ HB1.out hb2)⟩
   | true =>
    rw [Bool.true_and] at HV
    cases z4 with
    | false =>
     have HZ : Aside0 (z = false):=⟨by rw [HV.out];rfl⟩
     go_enter Try.func31,Try.ntmps31
     go_wp2_with fail
     refine (hw _).mono ?_
     rintro e w1 ⟨rfl,hb1⟩
     have HB1:=mk_ hb1
     have ha:=HA.out _ hb1
     clear hb1
     go_wp2_with fail
     refine ha.mono ?_
     rintro e w2 ⟨rfl,hb2⟩
     have HB2:=mk_ (st_ HB1.out hb2)
     have hf:=HF.out _ HB2.out
     clear hb2 ha
     go_wp2_with fail
     refine hf.mono ?_
     rintro e w3 ⟨rfl,hb3⟩
     go_wp2_with fail
     go_ret
     exact ⟨by rw [HZ.out];rfl,(st_ HB2.out hb3)⟩
    | true =>
     rw [Bool.true_and] at HV
     cases z5 with
     | false =>
      have HZ : Aside0 (z = false):=⟨by rw [HV.out];rfl⟩
      go_enter Try.func31,Try.ntmps31
      go_wp2_with fail
      refine (hw _).mono ?_
      rintro e w1 ⟨rfl,hb1⟩
      have HB1:=mk_ hb1
      have ha:=HA.out _ hb1
      clear hb1
      go_wp2_with fail
      refine ha.mono ?_
      rintro e w2 ⟨rfl,hb2⟩
      have HB2:=mk_ (st_ HB1.out hb2)
      have hf:=HF.out _ HB2.out
      clear hb2 ha
      go_wp2_with fail
      refine hf.mono ?_
      rintro e w3 ⟨rfl,hb3⟩
      have HB3:=mk_ (st_ HB2.out hb3)
      have hg:=HG.out _ HB3.out
      clear hb3 hf
      go_wp2_with fail
      refine hg.mono ?_
      rintro e w4 ⟨rfl,hb4⟩
      go_wp2_with fail
      go_ret
      exact ⟨by rw [HZ.out];rfl,(st_ HB3.out hb4)⟩
     | true =>
      rw [Bool.true_and] at HV
      have HZ : Aside0 (z = z6):=⟨by rw [HV.out]⟩
      go_enter Try.func31,Try.ntmps31
      go_wp2_with fail
      refine (hw _).mono ?_
      rintro e w1 ⟨rfl,hb1⟩
      have HB1:=mk_ hb1
      have ha:=HA.out _ hb1
      clear hb1
      go_wp2_with fail
      refine ha.mono ?_
      rintro e w2 ⟨rfl,hb2⟩
      have HB2:=mk_ (st_ HB1.out hb2)
      have hf:=HF.out _ HB2.out
      clear hb2 ha
      go_wp2_with fail
      refine hf.mono ?_
      rintro e w3 ⟨rfl,hb3⟩
      have HB3:=mk_ (st_ HB2.out hb3)
      have hg:=HG.out _ HB3.out
      clear hb3 hf
      go_wp2_with fail
      refine hg.mono ?_
      rintro e w4 ⟨rfl,hb4⟩
      have HB4:=mk_ (st_ HB3.out hb4)
      have hq:=HQ.out w4
      clear hb4 hg
      go_wp2_with fail
      refine hq.mono ?_
      rintro e w5 ⟨rfl,hb5⟩
      go_wp2_with fail
      go_ret
      exact ⟨by rw [HZ.out];rfl,(st_ HB4.out hb5)⟩
  ·have e2 : ((l1.length : Int) ≤ 60) = False:=eq_false (by omega)
   have HZ : Aside0 (z = false):=⟨by rw [HV.out,decide_eq_false c2];rfl⟩
   clear HV c2
   go_enter Try.func31,Try.ntmps31
   go_wp2_with fail
   refine (hw _).mono ?_
   rintro e w1 ⟨rfl,hb1⟩
   go_wp2_with fail
   go_ret
   exact ⟨by rw [HZ.out];rfl,hb1⟩

end Go.Proofs.Ytdpnloibbimblaa.PAll

/- Proved here: contracts of functions of the given program, or lemmas on them, for the laws of this seat. Written by xprint.py, a program of this session, on the ground of the kit's print; parts by hand: wip/x/ext. -/
import Derived.Test.YtfbicfnokibobaaPAllx0
namespace Go.Proofs.Ytfbicfnokibobaa.PAll
open Go.RowKit Go.Proofs.YtfbicfnokibobaaW.PrintWords Go.Proofs.YtfbicfnokibobaaW.PrintLast Go.Proofs.YtfbicfnokibobaaW.PrintMore
attribute [local go_sem] max2_int min2_int max_two min_two max_three min_three max_four min_four   -- for this text's walks alone
set_option linter.unusedVariables false
set_option linter.unusedSimpArgs false

/-- A state of type 72 at block g of W; what its slices lead to came in by w0. -/
def IsS72 (w0 W : World) (g : Nat) (f0 : List Int) (f1 : Int) : Prop:=∃ A0 c0,W.heap[g]? = some (.cells #[.slice A0 f0.length c0,.int .i64 f1] 72 (0,0)) ∧ w0.heap.size ≤ g ∧ Kd.C (Kd.int .u8) w0 A0 f0.length f0
theorem IsS72.grown {w0 W : World} {g : Nat} {f0 : List Int} {f1 : Int} {W1 : World} {row : Option Nat} (h : IsS72 w0 W g f0 f1) (hw : W.grownBy W1 row) (hne : some g ≠ row) : IsS72 w0 W1 g f0 f1:=by
  obtain ⟨A0,c0,hb,hg,hr0⟩:=h
  exact ⟨A0,c0,blk_grown hb hw hne,hg,hr0⟩
theorem IsS72.own_neN {w0 W : World} {g : Nat} {f0 : List Int} {f1 : Int} {α : Type} {d : Kd α} {e : Nat} {base : Nat} {ok : Nat → Prop} {v : Value} {xs : List α} (h : IsS72 w0 W g f0 f1) (ho : Kd.N d e W base ok v xs) (ht : e ≠ 72) : some g ≠ v.ownBlock:=by
  obtain ⟨A0,c0,hb,hg,hr0⟩:=h
  exact Kd.N_ne ho hb ht
theorem IsS72.fresh {w0 W : World} {g : Nat} {f0 : List Int} {f1 : Int} (h : IsS72 w0 W g f0 f1) : ∀ k,W.heap.size ≤ k → k ≠ g:=by
  obtain ⟨A0,c0,hb,hg,hr0⟩:=h
  exact Kd.freshB hb
theorem IsS72.kept {w0 W : World} {g : Nat} {f0 : List Int} {f1 : Int} {W1 : World} {S : Nat → Prop} (h : IsS72 w0 W g f0 f1) (hk : Kept W W1 S) (hne : ¬ S g) : IsS72 w0 W1 g f0 f1:=by
  obtain ⟨A0,c0,hb,hg,hr0⟩:=h
  exact ⟨A0,c0,blk_kept hb hk hne,hg,hr0⟩
theorem IsS72.below {w0 W : World} {g : Nat} {f0 : List Int} {f1 : Int} {W1 : World} (h : IsS72 w0 W g f0 f1) (hw : Below W.heap.size W W1) : IsS72 w0 W1 g f0 f1:=h.grown (grown_of_below hw none) (by simp)
theorem IsS72.alloc {w0 W : World} {g : Nat} {f0 : List Int} {f1 : Int} (h : IsS72 w0 W g f0 f1) (o : Obj) : IsS72 w0 (W.alloc o) g f0 f1:=h.below (below_alloc (Below.refl _ _) o)
theorem IsS72.drewN {w0 W : World} {g : Nat} {f0 : List Int} {f1 : Int} (h : IsS72 w0 W g f0 f1) (m : Nat) : IsS72 w0 (W.drewN m) g f0 f1:=h
theorem IsS72.drew {w0 W : World} {g : Nat} {f0 : List Int} {f1 : Int} (h : IsS72 w0 W g f0 f1) : IsS72 w0 W.drew g f0 f1:=h
theorem IsS72.at_ {w0 W : World} {g : Nat} {f0 : List Int} {f1 : Int} {w' : World} {m : Nat} (hq : W.drewN m = w') (h : IsS72 w0 W g f0 f1) : IsS72 w0 w' g f0 f1:=by subst hq;exact IsS72.drewN h m
theorem IsS72.apart {w0 W : World} {g : Nat} {f0 : List Int} {f1 : Int} {α : Type} {d : Kd α} {e : Nat} {base : Nat} {ok : Nat → Prop} {v : Value} {xs : List α} (h : IsS72 w0 W g f0 f1) (ho : d.R e W base ok v xs) (ht : ∀ q,q ∈ e :: d.E → q ≠ 72) : d.R e W base (fun k => ok k ∧ k ≠ g) v xs:=by
  obtain ⟨A0,c0,hb,hg,hr0⟩:=h
  exact Kd.R_types ho hb ht
theorem IsS72.own_ne {w0 W : World} {g : Nat} {f0 : List Int} {f1 : Int} {α : Type} {d : Kd α} {e : Nat} {base : Nat} {ok : Nat → Prop} {v : Value} {xs : List α} (h : IsS72 w0 W g f0 f1) (ho : d.R e W base ok v xs) (ht : e ≠ 72) : some g ≠ v.ownBlock:=by
  obtain ⟨A0,c0,hb,hg,hr0⟩:=h
  exact Kd.R_ne ho hb ht
theorem IsS72.apartQ {w0 W : World} {g : Nat} {f0 : List Int} {f1 : Int} {α : Type} {d : Kd α} {e : Nat} {base : Nat} {ok : Nat → Prop} {v : Value} {xs : List α} (h : IsS72 w0 W g f0 f1) (ho : d.Q e W base ok v xs) (ht : ∀ q,q ∈ e :: d.E → q ≠ 72) : d.Q e W base (fun k => ok k ∧ k ≠ g) v xs:=by
  obtain ⟨A0,c0,hb,hg,hr0⟩:=h
  exact Kd.Q_types ho hb ht
theorem IsS72.own_neQ {w0 W : World} {g : Nat} {f0 : List Int} {f1 : Int} {α : Type} {d : Kd α} {e : Nat} {base : Nat} {ok : Nat → Prop} {v : Value} {xs : List α} (h : IsS72 w0 W g f0 f1) (ho : d.Q e W base ok v xs) (ht : e ≠ 72) : some g ≠ v.ownBlock:=by
  obtain ⟨A0,c0,hb,hg,hr0⟩:=h
  exact Kd.Q_ne ho hb ht
theorem IsS72.apartS {w0 W : World} {g : Nat} {f0 : List Int} {f1 : Int} {α : Type} {d : Kd α} {e : Nat} {base : Nat} {ok : Nat → Prop} {v : Value} {xs : List α} (h : IsS72 w0 W g f0 f1) (ho : d.S e W base ok v xs) (ht : ∀ q,q ∈ e :: d.E → q ≠ 72) : d.S e W base (fun k => ok k ∧ k ≠ g) v xs:=by
  obtain ⟨A0,c0,hb,hg,hr0⟩:=h
  exact Kd.S_types ho hb ht
theorem IsS72.own_neS {w0 W : World} {g : Nat} {f0 : List Int} {f1 : Int} {α : Type} {d : Kd α} {e : Nat} {base : Nat} {ok : Nat → Prop} {v : Value} {xs : List α} (h : IsS72 w0 W g f0 f1) (ho : d.S e W base ok v xs) (ht : e ≠ 72) : some g ≠ v.ownBlock:=by
  obtain ⟨A0,c0,hb,hg,hr0⟩:=h
  exact Kd.S_ne ho hb ht
theorem IsS72.lt {w0 W : World} {g : Nat} {f0 : List Int} {f1 : Int} (h : IsS72 w0 W g f0 f1) : g < W.heap.size:=by
  obtain ⟨A0,c0,hb,hg,hr0⟩:=h
  exact blk_lt hb
theorem IsS72.ge {w0 W : World} {g : Nat} {f0 : List Int} {f1 : Int} (h : IsS72 w0 W g f0 f1) : w0.heap.size ≤ g:=by
  obtain ⟨A0,c0,hb,hg,hr0⟩:=h
  exact hg
theorem IsS72.ne_blk {w0 W : World} {g : Nat} {f0 : List Int} {f1 : Int} {a : Nat} {cs : Array Value} {t : TypeId} {fr : Nat × Nat} (h : IsS72 w0 W g f0 f1) (hb2 : W.heap[a]? = some (.cells cs t fr)) (ht : t ≠ 72) : g ≠ a:=by
  obtain ⟨A0,c0,hb,hg,hr0⟩:=h
  rintro rfl
  rw [hb] at hb2
  injection hb2 with hb2
  injection hb2 with _ ht2
  exact ht ht2.symm
theorem IsS72.far {w0 W : World} {g : Nat} {f0 : List Int} {f1 : Int} {p : Addr} (h : IsS72 w0 W g f0 f1) (hne : g ≠ p.block) (u : Value) : IsS72 w0 (W.setCell p u) g f0 f1:=by
  obtain ⟨A0,c0,hb,hg,hr0⟩:=h
  exact ⟨A0,c0,blk_far hb hne u,hg,hr0⟩
theorem cellS72_0 {W : World} {g : Nat} {A0 : Option Addr} {c0 : Nat} {f0 : List Int} {f1 : Int} (h : W.heap[g]? = some (.cells #[.slice A0 f0.length c0,.int .i64 f1] 72 (0,0))) : W.cell? ⟨g,0,none⟩ = some (.slice A0 f0.length c0):=(blk_cell h 0).trans rfl
theorem cellS72_1 {W : World} {g : Nat} {A0 : Option Addr} {c0 : Nat} {f0 : List Int} {f1 : Int} (h : W.heap[g]? = some (.cells #[.slice A0 f0.length c0,.int .i64 f1] 72 (0,0))) : W.cell? ⟨g,1,none⟩ = some (.int .i64 f1):=(blk_cell h 1).trans rfl
theorem IsS72.set_1 {w0 W : World} {g : Nat} {f0 : List Int} {f1 : Int} (h : IsS72 w0 W g f0 f1) (x : Int) : IsS72 w0 (W.setCell ⟨g,1,none⟩ (.int .i64 x)) g f0 x:=by
  obtain ⟨A0,c0,hb,hg,hr0⟩:=h
  exact ⟨A0,c0,by simpa using blk_set hb 1 (.int .i64 x),hg,hr0⟩
theorem IsS72.new (w0 W : World) (A0 : Option Addr) (c0 : Nat) (f0 : List Int) (f1 : Int) (hB : Below w0.heap.size w0 W) (hr0 : Kd.C (Kd.int .u8) w0 A0 f0.length f0) : IsS72 w0 (W.alloc (.cells #[.slice A0 f0.length c0,.int .i64 f1] 72)) W.heap.size f0 f1:=⟨A0,c0,by simpa using heap_alloc_new W _,hB.size,hr0⟩

/-! ### spec_l21Rd_pick: function 53 -/
def spec_l21Rd_pick.j0 : Nat → Int → Bool → List Int → Int → Option (Int × Int)
 | 0,_,_,_,_ => none
 | k + 1,x1,x24,x1000,x1001 => if x24 = true then (some (0,x1001)) else (if (wrap64 (x1001 - 1)) < (x1000.length : Int) then (if 0 ≤ (wrap64 (x1001 - 1)) then (if x1 = 0 then (none) else (some (Int.tmod (wrap64 (rd x1000 (wrap64 (x1001 - 1)))) x1,x1001))) else (none)) else (if (x1000.length : Int) = 0 then (none) else (if 0 ≤ (Int.tmod (wrap64 (x1001 - 1)) (x1000.length : Int)) then (if (Int.tmod (wrap64 (x1001 - 1)) (x1000.length : Int)) < (x1000.length : Int) then (if 0 ≤ (Int.tmod (wrap64 ((wrap64 ((wrap64 (x1001 - 1)) * 7)) + 3)) (x1000.length : Int)) then (if (Int.tmod (wrap64 ((wrap64 ((wrap64 (x1001 - 1)) * 7)) + 3)) (x1000.length : Int)) < (x1000.length : Int) then (if x1 = 0 then (none) else (some (Int.tmod (Go.bits .xor .i64 (wrap64 ((wrap64 ((wrap64 ((wrap64 ((wrap64 (rd x1000 (Int.tmod (wrap64 (x1001 - 1)) (x1000.length : Int)))) * 131)) + (wrap64 ((wrap64 (rd x1000 (Int.tmod (wrap64 ((wrap64 ((wrap64 (x1001 - 1)) * 7)) + 3)) (x1000.length : Int)))) * 1117)))) + (wrap64 ((wrap64 (x1001 - 1)) * 29)))) + (wrap64 ((wrap64 (Int.tdiv (wrap64 (x1001 - 1)) (x1000.length : Int))) * 53)))) (wrap64 (Int.tdiv (wrap64 ((wrap64 ((wrap64 ((wrap64 ((wrap64 (rd x1000 (Int.tmod (wrap64 (x1001 - 1)) (x1000.length : Int)))) * 131)) + (wrap64 ((wrap64 (rd x1000 (Int.tmod (wrap64 ((wrap64 ((wrap64 (x1001 - 1)) * 7)) + 3)) (x1000.length : Int)))) * 1117)))) + (wrap64 ((wrap64 (x1001 - 1)) * 29)))) + (wrap64 ((wrap64 (Int.tdiv (wrap64 (x1001 - 1)) (x1000.length : Int))) * 53)))) 64))) x1,x1001))) else (none)) else (none)) else (none)) else (none))))
def spec_l21Rd_pick.f (k : Nat) (s0_0 : List Int) (s0_1 : Int) (a1 : Int) : Option (Int × Int):=if a1 < 1 then (spec_l21Rd_pick.j0 k a1 true s0_0 (wrap64 (s0_1 + 1))) else (spec_l21Rd_pick.j0 k a1 ((s0_0.length : Int) == 0) s0_0 (wrap64 (s0_1 + 1)))
theorem spec_l21Rd_pick.mono_l : ∀ k,(∀ y0 y1 y2 y3,LeO (spec_l21Rd_pick.j0 k y0 y1 y2 y3) (spec_l21Rd_pick.j0 (k + 1) y0 y1 y2 y3))
 | 0 => fun _ _ _ _ r h => by simp [spec_l21Rd_pick.j0] at h
 | k + 1 => by
  have ih0:=spec_l21Rd_pick.mono_l k
  ·intro y0 y1 y2 y3
   unfold spec_l21Rd_pick.j0
   repeat' first
   | (with_reducible exact ih0 _ _ _ _)
   | (with_reducible exact LeO.refl _)
   | (with_reducible exact LeO.none _)
   | (with_reducible refine LeO.ite ?_ ?_)
   | (with_reducible refine LeO.bind ?_ (fun _ => ?_))
   | exact ih0 _ _ _ _
   | exact LeO.none _
   | refine LeO.ite ?_ ?_
   | refine LeO.bind ?_ (fun _ => ?_)
theorem spec_l21Rd_pick.mono : ∀ a0 a1 a2 k,LeO (spec_l21Rd_pick.f k a0 a1 a2) (spec_l21Rd_pick.f (k + 1) a0 a1 a2):=by
 intro a0 a1 a2 k
 have ih0:=spec_l21Rd_pick.mono_l k
 unfold spec_l21Rd_pick.f
 repeat' first
   | (with_reducible exact ih0 _ _ _ _)
   | (with_reducible exact LeO.refl _)
   | (with_reducible exact LeO.none _)
   | (with_reducible refine LeO.ite ?_ ?_)
   | (with_reducible refine LeO.bind ?_ (fun _ => ?_))
   | exact ih0 _ _ _ _
   | exact LeO.none _
   | refine LeO.ite ?_ ?_
   | refine LeO.bind ?_ (fun _ => ?_)
set_option maxHeartbeats 8000000 in
set_option maxRecDepth 100000 in
theorem spec_l21Rd_pick.calls (k : Nat) (g : Nat) (s0_0 : List Int) (s0_1 : Int) (a1 : Int) (r1 : Int) (r2 : Int) (w0 w : World) (hI : IsS72 w0 w g s0_0 s0_1) (hB : Below w0.heap.size w0 w) (h : spec_l21Rd_pick.f k s0_0 s0_1 a1 = some (r1,r2)) :
  Calls Try.prog 53 #[.pointer (some ⟨g,0,none⟩),.int .i64 a1] w fun e w' => e = .returned (.int .i64 r1) ∧ IsS72 w0 w' g s0_0 r2 ∧ Below w0.heap.size w0 w' ∧ KeepBut w w' g none:=by
 have HI0:=mk_ hI
 have HK:=mk_ (KeepBut.refl w g none)
 have HL:=mk_ hB.size
 clear hI
 have HW0:=mk_ hB.size
 have HB:=mk_ hB
 clear hB
 have H : (if a1 < 1 then (spec_l21Rd_pick.j0 k a1 true s0_0 (wrap64 (s0_1 + 1))) else (spec_l21Rd_pick.j0 k a1 ((s0_0.length : Int) == 0) s0_0 (wrap64 (s0_1 + 1)))) = some (r1,r2):=h
 clear h
 have HC3:=mk_ H
 clear H
 obtain ⟨ASz4_0,cSz4_0,HGz4,hgz4,HSz4_0⟩:=HI0.out
 have hcz4_0:=cellS72_0 HGz4
 have hcz4_1:=cellS72_1 HGz4
 have hfz4_1:=bf_ HGz4 1
 clear HGz4 hgz4
 go_enter Try.func53,Try.ntmps53
 go_upto_region 2 with (fail)
 repeat (go_quiet (fail);go_upto_region 2 with (fail))
 go_cut [24] (fun v24 wc => ∃ (kq : Nat) (x24_2 : Bool),v24 = .bool x24_2 ∧ Aside0 (spec_l21Rd_pick.j0 kq a1 x24_2 s0_0 (wrap64 (s0_1 + 1)) = some (r1,r2)) ∧ Aside0 (kq ≤ k) ∧ Aside0 (IsS72 w0 wc g s0_0 (wrap64 (s0_1 + 1))) ∧ Aside0 (KeepBut w wc g none) ∧ Aside0 (Below w0.heap.size w0 wc))
 case first =>
  have H:=HC3.out
  clear HC3
  by_cases c5 : a1 < 1
  ·rw [if_pos c5] at H
   have c5b0 : decide (a1 < 1) = true:=decide_eq_true c5
   clear c5
   (first|rw [c5b0]|(simp only [i64_w,i32_w];rw [c5b0])|skip)
   have H':=mk_ H
   clear H
   go_wp2
   repeat (go_quiet (fail);try go_wp2)
   go_meet
   case rel => exact ⟨_,(true),qf_,H',⟨by first|omega|exact Nat.le_refl _⟩,⟨u0_ HI0⟩,⟨u1_ HK⟩,⟨u2_ HB HI0⟩⟩
  ·rw [if_neg c5] at H
   have c5b0 : decide (a1 < 1) = false:=decide_eq_false c5
   clear c5
   (first|rw [c5b0]|(simp only [i64_w,i32_w];rw [c5b0])|skip)
   have H':=mk_ H
   clear H
   obtain ⟨ASz6_0,cSz6_0,HGz6,hgz6,HSz6_0⟩:=HI0.out
   have hcz6_0:=cellS72_0 HGz6
   have hcz6_1:=cellS72_1 HGz6
   have hfz6_1:=bf_ HGz6 1
   clear HGz6 hgz6
   go_wp2
   repeat (go_quiet (fail);try go_wp2)
   go_meet
   case rel => exact ⟨_,(((s0_0.length : Int) == 0)),qf_,H',⟨by first|omega|exact Nat.le_refl _⟩,⟨u0_ HI0⟩,⟨u1_ HK⟩,⟨u2_ HB HI0⟩⟩
 case rest =>
  clear HC3
  try clear p2
  try clear c5
  try clear c5b0
  try clear p6
  try clear hcz4_0
  try clear hcz4_1
  try clear hcz6_0
  try clear hcz6_1
  try clear hfz4_1
  try clear hfz6_1
  obtain ⟨kq,x24_2,rfl,HA,HJ2,HI0,HK,HB⟩:=hcut
  cases kq with
  | zero => exact absurd HA.out (by simp [spec_l21Rd_pick.j0])
  | succ kj2 =>
   have H:=HA.out
   clear HA
   simp only [spec_l21Rd_pick.j0] at H
   by_cases c7 : x24_2 = true
   ·subst c7
    have H1 : (some (0,(wrap64 (s0_1 + 1)))) = some (r1,r2):=by rw [if_pos rfl] at H;exact H
    clear H
    have H:=H1
    clear H1
    simp only [Option.some.injEq,Prod.mk.injEq] at H
    obtain ⟨rfl,rfl⟩:=H
    go_wp2
    repeat (go_quiet (fail);try go_wp2)
    go_ret
    exact ⟨qe_,u0_ HI0,u2_ HB HI0,u1_ HK⟩
   ·replace c7:=Bool.eq_false_iff.mpr c7
    subst c7
    have H1 : (if (wrap64 ((wrap64 (s0_1 + 1)) - 1)) < (s0_0.length : Int) then (if 0 ≤ (wrap64 ((wrap64 (s0_1 + 1)) - 1)) then (if a1 = 0 then (none) else (some (Int.tmod (wrap64 (rd s0_0 (wrap64 ((wrap64 (s0_1 + 1)) - 1)))) a1,(wrap64 (s0_1 + 1))))) else (none)) else (if (s0_0.length : Int) = 0 then (none) else (if 0 ≤ (Int.tmod (wrap64 ((wrap64 (s0_1 + 1)) - 1)) (s0_0.length : Int)) then (if (Int.tmod (wrap64 ((wrap64 (s0_1 + 1)) - 1)) (s0_0.length : Int)) < (s0_0.length : Int) then (if 0 ≤ (Int.tmod (wrap64 ((wrap64 ((wrap64 ((wrap64 (s0_1 + 1)) - 1)) * 7)) + 3)) (s0_0.length : Int)) then (if (Int.tmod (wrap64 ((wrap64 ((wrap64 ((wrap64 (s0_1 + 1)) - 1)) * 7)) + 3)) (s0_0.length : Int)) < (s0_0.length : Int) then (if a1 = 0 then (none) else (some (Int.tmod (Go.bits .xor .i64 (wrap64 ((wrap64 ((wrap64 ((wrap64 ((wrap64 (rd s0_0 (Int.tmod (wrap64 ((wrap64 (s0_1 + 1)) - 1)) (s0_0.length : Int)))) * 131)) + (wrap64 ((wrap64 (rd s0_0 (Int.tmod (wrap64 ((wrap64 ((wrap64 ((wrap64 (s0_1 + 1)) - 1)) * 7)) + 3)) (s0_0.length : Int)))) * 1117)))) + (wrap64 ((wrap64 ((wrap64 (s0_1 + 1)) - 1)) * 29)))) + (wrap64 ((wrap64 (Int.tdiv (wrap64 ((wrap64 (s0_1 + 1)) - 1)) (s0_0.length : Int))) * 53)))) (wrap64 (Int.tdiv (wrap64 ((wrap64 ((wrap64 ((wrap64 ((wrap64 (rd s0_0 (Int.tmod (wrap64 ((wrap64 (s0_1 + 1)) - 1)) (s0_0.length : Int)))) * 131)) + (wrap64 ((wrap64 (rd s0_0 (Int.tmod (wrap64 ((wrap64 ((wrap64 ((wrap64 (s0_1 + 1)) - 1)) * 7)) + 3)) (s0_0.length : Int)))) * 1117)))) + (wrap64 ((wrap64 ((wrap64 (s0_1 + 1)) - 1)) * 29)))) + (wrap64 ((wrap64 (Int.tdiv (wrap64 ((wrap64 (s0_1 + 1)) - 1)) (s0_0.length : Int))) * 53)))) 64))) a1,(wrap64 (s0_1 + 1))))) else (none)) else (none)) else (none)) else (none)))) = some (r1,r2):=by rw [if_neg (show ¬ (false = true) by decide)] at H;exact H
    clear H
    have H:=H1
    clear H1
    by_cases c8 : (wrap64 ((wrap64 (s0_1 + 1)) - 1)) < (s0_0.length : Int)
    ·rw [if_pos c8] at H
     have c8b0 : decide ((wrap64 ((wrap64 (s0_1 + 1)) - 1)) < (s0_0.length : Int)) = true:=decide_eq_true c8
     clear c8
     obtain ⟨ji9,hji9⟩ : ∃ j_ : Int,(wrap64 ((wrap64 (s0_1 + 1)) - 1)) = j_:=⟨_,rfl⟩
     replace H : (if 0 ≤ (ji9) then (if a1 = 0 then (none) else (some (Int.tmod (wrap64 (rd s0_0 (ji9))) a1,(wrap64 (s0_1 + 1))))) else (none)) = some (r1,r2):=by first|(rw [hji9] at H;exact H)|(simp only [hji9] at H ⊢;exact H)
     (try rw [hji9] at c8b0)
     have hji9w : (IntKind.i64.wrap ((wrap64 (s0_1 + 1)) - 1)) = ji9:=(i64_w _).trans hji9
     by_cases c10 : 0 ≤ (ji9)
     ·rw [if_pos c10] at H
      have c10b0 : decide (0 ≤ (ji9)) = true:=decide_eq_true c10
      clear c10
      by_cases c11 : a1 = 0
      ·rw [if_pos c11] at H
       exact absurd H (by simp)
      ·rw [if_neg c11] at H
       have c11b0 : (a1 == 0) = false:=beq_eq_false_iff_ne.mpr c11
       have c11b1 : (a1 != 0) = true:=bne_iff_ne.mpr c11
       simp only [Option.some.injEq,Prod.mk.injEq] at H
       obtain ⟨rfl,rfl⟩:=H
       obtain ⟨ASz12_0,cSz12_0,HGz12,hgz12,HSz12_0⟩:=HI0.out
       have hcz12_0:=cellS72_0 HGz12
       have hcz12_1:=cellS72_1 HGz12
       have hfz12_1:=bf_ HGz12 1
       clear HGz12 hgz12
       have p101 : 0 ≤ ((ji9) : Int):=od_ qa_
       have q101 : (ji9) < (s0_0.length : Int):=od_ qa_
       obtain ⟨ad101,e101,hx101_0⟩:=Kd.at_int HSz12_0 (ji9) p101 q101
       cases e101
       replace hx101_0:=pw_cell_below HB.out hx101_0
       replace p101:=eq_true p101
       replace q101:=eq_true q101
       go_wp2
       repeat (go_quiet (fail);try go_wp2)
       go_ret
       exact ⟨by first|rfl|(simp [errW_none,errW_some] <;> rfl)|(simp only [← hji9];first|rfl|(simp [errW_none,errW_some] <;> rfl))|(simp [*,errW_none,errW_some] <;> rfl),u0_ HI0,u2_ HB HI0,u1_ HK⟩
     ·rw [if_neg c10] at H
      exact absurd H (by simp)
    ·rw [if_neg c8] at H
     have c8b0 : decide ((wrap64 ((wrap64 (s0_1 + 1)) - 1)) < (s0_0.length : Int)) = false:=decide_eq_false c8
     clear c8
     by_cases c13 : (s0_0.length : Int) = 0
     ·rw [if_pos c13] at H
      exact absurd H (by simp)
     ·rw [if_neg c13] at H
      have c13b0 : ((s0_0.length : Int) == 0) = false:=beq_eq_false_iff_ne.mpr c13
      have c13b1 : ((s0_0.length : Int) != 0) = true:=bne_iff_ne.mpr c13
      have c13b2 : ¬ (s0_0 = []):=fun h_ => c13 (by rw [h_];rfl)
      obtain ⟨ji14,hji14⟩ : ∃ j_ : Int,(Int.tmod (wrap64 ((wrap64 (s0_1 + 1)) - 1)) (s0_0.length : Int)) = j_:=⟨_,rfl⟩
      replace H : (if 0 ≤ (ji14) then (if (ji14) < (s0_0.length : Int) then (if 0 ≤ (Int.tmod (wrap64 ((wrap64 ((wrap64 ((wrap64 (s0_1 + 1)) - 1)) * 7)) + 3)) (s0_0.length : Int)) then (if (Int.tmod (wrap64 ((wrap64 ((wrap64 ((wrap64 (s0_1 + 1)) - 1)) * 7)) + 3)) (s0_0.length : Int)) < (s0_0.length : Int) then (if a1 = 0 then (none) else (some (Int.tmod (Go.bits .xor .i64 (wrap64 ((wrap64 ((wrap64 ((wrap64 ((wrap64 (rd s0_0 (ji14))) * 131)) + (wrap64 ((wrap64 (rd s0_0 (Int.tmod (wrap64 ((wrap64 ((wrap64 ((wrap64 (s0_1 + 1)) - 1)) * 7)) + 3)) (s0_0.length : Int)))) * 1117)))) + (wrap64 ((wrap64 ((wrap64 (s0_1 + 1)) - 1)) * 29)))) + (wrap64 ((wrap64 (Int.tdiv (wrap64 ((wrap64 (s0_1 + 1)) - 1)) (s0_0.length : Int))) * 53)))) (wrap64 (Int.tdiv (wrap64 ((wrap64 ((wrap64 ((wrap64 ((wrap64 (rd s0_0 (ji14))) * 131)) + (wrap64 ((wrap64 (rd s0_0 (Int.tmod (wrap64 ((wrap64 ((wrap64 ((wrap64 (s0_1 + 1)) - 1)) * 7)) + 3)) (s0_0.length : Int)))) * 1117)))) + (wrap64 ((wrap64 ((wrap64 (s0_1 + 1)) - 1)) * 29)))) + (wrap64 ((wrap64 (Int.tdiv (wrap64 ((wrap64 (s0_1 + 1)) - 1)) (s0_0.length : Int))) * 53)))) 64))) a1,(wrap64 (s0_1 + 1))))) else (none)) else (none)) else (none)) else (none)) = some (r1,r2):=by first|(rw [hji14] at H;exact H)|(simp only [hji14] at H ⊢;exact H)
      by_cases c15 : 0 ≤ (ji14)
      ·rw [if_pos c15] at H
       have c15b0 : decide (0 ≤ (ji14)) = true:=decide_eq_true c15
       clear c15
       by_cases c16 : (ji14) < (s0_0.length : Int)
       ·rw [if_pos c16] at H
        have c16b0 : decide ((ji14) < (s0_0.length : Int)) = true:=decide_eq_true c16
        clear c16
        obtain ⟨ji17,hji17⟩ : ∃ j_ : Int,(Int.tmod (wrap64 ((wrap64 ((wrap64 ((wrap64 (s0_1 + 1)) - 1)) * 7)) + 3)) (s0_0.length : Int)) = j_:=⟨_,rfl⟩
        replace H : (if 0 ≤ (ji17) then (if (ji17) < (s0_0.length : Int) then (if a1 = 0 then (none) else (some (Int.tmod (Go.bits .xor .i64 (wrap64 ((wrap64 ((wrap64 ((wrap64 ((wrap64 (rd s0_0 (ji14))) * 131)) + (wrap64 ((wrap64 (rd s0_0 (ji17))) * 1117)))) + (wrap64 ((wrap64 ((wrap64 (s0_1 + 1)) - 1)) * 29)))) + (wrap64 ((wrap64 (Int.tdiv (wrap64 ((wrap64 (s0_1 + 1)) - 1)) (s0_0.length : Int))) * 53)))) (wrap64 (Int.tdiv (wrap64 ((wrap64 ((wrap64 ((wrap64 ((wrap64 (rd s0_0 (ji14))) * 131)) + (wrap64 ((wrap64 (rd s0_0 (ji17))) * 1117)))) + (wrap64 ((wrap64 ((wrap64 (s0_1 + 1)) - 1)) * 29)))) + (wrap64 ((wrap64 (Int.tdiv (wrap64 ((wrap64 (s0_1 + 1)) - 1)) (s0_0.length : Int))) * 53)))) 64))) a1,(wrap64 (s0_1 + 1))))) else (none)) else (none)) = some (r1,r2):=by first|(rw [hji17] at H;exact H)|(simp only [hji17] at H ⊢;exact H)
        by_cases c18 : 0 ≤ (ji17)
        ·rw [if_pos c18] at H
         have c18b0 : decide (0 ≤ (ji17)) = true:=decide_eq_true c18
         clear c18
         by_cases c19 : (ji17) < (s0_0.length : Int)
         ·rw [if_pos c19] at H
          have c19b0 : decide ((ji17) < (s0_0.length : Int)) = true:=decide_eq_true c19
          clear c19
          by_cases c20 : a1 = 0
          ·rw [if_pos c20] at H
           exact absurd H (by simp)
          ·rw [if_neg c20] at H
           have c20b0 : (a1 == 0) = false:=beq_eq_false_iff_ne.mpr c20
           have c20b1 : (a1 != 0) = true:=bne_iff_ne.mpr c20
           simp only [Option.some.injEq,Prod.mk.injEq] at H
           obtain ⟨rfl,rfl⟩:=H
           obtain ⟨ASz21_0,cSz21_0,HGz21,hgz21,HSz21_0⟩:=HI0.out
           have hcz21_0:=cellS72_0 HGz21
           have hcz21_1:=cellS72_1 HGz21
           have hfz21_1:=bf_ HGz21 1
           clear HGz21 hgz21
           have p102 : 0 ≤ ((ji14) : Int):=od_ qa_
           have q102 : (ji14) < (s0_0.length : Int):=od_ qa_
           obtain ⟨ad102,e102,hx102_0⟩:=Kd.at_int HSz21_0 (ji14) p102 q102
           cases e102
           replace hx102_0:=pw_cell_below HB.out hx102_0
           replace p102:=eq_true p102
           replace q102:=eq_true q102
           have p103 : 0 ≤ ((ji17) : Int):=od_ qa_
           have q103 : (ji17) < (s0_0.length : Int):=od_ qa_
           obtain ⟨ad103,e103,hx103_0⟩:=Kd.at_int HSz21_0 (ji17) p103 q103
           obtain rfl : ad102 = ad103:=(by injection e103)
           replace hx103_0:=pw_cell_below HB.out hx103_0
           replace p103:=eq_true p103
           replace q103:=eq_true q103
           go_wp2
           repeat (go_quiet (fail);try go_wp2)
           go_ret
           exact ⟨by first|rfl|(simp [errW_none,errW_some] <;> rfl)|(simp only [← hji14,← hji17];first|rfl|(simp [errW_none,errW_some] <;> rfl))|(simp [*,errW_none,errW_some] <;> rfl),u0_ HI0,u2_ HB HI0,u1_ HK⟩
         ·rw [if_neg c19] at H
          exact absurd H (by simp)
        ·rw [if_neg c18] at H
         exact absurd H (by simp)
       ·rw [if_neg c16] at H
        exact absurd H (by simp)
      ·rw [if_neg c15] at H
       exact absurd H (by simp)

/-! ### spec_l21Rd_num: function 52 -/
def spec_l21Rd_num.f (k : Nat) (s0_0 : List Int) (s0_1 : Int) (l1 : List Int) : Option (Int × Int):=(spec_l21Rd_pick.f k s0_0 s0_1 (l1.length : Int)).bind fun bt104 => (if 0 ≤ bt104.1 then (if bt104.1 < (l1.length : Int) then (some (rd l1 bt104.1,bt104.2)) else (none)) else (none))
theorem spec_l21Rd_num.mono : ∀ a0 a1 a2 k,LeO (spec_l21Rd_num.f k a0 a1 a2) (spec_l21Rd_num.f (k + 1) a0 a1 a2):=by
 intro a0 a1 a2 k
 unfold spec_l21Rd_num.f
 repeat' first
   | (with_reducible exact spec_l21Rd_pick.mono _ _ _ _)
   | (with_reducible exact LeO.refl _)
   | (with_reducible exact LeO.none _)
   | (with_reducible refine LeO.ite ?_ ?_)
   | (with_reducible refine LeO.bind ?_ (fun _ => ?_))
   | exact spec_l21Rd_pick.mono _ _ _ _
   | exact LeO.none _
   | refine LeO.ite ?_ ?_
   | refine LeO.bind ?_ (fun _ => ?_)
set_option maxHeartbeats 8000000 in
set_option maxRecDepth 100000 in
theorem spec_l21Rd_num.calls (k : Nat) (g : Nat) (s0_0 : List Int) (s0_1 : Int) (A1 : Option Addr) (c1 : Nat) (l1 : List Int) (r1 : Int) (r2 : Int) (w0 w : World) (hI : IsS72 w0 w g s0_0 s0_1) (hB : Below w0.heap.size w0 w) (hr1 : Kd.C (Kd.int .i64) w A1 l1.length l1) (hc1 : l1.length ≤ c1) (hf1 : ∀ ad,A1 = some ad → 0 < l1.length → ad.block ≠ g) (h : spec_l21Rd_num.f k s0_0 s0_1 l1 = some (r1,r2)) :
  Calls Try.prog 52 #[.pointer (some ⟨g,0,none⟩),.slice A1 l1.length c1] w fun e w' => e = .returned (.int .i64 r1) ∧ IsS72 w0 w' g s0_0 r2 ∧ Below w0.heap.size w0 w' ∧ KeepBut w w' g none:=by
 have HR1:=mk_ hr1
 have HC1:=mk_ hc1
 clear hr1 hc1
 have HI0:=mk_ hI
 have HK:=mk_ (KeepBut.refl w g none)
 have HL:=mk_ hB.size
 clear hI
 have HW0:=mk_ hB.size
 have HB:=mk_ hB
 clear hB
 have H : ((spec_l21Rd_pick.f k s0_0 s0_1 (l1.length : Int)).bind fun bt104 => (if 0 ≤ bt104.1 then (if bt104.1 < (l1.length : Int) then (some (rd l1 bt104.1,bt104.2)) else (none)) else (none))) = some (r1,r2):=h
 clear h
 replace H:=Option.bind_eq_some_iff.mp H
 obtain ⟨⟨t104,t105⟩,A30,H⟩:=H
 replace H : (if 0 ≤ t104 then (if t104 < (l1.length : Int) then (some (rd l1 t104,t105)) else (none)) else (none)) = some (r1,r2):=H
 have A3:=mk_ A30
 clear A30
 by_cases c4 : 0 ≤ t104
 ·rw [if_pos c4] at H
  have c4b0 : decide (0 ≤ t104) = true:=decide_eq_true c4
  clear c4
  by_cases c5 : t104 < (l1.length : Int)
  ·rw [if_pos c5] at H
   have c5b0 : decide (t104 < (l1.length : Int)) = true:=decide_eq_true c5
   clear c5
   simp only [Option.some.injEq,Prod.mk.injEq] at H
   obtain ⟨rfl,rfl⟩:=H
   go_enter Try.func52,Try.ntmps52
   go_wp2_with (first|((with_reducible refine gate_callee (f:=53) rfl ?_);refine goesL_ (some 9) rfl rfl Try.func53 (by kernel_rfl) rfl #[.pointer (some ⟨g,0,none⟩),.int .i64 (l1.length : Int)] rfl qm_ ?_;(with_reducible refine (spec_l21Rd_pick.calls k g s0_0 s0_1 (l1.length : Int) t104 t105 w0 _ ?side1 ?side2 A3.out).mono ?_);(case side1 => exact u0_ HI0);(case side2 => exact u2_ HB HI0);rintro e w6 ⟨rfl,hi,hb,hk⟩;refine ⟨_,rfl,?_⟩;have n0_:=mk_ (KeepBut.trans (u1_ HK) hk (.inl rfl));have n1_:=mk_ (hb);have n2_:=mk_ (hi);clear HK HB HI0;have HK:=n0_;have HB:=n1_;have HI0:=n2_;clear n0_ n1_ n2_;(try clear hb);(try clear hb2);(try clear hk);(try clear hi);have p106 : 0 ≤ (t104 : Int):=od_ qa_;have q106 : t104 < (l1.length : Int):=od_ qa_;obtain ⟨ad106,e106,hx106_0⟩:=Kd.at_int HR1.out t104 p106 q106;cases e106;replace hx106_0:=keep_cell HK.out hx106_0 (by first|(rw [add_block];exact hf1 _ rfl (by omega))|exact hf1 _ rfl (by omega)|exact hf1 ad106 rfl (by omega));replace p106:=eq_true p106;replace q106:=eq_true q106))
   go_ret
   exact ⟨qe_,u0_ HI0,u2_ HB HI0,u1_ HK⟩
  ·rw [if_neg c5] at H
   exact absurd H (by simp)
 ·rw [if_neg c4] at H
  exact absurd H (by simp)

/-! ### spec_l14Draw: function 48 -/
def spec_l14Draw.l0 : Nat → Int → Int → List (S35) → Int → Int → List Int → Int → Option (Int × Int × (List (S35)) × Int)
 | 0,_,_,_,_,_,_,_ => none
 | k + 1,x5,x6,x7,x8,x9,x1000,x1001 => if x9 > 0 then ((spec_l21Rd_num.f k x1000 x1001 (([5,10,50] : List Int))).bind fun bt130 => ((spec_l21Rd_pick.f k x1000 bt130.2 bt130.1).bind fun bt132 => (if x7.length < 8796093022208 then ((spec_l21Rd_num.f k x1000 bt132.2 (([0,1,2,0,7,30] : List Int))).bind fun bt140 => (spec_l14Draw.l0 k x5 x6 (x7 ++ [(⟨x8,wrap64 (1 + bt132.1)⟩ : S35)]) (wrap64 (x8 + bt140.1)) (wrap64 (x9 - 1)) x1000 bt140.2)) else (none)))) else ((spec_l21Rd_pick.f k x1000 x1001 75).bind fun bt142 => (if bt142.1 = 0 then ((spec_l21Rd_num.f k x1000 bt142.2 (([0,21] : List Int))).bind fun bt147 => (some (bt147.1,x6,x7,bt147.2))) else (if bt142.1 = 1 then ((spec_l21Rd_num.f k x1000 bt142.2 (([0,101] : List Int))).bind fun bt152 => (some (x5,bt152.1,x7,bt152.2))) else (if bt142.1 = 2 then (if x7.length < 8796093022208 then (some (x5,x6,(x7 ++ [(⟨0,1⟩ : S35)]),bt142.2)) else (none)) else (if bt142.1 = 3 then ((spec_l21Rd_num.f k x1000 bt142.2 (([0,51] : List Int))).bind fun bt160 => (if x7.length < 8796093022208 then (some (x5,x6,(x7 ++ [(⟨x8,bt160.1⟩ : S35)]),bt160.2)) else (none))) else (if bt142.1 = 4 then (if x7.length < 8796093022208 then (some (x5,x6,(x7 ++ [(⟨2001,1⟩ : S35)]),bt142.2)) else (none)) else (some (x5,x6,x7,bt142.2))))))))
def spec_l14Draw.f (k : Nat) (s0_0 : List Int) (s0_1 : Int) : Option (Int × Int × (List (S35)) × Int):=(spec_l21Rd_num.f k s0_0 s0_1 (([1,2,5,20,3] : List Int))).bind fun bt110 => ((spec_l21Rd_num.f k s0_0 bt110.2 (([10,5,50,100,1,20] : List Int))).bind fun bt115 => ((spec_l21Rd_pick.f k s0_0 bt115.2 5).bind fun bt120 => ((spec_l21Rd_num.f k s0_0 bt120.2 (([5,9,2,0,20] : List Int))).bind fun bt125 => (spec_l14Draw.l0 k bt110.1 bt115.1 (([] : List (S35))) bt120.1 bt125.1 s0_0 bt125.2))))
theorem spec_l14Draw.mono_l : ∀ k,(∀ y0 y1 y2 y3 y4 y5 y6,LeO (spec_l14Draw.l0 k y0 y1 y2 y3 y4 y5 y6) (spec_l14Draw.l0 (k + 1) y0 y1 y2 y3 y4 y5 y6))
 | 0 => fun _ _ _ _ _ _ _ r h => by simp [spec_l14Draw.l0] at h
 | k + 1 => by
  have ih0:=spec_l14Draw.mono_l k
  ·intro y0 y1 y2 y3 y4 y5 y6
   unfold spec_l14Draw.l0
   repeat' first
   | (with_reducible exact ih0 _ _ _ _ _ _ _)
   | (with_reducible exact spec_l21Rd_num.mono _ _ _ _)
   | (with_reducible exact spec_l21Rd_pick.mono _ _ _ _)
   | (with_reducible exact LeO.refl _)
   | (with_reducible exact LeO.none _)
   | (with_reducible refine LeO.ite ?_ ?_)
   | (with_reducible refine LeO.bind ?_ (fun _ => ?_))
   | exact ih0 _ _ _ _ _ _ _
   | exact spec_l21Rd_num.mono _ _ _ _
   | exact spec_l21Rd_pick.mono _ _ _ _
   | exact LeO.none _
   | refine LeO.ite ?_ ?_
   | refine LeO.bind ?_ (fun _ => ?_)
theorem spec_l14Draw.mono : ∀ a0 a1 k,LeO (spec_l14Draw.f k a0 a1) (spec_l14Draw.f (k + 1) a0 a1):=by
 intro a0 a1 k
 have ih0:=spec_l14Draw.mono_l k
 unfold spec_l14Draw.f
 repeat' first
   | (with_reducible exact ih0 _ _ _ _ _ _ _)
   | (with_reducible exact spec_l21Rd_num.mono _ _ _ _)
   | (with_reducible exact spec_l21Rd_pick.mono _ _ _ _)
   | (with_reducible exact LeO.refl _)
   | (with_reducible exact LeO.none _)
   | (with_reducible refine LeO.ite ?_ ?_)
   | (with_reducible refine LeO.bind ?_ (fun _ => ?_))
   | exact ih0 _ _ _ _ _ _ _
   | exact spec_l21Rd_num.mono _ _ _ _
   | exact spec_l21Rd_pick.mono _ _ _ _
   | exact LeO.none _
   | refine LeO.ite ?_ ?_
   | refine LeO.bind ?_ (fun _ => ?_)
set_option maxHeartbeats 8000000 in
set_option maxRecDepth 100000 in
theorem spec_l14Draw.calls (k : Nat) (g : Nat) (s0_0 : List Int) (s0_1 : Int) (r1 : Int) (r2 : Int) (r3 : List (S35)) (r4 : Int) (w0 w : World) (hI : IsS72 w0 w g s0_0 s0_1) (hB : Below w0.heap.size w0 w) (h : spec_l14Draw.f k s0_0 s0_1 = some (r1,r2,r3,r4)) :
  Calls Try.prog 48 #[.pointer (some ⟨g,0,none⟩)] w fun e w' => ∃ v2_ : Value,e = .returned (.tuple #[.int .i64 r1,.int .i64 r2,v2_]) ∧ Kd.R k35 35 w' w.heap.size (fun _ => True) v2_ r3 ∧ IsS72 w0 w' g s0_0 r4 ∧ Below w0.heap.size w0 w' ∧ KeepBut w w' g none:=by
 have hu35:=Try.underlying35
 have HI0:=mk_ hI
 have HK:=mk_ (KeepBut.refl w g none)
 have HL:=mk_ hB.size
 clear hI
 have HW0:=mk_ hB.size
 have HB:=mk_ hB
 clear hB
 have H : ((spec_l21Rd_num.f k s0_0 s0_1 (([1,2,5,20,3] : List Int))).bind fun bt110 => ((spec_l21Rd_num.f k s0_0 bt110.2 (([10,5,50,100,1,20] : List Int))).bind fun bt115 => ((spec_l21Rd_pick.f k s0_0 bt115.2 5).bind fun bt120 => ((spec_l21Rd_num.f k s0_0 bt120.2 (([5,9,2,0,20] : List Int))).bind fun bt125 => (spec_l14Draw.l0 k bt110.1 bt115.1 (([] : List (S35))) bt120.1 bt125.1 s0_0 bt125.2))))) = some (r1,r2,r3,r4):=h
 clear h
 obtain ⟨y107,hy107⟩ : ∃ y_ : List Int,y_ = (([1,2,5,20,3] : List Int)):=⟨_,rfl⟩
 replace H : ((spec_l21Rd_num.f k s0_0 s0_1 y107).bind fun bt110 => ((spec_l21Rd_num.f k s0_0 bt110.2 (([10,5,50,100,1,20] : List Int))).bind fun bt115 => ((spec_l21Rd_pick.f k s0_0 bt115.2 5).bind fun bt120 => ((spec_l21Rd_num.f k s0_0 bt120.2 (([5,9,2,0,20] : List Int))).bind fun bt125 => (spec_l14Draw.l0 k bt110.1 bt115.1 (([] : List (S35))) bt120.1 bt125.1 s0_0 bt125.2))))) = some (r1,r2,r3,r4):=by first|(rw [hy107];with_reducible exact H)|(have H2_:=(Option.bind_some _ _).symm.trans H;rw [hy107];with_reducible exact H2_)|(have H2_:=(Option.bind_some _ _).symm.trans H;with_reducible exact H2_)|with_reducible exact H|(rw [hy107];exact H)|exact H
 have Ny107:=mk_ hy107
 clear hy107
 replace H:=Option.bind_eq_some_iff.mp H
 obtain ⟨⟨t110,t111⟩,A20,H⟩:=H
 replace H : ((spec_l21Rd_num.f k s0_0 t111 (([10,5,50,100,1,20] : List Int))).bind fun bt115 => ((spec_l21Rd_pick.f k s0_0 bt115.2 5).bind fun bt120 => ((spec_l21Rd_num.f k s0_0 bt120.2 (([5,9,2,0,20] : List Int))).bind fun bt125 => (spec_l14Draw.l0 k t110 bt115.1 (([] : List (S35))) bt120.1 bt125.1 s0_0 bt125.2)))) = some (r1,r2,r3,r4):=H
 have A2:=mk_ A20
 clear A20
 obtain ⟨y112,hy112⟩ : ∃ y_ : List Int,y_ = (([10,5,50,100,1,20] : List Int)):=⟨_,rfl⟩
 replace H : ((spec_l21Rd_num.f k s0_0 t111 y112).bind fun bt115 => ((spec_l21Rd_pick.f k s0_0 bt115.2 5).bind fun bt120 => ((spec_l21Rd_num.f k s0_0 bt120.2 (([5,9,2,0,20] : List Int))).bind fun bt125 => (spec_l14Draw.l0 k t110 bt115.1 (([] : List (S35))) bt120.1 bt125.1 s0_0 bt125.2)))) = some (r1,r2,r3,r4):=by first|(rw [hy112];with_reducible exact H)|(have H2_:=(Option.bind_some _ _).symm.trans H;rw [hy112];with_reducible exact H2_)|(have H2_:=(Option.bind_some _ _).symm.trans H;with_reducible exact H2_)|with_reducible exact H|(rw [hy112];exact H)|exact H
 have Ny112:=mk_ hy112
 clear hy112
 replace H:=Option.bind_eq_some_iff.mp H
 obtain ⟨⟨t115,t116⟩,A30,H⟩:=H
 replace H : ((spec_l21Rd_pick.f k s0_0 t116 5).bind fun bt120 => ((spec_l21Rd_num.f k s0_0 bt120.2 (([5,9,2,0,20] : List Int))).bind fun bt125 => (spec_l14Draw.l0 k t110 t115 (([] : List (S35))) bt120.1 bt125.1 s0_0 bt125.2))) = some (r1,r2,r3,r4):=H
 have A3:=mk_ A30
 clear A30
 obtain ⟨y117,hy117⟩ : ∃ y_ : List (S35),y_ = (([] : List (S35))):=⟨_,rfl⟩
 replace H : ((spec_l21Rd_pick.f k s0_0 t116 5).bind fun bt120 => ((spec_l21Rd_num.f k s0_0 bt120.2 (([5,9,2,0,20] : List Int))).bind fun bt125 => (spec_l14Draw.l0 k t110 t115 y117 bt120.1 bt125.1 s0_0 bt125.2))) = some (r1,r2,r3,r4):=by first|(rw [hy117];with_reducible exact H)|(have H2_:=(Option.bind_some _ _).symm.trans H;rw [hy117];with_reducible exact H2_)|(have H2_:=(Option.bind_some _ _).symm.trans H;with_reducible exact H2_)|with_reducible exact H|(rw [hy117];exact H)|exact H
 have Ny117:=mk_ hy117
 clear hy117
 replace H:=Option.bind_eq_some_iff.mp H
 obtain ⟨⟨t120,t121⟩,A40,H⟩:=H
 replace H : ((spec_l21Rd_num.f k s0_0 t121 (([5,9,2,0,20] : List Int))).bind fun bt125 => (spec_l14Draw.l0 k t110 t115 y117 t120 bt125.1 s0_0 bt125.2)) = some (r1,r2,r3,r4):=H
 have A4:=mk_ A40
 clear A40
 obtain ⟨y122,hy122⟩ : ∃ y_ : List Int,y_ = (([5,9,2,0,20] : List Int)):=⟨_,rfl⟩
 replace H : ((spec_l21Rd_num.f k s0_0 t121 y122).bind fun bt125 => (spec_l14Draw.l0 k t110 t115 y117 t120 bt125.1 s0_0 bt125.2)) = some (r1,r2,r3,r4):=by first|(rw [hy122];with_reducible exact H)|(have H2_:=(Option.bind_some _ _).symm.trans H;rw [hy122];with_reducible exact H2_)|(have H2_:=(Option.bind_some _ _).symm.trans H;with_reducible exact H2_)|with_reducible exact H|(rw [hy122];exact H)|exact H
 have Ny122:=mk_ hy122
 clear hy122
 replace H:=Option.bind_eq_some_iff.mp H
 obtain ⟨⟨t125,t126⟩,A50,H⟩:=H
 replace H : (spec_l14Draw.l0 k t110 t115 y117 t120 t125 s0_0 t126) = some (r1,r2,r3,r4):=H
 have A5:=mk_ A50
 clear A50
 have H':=mk_ H
 clear H
 go_enter Try.func48,Try.ntmps48
 go_wp2_with (first|((with_reducible refine gate_dst (N:=11) rfl ?_);refine Kd.R_lit (Kd.int .i64) _ 3 ?hg (N:=11) ?hd (xs:=([1,2,5,20,3] : List Int)) (inner:=[.int .i64 1,.int .i64 2,.int .i64 5,.int .i64 20,.int .i64 3]) (ok:=fun _ => True) (okp:=fun _ => True) ?hr ?hp (fun _ hk => hk) trivial (Below.refl _ _) (Nat.le_refl _) (by simp) ?_;(case hd => rfl);(case hg => rfl);(case hr => first|(go_simp;done)|(go_simp;rfl));(case hp => exact (Reps.one (show Kd.M (Kd.int .i64) _ _ _ 1 [.int .i64 1] from rfl) (Reps.one (show Kd.M (Kd.int .i64) _ _ _ 2 [.int .i64 2] from rfl) (Reps.one (show Kd.M (Kd.int .i64) _ _ _ 5 [.int .i64 5] from rfl) (Reps.one (show Kd.M (Kd.int .i64) _ _ _ 20 [.int .i64 20] from rfl) (Reps.one (show Kd.M (Kd.int .i64) _ _ _ 3 [.int .i64 3] from rfl) (Reps.none _ _)))))));intro v108 w6 ho7 hb hg_ hnew_;clear hg_ hnew_;(first|rw [← Ny107.out] at ho7|(simp only [Int.reduceToNat] at ho7;rw [← Ny107.out] at ho7));have n0_:=mk_ (Kd.R_lower ho7 (keep_size (w:=w) (g:=g) (row:=none) (u1_ HK)));have n1_:=mk_ (IsS72.below (u0_ HI0) hb);have n2_:=mk_ (KeepBut.trans (u1_ HK) (KeepBut.of_below hb g none) (.inl rfl));have n3_:=mk_ (st_ (u2_ HB HI0) hb);clear HI0 HK HB;have HO109:=n0_;have HI0:=n1_;have HK:=n2_;have HB:=n3_;clear n0_ n1_ n2_ n3_ hb ho7;obtain ⟨Ao8,co8,eo8⟩:=Kd.R_slice HO109.out;subst eo8)|((with_reducible refine gate_callee (f:=52) rfl ?_);refine goesL_ (some 12) rfl rfl Try.func52 (by kernel_rfl) rfl #[.pointer (some ⟨g,0,none⟩),.slice Ao8 y107.length co8] rfl qm_ ?_;(with_reducible refine (spec_l21Rd_num.calls k g s0_0 s0_1 _ _ y107 t110 t111 w0 _ ?side1 ?side2 ?side3 ?side4 ?side5 A2.out).mono ?_);(case side1 => exact u0_ HI0);(case side2 => exact u2_ HB HI0);(case side3 => repeat (first|exact (rr_ HO109.out).2.2|(with_reducible refine ca_ ?_ _)|(with_reducible refine cn_ ?_ _)|(with_reducible refine cd_ ?_)));(case side4 => exact (rr_ HO109.out).2.1);(case side5 => exact far_slice (IsS72.own_ne HI0.out HO109.out (by decide)));rintro e w9 ⟨rfl,hi,hb,hk⟩;refine ⟨_,rfl,?_⟩;have n0_:=mk_ (rm_ (Kd.R_keep (IsS72.apart (show IsS72 w0 _ g s0_0 s0_1 from u0_ HI0) (qr_ HO109) (by decide)) hk (fun _ h => h.2)) (fun _ h => h.1));have n1_:=mk_ (KeepBut.trans (u1_ HK) hk (.inl rfl));have n2_:=mk_ (hb);have n3_:=mk_ (hi);clear HO109 HK HB HI0;have HO109:=n0_;have HK:=n1_;have HB:=n2_;have HI0:=n3_;clear n0_ n1_ n2_ n3_;(try clear hb);(try clear hb2);(try clear hk);(try clear hi))|((with_reducible refine gate_dst (N:=14) rfl ?_);refine Kd.R_lit (Kd.int .i64) _ 3 ?hg (N:=14) ?hd (xs:=([10,5,50,100,1,20] : List Int)) (inner:=[.int .i64 10,.int .i64 5,.int .i64 50,.int .i64 100,.int .i64 1,.int .i64 20]) (ok:=fun _ => True) (okp:=fun _ => True) ?hr ?hp (fun _ hk => hk) trivial (Below.refl _ _) (Nat.le_refl _) (by simp) ?_;(case hd => rfl);(case hg => rfl);(case hr => first|(go_simp;done)|(go_simp;rfl));(case hp => exact (Reps.one (show Kd.M (Kd.int .i64) _ _ _ 10 [.int .i64 10] from rfl) (Reps.one (show Kd.M (Kd.int .i64) _ _ _ 5 [.int .i64 5] from rfl) (Reps.one (show Kd.M (Kd.int .i64) _ _ _ 50 [.int .i64 50] from rfl) (Reps.one (show Kd.M (Kd.int .i64) _ _ _ 100 [.int .i64 100] from rfl) (Reps.one (show Kd.M (Kd.int .i64) _ _ _ 1 [.int .i64 1] from rfl) (Reps.one (show Kd.M (Kd.int .i64) _ _ _ 20 [.int .i64 20] from rfl) (Reps.none _ _))))))));intro v113 w10 ho11 hb hg_ hnew_;clear hg_ hnew_;(first|rw [← Ny112.out] at ho11|(simp only [Int.reduceToNat] at ho11;rw [← Ny112.out] at ho11));have n0_:=mk_ (re_ (qr_ HO109) (Kd.R_base ho11) hb);have n1_:=mk_ (Kd.R_lower (Kd.R_new' ho11 (Kd.R_lt (qr_ HO109))) (keep_size (w:=w) (g:=g) (row:=none) (u1_ HK)));have n2_:=mk_ (IsS72.below (u0_ HI0) hb);have n3_:=mk_ (KeepBut.trans (u1_ HK) (KeepBut.of_below hb g none) (.inl rfl));have n4_:=mk_ (st_ (u2_ HB HI0) hb);clear HO109 HI0 HK HB;have HO109:=n0_;have HO114:=n1_;have HI0:=n2_;have HK:=n3_;have HB:=n4_;clear n0_ n1_ n2_ n3_ n4_ hb ho11;obtain ⟨Ao12,co12,eo12⟩:=Kd.R_slice HO114.out;subst eo12)|((with_reducible refine gate_callee (f:=52) rfl ?_);refine goesL_ (some 15) rfl rfl Try.func52 (by kernel_rfl) rfl #[.pointer (some ⟨g,0,none⟩),.slice Ao12 y112.length co12] rfl qm_ ?_;(with_reducible refine (spec_l21Rd_num.calls k g s0_0 t111 _ _ y112 t115 t116 w0 _ ?side1 ?side2 ?side3 ?side4 ?side5 A3.out).mono ?_);(case side1 => exact u0_ HI0);(case side2 => exact u2_ HB HI0);(case side3 => repeat (first|exact (rr_ HO114.out).2.2|(with_reducible refine ca_ ?_ _)|(with_reducible refine cn_ ?_ _)|(with_reducible refine cd_ ?_)));(case side4 => exact (rr_ HO114.out).2.1);(case side5 => exact far_slice (IsS72.own_ne HI0.out HO114.out (by decide)));rintro e w13 ⟨rfl,hi,hb,hk⟩;refine ⟨_,rfl,?_⟩;have n0_:=mk_ (rm_ (Kd.R_keep (IsS72.apart (show IsS72 w0 _ g s0_0 t111 from u0_ HI0) (qr_ HO109) (by decide)) hk (fun _ h => h.2)) (fun _ h => h.1));have n1_:=mk_ (rm_ (Kd.R_keep (IsS72.apart (show IsS72 w0 _ g s0_0 t111 from u0_ HI0) (qr_ HO114) (by decide)) hk (fun _ h => h.2)) (fun _ h => h.1));have n2_:=mk_ (KeepBut.trans (u1_ HK) hk (.inl rfl));have n3_:=mk_ (hb);have n4_:=mk_ (hi);clear HO109 HO114 HK HB HI0;have HO109:=n0_;have HO114:=n1_;have HK:=n2_;have HB:=n3_;have HI0:=n4_;clear n0_ n1_ n2_ n3_ n4_;(try clear hb);(try clear hb2);(try clear hk);(try clear hi))|((with_reducible refine gate_dst (N:=16) rfl ?_);refine Kd.R_lit k35 _ 35 ?hg (N:=16) ?hd (xs:=([] : List (S35))) (inner:=[]) (ok:=fun _ => True) (okp:=fun _ => True) ?hr ?hp (fun _ hk => hk) trivial (Below.refl _ _) (Nat.le_refl _) (by simp) ?_;(case hd => rfl);(case hg => rfl);(case hr => first|(go_simp;done)|(go_simp;rfl));(case hp => exact (Reps.none _ _));intro v118 w14 ho15 hb hg_ hnew_;clear hg_ hnew_;(first|rw [← Ny117.out] at ho15|(simp only [Int.reduceToNat] at ho15;rw [← Ny117.out] at ho15));have n0_:=mk_ (rb_ (qr_ HO109) hb);have n1_:=mk_ (rb_ (qr_ HO114) hb);have n2_:=mk_ (Kd.R_lower ho15 (keep_size (w:=w) (g:=g) (row:=none) (u1_ HK)));have n3_:=mk_ (IsS72.below (u0_ HI0) hb);have n4_:=mk_ (KeepBut.trans (u1_ HK) (KeepBut.of_below hb g none) (.inl rfl));have n5_:=mk_ (st_ (u2_ HB HI0) hb);clear HO109 HO114 HI0 HK HB;have HO109:=n0_;have HO114:=n1_;have HO119:=n2_;have HI0:=n3_;have HK:=n4_;have HB:=n5_;clear n0_ n1_ n2_ n3_ n4_ n5_ hb ho15)|((with_reducible refine gate_callee (f:=53) rfl ?_);refine goesL_ (some 18) rfl rfl Try.func53 (by kernel_rfl) rfl #[.pointer (some ⟨g,0,none⟩),.int .i64 5] rfl qm_ ?_;(with_reducible refine (spec_l21Rd_pick.calls k g s0_0 t116 5 t120 t121 w0 _ ?side1 ?side2 A4.out).mono ?_);(case side1 => exact u0_ HI0);(case side2 => exact u2_ HB HI0);rintro e w16 ⟨rfl,hi,hb,hk⟩;refine ⟨_,rfl,?_⟩;have n0_:=mk_ (rm_ (Kd.R_keep (IsS72.apart (show IsS72 w0 _ g s0_0 t116 from u0_ HI0) (qr_ HO109) (by decide)) hk (fun _ h => h.2)) (fun _ h => h.1));have n1_:=mk_ (rm_ (Kd.R_keep (IsS72.apart (show IsS72 w0 _ g s0_0 t116 from u0_ HI0) (qr_ HO114) (by decide)) hk (fun _ h => h.2)) (fun _ h => h.1));have n2_:=mk_ (rm_ (Kd.R_keep (IsS72.apart (show IsS72 w0 _ g s0_0 t116 from u0_ HI0) (qr_ HO119) (by decide)) hk (fun _ h => h.2)) (fun _ h => h.1));have n3_:=mk_ (KeepBut.trans (u1_ HK) hk (.inl rfl));have n4_:=mk_ (hb);have n5_:=mk_ (hi);clear HO109 HO114 HO119 HK HB HI0;have HO109:=n0_;have HO114:=n1_;have HO119:=n2_;have HK:=n3_;have HB:=n4_;have HI0:=n5_;clear n0_ n1_ n2_ n3_ n4_ n5_;(try clear hb);(try clear hb2);(try clear hk);(try clear hi))|((with_reducible refine gate_dst (N:=20) rfl ?_);refine Kd.R_lit (Kd.int .i64) _ 3 ?hg (N:=20) ?hd (xs:=([5,9,2,0,20] : List Int)) (inner:=[.int .i64 5,.int .i64 9,.int .i64 2,.int .i64 0,.int .i64 20]) (ok:=fun _ => True) (okp:=fun _ => True) ?hr ?hp (fun _ hk => hk) trivial (Below.refl _ _) (Nat.le_refl _) (by simp) ?_;(case hd => rfl);(case hg => rfl);(case hr => first|(go_simp;done)|(go_simp;rfl));(case hp => exact (Reps.one (show Kd.M (Kd.int .i64) _ _ _ 5 [.int .i64 5] from rfl) (Reps.one (show Kd.M (Kd.int .i64) _ _ _ 9 [.int .i64 9] from rfl) (Reps.one (show Kd.M (Kd.int .i64) _ _ _ 2 [.int .i64 2] from rfl) (Reps.one (show Kd.M (Kd.int .i64) _ _ _ 0 [.int .i64 0] from rfl) (Reps.one (show Kd.M (Kd.int .i64) _ _ _ 20 [.int .i64 20] from rfl) (Reps.none _ _)))))));intro v123 w17 ho18 hb hg_ hnew_;clear hg_ hnew_;(first|rw [← Ny122.out] at ho18|(simp only [Int.reduceToNat] at ho18;rw [← Ny122.out] at ho18));have n0_:=mk_ (re_ (qr_ HO109) (Kd.R_base ho18) hb);have n1_:=mk_ (re_ (qr_ HO114) (Kd.R_base ho18) hb);have n2_:=mk_ (rb_ (qr_ HO119) hb);have n3_:=mk_ (Kd.R_lower (Kd.R_new' (Kd.R_new' ho18 (Kd.R_lt (qr_ HO109))) (Kd.R_lt (qr_ HO114))) (keep_size (w:=w) (g:=g) (row:=none) (u1_ HK)));have n4_:=mk_ (IsS72.below (u0_ HI0) hb);have n5_:=mk_ (KeepBut.trans (u1_ HK) (KeepBut.of_below hb g none) (.inl rfl));have n6_:=mk_ (st_ (u2_ HB HI0) hb);clear HO109 HO114 HO119 HI0 HK HB;have HO109:=n0_;have HO114:=n1_;have HO119:=n2_;have HO124:=n3_;have HI0:=n4_;have HK:=n5_;have HB:=n6_;clear n0_ n1_ n2_ n3_ n4_ n5_ n6_ hb ho18;obtain ⟨Ao19,co19,eo19⟩:=Kd.R_slice HO124.out;subst eo19)|((with_reducible refine gate_callee (f:=52) rfl ?_);refine goesL_ (some 21) rfl rfl Try.func52 (by kernel_rfl) rfl #[.pointer (some ⟨g,0,none⟩),.slice Ao19 y122.length co19] rfl qm_ ?_;(with_reducible refine (spec_l21Rd_num.calls k g s0_0 t121 _ _ y122 t125 t126 w0 _ ?side1 ?side2 ?side3 ?side4 ?side5 A5.out).mono ?_);(case side1 => exact u0_ HI0);(case side2 => exact u2_ HB HI0);(case side3 => repeat (first|exact (rr_ HO124.out).2.2|(with_reducible refine ca_ ?_ _)|(with_reducible refine cn_ ?_ _)|(with_reducible refine cd_ ?_)));(case side4 => exact (rr_ HO124.out).2.1);(case side5 => exact far_slice (IsS72.own_ne HI0.out HO124.out (by decide)));rintro e w20 ⟨rfl,hi,hb,hk⟩;refine ⟨_,rfl,?_⟩;have n0_:=mk_ (rm_ (Kd.R_keep (IsS72.apart (show IsS72 w0 _ g s0_0 t121 from u0_ HI0) (qr_ HO109) (by decide)) hk (fun _ h => h.2)) (fun _ h => h.1));have n1_:=mk_ (rm_ (Kd.R_keep (IsS72.apart (show IsS72 w0 _ g s0_0 t121 from u0_ HI0) (qr_ HO114) (by decide)) hk (fun _ h => h.2)) (fun _ h => h.1));have n2_:=mk_ (rm_ (Kd.R_keep (IsS72.apart (show IsS72 w0 _ g s0_0 t121 from u0_ HI0) (qr_ HO119) (by decide)) hk (fun _ h => h.2)) (fun _ h => h.1));have n3_:=mk_ (rm_ (Kd.R_keep (IsS72.apart (show IsS72 w0 _ g s0_0 t121 from u0_ HI0) (qr_ HO124) (by decide)) hk (fun _ h => h.2)) (fun _ h => h.1));have n4_:=mk_ (KeepBut.trans (u1_ HK) hk (.inl rfl));have n5_:=mk_ (hb);have n6_:=mk_ (hi);clear HO109 HO114 HO119 HO124 HK HB HI0;have HO109:=n0_;have HO114:=n1_;have HO119:=n2_;have HO124:=n3_;have HK:=n4_;have HB:=n5_;have HI0:=n6_;clear n0_ n1_ n2_ n3_ n4_ n5_ n6_;(try clear hb);(try clear hb2);(try clear hk);(try clear hi)))
 go_loopg [7,8,9] k (fun kq v7 v8 v9 w' => ∃ (x7_1 : List (S35)) (x8_1 : Int) (x9_1 : Int) (x1001_1 : Int),v8 = .int .i64 x8_1 ∧ v9 = .int .i64 x9_1 ∧ Aside0 (spec_l14Draw.l0 kq t110 t115 x7_1 x8_1 x9_1 s0_0 x1001_1 = some (r1,r2,r3,r4)) ∧ Aside0 (kq ≤ k) ∧ Aside0 (Kd.R k35 35 w' w.heap.size (fun _ => True) v7 x7_1) ∧ Aside0 (IsS72 w0 w' g s0_0 x1001_1) ∧ Aside0 (KeepBut w w' g none) ∧ Aside0 (Below w0.heap.size w0 w'))
 case atStart => exact ⟨(y117),(t120),(t125),(t126),qf_,qf_,H',⟨Nat.le_refl _⟩,⟨qr_ HO119⟩,⟨u0_ HI0⟩,⟨u1_ HK⟩,⟨u2_ HB HI0⟩⟩
 case round =>
  clear H'
  try clear p2
  try clear c4
  try clear c5
  obtain ⟨x7_1,x8_1,x9_1,x1001_1,rfl,rfl,HA,HK1,HO_7,HI0,HK,HB⟩:=hrel
  cases gk with
  | zero => exact absurd HA.out (by simp [spec_l14Draw.l0])
  | succ k1 =>
   have H:=HA.out
   clear HA
   simp only [spec_l14Draw.l0] at H
   by_cases c21 : x9_1 > 0
   ·rw [if_pos c21] at H
    have c21b0 : decide (0 < x9_1) = true:=decide_eq_true c21
    clear c21
    obtain ⟨y127,hy127⟩ : ∃ y_ : List Int,y_ = (([5,10,50] : List Int)):=⟨_,rfl⟩
    replace H : ((spec_l21Rd_num.f k1 s0_0 x1001_1 y127).bind fun bt130 => ((spec_l21Rd_pick.f k1 s0_0 bt130.2 bt130.1).bind fun bt132 => (if x7_1.length < 8796093022208 then ((spec_l21Rd_num.f k1 s0_0 bt132.2 (([0,1,2,0,7,30] : List Int))).bind fun bt140 => (spec_l14Draw.l0 k1 t110 t115 (x7_1 ++ [(⟨x8_1,wrap64 (1 + bt132.1)⟩ : S35)]) (wrap64 (x8_1 + bt140.1)) (wrap64 (x9_1 - 1)) s0_0 bt140.2)) else (none)))) = some (r1,r2,r3,r4):=by first|(rw [hy127];with_reducible exact H)|(have H2_:=(Option.bind_some _ _).symm.trans H;rw [hy127];with_reducible exact H2_)|(have H2_:=(Option.bind_some _ _).symm.trans H;with_reducible exact H2_)|with_reducible exact H|(rw [hy127];exact H)|exact H
    have Ny127:=mk_ hy127
    clear hy127
    replace H:=Option.bind_eq_some_iff.mp H
    obtain ⟨⟨t130,t131⟩,A220,H⟩:=H
    replace H : ((spec_l21Rd_pick.f k1 s0_0 t131 t130).bind fun bt132 => (if x7_1.length < 8796093022208 then ((spec_l21Rd_num.f k1 s0_0 bt132.2 (([0,1,2,0,7,30] : List Int))).bind fun bt140 => (spec_l14Draw.l0 k1 t110 t115 (x7_1 ++ [(⟨x8_1,wrap64 (1 + bt132.1)⟩ : S35)]) (wrap64 (x8_1 + bt140.1)) (wrap64 (x9_1 - 1)) s0_0 bt140.2)) else (none))) = some (r1,r2,r3,r4):=H
    have A22:=mk_ A220
    clear A220
    replace H:=Option.bind_eq_some_iff.mp H
    obtain ⟨⟨t132,t133⟩,A230,H⟩:=H
    replace H : (if x7_1.length < 8796093022208 then ((spec_l21Rd_num.f k1 s0_0 t133 (([0,1,2,0,7,30] : List Int))).bind fun bt140 => (spec_l14Draw.l0 k1 t110 t115 (x7_1 ++ [(⟨x8_1,wrap64 (1 + t132)⟩ : S35)]) (wrap64 (x8_1 + bt140.1)) (wrap64 (x9_1 - 1)) s0_0 bt140.2)) else (none)) = some (r1,r2,r3,r4):=H
    have A23:=mk_ A230
    clear A230
    by_cases c24 : x7_1.length < 8796093022208
    ·rw [if_pos c24] at H
     have LMc24:=mk_ c24
     clear c24
     obtain ⟨y134,hy134⟩ : ∃ y_ : List (S35),y_ = (x7_1 ++ [(⟨x8_1,wrap64 (1 + t132)⟩ : S35)]):=⟨_,rfl⟩
     replace H : ((spec_l21Rd_num.f k1 s0_0 t133 (([0,1,2,0,7,30] : List Int))).bind fun bt140 => (spec_l14Draw.l0 k1 t110 t115 y134 (wrap64 (x8_1 + bt140.1)) (wrap64 (x9_1 - 1)) s0_0 bt140.2)) = some (r1,r2,r3,r4):=by first|(rw [hy134];with_reducible exact H)|(have H2_:=(Option.bind_some _ _).symm.trans H;rw [hy134];with_reducible exact H2_)|(have H2_:=(Option.bind_some _ _).symm.trans H;with_reducible exact H2_)|with_reducible exact H|(rw [hy134];exact H)|exact H
     have Ny134:=mk_ hy134
     clear hy134
     obtain ⟨y137,hy137⟩ : ∃ y_ : List Int,y_ = (([0,1,2,0,7,30] : List Int)):=⟨_,rfl⟩
     replace H : ((spec_l21Rd_num.f k1 s0_0 t133 y137).bind fun bt140 => (spec_l14Draw.l0 k1 t110 t115 y134 (wrap64 (x8_1 + bt140.1)) (wrap64 (x9_1 - 1)) s0_0 bt140.2)) = some (r1,r2,r3,r4):=by first|(rw [hy137];with_reducible exact H)|(have H2_:=(Option.bind_some _ _).symm.trans H;rw [hy137];with_reducible exact H2_)|(have H2_:=(Option.bind_some _ _).symm.trans H;with_reducible exact H2_)|with_reducible exact H|(rw [hy137];exact H)|exact H
     have Ny137:=mk_ hy137
     clear hy137
     replace H:=Option.bind_eq_some_iff.mp H
     obtain ⟨⟨t140,t141⟩,A250,H⟩:=H
     replace H : (spec_l14Draw.l0 k1 t110 t115 y134 (wrap64 (x8_1 + t140)) (wrap64 (x9_1 - 1)) s0_0 t141) = some (r1,r2,r3,r4):=H
     have A25:=mk_ A250
     clear A250
     have H':=mk_ H
     clear H
     go_wp2_with (first|((with_reducible refine gate_dst (N:=30) rfl ?_);refine Kd.R_lit (Kd.int .i64) _ 3 ?hg (N:=30) ?hd (xs:=([5,10,50] : List Int)) (inner:=[.int .i64 5,.int .i64 10,.int .i64 50]) (ok:=fun _ => True) (okp:=fun _ => True) ?hr ?hp (fun _ hk => hk) trivial (Below.refl _ _) (Nat.le_refl _) (by simp) ?_;(case hd => rfl);(case hg => rfl);(case hr => first|(go_simp;done)|(go_simp;rfl));(case hp => exact (Reps.one (show Kd.M (Kd.int .i64) _ _ _ 5 [.int .i64 5] from rfl) (Reps.one (show Kd.M (Kd.int .i64) _ _ _ 10 [.int .i64 10] from rfl) (Reps.one (show Kd.M (Kd.int .i64) _ _ _ 50 [.int .i64 50] from rfl) (Reps.none _ _)))));intro v128 w26 ho27 hb hg_ hnew_;clear hg_ hnew_;(first|rw [← Ny127.out] at ho27|(simp only [Int.reduceToNat] at ho27;rw [← Ny127.out] at ho27));have n0_:=mk_ (rb_ (qr_ HO_7) hb);have n1_:=mk_ (Kd.R_lower ho27 (keep_size (w:=w) (g:=g) (row:=none) (u1_ HK)));have n2_:=mk_ (IsS72.below (u0_ HI0) hb);have n3_:=mk_ (KeepBut.trans (u1_ HK) (KeepBut.of_below hb g none) (.inl rfl));have n4_:=mk_ (st_ (u2_ HB HI0) hb);clear HO_7 HI0 HK HB;have HO_7:=n0_;have HO129:=n1_;have HI0:=n2_;have HK:=n3_;have HB:=n4_;clear n0_ n1_ n2_ n3_ n4_ hb ho27;obtain ⟨Ao28,co28,eo28⟩:=Kd.R_slice HO129.out;subst eo28)|((with_reducible refine gate_callee (f:=52) rfl ?_);refine goesL_ (some 31) rfl rfl Try.func52 (by kernel_rfl) rfl #[.pointer (some ⟨g,0,none⟩),.slice Ao28 y127.length co28] rfl qm_ ?_;(with_reducible refine (spec_l21Rd_num.calls k1 g s0_0 x1001_1 _ _ y127 t130 t131 w0 _ ?side1 ?side2 ?side3 ?side4 ?side5 A22.out).mono ?_);(case side1 => exact u0_ HI0);(case side2 => exact u2_ HB HI0);(case side3 => repeat (first|exact (rr_ HO129.out).2.2|(with_reducible refine ca_ ?_ _)|(with_reducible refine cn_ ?_ _)|(with_reducible refine cd_ ?_)));(case side4 => exact (rr_ HO129.out).2.1);(case side5 => exact far_slice (IsS72.own_ne HI0.out HO129.out (by decide)));rintro e w29 ⟨rfl,hi,hb,hk⟩;refine ⟨_,rfl,?_⟩;have n0_:=mk_ (rm_ (Kd.R_keep (IsS72.apart (show IsS72 w0 _ g s0_0 x1001_1 from u0_ HI0) (qr_ HO_7) (by decide)) hk (fun _ h => h.2)) (fun _ h => h.1));have n1_:=mk_ (rm_ (Kd.R_keep (IsS72.apart (show IsS72 w0 _ g s0_0 x1001_1 from u0_ HI0) (qr_ HO129) (by decide)) hk (fun _ h => h.2)) (fun _ h => h.1));have n2_:=mk_ (KeepBut.trans (u1_ HK) hk (.inl rfl));have n3_:=mk_ (hb);have n4_:=mk_ (hi);clear HO_7 HO129 HK HB HI0;have HO_7:=n0_;have HO129:=n1_;have HK:=n2_;have HB:=n3_;have HI0:=n4_;clear n0_ n1_ n2_ n3_ n4_;(try clear hb);(try clear hb2);(try clear hk);(try clear hi))|((with_reducible refine gate_callee (f:=53) rfl ?_);refine goesL_ (some 32) rfl rfl Try.func53 (by kernel_rfl) rfl #[.pointer (some ⟨g,0,none⟩),.int .i64 t130] rfl qm_ ?_;(with_reducible refine (spec_l21Rd_pick.calls k1 g s0_0 t131 t130 t132 t133 w0 _ ?side1 ?side2 A23.out).mono ?_);(case side1 => exact u0_ HI0);(case side2 => exact u2_ HB HI0);rintro e w30 ⟨rfl,hi,hb,hk⟩;refine ⟨_,rfl,?_⟩;have n0_:=mk_ (rm_ (Kd.R_keep (IsS72.apart (show IsS72 w0 _ g s0_0 t131 from u0_ HI0) (qr_ HO_7) (by decide)) hk (fun _ h => h.2)) (fun _ h => h.1));have n1_:=mk_ (rm_ (Kd.R_keep (IsS72.apart (show IsS72 w0 _ g s0_0 t131 from u0_ HI0) (qr_ HO129) (by decide)) hk (fun _ h => h.2)) (fun _ h => h.1));have n2_:=mk_ (KeepBut.trans (u1_ HK) hk (.inl rfl));have n3_:=mk_ (hb);have n4_:=mk_ (hi);clear HO_7 HO129 HK HB HI0;have HO_7:=n0_;have HO129:=n1_;have HK:=n2_;have HB:=n3_;have HI0:=n4_;clear n0_ n1_ n2_ n3_ n4_;(try clear hb);(try clear hb2);(try clear hk);(try clear hi))|((with_reducible refine gate_builtin (b:=.append) (xs:=#[.tmp 26,.tmp 35]) rfl ?_);at_builtin;refine Kd.R_append k35 w.heap.size rfl (.tmp 26) (.tmp 35) 25 35 (.agg #[(.int .i64 0),(.int .i64 0)]) 16 rfl Try.underlying25 info35 rfl (by decide) (by omega) u7 x7_1 (⟨x8_1,wrap64 (1 + t132)⟩ : S35) [.int .i64 x8_1,.int .i64 (wrap64 (1 + t132))] (fun _ => True) (fun _ => False) rfl rfl ?aP (fun _ hk => hk.elim) ?aF ?aO (Below.refl _ _) ?aS ?aL ?_;(case aP => exact k35_mkM _ _ _ (⟨x8_1,wrap64 (1 + t132)⟩ : S35));(case aF => exact (fun _ _ => trivial));(case aO => exact (qr_ HO_7));(case aS => exact (keep_size (w:=w) (g:=g) (row:=none) (u1_ HK)));(case aL => have:=LMc24.out;omega);intro v135 w31 ho hb hg hat;rw [← Ny134.out] at ho;have n0_:=mk_ (IsS72.grown (u0_ HI0) hg (IsS72.own_ne HI0.out HO_7.out (by decide)));have n1_:=mk_ (Kd.R_over' (qr_ HO129) (Kd.R_typed (qr_ HO_7)) (by decide) hg);have n2_:=mk_ (below_weaken (u2_ HB HI0) HL.out hb);have n3_:=mk_ (KeepBut.trans (u1_ HK) (KeepBut.of_grown hg g) (Kd.R_base2 HO_7.out));have n4_:=mk_ (ho);clear HI0 HO129 HB HK HO_7;have HI0:=n0_;have HO129:=n1_;have HB:=n2_;have HK:=n3_;have HO136:=n4_;clear n0_ n1_ n2_ n3_ n4_ ho hb hg hat)|((with_reducible refine gate_dst (N:=39) rfl ?_);refine Kd.R_lit (Kd.int .i64) _ 3 ?hg (N:=39) ?hd (xs:=([0,1,2,0,7,30] : List Int)) (inner:=[.int .i64 0,.int .i64 1,.int .i64 2,.int .i64 0,.int .i64 7,.int .i64 30]) (ok:=fun _ => True) (okp:=fun _ => True) ?hr ?hp (fun _ hk => hk) trivial (Below.refl _ _) (Nat.le_refl _) (by simp) ?_;(case hd => rfl);(case hg => rfl);(case hr => first|(go_simp;done)|(go_simp;rfl));(case hp => exact (Reps.one (show Kd.M (Kd.int .i64) _ _ _ 0 [.int .i64 0] from rfl) (Reps.one (show Kd.M (Kd.int .i64) _ _ _ 1 [.int .i64 1] from rfl) (Reps.one (show Kd.M (Kd.int .i64) _ _ _ 2 [.int .i64 2] from rfl) (Reps.one (show Kd.M (Kd.int .i64) _ _ _ 0 [.int .i64 0] from rfl) (Reps.one (show Kd.M (Kd.int .i64) _ _ _ 7 [.int .i64 7] from rfl) (Reps.one (show Kd.M (Kd.int .i64) _ _ _ 30 [.int .i64 30] from rfl) (Reps.none _ _))))))));intro v138 w32 ho33 hb hg_ hnew_;clear hg_ hnew_;(first|rw [← Ny137.out] at ho33|(simp only [Int.reduceToNat] at ho33;rw [← Ny137.out] at ho33));have n0_:=mk_ (re_ (qr_ HO129) (Kd.R_base ho33) hb);have n1_:=mk_ (rb_ (qr_ HO136) hb);have n2_:=mk_ (Kd.R_lower (Kd.R_new' ho33 (Kd.R_lt (qr_ HO129))) (keep_size (w:=w) (g:=g) (row:=none) (u1_ HK)));have n3_:=mk_ (IsS72.below (u0_ HI0) hb);have n4_:=mk_ (KeepBut.trans (u1_ HK) (KeepBut.of_below hb g none) (.inl rfl));have n5_:=mk_ (st_ (u2_ HB HI0) hb);clear HO129 HO136 HI0 HK HB;have HO129:=n0_;have HO136:=n1_;have HO139:=n2_;have HI0:=n3_;have HK:=n4_;have HB:=n5_;clear n0_ n1_ n2_ n3_ n4_ n5_ hb ho33;obtain ⟨Ao34,co34,eo34⟩:=Kd.R_slice HO139.out;subst eo34)|((with_reducible refine gate_callee (f:=52) rfl ?_);refine goesL_ (some 40) rfl rfl Try.func52 (by kernel_rfl) rfl #[.pointer (some ⟨g,0,none⟩),.slice Ao34 y137.length co34] rfl qm_ ?_;(with_reducible refine (spec_l21Rd_num.calls k1 g s0_0 t133 _ _ y137 t140 t141 w0 _ ?side1 ?side2 ?side3 ?side4 ?side5 A25.out).mono ?_);(case side1 => exact u0_ HI0);(case side2 => exact u2_ HB HI0);(case side3 => repeat (first|exact (rr_ HO139.out).2.2|(with_reducible refine ca_ ?_ _)|(with_reducible refine cn_ ?_ _)|(with_reducible refine cd_ ?_)));(case side4 => exact (rr_ HO139.out).2.1);(case side5 => exact far_slice (IsS72.own_ne HI0.out HO139.out (by decide)));rintro e w35 ⟨rfl,hi,hb,hk⟩;refine ⟨_,rfl,?_⟩;have n0_:=mk_ (rm_ (Kd.R_keep (IsS72.apart (show IsS72 w0 _ g s0_0 t133 from u0_ HI0) (qr_ HO129) (by decide)) hk (fun _ h => h.2)) (fun _ h => h.1));have n1_:=mk_ (rm_ (Kd.R_keep (IsS72.apart (show IsS72 w0 _ g s0_0 t133 from u0_ HI0) (qr_ HO136) (by decide)) hk (fun _ h => h.2)) (fun _ h => h.1));have n2_:=mk_ (rm_ (Kd.R_keep (IsS72.apart (show IsS72 w0 _ g s0_0 t133 from u0_ HI0) (qr_ HO139) (by decide)) hk (fun _ h => h.2)) (fun _ h => h.1));have n3_:=mk_ (KeepBut.trans (u1_ HK) hk (.inl rfl));have n4_:=mk_ (hb);have n5_:=mk_ (hi);clear HO129 HO136 HO139 HK HB HI0;have HO129:=n0_;have HO136:=n1_;have HO139:=n2_;have HK:=n3_;have HB:=n4_;have HI0:=n5_;clear n0_ n1_ n2_ n3_ n4_ n5_;(try clear hb);(try clear hb2);(try clear hk);(try clear hi)))
     go_roundg k1
     case measure => have:=HK1.out;omega
     case rel => exact ⟨(y134),(wrap64 (x8_1 + t140)),(wrap64 (x9_1 - 1)),(t141),qf_,qf_,H',⟨by have:=HK1.out;omega⟩,⟨qr_ HO136⟩,⟨u0_ HI0⟩,⟨u1_ HK⟩,⟨u2_ HB HI0⟩⟩
    ·rw [if_neg c24] at H
     exact absurd H (by simp)
   ·rw [if_neg c21] at H
    have c21b0 : decide (0 < x9_1) = false:=decide_eq_false c21
    clear c21
    replace H:=Option.bind_eq_some_iff.mp H
    obtain ⟨⟨t142,t143⟩,A360,H⟩:=H
    replace H : (if t142 = 0 then ((spec_l21Rd_num.f k1 s0_0 t143 (([0,21] : List Int))).bind fun bt147 => (some (bt147.1,t115,x7_1,bt147.2))) else (if t142 = 1 then ((spec_l21Rd_num.f k1 s0_0 t143 (([0,101] : List Int))).bind fun bt152 => (some (t110,bt152.1,x7_1,bt152.2))) else (if t142 = 2 then (if x7_1.length < 8796093022208 then (some (t110,t115,(x7_1 ++ [(⟨0,1⟩ : S35)]),t143)) else (none)) else (if t142 = 3 then ((spec_l21Rd_num.f k1 s0_0 t143 (([0,51] : List Int))).bind fun bt160 => (if x7_1.length < 8796093022208 then (some (t110,t115,(x7_1 ++ [(⟨x8_1,bt160.1⟩ : S35)]),bt160.2)) else (none))) else (if t142 = 4 then (if x7_1.length < 8796093022208 then (some (t110,t115,(x7_1 ++ [(⟨2001,1⟩ : S35)]),t143)) else (none)) else (some (t110,t115,x7_1,t143))))))) = some (r1,r2,r3,r4):=H
    have A36:=mk_ A360
    clear A360
    by_cases c37 : t142 = 0
    ·rw [if_pos c37] at H
     have c37b0 : (t142 == 0) = true:=beq_iff_eq.mpr c37
     have c37b1 : (t142 != 0) = false:=bne_eq_false_iff_eq.mpr c37
     clear c37
     obtain ⟨y144,hy144⟩ : ∃ y_ : List Int,y_ = (([0,21] : List Int)):=⟨_,rfl⟩
     replace H : ((spec_l21Rd_num.f k1 s0_0 t143 y144).bind fun bt147 => (some (bt147.1,t115,x7_1,bt147.2))) = some (r1,r2,r3,r4):=by first|(rw [hy144];with_reducible exact H)|(have H2_:=(Option.bind_some _ _).symm.trans H;rw [hy144];with_reducible exact H2_)|(have H2_:=(Option.bind_some _ _).symm.trans H;with_reducible exact H2_)|with_reducible exact H|(rw [hy144];exact H)|exact H
     have Ny144:=mk_ hy144
     clear hy144
     replace H:=Option.bind_eq_some_iff.mp H
     obtain ⟨⟨t147,t148⟩,A380,H⟩:=H
     replace H : (some (t147,t115,x7_1,t148)) = some (r1,r2,r3,r4):=H
     have A38:=mk_ A380
     clear A380
     simp only [Option.some.injEq,Prod.mk.injEq] at H
     obtain ⟨rfl,rfl,rfl,rfl⟩:=H
     go_wp2_with (first|((with_reducible refine gate_callee (f:=53) rfl ?_);refine goesL_ (some 43) rfl rfl Try.func53 (by kernel_rfl) rfl #[.pointer (some ⟨g,0,none⟩),.int .i64 75] rfl qm_ ?_;(with_reducible refine (spec_l21Rd_pick.calls k1 g s0_0 x1001_1 75 t142 t143 w0 _ ?side1 ?side2 A36.out).mono ?_);(case side1 => exact u0_ HI0);(case side2 => exact u2_ HB HI0);rintro e w39 ⟨rfl,hi,hb,hk⟩;refine ⟨_,rfl,?_⟩;have n0_:=mk_ (rm_ (Kd.R_keep (IsS72.apart (show IsS72 w0 _ g s0_0 x1001_1 from u0_ HI0) (qr_ HO_7) (by decide)) hk (fun _ h => h.2)) (fun _ h => h.1));have n1_:=mk_ (KeepBut.trans (u1_ HK) hk (.inl rfl));have n2_:=mk_ (hb);have n3_:=mk_ (hi);clear HO_7 HK HB HI0;have HO_7:=n0_;have HK:=n1_;have HB:=n2_;have HI0:=n3_;clear n0_ n1_ n2_ n3_;(try clear hb);(try clear hb2);(try clear hk);(try clear hi))|((with_reducible refine gate_dst (N:=47) rfl ?_);refine Kd.R_lit (Kd.int .i64) _ 3 ?hg (N:=47) ?hd (xs:=([0,21] : List Int)) (inner:=[.int .i64 0,.int .i64 21]) (ok:=fun _ => True) (okp:=fun _ => True) ?hr ?hp (fun _ hk => hk) trivial (Below.refl _ _) (Nat.le_refl _) (by simp) ?_;(case hd => rfl);(case hg => rfl);(case hr => first|(go_simp;done)|(go_simp;rfl));(case hp => exact (Reps.one (show Kd.M (Kd.int .i64) _ _ _ 0 [.int .i64 0] from rfl) (Reps.one (show Kd.M (Kd.int .i64) _ _ _ 21 [.int .i64 21] from rfl) (Reps.none _ _))));intro v145 w40 ho41 hb hg_ hnew_;clear hg_ hnew_;(first|rw [← Ny144.out] at ho41|(simp only [Int.reduceToNat] at ho41;rw [← Ny144.out] at ho41));have n0_:=mk_ (rb_ (qr_ HO_7) hb);have n1_:=mk_ (Kd.R_lower ho41 (keep_size (w:=w) (g:=g) (row:=none) (u1_ HK)));have n2_:=mk_ (IsS72.below (u0_ HI0) hb);have n3_:=mk_ (KeepBut.trans (u1_ HK) (KeepBut.of_below hb g none) (.inl rfl));have n4_:=mk_ (st_ (u2_ HB HI0) hb);clear HO_7 HI0 HK HB;have HO_7:=n0_;have HO146:=n1_;have HI0:=n2_;have HK:=n3_;have HB:=n4_;clear n0_ n1_ n2_ n3_ n4_ hb ho41;obtain ⟨Ao42,co42,eo42⟩:=Kd.R_slice HO146.out;subst eo42)|((with_reducible refine gate_callee (f:=52) rfl ?_);refine goesL_ (some 48) rfl rfl Try.func52 (by kernel_rfl) rfl #[.pointer (some ⟨g,0,none⟩),.slice Ao42 y144.length co42] rfl qm_ ?_;(with_reducible refine (spec_l21Rd_num.calls k1 g s0_0 t143 _ _ y144 t147 t148 w0 _ ?side1 ?side2 ?side3 ?side4 ?side5 A38.out).mono ?_);(case side1 => exact u0_ HI0);(case side2 => exact u2_ HB HI0);(case side3 => repeat (first|exact (rr_ HO146.out).2.2|(with_reducible refine ca_ ?_ _)|(with_reducible refine cn_ ?_ _)|(with_reducible refine cd_ ?_)));(case side4 => exact (rr_ HO146.out).2.1);(case side5 => exact far_slice (IsS72.own_ne HI0.out HO146.out (by decide)));rintro e w43 ⟨rfl,hi,hb,hk⟩;refine ⟨_,rfl,?_⟩;have n0_:=mk_ (rm_ (Kd.R_keep (IsS72.apart (show IsS72 w0 _ g s0_0 t143 from u0_ HI0) (qr_ HO_7) (by decide)) hk (fun _ h => h.2)) (fun _ h => h.1));have n1_:=mk_ (rm_ (Kd.R_keep (IsS72.apart (show IsS72 w0 _ g s0_0 t143 from u0_ HI0) (qr_ HO146) (by decide)) hk (fun _ h => h.2)) (fun _ h => h.1));have n2_:=mk_ (KeepBut.trans (u1_ HK) hk (.inl rfl));have n3_:=mk_ (hb);have n4_:=mk_ (hi);clear HO_7 HO146 HK HB HI0;have HO_7:=n0_;have HO146:=n1_;have HK:=n2_;have HB:=n3_;have HI0:=n4_;clear n0_ n1_ n2_ n3_ n4_;(try clear hb);(try clear hb2);(try clear hk);(try clear hi)))
     go_ret3
     exact ⟨_,qe_,qr_ HO_7,u0_ HI0,u2_ HB HI0,u1_ HK⟩
    ·rw [if_neg c37] at H
     have c37b0 : (t142 == 0) = false:=beq_eq_false_iff_ne.mpr c37
     have c37b1 : (t142 != 0) = true:=bne_iff_ne.mpr c37
     by_cases c44 : t142 = 1
     ·rw [if_pos c44] at H
      have c44b0 : (t142 == 1) = true:=beq_iff_eq.mpr c44
      have c44b1 : (t142 != 1) = false:=bne_eq_false_iff_eq.mpr c44
      clear c44
      obtain ⟨y149,hy149⟩ : ∃ y_ : List Int,y_ = (([0,101] : List Int)):=⟨_,rfl⟩
      replace H : ((spec_l21Rd_num.f k1 s0_0 t143 y149).bind fun bt152 => (some (t110,bt152.1,x7_1,bt152.2))) = some (r1,r2,r3,r4):=by first|(rw [hy149];with_reducible exact H)|(have H2_:=(Option.bind_some _ _).symm.trans H;rw [hy149];with_reducible exact H2_)|(have H2_:=(Option.bind_some _ _).symm.trans H;with_reducible exact H2_)|with_reducible exact H|(rw [hy149];exact H)|exact H
      have Ny149:=mk_ hy149
      clear hy149
      replace H:=Option.bind_eq_some_iff.mp H
      obtain ⟨⟨t152,t153⟩,A450,H⟩:=H
      replace H : (some (t110,t152,x7_1,t153)) = some (r1,r2,r3,r4):=H
      have A45:=mk_ A450
      clear A450
      simp only [Option.some.injEq,Prod.mk.injEq] at H
      obtain ⟨rfl,rfl,rfl,rfl⟩:=H
      go_wp2_with (first|((with_reducible refine gate_callee (f:=53) rfl ?_);refine goesL_ (some 43) rfl rfl Try.func53 (by kernel_rfl) rfl #[.pointer (some ⟨g,0,none⟩),.int .i64 75] rfl qm_ ?_;(with_reducible refine (spec_l21Rd_pick.calls k1 g s0_0 x1001_1 75 t142 t143 w0 _ ?side1 ?side2 A36.out).mono ?_);(case side1 => exact u0_ HI0);(case side2 => exact u2_ HB HI0);rintro e w46 ⟨rfl,hi,hb,hk⟩;refine ⟨_,rfl,?_⟩;have n0_:=mk_ (rm_ (Kd.R_keep (IsS72.apart (show IsS72 w0 _ g s0_0 x1001_1 from u0_ HI0) (qr_ HO_7) (by decide)) hk (fun _ h => h.2)) (fun _ h => h.1));have n1_:=mk_ (KeepBut.trans (u1_ HK) hk (.inl rfl));have n2_:=mk_ (hb);have n3_:=mk_ (hi);clear HO_7 HK HB HI0;have HO_7:=n0_;have HK:=n1_;have HB:=n2_;have HI0:=n3_;clear n0_ n1_ n2_ n3_;(try clear hb);(try clear hb2);(try clear hk);(try clear hi))|((with_reducible refine gate_dst (N:=52) rfl ?_);refine Kd.R_lit (Kd.int .i64) _ 3 ?hg (N:=52) ?hd (xs:=([0,101] : List Int)) (inner:=[.int .i64 0,.int .i64 101]) (ok:=fun _ => True) (okp:=fun _ => True) ?hr ?hp (fun _ hk => hk) trivial (Below.refl _ _) (Nat.le_refl _) (by simp) ?_;(case hd => rfl);(case hg => rfl);(case hr => first|(go_simp;done)|(go_simp;rfl));(case hp => exact (Reps.one (show Kd.M (Kd.int .i64) _ _ _ 0 [.int .i64 0] from rfl) (Reps.one (show Kd.M (Kd.int .i64) _ _ _ 101 [.int .i64 101] from rfl) (Reps.none _ _))));intro v150 w47 ho48 hb hg_ hnew_;clear hg_ hnew_;(first|rw [← Ny149.out] at ho48|(simp only [Int.reduceToNat] at ho48;rw [← Ny149.out] at ho48));have n0_:=mk_ (rb_ (qr_ HO_7) hb);have n1_:=mk_ (Kd.R_lower ho48 (keep_size (w:=w) (g:=g) (row:=none) (u1_ HK)));have n2_:=mk_ (IsS72.below (u0_ HI0) hb);have n3_:=mk_ (KeepBut.trans (u1_ HK) (KeepBut.of_below hb g none) (.inl rfl));have n4_:=mk_ (st_ (u2_ HB HI0) hb);clear HO_7 HI0 HK HB;have HO_7:=n0_;have HO151:=n1_;have HI0:=n2_;have HK:=n3_;have HB:=n4_;clear n0_ n1_ n2_ n3_ n4_ hb ho48;obtain ⟨Ao49,co49,eo49⟩:=Kd.R_slice HO151.out;subst eo49)|((with_reducible refine gate_callee (f:=52) rfl ?_);refine goesL_ (some 53) rfl rfl Try.func52 (by kernel_rfl) rfl #[.pointer (some ⟨g,0,none⟩),.slice Ao49 y149.length co49] rfl qm_ ?_;(with_reducible refine (spec_l21Rd_num.calls k1 g s0_0 t143 _ _ y149 t152 t153 w0 _ ?side1 ?side2 ?side3 ?side4 ?side5 A45.out).mono ?_);(case side1 => exact u0_ HI0);(case side2 => exact u2_ HB HI0);(case side3 => repeat (first|exact (rr_ HO151.out).2.2|(with_reducible refine ca_ ?_ _)|(with_reducible refine cn_ ?_ _)|(with_reducible refine cd_ ?_)));(case side4 => exact (rr_ HO151.out).2.1);(case side5 => exact far_slice (IsS72.own_ne HI0.out HO151.out (by decide)));rintro e w50 ⟨rfl,hi,hb,hk⟩;refine ⟨_,rfl,?_⟩;have n0_:=mk_ (rm_ (Kd.R_keep (IsS72.apart (show IsS72 w0 _ g s0_0 t143 from u0_ HI0) (qr_ HO_7) (by decide)) hk (fun _ h => h.2)) (fun _ h => h.1));have n1_:=mk_ (rm_ (Kd.R_keep (IsS72.apart (show IsS72 w0 _ g s0_0 t143 from u0_ HI0) (qr_ HO151) (by decide)) hk (fun _ h => h.2)) (fun _ h => h.1));have n2_:=mk_ (KeepBut.trans (u1_ HK) hk (.inl rfl));have n3_:=mk_ (hb);have n4_:=mk_ (hi);clear HO_7 HO151 HK HB HI0;have HO_7:=n0_;have HO151:=n1_;have HK:=n2_;have HB:=n3_;have HI0:=n4_;clear n0_ n1_ n2_ n3_ n4_;(try clear hb);(try clear hb2);(try clear hk);(try clear hi)))
      go_ret3
      exact ⟨_,qe_,qr_ HO_7,u0_ HI0,u2_ HB HI0,u1_ HK⟩
     ·rw [if_neg c44] at H
      have c44b0 : (t142 == 1) = false:=beq_eq_false_iff_ne.mpr c44
      have c44b1 : (t142 != 1) = true:=bne_iff_ne.mpr c44
      by_cases c51 : t142 = 2
      ·rw [if_pos c51] at H
       have c51b0 : (t142 == 2) = true:=beq_iff_eq.mpr c51
       have c51b1 : (t142 != 2) = false:=bne_eq_false_iff_eq.mpr c51
       clear c51
       by_cases c52 : x7_1.length < 8796093022208
       ·rw [if_pos c52] at H
        have LMc52:=mk_ c52
        clear c52
        obtain ⟨y154,hy154⟩ : ∃ y_ : List (S35),y_ = (x7_1 ++ [(⟨0,1⟩ : S35)]):=⟨_,rfl⟩
        replace H : (some (t110,t115,y154,t143)) = some (r1,r2,r3,r4):=by first|(rw [hy154];with_reducible exact H)|(have H2_:=(Option.bind_some _ _).symm.trans H;rw [hy154];with_reducible exact H2_)|(have H2_:=(Option.bind_some _ _).symm.trans H;with_reducible exact H2_)|with_reducible exact H|(rw [hy154];exact H)|exact H
        have Ny154:=mk_ hy154
        clear hy154
        simp only [Option.some.injEq,Prod.mk.injEq] at H
        obtain ⟨rfl,rfl,rfl,rfl⟩:=H
        go_wp2_with (first|((with_reducible refine gate_callee (f:=53) rfl ?_);refine goesL_ (some 43) rfl rfl Try.func53 (by kernel_rfl) rfl #[.pointer (some ⟨g,0,none⟩),.int .i64 75] rfl qm_ ?_;(with_reducible refine (spec_l21Rd_pick.calls k1 g s0_0 x1001_1 75 t142 t143 w0 _ ?side1 ?side2 A36.out).mono ?_);(case side1 => exact u0_ HI0);(case side2 => exact u2_ HB HI0);rintro e w53 ⟨rfl,hi,hb,hk⟩;refine ⟨_,rfl,?_⟩;have n0_:=mk_ (rm_ (Kd.R_keep (IsS72.apart (show IsS72 w0 _ g s0_0 x1001_1 from u0_ HI0) (qr_ HO_7) (by decide)) hk (fun _ h => h.2)) (fun _ h => h.1));have n1_:=mk_ (KeepBut.trans (u1_ HK) hk (.inl rfl));have n2_:=mk_ (hb);have n3_:=mk_ (hi);clear HO_7 HK HB HI0;have HO_7:=n0_;have HK:=n1_;have HB:=n2_;have HI0:=n3_;clear n0_ n1_ n2_ n3_;(try clear hb);(try clear hb2);(try clear hk);(try clear hi))|((with_reducible refine gate_builtin (b:=.append) (xs:=#[.tmp 56,.tmp 58]) rfl ?_);at_builtin;refine Kd.R_append k35 w.heap.size rfl (.tmp 56) (.tmp 58) 25 35 (.agg #[(.int .i64 0),(.int .i64 0)]) 16 rfl Try.underlying25 info35 rfl (by decide) (by omega) u7 x7_1 (⟨0,1⟩ : S35) [.int .i64 0,.int .i64 1] (fun _ => True) (fun _ => False) rfl rfl ?aP (fun _ hk => hk.elim) ?aF ?aO (Below.refl _ _) ?aS ?aL ?_;(case aP => exact k35_mkM _ _ _ (⟨0,1⟩ : S35));(case aF => exact (fun _ _ => trivial));(case aO => exact (qr_ HO_7));(case aS => exact (keep_size (w:=w) (g:=g) (row:=none) (u1_ HK)));(case aL => have:=LMc52.out;omega);intro v155 w54 ho hb hg hat;rw [← Ny154.out] at ho;have n0_:=mk_ (IsS72.grown (u0_ HI0) hg (IsS72.own_ne HI0.out HO_7.out (by decide)));have n1_:=mk_ (below_weaken (u2_ HB HI0) HL.out hb);have n2_:=mk_ (KeepBut.trans (u1_ HK) (KeepBut.of_grown hg g) (Kd.R_base2 HO_7.out));have n3_:=mk_ (ho);clear HI0 HB HK HO_7;have HI0:=n0_;have HB:=n1_;have HK:=n2_;have HO156:=n3_;clear n0_ n1_ n2_ n3_ ho hb hg hat))
        go_ret3
        exact ⟨_,qe_,qr_ HO156,u0_ HI0,u2_ HB HI0,u1_ HK⟩
       ·rw [if_neg c52] at H
        exact absurd H (by simp)
      ·rw [if_neg c51] at H
       have c51b0 : (t142 == 2) = false:=beq_eq_false_iff_ne.mpr c51
       have c51b1 : (t142 != 2) = true:=bne_iff_ne.mpr c51
       by_cases c55 : t142 = 3
       ·rw [if_pos c55] at H
        have c55b0 : (t142 == 3) = true:=beq_iff_eq.mpr c55
        have c55b1 : (t142 != 3) = false:=bne_eq_false_iff_eq.mpr c55
        clear c55
        obtain ⟨y157,hy157⟩ : ∃ y_ : List Int,y_ = (([0,51] : List Int)):=⟨_,rfl⟩
        replace H : ((spec_l21Rd_num.f k1 s0_0 t143 y157).bind fun bt160 => (if x7_1.length < 8796093022208 then (some (t110,t115,(x7_1 ++ [(⟨x8_1,bt160.1⟩ : S35)]),bt160.2)) else (none))) = some (r1,r2,r3,r4):=by first|(rw [hy157];with_reducible exact H)|(have H2_:=(Option.bind_some _ _).symm.trans H;rw [hy157];with_reducible exact H2_)|(have H2_:=(Option.bind_some _ _).symm.trans H;with_reducible exact H2_)|with_reducible exact H|(rw [hy157];exact H)|exact H
        have Ny157:=mk_ hy157
        clear hy157
        replace H:=Option.bind_eq_some_iff.mp H
        obtain ⟨⟨t160,t161⟩,A560,H⟩:=H
        replace H : (if x7_1.length < 8796093022208 then (some (t110,t115,(x7_1 ++ [(⟨x8_1,t160⟩ : S35)]),t161)) else (none)) = some (r1,r2,r3,r4):=H
        have A56:=mk_ A560
        clear A560
        by_cases c57 : x7_1.length < 8796093022208
        ·rw [if_pos c57] at H
         have LMc57:=mk_ c57
         clear c57
         obtain ⟨y162,hy162⟩ : ∃ y_ : List (S35),y_ = (x7_1 ++ [(⟨x8_1,t160⟩ : S35)]):=⟨_,rfl⟩
         replace H : (some (t110,t115,y162,t161)) = some (r1,r2,r3,r4):=by first|(rw [hy162];with_reducible exact H)|(have H2_:=(Option.bind_some _ _).symm.trans H;rw [hy162];with_reducible exact H2_)|(have H2_:=(Option.bind_some _ _).symm.trans H;with_reducible exact H2_)|with_reducible exact H|(rw [hy162];exact H)|exact H
         have Ny162:=mk_ hy162
         clear hy162
         simp only [Option.some.injEq,Prod.mk.injEq] at H
         obtain ⟨rfl,rfl,rfl,rfl⟩:=H
         go_wp2_with (first|((with_reducible refine gate_callee (f:=53) rfl ?_);refine goesL_ (some 43) rfl rfl Try.func53 (by kernel_rfl) rfl #[.pointer (some ⟨g,0,none⟩),.int .i64 75] rfl qm_ ?_;(with_reducible refine (spec_l21Rd_pick.calls k1 g s0_0 x1001_1 75 t142 t143 w0 _ ?side1 ?side2 A36.out).mono ?_);(case side1 => exact u0_ HI0);(case side2 => exact u2_ HB HI0);rintro e w58 ⟨rfl,hi,hb,hk⟩;refine ⟨_,rfl,?_⟩;have n0_:=mk_ (rm_ (Kd.R_keep (IsS72.apart (show IsS72 w0 _ g s0_0 x1001_1 from u0_ HI0) (qr_ HO_7) (by decide)) hk (fun _ h => h.2)) (fun _ h => h.1));have n1_:=mk_ (KeepBut.trans (u1_ HK) hk (.inl rfl));have n2_:=mk_ (hb);have n3_:=mk_ (hi);clear HO_7 HK HB HI0;have HO_7:=n0_;have HK:=n1_;have HB:=n2_;have HI0:=n3_;clear n0_ n1_ n2_ n3_;(try clear hb);(try clear hb2);(try clear hk);(try clear hi))|((with_reducible refine gate_dst (N:=65) rfl ?_);refine Kd.R_lit (Kd.int .i64) _ 3 ?hg (N:=65) ?hd (xs:=([0,51] : List Int)) (inner:=[.int .i64 0,.int .i64 51]) (ok:=fun _ => True) (okp:=fun _ => True) ?hr ?hp (fun _ hk => hk) trivial (Below.refl _ _) (Nat.le_refl _) (by simp) ?_;(case hd => rfl);(case hg => rfl);(case hr => first|(go_simp;done)|(go_simp;rfl));(case hp => exact (Reps.one (show Kd.M (Kd.int .i64) _ _ _ 0 [.int .i64 0] from rfl) (Reps.one (show Kd.M (Kd.int .i64) _ _ _ 51 [.int .i64 51] from rfl) (Reps.none _ _))));intro v158 w59 ho60 hb hg_ hnew_;clear hg_ hnew_;(first|rw [← Ny157.out] at ho60|(simp only [Int.reduceToNat] at ho60;rw [← Ny157.out] at ho60));have n0_:=mk_ (rb_ (qr_ HO_7) hb);have n1_:=mk_ (Kd.R_lower ho60 (keep_size (w:=w) (g:=g) (row:=none) (u1_ HK)));have n2_:=mk_ (IsS72.below (u0_ HI0) hb);have n3_:=mk_ (KeepBut.trans (u1_ HK) (KeepBut.of_below hb g none) (.inl rfl));have n4_:=mk_ (st_ (u2_ HB HI0) hb);clear HO_7 HI0 HK HB;have HO_7:=n0_;have HO159:=n1_;have HI0:=n2_;have HK:=n3_;have HB:=n4_;clear n0_ n1_ n2_ n3_ n4_ hb ho60;obtain ⟨Ao61,co61,eo61⟩:=Kd.R_slice HO159.out;subst eo61)|((with_reducible refine gate_callee (f:=52) rfl ?_);refine goesL_ (some 66) rfl rfl Try.func52 (by kernel_rfl) rfl #[.pointer (some ⟨g,0,none⟩),.slice Ao61 y157.length co61] rfl qm_ ?_;(with_reducible refine (spec_l21Rd_num.calls k1 g s0_0 t143 _ _ y157 t160 t161 w0 _ ?side1 ?side2 ?side3 ?side4 ?side5 A56.out).mono ?_);(case side1 => exact u0_ HI0);(case side2 => exact u2_ HB HI0);(case side3 => repeat (first|exact (rr_ HO159.out).2.2|(with_reducible refine ca_ ?_ _)|(with_reducible refine cn_ ?_ _)|(with_reducible refine cd_ ?_)));(case side4 => exact (rr_ HO159.out).2.1);(case side5 => exact far_slice (IsS72.own_ne HI0.out HO159.out (by decide)));rintro e w62 ⟨rfl,hi,hb,hk⟩;refine ⟨_,rfl,?_⟩;have n0_:=mk_ (rm_ (Kd.R_keep (IsS72.apart (show IsS72 w0 _ g s0_0 t143 from u0_ HI0) (qr_ HO_7) (by decide)) hk (fun _ h => h.2)) (fun _ h => h.1));have n1_:=mk_ (rm_ (Kd.R_keep (IsS72.apart (show IsS72 w0 _ g s0_0 t143 from u0_ HI0) (qr_ HO159) (by decide)) hk (fun _ h => h.2)) (fun _ h => h.1));have n2_:=mk_ (KeepBut.trans (u1_ HK) hk (.inl rfl));have n3_:=mk_ (hb);have n4_:=mk_ (hi);clear HO_7 HO159 HK HB HI0;have HO_7:=n0_;have HO159:=n1_;have HK:=n2_;have HB:=n3_;have HI0:=n4_;clear n0_ n1_ n2_ n3_ n4_;(try clear hb);(try clear hb2);(try clear hk);(try clear hi))|((with_reducible refine gate_builtin (b:=.append) (xs:=#[.tmp 62,.tmp 68]) rfl ?_);at_builtin;refine Kd.R_append k35 w.heap.size rfl (.tmp 62) (.tmp 68) 25 35 (.agg #[(.int .i64 0),(.int .i64 0)]) 16 rfl Try.underlying25 info35 rfl (by decide) (by omega) u7 x7_1 (⟨x8_1,t160⟩ : S35) [.int .i64 x8_1,.int .i64 t160] (fun _ => True) (fun _ => False) rfl rfl ?aP (fun _ hk => hk.elim) ?aF ?aO (Below.refl _ _) ?aS ?aL ?_;(case aP => exact k35_mkM _ _ _ (⟨x8_1,t160⟩ : S35));(case aF => exact (fun _ _ => trivial));(case aO => exact (qr_ HO_7));(case aS => exact (keep_size (w:=w) (g:=g) (row:=none) (u1_ HK)));(case aL => have:=LMc57.out;omega);intro v163 w63 ho hb hg hat;rw [← Ny162.out] at ho;have n0_:=mk_ (IsS72.grown (u0_ HI0) hg (IsS72.own_ne HI0.out HO_7.out (by decide)));have n1_:=mk_ (Kd.R_over' (qr_ HO159) (Kd.R_typed (qr_ HO_7)) (by decide) hg);have n2_:=mk_ (below_weaken (u2_ HB HI0) HL.out hb);have n3_:=mk_ (KeepBut.trans (u1_ HK) (KeepBut.of_grown hg g) (Kd.R_base2 HO_7.out));have n4_:=mk_ (ho);clear HI0 HO159 HB HK HO_7;have HI0:=n0_;have HO159:=n1_;have HB:=n2_;have HK:=n3_;have HO164:=n4_;clear n0_ n1_ n2_ n3_ n4_ ho hb hg hat))
         go_ret3
         exact ⟨_,qe_,qr_ HO164,u0_ HI0,u2_ HB HI0,u1_ HK⟩
        ·rw [if_neg c57] at H
         exact absurd H (by simp)
       ·rw [if_neg c55] at H
        have c55b0 : (t142 == 3) = false:=beq_eq_false_iff_ne.mpr c55
        have c55b1 : (t142 != 3) = true:=bne_iff_ne.mpr c55
        by_cases c64 : t142 = 4
        ·rw [if_pos c64] at H
         have c64b0 : (t142 == 4) = true:=beq_iff_eq.mpr c64
         have c64b1 : (t142 != 4) = false:=bne_eq_false_iff_eq.mpr c64
         clear c64
         by_cases c65 : x7_1.length < 8796093022208
         ·rw [if_pos c65] at H
          have LMc65:=mk_ c65
          clear c65
          obtain ⟨y165,hy165⟩ : ∃ y_ : List (S35),y_ = (x7_1 ++ [(⟨2001,1⟩ : S35)]):=⟨_,rfl⟩
          replace H : (some (t110,t115,y165,t143)) = some (r1,r2,r3,r4):=by first|(rw [hy165];with_reducible exact H)|(have H2_:=(Option.bind_some _ _).symm.trans H;rw [hy165];with_reducible exact H2_)|(have H2_:=(Option.bind_some _ _).symm.trans H;with_reducible exact H2_)|with_reducible exact H|(rw [hy165];exact H)|exact H
          have Ny165:=mk_ hy165
          clear hy165
          simp only [Option.some.injEq,Prod.mk.injEq] at H
          obtain ⟨rfl,rfl,rfl,rfl⟩:=H
          go_wp2_with (first|((with_reducible refine gate_callee (f:=53) rfl ?_);refine goesL_ (some 43) rfl rfl Try.func53 (by kernel_rfl) rfl #[.pointer (some ⟨g,0,none⟩),.int .i64 75] rfl qm_ ?_;(with_reducible refine (spec_l21Rd_pick.calls k1 g s0_0 x1001_1 75 t142 t143 w0 _ ?side1 ?side2 A36.out).mono ?_);(case side1 => exact u0_ HI0);(case side2 => exact u2_ HB HI0);rintro e w66 ⟨rfl,hi,hb,hk⟩;refine ⟨_,rfl,?_⟩;have n0_:=mk_ (rm_ (Kd.R_keep (IsS72.apart (show IsS72 w0 _ g s0_0 x1001_1 from u0_ HI0) (qr_ HO_7) (by decide)) hk (fun _ h => h.2)) (fun _ h => h.1));have n1_:=mk_ (KeepBut.trans (u1_ HK) hk (.inl rfl));have n2_:=mk_ (hb);have n3_:=mk_ (hi);clear HO_7 HK HB HI0;have HO_7:=n0_;have HK:=n1_;have HB:=n2_;have HI0:=n3_;clear n0_ n1_ n2_ n3_;(try clear hb);(try clear hb2);(try clear hk);(try clear hi))|((with_reducible refine gate_builtin (b:=.append) (xs:=#[.tmp 72,.tmp 74]) rfl ?_);at_builtin;refine Kd.R_append k35 w.heap.size rfl (.tmp 72) (.tmp 74) 25 35 (.agg #[(.int .i64 0),(.int .i64 0)]) 16 rfl Try.underlying25 info35 rfl (by decide) (by omega) u7 x7_1 (⟨2001,1⟩ : S35) [.int .i64 2001,.int .i64 1] (fun _ => True) (fun _ => False) rfl rfl ?aP (fun _ hk => hk.elim) ?aF ?aO (Below.refl _ _) ?aS ?aL ?_;(case aP => exact k35_mkM _ _ _ (⟨2001,1⟩ : S35));(case aF => exact (fun _ _ => trivial));(case aO => exact (qr_ HO_7));(case aS => exact (keep_size (w:=w) (g:=g) (row:=none) (u1_ HK)));(case aL => have:=LMc65.out;omega);intro v166 w67 ho hb hg hat;rw [← Ny165.out] at ho;have n0_:=mk_ (IsS72.grown (u0_ HI0) hg (IsS72.own_ne HI0.out HO_7.out (by decide)));have n1_:=mk_ (below_weaken (u2_ HB HI0) HL.out hb);have n2_:=mk_ (KeepBut.trans (u1_ HK) (KeepBut.of_grown hg g) (Kd.R_base2 HO_7.out));have n3_:=mk_ (ho);clear HI0 HB HK HO_7;have HI0:=n0_;have HB:=n1_;have HK:=n2_;have HO167:=n3_;clear n0_ n1_ n2_ n3_ ho hb hg hat))
          go_ret3
          exact ⟨_,qe_,qr_ HO167,u0_ HI0,u2_ HB HI0,u1_ HK⟩
         ·rw [if_neg c65] at H
          exact absurd H (by simp)
        ·rw [if_neg c64] at H
         have c64b0 : (t142 == 4) = false:=beq_eq_false_iff_ne.mpr c64
         have c64b1 : (t142 != 4) = true:=bne_iff_ne.mpr c64
         simp only [Option.some.injEq,Prod.mk.injEq] at H
         obtain ⟨rfl,rfl,rfl,rfl⟩:=H
         go_wp2_with (first|((with_reducible refine gate_callee (f:=53) rfl ?_);refine goesL_ (some 43) rfl rfl Try.func53 (by kernel_rfl) rfl #[.pointer (some ⟨g,0,none⟩),.int .i64 75] rfl qm_ ?_;(with_reducible refine (spec_l21Rd_pick.calls k1 g s0_0 x1001_1 75 t142 t143 w0 _ ?side1 ?side2 A36.out).mono ?_);(case side1 => exact u0_ HI0);(case side2 => exact u2_ HB HI0);rintro e w68 ⟨rfl,hi,hb,hk⟩;refine ⟨_,rfl,?_⟩;have n0_:=mk_ (rm_ (Kd.R_keep (IsS72.apart (show IsS72 w0 _ g s0_0 x1001_1 from u0_ HI0) (qr_ HO_7) (by decide)) hk (fun _ h => h.2)) (fun _ h => h.1));have n1_:=mk_ (KeepBut.trans (u1_ HK) hk (.inl rfl));have n2_:=mk_ (hb);have n3_:=mk_ (hi);clear HO_7 HK HB HI0;have HO_7:=n0_;have HK:=n1_;have HB:=n2_;have HI0:=n3_;clear n0_ n1_ n2_ n3_;(try clear hb);(try clear hb2);(try clear hk);(try clear hi)))
         go_ret3
         exact ⟨_,qe_,qr_ HO_7,u0_ HI0,u2_ HB HI0,u1_ HK⟩

/-! ### spec_l21Open: function 49 -/
def spec_l21Open.f (l0 : List Int) : Option (List Int × Int):=if (l0.length : Int) > 2000 then (if 2000 ≤ (l0.length : Int) then (some (l0.take 2000,0)) else (none)) else (some (l0,0))
set_option maxHeartbeats 8000000 in
set_option maxRecDepth 100000 in
theorem spec_l21Open.calls (A0 : Option Addr) (c0 : Nat) (l0 : List Int) (r1 : List Int) (r2 : Int) (w0 w : World) (hB : Below w0.heap.size w0 w) (hr0 : Kd.C (Kd.int .u8) w0 A0 l0.length l0) (hc0 : l0.length ≤ c0) (h : spec_l21Open.f l0 = some (r1,r2)) :
  Calls Try.prog 49 #[.slice A0 l0.length c0] w fun e w' => ∃ g_ : Nat,e = .returned (.pointer (some ⟨g_,0,none⟩)) ∧ IsS72 w0 w' g_ r1 r2 ∧ Below w0.heap.size w0 w' ∧ Below w.heap.size w w':=by
 have hu72:=Try.underlying72
 have HR0:=mk_ hr0
 have HC0:=mk_ hc0
 clear hr0 hc0
 have HBW:=mk_ (Below.refl w.heap.size w)
 have HW0:=mk_ hB.size
 have HB:=mk_ hB
 clear hB
 have H : (if (l0.length : Int) > 2000 then (if 2000 ≤ (l0.length : Int) then (some (l0.take 2000,0)) else (none)) else (some (l0,0))) = some (r1,r2):=h
 clear h
 by_cases c2 : (l0.length : Int) > 2000
 ·rw [if_pos c2] at H
  have c2b0 : decide (2000 < (l0.length : Int)) = true:=decide_eq_true c2
  have c2b1 : decide (2000 < l0.length) = true:=decide_eq_true (by omega)
  clear c2
  by_cases c3 : 2000 ≤ (l0.length : Int)
  ·rw [if_pos c3] at H
   have c3b0:=eq_true c3
   have c3b1 : decide (2000 ≤ (l0.length : Int)) = true:=decide_eq_true c3
   clear c3
   simp only [Option.some.injEq,Prod.mk.injEq] at H
   obtain ⟨rfl,rfl⟩:=H
   obtain ⟨i04,hi04,_,hsz4,_⟩:=info_parts info5
   obtain ⟨hcut4,hA4,hC4⟩:=print_take_of (P:=Try.prog) (Value.int .u8) 0 29 5 .i64 Try.underlying29 hi04 hsz4 A0 c0 l0 2000 (by omega) (od_ qa_) HC0.out
   have HR168:=mk_ (Kd.C_of_reads (h1:=fun _ => rfl) (hA4 _ (Kd.reads_of_C HR0.out)))
   have HC168:=mk_ hC4
   clear hA4 hC4 hi04 hsz4
   go_enter Try.func49,Try.ntmps49
   go_wp2_with (first|((with_reducible refine gate_dst (N:=10) rfl ?_);refine box_event ?hg (N:=10) ?hd (cs:=#[.slice A0 (l0.take 2000).length c0,.int .i64 0]) (t:=72) ?hr ?_;(case hd => rfl);(case hg => rfl);(case hr => first|(go_simp;done)|(go_simp;rfl));intro gb169 hg w5 hbox hb;have n0_:=mk_ (st_ HBW.out hb);have n1_:=mk_ (st_ (qb_ HB) hb);have n2_:=mk_ (hbox);have n3_:=mk_ ((by rw [hg];exact (bz_ (u3_ HBW)) : w.heap.size ≤ gb169));have n4_:=mk_ ((Nat.le_trans HW0.out (by rw [hg];exact (bz_ (u3_ HBW)) : w.heap.size ≤ gb169) : w0.heap.size ≤ gb169));clear HBW HB;have HBW:=n0_;have HB:=n1_;have BK169:=n2_;have GW169:=n3_;have GE169:=n4_;clear n0_ n1_ n2_ n3_ n4_ hb hbox hg))
   go_ret
   exact ⟨_,rfl,(show IsS72 w0 _ gb169 (l0.take 2000) 0 from ⟨_,_,qk_ BK169,GE169.out,HR168.out⟩),u4_ HB GE169,u4_ HBW GW169⟩
  ·rw [if_neg c3] at H
   exact absurd H (by simp)
 ·rw [if_neg c2] at H
  have c2b0 : decide (2000 < (l0.length : Int)) = false:=decide_eq_false c2
  have c2b1 : decide (2000 < l0.length) = false:=decide_eq_false (by omega)
  clear c2
  simp only [Option.some.injEq,Prod.mk.injEq] at H
  obtain ⟨rfl,rfl⟩:=H
  go_enter Try.func49,Try.ntmps49
  go_wp2_with (first|((with_reducible refine gate_dst (N:=10) rfl ?_);refine box_event ?hg (N:=10) ?hd (cs:=#[.slice A0 l0.length c0,.int .i64 0]) (t:=72) ?hr ?_;(case hd => rfl);(case hg => rfl);(case hr => first|(go_simp;done)|(go_simp;rfl));intro gb170 hg w6 hbox hb;have n0_:=mk_ (st_ HBW.out hb);have n1_:=mk_ (st_ (qb_ HB) hb);have n2_:=mk_ (hbox);have n3_:=mk_ ((by rw [hg];exact (bz_ (u3_ HBW)) : w.heap.size ≤ gb170));have n4_:=mk_ ((Nat.le_trans HW0.out (by rw [hg];exact (bz_ (u3_ HBW)) : w.heap.size ≤ gb170) : w0.heap.size ≤ gb170));clear HBW HB;have HBW:=n0_;have HB:=n1_;have BK170:=n2_;have GW170:=n3_;have GE170:=n4_;clear n0_ n1_ n2_ n3_ n4_ hb hbox hg))
  go_ret
  exact ⟨_,rfl,(show IsS72 w0 _ gb170 l0 0 from ⟨_,_,qk_ BK170,GE170.out,HR0.out⟩),u4_ HB GE170,u4_ HBW GW170⟩

/-! ### spec_DrawPolicePulses: function 19 -/
def spec_DrawPolicePulses.f (k : Nat) (l0 : List Int) : Option (Int × Int × (List (S35))):=(spec_l21Open.f l0).bind fun bt171 => ((spec_l14Draw.f k bt171.1 bt171.2).bind fun bt174 => (some (bt174.1,bt174.2.1,bt174.2.2.1)))
theorem spec_DrawPolicePulses.mono : ∀ a0 k,LeO (spec_DrawPolicePulses.f k a0) (spec_DrawPolicePulses.f (k + 1) a0):=by
 intro a0 k
 unfold spec_DrawPolicePulses.f
 repeat' first
   | (with_reducible exact spec_l14Draw.mono _ _ _)
   | (with_reducible exact LeO.refl _)
   | (with_reducible exact LeO.none _)
   | (with_reducible refine LeO.ite ?_ ?_)
   | (with_reducible refine LeO.bind ?_ (fun _ => ?_))
   | exact spec_l14Draw.mono _ _ _
   | exact LeO.none _
   | refine LeO.ite ?_ ?_
   | refine LeO.bind ?_ (fun _ => ?_)
set_option maxHeartbeats 8000000 in
set_option maxRecDepth 100000 in
theorem spec_DrawPolicePulses.calls (k : Nat) (A0 : Option Addr) (c0 : Nat) (l0 : List Int) (r1 : Int) (r2 : Int) (r3 : List (S35)) (w : World) (hr0 : Kd.C (Kd.int .u8) w A0 l0.length l0) (hc0 : l0.length ≤ c0) (h : spec_DrawPolicePulses.f k l0 = some (r1,r2,r3)) :
  Calls Try.prog 19 #[.slice A0 l0.length c0] w fun e w' => ∃ v2_ : Value,e = .returned (.tuple #[.int .i64 r1,.int .i64 r2,v2_]) ∧ Kd.R k35 35 w' w.heap.size (fun _ => True) v2_ r3 ∧ Below w.heap.size w w':=by
 have HR0:=mk_ hr0
 have HC0:=mk_ hc0
 clear hr0 hc0
 have HB:=mk_ (Below.refl w.heap.size w)
 have H : ((spec_l21Open.f l0).bind fun bt171 => ((spec_l14Draw.f k bt171.1 bt171.2).bind fun bt174 => (some (bt174.1,bt174.2.1,bt174.2.2.1)))) = some (r1,r2,r3):=h
 clear h
 replace H:=Option.bind_eq_some_iff.mp H
 obtain ⟨⟨t171,t172⟩,A20,H⟩:=H
 replace H : ((spec_l14Draw.f k t171 t172).bind fun bt174 => (some (bt174.1,bt174.2.1,bt174.2.2.1))) = some (r1,r2,r3):=H
 have A2:=mk_ A20
 clear A20
 replace H:=Option.bind_eq_some_iff.mp H
 obtain ⟨⟨t174,t175,t176,t179⟩,A30,H⟩:=H
 replace H : (some (t174,t175,t176)) = some (r1,r2,r3):=H
 have A3:=mk_ A30
 clear A30
 simp only [Option.some.injEq,Prod.mk.injEq] at H
 obtain ⟨rfl,rfl,rfl⟩:=H
 go_enter Try.func19,Try.ntmps19
 go_wp2_with (first|((with_reducible refine gate_callee (f:=49) rfl ?_);refine goesL_ (some 6) rfl rfl Try.func49 (by kernel_rfl) rfl #[.slice A0 l0.length c0] rfl qm_ ?_;(with_reducible refine (spec_l21Open.calls _ _ l0 t171 t172 w _ ?side1 ?side2 ?side3 A2.out).mono ?_);(case side1 => exact u3_ HB);(case side2 => exact HR0.out);(case side3 => exact HC0.out);rintro e w4 ⟨g173,rfl,hi,hb,hb2⟩;refine ⟨_,rfl,?_⟩;have n0_:=mk_ (hb);have n1_:=mk_ (hi);clear HB;have HB:=n0_;have HI173:=n1_;clear n0_ n1_;(try clear hb);(try clear hb2);(try clear hk);(try clear hi))|((with_reducible refine gate_callee (f:=48) rfl ?_);refine goesL_ (some 7) rfl rfl Try.func48 (by kernel_rfl) rfl #[.pointer (some ⟨g173,0,none⟩)] rfl qm_ ?_;(with_reducible refine (spec_l14Draw.calls k g173 t171 t172 t174 t175 t176 t179 w _ ?side1 ?side2 A3.out).mono ?_);(case side1 => exact u0_ HI173);(case side2 => exact u2_ HB HI173);rintro e w5 ⟨v177,rfl,ho0,hi,hb,hk⟩;refine ⟨_,rfl,?_⟩;have n0_:=mk_ (Kd.R_lower ho0 (bz_ (u2_ HB HI173)));have n1_:=mk_ (hb);have n2_:=mk_ (hi);clear HB HI173;have HO178:=n0_;have HB:=n1_;have HI173:=n2_;clear n0_ n1_ n2_;(try clear hb);(try clear hb2);(try clear hk);(try clear hi);(try clear ho0)))
 go_ret3
 exact ⟨_,qe_,qr_ HO178,u2_ HB HI173⟩

/-! ### impl_within: function 44 -/
def impl_within.f (a0 : Int) (a1 : Int) (a2 : Int) : Option (Bool):=if a1 ≤ a0 then (some (decide (a0 ≤ a2))) else (some false)
set_option maxHeartbeats 8000000 in
set_option maxRecDepth 100000 in
theorem impl_within.calls (a0 : Int) (a1 : Int) (a2 : Int) (r : Bool) (w : World) (h : impl_within.f a0 a1 a2 = some r) :
  Calls Try.prog 44 #[.int .i64 a0,.int .i64 a1,.int .i64 a2] w fun e w' => e = .returned (.bool r) ∧ Drawn0 w w':=by
 have H : (if a1 ≤ a0 then (some (decide (a0 ≤ a2))) else (some false)) = some r:=h
 clear h
 by_cases c4 : a1 ≤ a0
 ·rw [if_pos c4] at H
  have c4b0 : decide (a1 ≤ a0) = true:=decide_eq_true c4
  clear c4
  obtain rfl:=Option.some.inj H
  go_enter Try.func44,Try.ntmps44
  go_wp2
  go_ret
  exact ⟨by first|rfl|(simp;done)|(simp [*];done),by repeat (first|exact Drawn0.refl _|apply Drawn0.step)⟩
 ·rw [if_neg c4] at H
  have c4b0 : decide (a1 ≤ a0) = false:=decide_eq_false c4
  clear c4
  obtain rfl:=Option.some.inj H
  go_enter Try.func44,Try.ntmps44
  go_wp2
  go_ret
  exact ⟨by first|rfl|(simp;done)|(simp [*];done),by repeat (first|exact Drawn0.refl _|apply Drawn0.step)⟩

/-! ### impl_PulsesValid: function 33 -/
def impl_PulsesValid.l0 : Nat → List (S35) → List (S35) → Int → Int → Option (Bool)
 | 0,_,_,_,_ => none
 | k + 1,x0,x5,x6,x7 => if x7 < x6 then (if 0 ≤ x7 then (if x7 < (x5.length : Int) then ((impl_within.f ((rd_T35 x5 x7).f0) 0 2000).bind fun t182 => (if t182 = true then ((impl_within.f ((rd_T35 x5 x7).f1) 1 50).bind fun t183 => (if t183 = true then (if x7 > 0 then (if 0 ≤ (wrap64 (x7 - 1)) then (if (wrap64 (x7 - 1)) < (x0.length : Int) then (if ((rd_T35 x5 x7).f0) < ((rd_T35 x0 (wrap64 (x7 - 1))).f0) then (some false) else (impl_PulsesValid.l0 k x0 x5 x6 (wrap64 (x7 + 1)))) else (none)) else (none)) else (impl_PulsesValid.l0 k x0 x5 x6 (wrap64 (x7 + 1)))) else (some false))) else (some false))) else (none)) else (none)) else (some (decide ((x0.length : Int) ≤ 60)))
def impl_PulsesValid.f (k : Nat) (l0 : List (S35)) : Option (Bool):=impl_PulsesValid.l0 k l0 l0 (l0.length : Int) 0
theorem impl_PulsesValid.mono_l : ∀ k,(∀ y0 y1 y2 y3,LeO (impl_PulsesValid.l0 k y0 y1 y2 y3) (impl_PulsesValid.l0 (k + 1) y0 y1 y2 y3))
 | 0 => fun _ _ _ _ r h => by simp [impl_PulsesValid.l0] at h
 | k + 1 => by
  have ih0:=impl_PulsesValid.mono_l k
  ·intro y0 y1 y2 y3
   unfold impl_PulsesValid.l0
   repeat' first
   | (with_reducible exact ih0 _ _ _ _)
   | (with_reducible exact LeO.refl _)
   | (with_reducible exact LeO.none _)
   | (with_reducible refine LeO.ite ?_ ?_)
   | (with_reducible refine LeO.bind ?_ (fun _ => ?_))
   | exact ih0 _ _ _ _
   | exact LeO.none _
   | refine LeO.ite ?_ ?_
   | refine LeO.bind ?_ (fun _ => ?_)
theorem impl_PulsesValid.mono : ∀ a0 k,LeO (impl_PulsesValid.f k a0) (impl_PulsesValid.f (k + 1) a0):=by
 intro a0 k
 have ih0:=impl_PulsesValid.mono_l k
 unfold impl_PulsesValid.f
 repeat' first
   | (with_reducible exact ih0 _ _ _ _)
   | (with_reducible exact LeO.refl _)
   | (with_reducible exact LeO.none _)
   | (with_reducible refine LeO.ite ?_ ?_)
   | (with_reducible refine LeO.bind ?_ (fun _ => ?_))
   | exact ih0 _ _ _ _
   | exact LeO.none _
   | refine LeO.ite ?_ ?_
   | refine LeO.bind ?_ (fun _ => ?_)
set_option maxHeartbeats 8000000 in
set_option maxRecDepth 100000 in
theorem impl_PulsesValid.calls (k : Nat) (A0 : Option Addr) (c0 : Nat) (l0 : List (S35)) (r : Bool) (w : World) (hr0 : Kd.C k35 w A0 l0.length l0) (hc0 : l0.length ≤ c0) (h : impl_PulsesValid.f k l0 = some r) :
  Calls Try.prog 33 #[.slice A0 l0.length c0] w fun e w' => e = .returned (.bool r) ∧ Below w.heap.size w w':=by
 have hu35:=Try.underlying35
 have HR0:=mk_ hr0
 have HC0:=mk_ hc0
 clear hr0 hc0
 have HB:=mk_ (Below.refl w.heap.size w)
 have H : (impl_PulsesValid.l0 k l0 l0 (l0.length : Int) 0) = some r:=h
 clear h
 have H':=mk_ H
 clear H
 go_enter Try.func33,Try.ntmps33
 go_wp2
 repeat (go_quiet (fail);try go_wp2)
 go_loopg [7] k (fun kq v7 w' => ∃ (x7_1 : Int),v7 = .int .i64 x7_1 ∧ Aside0 (impl_PulsesValid.l0 kq l0 l0 (l0.length : Int) x7_1 = some r) ∧ Aside0 (kq ≤ k) ∧ Aside0 (Below w.heap.size w w'))
 case atStart => exact ⟨(0),qf_,H',⟨Nat.le_refl _⟩,⟨u3_ HB⟩⟩
 case round =>
  clear H'
  obtain ⟨x7_1,rfl,HA,HK1,HB⟩:=hrel
  cases gk with
  | zero => exact absurd HA.out (by simp [impl_PulsesValid.l0])
  | succ k1 =>
   have H:=HA.out
   clear HA
   simp only [impl_PulsesValid.l0] at H
   by_cases c2 : x7_1 < (l0.length : Int)
   ·rw [if_pos c2] at H
    have c2b0 : decide (x7_1 < (l0.length : Int)) = true:=decide_eq_true c2
    clear c2
    by_cases c3 : 0 ≤ x7_1
    ·rw [if_pos c3] at H
     have c3b0 : decide (0 ≤ x7_1) = true:=decide_eq_true c3
     clear c3
     by_cases c4 : x7_1 < (l0.length : Int)
     ·rw [if_pos c4] at H
      have c4b0 : decide (x7_1 < (l0.length : Int)) = true:=decide_eq_true c4
      clear c4
      replace H:=Option.bind_eq_some_iff.mp H
      obtain ⟨t182,A50,H⟩:=H
      replace H : (if t182 = true then ((impl_within.f ((rd_T35 l0 x7_1).f1) 1 50).bind fun t183 => (if t183 = true then (if x7_1 > 0 then (if 0 ≤ (wrap64 (x7_1 - 1)) then (if (wrap64 (x7_1 - 1)) < (l0.length : Int) then (if ((rd_T35 l0 x7_1).f0) < ((rd_T35 l0 (wrap64 (x7_1 - 1))).f0) then (some false) else (impl_PulsesValid.l0 k1 l0 l0 (l0.length : Int) (wrap64 (x7_1 + 1)))) else (none)) else (none)) else (impl_PulsesValid.l0 k1 l0 l0 (l0.length : Int) (wrap64 (x7_1 + 1)))) else (some false))) else (some false)) = some r:=H
      have A5:=mk_ A50
      clear A50
      by_cases c6 : t182 = true
      ·subst c6
       have H1 : ((impl_within.f ((rd_T35 l0 x7_1).f1) 1 50).bind fun t183 => (if t183 = true then (if x7_1 > 0 then (if 0 ≤ (wrap64 (x7_1 - 1)) then (if (wrap64 (x7_1 - 1)) < (l0.length : Int) then (if ((rd_T35 l0 x7_1).f0) < ((rd_T35 l0 (wrap64 (x7_1 - 1))).f0) then (some false) else (impl_PulsesValid.l0 k1 l0 l0 (l0.length : Int) (wrap64 (x7_1 + 1)))) else (none)) else (none)) else (impl_PulsesValid.l0 k1 l0 l0 (l0.length : Int) (wrap64 (x7_1 + 1)))) else (some false))) = some r:=by rw [if_pos rfl] at H;exact H
       clear H
       have H:=H1
       clear H1
       replace H:=Option.bind_eq_some_iff.mp H
       obtain ⟨t183,A70,H⟩:=H
       replace H : (if t183 = true then (if x7_1 > 0 then (if 0 ≤ (wrap64 (x7_1 - 1)) then (if (wrap64 (x7_1 - 1)) < (l0.length : Int) then (if ((rd_T35 l0 x7_1).f0) < ((rd_T35 l0 (wrap64 (x7_1 - 1))).f0) then (some false) else (impl_PulsesValid.l0 k1 l0 l0 (l0.length : Int) (wrap64 (x7_1 + 1)))) else (none)) else (none)) else (impl_PulsesValid.l0 k1 l0 l0 (l0.length : Int) (wrap64 (x7_1 + 1)))) else (some false)) = some r:=H
       have A7:=mk_ A70
       clear A70
       by_cases c8 : t183 = true
       ·subst c8
        have H1 : (if x7_1 > 0 then (if 0 ≤ (wrap64 (x7_1 - 1)) then (if (wrap64 (x7_1 - 1)) < (l0.length : Int) then (if ((rd_T35 l0 x7_1).f0) < ((rd_T35 l0 (wrap64 (x7_1 - 1))).f0) then (some false) else (impl_PulsesValid.l0 k1 l0 l0 (l0.length : Int) (wrap64 (x7_1 + 1)))) else (none)) else (none)) else (impl_PulsesValid.l0 k1 l0 l0 (l0.length : Int) (wrap64 (x7_1 + 1)))) = some r:=by rw [if_pos rfl] at H;exact H
        clear H
        have H:=H1
        clear H1
        by_cases c9 : x7_1 > 0
        ·rw [if_pos c9] at H
         have c9b0 : decide (0 < x7_1) = true:=decide_eq_true c9
         clear c9
         obtain ⟨ji10,hji10⟩ : ∃ j_ : Int,(wrap64 (x7_1 - 1)) = j_:=⟨_,rfl⟩
         replace H : (if 0 ≤ (ji10) then (if (ji10) < (l0.length : Int) then (if ((rd_T35 l0 x7_1).f0) < ((rd_T35 l0 (ji10)).f0) then (some false) else (impl_PulsesValid.l0 k1 l0 l0 (l0.length : Int) (wrap64 (x7_1 + 1)))) else (none)) else (none)) = some r:=by first|(rw [hji10] at H;exact H)|(simp only [hji10] at H ⊢;exact H)
         (try rw [hji10] at A5)
         (try rw [hji10] at A7)
         have hji10w : (IntKind.i64.wrap (x7_1 - 1)) = ji10:=(i64_w _).trans hji10
         by_cases c11 : 0 ≤ (ji10)
         ·rw [if_pos c11] at H
          have c11b0 : decide (0 ≤ (ji10)) = true:=decide_eq_true c11
          clear c11
          by_cases c12 : (ji10) < (l0.length : Int)
          ·rw [if_pos c12] at H
           have c12b0 : decide ((ji10) < (l0.length : Int)) = true:=decide_eq_true c12
           clear c12
           by_cases c13 : ((rd_T35 l0 x7_1).f0) < ((rd_T35 l0 (ji10)).f0)
           ·rw [if_pos c13] at H
            have c13b0 : decide (((rd_T35 l0 x7_1).f0) < ((rd_T35 l0 (ji10)).f0)) = true:=decide_eq_true c13
            clear c13
            obtain rfl:=Option.some.inj H
            have p180 : 0 ≤ (x7_1 : Int):=od_ qa_
            have q180 : x7_1 < (l0.length : Int):=od_ qa_
            obtain ⟨ad180,e180,hx180_0,hx180_1⟩:=at_T35 HR0.out x7_1 p180 q180
            cases e180
            replace hx180_0:=(HB.out.cell (wl_ w _ hx180_0)).trans hx180_0
            replace hx180_1:=(HB.out.cell (wl_ w _ hx180_1)).trans hx180_1
            replace p180:=eq_true p180
            replace q180:=eq_true q180
            go_wp2_with (first|((with_reducible refine gate_dst (N:=4) rfl ?_);refine box_event ?hg (N:=4) ?hd (cs:=#[.int .i64 0,.int .i64 0]) (t:=35) ?hr ?_;(case hd => rfl);(case hg => rfl);(case hr => first|(go_simp;done)|(go_simp;rfl));intro gb181 hg w14 hbox hb;have n0_:=mk_ (st_ (qb_ HB) hb);have n1_:=mk_ (hbox);have n2_:=mk_ ((by rw [hg];exact (bz_ (qb_ HB)) : w.heap.size ≤ gb181));have n3_:=mk_ ((by rw [hg];exact (bz_ (qb_ HB)) : w.heap.size ≤ gb181));clear HB;have HB:=n0_;have BK181:=n1_;have GW181:=n2_;have GE181:=n3_;clear n0_ n1_ n2_ n3_ hb hbox hg;have hcz15_0 : w14.cell? ⟨gb181,0,none⟩ = some (.int .i64 0):=(bc_ BK181.out 0).trans rfl;have hcz15_1 : w14.cell? ⟨gb181,1,none⟩ = some (.int .i64 0):=(bc_ BK181.out 1).trans rfl;have hfz15_0:=bf_ BK181.out 0;have hfz15_1:=bf_ BK181.out 1)|(go_at_call 44;(with_reducible refine (impl_within.calls ((rd_T35 l0 x7_1).f0) 0 2000 true _ A5.out).mono ?_);rintro e w' ⟨rfl,⟨nd,rfl⟩⟩;(try first|exact ⟨rfl,_,World.drewN_drewN _ _ _⟩|exact ⟨rfl,_,Eq.trans (World.drewN_drewN _ _ _) (congrArg (World.drewN _) (Nat.add_assoc _ _ _))⟩))|(go_at_call 44;(with_reducible refine (impl_within.calls ((rd_T35 l0 x7_1).f1) 1 50 true _ A7.out).mono ?_);rintro e w' ⟨rfl,⟨nd,rfl⟩⟩;(try first|exact ⟨rfl,_,World.drewN_drewN _ _ _⟩|exact ⟨rfl,_,Eq.trans (World.drewN_drewN _ _ _) (congrArg (World.drewN _) (Nat.add_assoc _ _ _))⟩);have p184 : 0 ≤ ((ji10) : Int):=od_ qa_;have q184 : (ji10) < (l0.length : Int):=od_ qa_;obtain ⟨ad184,e184,hx184_0,hx184_1⟩:=at_T35 HR0.out (ji10) p184 q184;obtain rfl : ad180 = ad184:=(by injection e184);have hn184_0 : ad180.block ≠ gb181:=Nat.ne_of_lt (Nat.lt_of_lt_of_le (by have:=wl_ _ _ hx184_0;first|rwa [add_block] at this|exact this) GW181.out);have hn184_1 : ad180.block ≠ gb181:=Nat.ne_of_lt (Nat.lt_of_lt_of_le (by have:=wl_ _ _ hx184_0;first|rwa [add_block] at this|exact this) GW181.out);replace hx184_0:=(HB.out.cell (wl_ w _ hx184_0)).trans hx184_0;replace hx184_1:=(HB.out.cell (wl_ w _ hx184_1)).trans hx184_1;replace hx184_0:=(cell_far (p:=⟨gb181,0,none⟩) (by first|(rw [add_block];exact hn184_0)|(show (Addr.add _ _).block ≠ _;rw [add_block];exact hn184_0)|exact hn184_0) (.int .i64 ((rd_T35 l0 x7_1).f0))).trans hx184_0;replace hx184_1:=(cell_far (p:=⟨gb181,0,none⟩) (by first|(rw [add_block];exact hn184_0)|(show (Addr.add _ _).block ≠ _;rw [add_block];exact hn184_0)|exact hn184_0) (.int .i64 ((rd_T35 l0 x7_1).f0))).trans hx184_1;replace hx184_0:=(cell_far (p:=⟨gb181,1,none⟩) (by first|(rw [add_block];exact hn184_1)|(show (Addr.add _ _).block ≠ _;rw [add_block];exact hn184_1)|exact hn184_1) (.int .i64 ((rd_T35 l0 x7_1).f1))).trans hx184_0;replace hx184_1:=(cell_far (p:=⟨gb181,1,none⟩) (by first|(rw [add_block];exact hn184_1)|(show (Addr.add _ _).block ≠ _;rw [add_block];exact hn184_1)|exact hn184_1) (.int .i64 ((rd_T35 l0 x7_1).f1))).trans hx184_1;(try have hy184_0:=fun (n_ : Nat) => (show ((((w14.drewN n_).setCell ⟨gb181,0,none⟩ (.int .i64 ((rd_T35 l0 x7_1).f0))).setCell ⟨gb181,1,none⟩ (.int .i64 ((rd_T35 l0 x7_1).f1)))).cell? _ = some _ from hx184_0));(try have hy184_1:=fun (n_ : Nat) => (show ((((w14.drewN n_).setCell ⟨gb181,0,none⟩ (.int .i64 ((rd_T35 l0 x7_1).f0))).setCell ⟨gb181,1,none⟩ (.int .i64 ((rd_T35 l0 x7_1).f1)))).cell? _ = some _ from hx184_1));clear hn184_0 hn184_1;replace p184:=eq_true p184;replace q184:=eq_true q184))
            repeat (go_quiet (first|((with_reducible refine gate_dst (N:=4) rfl ?_);refine box_event ?hg (N:=4) ?hd (cs:=#[.int .i64 0,.int .i64 0]) (t:=35) ?hr ?_;(case hd => rfl);(case hg => rfl);(case hr => first|(go_simp;done)|(go_simp;rfl));intro gb181 hg w14 hbox hb;have n0_:=mk_ (st_ (qb_ HB) hb);have n1_:=mk_ (hbox);have n2_:=mk_ ((by rw [hg];exact (bz_ (qb_ HB)) : w.heap.size ≤ gb181));have n3_:=mk_ ((by rw [hg];exact (bz_ (qb_ HB)) : w.heap.size ≤ gb181));clear HB;have HB:=n0_;have BK181:=n1_;have GW181:=n2_;have GE181:=n3_;clear n0_ n1_ n2_ n3_ hb hbox hg;have hcz15_0 : w14.cell? ⟨gb181,0,none⟩ = some (.int .i64 0):=(bc_ BK181.out 0).trans rfl;have hcz15_1 : w14.cell? ⟨gb181,1,none⟩ = some (.int .i64 0):=(bc_ BK181.out 1).trans rfl;have hfz15_0:=bf_ BK181.out 0;have hfz15_1:=bf_ BK181.out 1)|(go_at_call 44;(with_reducible refine (impl_within.calls ((rd_T35 l0 x7_1).f0) 0 2000 true _ A5.out).mono ?_);rintro e w' ⟨rfl,⟨nd,rfl⟩⟩;(try first|exact ⟨rfl,_,World.drewN_drewN _ _ _⟩|exact ⟨rfl,_,Eq.trans (World.drewN_drewN _ _ _) (congrArg (World.drewN _) (Nat.add_assoc _ _ _))⟩))|(go_at_call 44;(with_reducible refine (impl_within.calls ((rd_T35 l0 x7_1).f1) 1 50 true _ A7.out).mono ?_);rintro e w' ⟨rfl,⟨nd,rfl⟩⟩;(try first|exact ⟨rfl,_,World.drewN_drewN _ _ _⟩|exact ⟨rfl,_,Eq.trans (World.drewN_drewN _ _ _) (congrArg (World.drewN _) (Nat.add_assoc _ _ _))⟩);have p184 : 0 ≤ ((ji10) : Int):=od_ qa_;have q184 : (ji10) < (l0.length : Int):=od_ qa_;obtain ⟨ad184,e184,hx184_0,hx184_1⟩:=at_T35 HR0.out (ji10) p184 q184;obtain rfl : ad180 = ad184:=(by injection e184);have hn184_0 : ad180.block ≠ gb181:=Nat.ne_of_lt (Nat.lt_of_lt_of_le (by have:=wl_ _ _ hx184_0;first|rwa [add_block] at this|exact this) GW181.out);have hn184_1 : ad180.block ≠ gb181:=Nat.ne_of_lt (Nat.lt_of_lt_of_le (by have:=wl_ _ _ hx184_0;first|rwa [add_block] at this|exact this) GW181.out);replace hx184_0:=(HB.out.cell (wl_ w _ hx184_0)).trans hx184_0;replace hx184_1:=(HB.out.cell (wl_ w _ hx184_1)).trans hx184_1;replace hx184_0:=(cell_far (p:=⟨gb181,0,none⟩) (by first|(rw [add_block];exact hn184_0)|(show (Addr.add _ _).block ≠ _;rw [add_block];exact hn184_0)|exact hn184_0) (.int .i64 ((rd_T35 l0 x7_1).f0))).trans hx184_0;replace hx184_1:=(cell_far (p:=⟨gb181,0,none⟩) (by first|(rw [add_block];exact hn184_0)|(show (Addr.add _ _).block ≠ _;rw [add_block];exact hn184_0)|exact hn184_0) (.int .i64 ((rd_T35 l0 x7_1).f0))).trans hx184_1;replace hx184_0:=(cell_far (p:=⟨gb181,1,none⟩) (by first|(rw [add_block];exact hn184_1)|(show (Addr.add _ _).block ≠ _;rw [add_block];exact hn184_1)|exact hn184_1) (.int .i64 ((rd_T35 l0 x7_1).f1))).trans hx184_0;replace hx184_1:=(cell_far (p:=⟨gb181,1,none⟩) (by first|(rw [add_block];exact hn184_1)|(show (Addr.add _ _).block ≠ _;rw [add_block];exact hn184_1)|exact hn184_1) (.int .i64 ((rd_T35 l0 x7_1).f1))).trans hx184_1;(try have hy184_0:=fun (n_ : Nat) => (show ((((w14.drewN n_).setCell ⟨gb181,0,none⟩ (.int .i64 ((rd_T35 l0 x7_1).f0))).setCell ⟨gb181,1,none⟩ (.int .i64 ((rd_T35 l0 x7_1).f1)))).cell? _ = some _ from hx184_0));(try have hy184_1:=fun (n_ : Nat) => (show ((((w14.drewN n_).setCell ⟨gb181,0,none⟩ (.int .i64 ((rd_T35 l0 x7_1).f0))).setCell ⟨gb181,1,none⟩ (.int .i64 ((rd_T35 l0 x7_1).f1)))).cell? _ = some _ from hx184_1));clear hn184_0 hn184_1;replace p184:=eq_true p184;replace q184:=eq_true q184));try go_wp2_with (first|((with_reducible refine gate_dst (N:=4) rfl ?_);refine box_event ?hg (N:=4) ?hd (cs:=#[.int .i64 0,.int .i64 0]) (t:=35) ?hr ?_;(case hd => rfl);(case hg => rfl);(case hr => first|(go_simp;done)|(go_simp;rfl));intro gb181 hg w14 hbox hb;have n0_:=mk_ (st_ (qb_ HB) hb);have n1_:=mk_ (hbox);have n2_:=mk_ ((by rw [hg];exact (bz_ (qb_ HB)) : w.heap.size ≤ gb181));have n3_:=mk_ ((by rw [hg];exact (bz_ (qb_ HB)) : w.heap.size ≤ gb181));clear HB;have HB:=n0_;have BK181:=n1_;have GW181:=n2_;have GE181:=n3_;clear n0_ n1_ n2_ n3_ hb hbox hg;have hcz15_0 : w14.cell? ⟨gb181,0,none⟩ = some (.int .i64 0):=(bc_ BK181.out 0).trans rfl;have hcz15_1 : w14.cell? ⟨gb181,1,none⟩ = some (.int .i64 0):=(bc_ BK181.out 1).trans rfl;have hfz15_0:=bf_ BK181.out 0;have hfz15_1:=bf_ BK181.out 1)|(go_at_call 44;(with_reducible refine (impl_within.calls ((rd_T35 l0 x7_1).f0) 0 2000 true _ A5.out).mono ?_);rintro e w' ⟨rfl,⟨nd,rfl⟩⟩;(try first|exact ⟨rfl,_,World.drewN_drewN _ _ _⟩|exact ⟨rfl,_,Eq.trans (World.drewN_drewN _ _ _) (congrArg (World.drewN _) (Nat.add_assoc _ _ _))⟩))|(go_at_call 44;(with_reducible refine (impl_within.calls ((rd_T35 l0 x7_1).f1) 1 50 true _ A7.out).mono ?_);rintro e w' ⟨rfl,⟨nd,rfl⟩⟩;(try first|exact ⟨rfl,_,World.drewN_drewN _ _ _⟩|exact ⟨rfl,_,Eq.trans (World.drewN_drewN _ _ _) (congrArg (World.drewN _) (Nat.add_assoc _ _ _))⟩);have p184 : 0 ≤ ((ji10) : Int):=od_ qa_;have q184 : (ji10) < (l0.length : Int):=od_ qa_;obtain ⟨ad184,e184,hx184_0,hx184_1⟩:=at_T35 HR0.out (ji10) p184 q184;obtain rfl : ad180 = ad184:=(by injection e184);have hn184_0 : ad180.block ≠ gb181:=Nat.ne_of_lt (Nat.lt_of_lt_of_le (by have:=wl_ _ _ hx184_0;first|rwa [add_block] at this|exact this) GW181.out);have hn184_1 : ad180.block ≠ gb181:=Nat.ne_of_lt (Nat.lt_of_lt_of_le (by have:=wl_ _ _ hx184_0;first|rwa [add_block] at this|exact this) GW181.out);replace hx184_0:=(HB.out.cell (wl_ w _ hx184_0)).trans hx184_0;replace hx184_1:=(HB.out.cell (wl_ w _ hx184_1)).trans hx184_1;replace hx184_0:=(cell_far (p:=⟨gb181,0,none⟩) (by first|(rw [add_block];exact hn184_0)|(show (Addr.add _ _).block ≠ _;rw [add_block];exact hn184_0)|exact hn184_0) (.int .i64 ((rd_T35 l0 x7_1).f0))).trans hx184_0;replace hx184_1:=(cell_far (p:=⟨gb181,0,none⟩) (by first|(rw [add_block];exact hn184_0)|(show (Addr.add _ _).block ≠ _;rw [add_block];exact hn184_0)|exact hn184_0) (.int .i64 ((rd_T35 l0 x7_1).f0))).trans hx184_1;replace hx184_0:=(cell_far (p:=⟨gb181,1,none⟩) (by first|(rw [add_block];exact hn184_1)|(show (Addr.add _ _).block ≠ _;rw [add_block];exact hn184_1)|exact hn184_1) (.int .i64 ((rd_T35 l0 x7_1).f1))).trans hx184_0;replace hx184_1:=(cell_far (p:=⟨gb181,1,none⟩) (by first|(rw [add_block];exact hn184_1)|(show (Addr.add _ _).block ≠ _;rw [add_block];exact hn184_1)|exact hn184_1) (.int .i64 ((rd_T35 l0 x7_1).f1))).trans hx184_1;(try have hy184_0:=fun (n_ : Nat) => (show ((((w14.drewN n_).setCell ⟨gb181,0,none⟩ (.int .i64 ((rd_T35 l0 x7_1).f0))).setCell ⟨gb181,1,none⟩ (.int .i64 ((rd_T35 l0 x7_1).f1)))).cell? _ = some _ from hx184_0));(try have hy184_1:=fun (n_ : Nat) => (show ((((w14.drewN n_).setCell ⟨gb181,0,none⟩ (.int .i64 ((rd_T35 l0 x7_1).f0))).setCell ⟨gb181,1,none⟩ (.int .i64 ((rd_T35 l0 x7_1).f1)))).cell? _ = some _ from hx184_1));clear hn184_0 hn184_1;replace p184:=eq_true p184;replace q184:=eq_true q184)))
            go_ret
            exact ⟨by first|rfl|(simp [errW_none,errW_some] <;> rfl)|(simp only [← hji10];first|rfl|(simp [errW_none,errW_some] <;> rfl))|(simp [*,errW_none,errW_some] <;> rfl),u4_ HB GE181⟩
           ·rw [if_neg c13] at H
            have c13b0 : decide (((rd_T35 l0 x7_1).f0) < ((rd_T35 l0 (ji10)).f0)) = false:=decide_eq_false c13
            clear c13
            have H':=mk_ H
            clear H
            have p180 : 0 ≤ (x7_1 : Int):=od_ qa_
            have q180 : x7_1 < (l0.length : Int):=od_ qa_
            obtain ⟨ad180,e180,hx180_0,hx180_1⟩:=at_T35 HR0.out x7_1 p180 q180
            cases e180
            replace hx180_0:=(HB.out.cell (wl_ w _ hx180_0)).trans hx180_0
            replace hx180_1:=(HB.out.cell (wl_ w _ hx180_1)).trans hx180_1
            replace p180:=eq_true p180
            replace q180:=eq_true q180
            go_wp2_with (first|((with_reducible refine gate_dst (N:=4) rfl ?_);refine box_event ?hg (N:=4) ?hd (cs:=#[.int .i64 0,.int .i64 0]) (t:=35) ?hr ?_;(case hd => rfl);(case hg => rfl);(case hr => first|(go_simp;done)|(go_simp;rfl));intro gb181 hg w16 hbox hb;have n0_:=mk_ (st_ (qb_ HB) hb);have n1_:=mk_ (hbox);have n2_:=mk_ ((by rw [hg];exact (bz_ (qb_ HB)) : w.heap.size ≤ gb181));have n3_:=mk_ ((by rw [hg];exact (bz_ (qb_ HB)) : w.heap.size ≤ gb181));clear HB;have HB:=n0_;have BK181:=n1_;have GW181:=n2_;have GE181:=n3_;clear n0_ n1_ n2_ n3_ hb hbox hg;have hcz17_0 : w16.cell? ⟨gb181,0,none⟩ = some (.int .i64 0):=(bc_ BK181.out 0).trans rfl;have hcz17_1 : w16.cell? ⟨gb181,1,none⟩ = some (.int .i64 0):=(bc_ BK181.out 1).trans rfl;have hfz17_0:=bf_ BK181.out 0;have hfz17_1:=bf_ BK181.out 1)|(go_at_call 44;(with_reducible refine (impl_within.calls ((rd_T35 l0 x7_1).f0) 0 2000 true _ A5.out).mono ?_);rintro e w' ⟨rfl,⟨nd,rfl⟩⟩;(try first|exact ⟨rfl,_,World.drewN_drewN _ _ _⟩|exact ⟨rfl,_,Eq.trans (World.drewN_drewN _ _ _) (congrArg (World.drewN _) (Nat.add_assoc _ _ _))⟩))|(go_at_call 44;(with_reducible refine (impl_within.calls ((rd_T35 l0 x7_1).f1) 1 50 true _ A7.out).mono ?_);rintro e w' ⟨rfl,⟨nd,rfl⟩⟩;(try first|exact ⟨rfl,_,World.drewN_drewN _ _ _⟩|exact ⟨rfl,_,Eq.trans (World.drewN_drewN _ _ _) (congrArg (World.drewN _) (Nat.add_assoc _ _ _))⟩);have p184 : 0 ≤ ((ji10) : Int):=od_ qa_;have q184 : (ji10) < (l0.length : Int):=od_ qa_;obtain ⟨ad184,e184,hx184_0,hx184_1⟩:=at_T35 HR0.out (ji10) p184 q184;obtain rfl : ad180 = ad184:=(by injection e184);have hn184_0 : ad180.block ≠ gb181:=Nat.ne_of_lt (Nat.lt_of_lt_of_le (by have:=wl_ _ _ hx184_0;first|rwa [add_block] at this|exact this) GW181.out);have hn184_1 : ad180.block ≠ gb181:=Nat.ne_of_lt (Nat.lt_of_lt_of_le (by have:=wl_ _ _ hx184_0;first|rwa [add_block] at this|exact this) GW181.out);replace hx184_0:=(HB.out.cell (wl_ w _ hx184_0)).trans hx184_0;replace hx184_1:=(HB.out.cell (wl_ w _ hx184_1)).trans hx184_1;replace hx184_0:=(cell_far (p:=⟨gb181,0,none⟩) (by first|(rw [add_block];exact hn184_0)|(show (Addr.add _ _).block ≠ _;rw [add_block];exact hn184_0)|exact hn184_0) (.int .i64 ((rd_T35 l0 x7_1).f0))).trans hx184_0;replace hx184_1:=(cell_far (p:=⟨gb181,0,none⟩) (by first|(rw [add_block];exact hn184_0)|(show (Addr.add _ _).block ≠ _;rw [add_block];exact hn184_0)|exact hn184_0) (.int .i64 ((rd_T35 l0 x7_1).f0))).trans hx184_1;replace hx184_0:=(cell_far (p:=⟨gb181,1,none⟩) (by first|(rw [add_block];exact hn184_1)|(show (Addr.add _ _).block ≠ _;rw [add_block];exact hn184_1)|exact hn184_1) (.int .i64 ((rd_T35 l0 x7_1).f1))).trans hx184_0;replace hx184_1:=(cell_far (p:=⟨gb181,1,none⟩) (by first|(rw [add_block];exact hn184_1)|(show (Addr.add _ _).block ≠ _;rw [add_block];exact hn184_1)|exact hn184_1) (.int .i64 ((rd_T35 l0 x7_1).f1))).trans hx184_1;(try have hy184_0:=fun (n_ : Nat) => (show ((((w16.drewN n_).setCell ⟨gb181,0,none⟩ (.int .i64 ((rd_T35 l0 x7_1).f0))).setCell ⟨gb181,1,none⟩ (.int .i64 ((rd_T35 l0 x7_1).f1)))).cell? _ = some _ from hx184_0));(try have hy184_1:=fun (n_ : Nat) => (show ((((w16.drewN n_).setCell ⟨gb181,0,none⟩ (.int .i64 ((rd_T35 l0 x7_1).f0))).setCell ⟨gb181,1,none⟩ (.int .i64 ((rd_T35 l0 x7_1).f1)))).cell? _ = some _ from hx184_1));clear hn184_0 hn184_1;replace p184:=eq_true p184;replace q184:=eq_true q184))
            repeat (go_quiet (first|((with_reducible refine gate_dst (N:=4) rfl ?_);refine box_event ?hg (N:=4) ?hd (cs:=#[.int .i64 0,.int .i64 0]) (t:=35) ?hr ?_;(case hd => rfl);(case hg => rfl);(case hr => first|(go_simp;done)|(go_simp;rfl));intro gb181 hg w16 hbox hb;have n0_:=mk_ (st_ (qb_ HB) hb);have n1_:=mk_ (hbox);have n2_:=mk_ ((by rw [hg];exact (bz_ (qb_ HB)) : w.heap.size ≤ gb181));have n3_:=mk_ ((by rw [hg];exact (bz_ (qb_ HB)) : w.heap.size ≤ gb181));clear HB;have HB:=n0_;have BK181:=n1_;have GW181:=n2_;have GE181:=n3_;clear n0_ n1_ n2_ n3_ hb hbox hg;have hcz17_0 : w16.cell? ⟨gb181,0,none⟩ = some (.int .i64 0):=(bc_ BK181.out 0).trans rfl;have hcz17_1 : w16.cell? ⟨gb181,1,none⟩ = some (.int .i64 0):=(bc_ BK181.out 1).trans rfl;have hfz17_0:=bf_ BK181.out 0;have hfz17_1:=bf_ BK181.out 1)|(go_at_call 44;(with_reducible refine (impl_within.calls ((rd_T35 l0 x7_1).f0) 0 2000 true _ A5.out).mono ?_);rintro e w' ⟨rfl,⟨nd,rfl⟩⟩;(try first|exact ⟨rfl,_,World.drewN_drewN _ _ _⟩|exact ⟨rfl,_,Eq.trans (World.drewN_drewN _ _ _) (congrArg (World.drewN _) (Nat.add_assoc _ _ _))⟩))|(go_at_call 44;(with_reducible refine (impl_within.calls ((rd_T35 l0 x7_1).f1) 1 50 true _ A7.out).mono ?_);rintro e w' ⟨rfl,⟨nd,rfl⟩⟩;(try first|exact ⟨rfl,_,World.drewN_drewN _ _ _⟩|exact ⟨rfl,_,Eq.trans (World.drewN_drewN _ _ _) (congrArg (World.drewN _) (Nat.add_assoc _ _ _))⟩);have p184 : 0 ≤ ((ji10) : Int):=od_ qa_;have q184 : (ji10) < (l0.length : Int):=od_ qa_;obtain ⟨ad184,e184,hx184_0,hx184_1⟩:=at_T35 HR0.out (ji10) p184 q184;obtain rfl : ad180 = ad184:=(by injection e184);have hn184_0 : ad180.block ≠ gb181:=Nat.ne_of_lt (Nat.lt_of_lt_of_le (by have:=wl_ _ _ hx184_0;first|rwa [add_block] at this|exact this) GW181.out);have hn184_1 : ad180.block ≠ gb181:=Nat.ne_of_lt (Nat.lt_of_lt_of_le (by have:=wl_ _ _ hx184_0;first|rwa [add_block] at this|exact this) GW181.out);replace hx184_0:=(HB.out.cell (wl_ w _ hx184_0)).trans hx184_0;replace hx184_1:=(HB.out.cell (wl_ w _ hx184_1)).trans hx184_1;replace hx184_0:=(cell_far (p:=⟨gb181,0,none⟩) (by first|(rw [add_block];exact hn184_0)|(show (Addr.add _ _).block ≠ _;rw [add_block];exact hn184_0)|exact hn184_0) (.int .i64 ((rd_T35 l0 x7_1).f0))).trans hx184_0;replace hx184_1:=(cell_far (p:=⟨gb181,0,none⟩) (by first|(rw [add_block];exact hn184_0)|(show (Addr.add _ _).block ≠ _;rw [add_block];exact hn184_0)|exact hn184_0) (.int .i64 ((rd_T35 l0 x7_1).f0))).trans hx184_1;replace hx184_0:=(cell_far (p:=⟨gb181,1,none⟩) (by first|(rw [add_block];exact hn184_1)|(show (Addr.add _ _).block ≠ _;rw [add_block];exact hn184_1)|exact hn184_1) (.int .i64 ((rd_T35 l0 x7_1).f1))).trans hx184_0;replace hx184_1:=(cell_far (p:=⟨gb181,1,none⟩) (by first|(rw [add_block];exact hn184_1)|(show (Addr.add _ _).block ≠ _;rw [add_block];exact hn184_1)|exact hn184_1) (.int .i64 ((rd_T35 l0 x7_1).f1))).trans hx184_1;(try have hy184_0:=fun (n_ : Nat) => (show ((((w16.drewN n_).setCell ⟨gb181,0,none⟩ (.int .i64 ((rd_T35 l0 x7_1).f0))).setCell ⟨gb181,1,none⟩ (.int .i64 ((rd_T35 l0 x7_1).f1)))).cell? _ = some _ from hx184_0));(try have hy184_1:=fun (n_ : Nat) => (show ((((w16.drewN n_).setCell ⟨gb181,0,none⟩ (.int .i64 ((rd_T35 l0 x7_1).f0))).setCell ⟨gb181,1,none⟩ (.int .i64 ((rd_T35 l0 x7_1).f1)))).cell? _ = some _ from hx184_1));clear hn184_0 hn184_1;replace p184:=eq_true p184;replace q184:=eq_true q184));try go_wp2_with (first|((with_reducible refine gate_dst (N:=4) rfl ?_);refine box_event ?hg (N:=4) ?hd (cs:=#[.int .i64 0,.int .i64 0]) (t:=35) ?hr ?_;(case hd => rfl);(case hg => rfl);(case hr => first|(go_simp;done)|(go_simp;rfl));intro gb181 hg w16 hbox hb;have n0_:=mk_ (st_ (qb_ HB) hb);have n1_:=mk_ (hbox);have n2_:=mk_ ((by rw [hg];exact (bz_ (qb_ HB)) : w.heap.size ≤ gb181));have n3_:=mk_ ((by rw [hg];exact (bz_ (qb_ HB)) : w.heap.size ≤ gb181));clear HB;have HB:=n0_;have BK181:=n1_;have GW181:=n2_;have GE181:=n3_;clear n0_ n1_ n2_ n3_ hb hbox hg;have hcz17_0 : w16.cell? ⟨gb181,0,none⟩ = some (.int .i64 0):=(bc_ BK181.out 0).trans rfl;have hcz17_1 : w16.cell? ⟨gb181,1,none⟩ = some (.int .i64 0):=(bc_ BK181.out 1).trans rfl;have hfz17_0:=bf_ BK181.out 0;have hfz17_1:=bf_ BK181.out 1)|(go_at_call 44;(with_reducible refine (impl_within.calls ((rd_T35 l0 x7_1).f0) 0 2000 true _ A5.out).mono ?_);rintro e w' ⟨rfl,⟨nd,rfl⟩⟩;(try first|exact ⟨rfl,_,World.drewN_drewN _ _ _⟩|exact ⟨rfl,_,Eq.trans (World.drewN_drewN _ _ _) (congrArg (World.drewN _) (Nat.add_assoc _ _ _))⟩))|(go_at_call 44;(with_reducible refine (impl_within.calls ((rd_T35 l0 x7_1).f1) 1 50 true _ A7.out).mono ?_);rintro e w' ⟨rfl,⟨nd,rfl⟩⟩;(try first|exact ⟨rfl,_,World.drewN_drewN _ _ _⟩|exact ⟨rfl,_,Eq.trans (World.drewN_drewN _ _ _) (congrArg (World.drewN _) (Nat.add_assoc _ _ _))⟩);have p184 : 0 ≤ ((ji10) : Int):=od_ qa_;have q184 : (ji10) < (l0.length : Int):=od_ qa_;obtain ⟨ad184,e184,hx184_0,hx184_1⟩:=at_T35 HR0.out (ji10) p184 q184;obtain rfl : ad180 = ad184:=(by injection e184);have hn184_0 : ad180.block ≠ gb181:=Nat.ne_of_lt (Nat.lt_of_lt_of_le (by have:=wl_ _ _ hx184_0;first|rwa [add_block] at this|exact this) GW181.out);have hn184_1 : ad180.block ≠ gb181:=Nat.ne_of_lt (Nat.lt_of_lt_of_le (by have:=wl_ _ _ hx184_0;first|rwa [add_block] at this|exact this) GW181.out);replace hx184_0:=(HB.out.cell (wl_ w _ hx184_0)).trans hx184_0;replace hx184_1:=(HB.out.cell (wl_ w _ hx184_1)).trans hx184_1;replace hx184_0:=(cell_far (p:=⟨gb181,0,none⟩) (by first|(rw [add_block];exact hn184_0)|(show (Addr.add _ _).block ≠ _;rw [add_block];exact hn184_0)|exact hn184_0) (.int .i64 ((rd_T35 l0 x7_1).f0))).trans hx184_0;replace hx184_1:=(cell_far (p:=⟨gb181,0,none⟩) (by first|(rw [add_block];exact hn184_0)|(show (Addr.add _ _).block ≠ _;rw [add_block];exact hn184_0)|exact hn184_0) (.int .i64 ((rd_T35 l0 x7_1).f0))).trans hx184_1;replace hx184_0:=(cell_far (p:=⟨gb181,1,none⟩) (by first|(rw [add_block];exact hn184_1)|(show (Addr.add _ _).block ≠ _;rw [add_block];exact hn184_1)|exact hn184_1) (.int .i64 ((rd_T35 l0 x7_1).f1))).trans hx184_0;replace hx184_1:=(cell_far (p:=⟨gb181,1,none⟩) (by first|(rw [add_block];exact hn184_1)|(show (Addr.add _ _).block ≠ _;rw [add_block];exact hn184_1)|exact hn184_1) (.int .i64 ((rd_T35 l0 x7_1).f1))).trans hx184_1;(try have hy184_0:=fun (n_ : Nat) => (show ((((w16.drewN n_).setCell ⟨gb181,0,none⟩ (.int .i64 ((rd_T35 l0 x7_1).f0))).setCell ⟨gb181,1,none⟩ (.int .i64 ((rd_T35 l0 x7_1).f1)))).cell? _ = some _ from hx184_0));(try have hy184_1:=fun (n_ : Nat) => (show ((((w16.drewN n_).setCell ⟨gb181,0,none⟩ (.int .i64 ((rd_T35 l0 x7_1).f0))).setCell ⟨gb181,1,none⟩ (.int .i64 ((rd_T35 l0 x7_1).f1)))).cell? _ = some _ from hx184_1));clear hn184_0 hn184_1;replace p184:=eq_true p184;replace q184:=eq_true q184)))
            go_roundg k1
            case measure => have:=HK1.out;omega
            case rel => exact ⟨(wrap64 (x7_1 + 1)),qf_,H',⟨by have:=HK1.out;omega⟩,⟨u4_ HB GE181⟩⟩
          ·rw [if_neg c12] at H
           exact absurd H (by simp)
         ·rw [if_neg c11] at H
          exact absurd H (by simp)
        ·rw [if_neg c9] at H
         have c9b0 : decide (0 < x7_1) = false:=decide_eq_false c9
         clear c9
         have H':=mk_ H
         clear H
         have p180 : 0 ≤ (x7_1 : Int):=od_ qa_
         have q180 : x7_1 < (l0.length : Int):=od_ qa_
         obtain ⟨ad180,e180,hx180_0,hx180_1⟩:=at_T35 HR0.out x7_1 p180 q180
         cases e180
         replace hx180_0:=(HB.out.cell (wl_ w _ hx180_0)).trans hx180_0
         replace hx180_1:=(HB.out.cell (wl_ w _ hx180_1)).trans hx180_1
         replace p180:=eq_true p180
         replace q180:=eq_true q180
         go_wp2_with (first|((with_reducible refine gate_dst (N:=4) rfl ?_);refine box_event ?hg (N:=4) ?hd (cs:=#[.int .i64 0,.int .i64 0]) (t:=35) ?hr ?_;(case hd => rfl);(case hg => rfl);(case hr => first|(go_simp;done)|(go_simp;rfl));intro gb181 hg w18 hbox hb;have n0_:=mk_ (st_ (qb_ HB) hb);have n1_:=mk_ (hbox);have n2_:=mk_ ((by rw [hg];exact (bz_ (qb_ HB)) : w.heap.size ≤ gb181));have n3_:=mk_ ((by rw [hg];exact (bz_ (qb_ HB)) : w.heap.size ≤ gb181));clear HB;have HB:=n0_;have BK181:=n1_;have GW181:=n2_;have GE181:=n3_;clear n0_ n1_ n2_ n3_ hb hbox hg;have hcz19_0 : w18.cell? ⟨gb181,0,none⟩ = some (.int .i64 0):=(bc_ BK181.out 0).trans rfl;have hcz19_1 : w18.cell? ⟨gb181,1,none⟩ = some (.int .i64 0):=(bc_ BK181.out 1).trans rfl;have hfz19_0:=bf_ BK181.out 0;have hfz19_1:=bf_ BK181.out 1)|(go_at_call 44;(with_reducible refine (impl_within.calls ((rd_T35 l0 x7_1).f0) 0 2000 true _ A5.out).mono ?_);rintro e w' ⟨rfl,⟨nd,rfl⟩⟩;(try first|exact ⟨rfl,_,World.drewN_drewN _ _ _⟩|exact ⟨rfl,_,Eq.trans (World.drewN_drewN _ _ _) (congrArg (World.drewN _) (Nat.add_assoc _ _ _))⟩))|(go_at_call 44;(with_reducible refine (impl_within.calls ((rd_T35 l0 x7_1).f1) 1 50 true _ A7.out).mono ?_);rintro e w' ⟨rfl,⟨nd,rfl⟩⟩;(try first|exact ⟨rfl,_,World.drewN_drewN _ _ _⟩|exact ⟨rfl,_,Eq.trans (World.drewN_drewN _ _ _) (congrArg (World.drewN _) (Nat.add_assoc _ _ _))⟩)))
         repeat (go_quiet (first|((with_reducible refine gate_dst (N:=4) rfl ?_);refine box_event ?hg (N:=4) ?hd (cs:=#[.int .i64 0,.int .i64 0]) (t:=35) ?hr ?_;(case hd => rfl);(case hg => rfl);(case hr => first|(go_simp;done)|(go_simp;rfl));intro gb181 hg w18 hbox hb;have n0_:=mk_ (st_ (qb_ HB) hb);have n1_:=mk_ (hbox);have n2_:=mk_ ((by rw [hg];exact (bz_ (qb_ HB)) : w.heap.size ≤ gb181));have n3_:=mk_ ((by rw [hg];exact (bz_ (qb_ HB)) : w.heap.size ≤ gb181));clear HB;have HB:=n0_;have BK181:=n1_;have GW181:=n2_;have GE181:=n3_;clear n0_ n1_ n2_ n3_ hb hbox hg;have hcz19_0 : w18.cell? ⟨gb181,0,none⟩ = some (.int .i64 0):=(bc_ BK181.out 0).trans rfl;have hcz19_1 : w18.cell? ⟨gb181,1,none⟩ = some (.int .i64 0):=(bc_ BK181.out 1).trans rfl;have hfz19_0:=bf_ BK181.out 0;have hfz19_1:=bf_ BK181.out 1)|(go_at_call 44;(with_reducible refine (impl_within.calls ((rd_T35 l0 x7_1).f0) 0 2000 true _ A5.out).mono ?_);rintro e w' ⟨rfl,⟨nd,rfl⟩⟩;(try first|exact ⟨rfl,_,World.drewN_drewN _ _ _⟩|exact ⟨rfl,_,Eq.trans (World.drewN_drewN _ _ _) (congrArg (World.drewN _) (Nat.add_assoc _ _ _))⟩))|(go_at_call 44;(with_reducible refine (impl_within.calls ((rd_T35 l0 x7_1).f1) 1 50 true _ A7.out).mono ?_);rintro e w' ⟨rfl,⟨nd,rfl⟩⟩;(try first|exact ⟨rfl,_,World.drewN_drewN _ _ _⟩|exact ⟨rfl,_,Eq.trans (World.drewN_drewN _ _ _) (congrArg (World.drewN _) (Nat.add_assoc _ _ _))⟩)));try go_wp2_with (first|((with_reducible refine gate_dst (N:=4) rfl ?_);refine box_event ?hg (N:=4) ?hd (cs:=#[.int .i64 0,.int .i64 0]) (t:=35) ?hr ?_;(case hd => rfl);(case hg => rfl);(case hr => first|(go_simp;done)|(go_simp;rfl));intro gb181 hg w18 hbox hb;have n0_:=mk_ (st_ (qb_ HB) hb);have n1_:=mk_ (hbox);have n2_:=mk_ ((by rw [hg];exact (bz_ (qb_ HB)) : w.heap.size ≤ gb181));have n3_:=mk_ ((by rw [hg];exact (bz_ (qb_ HB)) : w.heap.size ≤ gb181));clear HB;have HB:=n0_;have BK181:=n1_;have GW181:=n2_;have GE181:=n3_;clear n0_ n1_ n2_ n3_ hb hbox hg;have hcz19_0 : w18.cell? ⟨gb181,0,none⟩ = some (.int .i64 0):=(bc_ BK181.out 0).trans rfl;have hcz19_1 : w18.cell? ⟨gb181,1,none⟩ = some (.int .i64 0):=(bc_ BK181.out 1).trans rfl;have hfz19_0:=bf_ BK181.out 0;have hfz19_1:=bf_ BK181.out 1)|(go_at_call 44;(with_reducible refine (impl_within.calls ((rd_T35 l0 x7_1).f0) 0 2000 true _ A5.out).mono ?_);rintro e w' ⟨rfl,⟨nd,rfl⟩⟩;(try first|exact ⟨rfl,_,World.drewN_drewN _ _ _⟩|exact ⟨rfl,_,Eq.trans (World.drewN_drewN _ _ _) (congrArg (World.drewN _) (Nat.add_assoc _ _ _))⟩))|(go_at_call 44;(with_reducible refine (impl_within.calls ((rd_T35 l0 x7_1).f1) 1 50 true _ A7.out).mono ?_);rintro e w' ⟨rfl,⟨nd,rfl⟩⟩;(try first|exact ⟨rfl,_,World.drewN_drewN _ _ _⟩|exact ⟨rfl,_,Eq.trans (World.drewN_drewN _ _ _) (congrArg (World.drewN _) (Nat.add_assoc _ _ _))⟩))))
         go_roundg k1
         case measure => have:=HK1.out;omega
         case rel => exact ⟨(wrap64 (x7_1 + 1)),qf_,H',⟨by have:=HK1.out;omega⟩,⟨u4_ HB GE181⟩⟩
       ·replace c8:=Bool.eq_false_iff.mpr c8
        subst c8
        have H1 : (some false) = some r:=by rw [if_neg (show ¬ (false = true) by decide)] at H;exact H
        clear H
        have H:=H1
        clear H1
        obtain rfl:=Option.some.inj H
        have p180 : 0 ≤ (x7_1 : Int):=od_ qa_
        have q180 : x7_1 < (l0.length : Int):=od_ qa_
        obtain ⟨ad180,e180,hx180_0,hx180_1⟩:=at_T35 HR0.out x7_1 p180 q180
        cases e180
        replace hx180_0:=(HB.out.cell (wl_ w _ hx180_0)).trans hx180_0
        replace hx180_1:=(HB.out.cell (wl_ w _ hx180_1)).trans hx180_1
        replace p180:=eq_true p180
        replace q180:=eq_true q180
        go_wp2_with (first|((with_reducible refine gate_dst (N:=4) rfl ?_);refine box_event ?hg (N:=4) ?hd (cs:=#[.int .i64 0,.int .i64 0]) (t:=35) ?hr ?_;(case hd => rfl);(case hg => rfl);(case hr => first|(go_simp;done)|(go_simp;rfl));intro gb181 hg w20 hbox hb;have n0_:=mk_ (st_ (qb_ HB) hb);have n1_:=mk_ (hbox);have n2_:=mk_ ((by rw [hg];exact (bz_ (qb_ HB)) : w.heap.size ≤ gb181));have n3_:=mk_ ((by rw [hg];exact (bz_ (qb_ HB)) : w.heap.size ≤ gb181));clear HB;have HB:=n0_;have BK181:=n1_;have GW181:=n2_;have GE181:=n3_;clear n0_ n1_ n2_ n3_ hb hbox hg;have hcz21_0 : w20.cell? ⟨gb181,0,none⟩ = some (.int .i64 0):=(bc_ BK181.out 0).trans rfl;have hcz21_1 : w20.cell? ⟨gb181,1,none⟩ = some (.int .i64 0):=(bc_ BK181.out 1).trans rfl;have hfz21_0:=bf_ BK181.out 0;have hfz21_1:=bf_ BK181.out 1)|(go_at_call 44;(with_reducible refine (impl_within.calls ((rd_T35 l0 x7_1).f0) 0 2000 true _ A5.out).mono ?_);rintro e w' ⟨rfl,⟨nd,rfl⟩⟩;(try first|exact ⟨rfl,_,World.drewN_drewN _ _ _⟩|exact ⟨rfl,_,Eq.trans (World.drewN_drewN _ _ _) (congrArg (World.drewN _) (Nat.add_assoc _ _ _))⟩))|(go_at_call 44;(with_reducible refine (impl_within.calls ((rd_T35 l0 x7_1).f1) 1 50 false _ A7.out).mono ?_);rintro e w' ⟨rfl,⟨nd,rfl⟩⟩;(try first|exact ⟨rfl,_,World.drewN_drewN _ _ _⟩|exact ⟨rfl,_,Eq.trans (World.drewN_drewN _ _ _) (congrArg (World.drewN _) (Nat.add_assoc _ _ _))⟩)))
        repeat (go_quiet (first|((with_reducible refine gate_dst (N:=4) rfl ?_);refine box_event ?hg (N:=4) ?hd (cs:=#[.int .i64 0,.int .i64 0]) (t:=35) ?hr ?_;(case hd => rfl);(case hg => rfl);(case hr => first|(go_simp;done)|(go_simp;rfl));intro gb181 hg w20 hbox hb;have n0_:=mk_ (st_ (qb_ HB) hb);have n1_:=mk_ (hbox);have n2_:=mk_ ((by rw [hg];exact (bz_ (qb_ HB)) : w.heap.size ≤ gb181));have n3_:=mk_ ((by rw [hg];exact (bz_ (qb_ HB)) : w.heap.size ≤ gb181));clear HB;have HB:=n0_;have BK181:=n1_;have GW181:=n2_;have GE181:=n3_;clear n0_ n1_ n2_ n3_ hb hbox hg;have hcz21_0 : w20.cell? ⟨gb181,0,none⟩ = some (.int .i64 0):=(bc_ BK181.out 0).trans rfl;have hcz21_1 : w20.cell? ⟨gb181,1,none⟩ = some (.int .i64 0):=(bc_ BK181.out 1).trans rfl;have hfz21_0:=bf_ BK181.out 0;have hfz21_1:=bf_ BK181.out 1)|(go_at_call 44;(with_reducible refine (impl_within.calls ((rd_T35 l0 x7_1).f0) 0 2000 true _ A5.out).mono ?_);rintro e w' ⟨rfl,⟨nd,rfl⟩⟩;(try first|exact ⟨rfl,_,World.drewN_drewN _ _ _⟩|exact ⟨rfl,_,Eq.trans (World.drewN_drewN _ _ _) (congrArg (World.drewN _) (Nat.add_assoc _ _ _))⟩))|(go_at_call 44;(with_reducible refine (impl_within.calls ((rd_T35 l0 x7_1).f1) 1 50 false _ A7.out).mono ?_);rintro e w' ⟨rfl,⟨nd,rfl⟩⟩;(try first|exact ⟨rfl,_,World.drewN_drewN _ _ _⟩|exact ⟨rfl,_,Eq.trans (World.drewN_drewN _ _ _) (congrArg (World.drewN _) (Nat.add_assoc _ _ _))⟩)));try go_wp2_with (first|((with_reducible refine gate_dst (N:=4) rfl ?_);refine box_event ?hg (N:=4) ?hd (cs:=#[.int .i64 0,.int .i64 0]) (t:=35) ?hr ?_;(case hd => rfl);(case hg => rfl);(case hr => first|(go_simp;done)|(go_simp;rfl));intro gb181 hg w20 hbox hb;have n0_:=mk_ (st_ (qb_ HB) hb);have n1_:=mk_ (hbox);have n2_:=mk_ ((by rw [hg];exact (bz_ (qb_ HB)) : w.heap.size ≤ gb181));have n3_:=mk_ ((by rw [hg];exact (bz_ (qb_ HB)) : w.heap.size ≤ gb181));clear HB;have HB:=n0_;have BK181:=n1_;have GW181:=n2_;have GE181:=n3_;clear n0_ n1_ n2_ n3_ hb hbox hg;have hcz21_0 : w20.cell? ⟨gb181,0,none⟩ = some (.int .i64 0):=(bc_ BK181.out 0).trans rfl;have hcz21_1 : w20.cell? ⟨gb181,1,none⟩ = some (.int .i64 0):=(bc_ BK181.out 1).trans rfl;have hfz21_0:=bf_ BK181.out 0;have hfz21_1:=bf_ BK181.out 1)|(go_at_call 44;(with_reducible refine (impl_within.calls ((rd_T35 l0 x7_1).f0) 0 2000 true _ A5.out).mono ?_);rintro e w' ⟨rfl,⟨nd,rfl⟩⟩;(try first|exact ⟨rfl,_,World.drewN_drewN _ _ _⟩|exact ⟨rfl,_,Eq.trans (World.drewN_drewN _ _ _) (congrArg (World.drewN _) (Nat.add_assoc _ _ _))⟩))|(go_at_call 44;(with_reducible refine (impl_within.calls ((rd_T35 l0 x7_1).f1) 1 50 false _ A7.out).mono ?_);rintro e w' ⟨rfl,⟨nd,rfl⟩⟩;(try first|exact ⟨rfl,_,World.drewN_drewN _ _ _⟩|exact ⟨rfl,_,Eq.trans (World.drewN_drewN _ _ _) (congrArg (World.drewN _) (Nat.add_assoc _ _ _))⟩))))
        go_ret
        exact ⟨qe_,u4_ HB GE181⟩
      ·replace c6:=Bool.eq_false_iff.mpr c6
       subst c6
       have H1 : (some false) = some r:=by rw [if_neg (show ¬ (false = true) by decide)] at H;exact H
       clear H
       have H:=H1
       clear H1
       obtain rfl:=Option.some.inj H
       have p180 : 0 ≤ (x7_1 : Int):=od_ qa_
       have q180 : x7_1 < (l0.length : Int):=od_ qa_
       obtain ⟨ad180,e180,hx180_0,hx180_1⟩:=at_T35 HR0.out x7_1 p180 q180
       cases e180
       replace hx180_0:=(HB.out.cell (wl_ w _ hx180_0)).trans hx180_0
       replace hx180_1:=(HB.out.cell (wl_ w _ hx180_1)).trans hx180_1
       replace p180:=eq_true p180
       replace q180:=eq_true q180
       go_wp2_with (first|((with_reducible refine gate_dst (N:=4) rfl ?_);refine box_event ?hg (N:=4) ?hd (cs:=#[.int .i64 0,.int .i64 0]) (t:=35) ?hr ?_;(case hd => rfl);(case hg => rfl);(case hr => first|(go_simp;done)|(go_simp;rfl));intro gb181 hg w22 hbox hb;have n0_:=mk_ (st_ (qb_ HB) hb);have n1_:=mk_ (hbox);have n2_:=mk_ ((by rw [hg];exact (bz_ (qb_ HB)) : w.heap.size ≤ gb181));have n3_:=mk_ ((by rw [hg];exact (bz_ (qb_ HB)) : w.heap.size ≤ gb181));clear HB;have HB:=n0_;have BK181:=n1_;have GW181:=n2_;have GE181:=n3_;clear n0_ n1_ n2_ n3_ hb hbox hg;have hcz23_0 : w22.cell? ⟨gb181,0,none⟩ = some (.int .i64 0):=(bc_ BK181.out 0).trans rfl;have hcz23_1 : w22.cell? ⟨gb181,1,none⟩ = some (.int .i64 0):=(bc_ BK181.out 1).trans rfl;have hfz23_0:=bf_ BK181.out 0;have hfz23_1:=bf_ BK181.out 1)|(go_at_call 44;(with_reducible refine (impl_within.calls ((rd_T35 l0 x7_1).f0) 0 2000 false _ A5.out).mono ?_);rintro e w' ⟨rfl,⟨nd,rfl⟩⟩;(try first|exact ⟨rfl,_,World.drewN_drewN _ _ _⟩|exact ⟨rfl,_,Eq.trans (World.drewN_drewN _ _ _) (congrArg (World.drewN _) (Nat.add_assoc _ _ _))⟩)))
       repeat (go_quiet (first|((with_reducible refine gate_dst (N:=4) rfl ?_);refine box_event ?hg (N:=4) ?hd (cs:=#[.int .i64 0,.int .i64 0]) (t:=35) ?hr ?_;(case hd => rfl);(case hg => rfl);(case hr => first|(go_simp;done)|(go_simp;rfl));intro gb181 hg w22 hbox hb;have n0_:=mk_ (st_ (qb_ HB) hb);have n1_:=mk_ (hbox);have n2_:=mk_ ((by rw [hg];exact (bz_ (qb_ HB)) : w.heap.size ≤ gb181));have n3_:=mk_ ((by rw [hg];exact (bz_ (qb_ HB)) : w.heap.size ≤ gb181));clear HB;have HB:=n0_;have BK181:=n1_;have GW181:=n2_;have GE181:=n3_;clear n0_ n1_ n2_ n3_ hb hbox hg;have hcz23_0 : w22.cell? ⟨gb181,0,none⟩ = some (.int .i64 0):=(bc_ BK181.out 0).trans rfl;have hcz23_1 : w22.cell? ⟨gb181,1,none⟩ = some (.int .i64 0):=(bc_ BK181.out 1).trans rfl;have hfz23_0:=bf_ BK181.out 0;have hfz23_1:=bf_ BK181.out 1)|(go_at_call 44;(with_reducible refine (impl_within.calls ((rd_T35 l0 x7_1).f0) 0 2000 false _ A5.out).mono ?_);rintro e w' ⟨rfl,⟨nd,rfl⟩⟩;(try first|exact ⟨rfl,_,World.drewN_drewN _ _ _⟩|exact ⟨rfl,_,Eq.trans (World.drewN_drewN _ _ _) (congrArg (World.drewN _) (Nat.add_assoc _ _ _))⟩)));try go_wp2_with (first|((with_reducible refine gate_dst (N:=4) rfl ?_);refine box_event ?hg (N:=4) ?hd (cs:=#[.int .i64 0,.int .i64 0]) (t:=35) ?hr ?_;(case hd => rfl);(case hg => rfl);(case hr => first|(go_simp;done)|(go_simp;rfl));intro gb181 hg w22 hbox hb;have n0_:=mk_ (st_ (qb_ HB) hb);have n1_:=mk_ (hbox);have n2_:=mk_ ((by rw [hg];exact (bz_ (qb_ HB)) : w.heap.size ≤ gb181));have n3_:=mk_ ((by rw [hg];exact (bz_ (qb_ HB)) : w.heap.size ≤ gb181));clear HB;have HB:=n0_;have BK181:=n1_;have GW181:=n2_;have GE181:=n3_;clear n0_ n1_ n2_ n3_ hb hbox hg;have hcz23_0 : w22.cell? ⟨gb181,0,none⟩ = some (.int .i64 0):=(bc_ BK181.out 0).trans rfl;have hcz23_1 : w22.cell? ⟨gb181,1,none⟩ = some (.int .i64 0):=(bc_ BK181.out 1).trans rfl;have hfz23_0:=bf_ BK181.out 0;have hfz23_1:=bf_ BK181.out 1)|(go_at_call 44;(with_reducible refine (impl_within.calls ((rd_T35 l0 x7_1).f0) 0 2000 false _ A5.out).mono ?_);rintro e w' ⟨rfl,⟨nd,rfl⟩⟩;(try first|exact ⟨rfl,_,World.drewN_drewN _ _ _⟩|exact ⟨rfl,_,Eq.trans (World.drewN_drewN _ _ _) (congrArg (World.drewN _) (Nat.add_assoc _ _ _))⟩))))
       go_ret
       exact ⟨qe_,u4_ HB GE181⟩
     ·rw [if_neg c4] at H
      exact absurd H (by simp)
    ·rw [if_neg c3] at H
     exact absurd H (by simp)
   ·rw [if_neg c2] at H
    have c2b0 : decide (x7_1 < (l0.length : Int)) = false:=decide_eq_false c2
    clear c2
    obtain rfl:=Option.some.inj H
    go_wp2
    repeat (go_quiet (fail);try go_wp2)
    go_ret
    exact ⟨qe_,u3_ HB⟩

-- LIB preds
/-- What is asked of a function value that answers a bool: at every x, in every world in which all that lay in w lies as it lay, it answers p x and turns nothing that lies there. -/
def PredB {α : Type} (P : Program) (g : Nat) (lb : Array Value) (enc : α → Value) (p : α → Bool) (w : World) : Prop :=
  ∀ (W : World) (x : α),Below w.heap.size w W → Calls P g (#[enc x] ++ lb) W fun e w' => e = .returned (.bool (p x)) ∧ Below W.heap.size W w'
theorem PredB.later {α : Type} {P : Program} {g : Nat} {lb : Array Value} {enc : α → Value} {p : α → Bool} {w W : World} (h : PredB P g lb enc p w) (hb : Below w.heap.size w W) : PredB P g lb enc p W :=
  fun W' x hb' => h W' x (hb.trans (hb'.mono hb.size))
theorem below_step {w W W' : World} (h : Below w.heap.size w W) (h' : Below W.heap.size W W') : Below w.heap.size w W':=h.trans (h'.mono h.size)

-- LIB bucket
/-- The one block g may have turned, and new blocks are there; nothing else. -/
def TurnsG (w w' : World) (g : Nat) : Prop:=KeepBut w w' g none ∧ ∀ w0 : World,w0.heap.size ≤ g → Below w0.heap.size w0 w → Below w0.heap.size w0 w'
theorem TurnsG.refl (w : World) (g : Nat) : TurnsG w w g:=⟨KeepBut.refl w g none,fun _ _ h => h⟩
theorem TurnsG.trans {w w1 w2 : World} {g : Nat} (h : TurnsG w w1 g) (h' : TurnsG w1 w2 g) : TurnsG w w2 g :=
  ⟨⟨Nat.le_trans h.1.1 h'.1.1,fun i hi hb hn => (h'.1.2 i (Nat.lt_of_lt_of_le hi h.1.1) hb hn).trans (h.1.2 i hi hb hn)⟩,fun w0 h0 hb => h'.2 w0 h0 (h.2 w0 h0 hb)⟩
theorem TurnsG.below {w w' : World} (h : Below w.heap.size w w') (g : Nat) : TurnsG w w' g:=⟨KeepBut.of_below h g none,fun _ _ hb => hb.trans (h.mono hb.size)⟩
theorem TurnsG.set {w w' : World} {g : Nat} (h : TurnsG w w' g) (j : Nat) (u : Value) : TurnsG w (w'.setCell ⟨g,j,none⟩ u) g:=⟨h.1.set_ j u,fun w0 h0 hb => (h.2 w0 h0 hb).setCell h0 u⟩
def bk (r b T a : Int) : Obj:=.cells #[.int .i64 r,.int .i64 b,.int .i64 T,.int .i64 a] 62 (0,0)
/-- The tokens at a later time. -/
def untilT (r b T a t : Int) : Int:=mn b (wrap64 (T + wrap64 (r * wrap64 (t - a))))
set_option maxHeartbeats 4000000 in
set_option maxRecDepth 100000 in
theorem x_until (g : Nat) (r b T a t : Int) (w : World) (hg : w.heap[g]? = some (bk r b T a)) :
    Calls Try.prog 46 #[.pointer (some ⟨g,0,none⟩),.int .i64 t] w fun e w' => e = .returned (.tuple #[]) ∧ w'.heap[g]? = some (bk r b (untilT r b T a t) t) ∧ TurnsG w w' g:=by
  have hu:=Try.underlying62
  have c0 : w.cell? ⟨g,0,none⟩ = some (.int .i64 r):=(blk_cell hg 0).trans rfl
  have c1 : w.cell? ⟨g,1,none⟩ = some (.int .i64 b):=(blk_cell hg 1).trans rfl
  have c2 : w.cell? ⟨g,2,none⟩ = some (.int .i64 T):=(blk_cell hg 2).trans rfl
  have c3 : w.cell? ⟨g,3,none⟩ = some (.int .i64 a):=(blk_cell hg 3).trans rfl
  have f2 : w.frozen? ⟨g,2,none⟩ = false:=blk_frozen hg 2
  have f3 : w.frozen? ⟨g,3,none⟩ = false:=blk_frozen hg 3
  have HG:=Aside0.mk hg
  clear hg
  have HM : Aside0 (untilT r b T a t = mn b (wrap64 (T + wrap64 (r * wrap64 (t - a))))):=⟨rfl⟩
  generalize untilT r b T a t = m at HM ⊢
  obtain ⟨x1,hx1⟩ : ∃ x1,x1 = wrap64 (t - a):=⟨_,rfl⟩
  obtain ⟨x2,hx2⟩ : ∃ x2,x2 = wrap64 (r * x1):=⟨_,rfl⟩
  obtain ⟨x3,hx3⟩ : ∃ x3,x3 = wrap64 (T + x2):=⟨_,rfl⟩
  have HM' : m = mn b x3:=by rw [HM.out,hx3,hx2,hx1]
  have y1 : IntKind.i64.wrap (t - a) = x1:=(i64_w _).trans hx1.symm
  have y2 : IntKind.i64.wrap (r * x1) = x2:=(i64_w _).trans hx2.symm
  have y3 : IntKind.i64.wrap (T + x2) = x3:=(i64_w _).trans hx3.symm
  have y4 : (if x3 < b then x3 else b) = m:=HM'.symm
  clear HM HM' hx1 hx2 hx3
  go_enter Try.func46,Try.ntmps46
  go_wp2
  go_still_tail 22,(by kernel_rfl)
  change wpList _ _ _ _ _ w.drew
  have b2:=blk_put (w:=w.drew) HG.out 2 (.int .i64 m) rfl
  have f3':=blk_frozen b2 3
  have B2:=Aside0.mk b2
  clear b2
  go_wp2
  go_end0
  refine ⟨rfl,?_,((TurnsG.below (w':=w.drew) (Below.refl _ _).drew g).set 2 _).set 3 _⟩
  exact blk_put B2.out 3 (.int .i64 t) rfl
/-- A frame that asks for tokens: are there as many; and what is left. -/
def takeOk (r b T a at_ size : Int) : Bool:=decide (size ≤ untilT r b T a at_)
def takeT (r b T a at_ size : Int) : Int:=if size ≤ untilT r b T a at_ then wrap64 (untilT r b T a at_ - size) else untilT r b T a at_
set_option maxHeartbeats 4000000 in
set_option maxRecDepth 100000 in
theorem x_take (g : Nat) (r b T a at_ size : Int) (w : World) (hg : w.heap[g]? = some (bk r b T a)) :
    Calls Try.prog 45 #[.pointer (some ⟨g,0,none⟩),.agg #[.int .i64 at_,.int .i64 size]] w fun e w' => e = .returned (.bool (takeOk r b T a at_ size)) ∧ w'.heap[g]? = some (bk r b (takeT r b T a at_ size) at_) ∧ TurnsG w w' g:=by
  have hu:=Try.underlying62
  have hu2:=Try.underlying35
  have hlt:=blk_lt hg
  have hb0 : Below w.heap.size w (w.alloc (.cells #[.int .i64 at_,.int .i64 size] 35)):=(Below.refl _ w).alloc (Nat.le_refl _) _
  have hb0p:=blk_new w (.cells #[.int .i64 at_,.int .i64 size] 35)
  have hcall:=x_until g r b T a at_ (w.alloc (.cells #[.int .i64 at_,.int .i64 size] 35)) (blk_alloc hg _)
  have HB0:=Aside0.mk hb0
  have HB0P:=Aside0.mk hb0p
  have HO : Aside0 (takeOk r b T a at_ size = decide (size ≤ untilT r b T a at_)):=⟨rfl⟩
  have HT : Aside0 (takeT r b T a at_ size = if size ≤ untilT r b T a at_ then wrap64 (untilT r b T a at_ - size) else untilT r b T a at_):=⟨rfl⟩
  generalize takeOk r b T a at_ size = z at HO ⊢
  generalize takeT r b T a at_ size = zt at HT ⊢
  generalize untilT r b T a at_ = m at HO HT hcall
  clear hg hb0 hb0p
  by_cases h : size ≤ m
  · have hd : decide (m < size) = false:=decide_eq_false (by omega)
    obtain ⟨x1,hx1⟩ : ∃ x1,x1 = wrap64 (m - size):=⟨_,rfl⟩
    have y1 : IntKind.i64.wrap (m - size) = x1:=(i64_w _).trans hx1.symm
    have HZ : Aside0 (z = true):=⟨by rw [HO.out,decide_eq_true h]⟩
    have HZT : Aside0 (zt = x1):=⟨by rw [HT.out,if_pos h,hx1]⟩
    clear HO HT hx1 h
    go_enter Try.func45,Try.ntmps45
    go_wp2_with fail
    refine hcall.mono ?_
    rintro e w1 ⟨rfl,hg1,ht1⟩
    have c2 : w1.cell? ⟨g,2,none⟩ = some (.int .i64 m):=(blk_cell hg1 2).trans rfl
    have f2 : w1.frozen? ⟨g,2,none⟩ = false:=blk_frozen hg1 2
    have p1 : w1.cell? ⟨w.heap.size,1,none⟩ = some (.int .i64 size):=(blk_cell (ht1.1.blk HB0P.out (by omega) (by simp)) 1).trans rfl
    have HX:=Aside0.mk (And.intro hg1 ht1)
    clear hg1 ht1
    go_wp2
    go_quiet (fail)
    go_wp2
    have c2' : (w1.drewN nq).cell? ⟨g,2,none⟩ = some (.int .i64 m):=c2
    have f2' : (w1.drewN nq).frozen? ⟨g,2,none⟩ = false:=f2
    have p1' : (w1.drewN nq).cell? ⟨w.heap.size,1,none⟩ = some (.int .i64 size):=p1
    have HX' : Aside0 ((w1.drewN nq).heap[g]? = some (bk r b m at_) ∧ TurnsG w (w1.drewN nq) g):=⟨HX.out.1,((TurnsG.below HB0.out g).trans HX.out.2).trans (TurnsG.below (pw_below_drewN (Below.refl _ _) _) g)⟩
    clear c2 f2 p1 HX
    generalize w1.drewN nq = w2 at *
    go_still_tail 7,(by kernel_rfl)
    change wpList _ _ _ _ _ w2.drew
    go_wp2
    go_ret
    refine ⟨by rw [HZ.out];rfl,?_,HX'.out.2.trans ((TurnsG.below (w':=w2.drew) (Below.refl _ _).drew g).set 2 _)⟩
    rw [HZT.out]
    exact blk_put (w:=w2.drew) HX'.out.1 2 (.int .i64 x1) rfl
  · have hd : decide (m < size) = true:=decide_eq_true (by omega)
    have HZ : Aside0 (z = false):=⟨by rw [HO.out,decide_eq_false h]⟩
    have HZT : Aside0 (zt = m):=⟨by rw [HT.out,if_neg h]⟩
    clear HO HT h
    go_enter Try.func45,Try.ntmps45
    go_wp2_with fail
    refine hcall.mono ?_
    rintro e w1 ⟨rfl,hg1,ht1⟩
    have c2 : w1.cell? ⟨g,2,none⟩ = some (.int .i64 m):=(blk_cell hg1 2).trans rfl
    have p1 : w1.cell? ⟨w.heap.size,1,none⟩ = some (.int .i64 size):=(blk_cell (ht1.1.blk HB0P.out (by omega) (by simp)) 1).trans rfl
    have HX:=Aside0.mk (And.intro hg1 ht1)
    clear hg1 ht1
    go_wp2
    go_quiet (fail)
    go_wp2
    go_ret
    exact ⟨by rw [HZ.out];rfl,by rw [HZT.out];exact HX.out.1,((TurnsG.below HB0.out g).trans HX.out.2).trans (TurnsG.below (pw_below_drewN (Below.refl _ _) _) g)⟩

-- LIB pbase
theorem wrap_eq {x : Int} (h1 : -9223372036854775808 ≤ x) (h2 : x ≤ 9223372036854775807) : wrap64 x = x:=by unfold wrap64;omega
theorem wrap_succ {i n : Nat} (h : i < n) (hn : n ≤ 9223372036854775807) : wrap64 ((i : Int) + 1) = ((i + 1 : Nat) : Int):=by rw [wrap_eq (by omega) (by omega)];rfl
theorem rd_get (l : List Int) (i : Nat) (h : i < l.length) : rd l (i : Int) = l[i]:=by simp [rd,List.getD_eq_getElem?_getD,h]

-- LIB ppulse
theorem rdP_get (l : List S35) (i : Nat) (h : i < l.length) : rd_T35 l (i : Int) = l[i]:=by simp [rd_T35,List.getD_eq_getElem?_getD,h]
def pulseB (p : S35) : Bool:=(decide (0 ≤ p.f0) && decide (p.f0 ≤ 2000)) && (decide (1 ≤ p.f1) && decide (p.f1 ≤ 50))
def nondec : List S35 → Bool
  | x :: y :: t => decide (x.f0 ≤ y.f0) && nondec (y :: t)
  | _ => true
def pvB (l : List S35) : Bool:=(l.all pulseB && nondec l) && decide (l.length ≤ 60)
theorem withinP_is (n a b : Int) : impl_within.f n a b = some (decide (a ≤ n) && decide (n ≤ b)):=by
  unfold impl_within.f
  by_cases h : a ≤ n <;> simp [h]
theorem pulses_at (l : List S35) (hl : l.length ≤ 9223372036854775807) (d : Nat) : ∀ (k i : Nat),1 ≤ i → i + d = l.length → d < k → impl_PulsesValid.l0 k l l l.length (i : Int) = some ((l.drop i).all pulseB && nondec (l.drop (i - 1)) && decide (l.length ≤ 60)):=by
  induction d with
  | zero =>
    intro k i h1 h2 hk
    obtain ⟨k,rfl⟩ : ∃ m,k = m + 1:=⟨k - 1,by omega⟩
    simp only [impl_PulsesValid.l0]
    have e1 : l.drop i = []:=by rw [show i = l.length by omega,List.drop_length]
    have e2 : l.drop (i - 1 + 1) = []:=by rw [show i - 1 + 1 = l.length by omega,List.drop_length]
    have e3 : ((l.length : Int) ≤ 60) = (l.length ≤ 60):=by apply propext;omega
    rw [if_neg (by omega),e1,List.drop_eq_getElem_cons (show i - 1 < l.length by omega),e2]
    simp [nondec,e3]
  | succ d ih =>
    intro k i h1 h2 hk
    obtain ⟨k,rfl⟩ : ∃ m,k = m + 1:=⟨k - 1,by omega⟩
    have e1 : wrap64 ((i : Int) - 1) = ((i - 1 : Nat) : Int):=by unfold wrap64;omega
    have ih':=ih k (i + 1) (by omega) (by omega) (by omega)
    simp only [impl_PulsesValid.l0]
    rw [e1,wrap_succ (show i < l.length by omega) (by omega),if_pos (by omega),if_pos (by omega),if_pos (by omega),if_pos (show (i : Int) > 0 by omega),if_pos (by omega),if_pos (by omega),ih',withinP_is,withinP_is]
    rw [rdP_get l i (by omega),rdP_get l (i - 1) (by omega),List.drop_eq_getElem_cons (show i - 1 < l.length by omega),show i - 1 + 1 = i by omega,List.drop_eq_getElem_cons (show i < l.length by omega),nondec,show i + 1 - 1 = i by omega,List.drop_eq_getElem_cons (show i < l.length by omega)]
    simp only [Option.bind_some,List.all_cons]
    have hp : pulseB l[i] = ((decide (0 ≤ l[i].f0) && decide (l[i].f0 ≤ 2000)) && (decide (1 ≤ l[i].f1) && decide (l[i].f1 ≤ 50))):=rfl
    rw [hp]
    cases c1 : (decide (0 ≤ l[i].f0) && decide (l[i].f0 ≤ 2000)) with
    | false => rw [if_neg (by decide)];simp
    | true =>
      rw [if_pos rfl]
      cases c2 : (decide (1 ≤ l[i].f1) && decide (l[i].f1 ≤ 50)) with
      | false => rw [if_neg (by decide)];simp
      | true =>
        rw [if_pos rfl]
        by_cases c : l[i].f0 < l[i - 1].f0
        · rw [if_pos c,decide_eq_false (show ¬ l[i - 1].f0 ≤ l[i].f0 by omega)];simp
        · rw [if_neg c,decide_eq_true (show l[i - 1].f0 ≤ l[i].f0 by omega)];simp
theorem pulses_eq (l : List S35) (hl : l.length ≤ 9223372036854775807) (k : Nat) (hk : l.length < k) : impl_PulsesValid.f k l = some (pvB l):=by
  unfold impl_PulsesValid.f pvB
  obtain ⟨k,rfl⟩ : ∃ m,k = m + 1:=⟨k - 1,by omega⟩
  simp only [impl_PulsesValid.l0]
  match l,hl,hk with
  | [],_,_ => rfl
  | x :: t,hl,hk =>
    have h1:=pulses_at (x :: t) hl t.length k 1 (by omega) (by simp;omega) (by simp at hk;omega)
    have hx : rd_T35 (x :: t) 0 = x:=rfl
    rw [if_pos (by simp only [List.length_cons];omega),if_pos (by omega),if_pos (by simp only [List.length_cons];omega),withinP_is,withinP_is,hx]
    simp only [Option.bind_some,List.all_cons]
    have hp : pulseB x = ((decide (0 ≤ x.f0) && decide (x.f0 ≤ 2000)) && (decide (1 ≤ x.f1) && decide (x.f1 ≤ 50))):=rfl
    rw [hp]
    cases c1 : (decide (0 ≤ x.f0) && decide (x.f0 ≤ 2000)) with
    | false => rw [if_neg (by decide)];simp
    | true =>
      rw [if_pos rfl]
      cases c2 : (decide (1 ≤ x.f1) && decide (x.f1 ≤ 50)) with
      | false => rw [if_neg (by decide)];simp
      | true =>
        rw [if_pos rfl,if_neg (by decide),wrap_eq (by decide) (by decide)]
        refine Eq.trans h1 ?_
        simp only [List.drop_succ_cons,List.drop_zero,Nat.sub_self,Bool.true_and]
def fitsB (rate burst : Int) (l : List S35) : Bool:=pvB l && ((decide (1 ≤ rate) && decide (rate ≤ 20)) && (decide (1 ≤ burst) && decide (burst ≤ 100)))
theorem fitsB_facts {rate burst : Int} {l : List S35} (h : fitsB rate burst l = true) : pvB l = true ∧ l.length ≤ 60 ∧ 1 ≤ rate ∧ rate ≤ 20 ∧ 1 ≤ burst ∧ burst ≤ 100:=by
  unfold fitsB at h
  have hl : pvB l = true → l.length ≤ 60:=by unfold pvB;simp
  simp at h
  exact ⟨h.1,hl h.1,by omega⟩

-- LIB newbucket
/-- A new shaper at block g, of the call's own. -/
def NewB (r b : Int) (ok : Bool) (w : World) (e : Ending) (w' : World) : Prop:=∃ g,e = .returned (.tuple #[.pointer (some ⟨g,0,none⟩),.bool ok]) ∧ w'.heap[g]? = some (bk r b b 0) ∧ w.heap.size ≤ g ∧ Below w.heap.size w w'
set_option maxHeartbeats 4000000 in
set_option maxRecDepth 100000 in
theorem x_newBucket (r b : Int) (A0 : Option Addr) (c0 : Nat) (l0 : List S35) (w : World) (hr0 : Kd.C k35 w A0 l0.length l0) (hc0 : l0.length ≤ c0) :
    Calls Try.prog 43 #[.int .i64 r,.int .i64 b,.slice A0 l0.length c0] w (NewB r b (fitsB r b l0) w):=by
  have hu:=Try.underlying62
  have hlen:=Kd.C_max hr0
  have hb0 : Below w.heap.size w (w.alloc (bk r b b 0)):=(Below.refl _ w).alloc (Nat.le_refl _) _
  have hp:=impl_PulsesValid.calls (l0.length + 1) A0 c0 l0 (pvB l0) _ (Kd.C_below hr0 hb0) hc0 (pulses_eq l0 hlen _ (by omega))
  have hw1:=fun W => impl_within.calls r 1 20 _ W (withinP_is r 1 20)
  have hw2:=fun W => impl_within.calls b 1 100 _ W (withinP_is b 1 100)
  have HB0:=Aside0.mk hb0
  have HN : Aside0 ((w.alloc (bk r b b 0)).heap[w.heap.size]? = some (bk r b b 0)):=⟨blk_new w _⟩
  have HOK : Aside0 (fitsB r b l0 = (pvB l0 && ((decide (1 ≤ r) && decide (r ≤ 20)) && (decide (1 ≤ b) && decide (b ≤ 100))))):=⟨rfl⟩
  unfold bk at hp
  clear hr0 hc0 hb0
  generalize fitsB r b l0 = z at HOK ⊢
  generalize pvB l0 = z1 at HOK hp
  generalize (decide (1 ≤ r) && decide (r ≤ 20)) = z2 at HOK hw1
  generalize (decide (1 ≤ b) && decide (b ≤ 100)) = z3 at HOK hw2
  cases z1 with
  | false =>
    have HZ : Aside0 (z = false):=⟨by rw [HOK.out];rfl⟩
    clear HOK
    go_enter Try.func43,Try.ntmps43
    go_wp2_with fail
    refine hp.mono ?_
    rintro e w1 ⟨rfl,hb1⟩
    go_wp2_with fail
    go_ret2
    exact ⟨w.heap.size,by rw [HZ.out];rfl,blk_below HN.out hb1,Nat.le_refl _,below_step HB0.out hb1⟩
  | true =>
  cases z2 with
  | false =>
    have HZ : Aside0 (z = false):=⟨by rw [HOK.out];rfl⟩
    clear HOK
    go_enter Try.func43,Try.ntmps43
    go_wp2_with fail
    refine hp.mono ?_
    rintro e w1 ⟨rfl,hb1⟩
    go_wp2_with fail
    refine (hw1 _).mono ?_
    rintro e w2 ⟨rfl,hd2⟩
    go_wp2_with fail
    go_ret2
    have hb2:=below_step hb1 hd2.below
    exact ⟨w.heap.size,by rw [HZ.out];rfl,blk_below HN.out hb2,Nat.le_refl _,below_step HB0.out hb2⟩
  | true =>
    have HZ : Aside0 (z = z3):=⟨by rw [HOK.out];rfl⟩
    clear HOK
    go_enter Try.func43,Try.ntmps43
    go_wp2_with fail
    refine hp.mono ?_
    rintro e w1 ⟨rfl,hb1⟩
    go_wp2_with fail
    refine (hw1 _).mono ?_
    rintro e w2 ⟨rfl,hd2⟩
    go_wp2_with fail
    refine (hw2 _).mono ?_
    rintro e w3 ⟨rfl,hd3⟩
    go_wp2_with fail
    go_ret2
    have hb3:=below_step (below_step hb1 hd2.below) hd3.below
    exact ⟨w.heap.size,by rw [HZ.out];rfl,blk_below HN.out hb3,Nat.le_refl _,below_step HB0.out hb3⟩

-- LIB mappedtake
/-- Which frames are let through, from a state on. -/
def polL (r b : Int) : Int → Int → List S35 → List Bool
  | _,_,[] => []
  | T,a,p :: l => takeOk r b T a p.f0 p.f1 :: polL r b (takeT r b T a p.f0 p.f1) p.f0 l
theorem TurnsG.grown {w W w1 : World} {g : Nat} {row : Option Nat} (h : TurnsG w W g) (hg : W.grownBy w1 row) (hr : ∀ k,row = some k → w.heap.size ≤ k) : TurnsG w w1 g :=
  ⟨⟨Nat.le_trans h.1.1 hg.size,fun i hi hb hn => (hg.block i (Nat.lt_of_lt_of_le hi h.1.1) (fun e => by have:=hr i e.symm;omega)).trans (h.1.2 i hi hb hn)⟩,
   fun w0 h0 hb => pw_below_grown (h.2 w0 h0 hb) row (Nat.le_trans hb.size h.1.1) hg (fun k hk => Nat.le_trans hb.size (hr k hk))⟩
set_option maxHeartbeats 8000000 in
set_option maxRecDepth 100000 in
theorem x_mapped (g : Nat) (r b : Int) (A0 : Option Addr) (c0 : Nat) (l0 : List S35) (w0 w : World) (hl : l0.length ≤ 60) (h0 : w0.heap.size ≤ g) (hB : Below w0.heap.size w0 w) (hg : w.heap[g]? = some (bk r b b 0)) (hr0 : Kd.C k35 w0 A0 l0.length l0) :
    Calls Try.prog 50 #[.slice A0 l0.length c0,.func (.func 45) #[.pointer (some ⟨g,0,none⟩)] #[]] w fun e w' => ∃ v : Value,e = .returned v ∧ Kd.R Kd.bool 4 w' w0.heap.size (fun k => w.heap.size ≤ k) v (polL r b b 0 l0) ∧ Below w0.heap.size w0 w':=by
  have hu:=Try.underlying35
  have hgw:=blk_lt hg
  have HR:=Aside0.mk hr0
  have HB:=Aside0.mk hB
  have HG:=Aside0.mk hg
  have hsz:=hB.size
  clear hr0 hB hg
  go_enter Try.func50,Try.ntmps50
  go_wp2
  go_loopg [5,7,10] l0.length (fun gg s5 _ s10 wr => ∃ (kk : Nat) (v : Value) (bs : List Bool) (T a : Int),kk ≤ l0.length ∧ l0.length - kk ≤ gg ∧ v = s5 ∧ s10 = .int .i64 kk ∧ bs.length = kk ∧ Aside0 (bs ++ polL r b T a (l0.drop kk) = polL r b b 0 l0) ∧
    Aside0 (Kd.R Kd.bool 4 wr w0.heap.size (fun k => w.heap.size ≤ k) v bs) ∧ Aside0 (wr.heap[g]? = some (bk r b T a)) ∧ Aside0 (Below w0.heap.size w0 wr) ∧ w.heap.size ≤ wr.heap.size)
  case atStart => exact ⟨0,_,[],b,0,Nat.zero_le _,by omega,rfl,rfl,rfl,⟨rfl⟩,⟨Kd.R_nil _ _ _ _ _⟩,HG,HB,Nat.le_refl _⟩
  case round =>
    obtain ⟨kk,v,bs,T,a,hkk,hgg,rfl,rfl,hbl,HP,HO,HS,BW,hws⟩:=hrel
    by_cases hlt : kk < l0.length
    · obtain ⟨ad,e,hx0,hx1⟩:=at_T35 (Kd.C_below HR.out BW.out) (kk : Int) (by omega) (by omega)
      cases e
      rw [Int.toNat_natCast] at hx0 hx1
      have hcall:=fun W (hW : W.heap[g]? = some (bk r b T a)) => x_take g r b T a (rd_T35 l0 kk).f0 (rd_T35 l0 kk).f1 W hW
      have hcons : polL r b T a (l0.drop kk) = takeOk r b T a (rd_T35 l0 kk).f0 (rd_T35 l0 kk).f1 :: polL r b (takeT r b T a (rd_T35 l0 kk).f0 (rd_T35 l0 kk).f1) (rd_T35 l0 kk).f0 (l0.drop (kk + 1)):=by
        rw [List.drop_eq_getElem_cons hlt,rdP_get l0 kk hlt];rfl
      have HP' : Aside0 ((bs ++ [takeOk r b T a (rd_T35 l0 kk).f0 (rd_T35 l0 kk).f1]) ++ polL r b (takeT r b T a (rd_T35 l0 kk).f0 (rd_T35 l0 kk).f1) (rd_T35 l0 kk).f0 (l0.drop (kk + 1)) = polL r b b 0 l0):=⟨by rw [← HP.out,hcons,List.append_assoc];rfl⟩
      clear hcons
      generalize (rd_T35 l0 kk).f0 = pa at hx0 hcall HP'
      generalize (rd_T35 l0 kk).f1 = ps at hx1 hcall HP'
      generalize takeOk r b T a pa ps = tk at hcall HP'
      generalize takeT r b T a pa ps = tt at hcall HP'
      go_wp2_with fail
      refine (hcall _ (by exact blk_alloc HS.out _)).mono ?_
      rintro e w1 ⟨rfl,hg1,ht1⟩
      have ht2:=(TurnsG.below (below_alloc (Below.refl _ wr) (.cells #[.int .i64 pa,.int .i64 ps] 35)) g).trans ht1
      have HO1:=Aside0.mk (Kd.R_keep HO.out ht2.1 (fun k hk => by omega))
      have BW1:=Aside0.mk (ht2.2 w0 h0 BW.out)
      have hws1:=ht2.1.1
      have HG1:=Aside0.mk hg1
      clear ht1 ht2 hg1 HO BW HS HP hcall
      have hl1 : bs.length + 1 ≤ 60:=by omega
      go_wp2_with (first | ((with_reducible refine gate_builtin (b:=.append) (xs:=#[.tmp 14,.tmp 18]) rfl ?_);at_builtin;refine Kd.R_append Kd.bool (w0:=w0) w0.heap.size rfl (.tmp 14) (.tmp 18) 32 4 (.bool false) 1 rfl Try.underlying32 (by kernel_rfl) rfl (by decide) (by omega) v bs tk [.bool tk] (fun k => w.heap.size ≤ k) (fun _ => False) rfl rfl ?aP (fun _ hk => hk.elim) ?aF ?aO ?aB ?aS ?aL ?_;(case aP => exact rfl);(case aB => exact BW1.out);(case aF => exact (fun k hk => by omega));(case aO => exact HO1.out);(case aS => exact BW1.out.size);(case aL => omega);intro v2 w2 ho2 hb2 hgr2 _;have HO2:=Aside0.mk ho2;have BW2:=Aside0.mk hb2;have HG2:=Aside0.mk (blk_grown HG1.out hgr2 (fun e => by have:=HO1.out.1 g e.symm;omega));have hws2:=hgr2.size;clear ho2 hb2 hgr2))
      go_roundg (l0.length - (kk + 1))
      case measure => omega
      case rel => exact ⟨kk + 1,v2,bs ++ [tk],tt,pa,by omega,by omega,rfl,by go_num,by simp [hbl],HP',HO2,HG2,BW2,by omega⟩
    · have e : kk = l0.length:=by omega
      subst e
      go_wp2
      go_ret
      refine ⟨v,rfl,?_,BW.out⟩
      rw [← HP.out,List.drop_length]
      simpa [polL] using HO.out

/-! ### impl_PolicePulses: function 20 (by hand) -/
def polF (r b : Int) (l : List S35) : List Bool:=if fitsB r b l = true then polL r b b 0 l else []
def impl_PolicePulses.f (a0 : Int) (a1 : Int) (l2 : List (S35)) : Option (List Bool) :=
 some (polF a0 a1 l2)
set_option maxHeartbeats 4000000 in
set_option maxRecDepth 100000 in
theorem impl_PolicePulses.calls (a0 : Int) (a1 : Int) (A2 : Option Addr) (c2 : Nat) (l2 : List (S35)) (r : List Bool) (w : World) (hr2 : Kd.C k35 w A2 l2.length l2) (hc2 : l2.length ≤ c2) (h : impl_PolicePulses.f a0 a1 l2 = some r) :
  Calls Try.prog 20 #[.int .i64 a0,.int .i64 a1,.slice A2 l2.length c2] w fun e w' => ∃ v0_ : Value,e = .returned (v0_) ∧ Kd.R Kd.bool 4 w' w.heap.size (fun _ => True) v0_ r ∧ Below w.heap.size w w':=by
 obtain rfl:=Option.some.inj h
 have hmf : ∀ (fn : Fn) (first cap : Array Value) (w : World),(Instr.makeFunc fn first cap).run Try.prog w = .ok (.func fn first cap) w:=fun _ _ _ _ => rfl
 have hnb:=x_newBucket a0 a1 A2 c2 l2 w hr2 hc2
 have HR:=mk_ hr2
 have HF : Aside0 (polF a0 a1 l2 = if fitsB a0 a1 l2 = true then polL a0 a1 a1 0 l2 else []):=⟨rfl⟩
 have HL : Aside0 (fitsB a0 a1 l2 = true → l2.length ≤ 60):=⟨fun h => (fitsB_facts h).2.1⟩
 clear h hr2 hc2
 generalize polF a0 a1 l2 = z at HF ⊢
 generalize fitsB a0 a1 l2 = f at HF HL hnb
 cases f with
 | false =>
  have HZ : Aside0 (z = []):=⟨by rw [HF.out];rfl⟩
  go_enter Try.func20,Try.ntmps20
  go_wp2_with fail
  refine hnb.mono ?_
  rintro e w1 ⟨g,rfl,hg1,hge,hb1⟩
  clear hg1
  go_wp2
  go_ret
  exact ⟨.slice none 0 0,rfl,by rw [HZ.out];exact Kd.R_nil _ _ _ _ _,hb1⟩
 | true =>
  have HZ : Aside0 (z = polL a0 a1 a1 0 l2):=⟨by rw [HF.out];rfl⟩
  have hl:=HL.out rfl
  go_enter Try.func20,Try.ntmps20
  go_wp2_with fail
  refine hnb.mono ?_
  rintro e w1 ⟨g,rfl,hg1,hge,hb1⟩
  have hm:=x_mapped g a0 a1 A2 c2 l2 w w1 hl hge hb1 hg1 HR.out
  clear hg1 hb1
  go_wp2_with fail
  refine hm.mono ?_
  rintro e w2 ⟨v,rfl,hR,hb2⟩
  have HX:=mk_ (And.intro hR hb2)
  clear hR hb2 hm hnb
  go_wp2_with fail
  go_ret
  exact ⟨v,rfl,by rw [HZ.out];exact rm_ HX.out.1 (fun _ _ => trivial),HX.out.2⟩

/-! ### spec_l1In: function 41 -/
def spec_l1In.f (a0 : Int) (a1 : Int) (a2 : Int) : Option (Bool):=if a0 ≥ a1 then (some (decide (a0 ≤ a2))) else (some false)
set_option maxHeartbeats 8000000 in
set_option maxRecDepth 100000 in
theorem spec_l1In.calls (a0 : Int) (a1 : Int) (a2 : Int) (r : Bool) (w : World) (h : spec_l1In.f a0 a1 a2 = some r) :
  Calls Try.prog 41 #[.int .i64 a0,.int .i64 a1,.int .i64 a2] w fun e w' => e = .returned (.bool r) ∧ Drawn0 w w':=by
 have H : (if a0 ≥ a1 then (some (decide (a0 ≤ a2))) else (some false)) = some r:=h
 clear h
 by_cases c4 : a0 ≥ a1
 ·rw [if_pos c4] at H
  have c4b0 : decide (a1 ≤ a0) = true:=decide_eq_true c4
  clear c4
  obtain rfl:=Option.some.inj H
  go_enter Try.func41,Try.ntmps41
  go_wp2
  go_ret
  exact ⟨by first|rfl|(simp;done)|(simp [*];done),by repeat (first|exact Drawn0.refl _|apply Drawn0.step)⟩
 ·rw [if_neg c4] at H
  have c4b0 : decide (a1 ≤ a0) = false:=decide_eq_false c4
  clear c4
  obtain rfl:=Option.some.inj H
  go_enter Try.func41,Try.ntmps41
  go_wp2
  go_ret
  exact ⟨by first|rfl|(simp;done)|(simp [*];done),by repeat (first|exact Drawn0.refl _|apply Drawn0.step)⟩

/-! ### spec_PulsesValid: function 34 -/
def spec_PulsesValid.l0 : Nat → List (S35) → Int → Option (Bool)
 | 0,_,_ => none
 | k + 1,x0,x3 => if x3 < (x0.length : Int) then (if 0 ≤ x3 then ((spec_l1In.f ((rd_T35 x0 x3).f0) 0 2000).bind fun t187 => (if t187 = true then ((spec_l1In.f ((rd_T35 x0 x3).f1) 1 50).bind fun t188 => (if t188 = true then (if x3 > 0 then (if 0 ≤ (wrap64 (x3 - 1)) then (if (wrap64 (x3 - 1)) < (x0.length : Int) then (if ((rd_T35 x0 (wrap64 (x3 - 1))).f0) > ((rd_T35 x0 x3).f0) then (some false) else (spec_PulsesValid.l0 k x0 (wrap64 (x3 + 1)))) else (none)) else (none)) else (spec_PulsesValid.l0 k x0 (wrap64 (x3 + 1)))) else (some false))) else (some false))) else (none)) else (some (decide ((x0.length : Int) ≤ 60)))
def spec_PulsesValid.f (k : Nat) (l0 : List (S35)) : Option (Bool):=spec_PulsesValid.l0 k l0 0
theorem spec_PulsesValid.mono_l : ∀ k,(∀ y0 y1,LeO (spec_PulsesValid.l0 k y0 y1) (spec_PulsesValid.l0 (k + 1) y0 y1))
 | 0 => fun _ _ r h => by simp [spec_PulsesValid.l0] at h
 | k + 1 => by
  have ih0:=spec_PulsesValid.mono_l k
  ·intro y0 y1
   unfold spec_PulsesValid.l0
   repeat' first
   | (with_reducible exact ih0 _ _)
   | (with_reducible exact LeO.refl _)
   | (with_reducible exact LeO.none _)
   | (with_reducible refine LeO.ite ?_ ?_)
   | (with_reducible refine LeO.bind ?_ (fun _ => ?_))
   | exact ih0 _ _
   | exact LeO.none _
   | refine LeO.ite ?_ ?_
   | refine LeO.bind ?_ (fun _ => ?_)
theorem spec_PulsesValid.mono : ∀ a0 k,LeO (spec_PulsesValid.f k a0) (spec_PulsesValid.f (k + 1) a0):=by
 intro a0 k
 have ih0:=spec_PulsesValid.mono_l k
 unfold spec_PulsesValid.f
 repeat' first
   | (with_reducible exact ih0 _ _)
   | (with_reducible exact LeO.refl _)
   | (with_reducible exact LeO.none _)
   | (with_reducible refine LeO.ite ?_ ?_)
   | (with_reducible refine LeO.bind ?_ (fun _ => ?_))
   | exact ih0 _ _
   | exact LeO.none _
   | refine LeO.ite ?_ ?_
   | refine LeO.bind ?_ (fun _ => ?_)
set_option maxHeartbeats 8000000 in
set_option maxRecDepth 100000 in
theorem spec_PulsesValid.calls (k : Nat) (A0 : Option Addr) (c0 : Nat) (l0 : List (S35)) (r : Bool) (w : World) (hr0 : Kd.C k35 w A0 l0.length l0) (hc0 : l0.length ≤ c0) (h : spec_PulsesValid.f k l0 = some r) :
  Calls Try.prog 34 #[.slice A0 l0.length c0] w fun e w' => e = .returned (.bool r) ∧ Below w.heap.size w w':=by
 have hu35:=Try.underlying35
 have HR0:=mk_ hr0
 have HC0:=mk_ hc0
 clear hr0 hc0
 have HB:=mk_ (Below.refl w.heap.size w)
 have H : (spec_PulsesValid.l0 k l0 0) = some r:=h
 clear h
 have H':=mk_ H
 clear H
 go_enter Try.func34,Try.ntmps34
 go_wp2
 repeat (go_quiet (fail);try go_wp2)
 go_loopg [3] k (fun kq v3 w' => ∃ (x3_1 : Int),v3 = .int .i64 x3_1 ∧ Aside0 (spec_PulsesValid.l0 kq l0 x3_1 = some r) ∧ Aside0 (kq ≤ k) ∧ Aside0 (Below w.heap.size w w'))
 case atStart => exact ⟨(0),qf_,H',⟨Nat.le_refl _⟩,⟨u3_ HB⟩⟩
 case round =>
  clear H'
  obtain ⟨x3_1,rfl,HA,HK1,HB⟩:=hrel
  cases gk with
  | zero => exact absurd HA.out (by simp [spec_PulsesValid.l0])
  | succ k1 =>
   have H:=HA.out
   clear HA
   simp only [spec_PulsesValid.l0] at H
   by_cases c2 : x3_1 < (l0.length : Int)
   ·rw [if_pos c2] at H
    have c2b0 : decide (x3_1 < (l0.length : Int)) = true:=decide_eq_true c2
    clear c2
    by_cases c3 : 0 ≤ x3_1
    ·rw [if_pos c3] at H
     have c3b0 : decide (0 ≤ x3_1) = true:=decide_eq_true c3
     clear c3
     replace H:=Option.bind_eq_some_iff.mp H
     obtain ⟨t187,A40,H⟩:=H
     replace H : (if t187 = true then ((spec_l1In.f ((rd_T35 l0 x3_1).f1) 1 50).bind fun t188 => (if t188 = true then (if x3_1 > 0 then (if 0 ≤ (wrap64 (x3_1 - 1)) then (if (wrap64 (x3_1 - 1)) < (l0.length : Int) then (if ((rd_T35 l0 (wrap64 (x3_1 - 1))).f0) > ((rd_T35 l0 x3_1).f0) then (some false) else (spec_PulsesValid.l0 k1 l0 (wrap64 (x3_1 + 1)))) else (none)) else (none)) else (spec_PulsesValid.l0 k1 l0 (wrap64 (x3_1 + 1)))) else (some false))) else (some false)) = some r:=H
     have A4:=mk_ A40
     clear A40
     by_cases c5 : t187 = true
     ·subst c5
      have H1 : ((spec_l1In.f ((rd_T35 l0 x3_1).f1) 1 50).bind fun t188 => (if t188 = true then (if x3_1 > 0 then (if 0 ≤ (wrap64 (x3_1 - 1)) then (if (wrap64 (x3_1 - 1)) < (l0.length : Int) then (if ((rd_T35 l0 (wrap64 (x3_1 - 1))).f0) > ((rd_T35 l0 x3_1).f0) then (some false) else (spec_PulsesValid.l0 k1 l0 (wrap64 (x3_1 + 1)))) else (none)) else (none)) else (spec_PulsesValid.l0 k1 l0 (wrap64 (x3_1 + 1)))) else (some false))) = some r:=by rw [if_pos rfl] at H;exact H
      clear H
      have H:=H1
      clear H1
      replace H:=Option.bind_eq_some_iff.mp H
      obtain ⟨t188,A60,H⟩:=H
      replace H : (if t188 = true then (if x3_1 > 0 then (if 0 ≤ (wrap64 (x3_1 - 1)) then (if (wrap64 (x3_1 - 1)) < (l0.length : Int) then (if ((rd_T35 l0 (wrap64 (x3_1 - 1))).f0) > ((rd_T35 l0 x3_1).f0) then (some false) else (spec_PulsesValid.l0 k1 l0 (wrap64 (x3_1 + 1)))) else (none)) else (none)) else (spec_PulsesValid.l0 k1 l0 (wrap64 (x3_1 + 1)))) else (some false)) = some r:=H
      have A6:=mk_ A60
      clear A60
      by_cases c7 : t188 = true
      ·subst c7
       have H1 : (if x3_1 > 0 then (if 0 ≤ (wrap64 (x3_1 - 1)) then (if (wrap64 (x3_1 - 1)) < (l0.length : Int) then (if ((rd_T35 l0 (wrap64 (x3_1 - 1))).f0) > ((rd_T35 l0 x3_1).f0) then (some false) else (spec_PulsesValid.l0 k1 l0 (wrap64 (x3_1 + 1)))) else (none)) else (none)) else (spec_PulsesValid.l0 k1 l0 (wrap64 (x3_1 + 1)))) = some r:=by rw [if_pos rfl] at H;exact H
       clear H
       have H:=H1
       clear H1
       by_cases c8 : x3_1 > 0
       ·rw [if_pos c8] at H
        have c8b0 : decide (0 < x3_1) = true:=decide_eq_true c8
        clear c8
        obtain ⟨ji9,hji9⟩ : ∃ j_ : Int,(wrap64 (x3_1 - 1)) = j_:=⟨_,rfl⟩
        replace H : (if 0 ≤ (ji9) then (if (ji9) < (l0.length : Int) then (if ((rd_T35 l0 (ji9)).f0) > ((rd_T35 l0 x3_1).f0) then (some false) else (spec_PulsesValid.l0 k1 l0 (wrap64 (x3_1 + 1)))) else (none)) else (none)) = some r:=by first|(rw [hji9] at H;exact H)|(simp only [hji9] at H ⊢;exact H)
        (try rw [hji9] at A4)
        (try rw [hji9] at A6)
        have hji9w : (IntKind.i64.wrap (x3_1 - 1)) = ji9:=(i64_w _).trans hji9
        by_cases c10 : 0 ≤ (ji9)
        ·rw [if_pos c10] at H
         have c10b0 : decide (0 ≤ (ji9)) = true:=decide_eq_true c10
         clear c10
         by_cases c11 : (ji9) < (l0.length : Int)
         ·rw [if_pos c11] at H
          have c11b0 : decide ((ji9) < (l0.length : Int)) = true:=decide_eq_true c11
          clear c11
          by_cases c12 : ((rd_T35 l0 (ji9)).f0) > ((rd_T35 l0 x3_1).f0)
          ·rw [if_pos c12] at H
           have c12b0 : decide (((rd_T35 l0 x3_1).f0) < ((rd_T35 l0 (ji9)).f0)) = true:=decide_eq_true c12
           clear c12
           obtain rfl:=Option.some.inj H
           have p185 : 0 ≤ (x3_1 : Int):=od_ qa_
           have q185 : x3_1 < (l0.length : Int):=od_ qa_
           obtain ⟨ad185,e185,hx185_0,hx185_1⟩:=at_T35 HR0.out x3_1 p185 q185
           cases e185
           replace hx185_0:=(HB.out.cell (wl_ w _ hx185_0)).trans hx185_0
           replace hx185_1:=(HB.out.cell (wl_ w _ hx185_1)).trans hx185_1
           replace p185:=eq_true p185
           replace q185:=eq_true q185
           go_wp2_with (first|((with_reducible refine gate_dst (N:=4) rfl ?_);refine box_event ?hg (N:=4) ?hd (cs:=#[.int .i64 0,.int .i64 0]) (t:=35) ?hr ?_;(case hd => rfl);(case hg => rfl);(case hr => first|(go_simp;done)|(go_simp;rfl));intro gb186 hg w13 hbox hb;have n0_:=mk_ (st_ (qb_ HB) hb);have n1_:=mk_ (hbox);have n2_:=mk_ ((by rw [hg];exact (bz_ (qb_ HB)) : w.heap.size ≤ gb186));have n3_:=mk_ ((by rw [hg];exact (bz_ (qb_ HB)) : w.heap.size ≤ gb186));clear HB;have HB:=n0_;have BK186:=n1_;have GW186:=n2_;have GE186:=n3_;clear n0_ n1_ n2_ n3_ hb hbox hg;have hcz14_0 : w13.cell? ⟨gb186,0,none⟩ = some (.int .i64 0):=(bc_ BK186.out 0).trans rfl;have hcz14_1 : w13.cell? ⟨gb186,1,none⟩ = some (.int .i64 0):=(bc_ BK186.out 1).trans rfl;have hfz14_0:=bf_ BK186.out 0;have hfz14_1:=bf_ BK186.out 1)|(go_at_call 41;(with_reducible refine (spec_l1In.calls ((rd_T35 l0 x3_1).f0) 0 2000 true _ A4.out).mono ?_);rintro e w' ⟨rfl,⟨nd,rfl⟩⟩;(try first|exact ⟨rfl,_,World.drewN_drewN _ _ _⟩|exact ⟨rfl,_,Eq.trans (World.drewN_drewN _ _ _) (congrArg (World.drewN _) (Nat.add_assoc _ _ _))⟩))|(go_at_call 41;(with_reducible refine (spec_l1In.calls ((rd_T35 l0 x3_1).f1) 1 50 true _ A6.out).mono ?_);rintro e w' ⟨rfl,⟨nd,rfl⟩⟩;(try first|exact ⟨rfl,_,World.drewN_drewN _ _ _⟩|exact ⟨rfl,_,Eq.trans (World.drewN_drewN _ _ _) (congrArg (World.drewN _) (Nat.add_assoc _ _ _))⟩);have p189 : 0 ≤ ((ji9) : Int):=od_ qa_;have q189 : (ji9) < (l0.length : Int):=od_ qa_;obtain ⟨ad189,e189,hx189_0,hx189_1⟩:=at_T35 HR0.out (ji9) p189 q189;obtain rfl : ad185 = ad189:=(by injection e189);have hn189_0 : ad185.block ≠ gb186:=Nat.ne_of_lt (Nat.lt_of_lt_of_le (by have:=wl_ _ _ hx189_0;first|rwa [add_block] at this|exact this) GW186.out);have hn189_1 : ad185.block ≠ gb186:=Nat.ne_of_lt (Nat.lt_of_lt_of_le (by have:=wl_ _ _ hx189_0;first|rwa [add_block] at this|exact this) GW186.out);replace hx189_0:=(HB.out.cell (wl_ w _ hx189_0)).trans hx189_0;replace hx189_1:=(HB.out.cell (wl_ w _ hx189_1)).trans hx189_1;replace hx189_0:=(cell_far (p:=⟨gb186,0,none⟩) (by first|(rw [add_block];exact hn189_0)|(show (Addr.add _ _).block ≠ _;rw [add_block];exact hn189_0)|exact hn189_0) (.int .i64 ((rd_T35 l0 x3_1).f0))).trans hx189_0;replace hx189_1:=(cell_far (p:=⟨gb186,0,none⟩) (by first|(rw [add_block];exact hn189_0)|(show (Addr.add _ _).block ≠ _;rw [add_block];exact hn189_0)|exact hn189_0) (.int .i64 ((rd_T35 l0 x3_1).f0))).trans hx189_1;replace hx189_0:=(cell_far (p:=⟨gb186,1,none⟩) (by first|(rw [add_block];exact hn189_1)|(show (Addr.add _ _).block ≠ _;rw [add_block];exact hn189_1)|exact hn189_1) (.int .i64 ((rd_T35 l0 x3_1).f1))).trans hx189_0;replace hx189_1:=(cell_far (p:=⟨gb186,1,none⟩) (by first|(rw [add_block];exact hn189_1)|(show (Addr.add _ _).block ≠ _;rw [add_block];exact hn189_1)|exact hn189_1) (.int .i64 ((rd_T35 l0 x3_1).f1))).trans hx189_1;(try have hy189_0:=fun (n_ : Nat) => (show ((((w13.drewN n_).setCell ⟨gb186,0,none⟩ (.int .i64 ((rd_T35 l0 x3_1).f0))).setCell ⟨gb186,1,none⟩ (.int .i64 ((rd_T35 l0 x3_1).f1)))).cell? _ = some _ from hx189_0));(try have hy189_1:=fun (n_ : Nat) => (show ((((w13.drewN n_).setCell ⟨gb186,0,none⟩ (.int .i64 ((rd_T35 l0 x3_1).f0))).setCell ⟨gb186,1,none⟩ (.int .i64 ((rd_T35 l0 x3_1).f1)))).cell? _ = some _ from hx189_1));clear hn189_0 hn189_1;replace p189:=eq_true p189;replace q189:=eq_true q189))
           repeat (go_quiet (first|((with_reducible refine gate_dst (N:=4) rfl ?_);refine box_event ?hg (N:=4) ?hd (cs:=#[.int .i64 0,.int .i64 0]) (t:=35) ?hr ?_;(case hd => rfl);(case hg => rfl);(case hr => first|(go_simp;done)|(go_simp;rfl));intro gb186 hg w13 hbox hb;have n0_:=mk_ (st_ (qb_ HB) hb);have n1_:=mk_ (hbox);have n2_:=mk_ ((by rw [hg];exact (bz_ (qb_ HB)) : w.heap.size ≤ gb186));have n3_:=mk_ ((by rw [hg];exact (bz_ (qb_ HB)) : w.heap.size ≤ gb186));clear HB;have HB:=n0_;have BK186:=n1_;have GW186:=n2_;have GE186:=n3_;clear n0_ n1_ n2_ n3_ hb hbox hg;have hcz14_0 : w13.cell? ⟨gb186,0,none⟩ = some (.int .i64 0):=(bc_ BK186.out 0).trans rfl;have hcz14_1 : w13.cell? ⟨gb186,1,none⟩ = some (.int .i64 0):=(bc_ BK186.out 1).trans rfl;have hfz14_0:=bf_ BK186.out 0;have hfz14_1:=bf_ BK186.out 1)|(go_at_call 41;(with_reducible refine (spec_l1In.calls ((rd_T35 l0 x3_1).f0) 0 2000 true _ A4.out).mono ?_);rintro e w' ⟨rfl,⟨nd,rfl⟩⟩;(try first|exact ⟨rfl,_,World.drewN_drewN _ _ _⟩|exact ⟨rfl,_,Eq.trans (World.drewN_drewN _ _ _) (congrArg (World.drewN _) (Nat.add_assoc _ _ _))⟩))|(go_at_call 41;(with_reducible refine (spec_l1In.calls ((rd_T35 l0 x3_1).f1) 1 50 true _ A6.out).mono ?_);rintro e w' ⟨rfl,⟨nd,rfl⟩⟩;(try first|exact ⟨rfl,_,World.drewN_drewN _ _ _⟩|exact ⟨rfl,_,Eq.trans (World.drewN_drewN _ _ _) (congrArg (World.drewN _) (Nat.add_assoc _ _ _))⟩);have p189 : 0 ≤ ((ji9) : Int):=od_ qa_;have q189 : (ji9) < (l0.length : Int):=od_ qa_;obtain ⟨ad189,e189,hx189_0,hx189_1⟩:=at_T35 HR0.out (ji9) p189 q189;obtain rfl : ad185 = ad189:=(by injection e189);have hn189_0 : ad185.block ≠ gb186:=Nat.ne_of_lt (Nat.lt_of_lt_of_le (by have:=wl_ _ _ hx189_0;first|rwa [add_block] at this|exact this) GW186.out);have hn189_1 : ad185.block ≠ gb186:=Nat.ne_of_lt (Nat.lt_of_lt_of_le (by have:=wl_ _ _ hx189_0;first|rwa [add_block] at this|exact this) GW186.out);replace hx189_0:=(HB.out.cell (wl_ w _ hx189_0)).trans hx189_0;replace hx189_1:=(HB.out.cell (wl_ w _ hx189_1)).trans hx189_1;replace hx189_0:=(cell_far (p:=⟨gb186,0,none⟩) (by first|(rw [add_block];exact hn189_0)|(show (Addr.add _ _).block ≠ _;rw [add_block];exact hn189_0)|exact hn189_0) (.int .i64 ((rd_T35 l0 x3_1).f0))).trans hx189_0;replace hx189_1:=(cell_far (p:=⟨gb186,0,none⟩) (by first|(rw [add_block];exact hn189_0)|(show (Addr.add _ _).block ≠ _;rw [add_block];exact hn189_0)|exact hn189_0) (.int .i64 ((rd_T35 l0 x3_1).f0))).trans hx189_1;replace hx189_0:=(cell_far (p:=⟨gb186,1,none⟩) (by first|(rw [add_block];exact hn189_1)|(show (Addr.add _ _).block ≠ _;rw [add_block];exact hn189_1)|exact hn189_1) (.int .i64 ((rd_T35 l0 x3_1).f1))).trans hx189_0;replace hx189_1:=(cell_far (p:=⟨gb186,1,none⟩) (by first|(rw [add_block];exact hn189_1)|(show (Addr.add _ _).block ≠ _;rw [add_block];exact hn189_1)|exact hn189_1) (.int .i64 ((rd_T35 l0 x3_1).f1))).trans hx189_1;(try have hy189_0:=fun (n_ : Nat) => (show ((((w13.drewN n_).setCell ⟨gb186,0,none⟩ (.int .i64 ((rd_T35 l0 x3_1).f0))).setCell ⟨gb186,1,none⟩ (.int .i64 ((rd_T35 l0 x3_1).f1)))).cell? _ = some _ from hx189_0));(try have hy189_1:=fun (n_ : Nat) => (show ((((w13.drewN n_).setCell ⟨gb186,0,none⟩ (.int .i64 ((rd_T35 l0 x3_1).f0))).setCell ⟨gb186,1,none⟩ (.int .i64 ((rd_T35 l0 x3_1).f1)))).cell? _ = some _ from hx189_1));clear hn189_0 hn189_1;replace p189:=eq_true p189;replace q189:=eq_true q189));try go_wp2_with (first|((with_reducible refine gate_dst (N:=4) rfl ?_);refine box_event ?hg (N:=4) ?hd (cs:=#[.int .i64 0,.int .i64 0]) (t:=35) ?hr ?_;(case hd => rfl);(case hg => rfl);(case hr => first|(go_simp;done)|(go_simp;rfl));intro gb186 hg w13 hbox hb;have n0_:=mk_ (st_ (qb_ HB) hb);have n1_:=mk_ (hbox);have n2_:=mk_ ((by rw [hg];exact (bz_ (qb_ HB)) : w.heap.size ≤ gb186));have n3_:=mk_ ((by rw [hg];exact (bz_ (qb_ HB)) : w.heap.size ≤ gb186));clear HB;have HB:=n0_;have BK186:=n1_;have GW186:=n2_;have GE186:=n3_;clear n0_ n1_ n2_ n3_ hb hbox hg;have hcz14_0 : w13.cell? ⟨gb186,0,none⟩ = some (.int .i64 0):=(bc_ BK186.out 0).trans rfl;have hcz14_1 : w13.cell? ⟨gb186,1,none⟩ = some (.int .i64 0):=(bc_ BK186.out 1).trans rfl;have hfz14_0:=bf_ BK186.out 0;have hfz14_1:=bf_ BK186.out 1)|(go_at_call 41;(with_reducible refine (spec_l1In.calls ((rd_T35 l0 x3_1).f0) 0 2000 true _ A4.out).mono ?_);rintro e w' ⟨rfl,⟨nd,rfl⟩⟩;(try first|exact ⟨rfl,_,World.drewN_drewN _ _ _⟩|exact ⟨rfl,_,Eq.trans (World.drewN_drewN _ _ _) (congrArg (World.drewN _) (Nat.add_assoc _ _ _))⟩))|(go_at_call 41;(with_reducible refine (spec_l1In.calls ((rd_T35 l0 x3_1).f1) 1 50 true _ A6.out).mono ?_);rintro e w' ⟨rfl,⟨nd,rfl⟩⟩;(try first|exact ⟨rfl,_,World.drewN_drewN _ _ _⟩|exact ⟨rfl,_,Eq.trans (World.drewN_drewN _ _ _) (congrArg (World.drewN _) (Nat.add_assoc _ _ _))⟩);have p189 : 0 ≤ ((ji9) : Int):=od_ qa_;have q189 : (ji9) < (l0.length : Int):=od_ qa_;obtain ⟨ad189,e189,hx189_0,hx189_1⟩:=at_T35 HR0.out (ji9) p189 q189;obtain rfl : ad185 = ad189:=(by injection e189);have hn189_0 : ad185.block ≠ gb186:=Nat.ne_of_lt (Nat.lt_of_lt_of_le (by have:=wl_ _ _ hx189_0;first|rwa [add_block] at this|exact this) GW186.out);have hn189_1 : ad185.block ≠ gb186:=Nat.ne_of_lt (Nat.lt_of_lt_of_le (by have:=wl_ _ _ hx189_0;first|rwa [add_block] at this|exact this) GW186.out);replace hx189_0:=(HB.out.cell (wl_ w _ hx189_0)).trans hx189_0;replace hx189_1:=(HB.out.cell (wl_ w _ hx189_1)).trans hx189_1;replace hx189_0:=(cell_far (p:=⟨gb186,0,none⟩) (by first|(rw [add_block];exact hn189_0)|(show (Addr.add _ _).block ≠ _;rw [add_block];exact hn189_0)|exact hn189_0) (.int .i64 ((rd_T35 l0 x3_1).f0))).trans hx189_0;replace hx189_1:=(cell_far (p:=⟨gb186,0,none⟩) (by first|(rw [add_block];exact hn189_0)|(show (Addr.add _ _).block ≠ _;rw [add_block];exact hn189_0)|exact hn189_0) (.int .i64 ((rd_T35 l0 x3_1).f0))).trans hx189_1;replace hx189_0:=(cell_far (p:=⟨gb186,1,none⟩) (by first|(rw [add_block];exact hn189_1)|(show (Addr.add _ _).block ≠ _;rw [add_block];exact hn189_1)|exact hn189_1) (.int .i64 ((rd_T35 l0 x3_1).f1))).trans hx189_0;replace hx189_1:=(cell_far (p:=⟨gb186,1,none⟩) (by first|(rw [add_block];exact hn189_1)|(show (Addr.add _ _).block ≠ _;rw [add_block];exact hn189_1)|exact hn189_1) (.int .i64 ((rd_T35 l0 x3_1).f1))).trans hx189_1;(try have hy189_0:=fun (n_ : Nat) => (show ((((w13.drewN n_).setCell ⟨gb186,0,none⟩ (.int .i64 ((rd_T35 l0 x3_1).f0))).setCell ⟨gb186,1,none⟩ (.int .i64 ((rd_T35 l0 x3_1).f1)))).cell? _ = some _ from hx189_0));(try have hy189_1:=fun (n_ : Nat) => (show ((((w13.drewN n_).setCell ⟨gb186,0,none⟩ (.int .i64 ((rd_T35 l0 x3_1).f0))).setCell ⟨gb186,1,none⟩ (.int .i64 ((rd_T35 l0 x3_1).f1)))).cell? _ = some _ from hx189_1));clear hn189_0 hn189_1;replace p189:=eq_true p189;replace q189:=eq_true q189)))
           go_ret
           exact ⟨by first|rfl|(simp [errW_none,errW_some] <;> rfl)|(simp only [← hji9];first|rfl|(simp [errW_none,errW_some] <;> rfl))|(simp [*,errW_none,errW_some] <;> rfl),u4_ HB GE186⟩
          ·rw [if_neg c12] at H
           have c12b0 : decide (((rd_T35 l0 x3_1).f0) < ((rd_T35 l0 (ji9)).f0)) = false:=decide_eq_false c12
           clear c12
           have H':=mk_ H
           clear H
           have p185 : 0 ≤ (x3_1 : Int):=od_ qa_
           have q185 : x3_1 < (l0.length : Int):=od_ qa_
           obtain ⟨ad185,e185,hx185_0,hx185_1⟩:=at_T35 HR0.out x3_1 p185 q185
           cases e185
           replace hx185_0:=(HB.out.cell (wl_ w _ hx185_0)).trans hx185_0
           replace hx185_1:=(HB.out.cell (wl_ w _ hx185_1)).trans hx185_1
           replace p185:=eq_true p185
           replace q185:=eq_true q185
           go_wp2_with (first|((with_reducible refine gate_dst (N:=4) rfl ?_);refine box_event ?hg (N:=4) ?hd (cs:=#[.int .i64 0,.int .i64 0]) (t:=35) ?hr ?_;(case hd => rfl);(case hg => rfl);(case hr => first|(go_simp;done)|(go_simp;rfl));intro gb186 hg w15 hbox hb;have n0_:=mk_ (st_ (qb_ HB) hb);have n1_:=mk_ (hbox);have n2_:=mk_ ((by rw [hg];exact (bz_ (qb_ HB)) : w.heap.size ≤ gb186));have n3_:=mk_ ((by rw [hg];exact (bz_ (qb_ HB)) : w.heap.size ≤ gb186));clear HB;have HB:=n0_;have BK186:=n1_;have GW186:=n2_;have GE186:=n3_;clear n0_ n1_ n2_ n3_ hb hbox hg;have hcz16_0 : w15.cell? ⟨gb186,0,none⟩ = some (.int .i64 0):=(bc_ BK186.out 0).trans rfl;have hcz16_1 : w15.cell? ⟨gb186,1,none⟩ = some (.int .i64 0):=(bc_ BK186.out 1).trans rfl;have hfz16_0:=bf_ BK186.out 0;have hfz16_1:=bf_ BK186.out 1)|(go_at_call 41;(with_reducible refine (spec_l1In.calls ((rd_T35 l0 x3_1).f0) 0 2000 true _ A4.out).mono ?_);rintro e w' ⟨rfl,⟨nd,rfl⟩⟩;(try first|exact ⟨rfl,_,World.drewN_drewN _ _ _⟩|exact ⟨rfl,_,Eq.trans (World.drewN_drewN _ _ _) (congrArg (World.drewN _) (Nat.add_assoc _ _ _))⟩))|(go_at_call 41;(with_reducible refine (spec_l1In.calls ((rd_T35 l0 x3_1).f1) 1 50 true _ A6.out).mono ?_);rintro e w' ⟨rfl,⟨nd,rfl⟩⟩;(try first|exact ⟨rfl,_,World.drewN_drewN _ _ _⟩|exact ⟨rfl,_,Eq.trans (World.drewN_drewN _ _ _) (congrArg (World.drewN _) (Nat.add_assoc _ _ _))⟩);have p189 : 0 ≤ ((ji9) : Int):=od_ qa_;have q189 : (ji9) < (l0.length : Int):=od_ qa_;obtain ⟨ad189,e189,hx189_0,hx189_1⟩:=at_T35 HR0.out (ji9) p189 q189;obtain rfl : ad185 = ad189:=(by injection e189);have hn189_0 : ad185.block ≠ gb186:=Nat.ne_of_lt (Nat.lt_of_lt_of_le (by have:=wl_ _ _ hx189_0;first|rwa [add_block] at this|exact this) GW186.out);have hn189_1 : ad185.block ≠ gb186:=Nat.ne_of_lt (Nat.lt_of_lt_of_le (by have:=wl_ _ _ hx189_0;first|rwa [add_block] at this|exact this) GW186.out);replace hx189_0:=(HB.out.cell (wl_ w _ hx189_0)).trans hx189_0;replace hx189_1:=(HB.out.cell (wl_ w _ hx189_1)).trans hx189_1;replace hx189_0:=(cell_far (p:=⟨gb186,0,none⟩) (by first|(rw [add_block];exact hn189_0)|(show (Addr.add _ _).block ≠ _;rw [add_block];exact hn189_0)|exact hn189_0) (.int .i64 ((rd_T35 l0 x3_1).f0))).trans hx189_0;replace hx189_1:=(cell_far (p:=⟨gb186,0,none⟩) (by first|(rw [add_block];exact hn189_0)|(show (Addr.add _ _).block ≠ _;rw [add_block];exact hn189_0)|exact hn189_0) (.int .i64 ((rd_T35 l0 x3_1).f0))).trans hx189_1;replace hx189_0:=(cell_far (p:=⟨gb186,1,none⟩) (by first|(rw [add_block];exact hn189_1)|(show (Addr.add _ _).block ≠ _;rw [add_block];exact hn189_1)|exact hn189_1) (.int .i64 ((rd_T35 l0 x3_1).f1))).trans hx189_0;replace hx189_1:=(cell_far (p:=⟨gb186,1,none⟩) (by first|(rw [add_block];exact hn189_1)|(show (Addr.add _ _).block ≠ _;rw [add_block];exact hn189_1)|exact hn189_1) (.int .i64 ((rd_T35 l0 x3_1).f1))).trans hx189_1;(try have hy189_0:=fun (n_ : Nat) => (show ((((w15.drewN n_).setCell ⟨gb186,0,none⟩ (.int .i64 ((rd_T35 l0 x3_1).f0))).setCell ⟨gb186,1,none⟩ (.int .i64 ((rd_T35 l0 x3_1).f1)))).cell? _ = some _ from hx189_0));(try have hy189_1:=fun (n_ : Nat) => (show ((((w15.drewN n_).setCell ⟨gb186,0,none⟩ (.int .i64 ((rd_T35 l0 x3_1).f0))).setCell ⟨gb186,1,none⟩ (.int .i64 ((rd_T35 l0 x3_1).f1)))).cell? _ = some _ from hx189_1));clear hn189_0 hn189_1;replace p189:=eq_true p189;replace q189:=eq_true q189))
           repeat (go_quiet (first|((with_reducible refine gate_dst (N:=4) rfl ?_);refine box_event ?hg (N:=4) ?hd (cs:=#[.int .i64 0,.int .i64 0]) (t:=35) ?hr ?_;(case hd => rfl);(case hg => rfl);(case hr => first|(go_simp;done)|(go_simp;rfl));intro gb186 hg w15 hbox hb;have n0_:=mk_ (st_ (qb_ HB) hb);have n1_:=mk_ (hbox);have n2_:=mk_ ((by rw [hg];exact (bz_ (qb_ HB)) : w.heap.size ≤ gb186));have n3_:=mk_ ((by rw [hg];exact (bz_ (qb_ HB)) : w.heap.size ≤ gb186));clear HB;have HB:=n0_;have BK186:=n1_;have GW186:=n2_;have GE186:=n3_;clear n0_ n1_ n2_ n3_ hb hbox hg;have hcz16_0 : w15.cell? ⟨gb186,0,none⟩ = some (.int .i64 0):=(bc_ BK186.out 0).trans rfl;have hcz16_1 : w15.cell? ⟨gb186,1,none⟩ = some (.int .i64 0):=(bc_ BK186.out 1).trans rfl;have hfz16_0:=bf_ BK186.out 0;have hfz16_1:=bf_ BK186.out 1)|(go_at_call 41;(with_reducible refine (spec_l1In.calls ((rd_T35 l0 x3_1).f0) 0 2000 true _ A4.out).mono ?_);rintro e w' ⟨rfl,⟨nd,rfl⟩⟩;(try first|exact ⟨rfl,_,World.drewN_drewN _ _ _⟩|exact ⟨rfl,_,Eq.trans (World.drewN_drewN _ _ _) (congrArg (World.drewN _) (Nat.add_assoc _ _ _))⟩))|(go_at_call 41;(with_reducible refine (spec_l1In.calls ((rd_T35 l0 x3_1).f1) 1 50 true _ A6.out).mono ?_);rintro e w' ⟨rfl,⟨nd,rfl⟩⟩;(try first|exact ⟨rfl,_,World.drewN_drewN _ _ _⟩|exact ⟨rfl,_,Eq.trans (World.drewN_drewN _ _ _) (congrArg (World.drewN _) (Nat.add_assoc _ _ _))⟩);have p189 : 0 ≤ ((ji9) : Int):=od_ qa_;have q189 : (ji9) < (l0.length : Int):=od_ qa_;obtain ⟨ad189,e189,hx189_0,hx189_1⟩:=at_T35 HR0.out (ji9) p189 q189;obtain rfl : ad185 = ad189:=(by injection e189);have hn189_0 : ad185.block ≠ gb186:=Nat.ne_of_lt (Nat.lt_of_lt_of_le (by have:=wl_ _ _ hx189_0;first|rwa [add_block] at this|exact this) GW186.out);have hn189_1 : ad185.block ≠ gb186:=Nat.ne_of_lt (Nat.lt_of_lt_of_le (by have:=wl_ _ _ hx189_0;first|rwa [add_block] at this|exact this) GW186.out);replace hx189_0:=(HB.out.cell (wl_ w _ hx189_0)).trans hx189_0;replace hx189_1:=(HB.out.cell (wl_ w _ hx189_1)).trans hx189_1;replace hx189_0:=(cell_far (p:=⟨gb186,0,none⟩) (by first|(rw [add_block];exact hn189_0)|(show (Addr.add _ _).block ≠ _;rw [add_block];exact hn189_0)|exact hn189_0) (.int .i64 ((rd_T35 l0 x3_1).f0))).trans hx189_0;replace hx189_1:=(cell_far (p:=⟨gb186,0,none⟩) (by first|(rw [add_block];exact hn189_0)|(show (Addr.add _ _).block ≠ _;rw [add_block];exact hn189_0)|exact hn189_0) (.int .i64 ((rd_T35 l0 x3_1).f0))).trans hx189_1;replace hx189_0:=(cell_far (p:=⟨gb186,1,none⟩) (by first|(rw [add_block];exact hn189_1)|(show (Addr.add _ _).block ≠ _;rw [add_block];exact hn189_1)|exact hn189_1) (.int .i64 ((rd_T35 l0 x3_1).f1))).trans hx189_0;replace hx189_1:=(cell_far (p:=⟨gb186,1,none⟩) (by first|(rw [add_block];exact hn189_1)|(show (Addr.add _ _).block ≠ _;rw [add_block];exact hn189_1)|exact hn189_1) (.int .i64 ((rd_T35 l0 x3_1).f1))).trans hx189_1;(try have hy189_0:=fun (n_ : Nat) => (show ((((w15.drewN n_).setCell ⟨gb186,0,none⟩ (.int .i64 ((rd_T35 l0 x3_1).f0))).setCell ⟨gb186,1,none⟩ (.int .i64 ((rd_T35 l0 x3_1).f1)))).cell? _ = some _ from hx189_0));(try have hy189_1:=fun (n_ : Nat) => (show ((((w15.drewN n_).setCell ⟨gb186,0,none⟩ (.int .i64 ((rd_T35 l0 x3_1).f0))).setCell ⟨gb186,1,none⟩ (.int .i64 ((rd_T35 l0 x3_1).f1)))).cell? _ = some _ from hx189_1));clear hn189_0 hn189_1;replace p189:=eq_true p189;replace q189:=eq_true q189));try go_wp2_with (first|((with_reducible refine gate_dst (N:=4) rfl ?_);refine box_event ?hg (N:=4) ?hd (cs:=#[.int .i64 0,.int .i64 0]) (t:=35) ?hr ?_;(case hd => rfl);(case hg => rfl);(case hr => first|(go_simp;done)|(go_simp;rfl));intro gb186 hg w15 hbox hb;have n0_:=mk_ (st_ (qb_ HB) hb);have n1_:=mk_ (hbox);have n2_:=mk_ ((by rw [hg];exact (bz_ (qb_ HB)) : w.heap.size ≤ gb186));have n3_:=mk_ ((by rw [hg];exact (bz_ (qb_ HB)) : w.heap.size ≤ gb186));clear HB;have HB:=n0_;have BK186:=n1_;have GW186:=n2_;have GE186:=n3_;clear n0_ n1_ n2_ n3_ hb hbox hg;have hcz16_0 : w15.cell? ⟨gb186,0,none⟩ = some (.int .i64 0):=(bc_ BK186.out 0).trans rfl;have hcz16_1 : w15.cell? ⟨gb186,1,none⟩ = some (.int .i64 0):=(bc_ BK186.out 1).trans rfl;have hfz16_0:=bf_ BK186.out 0;have hfz16_1:=bf_ BK186.out 1)|(go_at_call 41;(with_reducible refine (spec_l1In.calls ((rd_T35 l0 x3_1).f0) 0 2000 true _ A4.out).mono ?_);rintro e w' ⟨rfl,⟨nd,rfl⟩⟩;(try first|exact ⟨rfl,_,World.drewN_drewN _ _ _⟩|exact ⟨rfl,_,Eq.trans (World.drewN_drewN _ _ _) (congrArg (World.drewN _) (Nat.add_assoc _ _ _))⟩))|(go_at_call 41;(with_reducible refine (spec_l1In.calls ((rd_T35 l0 x3_1).f1) 1 50 true _ A6.out).mono ?_);rintro e w' ⟨rfl,⟨nd,rfl⟩⟩;(try first|exact ⟨rfl,_,World.drewN_drewN _ _ _⟩|exact ⟨rfl,_,Eq.trans (World.drewN_drewN _ _ _) (congrArg (World.drewN _) (Nat.add_assoc _ _ _))⟩);have p189 : 0 ≤ ((ji9) : Int):=od_ qa_;have q189 : (ji9) < (l0.length : Int):=od_ qa_;obtain ⟨ad189,e189,hx189_0,hx189_1⟩:=at_T35 HR0.out (ji9) p189 q189;obtain rfl : ad185 = ad189:=(by injection e189);have hn189_0 : ad185.block ≠ gb186:=Nat.ne_of_lt (Nat.lt_of_lt_of_le (by have:=wl_ _ _ hx189_0;first|rwa [add_block] at this|exact this) GW186.out);have hn189_1 : ad185.block ≠ gb186:=Nat.ne_of_lt (Nat.lt_of_lt_of_le (by have:=wl_ _ _ hx189_0;first|rwa [add_block] at this|exact this) GW186.out);replace hx189_0:=(HB.out.cell (wl_ w _ hx189_0)).trans hx189_0;replace hx189_1:=(HB.out.cell (wl_ w _ hx189_1)).trans hx189_1;replace hx189_0:=(cell_far (p:=⟨gb186,0,none⟩) (by first|(rw [add_block];exact hn189_0)|(show (Addr.add _ _).block ≠ _;rw [add_block];exact hn189_0)|exact hn189_0) (.int .i64 ((rd_T35 l0 x3_1).f0))).trans hx189_0;replace hx189_1:=(cell_far (p:=⟨gb186,0,none⟩) (by first|(rw [add_block];exact hn189_0)|(show (Addr.add _ _).block ≠ _;rw [add_block];exact hn189_0)|exact hn189_0) (.int .i64 ((rd_T35 l0 x3_1).f0))).trans hx189_1;replace hx189_0:=(cell_far (p:=⟨gb186,1,none⟩) (by first|(rw [add_block];exact hn189_1)|(show (Addr.add _ _).block ≠ _;rw [add_block];exact hn189_1)|exact hn189_1) (.int .i64 ((rd_T35 l0 x3_1).f1))).trans hx189_0;replace hx189_1:=(cell_far (p:=⟨gb186,1,none⟩) (by first|(rw [add_block];exact hn189_1)|(show (Addr.add _ _).block ≠ _;rw [add_block];exact hn189_1)|exact hn189_1) (.int .i64 ((rd_T35 l0 x3_1).f1))).trans hx189_1;(try have hy189_0:=fun (n_ : Nat) => (show ((((w15.drewN n_).setCell ⟨gb186,0,none⟩ (.int .i64 ((rd_T35 l0 x3_1).f0))).setCell ⟨gb186,1,none⟩ (.int .i64 ((rd_T35 l0 x3_1).f1)))).cell? _ = some _ from hx189_0));(try have hy189_1:=fun (n_ : Nat) => (show ((((w15.drewN n_).setCell ⟨gb186,0,none⟩ (.int .i64 ((rd_T35 l0 x3_1).f0))).setCell ⟨gb186,1,none⟩ (.int .i64 ((rd_T35 l0 x3_1).f1)))).cell? _ = some _ from hx189_1));clear hn189_0 hn189_1;replace p189:=eq_true p189;replace q189:=eq_true q189)))
           go_roundg k1
           case measure => have:=HK1.out;omega
           case rel => exact ⟨(wrap64 (x3_1 + 1)),qf_,H',⟨by have:=HK1.out;omega⟩,⟨u4_ HB GE186⟩⟩
         ·rw [if_neg c11] at H
          exact absurd H (by simp)
        ·rw [if_neg c10] at H
         exact absurd H (by simp)
       ·rw [if_neg c8] at H
        have c8b0 : decide (0 < x3_1) = false:=decide_eq_false c8
        clear c8
        have H':=mk_ H
        clear H
        have p185 : 0 ≤ (x3_1 : Int):=od_ qa_
        have q185 : x3_1 < (l0.length : Int):=od_ qa_
        obtain ⟨ad185,e185,hx185_0,hx185_1⟩:=at_T35 HR0.out x3_1 p185 q185
        cases e185
        replace hx185_0:=(HB.out.cell (wl_ w _ hx185_0)).trans hx185_0
        replace hx185_1:=(HB.out.cell (wl_ w _ hx185_1)).trans hx185_1
        replace p185:=eq_true p185
        replace q185:=eq_true q185
        go_wp2_with (first|((with_reducible refine gate_dst (N:=4) rfl ?_);refine box_event ?hg (N:=4) ?hd (cs:=#[.int .i64 0,.int .i64 0]) (t:=35) ?hr ?_;(case hd => rfl);(case hg => rfl);(case hr => first|(go_simp;done)|(go_simp;rfl));intro gb186 hg w17 hbox hb;have n0_:=mk_ (st_ (qb_ HB) hb);have n1_:=mk_ (hbox);have n2_:=mk_ ((by rw [hg];exact (bz_ (qb_ HB)) : w.heap.size ≤ gb186));have n3_:=mk_ ((by rw [hg];exact (bz_ (qb_ HB)) : w.heap.size ≤ gb186));clear HB;have HB:=n0_;have BK186:=n1_;have GW186:=n2_;have GE186:=n3_;clear n0_ n1_ n2_ n3_ hb hbox hg;have hcz18_0 : w17.cell? ⟨gb186,0,none⟩ = some (.int .i64 0):=(bc_ BK186.out 0).trans rfl;have hcz18_1 : w17.cell? ⟨gb186,1,none⟩ = some (.int .i64 0):=(bc_ BK186.out 1).trans rfl;have hfz18_0:=bf_ BK186.out 0;have hfz18_1:=bf_ BK186.out 1)|(go_at_call 41;(with_reducible refine (spec_l1In.calls ((rd_T35 l0 x3_1).f0) 0 2000 true _ A4.out).mono ?_);rintro e w' ⟨rfl,⟨nd,rfl⟩⟩;(try first|exact ⟨rfl,_,World.drewN_drewN _ _ _⟩|exact ⟨rfl,_,Eq.trans (World.drewN_drewN _ _ _) (congrArg (World.drewN _) (Nat.add_assoc _ _ _))⟩))|(go_at_call 41;(with_reducible refine (spec_l1In.calls ((rd_T35 l0 x3_1).f1) 1 50 true _ A6.out).mono ?_);rintro e w' ⟨rfl,⟨nd,rfl⟩⟩;(try first|exact ⟨rfl,_,World.drewN_drewN _ _ _⟩|exact ⟨rfl,_,Eq.trans (World.drewN_drewN _ _ _) (congrArg (World.drewN _) (Nat.add_assoc _ _ _))⟩)))
        repeat (go_quiet (first|((with_reducible refine gate_dst (N:=4) rfl ?_);refine box_event ?hg (N:=4) ?hd (cs:=#[.int .i64 0,.int .i64 0]) (t:=35) ?hr ?_;(case hd => rfl);(case hg => rfl);(case hr => first|(go_simp;done)|(go_simp;rfl));intro gb186 hg w17 hbox hb;have n0_:=mk_ (st_ (qb_ HB) hb);have n1_:=mk_ (hbox);have n2_:=mk_ ((by rw [hg];exact (bz_ (qb_ HB)) : w.heap.size ≤ gb186));have n3_:=mk_ ((by rw [hg];exact (bz_ (qb_ HB)) : w.heap.size ≤ gb186));clear HB;have HB:=n0_;have BK186:=n1_;have GW186:=n2_;have GE186:=n3_;clear n0_ n1_ n2_ n3_ hb hbox hg;have hcz18_0 : w17.cell? ⟨gb186,0,none⟩ = some (.int .i64 0):=(bc_ BK186.out 0).trans rfl;have hcz18_1 : w17.cell? ⟨gb186,1,none⟩ = some (.int .i64 0):=(bc_ BK186.out 1).trans rfl;have hfz18_0:=bf_ BK186.out 0;have hfz18_1:=bf_ BK186.out 1)|(go_at_call 41;(with_reducible refine (spec_l1In.calls ((rd_T35 l0 x3_1).f0) 0 2000 true _ A4.out).mono ?_);rintro e w' ⟨rfl,⟨nd,rfl⟩⟩;(try first|exact ⟨rfl,_,World.drewN_drewN _ _ _⟩|exact ⟨rfl,_,Eq.trans (World.drewN_drewN _ _ _) (congrArg (World.drewN _) (Nat.add_assoc _ _ _))⟩))|(go_at_call 41;(with_reducible refine (spec_l1In.calls ((rd_T35 l0 x3_1).f1) 1 50 true _ A6.out).mono ?_);rintro e w' ⟨rfl,⟨nd,rfl⟩⟩;(try first|exact ⟨rfl,_,World.drewN_drewN _ _ _⟩|exact ⟨rfl,_,Eq.trans (World.drewN_drewN _ _ _) (congrArg (World.drewN _) (Nat.add_assoc _ _ _))⟩)));try go_wp2_with (first|((with_reducible refine gate_dst (N:=4) rfl ?_);refine box_event ?hg (N:=4) ?hd (cs:=#[.int .i64 0,.int .i64 0]) (t:=35) ?hr ?_;(case hd => rfl);(case hg => rfl);(case hr => first|(go_simp;done)|(go_simp;rfl));intro gb186 hg w17 hbox hb;have n0_:=mk_ (st_ (qb_ HB) hb);have n1_:=mk_ (hbox);have n2_:=mk_ ((by rw [hg];exact (bz_ (qb_ HB)) : w.heap.size ≤ gb186));have n3_:=mk_ ((by rw [hg];exact (bz_ (qb_ HB)) : w.heap.size ≤ gb186));clear HB;have HB:=n0_;have BK186:=n1_;have GW186:=n2_;have GE186:=n3_;clear n0_ n1_ n2_ n3_ hb hbox hg;have hcz18_0 : w17.cell? ⟨gb186,0,none⟩ = some (.int .i64 0):=(bc_ BK186.out 0).trans rfl;have hcz18_1 : w17.cell? ⟨gb186,1,none⟩ = some (.int .i64 0):=(bc_ BK186.out 1).trans rfl;have hfz18_0:=bf_ BK186.out 0;have hfz18_1:=bf_ BK186.out 1)|(go_at_call 41;(with_reducible refine (spec_l1In.calls ((rd_T35 l0 x3_1).f0) 0 2000 true _ A4.out).mono ?_);rintro e w' ⟨rfl,⟨nd,rfl⟩⟩;(try first|exact ⟨rfl,_,World.drewN_drewN _ _ _⟩|exact ⟨rfl,_,Eq.trans (World.drewN_drewN _ _ _) (congrArg (World.drewN _) (Nat.add_assoc _ _ _))⟩))|(go_at_call 41;(with_reducible refine (spec_l1In.calls ((rd_T35 l0 x3_1).f1) 1 50 true _ A6.out).mono ?_);rintro e w' ⟨rfl,⟨nd,rfl⟩⟩;(try first|exact ⟨rfl,_,World.drewN_drewN _ _ _⟩|exact ⟨rfl,_,Eq.trans (World.drewN_drewN _ _ _) (congrArg (World.drewN _) (Nat.add_assoc _ _ _))⟩))))
        go_roundg k1
        case measure => have:=HK1.out;omega
        case rel => exact ⟨(wrap64 (x3_1 + 1)),qf_,H',⟨by have:=HK1.out;omega⟩,⟨u4_ HB GE186⟩⟩
      ·replace c7:=Bool.eq_false_iff.mpr c7
       subst c7
       have H1 : (some false) = some r:=by rw [if_neg (show ¬ (false = true) by decide)] at H;exact H
       clear H
       have H:=H1
       clear H1
       obtain rfl:=Option.some.inj H
       have p185 : 0 ≤ (x3_1 : Int):=od_ qa_
       have q185 : x3_1 < (l0.length : Int):=od_ qa_
       obtain ⟨ad185,e185,hx185_0,hx185_1⟩:=at_T35 HR0.out x3_1 p185 q185
       cases e185
       replace hx185_0:=(HB.out.cell (wl_ w _ hx185_0)).trans hx185_0
       replace hx185_1:=(HB.out.cell (wl_ w _ hx185_1)).trans hx185_1
       replace p185:=eq_true p185
       replace q185:=eq_true q185
       go_wp2_with (first|((with_reducible refine gate_dst (N:=4) rfl ?_);refine box_event ?hg (N:=4) ?hd (cs:=#[.int .i64 0,.int .i64 0]) (t:=35) ?hr ?_;(case hd => rfl);(case hg => rfl);(case hr => first|(go_simp;done)|(go_simp;rfl));intro gb186 hg w19 hbox hb;have n0_:=mk_ (st_ (qb_ HB) hb);have n1_:=mk_ (hbox);have n2_:=mk_ ((by rw [hg];exact (bz_ (qb_ HB)) : w.heap.size ≤ gb186));have n3_:=mk_ ((by rw [hg];exact (bz_ (qb_ HB)) : w.heap.size ≤ gb186));clear HB;have HB:=n0_;have BK186:=n1_;have GW186:=n2_;have GE186:=n3_;clear n0_ n1_ n2_ n3_ hb hbox hg;have hcz20_0 : w19.cell? ⟨gb186,0,none⟩ = some (.int .i64 0):=(bc_ BK186.out 0).trans rfl;have hcz20_1 : w19.cell? ⟨gb186,1,none⟩ = some (.int .i64 0):=(bc_ BK186.out 1).trans rfl;have hfz20_0:=bf_ BK186.out 0;have hfz20_1:=bf_ BK186.out 1)|(go_at_call 41;(with_reducible refine (spec_l1In.calls ((rd_T35 l0 x3_1).f0) 0 2000 true _ A4.out).mono ?_);rintro e w' ⟨rfl,⟨nd,rfl⟩⟩;(try first|exact ⟨rfl,_,World.drewN_drewN _ _ _⟩|exact ⟨rfl,_,Eq.trans (World.drewN_drewN _ _ _) (congrArg (World.drewN _) (Nat.add_assoc _ _ _))⟩))|(go_at_call 41;(with_reducible refine (spec_l1In.calls ((rd_T35 l0 x3_1).f1) 1 50 false _ A6.out).mono ?_);rintro e w' ⟨rfl,⟨nd,rfl⟩⟩;(try first|exact ⟨rfl,_,World.drewN_drewN _ _ _⟩|exact ⟨rfl,_,Eq.trans (World.drewN_drewN _ _ _) (congrArg (World.drewN _) (Nat.add_assoc _ _ _))⟩)))
       repeat (go_quiet (first|((with_reducible refine gate_dst (N:=4) rfl ?_);refine box_event ?hg (N:=4) ?hd (cs:=#[.int .i64 0,.int .i64 0]) (t:=35) ?hr ?_;(case hd => rfl);(case hg => rfl);(case hr => first|(go_simp;done)|(go_simp;rfl));intro gb186 hg w19 hbox hb;have n0_:=mk_ (st_ (qb_ HB) hb);have n1_:=mk_ (hbox);have n2_:=mk_ ((by rw [hg];exact (bz_ (qb_ HB)) : w.heap.size ≤ gb186));have n3_:=mk_ ((by rw [hg];exact (bz_ (qb_ HB)) : w.heap.size ≤ gb186));clear HB;have HB:=n0_;have BK186:=n1_;have GW186:=n2_;have GE186:=n3_;clear n0_ n1_ n2_ n3_ hb hbox hg;have hcz20_0 : w19.cell? ⟨gb186,0,none⟩ = some (.int .i64 0):=(bc_ BK186.out 0).trans rfl;have hcz20_1 : w19.cell? ⟨gb186,1,none⟩ = some (.int .i64 0):=(bc_ BK186.out 1).trans rfl;have hfz20_0:=bf_ BK186.out 0;have hfz20_1:=bf_ BK186.out 1)|(go_at_call 41;(with_reducible refine (spec_l1In.calls ((rd_T35 l0 x3_1).f0) 0 2000 true _ A4.out).mono ?_);rintro e w' ⟨rfl,⟨nd,rfl⟩⟩;(try first|exact ⟨rfl,_,World.drewN_drewN _ _ _⟩|exact ⟨rfl,_,Eq.trans (World.drewN_drewN _ _ _) (congrArg (World.drewN _) (Nat.add_assoc _ _ _))⟩))|(go_at_call 41;(with_reducible refine (spec_l1In.calls ((rd_T35 l0 x3_1).f1) 1 50 false _ A6.out).mono ?_);rintro e w' ⟨rfl,⟨nd,rfl⟩⟩;(try first|exact ⟨rfl,_,World.drewN_drewN _ _ _⟩|exact ⟨rfl,_,Eq.trans (World.drewN_drewN _ _ _) (congrArg (World.drewN _) (Nat.add_assoc _ _ _))⟩)));try go_wp2_with (first|((with_reducible refine gate_dst (N:=4) rfl ?_);refine box_event ?hg (N:=4) ?hd (cs:=#[.int .i64 0,.int .i64 0]) (t:=35) ?hr ?_;(case hd => rfl);(case hg => rfl);(case hr => first|(go_simp;done)|(go_simp;rfl));intro gb186 hg w19 hbox hb;have n0_:=mk_ (st_ (qb_ HB) hb);have n1_:=mk_ (hbox);have n2_:=mk_ ((by rw [hg];exact (bz_ (qb_ HB)) : w.heap.size ≤ gb186));have n3_:=mk_ ((by rw [hg];exact (bz_ (qb_ HB)) : w.heap.size ≤ gb186));clear HB;have HB:=n0_;have BK186:=n1_;have GW186:=n2_;have GE186:=n3_;clear n0_ n1_ n2_ n3_ hb hbox hg;have hcz20_0 : w19.cell? ⟨gb186,0,none⟩ = some (.int .i64 0):=(bc_ BK186.out 0).trans rfl;have hcz20_1 : w19.cell? ⟨gb186,1,none⟩ = some (.int .i64 0):=(bc_ BK186.out 1).trans rfl;have hfz20_0:=bf_ BK186.out 0;have hfz20_1:=bf_ BK186.out 1)|(go_at_call 41;(with_reducible refine (spec_l1In.calls ((rd_T35 l0 x3_1).f0) 0 2000 true _ A4.out).mono ?_);rintro e w' ⟨rfl,⟨nd,rfl⟩⟩;(try first|exact ⟨rfl,_,World.drewN_drewN _ _ _⟩|exact ⟨rfl,_,Eq.trans (World.drewN_drewN _ _ _) (congrArg (World.drewN _) (Nat.add_assoc _ _ _))⟩))|(go_at_call 41;(with_reducible refine (spec_l1In.calls ((rd_T35 l0 x3_1).f1) 1 50 false _ A6.out).mono ?_);rintro e w' ⟨rfl,⟨nd,rfl⟩⟩;(try first|exact ⟨rfl,_,World.drewN_drewN _ _ _⟩|exact ⟨rfl,_,Eq.trans (World.drewN_drewN _ _ _) (congrArg (World.drewN _) (Nat.add_assoc _ _ _))⟩))))
       go_ret
       exact ⟨qe_,u4_ HB GE186⟩
     ·replace c5:=Bool.eq_false_iff.mpr c5
      subst c5
      have H1 : (some false) = some r:=by rw [if_neg (show ¬ (false = true) by decide)] at H;exact H
      clear H
      have H:=H1
      clear H1
      obtain rfl:=Option.some.inj H
      have p185 : 0 ≤ (x3_1 : Int):=od_ qa_
      have q185 : x3_1 < (l0.length : Int):=od_ qa_
      obtain ⟨ad185,e185,hx185_0,hx185_1⟩:=at_T35 HR0.out x3_1 p185 q185
      cases e185
      replace hx185_0:=(HB.out.cell (wl_ w _ hx185_0)).trans hx185_0
      replace hx185_1:=(HB.out.cell (wl_ w _ hx185_1)).trans hx185_1
      replace p185:=eq_true p185
      replace q185:=eq_true q185
      go_wp2_with (first|((with_reducible refine gate_dst (N:=4) rfl ?_);refine box_event ?hg (N:=4) ?hd (cs:=#[.int .i64 0,.int .i64 0]) (t:=35) ?hr ?_;(case hd => rfl);(case hg => rfl);(case hr => first|(go_simp;done)|(go_simp;rfl));intro gb186 hg w21 hbox hb;have n0_:=mk_ (st_ (qb_ HB) hb);have n1_:=mk_ (hbox);have n2_:=mk_ ((by rw [hg];exact (bz_ (qb_ HB)) : w.heap.size ≤ gb186));have n3_:=mk_ ((by rw [hg];exact (bz_ (qb_ HB)) : w.heap.size ≤ gb186));clear HB;have HB:=n0_;have BK186:=n1_;have GW186:=n2_;have GE186:=n3_;clear n0_ n1_ n2_ n3_ hb hbox hg;have hcz22_0 : w21.cell? ⟨gb186,0,none⟩ = some (.int .i64 0):=(bc_ BK186.out 0).trans rfl;have hcz22_1 : w21.cell? ⟨gb186,1,none⟩ = some (.int .i64 0):=(bc_ BK186.out 1).trans rfl;have hfz22_0:=bf_ BK186.out 0;have hfz22_1:=bf_ BK186.out 1)|(go_at_call 41;(with_reducible refine (spec_l1In.calls ((rd_T35 l0 x3_1).f0) 0 2000 false _ A4.out).mono ?_);rintro e w' ⟨rfl,⟨nd,rfl⟩⟩;(try first|exact ⟨rfl,_,World.drewN_drewN _ _ _⟩|exact ⟨rfl,_,Eq.trans (World.drewN_drewN _ _ _) (congrArg (World.drewN _) (Nat.add_assoc _ _ _))⟩)))
      repeat (go_quiet (first|((with_reducible refine gate_dst (N:=4) rfl ?_);refine box_event ?hg (N:=4) ?hd (cs:=#[.int .i64 0,.int .i64 0]) (t:=35) ?hr ?_;(case hd => rfl);(case hg => rfl);(case hr => first|(go_simp;done)|(go_simp;rfl));intro gb186 hg w21 hbox hb;have n0_:=mk_ (st_ (qb_ HB) hb);have n1_:=mk_ (hbox);have n2_:=mk_ ((by rw [hg];exact (bz_ (qb_ HB)) : w.heap.size ≤ gb186));have n3_:=mk_ ((by rw [hg];exact (bz_ (qb_ HB)) : w.heap.size ≤ gb186));clear HB;have HB:=n0_;have BK186:=n1_;have GW186:=n2_;have GE186:=n3_;clear n0_ n1_ n2_ n3_ hb hbox hg;have hcz22_0 : w21.cell? ⟨gb186,0,none⟩ = some (.int .i64 0):=(bc_ BK186.out 0).trans rfl;have hcz22_1 : w21.cell? ⟨gb186,1,none⟩ = some (.int .i64 0):=(bc_ BK186.out 1).trans rfl;have hfz22_0:=bf_ BK186.out 0;have hfz22_1:=bf_ BK186.out 1)|(go_at_call 41;(with_reducible refine (spec_l1In.calls ((rd_T35 l0 x3_1).f0) 0 2000 false _ A4.out).mono ?_);rintro e w' ⟨rfl,⟨nd,rfl⟩⟩;(try first|exact ⟨rfl,_,World.drewN_drewN _ _ _⟩|exact ⟨rfl,_,Eq.trans (World.drewN_drewN _ _ _) (congrArg (World.drewN _) (Nat.add_assoc _ _ _))⟩)));try go_wp2_with (first|((with_reducible refine gate_dst (N:=4) rfl ?_);refine box_event ?hg (N:=4) ?hd (cs:=#[.int .i64 0,.int .i64 0]) (t:=35) ?hr ?_;(case hd => rfl);(case hg => rfl);(case hr => first|(go_simp;done)|(go_simp;rfl));intro gb186 hg w21 hbox hb;have n0_:=mk_ (st_ (qb_ HB) hb);have n1_:=mk_ (hbox);have n2_:=mk_ ((by rw [hg];exact (bz_ (qb_ HB)) : w.heap.size ≤ gb186));have n3_:=mk_ ((by rw [hg];exact (bz_ (qb_ HB)) : w.heap.size ≤ gb186));clear HB;have HB:=n0_;have BK186:=n1_;have GW186:=n2_;have GE186:=n3_;clear n0_ n1_ n2_ n3_ hb hbox hg;have hcz22_0 : w21.cell? ⟨gb186,0,none⟩ = some (.int .i64 0):=(bc_ BK186.out 0).trans rfl;have hcz22_1 : w21.cell? ⟨gb186,1,none⟩ = some (.int .i64 0):=(bc_ BK186.out 1).trans rfl;have hfz22_0:=bf_ BK186.out 0;have hfz22_1:=bf_ BK186.out 1)|(go_at_call 41;(with_reducible refine (spec_l1In.calls ((rd_T35 l0 x3_1).f0) 0 2000 false _ A4.out).mono ?_);rintro e w' ⟨rfl,⟨nd,rfl⟩⟩;(try first|exact ⟨rfl,_,World.drewN_drewN _ _ _⟩|exact ⟨rfl,_,Eq.trans (World.drewN_drewN _ _ _) (congrArg (World.drewN _) (Nat.add_assoc _ _ _))⟩))))
      go_ret
      exact ⟨qe_,u4_ HB GE186⟩
    ·rw [if_neg c3] at H
     exact absurd H (by simp)
   ·rw [if_neg c2] at H
    have c2b0 : decide (x3_1 < (l0.length : Int)) = false:=decide_eq_false c2
    clear c2
    obtain rfl:=Option.some.inj H
    go_wp2
    repeat (go_quiet (fail);try go_wp2)
    go_ret
    exact ⟨qe_,u3_ HB⟩

end Go.Proofs.Ytfbicfnokibobaa.PAll

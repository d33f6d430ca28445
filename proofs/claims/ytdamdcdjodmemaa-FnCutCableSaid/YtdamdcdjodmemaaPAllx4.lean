/- Proved here: contracts of functions of the given program, or lemmas on them, for the laws of this seat. Written by xprint.py, a program of this session, on the ground of the kit's print; parts by hand: wip/x/ext. -/
import Derived.Test.YtdamdcdjodmemaaPAllx0
import Derived.Test.YtdamdcdjodmemaaPAllx1
namespace Go.Proofs.Ytdamdcdjodmemaa.PAll
open Go.RowKit Go.Proofs.YtdamdcdjodmemaaW.PrintWords Go.Proofs.YtdamdcdjodmemaaW.PrintLast Go.Proofs.YtdamdcdjodmemaaW.PrintMore
attribute [local go_sem] max2_int min2_int max_two min_two max_three min_three max_four min_four   -- for this text's walks alone
set_option linter.unusedVariables false
set_option linter.unusedSimpArgs false

/-! ### impl_Cable_79: function 79 (by hand) -/
def impl_Cable_79.f (l0 : List (S51)) : Option ((List (S51))) :=
 if l0.length < 5864062014805 then some l0 else none
set_option maxHeartbeats 4000000 in
set_option maxRecDepth 100000 in
theorem impl_Cable_79.calls (A0 : Option Addr) (c0 : Nat) (l0 : List (S51)) (r : List (S51)) (w : World) (hr0 : Kd.C k51 w A0 l0.length l0) (hc0 : l0.length ≤ c0) (h : impl_Cable_79.f l0 = some r) :
  Calls Try.prog 79 #[.slice A0 l0.length c0] w fun e w' => ∃ v0_ : Value,e = .returned (v0_) ∧ Kd.R k51 51 w' w.heap.size (fun _ => True) v0_ r ∧ Below w.heap.size w w':=by
 unfold impl_Cable_79.f at h
 by_cases hl : l0.length < 5864062014805
 ·rw [if_pos hl] at h
  obtain rfl:=Option.some.inj h
  clear h
  cases A0 with
  | none =>
   cases l0 with
   | cons x t =>
    obtain ⟨ad,e,_⟩:=at_T51 hr0 (0 : Int) (by omega) (by simp)
    cases e
   | nil =>
    have heq : ∀ w,(binOp .eql 28 (.slice none 0 c0) (.slice none 0 0)).run Try.prog w = .ok (.bool true) w:=fun w => Lib.run_eql_slice_nil (P:=Try.prog) w 28 51 none 0 c0 0 0 Try.underlying28
    clear hr0 hc0 hl
    simp only [List.length_nil]
    go_enter Try.func79,Try.ntmps79
    go_wp2
    go_ret
    exact ⟨_,rfl,Kd.R_nil _ _ _ _ _,Below.refl _ w⟩
  | some ad =>
   have heq : ∀ w,(binOp .eql 28 (.slice (some ad) l0.length c0) (.slice none 0 0)).run Try.prog w = .ok (.bool false) w:=fun w => Lib.run_eql_slice_nil (P:=Try.prog) w 28 51 (some ad) l0.length c0 0 0 Try.underlying28
   have HR:=mk_ hr0
   have HL:=mk_ hl
   clear hr0 hl
   go_enter Try.func79,Try.ntmps79
   go_wp2_with (first|((with_reducible refine gate_dst (N:=5) rfl ?_);refine Kd.R_lit (w0:=w) k51 _ 51 ?hg (N:=5) ?hd (xs:=([] : List S51)) (inner:=[]) (ok:=fun _ => True) (okp:=fun _ => True) ?hr ?hp (fun _ hk => hk) trivial (Below.refl _ _) (Nat.le_refl _) (by simp) ?_;(case hd => rfl);(case hg => rfl);(case hr => first|(go_simp;done)|(go_simp;rfl));(case hp => exact (Reps.none _ _));intro v1 w1 ho hb _ _;have HO:=mk_ ho;have HB:=mk_ hb;clear ho hb)|((with_reducible refine gate_dst (N:=7) rfl ?_);refine Kd.R_append_rows k51 (w0:=w) w.heap.size rfl (.tmp 5) (.tmp 6) 28 51 (.agg #[(.int .i64 0),(.int .i64 0),(.int .i64 0)]) 24 rfl Try.underlying28 (by kernel_rfl) rfl (by decide) (by omega) v1 [] l0 _ _ _ (fun _ => True) (fun _ => False) rfl rfl HO.out (cb_ HR.out HB.out) (fun _ _ h => h) (fun _ h => h.elim) (fun _ _ => trivial) HB.out HB.out.size (by have:=HL.out;simp only [List.length_nil];omega) ?_;intro v2 w2 ho hb _ _;rw [List.nil_append] at ho;have HO2:=mk_ ho;have HB2:=mk_ hb;clear ho hb))
   go_ret
   exact ⟨_,rfl,HO2.out,HB2.out⟩
 ·rw [if_neg hl] at h
  cases h

/-! ### slices_Clone_int_int: function 80 (by hand) -/
def slices_Clone_int_int.f (l0 : List Int) : Option (List Int) :=
 if l0.length < 17592186044416 then some l0 else none
set_option maxHeartbeats 4000000 in
set_option maxRecDepth 100000 in
theorem slices_Clone_int_int.calls (A0 : Option Addr) (c0 : Nat) (l0 : List Int) (r : List Int) (w : World) (hr0 : Kd.C (Kd.int .i64) w A0 l0.length l0) (hc0 : l0.length ≤ c0) (h : slices_Clone_int_int.f l0 = some r) :
  Calls Try.prog 80 #[.slice A0 l0.length c0] w fun e w' => ∃ v0_ : Value,e = .returned (v0_) ∧ Kd.R (Kd.int .i64) 3 w' w.heap.size (fun _ => True) v0_ r ∧ Below w.heap.size w w':=by
 unfold slices_Clone_int_int.f at h
 by_cases hl : l0.length < 17592186044416
 ·rw [if_pos hl] at h
  obtain rfl:=Option.some.inj h
  clear h
  cases A0 with
  | none =>
   cases l0 with
   | cons x t =>
    obtain ⟨ad,e,_⟩:=Kd.at_int hr0 (0 : Int) (by omega) (by simp)
    cases e
   | nil =>
    have heq : ∀ w,(binOp .eql 23 (.slice none 0 c0) (.slice none 0 0)).run Try.prog w = .ok (.bool true) w:=fun w => Lib.run_eql_slice_nil (P:=Try.prog) w 23 3 none 0 c0 0 0 Try.underlying23
    clear hr0 hc0 hl
    simp only [List.length_nil]
    go_enter Try.func80,Try.ntmps80
    go_wp2
    go_ret
    exact ⟨_,rfl,Kd.R_nil _ _ _ _ _,Below.refl _ w⟩
  | some ad =>
   have heq : ∀ w,(binOp .eql 23 (.slice (some ad) l0.length c0) (.slice none 0 0)).run Try.prog w = .ok (.bool false) w:=fun w => Lib.run_eql_slice_nil (P:=Try.prog) w 23 3 (some ad) l0.length c0 0 0 Try.underlying23
   have HR:=mk_ hr0
   have HL:=mk_ hl
   clear hr0 hl
   go_enter Try.func80,Try.ntmps80
   go_wp2_with (first|((with_reducible refine gate_dst (N:=5) rfl ?_);refine Kd.R_lit (w0:=w) (Kd.int .i64) _ 3 ?hg (N:=5) ?hd (xs:=([] : List Int)) (inner:=[]) (ok:=fun _ => True) (okp:=fun _ => True) ?hr ?hp (fun _ hk => hk) trivial (Below.refl _ _) (Nat.le_refl _) (by simp) ?_;(case hd => rfl);(case hg => rfl);(case hr => first|(go_simp;done)|(go_simp;rfl));(case hp => exact (Reps.none _ _));intro v1 w1 ho hb _ _;have HO:=mk_ ho;have HB:=mk_ hb;clear ho hb)|((with_reducible refine gate_dst (N:=7) rfl ?_);refine Kd.R_append_rows (Kd.int .i64) (w0:=w) w.heap.size rfl (.tmp 5) (.tmp 6) 23 3 (.int .i64 0) 8 rfl Try.underlying23 (by kernel_rfl) rfl (by decide) (by omega) v1 [] l0 _ _ _ (fun _ => True) (fun _ => False) rfl rfl HO.out (cb_ HR.out HB.out) (fun _ _ h => h) (fun _ h => h.elim) (fun _ _ => trivial) HB.out HB.out.size (by have:=HL.out;simp only [List.length_nil];omega) ?_;intro v2 w2 ho hb _ _;rw [List.nil_append] at ho;have HO2:=mk_ ho;have HB2:=mk_ hb;clear ho hb))
   go_ret
   exact ⟨_,rfl,HO2.out,HB2.out⟩
 ·rw [if_neg hl] at h
  cases h

/-! ### impl_Net_clone: function 59 -/
def impl_Net_clone.f (a0_0 : Int) (l0_1 : List (S51)) (l0_2 : List Int) (l0_3 : List Int) : Option (Int × (List (S51)) × List Int × List Int):=(impl_Cable_79.f l0_1).bind fun t158 => ((slices_Clone_int_int.f l0_2).bind fun t161 => ((slices_Clone_int_int.f l0_3).bind fun t164 => (some (a0_0,t158,t161,t164))))
def impl_Net_clone.T1 : Bool × List (List Nat × List Nat):=(true,[([],[]),([0],[0]),([1],[1]),([],[]),([3],[3]),([4,2],[4]),([],[]),([6],[6]),([7,5],[7]),([0,1,2,3,4,6,7],[]),([9,2,8,0,1,2,3,4,6,7],[2,9]),([0,1,2,3,4,5,6,7,9,10],[]),([11,5,10,0,1,2,3,4,5,6,7,9,10],[5,11]),([0,1,2,3,4,5,6,7,8,9,10,11,12],[]),([13,8,12,0,1,2,3,4,5,6,7,8,9,10,11,12],[8,13])])
def impl_Net_clone.B1 : List Nat:=[0,1,3,0,8,31,0,64,255,223,1023,2047,4095,8191,16383]
theorem impl_Net_clone.tab1 : rtab .any (opsOf Try.f59 1) = impl_Net_clone.T1:=by kernel_rfl
theorem impl_Net_clone.bits1 : waitsOk impl_Net_clone.T1.2 impl_Net_clone.B1 = true:=by kernel_rfl
set_option maxHeartbeats 8000000 in
set_option maxRecDepth 100000 in
theorem impl_Net_clone.calls (a0_0 : Int) (A0_1 : Option Addr) (c0_1 : Nat) (l0_1 : List (S51)) (A0_2 : Option Addr) (c0_2 : Nat) (l0_2 : List Int) (A0_3 : Option Addr) (c0_3 : Nat) (l0_3 : List Int) (r1 : Int) (r2 : List (S51)) (r3 : List Int) (r4 : List Int) (w : World) (hr0_1 : Kd.C k51 w A0_1 l0_1.length l0_1) (hc0_1 : l0_1.length ≤ c0_1) (hr0_2 : Kd.C (Kd.int .i64) w A0_2 l0_2.length l0_2) (hc0_2 : l0_2.length ≤ c0_2) (hr0_3 : Kd.C (Kd.int .i64) w A0_3 l0_3.length l0_3) (hc0_3 : l0_3.length ≤ c0_3) (h : impl_Net_clone.f a0_0 l0_1 l0_2 l0_3 = some (r1,r2,r3,r4)) :
  Calls Try.prog 59 #[.agg #[.int .i64 a0_0,.slice A0_1 l0_1.length c0_1,.slice A0_2 l0_2.length c0_2,.slice A0_3 l0_3.length c0_3]] w fun e w' => ∃ v1_ v2_ v3_ : Value,e = .returned (.agg #[.int .i64 r1,v1_,v2_,v3_]) ∧ Kd.R k51 51 w' w.heap.size (fun _ => True) v1_ r2 ∧ Kd.R (Kd.int .i64) 3 w' w.heap.size (fun k_ => some k_ ≠ (v3_ : Value).ownBlock) v2_ r3 ∧ Kd.R (Kd.int .i64) 3 w' w.heap.size (fun k_ => some k_ ≠ (v2_ : Value).ownBlock) v3_ r4 ∧ Below w.heap.size w w':=by
 have hu30:=Try.underlying30
 have HR0_1:=mk_ hr0_1
 have HC0_1:=mk_ hc0_1
 clear hr0_1 hc0_1
 have HR0_2:=mk_ hr0_2
 have HC0_2:=mk_ hc0_2
 clear hr0_2 hc0_2
 have HR0_3:=mk_ hr0_3
 have HC0_3:=mk_ hc0_3
 clear hr0_3 hc0_3
 have HB:=mk_ (Below.refl w.heap.size w)
 have H : ((impl_Cable_79.f l0_1).bind fun t158 => ((slices_Clone_int_int.f l0_2).bind fun t161 => ((slices_Clone_int_int.f l0_3).bind fun t164 => (some (a0_0,t158,t161,t164))))) = some (r1,r2,r3,r4):=h
 clear h
 replace H:=Option.bind_eq_some_iff.mp H
 obtain ⟨t158,A20,H⟩:=H
 replace H : ((slices_Clone_int_int.f l0_2).bind fun t161 => ((slices_Clone_int_int.f l0_3).bind fun t164 => (some (a0_0,t158,t161,t164)))) = some (r1,r2,r3,r4):=H
 have A2:=mk_ A20
 clear A20
 replace H:=Option.bind_eq_some_iff.mp H
 obtain ⟨t161,A30,H⟩:=H
 replace H : ((slices_Clone_int_int.f l0_3).bind fun t164 => (some (a0_0,t158,t161,t164))) = some (r1,r2,r3,r4):=H
 have A3:=mk_ A30
 clear A30
 replace H:=Option.bind_eq_some_iff.mp H
 obtain ⟨t164,A40,H⟩:=H
 replace H : (some (a0_0,t158,t161,t164)) = some (r1,r2,r3,r4):=H
 have A4:=mk_ A40
 clear A40
 simp only [Option.some.injEq,Prod.mk.injEq] at H
 obtain ⟨rfl,rfl,rfl,rfl⟩:=H
 go_enter Try.func59,Try.ntmps59
 try go_wp2_with (first|((with_reducible refine gate_dst (N:=1) rfl ?_);refine box_event ?hg (N:=1) ?hd (cs:=#[.int .i64 a0_0,.slice A0_1 l0_1.length c0_1,.slice A0_2 l0_2.length c0_2,.slice A0_3 l0_3.length c0_3]) (t:=30) ?hr ?_;(case hd => rfl);(case hg => rfl);(case hr => first|(go_simp;done)|(go_simp;rfl));intro gb156 hg w5 hbox hb;have n0_:=mk_ (st_ (qb_ HB) hb);have n1_:=mk_ (hbox);have n2_:=mk_ ((by rw [hg];exact (bz_ (qb_ HB)) : w.heap.size ≤ gb156));have n3_:=mk_ ((by rw [hg];exact (bz_ (qb_ HB)) : w.heap.size ≤ gb156));clear HB;have HB:=n0_;have BK156:=n1_;have GW156:=n2_;have GE156:=n3_;clear n0_ n1_ n2_ n3_;clear hb hbox hg)|((with_reducible refine gate_dst (N:=2) rfl ?_);refine box_event ?hg (N:=2) ?hd (cs:=#[.int .i64 0,.slice none 0 0,.slice none 0 0,.slice none 0 0]) (t:=30) ?hr ?_;(case hd => rfl);(case hg => rfl);(case hr => first|(go_simp;done)|(go_simp;rfl));intro gb157 hg w6 hbox hb;have n0_:=mk_ (blk_below (g:=gb156) (o:=.cells #[.int .i64 a0_0,.slice A0_1 l0_1.length c0_1,.slice A0_2 l0_2.length c0_2,.slice A0_3 l0_3.length c0_3] 30 (0,0)) (qk_ BK156) hb);have n1_:=mk_ (st_ (qc_ HB GE156) hb);have n2_:=mk_ (hbox);have n3_:=mk_ ((by rw [hg];exact (bz_ (qc_ HB GE156)) : w.heap.size ≤ gb157));have n4_:=mk_ ((by rw [hg];exact (bz_ (qc_ HB GE156)) : w.heap.size ≤ gb157));have n5_:=mk_ ((by rw [hg];exact Nat.ne_of_lt (blk_lt (g:=gb156) (o:=.cells #[.int .i64 a0_0,.slice A0_1 l0_1.length c0_1,.slice A0_2 l0_2.length c0_2,.slice A0_3 l0_3.length c0_3] 30 (0,0)) (qk_ BK156)) : gb156 ≠ gb157));have n6_:=mk_ ((by rw [hg];exact Nat.ne_of_gt (blk_lt (g:=gb156) (o:=.cells #[.int .i64 a0_0,.slice A0_1 l0_1.length c0_1,.slice A0_2 l0_2.length c0_2,.slice A0_3 l0_3.length c0_3] 30 (0,0)) (qk_ BK156)) : gb157 ≠ gb156));clear BK156;clear HB;have BK156:=n0_;have HB:=n1_;have BK157:=n2_;have GW157:=n3_;have GE157:=n4_;have NB156_157:=n5_;have NB157_156:=n6_;clear n0_ n1_ n2_ n3_ n4_ n5_ n6_;clear hb hbox hg))
 have n0_:=mk_ (kd_ BK156.out)
 have n1_:=mk_ (kd_ BK157.out)
 have n2_:=mk_ (bd_ HB.out)
 clear BK156
 clear BK157
 clear HB
 have BK156:=n0_
 have BK157:=n1_
 have HB:=n2_
 clear n0_ n1_ n2_
 refine start_ (n:=15) (S:=fun w' => w'.cell? ⟨gb156,0,none⟩ = some (.int .i64 a0_0) ∧ w'.cell? ⟨gb156,1,none⟩ = some (.slice A0_1 l0_1.length c0_1) ∧ w'.cell? ⟨gb156,2,none⟩ = some (.slice A0_2 l0_2.length c0_2) ∧ w'.cell? ⟨gb156,3,none⟩ = some (.slice A0_3 l0_3.length c0_3)) (ds:=[10,12,14]) #[false,false,false,false,false,false,false,false,false,false,false,false,false,false,false] (by kernel_rfl) rfl rfl ⟨(bc_ BK156.out 0).trans rfl,(bc_ BK156.out 1).trans rfl,(bc_ BK156.out 2).trans rfl,(bc_ BK156.out 3).trans rfl⟩ (fun hHeld => ?_);refine with_tabW impl_Net_clone.tab1 impl_Net_clone.bits1 (fun HT_ HW_ => ?_)
 generalize w6.drew = w7 at BK156 BK157 HB hHeld ⊢
 refine pure_ (i:=0) (N:=some 3) (v:=?_) (a':=?_) #[true,false,false,false,false,false,false,false,false,false,false,false,false,false,false] rfl rfl (any_of HT_.out (by kernel_rfl)) (fun _ _ _ h => h) (Or.inl ⟨by rfl,?_⟩) ?_ ?_
 rotate_left
 ·intro w'
  go_simp
  with_reducible rfl
 rotate_left
 ·simp only [Act.put,sx_,sy_,sz_,i64_w,i32_w]
  rfl
 refine pure_ (i:=3) (N:=some 6) (v:=?_) (a':=?_) #[true,false,false,true,false,false,false,false,false,false,false,false,false,false,false] rfl rfl (any_of HT_.out (by kernel_rfl)) (fun _ _ _ h => h) (Or.inl ⟨by rfl,?_⟩) ?_ ?_
 rotate_left
 ·intro w'
  go_simp
  with_reducible rfl
 rotate_left
 ·simp only [Act.put,sx_,sy_,sz_,i64_w,i32_w]
  rfl
 refine pure_ (i:=6) (N:=some 9) (v:=?_) (a':=?_) #[true,false,false,true,false,false,true,false,false,false,false,false,false,false,false] rfl rfl (any_of HT_.out (by kernel_rfl)) (fun _ _ _ h => h) (Or.inl ⟨by rfl,?_⟩) ?_ ?_
 rotate_left
 ·intro w'
  go_simp
  with_reducible rfl
 rotate_left
 ·simp only [Act.put,sx_,sy_,sz_,i64_w,i32_w]
  rfl
 refine take_ (i:=1) (N:=some 4) (v:=?_) (a':=?_) #[true,true,false,true,false,false,true,false,false,false,false,false,false,false,false] rfl rfl (take_ofW HT_.out HW_.out (by kernel_rfl)) (fun _ _ _ h => h) (Or.inl ⟨by rfl,?_⟩) hHeld ?_ ?_
 rotate_left
 ·rintro w' ⟨s0,s1,s2,s3⟩
  go_simp
  with_reducible rfl
 rotate_left
 ·simp only [Act.put,sx_,sy_,sz_,i64_w,i32_w]
  rfl
 refine take_ (i:=4) (N:=some 7) (v:=?_) (a':=?_) #[true,true,false,true,true,false,true,false,false,false,false,false,false,false,false] rfl rfl (take_ofW HT_.out HW_.out (by kernel_rfl)) (fun _ _ _ h => h) (Or.inl ⟨by rfl,?_⟩) hHeld ?_ ?_
 rotate_left
 ·rintro w' ⟨s0,s1,s2,s3⟩
  go_simp
  with_reducible rfl
 rotate_left
 ·simp only [Act.put,sx_,sy_,sz_,i64_w,i32_w]
  rfl
 refine take_ (i:=7) (N:=some 10) (v:=?_) (a':=?_) #[true,true,false,true,true,false,true,true,false,false,false,false,false,false,false] rfl rfl (take_ofW HT_.out HW_.out (by kernel_rfl)) (fun _ _ _ h => h) (Or.inl ⟨by rfl,?_⟩) hHeld ?_ ?_
 rotate_left
 ·rintro w' ⟨s0,s1,s2,s3⟩
  go_simp
  with_reducible rfl
 rotate_left
 ·simp only [Act.put,sx_,sy_,sz_,i64_w,i32_w]
  rfl
 refine one_ (i:=2) (N:=some 5) #[true,true,true,true,true,false,true,true,false,false,false,false,false,false,false] rfl rfl (one_of HT_.out (by kernel_rfl)) (by decide) (fun K hK => ?_)
 refine goes_ Try.func79 (by kernel_rfl) rfl #[.slice A0_1 l0_1.length c0_1] (by rfl) rfl rfl qm_ ?_
 with_reducible refine (impl_Cable_79.calls _ _ l0_1 t158 _ ?side1 ?side2 A2.out).mono ?_
 (case side1 => repeat (first|exact (cb_ HR0_1.out HB.out)|(with_reducible refine ca_ ?_ _)|(with_reducible refine cn_ ?_ _)|(with_reducible refine cd_ ?_)))
 (case side2 => exact HC0_1.out)
 rintro e w8 ⟨v159,rfl,ho0,hb⟩
 refine ⟨_,rfl,?_⟩
 have n0_:=mk_ (Kd.R_lower ho0 (bz_ (qd_ HB GE156 GE157)))
 have n1_:=mk_ (blk_below (g:=gb156) (o:=.cells #[.int .i64 a0_0,.slice A0_1 l0_1.length c0_1,.slice A0_2 l0_2.length c0_2,.slice A0_3 l0_3.length c0_3] 30 (0,0)) (qk_ BK156) hb)
 have n2_:=mk_ (blk_below (g:=gb157) (o:=.cells #[.int .i64 0,.slice none 0 0,.slice none 0 0,.slice none 0 0] 30 (0,0)) (qk_ BK157) hb)
 have n3_:=mk_ (st_ (qd_ HB GE156 GE157) hb)
 clear BK156
 clear BK157
 clear HB
 have HO160:=n0_
 have BK156:=n1_
 have BK157:=n2_
 have HB:=n3_
 clear n0_ n1_ n2_ n3_
 (try clear hb)
 (try clear hb2)
 (try clear hk)
 (try clear hi)
 (try clear ho0)
 refine hK.out _ _ ⟨(bc_ BK156.out 0).trans rfl,(bc_ BK156.out 1).trans rfl,(bc_ BK156.out 2).trans rfl,(bc_ BK156.out 3).trans rfl⟩ (fun hHeld => ?_)
 clear hK K
 refine norm_ (a':=?_) ?_ ?_
 rotate_left
 ·show Act.put _ (some 5) _ = _
  simp only [Act.put,sx_,sy_,sz_,i64_w,i32_w]
  rfl
 refine pure_ (i:=9) (N:=some 12) (v:=?_) (a':=?_) #[true,true,true,true,true,false,true,true,false,true,false,false,false,false,false] rfl rfl (any_of HT_.out (by kernel_rfl)) (fun _ _ _ h => h) (Or.inl ⟨by rfl,?_⟩) ?_ ?_
 rotate_left
 ·intro w'
  go_simp
  with_reducible rfl
 rotate_left
 ·simp only [Act.put,sx_,sy_,sz_,i64_w,i32_w]
  rfl
 refine one_ (i:=5) (N:=some 8) #[true,true,true,true,true,true,true,true,false,true,false,false,false,false,false] rfl rfl (one_of HT_.out (by kernel_rfl)) (by decide) (fun K hK => ?_)
 refine goes_ Try.func80 (by kernel_rfl) rfl #[.slice A0_2 l0_2.length c0_2] (by rfl) rfl rfl qm_ ?_
 with_reducible refine (slices_Clone_int_int.calls _ _ l0_2 t161 _ ?side1 ?side2 A3.out).mono ?_
 (case side1 => repeat (first|exact (cb_ HR0_2.out HB.out)|(with_reducible refine ca_ ?_ _)|(with_reducible refine cn_ ?_ _)|(with_reducible refine cd_ ?_)))
 (case side2 => exact HC0_2.out)
 rintro e w9 ⟨v162,rfl,ho0,hb⟩
 refine ⟨_,rfl,?_⟩
 have n0_:=mk_ (rb_ (qr_ HO160) hb)
 have n1_:=mk_ (Kd.R_lower ho0 (bz_ (qd_ HB GE156 GE157)))
 have n2_:=mk_ (blk_below (g:=gb156) (o:=.cells #[.int .i64 a0_0,.slice A0_1 l0_1.length c0_1,.slice A0_2 l0_2.length c0_2,.slice A0_3 l0_3.length c0_3] 30 (0,0)) (qk_ BK156) hb)
 have n3_:=mk_ (blk_below (g:=gb157) (o:=.cells #[.int .i64 0,.slice none 0 0,.slice none 0 0,.slice none 0 0] 30 (0,0)) (qk_ BK157) hb)
 have n4_:=mk_ (st_ (qd_ HB GE156 GE157) hb)
 clear HO160
 clear BK156
 clear BK157
 clear HB
 have HO160:=n0_
 have HO163:=n1_
 have BK156:=n2_
 have BK157:=n3_
 have HB:=n4_
 clear n0_ n1_ n2_ n3_ n4_
 (try clear hb)
 (try clear hb2)
 (try clear hk)
 (try clear hi)
 (try clear ho0)
 refine hK.out _ _ ⟨(bc_ BK156.out 0).trans rfl,(bc_ BK156.out 1).trans rfl,(bc_ BK156.out 2).trans rfl,(bc_ BK156.out 3).trans rfl⟩ (fun hHeld => ?_)
 clear hK K
 refine norm_ (a':=?_) ?_ ?_
 rotate_left
 ·show Act.put _ (some 8) _ = _
  simp only [Act.put,sx_,sy_,sz_,i64_w,i32_w]
  rfl
 refine one_ (i:=8) (N:=some 11) #[true,true,true,true,true,true,true,true,true,true,false,false,false,false,false] rfl rfl (one_of HT_.out (by kernel_rfl)) (by decide) (fun K hK => ?_)
 refine goes_ Try.func80 (by kernel_rfl) rfl #[.slice A0_3 l0_3.length c0_3] (by rfl) rfl rfl qm_ ?_
 with_reducible refine (slices_Clone_int_int.calls _ _ l0_3 t164 _ ?side1 ?side2 A4.out).mono ?_
 (case side1 => repeat (first|exact (cb_ HR0_3.out HB.out)|(with_reducible refine ca_ ?_ _)|(with_reducible refine cn_ ?_ _)|(with_reducible refine cd_ ?_)))
 (case side2 => exact HC0_3.out)
 rintro e w10 ⟨v165,rfl,ho0,hb⟩
 refine ⟨_,rfl,?_⟩
 have n0_:=mk_ (rb_ (qr_ HO160) hb)
 have n1_:=mk_ (re_ (qr_ HO163) (Kd.R_base ho0) hb)
 have n2_:=mk_ (Kd.R_lower (Kd.R_new' ho0 (Kd.R_lt (qr_ HO163))) (bz_ (qd_ HB GE156 GE157)))
 have n3_:=mk_ (blk_below (g:=gb156) (o:=.cells #[.int .i64 a0_0,.slice A0_1 l0_1.length c0_1,.slice A0_2 l0_2.length c0_2,.slice A0_3 l0_3.length c0_3] 30 (0,0)) (qk_ BK156) hb)
 have n4_:=mk_ (blk_below (g:=gb157) (o:=.cells #[.int .i64 0,.slice none 0 0,.slice none 0 0,.slice none 0 0] 30 (0,0)) (qk_ BK157) hb)
 have n5_:=mk_ (st_ (qd_ HB GE156 GE157) hb)
 clear HO160
 clear HO163
 clear BK156
 clear BK157
 clear HB
 have HO160:=n0_
 have HO163:=n1_
 have HO166:=n2_
 have BK156:=n3_
 have BK157:=n4_
 have HB:=n5_
 clear n0_ n1_ n2_ n3_ n4_ n5_
 (try clear hb)
 (try clear hb2)
 (try clear hk)
 (try clear hi)
 (try clear ho0)
 obtain ⟨Ao11,co11,eo11⟩:=Kd.R_slice HO160.out
 (first|subst eo11|(injection eo11 with f1_ f2_ f3_;have f4_:=f1_.symm;have f5_:=f3_.symm;clear f1_ f2_ f3_;subst f4_;subst f5_))
 obtain ⟨Ao13,co13,eo13⟩:=Kd.R_slice HO163.out
 (first|subst eo13|(injection eo13 with f1_ f2_ f3_;have f4_:=f1_.symm;have f5_:=f3_.symm;clear f1_ f2_ f3_;subst f4_;subst f5_))
 obtain ⟨Ao15,co15,eo15⟩:=Kd.R_slice HO166.out
 (first|subst eo15|(injection eo15 with f1_ f2_ f3_;have f4_:=f1_.symm;have f5_:=f3_.symm;clear f1_ f2_ f3_;subst f4_;subst f5_))
 refine hK.out _ _ ⟨(bc_ BK156.out 0).trans rfl,(bc_ BK156.out 1).trans rfl,(bc_ BK156.out 2).trans rfl,(bc_ BK156.out 3).trans rfl⟩ (fun hHeld => ?_)
 clear hK K
 refine norm_ (a':=?_) ?_ ?_
 rotate_left
 ·show Act.put _ (some 11) _ = _
  simp only [Act.put,sx_,sy_,sz_,i64_w,i32_w]
  rfl
 refine last_ (i:=10) (N:=none) #[true,true,true,true,true,true,true,true,true,true,true,false,false,false,false] rfl rfl (one_of HT_.out (by kernel_rfl)) (by decide) (fun K hK => ?_)
 have hs12 : w10.cell? ⟨gb156,1,none⟩ = some (.slice A0_1 l0_1.length c0_1):=(bc_ BK156.out 1).trans rfl
 have hfs12:=bf_ BK156.out 1
 have hns12_1:=NB157_156.out
 have hms12_1:=NB156_157.out
 refine skip_ (w1:=?_) (by rfl) rfl ?_ ?_
 rotate_left
 ·go_simp
  rfl
 refine hK.out _ _ ?_
 clear hK K
 refine pure_ (i:=11) (N:=some 13) (v:=?_) (a':=?_) #[true,true,true,true,true,true,true,true,true,true,true,true,false,false,false] rfl rfl (any_of HT_.out (by kernel_rfl)) (fun _ _ _ h => h) (Or.inl ⟨by rfl,?_⟩) ?_ ?_
 rotate_left
 ·intro w'
  go_simp
  with_reducible rfl
 rotate_left
 ·simp only [Act.put,sx_,sy_,sz_,i64_w,i32_w]
  rfl
 refine last_ (i:=12) (N:=none) #[true,true,true,true,true,true,true,true,true,true,true,true,true,false,false] rfl rfl (one_of HT_.out (by kernel_rfl)) (by decide) (fun K hK => ?_)
 have hs14 : w10.cell? ⟨gb156,2,none⟩ = some (.slice A0_2 l0_2.length c0_2):=(bc_ BK156.out 2).trans rfl
 have hfs14:=bf_ BK156.out 2
 have hns14_1:=NB157_156.out
 have hms14_1:=NB156_157.out
 refine skip_ (w1:=?_) (by rfl) rfl ?_ ?_
 rotate_left
 ·go_simp
  rfl
 refine hK.out _ _ ?_
 clear hK K
 refine pure_ (i:=13) (N:=some 14) (v:=?_) (a':=?_) #[true,true,true,true,true,true,true,true,true,true,true,true,true,true,false] rfl rfl (any_of HT_.out (by kernel_rfl)) (fun _ _ _ h => h) (Or.inl ⟨by rfl,?_⟩) ?_ ?_
 rotate_left
 ·intro w'
  go_simp
  with_reducible rfl
 rotate_left
 ·simp only [Act.put,sx_,sy_,sz_,i64_w,i32_w]
  rfl
 refine last_ (i:=14) (N:=none) #[true,true,true,true,true,true,true,true,true,true,true,true,true,true,true] rfl rfl (one_of HT_.out (by kernel_rfl)) (by decide) (fun K hK => ?_)
 have hs16 : w10.cell? ⟨gb156,3,none⟩ = some (.slice A0_3 l0_3.length c0_3):=(bc_ BK156.out 3).trans rfl
 have hfs16:=bf_ BK156.out 3
 have hns16_1:=NB157_156.out
 have hms16_1:=NB156_157.out
 refine skip_ (w1:=?_) (by rfl) rfl ?_ ?_
 rotate_left
 ·go_simp
  rfl
 refine hK.out _ _ ?_
 clear hK K
 refine done_ (done_of HT_.out (by kernel_rfl)) ?_
 have hnb17:=NB156_157.out
 have hnc17:=NB157_156.out
 have hcz18_0 : w10.cell? ⟨gb156,0,none⟩ = some (.int .i64 a0_0):=(bc_ BK156.out 0).trans rfl
 have hcz18_1 : w10.cell? ⟨gb156,1,none⟩ = some (.slice A0_1 l0_1.length c0_1):=(bc_ BK156.out 1).trans rfl
 have hcz18_2 : w10.cell? ⟨gb156,2,none⟩ = some (.slice A0_2 l0_2.length c0_2):=(bc_ BK156.out 2).trans rfl
 have hcz18_3 : w10.cell? ⟨gb156,3,none⟩ = some (.slice A0_3 l0_3.length c0_3):=(bc_ BK156.out 3).trans rfl
 have hfz18_0:=bf_ BK156.out 0
 have hfz18_1:=bf_ BK156.out 1
 have hfz18_2:=bf_ BK156.out 2
 have hfz18_3:=bf_ BK156.out 3
 have hcz19_0 : w10.cell? ⟨gb157,0,none⟩ = some (.int .i64 0):=(bc_ BK157.out 0).trans rfl
 have hcz19_1 : w10.cell? ⟨gb157,1,none⟩ = some (.slice none 0 0):=(bc_ BK157.out 1).trans rfl
 have hcz19_2 : w10.cell? ⟨gb157,2,none⟩ = some (.slice none 0 0):=(bc_ BK157.out 2).trans rfl
 have hcz19_3 : w10.cell? ⟨gb157,3,none⟩ = some (.slice none 0 0):=(bc_ BK157.out 3).trans rfl
 have hfz19_0:=bf_ BK157.out 0
 have hfz19_1:=bf_ BK157.out 1
 have hfz19_2:=bf_ BK157.out 2
 have hfz19_3:=bf_ BK157.out 3
 try go_wp2
 refine bodyPost_ret (results_cell_row rfl _ _ gb157 30 #[.int .i64 a0_0,.slice Ao11 t158.length co11,.slice Ao13 t161.length co13,.slice Ao15 t164.length co15] (0,0) _ rfl (by (with_reducible repeat (first|refine kn_ ?_ _|refine kd_ ?_|refine ka_ ?_ _));refine blk_put (cs:=#[.int .i64 a0_0,.slice Ao11 t158.length co11,.slice Ao13 t161.length co13,.slice none 0 0]) ?_ 3 _ rfl;(with_reducible repeat (first|refine kn_ ?_ _|refine kd_ ?_|refine ka_ ?_ _));refine blk_put (cs:=#[.int .i64 a0_0,.slice Ao11 t158.length co11,.slice none 0 0,.slice none 0 0]) ?_ 2 _ rfl;(with_reducible repeat (first|refine kn_ ?_ _|refine kd_ ?_|refine ka_ ?_ _));refine blk_put (cs:=#[.int .i64 a0_0,.slice none 0 0,.slice none 0 0,.slice none 0 0]) ?_ 1 _ rfl;(with_reducible repeat (first|refine kn_ ?_ _|refine kd_ ?_|refine ka_ ?_ _));refine blk_put (cs:=#[.int .i64 0,.slice none 0 0,.slice none 0 0,.slice none 0 0]) ?_ 0 _ rfl;(with_reducible repeat (first|refine kn_ ?_ _|refine kd_ ?_|refine ka_ ?_ _));refine blk_far ?_ NB157_156.out _;(with_reducible repeat (first|refine kn_ ?_ _|refine kd_ ?_|refine ka_ ?_ _));refine blk_far ?_ NB157_156.out _;(with_reducible repeat (first|refine kn_ ?_ _|refine kd_ ?_|refine ka_ ?_ _));refine blk_far ?_ NB157_156.out _;(with_reducible repeat (first|refine kn_ ?_ _|refine kd_ ?_|refine ka_ ?_ _));exact BK157.out) Try.underlying30 rfl (by kernel_rfl)) rfl ?_
 exact ⟨_,_,_,by first|rfl|(simp [errW_none,errW_some] <;> rfl)|(simp [*,errW_none,errW_some] <;> rfl),by (with_reducible repeat (first|apply ra_|apply rn_|apply rd_));exact rm_ (rf_ (p:=⟨gb157,3,none⟩) (rf_ (p:=⟨gb157,2,none⟩) (rf_ (p:=⟨gb157,1,none⟩) (rf_ (p:=⟨gb157,0,none⟩) (rf_ (p:=⟨gb156,3,none⟩) (rf_ (p:=⟨gb156,2,none⟩) (rf_ (p:=⟨gb156,1,none⟩) (rt_ (rt_ HO160.out BK156.out (by decide)) BK157.out (by decide)) (fun _ hk => hk.1.2) (.slice Ao11 t158.length co11)) (fun _ hk => hk.1.2) (.slice Ao13 t161.length co13)) (fun _ hk => hk.1.2) (.slice Ao15 t164.length co15)) (fun _ hk => hk.2) (.int .i64 a0_0)) (fun _ hk => hk.2) (.slice Ao11 t158.length co11)) (fun _ hk => hk.2) (.slice Ao13 t161.length co13)) (fun _ hk => hk.2) (.slice Ao15 t164.length co15)) (fun _ hk => trivial),by (with_reducible repeat (first|apply ra_|apply rn_|apply rd_));exact rm_ (rf_ (p:=⟨gb157,3,none⟩) (rf_ (p:=⟨gb157,2,none⟩) (rf_ (p:=⟨gb157,1,none⟩) (rf_ (p:=⟨gb157,0,none⟩) (rf_ (p:=⟨gb156,3,none⟩) (rf_ (p:=⟨gb156,2,none⟩) (rf_ (p:=⟨gb156,1,none⟩) (rt_ (rt_ HO163.out BK156.out (by decide)) BK157.out (by decide)) (fun _ hk => hk.1.2) (.slice Ao11 t158.length co11)) (fun _ hk => hk.1.2) (.slice Ao13 t161.length co13)) (fun _ hk => hk.1.2) (.slice Ao15 t164.length co15)) (fun _ hk => hk.2) (.int .i64 a0_0)) (fun _ hk => hk.2) (.slice Ao11 t158.length co11)) (fun _ hk => hk.2) (.slice Ao13 t161.length co13)) (fun _ hk => hk.2) (.slice Ao15 t164.length co15)) (fun _ hk => hk.1.1.2),by (with_reducible repeat (first|apply ra_|apply rn_|apply rd_));exact rm_ (rf_ (p:=⟨gb157,3,none⟩) (rf_ (p:=⟨gb157,2,none⟩) (rf_ (p:=⟨gb157,1,none⟩) (rf_ (p:=⟨gb157,0,none⟩) (rf_ (p:=⟨gb156,3,none⟩) (rf_ (p:=⟨gb156,2,none⟩) (rf_ (p:=⟨gb156,1,none⟩) (rt_ (rt_ HO166.out BK156.out (by decide)) BK157.out (by decide)) (fun _ hk => hk.1.2) (.slice Ao11 t158.length co11)) (fun _ hk => hk.1.2) (.slice Ao13 t161.length co13)) (fun _ hk => hk.1.2) (.slice Ao15 t164.length co15)) (fun _ hk => hk.2) (.int .i64 a0_0)) (fun _ hk => hk.2) (.slice Ao11 t158.length co11)) (fun _ hk => hk.2) (.slice Ao13 t161.length co13)) (fun _ hk => hk.2) (.slice Ao15 t164.length co15)) (fun _ hk => hk.1.1.2),by repeat (first|(with_reducible first|exact HB.out|apply ba_|apply bn_|apply bd_|refine bs_ ?_ GE156.out|refine bs_ ?_ GE157.out)|exact HB.out)⟩

-- LIB beyond
theorem row_block {α : Type} {d : Kd α} {e : TypeId} {w : World} {base g m cap : Nat} {ok : Nat → Prop} {xs : List α} (h : Kd.R d e w base ok (.slice (some ⟨g,0,none⟩) m cap) xs) : ∃ cur : Array Value,w.heap[g]? = some (.cells cur e (0,0)) ∧ cur.size = cap * d.sz ∧ base ≤ g ∧ ok g:=by
  obtain ⟨hok,inner,hown,hr⟩:=h
  rcases hown.2 with ⟨hv,_⟩ | ⟨g',cap',cur,hv,hb,hh,_,hcm,hcs,htake⟩
  · cases hv
  injection hv with ha _ hc
  injection ha with ha
  injection ha with hg
  subst hg;subst hc
  exact ⟨cur,hh,hcs,hb,hok g (by simp [Value.ownBlock])⟩
/-- A store behind a row's last element, in its own block. -/
theorem R_beyond {α : Type} {d : Kd α} {e : TypeId} {w : World} {base g m cap o : Nat} {ok : Nat → Prop} {xs : List α} {u : Value} (h : Kd.R d e w base ok (.slice (some ⟨g,0,none⟩) m cap) xs) (ho : m * d.sz ≤ o) : Kd.R d e (w.setCell ⟨g,o,none⟩ u) base ok (.slice (some ⟨g,0,none⟩) m cap) xs:=by
  have hm:=(Kd.R_reads' h).1
  obtain ⟨hok,inner,hown,hr⟩:=h
  refine ⟨hok,inner,⟨hown.1,?_⟩,hr.imp_ (fun _ _ hp => Kd.M_far hp (fun k hk e => hk.2 (by rw [e];simp [Value.ownBlock])) u)⟩
  rcases hown.2 with ⟨hv,_⟩ | ⟨g',cap',cur,hv,hb,hh,hn,hcm,hcs,htake⟩
  · cases hv
  have hg : g = g':=by injection hv with ha _ hc;injection ha with ha;injection ha
  subst hg
  refine Or.inr ⟨g,cap',cur.setIfInBounds o u,hv,hb,blk_put hh o u rfl,hn,hcm,by rw [Array.size_setIfInBounds];exact hcs,?_⟩
  rw [Array.toList_setIfInBounds,List.take_set_of_le (by rw [← hm];exact ho)]
  exact htake
theorem R_beyonds {α : Type} {d : Kd α} {e : TypeId} {base g m cap : Nat} {ok : Nat → Prop} {xs : List α} (us : List Value) : ∀ (o : Nat) (w : World),Kd.R d e w base ok (.slice (some ⟨g,0,none⟩) m cap) xs → m * d.sz ≤ o → Kd.R d e (w.setCells g o us) base ok (.slice (some ⟨g,0,none⟩) m cap) xs:=by
  induction us with
  | nil => exact fun _ _ h _ => h
  | cons u us ih => exact fun o w h ho => ih (o + 1) _ (R_beyond h ho) (by omega)
/-- 'clear' of one element of three cells. -/
theorem run_clear_three {P : Program} (w : World) (t e ty : TypeId) (z z1 z2 z3 : Value) (ht : P.underlying t = some (.slice e)) (hv : ∀ w,(zeroValue e).run P w = .ok z w) (hz : z.cells = #[z1,z2,z3]) (h1 : z1.oneCell' = true ∧ z2.oneCell' = true ∧ z3.oneCell' = true) (b o c : Nat)
    (hc : ∀ j,j < 3 → (w.cell? ⟨b,o + j,none⟩).isSome = true) (hf : ∀ j,j < 3 → w.frozen? ⟨b,o + j,none⟩ = false) :
    (Builtin.clear_ #[t] ty #[.slice (some ⟨b,o,none⟩) 1 c]).run P w = .ok (.tuple #[]) (w.setCells b o [z1,z2,z3]):=by
  have hzc : (Builtin.zeroCells z.cells 1).toList = [z1,z2,z3]:=by
    rw [hz]
    simp [Builtin.zeroCells]
    rfl
  have hst:=run_storeCells_cells (P:=P) b o [z1,z2,z3] 0 w (by simpa using hc) (by simpa using hf) (by intro v hv';simp only [List.mem_cons,List.not_mem_nil,or_false] at hv';rcases hv' with e | e | e <;> rw [e];exact h1.1;exact h1.2.1;exact h1.2.2)
  simp only [Nat.add_zero] at hst
  simp [Builtin.clear_,run_underlying ht,hv,hzc,hst]
theorem below_cells {w0 : World} {g : Nat} (hg : w0.heap.size ≤ g) (vs : List Value) : ∀ (o : Nat) (W : World),Below w0.heap.size w0 W → Below w0.heap.size w0 (W.setCells g o vs):=by
  induction vs with
  | nil => exact fun _ _ h => h
  | cons v vs ih => exact fun o W h => ih (o + 1) _ (below_set h hg)
theorem kept_cells {w : World} {g : Nat} {S : Nat → Prop} (hg : S g) (vs : List Value) : ∀ (o : Nat) (W : World),Kept w W S → Kept w (W.setCells g o vs) S:=by
  induction vs with
  | nil => exact fun _ _ h => h
  | cons v vs ih => exact fun o W h => ih (o + 1) _ (h.setCell (.inl hg) v)

/-! ### impl_Cable_60: function 60 (by hand) -/
def impl_Cable_60.f (l0 : List (S51)) (a1 : Int) (a2 : Int) : Option (List S51) :=
 if 0 ≤ a1 ∧ a2 = a1 + 1 ∧ a1 < l0.length ∧ l0.length ≤ 1000 then some (l0.eraseIdx a1.toNat) else none
set_option maxHeartbeats 4000000 in
set_option maxRecDepth 100000 in
theorem impl_Cable_60.calls (P0_ : Nat → Prop) (u9000_ : Value) (l0 : List S51) (a1 : Int) (a2 : Int) (r : List S51) (w0 w : World) (hB : Below w0.heap.size w0 w) (ho0 : Kd.R k51 51 w w0.heap.size P0_ u9000_ l0) (h : impl_Cable_60.f l0 a1 a2 = some r) :
  Calls Try.prog 60 #[u9000_,.int .i64 a1,.int .i64 a2] w fun e w' => ∃ v0_ : Value,e = .returned (v0_) ∧ Kd.R k51 51 w' w0.heap.size (fun k_ => (P0_ k_ ∨ w.heap.size ≤ k_)) v0_ r ∧ Below w0.heap.size w0 w' ∧ Kept w w' (fun k_ => P0_ k_):=by
 unfold impl_Cable_60.f at h
 by_cases hc : 0 ≤ a1 ∧ a2 = a1 + 1 ∧ a1 < l0.length ∧ l0.length ≤ 1000
 ·rw [if_pos hc] at h
  obtain rfl:=Option.some.inj h
  clear h
  obtain ⟨h0,rfl,h1,h2⟩:=hc
  obtain ⟨K,hK⟩ : ∃ K : Nat,a1 = (K : Int):=⟨a1.toNat,by omega⟩
  subst hK
  obtain ⟨g,cap,rfl,hg,hgl,_⟩:=Kd.R_form ho0 (by omega)
  obtain ⟨cur,hcur,hcs,_,hPg⟩:=row_block ho0
  have hncap:=(rr_ ho0).2.1
  obtain ⟨M,hM⟩ : ∃ M : Nat,l0.length = M + 1:=⟨l0.length - 1,by omega⟩
  rw [hM] at ho0 h1 h2 hncap ⊢
  have hKM : K < M + 1:=by omega
  have p1 : ((K : Int) = (K : Int) + 1) = False:=eq_false (by omega)
  have p2 : (cap = M) = False:=eq_false (by omega)
  have q1 : K ≤ M + 1:=by omega
  have q2 : K + 1 ≤ M + 1:=by omega
  have q3 : (K : Int) + 1 ≤ (M : Int) + 1:=by omega
  have q4 : K ≤ cap:=by omega
  have q5 : K + 1 ≤ cap:=by omega
  have q6 : M + 1 ≤ cap:=hncap
  have q7 : (K : Int) ≤ (K : Int) + 1:=by omega
  have q8 : 0 ≤ (K : Int) + 1:=by omega
  have q9 : ((K : Int) + 1).toNat = K + 1:=by omega
  have HO:=mk_ ho0
  have HB:=mk_ hB
  have HP:=mk_ hPg
  clear ho0 hB hcur hcs hPg hgl hM h0
  by_cases hck : cap = K + 1
  ·obtain rfl : M = K:=by omega
   subst hck
   have hHO:=rd_ HO.out
   have hHB:=bd_ HB.out
   have hbase:=hHB.size
   go_enter Try.func60,Try.ntmps60
   go_wp2
   go_region_law (refine Kd.R_delete_step k51 (w0:=w0) w0.heap.size (by rfl) (.tmp 22) (.tmp 25) 28 51 rfl Try.underlying28 (by kernel_rfl) (g:=g) (n:=M + 1) (c:=M + 1) (k:=M) (m:=0) (c2:=0) (A:=some ⟨g,0,none⟩) (xs:=l0) (ok:=P0_) (by simp [Act.eval,Act.put]) (by simp [Act.eval,Act.put]) (by simp) (by omega) hHO hKM hHB hbase ?_;intro w1 hR1 hB1 hG1;have HR1:=mk_ hR1;have HB1:=mk_ hB1;have HG1:=mk_ hG1;clear hR1 hB1 hG1)
   all_goals
    clear hHO hHB hbase
    obtain ⟨cu,hcu,hcsz,_⟩:=row_block HR1.out
    have hsz : cu.size = (M + 1) * 3:=hcsz
    have hcl : ∀ ty cc,(Builtin.clear_ #[28] ty #[.slice (some ⟨g,M * 3,none⟩) 1 cc]).run Try.prog w1 = .ok (.tuple #[]) (w1.setCells g (M * 3) [.int .i64 0,.int .i64 0,.int .i64 0]) :=
     fun ty cc => run_clear_three w1 _ _ ty _ _ _ _ Try.underlying28 Try.zeroValue51 rfl ⟨rfl,rfl,rfl⟩ g (M * 3) _ (fun j hj => by rw [bc_ hcu];simp;omega) (fun j hj => bf_ hcu _)
    clear hcu hcsz hsz
    try go_simp
    go_wp2_with (simp only [hcl])
    go_ret
    exact ⟨_,rfl,rm_ (R_beyonds [.int .i64 0,.int .i64 0,.int .i64 0] (M * 3) w1 HR1.out (Nat.le_refl _)) (fun _ h => .inl h),below_cells hg _ _ _ HB1.out,kept_cells HP.out _ _ _ (Kept.of_grown HG1.out (Kept.drew (Kept.refl w _)) (fun k hk => by injection hk with hk;subst hk;exact .inl HP.out))⟩
  ·have hck' : (cap = K + 1) = False:=eq_false hck
   have hHO:=rd_ HO.out
   have hHB:=bd_ HB.out
   have hbase:=hHB.size
   go_enter Try.func60,Try.ntmps60
   go_wp2
   go_region_law (refine Kd.R_delete_step k51 (w0:=w0) w0.heap.size (by rfl) (.tmp 22) (.tmp 25) 28 51 rfl Try.underlying28 (by kernel_rfl) (g:=g) (n:=M + 1) (c:=cap) (k:=K) (m:=M - K) (c2:=cap - (K + 1)) (A:=some ⟨g,(K + 1) * 3,none⟩) (xs:=l0) (ok:=P0_) (by simp [Act.eval,Act.put]) (by simp [Act.eval,Act.put]) (by simp [hck,Addr.add];try rfl) (by omega) hHO hKM hHB hbase ?_;intro w1 hR1 hB1 hG1;have HR1:=mk_ hR1;have HB1:=mk_ hB1;have HG1:=mk_ hG1;clear hR1 hB1 hG1)
   all_goals
    clear hHO hHB hbase
    obtain ⟨cu,hcu,hcsz,_⟩:=row_block HR1.out
    have hsz : cu.size = cap * 3:=hcsz
    have hcl : ∀ ty cc,(Builtin.clear_ #[28] ty #[.slice (some ⟨g,M * 3,none⟩) 1 cc]).run Try.prog w1 = .ok (.tuple #[]) (w1.setCells g (M * 3) [.int .i64 0,.int .i64 0,.int .i64 0]) :=
     fun ty cc => run_clear_three w1 _ _ ty _ _ _ _ Try.underlying28 Try.zeroValue51 rfl ⟨rfl,rfl,rfl⟩ g (M * 3) _ (fun j hj => by rw [bc_ hcu];simp;omega) (fun j hj => bf_ hcu _)
    clear hcu hcsz hsz
    try go_simp
    go_wp2_with (simp only [hcl])
    go_ret
    exact ⟨_,rfl,rm_ (R_beyonds [.int .i64 0,.int .i64 0,.int .i64 0] (M * 3) w1 HR1.out (Nat.le_refl _)) (fun _ h => .inl h),below_cells hg _ _ _ HB1.out,kept_cells HP.out _ _ _ (Kept.of_grown HG1.out (Kept.drew (Kept.refl w _)) (fun k hk => by injection hk with hk;subst hk;exact .inl HP.out))⟩
 ·rw [if_neg hc] at h
  cases h

/-! ### impl_CutCable: function 27 -/
def impl_CutCable.j0 : Nat → Int → Bool → Int → List (S51) → List Int → List Int → Option (Int × (List (S51)) × List Int × List Int × Bool)
 | 0,_,_,_,_,_,_ => none
 | k + 1,x1,x18,x168000,x168001,x168002,x168003 => if x18 = true then (some (0,([] : List (S51)),([] : List Int),([] : List Int),false)) else ((impl_Net_clone.f x168000 x168001 x168002 x168003).bind fun bt171 => ((impl_Cable_60.f bt171.2.1 x1 (wrap64 (x1 + 1))).bind fun t182 => (some (bt171.1,t182,bt171.2.2.1,bt171.2.2.2,true))))
def impl_CutCable.f (k : Nat) (a0_0 : Int) (l0_1 : List (S51)) (l0_2 : List Int) (l0_3 : List Int) (a1 : Int) : Option (Int × (List (S51)) × List Int × List Int × Bool):=(impl_NetValid.f a0_0 l0_1 l0_2 l0_3).bind fun t169 => (if t169 = true then ((impl_within.f a1 0 (wrap64 ((l0_1.length : Int) - 1))).bind fun t170 => (impl_CutCable.j0 k a1 (!t170) a0_0 l0_1 l0_2 l0_3)) else (impl_CutCable.j0 k a1 true a0_0 l0_1 l0_2 l0_3))
theorem impl_CutCable.mono_l : ∀ k,(∀ y0 y1 y2 y3 y4 y5,LeO (impl_CutCable.j0 k y0 y1 y2 y3 y4 y5) (impl_CutCable.j0 (k + 1) y0 y1 y2 y3 y4 y5))
 | 0 => fun _ _ _ _ _ _ r h => by simp [impl_CutCable.j0] at h
 | k + 1 => by
  have ih0:=impl_CutCable.mono_l k
  ·intro y0 y1 y2 y3 y4 y5
   unfold impl_CutCable.j0
   repeat' first
   | (with_reducible exact ih0 _ _ _ _ _ _)
   | (with_reducible exact LeO.refl _)
   | (with_reducible exact LeO.none _)
   | (with_reducible refine LeO.ite ?_ ?_)
   | (with_reducible refine LeO.bind ?_ (fun _ => ?_))
   | exact ih0 _ _ _ _ _ _
   | exact LeO.none _
   | refine LeO.ite ?_ ?_
   | refine LeO.bind ?_ (fun _ => ?_)
theorem impl_CutCable.mono : ∀ a0 a1 a2 a3 a4 k,LeO (impl_CutCable.f k a0 a1 a2 a3 a4) (impl_CutCable.f (k + 1) a0 a1 a2 a3 a4):=by
 intro a0 a1 a2 a3 a4 k
 have ih0:=impl_CutCable.mono_l k
 unfold impl_CutCable.f
 repeat' first
   | (with_reducible exact ih0 _ _ _ _ _ _)
   | (with_reducible exact LeO.refl _)
   | (with_reducible exact LeO.none _)
   | (with_reducible refine LeO.ite ?_ ?_)
   | (with_reducible refine LeO.bind ?_ (fun _ => ?_))
   | exact ih0 _ _ _ _ _ _
   | exact LeO.none _
   | refine LeO.ite ?_ ?_
   | refine LeO.bind ?_ (fun _ => ?_)
set_option maxHeartbeats 8000000 in
set_option maxRecDepth 100000 in
theorem impl_CutCable.calls (k : Nat) (a0_0 : Int) (A0_1 : Option Addr) (c0_1 : Nat) (l0_1 : List (S51)) (A0_2 : Option Addr) (c0_2 : Nat) (l0_2 : List Int) (A0_3 : Option Addr) (c0_3 : Nat) (l0_3 : List Int) (a1 : Int) (r1 : Int) (r2 : List (S51)) (r3 : List Int) (r4 : List Int) (r5 : Bool) (w : World) (hr0_1 : Kd.C k51 w A0_1 l0_1.length l0_1) (hc0_1 : l0_1.length ≤ c0_1) (hr0_2 : Kd.C (Kd.int .i64) w A0_2 l0_2.length l0_2) (hc0_2 : l0_2.length ≤ c0_2) (hr0_3 : Kd.C (Kd.int .i64) w A0_3 l0_3.length l0_3) (hc0_3 : l0_3.length ≤ c0_3) (h : impl_CutCable.f k a0_0 l0_1 l0_2 l0_3 a1 = some (r1,r2,r3,r4,r5)) :
  Calls Try.prog 27 #[.agg #[.int .i64 a0_0,.slice A0_1 l0_1.length c0_1,.slice A0_2 l0_2.length c0_2,.slice A0_3 l0_3.length c0_3],.int .i64 a1] w fun e w' => ∃ v1_ v2_ v3_ : Value,e = .returned (.tuple #[.agg #[.int .i64 r1,v1_,v2_,v3_],.bool r5]) ∧ Kd.R k51 51 w' w.heap.size (fun _ => True) v1_ r2 ∧ Kd.R (Kd.int .i64) 3 w' w.heap.size (fun k_ => some k_ ≠ (v3_ : Value).ownBlock) v2_ r3 ∧ Kd.R (Kd.int .i64) 3 w' w.heap.size (fun k_ => some k_ ≠ (v2_ : Value).ownBlock) v3_ r4 ∧ Below w.heap.size w w':=by
 have hu30:=Try.underlying30
 have HR0_1:=mk_ hr0_1
 have HC0_1:=mk_ hc0_1
 clear hr0_1 hc0_1
 have HR0_2:=mk_ hr0_2
 have HC0_2:=mk_ hc0_2
 clear hr0_2 hc0_2
 have HR0_3:=mk_ hr0_3
 have HC0_3:=mk_ hc0_3
 clear hr0_3 hc0_3
 have HB:=mk_ (Below.refl w.heap.size w)
 have H : ((impl_NetValid.f a0_0 l0_1 l0_2 l0_3).bind fun t169 => (if t169 = true then ((impl_within.f a1 0 (wrap64 ((l0_1.length : Int) - 1))).bind fun t170 => (impl_CutCable.j0 k a1 (!t170) a0_0 l0_1 l0_2 l0_3)) else (impl_CutCable.j0 k a1 true a0_0 l0_1 l0_2 l0_3))) = some (r1,r2,r3,r4,r5):=h
 clear h
 have HC3:=mk_ H
 clear H
 go_enter Try.func27,Try.ntmps27
 go_upto_region 1 with (first|((with_reducible refine gate_dst (N:=2) rfl ?_);(try (refine gate_guard (by rfl) ?_;dsimp only));refine box_event ?hg (N:=2) ?hd (cs:=#[.int .i64 a0_0,.slice A0_1 l0_1.length c0_1,.slice A0_2 l0_2.length c0_2,.slice A0_3 l0_3.length c0_3]) (t:=30) ?hr ?_;(case hd => rfl);(case hg => rfl);(case hr => first|(go_simp;done)|(go_simp;rfl));intro gb167 hg w4 hbox hb;have n0_:=mk_ (st_ (qb_ HB) hb);have n1_:=mk_ (hbox);have n2_:=mk_ ((by rw [hg];exact (bz_ (qb_ HB)) : w.heap.size ≤ gb167));have n3_:=mk_ ((by rw [hg];exact (bz_ (qb_ HB)) : w.heap.size ≤ gb167));clear HB;have HB:=n0_;have BK167:=n1_;have GW167:=n2_;have GE167:=n3_;clear n0_ n1_ n2_ n3_;clear hb hbox hg)|((with_reducible refine gate_dst (N:=4) rfl ?_);(try (refine gate_guard (by rfl) ?_;dsimp only));refine box_event ?hg (N:=4) ?hd (cs:=#[.int .i64 0,.slice none 0 0,.slice none 0 0,.slice none 0 0]) (t:=30) ?hr ?_;(case hd => rfl);(case hg => rfl);(case hr => first|(go_simp;done)|(go_simp;rfl));intro gb168 hg w5 hbox hb;have n0_:=mk_ (blk_below (g:=gb167) (o:=.cells #[.int .i64 a0_0,.slice A0_1 l0_1.length c0_1,.slice A0_2 l0_2.length c0_2,.slice A0_3 l0_3.length c0_3] 30 (0,0)) (qk_ BK167) hb);have n1_:=mk_ (st_ (qc_ HB GE167) hb);have n2_:=mk_ (hbox);have n3_:=mk_ ((by rw [hg];exact (bz_ (qc_ HB GE167)) : w.heap.size ≤ gb168));have n4_:=mk_ ((by rw [hg];exact (bz_ (qc_ HB GE167)) : w.heap.size ≤ gb168));have n5_:=mk_ ((by rw [hg];exact Nat.ne_of_lt (blk_lt (g:=gb167) (o:=.cells #[.int .i64 a0_0,.slice A0_1 l0_1.length c0_1,.slice A0_2 l0_2.length c0_2,.slice A0_3 l0_3.length c0_3] 30 (0,0)) (qk_ BK167)) : gb167 ≠ gb168));have n6_:=mk_ ((by rw [hg];exact Nat.ne_of_gt (blk_lt (g:=gb167) (o:=.cells #[.int .i64 a0_0,.slice A0_1 l0_1.length c0_1,.slice A0_2 l0_2.length c0_2,.slice A0_3 l0_3.length c0_3] 30 (0,0)) (qk_ BK167)) : gb168 ≠ gb167));clear BK167;clear HB;have BK167:=n0_;have HB:=n1_;have BK168:=n2_;have GW168:=n3_;have GE168:=n4_;have NB167_168:=n5_;have NB168_167:=n6_;clear n0_ n1_ n2_ n3_ n4_ n5_ n6_;clear hb hbox hg))
 (try simp only [Act.put,sx_,sy_,sz_])
 go_cut [18] (fun v18 wc => ∃ (kq : Nat) (x18_2 : Bool),v18 = .bool x18_2 ∧ Aside0 (impl_CutCable.j0 kq a1 x18_2 a0_0 l0_1 l0_2 l0_3 = some (r1,r2,r3,r4,r5)) ∧ Aside0 (kq ≤ k) ∧ Aside0 (wc.heap[gb167]? = some (.cells #[.int .i64 a0_0,(.slice A0_1 l0_1.length c0_1),(.slice A0_2 l0_2.length c0_2),(.slice A0_3 l0_3.length c0_3)] 30 (0,0))) ∧ Aside0 (wc.heap[gb168]? = some (.cells #[.int .i64 0,(.slice none 0 0),(.slice none 0 0),(.slice none 0 0)] 30 (0,0))) ∧ Aside0 (Below w.heap.size w wc))
 case first =>
  have H:=HC3.out
  clear HC3
  replace H:=Option.bind_eq_some_iff.mp H
  obtain ⟨t169,A60,H⟩:=H
  replace H : (if t169 = true then ((impl_within.f a1 0 (wrap64 ((l0_1.length : Int) - 1))).bind fun t170 => (impl_CutCable.j0 k a1 (!t170) a0_0 l0_1 l0_2 l0_3)) else (impl_CutCable.j0 k a1 true a0_0 l0_1 l0_2 l0_3)) = some (r1,r2,r3,r4,r5):=H
  have A6:=mk_ A60
  clear A60
  by_cases c7 : t169 = true
  ·subst c7
   have H1 : ((impl_within.f a1 0 (wrap64 ((l0_1.length : Int) - 1))).bind fun t170 => (impl_CutCable.j0 k a1 (!t170) a0_0 l0_1 l0_2 l0_3)) = some (r1,r2,r3,r4,r5):=by rw [if_pos rfl] at H;exact H
   clear H
   have H:=H1
   clear H1
   replace H:=Option.bind_eq_some_iff.mp H
   obtain ⟨t170,A80,H⟩:=H
   replace H : (impl_CutCable.j0 k a1 (!t170) a0_0 l0_1 l0_2 l0_3) = some (r1,r2,r3,r4,r5):=H
   have A8:=mk_ A80
   clear A80
   have H':=mk_ H
   clear H
   have hnb9:=NB167_168.out
   have hnc9:=NB168_167.out
   have hcz10_0 : w5.cell? ⟨gb167,0,none⟩ = some (.int .i64 a0_0):=(bc_ BK167.out 0).trans rfl
   have hcz10_1 : w5.cell? ⟨gb167,1,none⟩ = some (.slice A0_1 l0_1.length c0_1):=(bc_ BK167.out 1).trans rfl
   have hcz10_2 : w5.cell? ⟨gb167,2,none⟩ = some (.slice A0_2 l0_2.length c0_2):=(bc_ BK167.out 2).trans rfl
   have hcz10_3 : w5.cell? ⟨gb167,3,none⟩ = some (.slice A0_3 l0_3.length c0_3):=(bc_ BK167.out 3).trans rfl
   have hfz10_0:=bf_ BK167.out 0
   have hfz10_1:=bf_ BK167.out 1
   have hfz10_2:=bf_ BK167.out 2
   have hfz10_3:=bf_ BK167.out 3
   go_wp2_with (first|((with_reducible refine gate_callee (f:=15) rfl ?_);refine goesL_ (some 8) rfl rfl Try.func15 (by kernel_rfl) rfl #[.agg #[.int .i64 a0_0,.slice A0_1 l0_1.length c0_1,.slice A0_2 l0_2.length c0_2,.slice A0_3 l0_3.length c0_3]] rfl qm_ ?_;(with_reducible refine (impl_NetValid.calls a0_0 _ _ l0_1 _ _ l0_2 _ _ l0_3 true _ ?side1 ?side2 ?side3 ?side4 ?side5 ?side6 A6.out).mono ?_);(case side1 => repeat (first|exact (cb_ HR0_1.out HB.out)|(with_reducible refine ca_ ?_ _)|(with_reducible refine cn_ ?_ _)|(with_reducible refine cd_ ?_)));(case side2 => exact HC0_1.out);(case side3 => repeat (first|exact (cb_ HR0_2.out HB.out)|(with_reducible refine ca_ ?_ _)|(with_reducible refine cn_ ?_ _)|(with_reducible refine cd_ ?_)));(case side4 => exact HC0_2.out);(case side5 => repeat (first|exact (cb_ HR0_3.out HB.out)|(with_reducible refine ca_ ?_ _)|(with_reducible refine cn_ ?_ _)|(with_reducible refine cd_ ?_)));(case side6 => exact HC0_3.out);rintro e w11 ⟨rfl,hb⟩;refine ⟨_,rfl,?_⟩;have n0_:=mk_ (blk_below (g:=gb167) (o:=.cells #[.int .i64 a0_0,.slice A0_1 l0_1.length c0_1,.slice A0_2 l0_2.length c0_2,.slice A0_3 l0_3.length c0_3] 30 (0,0)) (qk_ BK167) hb);have n1_:=mk_ (blk_below (g:=gb168) (o:=.cells #[.int .i64 0,.slice none 0 0,.slice none 0 0,.slice none 0 0] 30 (0,0)) (qk_ BK168) hb);have n2_:=mk_ (st_ (qd_ HB GE167 GE168) hb);clear BK167;clear BK168;clear HB;have BK167:=n0_;have BK168:=n1_;have HB:=n2_;clear n0_ n1_ n2_;(try clear hb);(try clear hb2);(try clear hk);(try clear hi);have hcz12_0 : w11.cell? ⟨gb167,0,none⟩ = some (.int .i64 a0_0):=(bc_ BK167.out 0).trans rfl;have hcz12_1 : w11.cell? ⟨gb167,1,none⟩ = some (.slice A0_1 l0_1.length c0_1):=(bc_ BK167.out 1).trans rfl;have hcz12_2 : w11.cell? ⟨gb167,2,none⟩ = some (.slice A0_2 l0_2.length c0_2):=(bc_ BK167.out 2).trans rfl;have hcz12_3 : w11.cell? ⟨gb167,3,none⟩ = some (.slice A0_3 l0_3.length c0_3):=(bc_ BK167.out 3).trans rfl;have hfz12_0:=bf_ BK167.out 0;have hfz12_1:=bf_ BK167.out 1;have hfz12_2:=bf_ BK167.out 2;have hfz12_3:=bf_ BK167.out 3)|(go_at_call 48;(with_reducible refine (impl_within.calls a1 0 (wrap64 ((l0_1.length : Int) - 1)) t170 _ A8.out).mono ?_);rintro e w' ⟨rfl,⟨nd,rfl⟩⟩))
   go_meet
   case rel => exact ⟨_,(!t170),(by first|rfl|(simp;done)|(simp [*];done)),H',⟨by first|omega|exact Nat.le_refl _⟩,⟨by (with_reducible repeat (first|refine kn_ ?_ _|refine kd_ ?_|refine ka_ ?_ _));exact BK167.out⟩,⟨by (with_reducible repeat (first|refine kn_ ?_ _|refine kd_ ?_|refine ka_ ?_ _));exact BK168.out⟩,⟨by repeat (first|(with_reducible first|exact HB.out|apply ba_|apply bn_|apply bd_|refine bs_ ?_ GE167.out|refine bs_ ?_ GE168.out)|exact HB.out)⟩⟩
  ·replace c7:=Bool.eq_false_iff.mpr c7
   subst c7
   have H1 : (impl_CutCable.j0 k a1 true a0_0 l0_1 l0_2 l0_3) = some (r1,r2,r3,r4,r5):=by rw [if_neg (show ¬ (false = true) by decide)] at H;exact H
   clear H
   have H:=H1
   clear H1
   have H':=mk_ H
   clear H
   have hnb13:=NB167_168.out
   have hnc13:=NB168_167.out
   have hcz14_0 : w5.cell? ⟨gb167,0,none⟩ = some (.int .i64 a0_0):=(bc_ BK167.out 0).trans rfl
   have hcz14_1 : w5.cell? ⟨gb167,1,none⟩ = some (.slice A0_1 l0_1.length c0_1):=(bc_ BK167.out 1).trans rfl
   have hcz14_2 : w5.cell? ⟨gb167,2,none⟩ = some (.slice A0_2 l0_2.length c0_2):=(bc_ BK167.out 2).trans rfl
   have hcz14_3 : w5.cell? ⟨gb167,3,none⟩ = some (.slice A0_3 l0_3.length c0_3):=(bc_ BK167.out 3).trans rfl
   have hfz14_0:=bf_ BK167.out 0
   have hfz14_1:=bf_ BK167.out 1
   have hfz14_2:=bf_ BK167.out 2
   have hfz14_3:=bf_ BK167.out 3
   go_wp2_with (first|((with_reducible refine gate_callee (f:=15) rfl ?_);refine goesL_ (some 8) rfl rfl Try.func15 (by kernel_rfl) rfl #[.agg #[.int .i64 a0_0,.slice A0_1 l0_1.length c0_1,.slice A0_2 l0_2.length c0_2,.slice A0_3 l0_3.length c0_3]] rfl qm_ ?_;(with_reducible refine (impl_NetValid.calls a0_0 _ _ l0_1 _ _ l0_2 _ _ l0_3 false _ ?side1 ?side2 ?side3 ?side4 ?side5 ?side6 A6.out).mono ?_);(case side1 => repeat (first|exact (cb_ HR0_1.out HB.out)|(with_reducible refine ca_ ?_ _)|(with_reducible refine cn_ ?_ _)|(with_reducible refine cd_ ?_)));(case side2 => exact HC0_1.out);(case side3 => repeat (first|exact (cb_ HR0_2.out HB.out)|(with_reducible refine ca_ ?_ _)|(with_reducible refine cn_ ?_ _)|(with_reducible refine cd_ ?_)));(case side4 => exact HC0_2.out);(case side5 => repeat (first|exact (cb_ HR0_3.out HB.out)|(with_reducible refine ca_ ?_ _)|(with_reducible refine cn_ ?_ _)|(with_reducible refine cd_ ?_)));(case side6 => exact HC0_3.out);rintro e w15 ⟨rfl,hb⟩;refine ⟨_,rfl,?_⟩;have n0_:=mk_ (blk_below (g:=gb167) (o:=.cells #[.int .i64 a0_0,.slice A0_1 l0_1.length c0_1,.slice A0_2 l0_2.length c0_2,.slice A0_3 l0_3.length c0_3] 30 (0,0)) (qk_ BK167) hb);have n1_:=mk_ (blk_below (g:=gb168) (o:=.cells #[.int .i64 0,.slice none 0 0,.slice none 0 0,.slice none 0 0] 30 (0,0)) (qk_ BK168) hb);have n2_:=mk_ (st_ (qd_ HB GE167 GE168) hb);clear BK167;clear BK168;clear HB;have BK167:=n0_;have BK168:=n1_;have HB:=n2_;clear n0_ n1_ n2_;(try clear hb);(try clear hb2);(try clear hk);(try clear hi)))
   go_meet
   case rel => exact ⟨_,(true),(by first|rfl|(simp;done)|(simp [*];done)),H',⟨by first|omega|exact Nat.le_refl _⟩,⟨by (with_reducible repeat (first|refine kn_ ?_ _|refine kd_ ?_|refine ka_ ?_ _));exact BK167.out⟩,⟨by (with_reducible repeat (first|refine kn_ ?_ _|refine kd_ ?_|refine ka_ ?_ _));exact BK168.out⟩,⟨by repeat (first|(with_reducible first|exact HB.out|apply ba_|apply bn_|apply bd_|refine bs_ ?_ GE167.out|refine bs_ ?_ GE168.out)|exact HB.out)⟩⟩
 case rest =>
  clear HC3
  try clear c1
  try clear c2
  try clear p2
  try clear p6
  try clear c7
  try clear c9
  try clear c13
  try clear c15
  try clear hcz10_0
  try clear hcz10_1
  try clear hcz10_2
  try clear hcz10_3
  try clear hcz12_0
  try clear hcz12_1
  try clear hcz12_2
  try clear hcz12_3
  try clear hcz14_0
  try clear hcz14_1
  try clear hcz14_2
  try clear hcz14_3
  try clear hfz10_0
  try clear hfz10_1
  try clear hfz10_2
  try clear hfz10_3
  try clear hfz12_0
  try clear hfz12_1
  try clear hfz12_2
  try clear hfz12_3
  try clear hfz14_0
  try clear hfz14_1
  try clear hfz14_2
  try clear hfz14_3
  obtain ⟨kq,x18_2,rfl,HA,HJ2,BK167,BK168,HB⟩:=hcut
  cases kq with
  | zero => exact absurd HA.out (by simp [impl_CutCable.j0])
  | succ kj2 =>
   have H:=HA.out
   clear HA
   simp only [impl_CutCable.j0] at H
   by_cases c16 : x18_2 = true
   ·subst c16
    have H1 : (some (0,([] : List (S51)),([] : List Int),([] : List Int),false)) = some (r1,r2,r3,r4,r5):=by rw [if_pos rfl] at H;exact H
    clear H
    have H:=H1
    clear H1
    simp only [Option.some.injEq,Prod.mk.injEq] at H
    obtain ⟨rfl,rfl,rfl,rfl,rfl⟩:=H
    have hnb17:=NB168_167.out
    have hnc17:=NB167_168.out
    have hcz18_0 : wc.cell? ⟨gb168,0,none⟩ = some (.int .i64 0):=(bc_ BK168.out 0).trans rfl
    have hcz18_1 : wc.cell? ⟨gb168,1,none⟩ = some (.slice none 0 0):=(bc_ BK168.out 1).trans rfl
    have hcz18_2 : wc.cell? ⟨gb168,2,none⟩ = some (.slice none 0 0):=(bc_ BK168.out 2).trans rfl
    have hcz18_3 : wc.cell? ⟨gb168,3,none⟩ = some (.slice none 0 0):=(bc_ BK168.out 3).trans rfl
    have hfz18_0:=bf_ BK168.out 0
    have hfz18_1:=bf_ BK168.out 1
    have hfz18_2:=bf_ BK168.out 2
    have hfz18_3:=bf_ BK168.out 3
    go_wp2
    refine bodyPost_ret (results_ct rfl _ _ gb168 30 #[.int .i64 0,.slice none 0 0,.slice none 0 0,.slice none 0 0] (0,0) _ rfl (by (with_reducible repeat (first|refine kn_ ?_ _|refine kd_ ?_|refine ka_ ?_ _));refine blk_put (cs:=#[.int .i64 0,.slice none 0 0,.slice none 0 0,.slice none 0 0]) ?_ 3 _ rfl;(with_reducible repeat (first|refine kn_ ?_ _|refine kd_ ?_|refine ka_ ?_ _));refine blk_put (cs:=#[.int .i64 0,.slice none 0 0,.slice none 0 0,.slice none 0 0]) ?_ 2 _ rfl;(with_reducible repeat (first|refine kn_ ?_ _|refine kd_ ?_|refine ka_ ?_ _));refine blk_put (cs:=#[.int .i64 0,.slice none 0 0,.slice none 0 0,.slice none 0 0]) ?_ 1 _ rfl;(with_reducible repeat (first|refine kn_ ?_ _|refine kd_ ?_|refine ka_ ?_ _));refine blk_put (cs:=#[.int .i64 0,.slice none 0 0,.slice none 0 0,.slice none 0 0]) ?_ 0 _ rfl;(with_reducible repeat (first|refine kn_ ?_ _|refine kd_ ?_|refine ka_ ?_ _));exact BK168.out) Try.underlying30 rfl (by kernel_rfl)) rfl ?_
    exact ⟨_,_,_,by first|rfl|(simp [errW_none,errW_some] <;> rfl)|(simp [*,errW_none,errW_some] <;> rfl),by first|exact Kd.R_nil _ _ _ _ _|exact Kd.N_nil _ _ _ _ _|exact Kd.V_nil _ _ _ _ _|exact Kd.Q_nil _ _ _ _ _|exact Kd.S_nil _ _ _ _ _,by first|exact Kd.R_nil _ _ _ _ _|exact Kd.N_nil _ _ _ _ _|exact Kd.V_nil _ _ _ _ _|exact Kd.Q_nil _ _ _ _ _|exact Kd.S_nil _ _ _ _ _,by first|exact Kd.R_nil _ _ _ _ _|exact Kd.N_nil _ _ _ _ _|exact Kd.V_nil _ _ _ _ _|exact Kd.Q_nil _ _ _ _ _|exact Kd.S_nil _ _ _ _ _,by repeat (first|(with_reducible first|exact HB.out|apply ba_|apply bn_|apply bd_|refine bs_ ?_ GE167.out|refine bs_ ?_ GE168.out)|exact HB.out)⟩
   ·replace c16:=Bool.eq_false_iff.mpr c16
    subst c16
    have H1 : ((impl_Net_clone.f a0_0 l0_1 l0_2 l0_3).bind fun bt171 => ((impl_Cable_60.f bt171.2.1 a1 (wrap64 (a1 + 1))).bind fun t182 => (some (bt171.1,t182,bt171.2.2.1,bt171.2.2.2,true)))) = some (r1,r2,r3,r4,r5):=by rw [if_neg (show ¬ (false = true) by decide)] at H;exact H
    clear H
    have H:=H1
    clear H1
    replace H:=Option.bind_eq_some_iff.mp H
    obtain ⟨⟨t171,t172,t175,t178⟩,A190,H⟩:=H
    replace H : ((impl_Cable_60.f t172 a1 (wrap64 (a1 + 1))).bind fun t182 => (some (t171,t182,t175,t178,true))) = some (r1,r2,r3,r4,r5):=H
    have A19:=mk_ A190
    clear A190
    replace H:=Option.bind_eq_some_iff.mp H
    obtain ⟨t182,A200,H⟩:=H
    replace H : (some (t171,t182,t175,t178,true)) = some (r1,r2,r3,r4,r5):=H
    have A20:=mk_ A200
    clear A200
    simp only [Option.some.injEq,Prod.mk.injEq] at H
    obtain ⟨rfl,rfl,rfl,rfl,rfl⟩:=H
    have hnb21:=NB167_168.out
    have hnc21:=NB168_167.out
    have hcz22_0 : wc.cell? ⟨gb167,0,none⟩ = some (.int .i64 a0_0):=(bc_ BK167.out 0).trans rfl
    have hcz22_1 : wc.cell? ⟨gb167,1,none⟩ = some (.slice A0_1 l0_1.length c0_1):=(bc_ BK167.out 1).trans rfl
    have hcz22_2 : wc.cell? ⟨gb167,2,none⟩ = some (.slice A0_2 l0_2.length c0_2):=(bc_ BK167.out 2).trans rfl
    have hcz22_3 : wc.cell? ⟨gb167,3,none⟩ = some (.slice A0_3 l0_3.length c0_3):=(bc_ BK167.out 3).trans rfl
    have hfz22_0:=bf_ BK167.out 0
    have hfz22_1:=bf_ BK167.out 1
    have hfz22_2:=bf_ BK167.out 2
    have hfz22_3:=bf_ BK167.out 3
    go_wp2_with (first|((with_reducible refine gate_callee (f:=59) rfl ?_);refine goesL_ (some 21) rfl rfl Try.func59 (by kernel_rfl) rfl #[.agg #[.int .i64 a0_0,.slice A0_1 l0_1.length c0_1,.slice A0_2 l0_2.length c0_2,.slice A0_3 l0_3.length c0_3]] rfl qm_ ?_;(with_reducible refine (impl_Net_clone.calls a0_0 _ _ l0_1 _ _ l0_2 _ _ l0_3 t171 t172 t175 t178 _ ?side1 ?side2 ?side3 ?side4 ?side5 ?side6 A19.out).mono ?_);(case side1 => repeat (first|exact (cb_ HR0_1.out HB.out)|(with_reducible refine ca_ ?_ _)|(with_reducible refine cn_ ?_ _)|(with_reducible refine cd_ ?_)));(case side2 => exact HC0_1.out);(case side3 => repeat (first|exact (cb_ HR0_2.out HB.out)|(with_reducible refine ca_ ?_ _)|(with_reducible refine cn_ ?_ _)|(with_reducible refine cd_ ?_)));(case side4 => exact HC0_2.out);(case side5 => repeat (first|exact (cb_ HR0_3.out HB.out)|(with_reducible refine ca_ ?_ _)|(with_reducible refine cn_ ?_ _)|(with_reducible refine cd_ ?_)));(case side6 => exact HC0_3.out);rintro e w23 ⟨v173,v176,v179,rfl,ho0,ho1,ho2,hb⟩;refine ⟨_,rfl,?_⟩;have n0_:=mk_ (Kd.R_lower ho0 (bz_ (qd_ HB GE167 GE168)));have n1_:=mk_ (Kd.R_lower ho1 (bz_ (qd_ HB GE167 GE168)));have n2_:=mk_ (Kd.R_lower ho2 (bz_ (qd_ HB GE167 GE168)));have n3_:=mk_ (blk_below (g:=gb167) (o:=.cells #[.int .i64 a0_0,.slice A0_1 l0_1.length c0_1,.slice A0_2 l0_2.length c0_2,.slice A0_3 l0_3.length c0_3] 30 (0,0)) (qk_ BK167) hb);have n4_:=mk_ (blk_below (g:=gb168) (o:=.cells #[.int .i64 0,.slice none 0 0,.slice none 0 0,.slice none 0 0] 30 (0,0)) (qk_ BK168) hb);have n5_:=mk_ (st_ (qd_ HB GE167 GE168) hb);clear BK167;clear BK168;clear HB;have HO174:=n0_;have HO177:=n1_;have HO180:=n2_;have BK167:=n3_;have BK168:=n4_;have HB:=n5_;clear n0_ n1_ n2_ n3_ n4_ n5_;(try clear hb);(try clear hb2);(try clear hk);(try clear hi);(try clear ho0);(try clear ho1);(try clear ho2))|((with_reducible refine gate_dst (N:=6) rfl ?_);(try (refine gate_guard (by rfl) ?_;dsimp only));refine box_event ?hg (N:=6) ?hd (cs:=#[.int .i64 0,.slice none 0 0,.slice none 0 0,.slice none 0 0]) (t:=30) ?hr ?_;(case hd => rfl);(case hg => rfl);(case hr => first|(go_simp;done)|(go_simp;rfl));intro gb181 hg w24 hbox hb;have n0_:=mk_ (rb_ (qr_ HO174) hb);have n1_:=mk_ (rb_ (qr_ HO177) hb);have n2_:=mk_ (rb_ (qr_ HO180) hb);have n3_:=mk_ (blk_below (g:=gb167) (o:=.cells #[.int .i64 a0_0,.slice A0_1 l0_1.length c0_1,.slice A0_2 l0_2.length c0_2,.slice A0_3 l0_3.length c0_3] 30 (0,0)) (qk_ BK167) hb);have n4_:=mk_ (blk_below (g:=gb168) (o:=.cells #[.int .i64 0,.slice none 0 0,.slice none 0 0,.slice none 0 0] 30 (0,0)) (qk_ BK168) hb);have n5_:=mk_ (st_ (qd_ HB GE167 GE168) hb);have n6_:=mk_ (hbox);have n7_:=mk_ ((by rw [hg];exact (bz_ (qd_ HB GE167 GE168)) : w.heap.size ≤ gb181));have n8_:=mk_ ((by rw [hg];exact (bz_ (qd_ HB GE167 GE168)) : w.heap.size ≤ gb181));have n9_:=mk_ ((by rw [hg];exact Nat.ne_of_lt (blk_lt (g:=gb167) (o:=.cells #[.int .i64 a0_0,.slice A0_1 l0_1.length c0_1,.slice A0_2 l0_2.length c0_2,.slice A0_3 l0_3.length c0_3] 30 (0,0)) (qk_ BK167)) : gb167 ≠ gb181));have n10_:=mk_ ((by rw [hg];exact Nat.ne_of_gt (blk_lt (g:=gb167) (o:=.cells #[.int .i64 a0_0,.slice A0_1 l0_1.length c0_1,.slice A0_2 l0_2.length c0_2,.slice A0_3 l0_3.length c0_3] 30 (0,0)) (qk_ BK167)) : gb181 ≠ gb167));have n11_:=mk_ ((by rw [hg];exact Nat.ne_of_lt (blk_lt (g:=gb168) (o:=.cells #[.int .i64 0,.slice none 0 0,.slice none 0 0,.slice none 0 0] 30 (0,0)) (qk_ BK168)) : gb168 ≠ gb181));have n12_:=mk_ ((by rw [hg];exact Nat.ne_of_gt (blk_lt (g:=gb168) (o:=.cells #[.int .i64 0,.slice none 0 0,.slice none 0 0,.slice none 0 0] 30 (0,0)) (qk_ BK168)) : gb181 ≠ gb168));clear HO174;clear HO177;clear HO180;clear BK167;clear BK168;clear HB;have HO174:=n0_;have HO177:=n1_;have HO180:=n2_;have BK167:=n3_;have BK168:=n4_;have HB:=n5_;have BK181:=n6_;have GW181:=n7_;have GE181:=n8_;have NB167_181:=n9_;have NB181_167:=n10_;have NB168_181:=n11_;have NB181_168:=n12_;clear n0_ n1_ n2_ n3_ n4_ n5_ n6_ n7_ n8_ n9_ n10_ n11_ n12_;clear hb hbox hg;have hnb25:=NB181_167.out;have hnc25:=NB167_181.out;have hnb26:=NB181_168.out;have hnc26:=NB168_181.out;have hcz27_0 : w24.cell? ⟨gb181,0,none⟩ = some (.int .i64 0):=(bc_ BK181.out 0).trans rfl;have hcz27_1 : w24.cell? ⟨gb181,1,none⟩ = some (.slice none 0 0):=(bc_ BK181.out 1).trans rfl;have hcz27_2 : w24.cell? ⟨gb181,2,none⟩ = some (.slice none 0 0):=(bc_ BK181.out 2).trans rfl;have hcz27_3 : w24.cell? ⟨gb181,3,none⟩ = some (.slice none 0 0):=(bc_ BK181.out 3).trans rfl;have hfz27_0:=bf_ BK181.out 0;have hfz27_1:=bf_ BK181.out 1;have hfz27_2:=bf_ BK181.out 2;have hfz27_3:=bf_ BK181.out 3;obtain ⟨Ao28,co28,eo28⟩:=Kd.R_slice HO174.out;subst eo28;obtain ⟨Ao29,co29,eo29⟩:=Kd.R_slice HO177.out;subst eo29;obtain ⟨Ao30,co30,eo30⟩:=Kd.R_slice HO180.out;subst eo30)|((with_reducible refine gate_store (t:=30) (p:=6) rfl ?_);refine store_event (t:=30) (p:=6) (v:=?vo_w31) (w1:=((((w24.setCell ⟨gb181,0,none⟩ (.int .i64 t171)).setCell ⟨gb181,1,none⟩ (.slice Ao28 t172.length co28)).setCell ⟨gb181,2,none⟩ (.slice Ao29 t175.length co29)).setCell ⟨gb181,3,none⟩ (.slice Ao30 t178.length co30))) ?hg ?ho ?hn ?hr ?_;(case ho => rfl);(case hg => rfl);(case hn => rfl);(case hr => first|(go_simp;done)|(go_simp;rfl));intro w31 hw;have n0_ : Aside0 (Kd.R k51 51 w31 w.heap.size (fun _ => True) (.slice Ao28 t172.length co28) t172):=⟨(by rw [hw];exact (by (with_reducible repeat (first|apply ra_|apply rn_|apply rd_));exact rm_ (rf_ (p:=⟨gb181,3,none⟩) (rf_ (p:=⟨gb181,2,none⟩) (rf_ (p:=⟨gb181,1,none⟩) (rf_ (p:=⟨gb181,0,none⟩) (rt_ HO174.out BK181.out (by decide)) (fun _ hk => hk.2) (.int .i64 t171)) (fun _ hk => hk.2) (.slice Ao28 t172.length co28)) (fun _ hk => hk.2) (.slice Ao29 t175.length co29)) (fun _ hk => hk.2) (.slice Ao30 t178.length co30)) (fun _ hk => trivial)))⟩;have n1_ : Aside0 (Kd.R (Kd.int .i64) 3 w31 w.heap.size (fun k_ => some k_ ≠ (.slice Ao30 t178.length co30 : Value).ownBlock) (.slice Ao29 t175.length co29) t175):=⟨(by rw [hw];exact (by (with_reducible repeat (first|apply ra_|apply rn_|apply rd_));exact rm_ (rf_ (p:=⟨gb181,3,none⟩) (rf_ (p:=⟨gb181,2,none⟩) (rf_ (p:=⟨gb181,1,none⟩) (rf_ (p:=⟨gb181,0,none⟩) (rt_ HO177.out BK181.out (by decide)) (fun _ hk => hk.2) (.int .i64 t171)) (fun _ hk => hk.2) (.slice Ao28 t172.length co28)) (fun _ hk => hk.2) (.slice Ao29 t175.length co29)) (fun _ hk => hk.2) (.slice Ao30 t178.length co30)) (fun _ hk => hk.1)))⟩;have n2_ : Aside0 (Kd.R (Kd.int .i64) 3 w31 w.heap.size (fun k_ => some k_ ≠ (.slice Ao29 t175.length co29 : Value).ownBlock) (.slice Ao30 t178.length co30) t178):=⟨(by rw [hw];exact (by (with_reducible repeat (first|apply ra_|apply rn_|apply rd_));exact rm_ (rf_ (p:=⟨gb181,3,none⟩) (rf_ (p:=⟨gb181,2,none⟩) (rf_ (p:=⟨gb181,1,none⟩) (rf_ (p:=⟨gb181,0,none⟩) (rt_ HO180.out BK181.out (by decide)) (fun _ hk => hk.2) (.int .i64 t171)) (fun _ hk => hk.2) (.slice Ao28 t172.length co28)) (fun _ hk => hk.2) (.slice Ao29 t175.length co29)) (fun _ hk => hk.2) (.slice Ao30 t178.length co30)) (fun _ hk => hk.1)))⟩;have n3_ : Aside0 (w31.heap[gb167]? = some (.cells #[.int .i64 a0_0,.slice A0_1 l0_1.length c0_1,.slice A0_2 l0_2.length c0_2,.slice A0_3 l0_3.length c0_3] 30 (0,0))):=⟨(by rw [hw];exact (by (with_reducible repeat (first|refine kn_ ?_ _|refine kd_ ?_|refine ka_ ?_ _));refine blk_far ?_ NB167_181.out _;(with_reducible repeat (first|refine kn_ ?_ _|refine kd_ ?_|refine ka_ ?_ _));refine blk_far ?_ NB167_181.out _;(with_reducible repeat (first|refine kn_ ?_ _|refine kd_ ?_|refine ka_ ?_ _));refine blk_far ?_ NB167_181.out _;(with_reducible repeat (first|refine kn_ ?_ _|refine kd_ ?_|refine ka_ ?_ _));refine blk_far ?_ NB167_181.out _;(with_reducible repeat (first|refine kn_ ?_ _|refine kd_ ?_|refine ka_ ?_ _));exact BK167.out))⟩;have n4_ : Aside0 (w31.heap[gb168]? = some (.cells #[.int .i64 0,.slice none 0 0,.slice none 0 0,.slice none 0 0] 30 (0,0))):=⟨(by rw [hw];exact (by (with_reducible repeat (first|refine kn_ ?_ _|refine kd_ ?_|refine ka_ ?_ _));refine blk_far ?_ NB168_181.out _;(with_reducible repeat (first|refine kn_ ?_ _|refine kd_ ?_|refine ka_ ?_ _));refine blk_far ?_ NB168_181.out _;(with_reducible repeat (first|refine kn_ ?_ _|refine kd_ ?_|refine ka_ ?_ _));refine blk_far ?_ NB168_181.out _;(with_reducible repeat (first|refine kn_ ?_ _|refine kd_ ?_|refine ka_ ?_ _));refine blk_far ?_ NB168_181.out _;(with_reducible repeat (first|refine kn_ ?_ _|refine kd_ ?_|refine ka_ ?_ _));exact BK168.out))⟩;have n5_ : Aside0 (w31.heap[gb181]? = some (.cells #[.int .i64 t171,.slice Ao28 t172.length co28,.slice Ao29 t175.length co29,.slice Ao30 t178.length co30] 30 (0,0))):=⟨(by rw [hw];exact (by (with_reducible repeat (first|refine kn_ ?_ _|refine kd_ ?_|refine ka_ ?_ _));refine blk_put (cs:=#[.int .i64 t171,.slice Ao28 t172.length co28,.slice Ao29 t175.length co29,.slice none 0 0]) ?_ 3 _ rfl;(with_reducible repeat (first|refine kn_ ?_ _|refine kd_ ?_|refine ka_ ?_ _));refine blk_put (cs:=#[.int .i64 t171,.slice Ao28 t172.length co28,.slice none 0 0,.slice none 0 0]) ?_ 2 _ rfl;(with_reducible repeat (first|refine kn_ ?_ _|refine kd_ ?_|refine ka_ ?_ _));refine blk_put (cs:=#[.int .i64 t171,.slice none 0 0,.slice none 0 0,.slice none 0 0]) ?_ 1 _ rfl;(with_reducible repeat (first|refine kn_ ?_ _|refine kd_ ?_|refine ka_ ?_ _));refine blk_put (cs:=#[.int .i64 0,.slice none 0 0,.slice none 0 0,.slice none 0 0]) ?_ 0 _ rfl;(with_reducible repeat (first|refine kn_ ?_ _|refine kd_ ?_|refine ka_ ?_ _));exact BK181.out))⟩;have n6_ : Aside0 (Below w.heap.size w w31):=⟨(by rw [hw];exact (by repeat (first|(with_reducible first|exact HB.out|apply ba_|apply bn_|apply bd_|refine bs_ ?_ GE167.out|refine bs_ ?_ GE168.out|refine bs_ ?_ GE181.out)|exact HB.out)))⟩;clear hw;clear HO174;clear HO177;clear HO180;clear BK167;clear BK168;clear BK181;clear HB;have HO174:=n0_;have HO177:=n1_;have HO180:=n2_;have BK167:=n3_;have BK168:=n4_;have BK181:=n5_;have HB:=n6_;clear n0_ n1_ n2_ n3_ n4_ n5_ n6_;have hcz32_0 : w31.cell? ⟨gb181,0,none⟩ = some (.int .i64 t171):=(bc_ BK181.out 0).trans rfl;have hcz32_1 : w31.cell? ⟨gb181,1,none⟩ = some (.slice Ao28 t172.length co28):=(bc_ BK181.out 1).trans rfl;have hcz32_2 : w31.cell? ⟨gb181,2,none⟩ = some (.slice Ao29 t175.length co29):=(bc_ BK181.out 2).trans rfl;have hcz32_3 : w31.cell? ⟨gb181,3,none⟩ = some (.slice Ao30 t178.length co30):=(bc_ BK181.out 3).trans rfl;have hfz32_0:=bf_ BK181.out 0;have hfz32_1:=bf_ BK181.out 1;have hfz32_2:=bf_ BK181.out 2;have hfz32_3:=bf_ BK181.out 3)|((with_reducible refine gate_callee (f:=60) rfl ?_);refine goesL_ (some 27) rfl rfl Try.func60 (by kernel_rfl) rfl #[.slice Ao28 t172.length co28,.int .i64 a1,.int .i64 (wrap64 (a1 + 1))] rfl qm_ ?_;(with_reducible refine (impl_Cable_60.calls (fun k_ => some k_ = (.slice Ao28 t172.length co28 : Value).ownBlock) (.slice Ao28 t172.length co28) t172 a1 (wrap64 (a1 + 1)) t182 w _ ?side1 ?side2 A20.out).mono ?_);(case side1 => repeat (first|(with_reducible first|exact HB.out|apply ba_|apply bn_|apply bd_|refine bs_ ?_ GE167.out|refine bs_ ?_ GE168.out|refine bs_ ?_ GE181.out)|exact HB.out));(case side2 => exact Kd.R_tight rfl HO174.out);rintro e w33 ⟨v183,rfl,ho0,hb,hkp⟩;refine ⟨_,rfl,?_⟩;have n0_:=mk_ (blk_kept (qk_ BK167) hkp (fun hs_ => (fun e_ => (Kd.R_ne HO174.out BK167.out (by decide)) e_) hs_));have n1_:=mk_ (blk_kept (qk_ BK168) hkp (fun hs_ => (fun e_ => (Kd.R_ne HO174.out BK168.out (by decide)) e_) hs_));have n2_:=mk_ (rm_ (ok':=fun k_ => some k_ ≠ (.slice Ao30 t178.length co30 : Value).ownBlock) (Kd.R_keptB ((Kd.R_apart' HO177.out (Kd.R_typed HO174.out) (by decide))) hkp (fun k_ hk_ hs_ => (hk_.2) hs_)) (fun k_ hk_ => hk_.1.1));have n3_:=mk_ (rm_ (ok':=fun k_ => some k_ ≠ (.slice Ao29 t175.length co29 : Value).ownBlock) (Kd.R_keptB ((Kd.R_apart' HO180.out (Kd.R_typed HO174.out) (by decide))) hkp (fun k_ hk_ hs_ => (hk_.2) hs_)) (fun k_ hk_ => hk_.1.1));have n4_:=mk_ (blk_kept (qk_ BK181) hkp (fun hs_ => (fun e_ => (Kd.R_ne HO174.out BK181.out (by decide)) e_) hs_));have n5_:=mk_ (rm_ (ok':=fun k_ => True) ho0 (fun k_ hk_ => trivial));have n6_:=mk_ (hb);clear BK167;clear BK168;clear HO177;clear HO180;clear BK181;clear HB;clear HO174;have BK167:=n0_;have BK168:=n1_;have HO177:=n2_;have HO180:=n3_;have BK181:=n4_;have HO184:=n5_;have HB:=n6_;clear n0_ n1_ n2_ n3_ n4_ n5_ n6_;(try clear hb);(try clear hkp);(try clear ho0);obtain ⟨Ao34,co34,eo34⟩:=Kd.R_slice HO184.out;subst eo34;have hcz35_0 : w33.cell? ⟨gb181,0,none⟩ = some (.int .i64 t171):=(bc_ BK181.out 0).trans rfl;have hcz35_1 : w33.cell? ⟨gb181,1,none⟩ = some (.slice Ao28 t172.length co28):=(bc_ BK181.out 1).trans rfl;have hcz35_2 : w33.cell? ⟨gb181,2,none⟩ = some (.slice Ao29 t175.length co29):=(bc_ BK181.out 2).trans rfl;have hcz35_3 : w33.cell? ⟨gb181,3,none⟩ = some (.slice Ao30 t178.length co30):=(bc_ BK181.out 3).trans rfl;have hfz35_0:=bf_ BK181.out 0;have hfz35_1:=bf_ BK181.out 1;have hfz35_2:=bf_ BK181.out 2;have hfz35_3:=bf_ BK181.out 3;have hcz36_0 : w33.cell? ⟨gb168,0,none⟩ = some (.int .i64 0):=(bc_ BK168.out 0).trans rfl;have hcz36_1 : w33.cell? ⟨gb168,1,none⟩ = some (.slice none 0 0):=(bc_ BK168.out 1).trans rfl;have hcz36_2 : w33.cell? ⟨gb168,2,none⟩ = some (.slice none 0 0):=(bc_ BK168.out 2).trans rfl;have hcz36_3 : w33.cell? ⟨gb168,3,none⟩ = some (.slice none 0 0):=(bc_ BK168.out 3).trans rfl;have hfz36_0:=bf_ BK168.out 0;have hfz36_1:=bf_ BK168.out 1;have hfz36_2:=bf_ BK168.out 2;have hfz36_3:=bf_ BK168.out 3))
    refine bodyPost_ret (results_ct rfl _ _ gb168 30 #[.int .i64 t171,.slice Ao34 t182.length co34,.slice Ao29 t175.length co29,.slice Ao30 t178.length co30] (0,0) _ rfl (by (with_reducible repeat (first|refine kn_ ?_ _|refine kd_ ?_|refine ka_ ?_ _));refine blk_put (cs:=#[.int .i64 t171,.slice Ao34 t182.length co34,.slice Ao29 t175.length co29,.slice none 0 0]) ?_ 3 _ rfl;(with_reducible repeat (first|refine kn_ ?_ _|refine kd_ ?_|refine ka_ ?_ _));refine blk_put (cs:=#[.int .i64 t171,.slice Ao34 t182.length co34,.slice none 0 0,.slice none 0 0]) ?_ 2 _ rfl;(with_reducible repeat (first|refine kn_ ?_ _|refine kd_ ?_|refine ka_ ?_ _));refine blk_put (cs:=#[.int .i64 t171,.slice none 0 0,.slice none 0 0,.slice none 0 0]) ?_ 1 _ rfl;(with_reducible repeat (first|refine kn_ ?_ _|refine kd_ ?_|refine ka_ ?_ _));refine blk_put (cs:=#[.int .i64 0,.slice none 0 0,.slice none 0 0,.slice none 0 0]) ?_ 0 _ rfl;(with_reducible repeat (first|refine kn_ ?_ _|refine kd_ ?_|refine ka_ ?_ _));refine blk_far ?_ NB168_181.out _;(with_reducible repeat (first|refine kn_ ?_ _|refine kd_ ?_|refine ka_ ?_ _));exact BK168.out) Try.underlying30 rfl (by kernel_rfl)) rfl ?_
    exact ⟨_,_,_,by first|rfl|(simp [errW_none,errW_some] <;> rfl)|(simp [*,errW_none,errW_some] <;> rfl),by (with_reducible repeat (first|apply ra_|apply rn_|apply rd_));exact rm_ (rf_ (p:=⟨gb168,3,none⟩) (rf_ (p:=⟨gb168,2,none⟩) (rf_ (p:=⟨gb168,1,none⟩) (rf_ (p:=⟨gb168,0,none⟩) (rf_ (p:=⟨gb181,1,none⟩) (rt_ (rt_ HO184.out BK181.out (by decide)) BK168.out (by decide)) (fun _ hk => hk.1.2) (.slice Ao34 t182.length co34)) (fun _ hk => hk.2) (.int .i64 t171)) (fun _ hk => hk.2) (.slice Ao34 t182.length co34)) (fun _ hk => hk.2) (.slice Ao29 t175.length co29)) (fun _ hk => hk.2) (.slice Ao30 t178.length co30)) (fun _ hk => trivial),by (with_reducible repeat (first|apply ra_|apply rn_|apply rd_));exact rm_ (rf_ (p:=⟨gb168,3,none⟩) (rf_ (p:=⟨gb168,2,none⟩) (rf_ (p:=⟨gb168,1,none⟩) (rf_ (p:=⟨gb168,0,none⟩) (rf_ (p:=⟨gb181,1,none⟩) (rt_ (rt_ HO177.out BK181.out (by decide)) BK168.out (by decide)) (fun _ hk => hk.1.2) (.slice Ao34 t182.length co34)) (fun _ hk => hk.2) (.int .i64 t171)) (fun _ hk => hk.2) (.slice Ao34 t182.length co34)) (fun _ hk => hk.2) (.slice Ao29 t175.length co29)) (fun _ hk => hk.2) (.slice Ao30 t178.length co30)) (fun _ hk => hk.1.1),by (with_reducible repeat (first|apply ra_|apply rn_|apply rd_));exact rm_ (rf_ (p:=⟨gb168,3,none⟩) (rf_ (p:=⟨gb168,2,none⟩) (rf_ (p:=⟨gb168,1,none⟩) (rf_ (p:=⟨gb168,0,none⟩) (rf_ (p:=⟨gb181,1,none⟩) (rt_ (rt_ HO180.out BK181.out (by decide)) BK168.out (by decide)) (fun _ hk => hk.1.2) (.slice Ao34 t182.length co34)) (fun _ hk => hk.2) (.int .i64 t171)) (fun _ hk => hk.2) (.slice Ao34 t182.length co34)) (fun _ hk => hk.2) (.slice Ao29 t175.length co29)) (fun _ hk => hk.2) (.slice Ao30 t178.length co30)) (fun _ hk => hk.1.1),by repeat (first|(with_reducible first|exact HB.out|apply ba_|apply bn_|apply bd_|refine bs_ ?_ GE167.out|refine bs_ ?_ GE168.out|refine bs_ ?_ GE181.out)|exact HB.out)⟩

/-- A state of type 84 at block g of W;what its slices lead to came in by w0. -/
def IsS84 (w0 W : World) (g : Nat) (f0 : List Int) (f1 : Int) : Prop:=∃ A0 c0,W.heap[g]? = some (.cells #[.slice A0 f0.length c0,.int .i64 f1] 84 (0,0)) ∧ w0.heap.size ≤ g ∧ Kd.C (Kd.int .u8) w0 A0 f0.length f0
theorem IsS84.grown {w0 W : World} {g : Nat} {f0 : List Int} {f1 : Int} {W1 : World} {row : Option Nat} (h : IsS84 w0 W g f0 f1) (hw : W.grownBy W1 row) (hne : some g ≠ row) : IsS84 w0 W1 g f0 f1:=by
 obtain ⟨A0,c0,hb,hg,hr0⟩:=h
 exact ⟨A0,c0,blk_grown hb hw hne,hg,hr0⟩
theorem IsS84.own_neN {w0 W : World} {g : Nat} {f0 : List Int} {f1 : Int} {α : Type} {d : Kd α} {e : Nat} {base : Nat} {ok : Nat → Prop} {v : Value} {xs : List α} (h : IsS84 w0 W g f0 f1) (ho : Kd.N d e W base ok v xs) (ht : e ≠ 84) : some g ≠ v.ownBlock:=by
 obtain ⟨A0,c0,hb,hg,hr0⟩:=h
 exact Kd.N_ne ho hb ht
theorem IsS84.fresh {w0 W : World} {g : Nat} {f0 : List Int} {f1 : Int} (h : IsS84 w0 W g f0 f1) : ∀ k,W.heap.size ≤ k → k ≠ g:=by
 obtain ⟨A0,c0,hb,hg,hr0⟩:=h
 exact Kd.freshB hb
theorem IsS84.kept {w0 W : World} {g : Nat} {f0 : List Int} {f1 : Int} {W1 : World} {S : Nat → Prop} (h : IsS84 w0 W g f0 f1) (hk : Kept W W1 S) (hne : ¬ S g) : IsS84 w0 W1 g f0 f1:=by
 obtain ⟨A0,c0,hb,hg,hr0⟩:=h
 exact ⟨A0,c0,blk_kept hb hk hne,hg,hr0⟩
theorem IsS84.below {w0 W : World} {g : Nat} {f0 : List Int} {f1 : Int} {W1 : World} (h : IsS84 w0 W g f0 f1) (hw : Below W.heap.size W W1) : IsS84 w0 W1 g f0 f1:=h.grown (grown_of_below hw none) (by simp)
theorem IsS84.alloc {w0 W : World} {g : Nat} {f0 : List Int} {f1 : Int} (h : IsS84 w0 W g f0 f1) (o : Obj) : IsS84 w0 (W.alloc o) g f0 f1:=h.below (ba_ (Below.refl _ _) o)
theorem IsS84.drewN {w0 W : World} {g : Nat} {f0 : List Int} {f1 : Int} (h : IsS84 w0 W g f0 f1) (m : Nat) : IsS84 w0 (W.drewN m) g f0 f1:=h
theorem IsS84.drew {w0 W : World} {g : Nat} {f0 : List Int} {f1 : Int} (h : IsS84 w0 W g f0 f1) : IsS84 w0 W.drew g f0 f1:=h
theorem IsS84.at_ {w0 W : World} {g : Nat} {f0 : List Int} {f1 : Int} {w' : World} {m : Nat} (hq : W.drewN m = w') (h : IsS84 w0 W g f0 f1) : IsS84 w0 w' g f0 f1:=by subst hq;exact IsS84.drewN h m
theorem IsS84.apart {w0 W : World} {g : Nat} {f0 : List Int} {f1 : Int} {α : Type} {d : Kd α} {e : Nat} {base : Nat} {ok : Nat → Prop} {v : Value} {xs : List α} (h : IsS84 w0 W g f0 f1) (ho : d.R e W base ok v xs) (ht : ∀ q,q ∈ e :: d.E → q ≠ 84) : d.R e W base (fun k => ok k ∧ k ≠ g) v xs:=by
 obtain ⟨A0,c0,hb,hg,hr0⟩:=h
 exact rt_ ho hb ht
theorem IsS84.own_ne {w0 W : World} {g : Nat} {f0 : List Int} {f1 : Int} {α : Type} {d : Kd α} {e : Nat} {base : Nat} {ok : Nat → Prop} {v : Value} {xs : List α} (h : IsS84 w0 W g f0 f1) (ho : d.R e W base ok v xs) (ht : e ≠ 84) : some g ≠ v.ownBlock:=by
 obtain ⟨A0,c0,hb,hg,hr0⟩:=h
 exact Kd.R_ne ho hb ht
theorem IsS84.apartQ {w0 W : World} {g : Nat} {f0 : List Int} {f1 : Int} {α : Type} {d : Kd α} {e : Nat} {base : Nat} {ok : Nat → Prop} {v : Value} {xs : List α} (h : IsS84 w0 W g f0 f1) (ho : d.Q e W base ok v xs) (ht : ∀ q,q ∈ e :: d.E → q ≠ 84) : d.Q e W base (fun k => ok k ∧ k ≠ g) v xs:=by
 obtain ⟨A0,c0,hb,hg,hr0⟩:=h
 exact Kd.Q_types ho hb ht
theorem IsS84.own_neQ {w0 W : World} {g : Nat} {f0 : List Int} {f1 : Int} {α : Type} {d : Kd α} {e : Nat} {base : Nat} {ok : Nat → Prop} {v : Value} {xs : List α} (h : IsS84 w0 W g f0 f1) (ho : d.Q e W base ok v xs) (ht : e ≠ 84) : some g ≠ v.ownBlock:=by
 obtain ⟨A0,c0,hb,hg,hr0⟩:=h
 exact Kd.Q_ne ho hb ht
theorem IsS84.apartS {w0 W : World} {g : Nat} {f0 : List Int} {f1 : Int} {α : Type} {d : Kd α} {e : Nat} {base : Nat} {ok : Nat → Prop} {v : Value} {xs : List α} (h : IsS84 w0 W g f0 f1) (ho : d.S e W base ok v xs) (ht : ∀ q,q ∈ e :: d.E → q ≠ 84) : d.S e W base (fun k => ok k ∧ k ≠ g) v xs:=by
 obtain ⟨A0,c0,hb,hg,hr0⟩:=h
 exact Kd.S_types ho hb ht
theorem IsS84.own_neS {w0 W : World} {g : Nat} {f0 : List Int} {f1 : Int} {α : Type} {d : Kd α} {e : Nat} {base : Nat} {ok : Nat → Prop} {v : Value} {xs : List α} (h : IsS84 w0 W g f0 f1) (ho : d.S e W base ok v xs) (ht : e ≠ 84) : some g ≠ v.ownBlock:=by
 obtain ⟨A0,c0,hb,hg,hr0⟩:=h
 exact Kd.S_ne ho hb ht
theorem IsS84.lt {w0 W : World} {g : Nat} {f0 : List Int} {f1 : Int} (h : IsS84 w0 W g f0 f1) : g < W.heap.size:=by
 obtain ⟨A0,c0,hb,hg,hr0⟩:=h
 exact blk_lt hb
theorem IsS84.ge {w0 W : World} {g : Nat} {f0 : List Int} {f1 : Int} (h : IsS84 w0 W g f0 f1) : w0.heap.size ≤ g:=by
 obtain ⟨A0,c0,hb,hg,hr0⟩:=h
 exact hg
theorem IsS84.ne_blk {w0 W : World} {g : Nat} {f0 : List Int} {f1 : Int} {a : Nat} {cs : Array Value} {t : TypeId} {fr : Nat × Nat} (h : IsS84 w0 W g f0 f1) (hb2 : W.heap[a]? = some (.cells cs t fr)) (ht : t ≠ 84) : g ≠ a:=by
 obtain ⟨A0,c0,hb,hg,hr0⟩:=h
 rintro rfl
 rw [hb] at hb2
 injection hb2 with hb2
 injection hb2 with _ ht2
 exact ht ht2.symm
theorem IsS84.far {w0 W : World} {g : Nat} {f0 : List Int} {f1 : Int} {p : Addr} (h : IsS84 w0 W g f0 f1) (hne : g ≠ p.block) (u : Value) : IsS84 w0 (W.setCell p u) g f0 f1:=by
 obtain ⟨A0,c0,hb,hg,hr0⟩:=h
 exact ⟨A0,c0,blk_far hb hne u,hg,hr0⟩
theorem cellS84_0 {W : World} {g : Nat} {A0 : Option Addr} {c0 : Nat} {f0 : List Int} {f1 : Int} (h : W.heap[g]? = some (.cells #[.slice A0 f0.length c0,.int .i64 f1] 84 (0,0))) : W.cell? ⟨g,0,none⟩ = some (.slice A0 f0.length c0):=(bc_ h 0).trans rfl
theorem cellS84_1 {W : World} {g : Nat} {A0 : Option Addr} {c0 : Nat} {f0 : List Int} {f1 : Int} (h : W.heap[g]? = some (.cells #[.slice A0 f0.length c0,.int .i64 f1] 84 (0,0))) : W.cell? ⟨g,1,none⟩ = some (.int .i64 f1):=(bc_ h 1).trans rfl
theorem IsS84.set_1 {w0 W : World} {g : Nat} {f0 : List Int} {f1 : Int} (h : IsS84 w0 W g f0 f1) (x : Int) : IsS84 w0 (W.setCell ⟨g,1,none⟩ (.int .i64 x)) g f0 x:=by
 obtain ⟨A0,c0,hb,hg,hr0⟩:=h
 exact ⟨A0,c0,by simpa using blk_set hb 1 (.int .i64 x),hg,hr0⟩
theorem IsS84.new (w0 W : World) (A0 : Option Addr) (c0 : Nat) (f0 : List Int) (f1 : Int) (hB : Below w0.heap.size w0 W) (hr0 : Kd.C (Kd.int .u8) w0 A0 f0.length f0) : IsS84 w0 (W.alloc (.cells #[.slice A0 f0.length c0,.int .i64 f1] 84)) W.heap.size f0 f1:=⟨A0,c0,by simpa using heap_alloc_new W _,hB.size,hr0⟩

/-! ### spec_l21Open: function 51 -/
def spec_l21Open.f (l0 : List Int) : Option (List Int × Int):=if (l0.length : Int) > 2000 then (if 2000 ≤ (l0.length : Int) then (some (l0.take 2000,0)) else (none)) else (some (l0,0))
set_option maxHeartbeats 8000000 in
set_option maxRecDepth 100000 in
theorem spec_l21Open.calls (A0 : Option Addr) (c0 : Nat) (l0 : List Int) (r1 : List Int) (r2 : Int) (w0 w : World) (hB : Below w0.heap.size w0 w) (hr0 : Kd.C (Kd.int .u8) w0 A0 l0.length l0) (hc0 : l0.length ≤ c0) (h : spec_l21Open.f l0 = some (r1,r2)) :
  Calls Try.prog 51 #[.slice A0 l0.length c0] w fun e w' => ∃ g_ : Nat,e = .returned (.pointer (some ⟨g_,0,none⟩)) ∧ IsS84 w0 w' g_ r1 r2 ∧ Below w0.heap.size w0 w' ∧ Below w.heap.size w w':=by
 have hu84:=Try.underlying84
 have HR0:=mk_ hr0
 have HC0:=mk_ hc0
 clear hr0 hc0
 have HBW:=mk_ (Below.refl w.heap.size w)
 have HW0:=mk_ hB.size
 have HB:=mk_ hB
 clear hB
 have H : (if (l0.length : Int) > 2000 then (if 2000 ≤ (l0.length : Int) then (some (l0.take 2000,0)) else (none)) else (some (l0,0))) = some (r1,r2):=h
 clear h
 by_cases c2 : (l0.length : Int) > 2000
 ·rw [if_pos c2] at H
  have c2b0 : decide (2000 < (l0.length : Int)) = true:=decide_eq_true c2
  have c2b1 : decide (2000 < l0.length) = true:=decide_eq_true (by omega)
  clear c2
  by_cases c3 : 2000 ≤ (l0.length : Int)
  ·rw [if_pos c3] at H
   have c3b0:=eq_true c3
   have c3b1 : decide (2000 ≤ (l0.length : Int)) = true:=decide_eq_true c3
   clear c3
   simp only [Option.some.injEq,Prod.mk.injEq] at H
   obtain ⟨rfl,rfl⟩:=H
   obtain ⟨i04,hi04,_,hsz4,_⟩:=info_parts info5
   obtain ⟨hcut4,hA4,hC4⟩:=print_take_of (P:=Try.prog) (Value.int .u8) 0 34 5 .i64 Try.underlying34 hi04 hsz4 A0 c0 l0 2000 (by omega) (od_ qa_) HC0.out
   have HR185:=mk_ (Kd.C_of_reads (h1:=fun _ => rfl) (hA4 _ (Kd.reads_of_C HR0.out)))
   have HC185:=mk_ hC4
   clear hA4 hC4 hi04 hsz4
   go_enter Try.func51,Try.ntmps51
   go_wp2_with (first|((with_reducible refine gate_dst (N:=10) rfl ?_);refine box_event ?hg (N:=10) ?hd (cs:=#[.slice A0 (l0.take 2000).length c0,.int .i64 0]) (t:=84) ?hr ?_;(case hd => rfl);(case hg => rfl);(case hr => first|(go_simp;done)|(go_simp;rfl));intro gb186 hg w5 hbox hb;have n0_:=mk_ (st_ HBW.out hb);have n1_:=mk_ (st_ (qb_ HB) hb);have n2_:=mk_ (hbox);have n3_:=mk_ ((by rw [hg];exact (bz_ (by repeat (first|(with_reducible first|exact HBW.out|apply ba_|apply bn_|apply bd_)|exact HBW.out))) : w.heap.size ≤ gb186));have n4_:=mk_ ((Nat.le_trans HW0.out (by rw [hg];exact (bz_ (by repeat (first|(with_reducible first|exact HBW.out|apply ba_|apply bn_|apply bd_)|exact HBW.out))) : w.heap.size ≤ gb186) : w0.heap.size ≤ gb186));clear HBW;clear HB;have HBW:=n0_;have HB:=n1_;have BK186:=n2_;have GW186:=n3_;have GE186:=n4_;clear n0_ n1_ n2_ n3_ n4_;clear hb hbox hg))
   go_ret
   exact ⟨_,rfl,(show IsS84 w0 _ gb186 (l0.take 2000) 0 from ⟨_,_,by (with_reducible repeat (first|refine kn_ ?_ _|refine kd_ ?_|refine ka_ ?_ _));exact BK186.out,GE186.out,HR185.out⟩),by repeat (first|(with_reducible first|exact HB.out|apply ba_|apply bn_|apply bd_|refine bs_ ?_ GE186.out)|exact HB.out),by repeat (first|(with_reducible first|exact HBW.out|apply ba_|apply bn_|apply bd_|refine bs_ ?_ GW186.out)|exact HBW.out)⟩
  ·rw [if_neg c3] at H
   exact absurd H (by simp)
 ·rw [if_neg c2] at H
  have c2b0 : decide (2000 < (l0.length : Int)) = false:=decide_eq_false c2
  have c2b1 : decide (2000 < l0.length) = false:=decide_eq_false (by omega)
  clear c2
  simp only [Option.some.injEq,Prod.mk.injEq] at H
  obtain ⟨rfl,rfl⟩:=H
  go_enter Try.func51,Try.ntmps51
  go_wp2_with (first|((with_reducible refine gate_dst (N:=10) rfl ?_);refine box_event ?hg (N:=10) ?hd (cs:=#[.slice A0 l0.length c0,.int .i64 0]) (t:=84) ?hr ?_;(case hd => rfl);(case hg => rfl);(case hr => first|(go_simp;done)|(go_simp;rfl));intro gb187 hg w6 hbox hb;have n0_:=mk_ (st_ HBW.out hb);have n1_:=mk_ (st_ (qb_ HB) hb);have n2_:=mk_ (hbox);have n3_:=mk_ ((by rw [hg];exact (bz_ (by repeat (first|(with_reducible first|exact HBW.out|apply ba_|apply bn_|apply bd_)|exact HBW.out))) : w.heap.size ≤ gb187));have n4_:=mk_ ((Nat.le_trans HW0.out (by rw [hg];exact (bz_ (by repeat (first|(with_reducible first|exact HBW.out|apply ba_|apply bn_|apply bd_)|exact HBW.out))) : w.heap.size ≤ gb187) : w0.heap.size ≤ gb187));clear HBW;clear HB;have HBW:=n0_;have HB:=n1_;have BK187:=n2_;have GW187:=n3_;have GE187:=n4_;clear n0_ n1_ n2_ n3_ n4_;clear hb hbox hg))
  go_ret
  exact ⟨_,rfl,(show IsS84 w0 _ gb187 l0 0 from ⟨_,_,by (with_reducible repeat (first|refine kn_ ?_ _|refine kd_ ?_|refine ka_ ?_ _));exact BK187.out,GE187.out,HR0.out⟩),by repeat (first|(with_reducible first|exact HB.out|apply ba_|apply bn_|apply bd_|refine bs_ ?_ GE187.out)|exact HB.out),by repeat (first|(with_reducible first|exact HBW.out|apply ba_|apply bn_|apply bd_|refine bs_ ?_ GW187.out)|exact HBW.out)⟩

/-! ### spec_l21Rd_pick: function 53 -/
def spec_l21Rd_pick.j0 : Nat → Int → Bool → List Int → Int → Option (Int × Int)
 | 0,_,_,_,_ => none
 | k + 1,x1,x24,x1000,x1001 => if x24 = true then (some (0,x1001)) else (if (wrap64 (x1001 - 1)) < (x1000.length : Int) then (if 0 ≤ (wrap64 (x1001 - 1)) then (if x1 = 0 then (none) else (some (Int.tmod (wrap64 (rd x1000 (wrap64 (x1001 - 1)))) x1,x1001))) else (none)) else (if (x1000.length : Int) = 0 then (none) else (if 0 ≤ (Int.tmod (wrap64 (x1001 - 1)) (x1000.length : Int)) then (if (Int.tmod (wrap64 (x1001 - 1)) (x1000.length : Int)) < (x1000.length : Int) then (if 0 ≤ (Int.tmod (wrap64 ((wrap64 ((wrap64 (x1001 - 1)) * 7)) + 3)) (x1000.length : Int)) then (if (Int.tmod (wrap64 ((wrap64 ((wrap64 (x1001 - 1)) * 7)) + 3)) (x1000.length : Int)) < (x1000.length : Int) then (if x1 = 0 then (none) else (some (Int.tmod (Go.bits .xor .i64 (wrap64 ((wrap64 ((wrap64 ((wrap64 ((wrap64 (rd x1000 (Int.tmod (wrap64 (x1001 - 1)) (x1000.length : Int)))) * 131)) + (wrap64 ((wrap64 (rd x1000 (Int.tmod (wrap64 ((wrap64 ((wrap64 (x1001 - 1)) * 7)) + 3)) (x1000.length : Int)))) * 1117)))) + (wrap64 ((wrap64 (x1001 - 1)) * 29)))) + (wrap64 ((wrap64 (Int.tdiv (wrap64 (x1001 - 1)) (x1000.length : Int))) * 53)))) (wrap64 (Int.tdiv (wrap64 ((wrap64 ((wrap64 ((wrap64 ((wrap64 (rd x1000 (Int.tmod (wrap64 (x1001 - 1)) (x1000.length : Int)))) * 131)) + (wrap64 ((wrap64 (rd x1000 (Int.tmod (wrap64 ((wrap64 ((wrap64 (x1001 - 1)) * 7)) + 3)) (x1000.length : Int)))) * 1117)))) + (wrap64 ((wrap64 (x1001 - 1)) * 29)))) + (wrap64 ((wrap64 (Int.tdiv (wrap64 (x1001 - 1)) (x1000.length : Int))) * 53)))) 64))) x1,x1001))) else (none)) else (none)) else (none)) else (none))))
def spec_l21Rd_pick.f (k : Nat) (s0_0 : List Int) (s0_1 : Int) (a1 : Int) : Option (Int × Int):=if a1 < 1 then (spec_l21Rd_pick.j0 k a1 true s0_0 (wrap64 (s0_1 + 1))) else (spec_l21Rd_pick.j0 k a1 ((s0_0.length : Int) == 0) s0_0 (wrap64 (s0_1 + 1)))
theorem spec_l21Rd_pick.mono_l : ∀ k,(∀ y0 y1 y2 y3,LeO (spec_l21Rd_pick.j0 k y0 y1 y2 y3) (spec_l21Rd_pick.j0 (k + 1) y0 y1 y2 y3))
 | 0 => fun _ _ _ _ r h => by simp [spec_l21Rd_pick.j0] at h
 | k + 1 => by
  have ih0:=spec_l21Rd_pick.mono_l k
  ·intro y0 y1 y2 y3
   unfold spec_l21Rd_pick.j0
   repeat' first
   | (with_reducible exact ih0 _ _ _ _)
   | (with_reducible exact LeO.refl _)
   | (with_reducible exact LeO.none _)
   | (with_reducible refine LeO.ite ?_ ?_)
   | (with_reducible refine LeO.bind ?_ (fun _ => ?_))
   | exact ih0 _ _ _ _
   | exact LeO.none _
   | refine LeO.ite ?_ ?_
   | refine LeO.bind ?_ (fun _ => ?_)
theorem spec_l21Rd_pick.mono : ∀ a0 a1 a2 k,LeO (spec_l21Rd_pick.f k a0 a1 a2) (spec_l21Rd_pick.f (k + 1) a0 a1 a2):=by
 intro a0 a1 a2 k
 have ih0:=spec_l21Rd_pick.mono_l k
 unfold spec_l21Rd_pick.f
 repeat' first
   | (with_reducible exact ih0 _ _ _ _)
   | (with_reducible exact LeO.refl _)
   | (with_reducible exact LeO.none _)
   | (with_reducible refine LeO.ite ?_ ?_)
   | (with_reducible refine LeO.bind ?_ (fun _ => ?_))
   | exact ih0 _ _ _ _
   | exact LeO.none _
   | refine LeO.ite ?_ ?_
   | refine LeO.bind ?_ (fun _ => ?_)
set_option maxHeartbeats 8000000 in
set_option maxRecDepth 100000 in
theorem spec_l21Rd_pick.calls (k : Nat) (g : Nat) (s0_0 : List Int) (s0_1 : Int) (a1 : Int) (r1 : Int) (r2 : Int) (w0 w : World) (hI : IsS84 w0 w g s0_0 s0_1) (hB : Below w0.heap.size w0 w) (h : spec_l21Rd_pick.f k s0_0 s0_1 a1 = some (r1,r2)) :
  Calls Try.prog 53 #[.pointer (some ⟨g,0,none⟩),.int .i64 a1] w fun e w' => e = .returned (.int .i64 r1) ∧ IsS84 w0 w' g s0_0 r2 ∧ Below w0.heap.size w0 w' ∧ KeepBut w w' g none:=by
 have HI0:=mk_ hI
 have HK:=mk_ (KeepBut.refl w g none)
 have HL:=mk_ hB.size
 clear hI
 have HW0:=mk_ hB.size
 have HB:=mk_ hB
 clear hB
 have H : (if a1 < 1 then (spec_l21Rd_pick.j0 k a1 true s0_0 (wrap64 (s0_1 + 1))) else (spec_l21Rd_pick.j0 k a1 ((s0_0.length : Int) == 0) s0_0 (wrap64 (s0_1 + 1)))) = some (r1,r2):=h
 clear h
 have HC3:=mk_ H
 clear H
 obtain ⟨ASz4_0,cSz4_0,HGz4,hgz4,HSz4_0⟩:=HI0.out
 have hcz4_0:=cellS84_0 HGz4
 have hcz4_1:=cellS84_1 HGz4
 have hfz4_1:=bf_ HGz4 1
 clear HGz4 hgz4
 go_enter Try.func53,Try.ntmps53
 go_upto_region 2 with (fail)
 repeat (go_quiet (fail);go_upto_region 2 with (fail))
 go_cut [24] (fun v24 wc => ∃ (kq : Nat) (x24_2 : Bool),v24 = .bool x24_2 ∧ Aside0 (spec_l21Rd_pick.j0 kq a1 x24_2 s0_0 (wrap64 (s0_1 + 1)) = some (r1,r2)) ∧ Aside0 (kq ≤ k) ∧ Aside0 (IsS84 w0 wc g s0_0 (wrap64 (s0_1 + 1))) ∧ Aside0 (KeepBut w wc g none) ∧ Aside0 (Below w0.heap.size w0 wc))
 case first =>
  have H:=HC3.out
  clear HC3
  by_cases c5 : a1 < 1
  ·rw [if_pos c5] at H
   have c5b0 : decide (a1 < 1) = true:=decide_eq_true c5
   clear c5
   (first|rw [c5b0]|(simp only [i64_w,i32_w];rw [c5b0])|skip)
   have H':=mk_ H
   clear H
   go_wp2
   repeat (go_quiet (fail);try go_wp2)
   go_meet
   case rel => exact ⟨_,(true),(by first|rfl|(simp;done)|(simp [*];done)),H',⟨by first|omega|exact Nat.le_refl _⟩,⟨by repeat (first|(with_reducible first|exact HI0.out|apply IsS84.alloc|apply IsS84.drewN|apply IsS84.drew|apply IsS84.set_1)|exact HI0.out)⟩,⟨by repeat (first|(with_reducible first|exact HK.out|apply KeepBut.set_|apply keep_drewN|apply keep_drew|apply keep_alloc)|exact HK.out)⟩,⟨by repeat (first|(with_reducible first|exact HB.out|apply ba_|apply bn_|apply bd_|refine bs_ ?_ (IsS84.ge HI0.out))|exact HB.out)⟩⟩
  ·rw [if_neg c5] at H
   have c5b0 : decide (a1 < 1) = false:=decide_eq_false c5
   clear c5
   (first|rw [c5b0]|(simp only [i64_w,i32_w];rw [c5b0])|skip)
   have H':=mk_ H
   clear H
   obtain ⟨ASz6_0,cSz6_0,HGz6,hgz6,HSz6_0⟩:=HI0.out
   have hcz6_0:=cellS84_0 HGz6
   have hcz6_1:=cellS84_1 HGz6
   have hfz6_1:=bf_ HGz6 1
   clear HGz6 hgz6
   go_wp2
   repeat (go_quiet (fail);try go_wp2)
   go_meet
   case rel => exact ⟨_,(((s0_0.length : Int) == 0)),(by first|rfl|(simp;done)|(simp [*];done)),H',⟨by first|omega|exact Nat.le_refl _⟩,⟨by repeat (first|(with_reducible first|exact HI0.out|apply IsS84.alloc|apply IsS84.drewN|apply IsS84.drew|apply IsS84.set_1)|exact HI0.out)⟩,⟨by repeat (first|(with_reducible first|exact HK.out|apply KeepBut.set_|apply keep_drewN|apply keep_drew|apply keep_alloc)|exact HK.out)⟩,⟨by repeat (first|(with_reducible first|exact HB.out|apply ba_|apply bn_|apply bd_|refine bs_ ?_ (IsS84.ge HI0.out))|exact HB.out)⟩⟩
 case rest =>
  clear HC3
  try clear p2
  try clear c5
  try clear c5b0
  try clear p6
  try clear hcz4_0
  try clear hcz4_1
  try clear hcz6_0
  try clear hcz6_1
  try clear hfz4_1
  try clear hfz6_1
  obtain ⟨kq,x24_2,rfl,HA,HJ2,HI0,HK,HB⟩:=hcut
  cases kq with
  | zero => exact absurd HA.out (by simp [spec_l21Rd_pick.j0])
  | succ kj2 =>
   have H:=HA.out
   clear HA
   simp only [spec_l21Rd_pick.j0] at H
   by_cases c7 : x24_2 = true
   ·subst c7
    have H1 : (some (0,(wrap64 (s0_1 + 1)))) = some (r1,r2):=by rw [if_pos rfl] at H;exact H
    clear H
    have H:=H1
    clear H1
    simp only [Option.some.injEq,Prod.mk.injEq] at H
    obtain ⟨rfl,rfl⟩:=H
    go_wp2
    repeat (go_quiet (fail);try go_wp2)
    go_ret
    exact ⟨by first|rfl|(simp [errW_none,errW_some] <;> rfl)|(simp [*,errW_none,errW_some] <;> rfl),by repeat (first|(with_reducible first|exact HI0.out|apply IsS84.alloc|apply IsS84.drewN|apply IsS84.drew|apply IsS84.set_1)|exact HI0.out),by repeat (first|(with_reducible first|exact HB.out|apply ba_|apply bn_|apply bd_|refine bs_ ?_ (IsS84.ge HI0.out))|exact HB.out),by repeat (first|(with_reducible first|exact HK.out|apply KeepBut.set_|apply keep_drewN|apply keep_drew|apply keep_alloc)|exact HK.out)⟩
   ·replace c7:=Bool.eq_false_iff.mpr c7
    subst c7
    have H1 : (if (wrap64 ((wrap64 (s0_1 + 1)) - 1)) < (s0_0.length : Int) then (if 0 ≤ (wrap64 ((wrap64 (s0_1 + 1)) - 1)) then (if a1 = 0 then (none) else (some (Int.tmod (wrap64 (rd s0_0 (wrap64 ((wrap64 (s0_1 + 1)) - 1)))) a1,(wrap64 (s0_1 + 1))))) else (none)) else (if (s0_0.length : Int) = 0 then (none) else (if 0 ≤ (Int.tmod (wrap64 ((wrap64 (s0_1 + 1)) - 1)) (s0_0.length : Int)) then (if (Int.tmod (wrap64 ((wrap64 (s0_1 + 1)) - 1)) (s0_0.length : Int)) < (s0_0.length : Int) then (if 0 ≤ (Int.tmod (wrap64 ((wrap64 ((wrap64 ((wrap64 (s0_1 + 1)) - 1)) * 7)) + 3)) (s0_0.length : Int)) then (if (Int.tmod (wrap64 ((wrap64 ((wrap64 ((wrap64 (s0_1 + 1)) - 1)) * 7)) + 3)) (s0_0.length : Int)) < (s0_0.length : Int) then (if a1 = 0 then (none) else (some (Int.tmod (Go.bits .xor .i64 (wrap64 ((wrap64 ((wrap64 ((wrap64 ((wrap64 (rd s0_0 (Int.tmod (wrap64 ((wrap64 (s0_1 + 1)) - 1)) (s0_0.length : Int)))) * 131)) + (wrap64 ((wrap64 (rd s0_0 (Int.tmod (wrap64 ((wrap64 ((wrap64 ((wrap64 (s0_1 + 1)) - 1)) * 7)) + 3)) (s0_0.length : Int)))) * 1117)))) + (wrap64 ((wrap64 ((wrap64 (s0_1 + 1)) - 1)) * 29)))) + (wrap64 ((wrap64 (Int.tdiv (wrap64 ((wrap64 (s0_1 + 1)) - 1)) (s0_0.length : Int))) * 53)))) (wrap64 (Int.tdiv (wrap64 ((wrap64 ((wrap64 ((wrap64 ((wrap64 (rd s0_0 (Int.tmod (wrap64 ((wrap64 (s0_1 + 1)) - 1)) (s0_0.length : Int)))) * 131)) + (wrap64 ((wrap64 (rd s0_0 (Int.tmod (wrap64 ((wrap64 ((wrap64 ((wrap64 (s0_1 + 1)) - 1)) * 7)) + 3)) (s0_0.length : Int)))) * 1117)))) + (wrap64 ((wrap64 ((wrap64 (s0_1 + 1)) - 1)) * 29)))) + (wrap64 ((wrap64 (Int.tdiv (wrap64 ((wrap64 (s0_1 + 1)) - 1)) (s0_0.length : Int))) * 53)))) 64))) a1,(wrap64 (s0_1 + 1))))) else (none)) else (none)) else (none)) else (none)))) = some (r1,r2):=by rw [if_neg (show ¬ (false = true) by decide)] at H;exact H
    clear H
    have H:=H1
    clear H1
    by_cases c8 : (wrap64 ((wrap64 (s0_1 + 1)) - 1)) < (s0_0.length : Int)
    ·rw [if_pos c8] at H
     have c8b0 : decide ((wrap64 ((wrap64 (s0_1 + 1)) - 1)) < (s0_0.length : Int)) = true:=decide_eq_true c8
     clear c8
     obtain ⟨ji9,hji9⟩ : ∃ j_ : Int,(wrap64 ((wrap64 (s0_1 + 1)) - 1)) = j_:=⟨_,rfl⟩
     replace H : (if 0 ≤ (ji9) then (if a1 = 0 then (none) else (some (Int.tmod (wrap64 (rd s0_0 (ji9))) a1,(wrap64 (s0_1 + 1))))) else (none)) = some (r1,r2):=by first|(rw [hji9] at H;exact H)|(simp only [hji9] at H ⊢;exact H)
     (try rw [hji9] at c8b0)
     have hji9w : (IntKind.i64.wrap ((wrap64 (s0_1 + 1)) - 1)) = ji9:=(i64_w _).trans hji9
     by_cases c10 : 0 ≤ (ji9)
     ·rw [if_pos c10] at H
      have c10b0 : decide (0 ≤ (ji9)) = true:=decide_eq_true c10
      clear c10
      by_cases c11 : a1 = 0
      ·rw [if_pos c11] at H
       exact absurd H (by simp)
      ·rw [if_neg c11] at H
       have c11b0 : (a1 == 0) = false:=beq_eq_false_iff_ne.mpr c11
       have c11b1 : (a1 != 0) = true:=bne_iff_ne.mpr c11
       simp only [Option.some.injEq,Prod.mk.injEq] at H
       obtain ⟨rfl,rfl⟩:=H
       obtain ⟨ASz12_0,cSz12_0,HGz12,hgz12,HSz12_0⟩:=HI0.out
       have hcz12_0:=cellS84_0 HGz12
       have hcz12_1:=cellS84_1 HGz12
       have hfz12_1:=bf_ HGz12 1
       clear HGz12 hgz12
       have p188 : 0 ≤ ((ji9) : Int):=od_ qa_
       have q188 : (ji9) < (s0_0.length : Int):=od_ qa_
       obtain ⟨ad188,e188,hx188_0⟩:=Kd.at_int HSz12_0 (ji9) p188 q188
       cases e188
       replace hx188_0:=pw_cell_below HB.out hx188_0
       replace p188:=eq_true p188
       replace q188:=eq_true q188
       go_wp2
       repeat (go_quiet (fail);try go_wp2)
       go_ret
       exact ⟨by first|rfl|(simp [errW_none,errW_some] <;> rfl)|(simp only [← hji9];first|rfl|(simp [errW_none,errW_some] <;> rfl))|(simp [*,errW_none,errW_some] <;> rfl),by repeat (first|(with_reducible first|exact HI0.out|apply IsS84.alloc|apply IsS84.drewN|apply IsS84.drew|apply IsS84.set_1)|exact HI0.out),by repeat (first|(with_reducible first|exact HB.out|apply ba_|apply bn_|apply bd_|refine bs_ ?_ (IsS84.ge HI0.out))|exact HB.out),by repeat (first|(with_reducible first|exact HK.out|apply KeepBut.set_|apply keep_drewN|apply keep_drew|apply keep_alloc)|exact HK.out)⟩
     ·rw [if_neg c10] at H
      exact absurd H (by simp)
    ·rw [if_neg c8] at H
     have c8b0 : decide ((wrap64 ((wrap64 (s0_1 + 1)) - 1)) < (s0_0.length : Int)) = false:=decide_eq_false c8
     clear c8
     by_cases c13 : (s0_0.length : Int) = 0
     ·rw [if_pos c13] at H
      exact absurd H (by simp)
     ·rw [if_neg c13] at H
      have c13b0 : ((s0_0.length : Int) == 0) = false:=beq_eq_false_iff_ne.mpr c13
      have c13b1 : ((s0_0.length : Int) != 0) = true:=bne_iff_ne.mpr c13
      have c13b2 : ¬ (s0_0 = []):=fun h_ => c13 (by rw [h_];rfl)
      obtain ⟨ji14,hji14⟩ : ∃ j_ : Int,(Int.tmod (wrap64 ((wrap64 (s0_1 + 1)) - 1)) (s0_0.length : Int)) = j_:=⟨_,rfl⟩
      replace H : (if 0 ≤ (ji14) then (if (ji14) < (s0_0.length : Int) then (if 0 ≤ (Int.tmod (wrap64 ((wrap64 ((wrap64 ((wrap64 (s0_1 + 1)) - 1)) * 7)) + 3)) (s0_0.length : Int)) then (if (Int.tmod (wrap64 ((wrap64 ((wrap64 ((wrap64 (s0_1 + 1)) - 1)) * 7)) + 3)) (s0_0.length : Int)) < (s0_0.length : Int) then (if a1 = 0 then (none) else (some (Int.tmod (Go.bits .xor .i64 (wrap64 ((wrap64 ((wrap64 ((wrap64 ((wrap64 (rd s0_0 (ji14))) * 131)) + (wrap64 ((wrap64 (rd s0_0 (Int.tmod (wrap64 ((wrap64 ((wrap64 ((wrap64 (s0_1 + 1)) - 1)) * 7)) + 3)) (s0_0.length : Int)))) * 1117)))) + (wrap64 ((wrap64 ((wrap64 (s0_1 + 1)) - 1)) * 29)))) + (wrap64 ((wrap64 (Int.tdiv (wrap64 ((wrap64 (s0_1 + 1)) - 1)) (s0_0.length : Int))) * 53)))) (wrap64 (Int.tdiv (wrap64 ((wrap64 ((wrap64 ((wrap64 ((wrap64 (rd s0_0 (ji14))) * 131)) + (wrap64 ((wrap64 (rd s0_0 (Int.tmod (wrap64 ((wrap64 ((wrap64 ((wrap64 (s0_1 + 1)) - 1)) * 7)) + 3)) (s0_0.length : Int)))) * 1117)))) + (wrap64 ((wrap64 ((wrap64 (s0_1 + 1)) - 1)) * 29)))) + (wrap64 ((wrap64 (Int.tdiv (wrap64 ((wrap64 (s0_1 + 1)) - 1)) (s0_0.length : Int))) * 53)))) 64))) a1,(wrap64 (s0_1 + 1))))) else (none)) else (none)) else (none)) else (none)) = some (r1,r2):=by first|(rw [hji14] at H;exact H)|(simp only [hji14] at H ⊢;exact H)
      by_cases c15 : 0 ≤ (ji14)
      ·rw [if_pos c15] at H
       have c15b0 : decide (0 ≤ (ji14)) = true:=decide_eq_true c15
       clear c15
       by_cases c16 : (ji14) < (s0_0.length : Int)
       ·rw [if_pos c16] at H
        have c16b0 : decide ((ji14) < (s0_0.length : Int)) = true:=decide_eq_true c16
        clear c16
        obtain ⟨ji17,hji17⟩ : ∃ j_ : Int,(Int.tmod (wrap64 ((wrap64 ((wrap64 ((wrap64 (s0_1 + 1)) - 1)) * 7)) + 3)) (s0_0.length : Int)) = j_:=⟨_,rfl⟩
        replace H : (if 0 ≤ (ji17) then (if (ji17) < (s0_0.length : Int) then (if a1 = 0 then (none) else (some (Int.tmod (Go.bits .xor .i64 (wrap64 ((wrap64 ((wrap64 ((wrap64 ((wrap64 (rd s0_0 (ji14))) * 131)) + (wrap64 ((wrap64 (rd s0_0 (ji17))) * 1117)))) + (wrap64 ((wrap64 ((wrap64 (s0_1 + 1)) - 1)) * 29)))) + (wrap64 ((wrap64 (Int.tdiv (wrap64 ((wrap64 (s0_1 + 1)) - 1)) (s0_0.length : Int))) * 53)))) (wrap64 (Int.tdiv (wrap64 ((wrap64 ((wrap64 ((wrap64 ((wrap64 (rd s0_0 (ji14))) * 131)) + (wrap64 ((wrap64 (rd s0_0 (ji17))) * 1117)))) + (wrap64 ((wrap64 ((wrap64 (s0_1 + 1)) - 1)) * 29)))) + (wrap64 ((wrap64 (Int.tdiv (wrap64 ((wrap64 (s0_1 + 1)) - 1)) (s0_0.length : Int))) * 53)))) 64))) a1,(wrap64 (s0_1 + 1))))) else (none)) else (none)) = some (r1,r2):=by first|(rw [hji17] at H;exact H)|(simp only [hji17] at H ⊢;exact H)
        by_cases c18 : 0 ≤ (ji17)
        ·rw [if_pos c18] at H
         have c18b0 : decide (0 ≤ (ji17)) = true:=decide_eq_true c18
         clear c18
         by_cases c19 : (ji17) < (s0_0.length : Int)
         ·rw [if_pos c19] at H
          have c19b0 : decide ((ji17) < (s0_0.length : Int)) = true:=decide_eq_true c19
          clear c19
          by_cases c20 : a1 = 0
          ·rw [if_pos c20] at H
           exact absurd H (by simp)
          ·rw [if_neg c20] at H
           have c20b0 : (a1 == 0) = false:=beq_eq_false_iff_ne.mpr c20
           have c20b1 : (a1 != 0) = true:=bne_iff_ne.mpr c20
           simp only [Option.some.injEq,Prod.mk.injEq] at H
           obtain ⟨rfl,rfl⟩:=H
           obtain ⟨ASz21_0,cSz21_0,HGz21,hgz21,HSz21_0⟩:=HI0.out
           have hcz21_0:=cellS84_0 HGz21
           have hcz21_1:=cellS84_1 HGz21
           have hfz21_1:=bf_ HGz21 1
           clear HGz21 hgz21
           have p189 : 0 ≤ ((ji14) : Int):=od_ qa_
           have q189 : (ji14) < (s0_0.length : Int):=od_ qa_
           obtain ⟨ad189,e189,hx189_0⟩:=Kd.at_int HSz21_0 (ji14) p189 q189
           cases e189
           replace hx189_0:=pw_cell_below HB.out hx189_0
           replace p189:=eq_true p189
           replace q189:=eq_true q189
           have p190 : 0 ≤ ((ji17) : Int):=od_ qa_
           have q190 : (ji17) < (s0_0.length : Int):=od_ qa_
           obtain ⟨ad190,e190,hx190_0⟩:=Kd.at_int HSz21_0 (ji17) p190 q190
           obtain rfl : ad189 = ad190:=(by injection e190)
           replace hx190_0:=pw_cell_below HB.out hx190_0
           replace p190:=eq_true p190
           replace q190:=eq_true q190
           go_wp2
           repeat (go_quiet (fail);try go_wp2)
           go_ret
           exact ⟨by first|rfl|(simp [errW_none,errW_some] <;> rfl)|(simp only [← hji14,← hji17];first|rfl|(simp [errW_none,errW_some] <;> rfl))|(simp [*,errW_none,errW_some] <;> rfl),by repeat (first|(with_reducible first|exact HI0.out|apply IsS84.alloc|apply IsS84.drewN|apply IsS84.drew|apply IsS84.set_1)|exact HI0.out),by repeat (first|(with_reducible first|exact HB.out|apply ba_|apply bn_|apply bd_|refine bs_ ?_ (IsS84.ge HI0.out))|exact HB.out),by repeat (first|(with_reducible first|exact HK.out|apply KeepBut.set_|apply keep_drewN|apply keep_drew|apply keep_alloc)|exact HK.out)⟩
         ·rw [if_neg c19] at H
          exact absurd H (by simp)
        ·rw [if_neg c18] at H
         exact absurd H (by simp)
       ·rw [if_neg c16] at H
        exact absurd H (by simp)
      ·rw [if_neg c15] at H
       exact absurd H (by simp)

/-! ### spec_l21Rd_num: function 78 -/
def spec_l21Rd_num.f (k : Nat) (s0_0 : List Int) (s0_1 : Int) (l1 : List Int) : Option (Int × Int):=(spec_l21Rd_pick.f k s0_0 s0_1 (l1.length : Int)).bind fun bt191 => (if 0 ≤ bt191.1 then (if bt191.1 < (l1.length : Int) then (some (rd l1 bt191.1,bt191.2)) else (none)) else (none))
theorem spec_l21Rd_num.mono : ∀ a0 a1 a2 k,LeO (spec_l21Rd_num.f k a0 a1 a2) (spec_l21Rd_num.f (k + 1) a0 a1 a2):=by
 intro a0 a1 a2 k
 unfold spec_l21Rd_num.f
 repeat' first
   | (with_reducible exact spec_l21Rd_pick.mono _ _ _ _)
   | (with_reducible exact LeO.refl _)
   | (with_reducible exact LeO.none _)
   | (with_reducible refine LeO.ite ?_ ?_)
   | (with_reducible refine LeO.bind ?_ (fun _ => ?_))
   | exact spec_l21Rd_pick.mono _ _ _ _
   | exact LeO.none _
   | refine LeO.ite ?_ ?_
   | refine LeO.bind ?_ (fun _ => ?_)
set_option maxHeartbeats 8000000 in
set_option maxRecDepth 100000 in
theorem spec_l21Rd_num.calls (k : Nat) (g : Nat) (s0_0 : List Int) (s0_1 : Int) (A1 : Option Addr) (c1 : Nat) (l1 : List Int) (r1 : Int) (r2 : Int) (w0 w : World) (hI : IsS84 w0 w g s0_0 s0_1) (hB : Below w0.heap.size w0 w) (hr1 : Kd.C (Kd.int .i64) w A1 l1.length l1) (hc1 : l1.length ≤ c1) (hf1 : ∀ ad,A1 = some ad → 0 < l1.length → ad.block ≠ g) (h : spec_l21Rd_num.f k s0_0 s0_1 l1 = some (r1,r2)) :
  Calls Try.prog 78 #[.pointer (some ⟨g,0,none⟩),.slice A1 l1.length c1] w fun e w' => e = .returned (.int .i64 r1) ∧ IsS84 w0 w' g s0_0 r2 ∧ Below w0.heap.size w0 w' ∧ KeepBut w w' g none:=by
 have HR1:=mk_ hr1
 have HC1:=mk_ hc1
 clear hr1 hc1
 have HI0:=mk_ hI
 have HK:=mk_ (KeepBut.refl w g none)
 have HL:=mk_ hB.size
 clear hI
 have HW0:=mk_ hB.size
 have HB:=mk_ hB
 clear hB
 have H : ((spec_l21Rd_pick.f k s0_0 s0_1 (l1.length : Int)).bind fun bt191 => (if 0 ≤ bt191.1 then (if bt191.1 < (l1.length : Int) then (some (rd l1 bt191.1,bt191.2)) else (none)) else (none))) = some (r1,r2):=h
 clear h
 replace H:=Option.bind_eq_some_iff.mp H
 obtain ⟨⟨t191,t192⟩,A30,H⟩:=H
 replace H : (if 0 ≤ t191 then (if t191 < (l1.length : Int) then (some (rd l1 t191,t192)) else (none)) else (none)) = some (r1,r2):=H
 have A3:=mk_ A30
 clear A30
 by_cases c4 : 0 ≤ t191
 ·rw [if_pos c4] at H
  have c4b0 : decide (0 ≤ t191) = true:=decide_eq_true c4
  clear c4
  by_cases c5 : t191 < (l1.length : Int)
  ·rw [if_pos c5] at H
   have c5b0 : decide (t191 < (l1.length : Int)) = true:=decide_eq_true c5
   clear c5
   simp only [Option.some.injEq,Prod.mk.injEq] at H
   obtain ⟨rfl,rfl⟩:=H
   go_enter Try.func78,Try.ntmps78
   go_wp2_with (first|((with_reducible refine gate_callee (f:=53) rfl ?_);refine goesL_ (some 9) rfl rfl Try.func53 (by kernel_rfl) rfl #[.pointer (some ⟨g,0,none⟩),.int .i64 (l1.length : Int)] rfl qm_ ?_;(with_reducible refine (spec_l21Rd_pick.calls k g s0_0 s0_1 (l1.length : Int) t191 t192 w0 _ ?side1 ?side2 A3.out).mono ?_);(case side1 => repeat (first|(with_reducible first|exact HI0.out|apply IsS84.alloc|apply IsS84.drewN|apply IsS84.drew|apply IsS84.set_1)|exact HI0.out));(case side2 => repeat (first|(with_reducible first|exact HB.out|apply ba_|apply bn_|apply bd_|refine bs_ ?_ (IsS84.ge HI0.out))|exact HB.out));rintro e w6 ⟨rfl,hi,hb,hk⟩;refine ⟨_,rfl,?_⟩;have n0_:=mk_ (KeepBut.trans (by repeat (first|(with_reducible first|exact HK.out|apply KeepBut.set_|apply keep_drewN|apply keep_drew|apply keep_alloc)|exact HK.out)) hk (.inl rfl));have n1_:=mk_ (hb);have n2_:=mk_ (hi);clear HK;clear HB;clear HI0;have HK:=n0_;have HB:=n1_;have HI0:=n2_;clear n0_ n1_ n2_;(try clear hb);(try clear hb2);(try clear hk);(try clear hi);have p193 : 0 ≤ (t191 : Int):=od_ qa_;have q193 : t191 < (l1.length : Int):=od_ qa_;obtain ⟨ad193,e193,hx193_0⟩:=Kd.at_int HR1.out t191 p193 q193;cases e193;replace hx193_0:=keep_cell HK.out hx193_0 (by first|(rw [add_block];exact hf1 _ rfl (by omega))|exact hf1 _ rfl (by omega)|exact hf1 ad193 rfl (by omega));replace p193:=eq_true p193;replace q193:=eq_true q193))
   go_ret
   exact ⟨by first|rfl|(simp [errW_none,errW_some] <;> rfl)|(simp [*,errW_none,errW_some] <;> rfl),by repeat (first|(with_reducible first|exact HI0.out|apply IsS84.alloc|apply IsS84.drewN|apply IsS84.drew|apply IsS84.set_1)|exact HI0.out),by repeat (first|(with_reducible first|exact HB.out|apply ba_|apply bn_|apply bd_|refine bs_ ?_ (IsS84.ge HI0.out))|exact HB.out),by repeat (first|(with_reducible first|exact HK.out|apply KeepBut.set_|apply keep_drewN|apply keep_drew|apply keep_alloc)|exact HK.out)⟩
  ·rw [if_neg c5] at H
   exact absurd H (by simp)
 ·rw [if_neg c4] at H
  exact absurd H (by simp)

/-! ### spec_l7Cables: function 77 -/
mutual
def spec_l7Cables.l0 : Nat → Int → List (S51) → Int → List Int → Int → Option (Int × (List (S51)) × Int)
 | 0,_,_,_,_,_ => none
 | k + 1,x4,x5,x6,x1000,x1001 => if x6 > 0 then (spec_l7Cables.j1 k x4 x5 x6 (decide (x4 > 1)) x1000 x1001) else (spec_l7Cables.j1 k x4 x5 x6 false x1000 x1001)
def spec_l7Cables.j1 : Nat → Int → List (S51) → Int → Bool → List Int → Int → Option (Int × (List (S51)) × Int)
 | 0,_,_,_,_,_,_ => none
 | k + 1,x4,x5,x6,x20,x1000,x1001 => if x20 = true then ((spec_l21Rd_pick.f k x1000 x1001 x4).bind fun bt207 => ((spec_l21Rd_pick.f k x1000 bt207.2 (wrap64 (x4 - 1))).bind fun bt209 => (if x4 = 0 then (none) else ((spec_l21Rd_num.f k x1000 bt209.2 (([1,1,2,5,10,99] : List Int))).bind fun bt214 => (if x5.length < 5864062014805 then (spec_l7Cables.l0 k x4 (x5 ++ [(⟨bt207.1,Int.tmod (wrap64 ((wrap64 (bt207.1 + 1)) + bt209.1)) x4,bt214.1⟩ : S51)]) (wrap64 (x6 - 1)) x1000 bt214.2) else (none)))))) else (some (x4,x5,x1001))
end
def spec_l7Cables.f (k : Nat) (s0_0 : List Int) (s0_1 : Int) : Option (Int × (List (S51)) × Int):=(spec_l21Rd_num.f k s0_0 s0_1 (([4,6,3,8,2,1,5] : List Int))).bind fun bt197 => ((spec_l21Rd_num.f k s0_0 bt197.2 (([5,8,12,3,0,20] : List Int))).bind fun bt205 => (spec_l7Cables.l0 k bt197.1 (([] : List (S51))) bt205.1 s0_0 bt205.2))
theorem spec_l7Cables.mono_l : ∀ k,(∀ y0 y1 y2 y3 y4,LeO (spec_l7Cables.l0 k y0 y1 y2 y3 y4) (spec_l7Cables.l0 (k + 1) y0 y1 y2 y3 y4)) ∧ (∀ y0 y1 y2 y3 y4 y5,LeO (spec_l7Cables.j1 k y0 y1 y2 y3 y4 y5) (spec_l7Cables.j1 (k + 1) y0 y1 y2 y3 y4 y5))
 | 0 => ⟨fun _ _ _ _ _ r h => by simp [spec_l7Cables.l0] at h,fun _ _ _ _ _ _ r h => by simp [spec_l7Cables.j1] at h⟩
 | k + 1 => by
  obtain ⟨ih0,ih1⟩:=spec_l7Cables.mono_l k
  refine ⟨?_,?_⟩
  ·intro y0 y1 y2 y3 y4
   unfold spec_l7Cables.l0
   repeat' first
   | (with_reducible exact ih0 _ _ _ _ _)
   | (with_reducible exact ih1 _ _ _ _ _ _)
   | (with_reducible exact spec_l21Rd_num.mono _ _ _ _)
   | (with_reducible exact spec_l21Rd_pick.mono _ _ _ _)
   | (with_reducible exact LeO.refl _)
   | (with_reducible exact LeO.none _)
   | (with_reducible refine LeO.ite ?_ ?_)
   | (with_reducible refine LeO.bind ?_ (fun _ => ?_))
   | exact ih0 _ _ _ _ _
   | exact ih1 _ _ _ _ _ _
   | exact spec_l21Rd_num.mono _ _ _ _
   | exact spec_l21Rd_pick.mono _ _ _ _
   | exact LeO.none _
   | refine LeO.ite ?_ ?_
   | refine LeO.bind ?_ (fun _ => ?_)
  ·intro y0 y1 y2 y3 y4 y5
   unfold spec_l7Cables.j1
   repeat' first
   | (with_reducible exact ih0 _ _ _ _ _)
   | (with_reducible exact ih1 _ _ _ _ _ _)
   | (with_reducible exact spec_l21Rd_num.mono _ _ _ _)
   | (with_reducible exact spec_l21Rd_pick.mono _ _ _ _)
   | (with_reducible exact LeO.refl _)
   | (with_reducible exact LeO.none _)
   | (with_reducible refine LeO.ite ?_ ?_)
   | (with_reducible refine LeO.bind ?_ (fun _ => ?_))
   | exact ih0 _ _ _ _ _
   | exact ih1 _ _ _ _ _ _
   | exact spec_l21Rd_num.mono _ _ _ _
   | exact spec_l21Rd_pick.mono _ _ _ _
   | exact LeO.none _
   | refine LeO.ite ?_ ?_
   | refine LeO.bind ?_ (fun _ => ?_)
theorem spec_l7Cables.mono : ∀ a0 a1 k,LeO (spec_l7Cables.f k a0 a1) (spec_l7Cables.f (k + 1) a0 a1):=by
 intro a0 a1 k
 obtain ⟨ih0,ih1⟩:=spec_l7Cables.mono_l k
 unfold spec_l7Cables.f
 repeat' first
   | (with_reducible exact ih0 _ _ _ _ _)
   | (with_reducible exact ih1 _ _ _ _ _ _)
   | (with_reducible exact spec_l21Rd_num.mono _ _ _ _)
   | (with_reducible exact spec_l21Rd_pick.mono _ _ _ _)
   | (with_reducible exact LeO.refl _)
   | (with_reducible exact LeO.none _)
   | (with_reducible refine LeO.ite ?_ ?_)
   | (with_reducible refine LeO.bind ?_ (fun _ => ?_))
   | exact ih0 _ _ _ _ _
   | exact ih1 _ _ _ _ _ _
   | exact spec_l21Rd_num.mono _ _ _ _
   | exact spec_l21Rd_pick.mono _ _ _ _
   | exact LeO.none _
   | refine LeO.ite ?_ ?_
   | refine LeO.bind ?_ (fun _ => ?_)
def spec_l7Cables.T7 : Bool × List (List Nat × List Nat):=(true,[([],[]),([],[]),([],[]),([2],[2]),([],[]),([],[]),([5],[5]),([4,6],[4,6]),([3,7],[3,7]),([],[]),([8,9],[8,9]),([],[]),([],[]),([11,12,7],[11,12]),([1,10,13],[1,10,13]),([14],[14]),([0,15,13],[0,15]),([16,16,0,1,2,3,4,5,6,7,8,9,10,11,12,13,14,15,16],[0,16])])
def spec_l7Cables.B7 : List Nat:=[0,0,0,4,0,0,32,112,252,0,1020,0,0,6384,16382,32766,65535,131071]
theorem spec_l7Cables.tab7 : rtab .any (opsOf Try.f77 7) = spec_l7Cables.T7:=by kernel_rfl
theorem spec_l7Cables.bits7 : waitsOk spec_l7Cables.T7.2 spec_l7Cables.B7 = true:=by kernel_rfl
set_option maxHeartbeats 8000000 in
set_option maxRecDepth 100000 in
theorem spec_l7Cables.calls (k : Nat) (g : Nat) (s0_0 : List Int) (s0_1 : Int) (r1 : Int) (r2 : List (S51)) (r3 : Int) (w0 w : World) (hI : IsS84 w0 w g s0_0 s0_1) (hB : Below w0.heap.size w0 w) (h : spec_l7Cables.f k s0_0 s0_1 = some (r1,r2,r3)) :
  Calls Try.prog 77 #[.pointer (some ⟨g,0,none⟩)] w fun e w' => ∃ v1_ : Value,e = .returned (.tuple #[.int .i64 r1,v1_]) ∧ Kd.R k51 51 w' w.heap.size (fun _ => True) v1_ r2 ∧ IsS84 w0 w' g s0_0 r3 ∧ Below w0.heap.size w0 w' ∧ KeepBut w w' g none:=by
 have hu51:=Try.underlying51
 have HI0:=mk_ hI
 have HK:=mk_ (KeepBut.refl w g none)
 have HL:=mk_ hB.size
 clear hI
 have HW0:=mk_ hB.size
 have HB:=mk_ hB
 clear hB
 have H : ((spec_l21Rd_num.f k s0_0 s0_1 (([4,6,3,8,2,1,5] : List Int))).bind fun bt197 => ((spec_l21Rd_num.f k s0_0 bt197.2 (([5,8,12,3,0,20] : List Int))).bind fun bt205 => (spec_l7Cables.l0 k bt197.1 (([] : List (S51))) bt205.1 s0_0 bt205.2))) = some (r1,r2,r3):=h
 clear h
 obtain ⟨y194,hy194⟩ : ∃ y_ : List Int,y_ = (([4,6,3,8,2,1,5] : List Int)):=⟨_,rfl⟩
 replace H : ((spec_l21Rd_num.f k s0_0 s0_1 y194).bind fun bt197 => ((spec_l21Rd_num.f k s0_0 bt197.2 (([5,8,12,3,0,20] : List Int))).bind fun bt205 => (spec_l7Cables.l0 k bt197.1 (([] : List (S51))) bt205.1 s0_0 bt205.2))) = some (r1,r2,r3):=by first|(rw [hy194];with_reducible exact H)|(have H2_:=(Option.bind_some _ _).symm.trans H;rw [hy194];with_reducible exact H2_)|(have H2_:=(Option.bind_some _ _).symm.trans H;with_reducible exact H2_)|with_reducible exact H|(rw [hy194];exact H)|exact H
 have Ny194:=mk_ hy194
 clear hy194
 replace H:=Option.bind_eq_some_iff.mp H
 obtain ⟨⟨t197,t198⟩,A20,H⟩:=H
 replace H : ((spec_l21Rd_num.f k s0_0 t198 (([5,8,12,3,0,20] : List Int))).bind fun bt205 => (spec_l7Cables.l0 k t197 (([] : List (S51))) bt205.1 s0_0 bt205.2)) = some (r1,r2,r3):=H
 have A2:=mk_ A20
 clear A20
 obtain ⟨y199,hy199⟩ : ∃ y_ : List (S51),y_ = (([] : List (S51))):=⟨_,rfl⟩
 replace H : ((spec_l21Rd_num.f k s0_0 t198 (([5,8,12,3,0,20] : List Int))).bind fun bt205 => (spec_l7Cables.l0 k t197 y199 bt205.1 s0_0 bt205.2)) = some (r1,r2,r3):=by first|(rw [hy199];with_reducible exact H)|(have H2_:=(Option.bind_some _ _).symm.trans H;rw [hy199];with_reducible exact H2_)|(have H2_:=(Option.bind_some _ _).symm.trans H;with_reducible exact H2_)|with_reducible exact H|(rw [hy199];exact H)|exact H
 have Ny199:=mk_ hy199
 clear hy199
 obtain ⟨y202,hy202⟩ : ∃ y_ : List Int,y_ = (([5,8,12,3,0,20] : List Int)):=⟨_,rfl⟩
 replace H : ((spec_l21Rd_num.f k s0_0 t198 y202).bind fun bt205 => (spec_l7Cables.l0 k t197 y199 bt205.1 s0_0 bt205.2)) = some (r1,r2,r3):=by first|(rw [hy202];with_reducible exact H)|(have H2_:=(Option.bind_some _ _).symm.trans H;rw [hy202];with_reducible exact H2_)|(have H2_:=(Option.bind_some _ _).symm.trans H;with_reducible exact H2_)|with_reducible exact H|(rw [hy202];exact H)|exact H
 have Ny202:=mk_ hy202
 clear hy202
 replace H:=Option.bind_eq_some_iff.mp H
 obtain ⟨⟨t205,t206⟩,A30,H⟩:=H
 replace H : (spec_l7Cables.l0 k t197 y199 t205 s0_0 t206) = some (r1,r2,r3):=H
 have A3:=mk_ A30
 clear A30
 have H':=mk_ H
 clear H
 go_enter Try.func77,Try.ntmps77
 go_wp2_with (first|((with_reducible refine gate_dst (N:=9) rfl ?_);refine Kd.R_lit (Kd.int .i64) _ 3 ?hg (N:=9) ?hd (xs:=([4,6,3,8,2,1,5] : List Int)) (inner:=[.int .i64 4,.int .i64 6,.int .i64 3,.int .i64 8,.int .i64 2,.int .i64 1,.int .i64 5]) (ok:=fun _ => True) (okp:=fun _ => True) ?hr ?hp (fun _ hk => hk) trivial (Below.refl _ _) (Nat.le_refl _) (by simp) ?_;(case hd => rfl);(case hg => rfl);(case hr => first|(go_simp;done)|(go_simp;rfl));(case hp => exact (Reps.one (show Kd.M (Kd.int .i64) _ _ _ 4 [.int .i64 4] from rfl) (Reps.one (show Kd.M (Kd.int .i64) _ _ _ 6 [.int .i64 6] from rfl) (Reps.one (show Kd.M (Kd.int .i64) _ _ _ 3 [.int .i64 3] from rfl) (Reps.one (show Kd.M (Kd.int .i64) _ _ _ 8 [.int .i64 8] from rfl) (Reps.one (show Kd.M (Kd.int .i64) _ _ _ 2 [.int .i64 2] from rfl) (Reps.one (show Kd.M (Kd.int .i64) _ _ _ 1 [.int .i64 1] from rfl) (Reps.one (show Kd.M (Kd.int .i64) _ _ _ 5 [.int .i64 5] from rfl) (Reps.none _ _)))))))));intro v195 w4 ho5 hb hg_ hnew_;clear hg_ hnew_;(first|rw [← Ny194.out] at ho5|(simp only [Int.reduceToNat] at ho5;rw [← Ny194.out] at ho5));have n0_:=mk_ (Kd.R_lower ho5 (keep_size (w:=w) (g:=g) (row:=none) (by repeat (first|(with_reducible first|exact HK.out|apply KeepBut.set_|apply keep_drewN|apply keep_drew|apply keep_alloc)|exact HK.out))));have n1_:=mk_ (IsS84.below (by repeat (first|(with_reducible first|exact HI0.out|apply IsS84.alloc|apply IsS84.drewN|apply IsS84.drew|apply IsS84.set_1)|exact HI0.out)) hb);have n2_:=mk_ (KeepBut.trans (by repeat (first|(with_reducible first|exact HK.out|apply KeepBut.set_|apply keep_drewN|apply keep_drew|apply keep_alloc)|exact HK.out)) (KeepBut.of_below hb g none) (.inl rfl));have n3_:=mk_ (st_ (by repeat (first|(with_reducible first|exact HB.out|apply ba_|apply bn_|apply bd_|refine bs_ ?_ (IsS84.ge HI0.out))|exact HB.out)) hb);clear HI0;clear HK;clear HB;have HO196:=n0_;have HI0:=n1_;have HK:=n2_;have HB:=n3_;clear n0_ n1_ n2_ n3_;clear hb ho5;obtain ⟨Ao6,co6,eo6⟩:=Kd.R_slice HO196.out;subst eo6)|((with_reducible refine gate_callee (f:=78) rfl ?_);refine goesL_ (some 10) rfl rfl Try.func78 (by kernel_rfl) rfl #[.pointer (some ⟨g,0,none⟩),.slice Ao6 y194.length co6] rfl qm_ ?_;(with_reducible refine (spec_l21Rd_num.calls k g s0_0 s0_1 _ _ y194 t197 t198 w0 _ ?side1 ?side2 ?side3 ?side4 ?side5 A2.out).mono ?_);(case side1 => repeat (first|(with_reducible first|exact HI0.out|apply IsS84.alloc|apply IsS84.drewN|apply IsS84.drew|apply IsS84.set_1)|exact HI0.out));(case side2 => repeat (first|(with_reducible first|exact HB.out|apply ba_|apply bn_|apply bd_|refine bs_ ?_ (IsS84.ge HI0.out))|exact HB.out));(case side3 => repeat (first|exact (rr_ HO196.out).2.2|(with_reducible refine ca_ ?_ _)|(with_reducible refine cn_ ?_ _)|(with_reducible refine cd_ ?_)));(case side4 => exact (rr_ HO196.out).2.1);(case side5 => exact far_slice (IsS84.own_ne HI0.out HO196.out (by decide)));rintro e w7 ⟨rfl,hi,hb,hk⟩;refine ⟨_,rfl,?_⟩;have n0_:=mk_ (rm_ (Kd.R_keep (IsS84.apart (show IsS84 w0 _ g s0_0 s0_1 from by repeat (first|(with_reducible first|exact HI0.out|apply IsS84.alloc|apply IsS84.drewN|apply IsS84.drew|apply IsS84.set_1)|exact HI0.out)) (qr_ HO196) (by decide)) hk (fun _ h => h.2)) (fun _ h => h.1));have n1_:=mk_ (KeepBut.trans (by repeat (first|(with_reducible first|exact HK.out|apply KeepBut.set_|apply keep_drewN|apply keep_drew|apply keep_alloc)|exact HK.out)) hk (.inl rfl));have n2_:=mk_ (hb);have n3_:=mk_ (hi);clear HO196;clear HK;clear HB;clear HI0;have HO196:=n0_;have HK:=n1_;have HB:=n2_;have HI0:=n3_;clear n0_ n1_ n2_ n3_;(try clear hb);(try clear hb2);(try clear hk);(try clear hi))|((with_reducible refine gate_dst (N:=11) rfl ?_);refine Kd.R_lit k51 _ 51 ?hg (N:=11) ?hd (xs:=([] : List (S51))) (inner:=[]) (ok:=fun _ => True) (okp:=fun _ => True) ?hr ?hp (fun _ hk => hk) trivial (Below.refl _ _) (Nat.le_refl _) (by simp) ?_;(case hd => rfl);(case hg => rfl);(case hr => first|(go_simp;done)|(go_simp;rfl));(case hp => exact (Reps.none _ _));intro v200 w8 ho9 hb hg_ hnew_;clear hg_ hnew_;(first|rw [← Ny199.out] at ho9|(simp only [Int.reduceToNat] at ho9;rw [← Ny199.out] at ho9));have n0_:=mk_ (rb_ (qr_ HO196) hb);have n1_:=mk_ (Kd.R_lower ho9 (keep_size (w:=w) (g:=g) (row:=none) (by repeat (first|(with_reducible first|exact HK.out|apply KeepBut.set_|apply keep_drewN|apply keep_drew|apply keep_alloc)|exact HK.out))));have n2_:=mk_ (IsS84.below (by repeat (first|(with_reducible first|exact HI0.out|apply IsS84.alloc|apply IsS84.drewN|apply IsS84.drew|apply IsS84.set_1)|exact HI0.out)) hb);have n3_:=mk_ (KeepBut.trans (by repeat (first|(with_reducible first|exact HK.out|apply KeepBut.set_|apply keep_drewN|apply keep_drew|apply keep_alloc)|exact HK.out)) (KeepBut.of_below hb g none) (.inl rfl));have n4_:=mk_ (st_ (by repeat (first|(with_reducible first|exact HB.out|apply ba_|apply bn_|apply bd_|refine bs_ ?_ (IsS84.ge HI0.out))|exact HB.out)) hb);clear HO196;clear HI0;clear HK;clear HB;have HO196:=n0_;have HO201:=n1_;have HI0:=n2_;have HK:=n3_;have HB:=n4_;clear n0_ n1_ n2_ n3_ n4_;clear hb ho9)|((with_reducible refine gate_dst (N:=13) rfl ?_);refine Kd.R_lit (Kd.int .i64) _ 3 ?hg (N:=13) ?hd (xs:=([5,8,12,3,0,20] : List Int)) (inner:=[.int .i64 5,.int .i64 8,.int .i64 12,.int .i64 3,.int .i64 0,.int .i64 20]) (ok:=fun _ => True) (okp:=fun _ => True) ?hr ?hp (fun _ hk => hk) trivial (Below.refl _ _) (Nat.le_refl _) (by simp) ?_;(case hd => rfl);(case hg => rfl);(case hr => first|(go_simp;done)|(go_simp;rfl));(case hp => exact (Reps.one (show Kd.M (Kd.int .i64) _ _ _ 5 [.int .i64 5] from rfl) (Reps.one (show Kd.M (Kd.int .i64) _ _ _ 8 [.int .i64 8] from rfl) (Reps.one (show Kd.M (Kd.int .i64) _ _ _ 12 [.int .i64 12] from rfl) (Reps.one (show Kd.M (Kd.int .i64) _ _ _ 3 [.int .i64 3] from rfl) (Reps.one (show Kd.M (Kd.int .i64) _ _ _ 0 [.int .i64 0] from rfl) (Reps.one (show Kd.M (Kd.int .i64) _ _ _ 20 [.int .i64 20] from rfl) (Reps.none _ _))))))));intro v203 w10 ho11 hb hg_ hnew_;clear hg_ hnew_;(first|rw [← Ny202.out] at ho11|(simp only [Int.reduceToNat] at ho11;rw [← Ny202.out] at ho11));have n0_:=mk_ (re_ (qr_ HO196) (Kd.R_base ho11) hb);have n1_:=mk_ (rb_ (qr_ HO201) hb);have n2_:=mk_ (Kd.R_lower (Kd.R_new' ho11 (Kd.R_lt (qr_ HO196))) (keep_size (w:=w) (g:=g) (row:=none) (by repeat (first|(with_reducible first|exact HK.out|apply KeepBut.set_|apply keep_drewN|apply keep_drew|apply keep_alloc)|exact HK.out))));have n3_:=mk_ (IsS84.below (by repeat (first|(with_reducible first|exact HI0.out|apply IsS84.alloc|apply IsS84.drewN|apply IsS84.drew|apply IsS84.set_1)|exact HI0.out)) hb);have n4_:=mk_ (KeepBut.trans (by repeat (first|(with_reducible first|exact HK.out|apply KeepBut.set_|apply keep_drewN|apply keep_drew|apply keep_alloc)|exact HK.out)) (KeepBut.of_below hb g none) (.inl rfl));have n5_:=mk_ (st_ (by repeat (first|(with_reducible first|exact HB.out|apply ba_|apply bn_|apply bd_|refine bs_ ?_ (IsS84.ge HI0.out))|exact HB.out)) hb);clear HO196;clear HO201;clear HI0;clear HK;clear HB;have HO196:=n0_;have HO201:=n1_;have HO204:=n2_;have HI0:=n3_;have HK:=n4_;have HB:=n5_;clear n0_ n1_ n2_ n3_ n4_ n5_;clear hb ho11;obtain ⟨Ao12,co12,eo12⟩:=Kd.R_slice HO204.out;subst eo12)|((with_reducible refine gate_callee (f:=78) rfl ?_);refine goesL_ (some 14) rfl rfl Try.func78 (by kernel_rfl) rfl #[.pointer (some ⟨g,0,none⟩),.slice Ao12 y202.length co12] rfl qm_ ?_;(with_reducible refine (spec_l21Rd_num.calls k g s0_0 t198 _ _ y202 t205 t206 w0 _ ?side1 ?side2 ?side3 ?side4 ?side5 A3.out).mono ?_);(case side1 => repeat (first|(with_reducible first|exact HI0.out|apply IsS84.alloc|apply IsS84.drewN|apply IsS84.drew|apply IsS84.set_1)|exact HI0.out));(case side2 => repeat (first|(with_reducible first|exact HB.out|apply ba_|apply bn_|apply bd_|refine bs_ ?_ (IsS84.ge HI0.out))|exact HB.out));(case side3 => repeat (first|exact (rr_ HO204.out).2.2|(with_reducible refine ca_ ?_ _)|(with_reducible refine cn_ ?_ _)|(with_reducible refine cd_ ?_)));(case side4 => exact (rr_ HO204.out).2.1);(case side5 => exact far_slice (IsS84.own_ne HI0.out HO204.out (by decide)));rintro e w13 ⟨rfl,hi,hb,hk⟩;refine ⟨_,rfl,?_⟩;have n0_:=mk_ (rm_ (Kd.R_keep (IsS84.apart (show IsS84 w0 _ g s0_0 t198 from by repeat (first|(with_reducible first|exact HI0.out|apply IsS84.alloc|apply IsS84.drewN|apply IsS84.drew|apply IsS84.set_1)|exact HI0.out)) (qr_ HO196) (by decide)) hk (fun _ h => h.2)) (fun _ h => h.1));have n1_:=mk_ (rm_ (Kd.R_keep (IsS84.apart (show IsS84 w0 _ g s0_0 t198 from by repeat (first|(with_reducible first|exact HI0.out|apply IsS84.alloc|apply IsS84.drewN|apply IsS84.drew|apply IsS84.set_1)|exact HI0.out)) (qr_ HO201) (by decide)) hk (fun _ h => h.2)) (fun _ h => h.1));have n2_:=mk_ (rm_ (Kd.R_keep (IsS84.apart (show IsS84 w0 _ g s0_0 t198 from by repeat (first|(with_reducible first|exact HI0.out|apply IsS84.alloc|apply IsS84.drewN|apply IsS84.drew|apply IsS84.set_1)|exact HI0.out)) (qr_ HO204) (by decide)) hk (fun _ h => h.2)) (fun _ h => h.1));have n3_:=mk_ (KeepBut.trans (by repeat (first|(with_reducible first|exact HK.out|apply KeepBut.set_|apply keep_drewN|apply keep_drew|apply keep_alloc)|exact HK.out)) hk (.inl rfl));have n4_:=mk_ (hb);have n5_:=mk_ (hi);clear HO196;clear HO201;clear HO204;clear HK;clear HB;clear HI0;have HO196:=n0_;have HO201:=n1_;have HO204:=n2_;have HK:=n3_;have HB:=n4_;have HI0:=n5_;clear n0_ n1_ n2_ n3_ n4_ n5_;(try clear hb);(try clear hb2);(try clear hk);(try clear hi)))
 go_loopg [5,6] k (fun kq v5 v6 w' => ∃ (x5_1 : List (S51)) (x6_1 : Int) (x1001_1 : Int),v6 = .int .i64 x6_1 ∧ Aside0 (spec_l7Cables.l0 kq t197 x5_1 x6_1 s0_0 x1001_1 = some (r1,r2,r3)) ∧ Aside0 (kq ≤ k) ∧ Aside0 (Kd.R k51 51 w' w.heap.size (fun _ => True) v5 x5_1) ∧ Aside0 (IsS84 w0 w' g s0_0 x1001_1) ∧ Aside0 (KeepBut w w' g none) ∧ Aside0 (Below w0.heap.size w0 w'))
 case atStart => exact ⟨(y199),(t205),(t206),(by first|rfl|(simp;done)|(simp [*];done)),H',⟨Nat.le_refl _⟩,⟨by (with_reducible repeat (first|apply ra_|apply rn_|apply rd_));exact HO201.out⟩,⟨by repeat (first|(with_reducible first|exact HI0.out|apply IsS84.alloc|apply IsS84.drewN|apply IsS84.drew|apply IsS84.set_1)|exact HI0.out)⟩,⟨by repeat (first|(with_reducible first|exact HK.out|apply KeepBut.set_|apply keep_drewN|apply keep_drew|apply keep_alloc)|exact HK.out)⟩,⟨by repeat (first|(with_reducible first|exact HB.out|apply ba_|apply bn_|apply bd_|refine bs_ ?_ (IsS84.ge HI0.out))|exact HB.out)⟩⟩
 case round =>
  clear H'
  try clear p2
  try clear c7
  obtain ⟨x5_1,x6_1,x1001_1,rfl,HA,HK1,HO_5,HI0,HK,HB⟩:=hrel
  cases gk with
  | zero => exact absurd HA.out (by simp [spec_l7Cables.l0])
  | succ k1 =>
   have H:=HA.out
   clear HA
   simp only [spec_l7Cables.l0] at H
   have HC14:=mk_ H
   clear H
   go_upto_region 4 with (fail)
   go_cut [20] (fun v20 wc => ∃ (kq : Nat) (x20_13 : Bool),v20 = .bool x20_13 ∧ Aside0 (spec_l7Cables.j1 kq t197 x5_1 x6_1 x20_13 s0_0 x1001_1 = some (r1,r2,r3)) ∧ Aside0 (kq ≤ k1) ∧ Aside0 (Kd.R k51 51 wc w.heap.size (fun _ => True) u5 x5_1) ∧ Aside0 (IsS84 w0 wc g s0_0 x1001_1) ∧ Aside0 (KeepBut w wc g none) ∧ Aside0 (Below w0.heap.size w0 wc))
   case first =>
    have H:=HC14.out
    clear HC14
    by_cases c15 : x6_1 > 0
    ·rw [if_pos c15] at H
     have c15b0 : decide (0 < x6_1) = true:=decide_eq_true c15
     clear c15
     (first|rw [c15b0]|(simp only [i64_w,i32_w];rw [c15b0])|skip)
     have H':=mk_ H
     clear H
     go_wp2
     go_meet
     case rel => exact ⟨_,(decide (t197 > 1)),(by first|rfl|(simp;done)|(simp [*];done)),H',⟨by have:=HK1.out;first|omega|exact Nat.le_refl _⟩,⟨by (with_reducible repeat (first|apply ra_|apply rn_|apply rd_));exact HO_5.out⟩,⟨by repeat (first|(with_reducible first|exact HI0.out|apply IsS84.alloc|apply IsS84.drewN|apply IsS84.drew|apply IsS84.set_1)|exact HI0.out)⟩,⟨by repeat (first|(with_reducible first|exact HK.out|apply KeepBut.set_|apply keep_drewN|apply keep_drew|apply keep_alloc)|exact HK.out)⟩,⟨by repeat (first|(with_reducible first|exact HB.out|apply ba_|apply bn_|apply bd_|refine bs_ ?_ (IsS84.ge HI0.out))|exact HB.out)⟩⟩
    ·rw [if_neg c15] at H
     have c15b0 : decide (0 < x6_1) = false:=decide_eq_false c15
     clear c15
     (first|rw [c15b0]|(simp only [i64_w,i32_w];rw [c15b0])|skip)
     have H':=mk_ H
     clear H
     go_wp2
     go_meet
     case rel => exact ⟨_,(false),(by first|rfl|(simp;done)|(simp [*];done)),H',⟨by have:=HK1.out;first|omega|exact Nat.le_refl _⟩,⟨by (with_reducible repeat (first|apply ra_|apply rn_|apply rd_));exact HO_5.out⟩,⟨by repeat (first|(with_reducible first|exact HI0.out|apply IsS84.alloc|apply IsS84.drewN|apply IsS84.drew|apply IsS84.set_1)|exact HI0.out)⟩,⟨by repeat (first|(with_reducible first|exact HK.out|apply KeepBut.set_|apply keep_drewN|apply keep_drew|apply keep_alloc)|exact HK.out)⟩,⟨by repeat (first|(with_reducible first|exact HB.out|apply ba_|apply bn_|apply bd_|refine bs_ ?_ (IsS84.ge HI0.out))|exact HB.out)⟩⟩
   case rest =>
    clear HC14
    try clear c1
    try clear p2
    try clear c7
    try clear c15
    try clear c15b0
    try clear p2
    obtain ⟨kq,x20_13,rfl,HA,HJ13,HO_5,HI0,HK,HB⟩:=hcut
    cases kq with
    | zero => exact absurd HA.out (by simp [spec_l7Cables.j1])
    | succ kj13 =>
     have H:=HA.out
     clear HA
     simp only [spec_l7Cables.j1] at H
     by_cases c16 : x20_13 = true
     ·subst c16
      have H1 : ((spec_l21Rd_pick.f kj13 s0_0 x1001_1 t197).bind fun bt207 => ((spec_l21Rd_pick.f kj13 s0_0 bt207.2 (wrap64 (t197 - 1))).bind fun bt209 => (if t197 = 0 then (none) else ((spec_l21Rd_num.f kj13 s0_0 bt209.2 (([1,1,2,5,10,99] : List Int))).bind fun bt214 => (if x5_1.length < 5864062014805 then (spec_l7Cables.l0 kj13 t197 (x5_1 ++ [(⟨bt207.1,Int.tmod (wrap64 ((wrap64 (bt207.1 + 1)) + bt209.1)) t197,bt214.1⟩ : S51)]) (wrap64 (x6_1 - 1)) s0_0 bt214.2) else (none)))))) = some (r1,r2,r3):=by rw [if_pos rfl] at H;exact H
      clear H
      have H:=H1
      clear H1
      replace H:=Option.bind_eq_some_iff.mp H
      obtain ⟨⟨t207,t208⟩,A170,H⟩:=H
      replace H : ((spec_l21Rd_pick.f kj13 s0_0 t208 (wrap64 (t197 - 1))).bind fun bt209 => (if t197 = 0 then (none) else ((spec_l21Rd_num.f kj13 s0_0 bt209.2 (([1,1,2,5,10,99] : List Int))).bind fun bt214 => (if x5_1.length < 5864062014805 then (spec_l7Cables.l0 kj13 t197 (x5_1 ++ [(⟨t207,Int.tmod (wrap64 ((wrap64 (t207 + 1)) + bt209.1)) t197,bt214.1⟩ : S51)]) (wrap64 (x6_1 - 1)) s0_0 bt214.2) else (none))))) = some (r1,r2,r3):=H
      have A17:=mk_ A170
      clear A170
      replace H:=Option.bind_eq_some_iff.mp H
      obtain ⟨⟨t209,t210⟩,A180,H⟩:=H
      replace H : (if t197 = 0 then (none) else ((spec_l21Rd_num.f kj13 s0_0 t210 (([1,1,2,5,10,99] : List Int))).bind fun bt214 => (if x5_1.length < 5864062014805 then (spec_l7Cables.l0 kj13 t197 (x5_1 ++ [(⟨t207,Int.tmod (wrap64 ((wrap64 (t207 + 1)) + t209)) t197,bt214.1⟩ : S51)]) (wrap64 (x6_1 - 1)) s0_0 bt214.2) else (none)))) = some (r1,r2,r3):=H
      have A18:=mk_ A180
      clear A180
      by_cases c19 : t197 = 0
      ·rw [if_pos c19] at H
       exact absurd H (by simp)
      ·rw [if_neg c19] at H
       have c19b0 : (t197 == 0) = false:=beq_eq_false_iff_ne.mpr c19
       have c19b1 : (t197 != 0) = true:=bne_iff_ne.mpr c19
       obtain ⟨y211,hy211⟩ : ∃ y_ : List Int,y_ = (([1,1,2,5,10,99] : List Int)):=⟨_,rfl⟩
       replace H : ((spec_l21Rd_num.f kj13 s0_0 t210 y211).bind fun bt214 => (if x5_1.length < 5864062014805 then (spec_l7Cables.l0 kj13 t197 (x5_1 ++ [(⟨t207,Int.tmod (wrap64 ((wrap64 (t207 + 1)) + t209)) t197,bt214.1⟩ : S51)]) (wrap64 (x6_1 - 1)) s0_0 bt214.2) else (none))) = some (r1,r2,r3):=by first|(rw [hy211];with_reducible exact H)|(have H2_:=(Option.bind_some _ _).symm.trans H;rw [hy211];with_reducible exact H2_)|(have H2_:=(Option.bind_some _ _).symm.trans H;with_reducible exact H2_)|with_reducible exact H|(rw [hy211];exact H)|exact H
       have Ny211:=mk_ hy211
       clear hy211
       replace H:=Option.bind_eq_some_iff.mp H
       obtain ⟨⟨t214,t215⟩,A200,H⟩:=H
       replace H : (if x5_1.length < 5864062014805 then (spec_l7Cables.l0 kj13 t197 (x5_1 ++ [(⟨t207,Int.tmod (wrap64 ((wrap64 (t207 + 1)) + t209)) t197,t214⟩ : S51)]) (wrap64 (x6_1 - 1)) s0_0 t215) else (none)) = some (r1,r2,r3):=H
       have A20:=mk_ A200
       clear A200
       by_cases c21 : x5_1.length < 5864062014805
       ·rw [if_pos c21] at H
        have LMc21:=mk_ c21
        clear c21
        obtain ⟨y216,hy216⟩ : ∃ y_ : List (S51),y_ = (x5_1 ++ [(⟨t207,Int.tmod (wrap64 ((wrap64 (t207 + 1)) + t209)) t197,t214⟩ : S51)]):=⟨_,rfl⟩
        replace H : (spec_l7Cables.l0 kj13 t197 y216 (wrap64 (x6_1 - 1)) s0_0 t215) = some (r1,r2,r3):=by first|(rw [hy216];with_reducible exact H)|(have H2_:=(Option.bind_some _ _).symm.trans H;rw [hy216];with_reducible exact H2_)|(have H2_:=(Option.bind_some _ _).symm.trans H;with_reducible exact H2_)|with_reducible exact H|(rw [hy216];exact H)|exact H
        have Ny216:=mk_ hy216
        clear hy216
        have H':=mk_ H
        clear H
        try go_wp2_with (first|((with_reducible refine gate_callee (f:=53) rfl ?_);refine goesL_ (some 25) rfl rfl Try.func53 (by kernel_rfl) rfl #[.pointer (some ⟨g,0,none⟩),.int .i64 t197] rfl qm_ ?_;(with_reducible refine (spec_l21Rd_pick.calls kj13 g s0_0 x1001_1 t197 t207 t208 w0 _ ?side1 ?side2 A17.out).mono ?_);(case side1 => repeat (first|(with_reducible first|exact HI0.out|apply IsS84.alloc|apply IsS84.drewN|apply IsS84.drew|apply IsS84.set_1)|exact HI0.out));(case side2 => repeat (first|(with_reducible first|exact HB.out|apply ba_|apply bn_|apply bd_|refine bs_ ?_ (IsS84.ge HI0.out))|exact HB.out));rintro e w22 ⟨rfl,hi,hb,hk⟩;refine ⟨_,rfl,?_⟩;have n0_:=mk_ (rm_ (Kd.R_keep (IsS84.apart (show IsS84 w0 _ g s0_0 x1001_1 from by repeat (first|(with_reducible first|exact HI0.out|apply IsS84.alloc|apply IsS84.drewN|apply IsS84.drew|apply IsS84.set_1)|exact HI0.out)) (qr_ HO_5) (by decide)) hk (fun _ h => h.2)) (fun _ h => h.1));have n1_:=mk_ (KeepBut.trans (by repeat (first|(with_reducible first|exact HK.out|apply KeepBut.set_|apply keep_drewN|apply keep_drew|apply keep_alloc)|exact HK.out)) hk (.inl rfl));have n2_:=mk_ (hb);have n3_:=mk_ (hi);clear HO_5;clear HK;clear HB;clear HI0;have HO_5:=n0_;have HK:=n1_;have HB:=n2_;have HI0:=n3_;clear n0_ n1_ n2_ n3_;(try clear hb);(try clear hb2);(try clear hk);(try clear hi);obtain ⟨Ao23,co23,eo23⟩:=Kd.R_slice HO_5.out;subst eo23))
        have n0_:=mk_ (rd_ HO_5.out)
        have n1_:=mk_ (IsS84.drew HI0.out)
        have n2_:=mk_ (keep_drew HK.out)
        have n3_:=mk_ (bd_ HB.out)
        clear HO_5
        clear HI0
        clear HK
        clear HB
        have HO_5:=n0_
        have HI0:=n1_
        have HK:=n2_
        have HB:=n3_
        clear n0_ n1_ n2_ n3_
        refine start_ (n:=18) (S:=fun w' => True) (ds:=[]) #[false,false,false,false,false,false,false,false,false,false,false,false,false,false,false,false,false,false] (by kernel_rfl) rfl rfl trivial (fun hHeld => ?_);refine with_tabW spec_l7Cables.tab7 spec_l7Cables.bits7 (fun HT_ HW_ => ?_)
        generalize w22.drew = w24 at HO_5 HI0 HK HB hHeld ⊢
        refine pure_ (i:=0) (N:=some 26) (v:=?_) (a':=?_) #[true,false,false,false,false,false,false,false,false,false,false,false,false,false,false,false,false,false] rfl rfl (any_of HT_.out (by kernel_rfl)) (fun _ _ _ h => h) (Or.inl ⟨by rfl,?_⟩) ?_ ?_
        rotate_left
        ·intro w'
         go_simp
         with_reducible rfl
        rotate_left
        ·simp only [Act.put,sx_,sy_,sz_,i64_w,i32_w]
         rfl
        refine pure_ (i:=1) (N:=some 27) (v:=?_) (a':=?_) #[true,true,false,false,false,false,false,false,false,false,false,false,false,false,false,false,false,false] rfl rfl (any_of HT_.out (by kernel_rfl)) (fun _ _ _ h => h) (Or.inl ⟨by rfl,?_⟩) ?_ ?_
        rotate_left
        ·intro w'
         go_simp
         with_reducible rfl
        rotate_left
        ·simp only [Act.put,sx_,sy_,sz_,i64_w,i32_w]
         rfl
        refine pure_ (i:=2) (N:=some 28) (v:=?_) (a':=?_) #[true,true,true,false,false,false,false,false,false,false,false,false,false,false,false,false,false,false] rfl rfl (any_of HT_.out (by kernel_rfl)) (fun _ _ _ h => h) (Or.inl ⟨by rfl,?_⟩) ?_ ?_
        rotate_left
        ·intro w'
         go_simp
         with_reducible rfl
        rotate_left
        ·simp only [Act.put,sx_,sy_,sz_,i64_w,i32_w]
         rfl
        refine pure_ (i:=3) (N:=some 29) (v:=?_) (a':=?_) #[true,true,true,true,false,false,false,false,false,false,false,false,false,false,false,false,false,false] rfl rfl (any_of HT_.out (by kernel_rfl)) (fun _ _ _ h => h) (Or.inl ⟨by rfl,?_⟩) ?_ ?_
        rotate_left
        ·intro w'
         go_simp
         with_reducible rfl
        rotate_left
        ·simp only [Act.put,sx_,sy_,sz_,i64_w,i32_w]
         rfl
        refine pure_ (i:=4) (N:=some 30) (v:=?_) (a':=?_) #[true,true,true,true,true,false,false,false,false,false,false,false,false,false,false,false,false,false] rfl rfl (any_of HT_.out (by kernel_rfl)) (fun _ _ _ h => h) (Or.inl ⟨by rfl,?_⟩) ?_ ?_
        rotate_left
        ·intro w'
         go_simp
         with_reducible rfl
        rotate_left
        ·simp only [Act.put,sx_,sy_,sz_,i64_w,i32_w]
         rfl
        refine pure_ (i:=5) (N:=some 31) (v:=?_) (a':=?_) #[true,true,true,true,true,true,false,false,false,false,false,false,false,false,false,false,false,false] rfl rfl (any_of HT_.out (by kernel_rfl)) (fun _ _ _ h => h) (Or.inl ⟨by rfl,?_⟩) ?_ ?_
        rotate_left
        ·intro w'
         go_simp
         with_reducible rfl
        rotate_left
        ·simp only [Act.put,sx_,sy_,sz_,i64_w,i32_w]
         rfl
        refine pure_ (i:=6) (N:=some 32) (v:=?_) (a':=?_) #[true,true,true,true,true,true,true,false,false,false,false,false,false,false,false,false,false,false] rfl rfl (any_of HT_.out (by kernel_rfl)) (fun _ _ _ h => h) (Or.inl ⟨by rfl,?_⟩) ?_ ?_
        rotate_left
        ·intro w'
         go_simp
         with_reducible rfl
        rotate_left
        ·simp only [Act.put,sx_,sy_,sz_,i64_w,i32_w]
         rfl
        refine pure_ (i:=9) (N:=some 35) (v:=?_) (a':=?_) #[true,true,true,true,true,true,true,false,false,true,false,false,false,false,false,false,false,false] rfl rfl (any_of HT_.out (by kernel_rfl)) (fun _ _ _ h => h) (Or.inl ⟨by rfl,?_⟩) ?_ ?_
        rotate_left
        ·intro w'
         go_simp
         with_reducible rfl
        rotate_left
        ·simp only [Act.put,sx_,sy_,sz_,i64_w,i32_w]
         rfl
        refine pure_ (i:=11) (N:=some 37) (v:=?_) (a':=?_) #[true,true,true,true,true,true,true,false,false,true,false,true,false,false,false,false,false,false] rfl rfl (any_of HT_.out (by kernel_rfl)) (fun _ _ _ h => h) (Or.inl ⟨by rfl,?_⟩) ?_ ?_
        rotate_left
        ·intro w'
         go_simp
         with_reducible rfl
        rotate_left
        ·simp only [Act.put,sx_,sy_,sz_,i64_w,i32_w]
         rfl
        refine join_ (σ:=Value) 5 #[true,true,true,true,true,true,true,true,true,true,true,true,true,false,false,false,false,false] (fun s_ => [(33,.int .i64 t209),(38,s_),(34,.int .i64 (wrap64 ((wrap64 (t207 + 1)) + t209))),(36,.int .i64 (Int.tmod (wrap64 ((wrap64 (t207 + 1)) + t209)) t197))]) (fun s_ w' => (Kd.R (Kd.int .i64) 3 w' w.heap.size (fun _ => True) s_ y211) ∧ (Kd.R k51 51 w' w.heap.size (fun _ => True) (.slice Ao23 x5_1.length co23) x5_1) ∧ (IsS84 w0 w' g s0_0 t210) ∧ (KeepBut w w' g none) ∧ (Below w0.heap.size w0 w')) ?_ ?_
        rotate_left
        ·intro hCont
         refine two_ (i:=7) (j:=12) (Ni:=some 33) (Nj:=some 38) #[true,true,true,true,true,true,true,true,false,true,false,true,false,false,false,false,false,false] #[true,true,true,true,true,true,true,false,false,true,false,true,true,false,false,false,false,false] rfl rfl rfl rfl (two_of HT_.out (by kernel_rfl)) (by decide) (by decide) (fun K hK => ?_) (fun K hK => ?_)
         ·skip
          refine goes_ Try.func53 (by kernel_rfl) rfl #[.pointer (some ⟨g,0,none⟩),.int .i64 (wrap64 (t197 - 1))] (by rfl) rfl rfl qm_ ?_
          with_reducible refine (spec_l21Rd_pick.calls kj13 g s0_0 t208 (wrap64 (t197 - 1)) t209 t210 w0 _ ?side1 ?side2 A18.out).mono ?_
          (case side1 => repeat (first|(with_reducible first|exact HI0.out|apply IsS84.alloc|apply IsS84.drewN|apply IsS84.drew|apply IsS84.set_1)|exact HI0.out))
          (case side2 => repeat (first|(with_reducible first|exact HB.out|apply ba_|apply bn_|apply bd_|refine bs_ ?_ (IsS84.ge HI0.out))|exact HB.out))
          rintro e w25 ⟨rfl,hi,hb,hk⟩
          refine ⟨_,rfl,?_⟩
          have n0_:=mk_ (rm_ (Kd.R_keep (IsS84.apart (show IsS84 w0 _ g s0_0 t208 from by repeat (first|(with_reducible first|exact HI0.out|apply IsS84.alloc|apply IsS84.drewN|apply IsS84.drew|apply IsS84.set_1)|exact HI0.out)) (qr_ HO_5) (by decide)) hk (fun _ h => h.2)) (fun _ h => h.1))
          have n1_:=mk_ (KeepBut.trans (by repeat (first|(with_reducible first|exact HK.out|apply KeepBut.set_|apply keep_drewN|apply keep_drew|apply keep_alloc)|exact HK.out)) hk (.inl rfl))
          have n2_:=mk_ (hb)
          have n3_:=mk_ (hi)
          clear HO_5
          clear HK
          clear HB
          clear HI0
          have HO_5:=n0_
          have HK:=n1_
          have HB:=n2_
          have HI0:=n3_
          clear n0_ n1_ n2_ n3_
          (try clear hb)
          (try clear hb2)
          (try clear hk)
          (try clear hi)
          refine hK.out _ _ trivial (fun hHeld => ?_)
          clear hK K
          refine norm_ (a':=?_) ?_ ?_
          rotate_left
          ·show Act.put _ (some 33) _ = _
           simp only [Act.put,sx_,sy_,sz_,i64_w,i32_w]
           rfl
          refine pure_ (i:=8) (N:=some 34) (v:=?_) (a':=?_) #[true,true,true,true,true,true,true,true,true,true,false,true,false,false,false,false,false,false] rfl rfl (any_of HT_.out (by kernel_rfl)) (fun _ _ _ h => h) (Or.inl ⟨by rfl,?_⟩) ?_ ?_
          rotate_left
          ·intro w'
           go_simp
           with_reducible rfl
          rotate_left
          ·simp only [Act.put,sx_,sy_,sz_,i64_w,i32_w]
           rfl
          refine pure_ (i:=10) (N:=some 36) (v:=?_) (a':=?_) #[true,true,true,true,true,true,true,true,true,true,true,true,false,false,false,false,false,false] rfl rfl (any_of HT_.out (by kernel_rfl)) (fun _ _ _ h => h) (Or.inl ⟨by rfl,?_⟩) ?_ ?_
          rotate_left
          ·intro w'
           go_simp
           with_reducible rfl
          rotate_left
          ·simp only [Act.put,sx_,sy_,sz_,i64_w,i32_w]
           rfl
          refine one_ (i:=12) (N:=some 38) #[true,true,true,true,true,true,true,true,true,true,true,true,true,false,false,false,false,false] rfl rfl (one_of HT_.out (by kernel_rfl)) (by decide) (fun K hK => ?_)
          refine Kd.R_lit_step (Kd.int .i64) _ 3 ?hg (N:=38) ?hd (xs:=([1,1,2,5,10,99] : List Int)) (inner:=[.int .i64 1,.int .i64 1,.int .i64 2,.int .i64 5,.int .i64 10,.int .i64 99]) (ok:=fun _ => True) (okp:=fun _ => True) ?hr ?hp (fun _ hk => hk) trivial (Below.refl _ _) (Nat.le_refl _) (by simp) ?_;(case hd => rfl);(case hg => rfl);(case hr => first|(go_simp;done)|(go_simp;rfl));(case hp => exact (Reps.one (show Kd.M (Kd.int .i64) _ _ _ 1 [.int .i64 1] from rfl) (Reps.one (show Kd.M (Kd.int .i64) _ _ _ 1 [.int .i64 1] from rfl) (Reps.one (show Kd.M (Kd.int .i64) _ _ _ 2 [.int .i64 2] from rfl) (Reps.one (show Kd.M (Kd.int .i64) _ _ _ 5 [.int .i64 5] from rfl) (Reps.one (show Kd.M (Kd.int .i64) _ _ _ 10 [.int .i64 10] from rfl) (Reps.one (show Kd.M (Kd.int .i64) _ _ _ 99 [.int .i64 99] from rfl) (Reps.none _ _))))))))
          intro v212 w26 ho27 hb hg_ hnew_
          clear hg_ hnew_
          (first|rw [← Ny211.out] at ho27|(simp only [Int.reduceToNat] at ho27;rw [← Ny211.out] at ho27))
          have n0_:=mk_ (rb_ (qr_ HO_5) hb)
          have n1_:=mk_ (Kd.R_lower ho27 (keep_size (w:=w) (g:=g) (row:=none) (by repeat (first|(with_reducible first|exact HK.out|apply KeepBut.set_|apply keep_drewN|apply keep_drew|apply keep_alloc)|exact HK.out))))
          have n2_:=mk_ (IsS84.below (by repeat (first|(with_reducible first|exact HI0.out|apply IsS84.alloc|apply IsS84.drewN|apply IsS84.drew|apply IsS84.set_1)|exact HI0.out)) hb)
          have n3_:=mk_ (KeepBut.trans (by repeat (first|(with_reducible first|exact HK.out|apply KeepBut.set_|apply keep_drewN|apply keep_drew|apply keep_alloc)|exact HK.out)) (KeepBut.of_below hb g none) (.inl rfl))
          have n4_:=mk_ (st_ (by repeat (first|(with_reducible first|exact HB.out|apply ba_|apply bn_|apply bd_|refine bs_ ?_ (IsS84.ge HI0.out))|exact HB.out)) hb)
          clear HO_5
          clear HI0
          clear HK
          clear HB
          have HO_5:=n0_
          have HO213:=n1_
          have HI0:=n2_
          have HK:=n3_
          have HB:=n4_
          clear n0_ n1_ n2_ n3_ n4_
          clear hb ho27
          refine hK.out _ _ trivial (fun hHeld => ?_)
          clear hK K
          refine norm_ (a':=?_) ?_ ?_
          rotate_left
          ·show Act.put _ (some 38) _ = _
           simp only [Act.put,sx_,sy_,sz_,i64_w,i32_w]
           rfl
          exact norm_ (by simp only [putAll,Act.put,sx_,sy_,sz_]) (hCont (v212) _ ⟨(qr_ HO213),(qr_ HO_5),(by repeat (first|(with_reducible first|exact HI0.out|apply IsS84.alloc|apply IsS84.drewN|apply IsS84.drew|apply IsS84.set_1)|exact HI0.out)),(by repeat (first|(with_reducible first|exact HK.out|apply KeepBut.set_|apply keep_drewN|apply keep_drew|apply keep_alloc)|exact HK.out)),(by repeat (first|(with_reducible first|exact HB.out|apply ba_|apply bn_|apply bd_|refine bs_ ?_ (IsS84.ge HI0.out))|exact HB.out))⟩)
         ·skip
          refine Kd.R_lit_step (Kd.int .i64) _ 3 ?hg (N:=38) ?hd (xs:=([1,1,2,5,10,99] : List Int)) (inner:=[.int .i64 1,.int .i64 1,.int .i64 2,.int .i64 5,.int .i64 10,.int .i64 99]) (ok:=fun _ => True) (okp:=fun _ => True) ?hr ?hp (fun _ hk => hk) trivial (Below.refl _ _) (Nat.le_refl _) (by simp) ?_;(case hd => rfl);(case hg => rfl);(case hr => first|(go_simp;done)|(go_simp;rfl));(case hp => exact (Reps.one (show Kd.M (Kd.int .i64) _ _ _ 1 [.int .i64 1] from rfl) (Reps.one (show Kd.M (Kd.int .i64) _ _ _ 1 [.int .i64 1] from rfl) (Reps.one (show Kd.M (Kd.int .i64) _ _ _ 2 [.int .i64 2] from rfl) (Reps.one (show Kd.M (Kd.int .i64) _ _ _ 5 [.int .i64 5] from rfl) (Reps.one (show Kd.M (Kd.int .i64) _ _ _ 10 [.int .i64 10] from rfl) (Reps.one (show Kd.M (Kd.int .i64) _ _ _ 99 [.int .i64 99] from rfl) (Reps.none _ _))))))))
          intro v212 w25 ho26 hb hg_ hnew_
          clear hg_ hnew_
          (first|rw [← Ny211.out] at ho26|(simp only [Int.reduceToNat] at ho26;rw [← Ny211.out] at ho26))
          have n0_:=mk_ (rb_ (qr_ HO_5) hb)
          have n1_:=mk_ (Kd.R_lower ho26 (keep_size (w:=w) (g:=g) (row:=none) (by repeat (first|(with_reducible first|exact HK.out|apply KeepBut.set_|apply keep_drewN|apply keep_drew|apply keep_alloc)|exact HK.out))))
          have n2_:=mk_ (IsS84.below (by repeat (first|(with_reducible first|exact HI0.out|apply IsS84.alloc|apply IsS84.drewN|apply IsS84.drew|apply IsS84.set_1)|exact HI0.out)) hb)
          have n3_:=mk_ (KeepBut.trans (by repeat (first|(with_reducible first|exact HK.out|apply KeepBut.set_|apply keep_drewN|apply keep_drew|apply keep_alloc)|exact HK.out)) (KeepBut.of_below hb g none) (.inl rfl))
          have n4_:=mk_ (st_ (by repeat (first|(with_reducible first|exact HB.out|apply ba_|apply bn_|apply bd_|refine bs_ ?_ (IsS84.ge HI0.out))|exact HB.out)) hb)
          clear HO_5
          clear HI0
          clear HK
          clear HB
          have HO_5:=n0_
          have HO213:=n1_
          have HI0:=n2_
          have HK:=n3_
          have HB:=n4_
          clear n0_ n1_ n2_ n3_ n4_
          clear hb ho26
          refine hK.out _ _ trivial (fun hHeld => ?_)
          clear hK K
          refine norm_ (a':=?_) ?_ ?_
          rotate_left
          ·show Act.put _ (some 38) _ = _
           simp only [Act.put,sx_,sy_,sz_,i64_w,i32_w]
           rfl
          refine one_ (i:=7) (N:=some 33) #[true,true,true,true,true,true,true,true,false,true,false,true,true,false,false,false,false,false] rfl rfl (one_of HT_.out (by kernel_rfl)) (by decide) (fun K hK => ?_)
          refine goes_ Try.func53 (by kernel_rfl) rfl #[.pointer (some ⟨g,0,none⟩),.int .i64 (wrap64 (t197 - 1))] (by rfl) rfl rfl qm_ ?_
          with_reducible refine (spec_l21Rd_pick.calls kj13 g s0_0 t208 (wrap64 (t197 - 1)) t209 t210 w0 _ ?side1 ?side2 A18.out).mono ?_
          (case side1 => repeat (first|(with_reducible first|exact HI0.out|apply IsS84.alloc|apply IsS84.drewN|apply IsS84.drew|apply IsS84.set_1)|exact HI0.out))
          (case side2 => repeat (first|(with_reducible first|exact HB.out|apply ba_|apply bn_|apply bd_|refine bs_ ?_ (IsS84.ge HI0.out))|exact HB.out))
          rintro e w27 ⟨rfl,hi,hb,hk⟩
          refine ⟨_,rfl,?_⟩
          have n0_:=mk_ (rm_ (Kd.R_keep (IsS84.apart (show IsS84 w0 _ g s0_0 t208 from by repeat (first|(with_reducible first|exact HI0.out|apply IsS84.alloc|apply IsS84.drewN|apply IsS84.drew|apply IsS84.set_1)|exact HI0.out)) (qr_ HO_5) (by decide)) hk (fun _ h => h.2)) (fun _ h => h.1))
          have n1_:=mk_ (rm_ (Kd.R_keep (IsS84.apart (show IsS84 w0 _ g s0_0 t208 from by repeat (first|(with_reducible first|exact HI0.out|apply IsS84.alloc|apply IsS84.drewN|apply IsS84.drew|apply IsS84.set_1)|exact HI0.out)) (qr_ HO213) (by decide)) hk (fun _ h => h.2)) (fun _ h => h.1))
          have n2_:=mk_ (KeepBut.trans (by repeat (first|(with_reducible first|exact HK.out|apply KeepBut.set_|apply keep_drewN|apply keep_drew|apply keep_alloc)|exact HK.out)) hk (.inl rfl))
          have n3_:=mk_ (hb)
          have n4_:=mk_ (hi)
          clear HO_5
          clear HO213
          clear HK
          clear HB
          clear HI0
          have HO_5:=n0_
          have HO213:=n1_
          have HK:=n2_
          have HB:=n3_
          have HI0:=n4_
          clear n0_ n1_ n2_ n3_ n4_
          (try clear hb)
          (try clear hb2)
          (try clear hk)
          (try clear hi)
          refine hK.out _ _ trivial (fun hHeld => ?_)
          clear hK K
          refine norm_ (a':=?_) ?_ ?_
          rotate_left
          ·show Act.put _ (some 33) _ = _
           simp only [Act.put,sx_,sy_,sz_,i64_w,i32_w]
           rfl
          refine pure_ (i:=8) (N:=some 34) (v:=?_) (a':=?_) #[true,true,true,true,true,true,true,true,true,true,false,true,true,false,false,false,false,false] rfl rfl (any_of HT_.out (by kernel_rfl)) (fun _ _ _ h => h) (Or.inl ⟨by rfl,?_⟩) ?_ ?_
          rotate_left
          ·intro w'
           go_simp
           with_reducible rfl
          rotate_left
          ·simp only [Act.put,sx_,sy_,sz_,i64_w,i32_w]
           rfl
          refine pure_ (i:=10) (N:=some 36) (v:=?_) (a':=?_) #[true,true,true,true,true,true,true,true,true,true,true,true,true,false,false,false,false,false] rfl rfl (any_of HT_.out (by kernel_rfl)) (fun _ _ _ h => h) (Or.inl ⟨by rfl,?_⟩) ?_ ?_
          rotate_left
          ·intro w'
           go_simp
           with_reducible rfl
          rotate_left
          ·simp only [Act.put,sx_,sy_,sz_,i64_w,i32_w]
           rfl
          exact norm_ (by simp only [putAll,Act.put,sx_,sy_,sz_]) (hCont (v212) _ ⟨(qr_ HO213),(qr_ HO_5),(by repeat (first|(with_reducible first|exact HI0.out|apply IsS84.alloc|apply IsS84.drewN|apply IsS84.drew|apply IsS84.set_1)|exact HI0.out)),(by repeat (first|(with_reducible first|exact HK.out|apply KeepBut.set_|apply keep_drewN|apply keep_drew|apply keep_alloc)|exact HK.out)),(by repeat (first|(with_reducible first|exact HB.out|apply ba_|apply bn_|apply bd_|refine bs_ ?_ (IsS84.ge HI0.out))|exact HB.out))⟩)
        rintro v212 w28 ⟨h0_,h1_,h2_,h3_,h4_⟩
        have n0_ : Aside0 (Kd.R (Kd.int .i64) 3 w28 w.heap.size (fun _ => True) v212 y211):=⟨h0_⟩
        have n1_ : Aside0 (Kd.R k51 51 w28 w.heap.size (fun _ => True) (.slice Ao23 x5_1.length co23) x5_1):=⟨h1_⟩
        have n2_ : Aside0 (IsS84 w0 w28 g s0_0 t210):=⟨h2_⟩
        have n3_ : Aside0 (KeepBut w w28 g none):=⟨h3_⟩
        have n4_ : Aside0 (Below w0.heap.size w0 w28):=⟨h4_⟩
        clear HO_5
        clear HI0
        clear HK
        clear HB
        clear h0_ h1_ h2_ h3_ h4_
        have HO213:=n0_
        have HO_5:=n1_
        have HI0:=n2_
        have HK:=n3_
        have HB:=n4_
        clear n0_ n1_ n2_ n3_ n4_
        have hHeld:=trivial
        obtain ⟨Ao29,co29,eo29⟩:=Kd.R_slice HO213.out
        (first|subst eo29|(injection eo29 with f1_ f2_ f3_;have f4_:=f1_.symm;have f5_:=f3_.symm;clear f1_ f2_ f3_;subst f4_;subst f5_))
        refine norm_ (a':=?_) ?_ ?_
        rotate_left
        ·simp only [putAll,Act.put,sx_,sy_,sz_]
         rfl
        refine one_ (i:=13) (N:=some 39) #[true,true,true,true,true,true,true,true,true,true,true,true,true,true,false,false,false,false] rfl rfl (one_of HT_.out (by kernel_rfl)) (by decide) (fun K hK => ?_)
        refine goes_ Try.func78 (by kernel_rfl) rfl #[.pointer (some ⟨g,0,none⟩),.slice Ao29 y211.length co29] (by rfl) rfl rfl qm_ ?_
        with_reducible refine (spec_l21Rd_num.calls kj13 g s0_0 t210 _ _ y211 t214 t215 w0 _ ?side1 ?side2 ?side3 ?side4 ?side5 A20.out).mono ?_
        (case side1 => repeat (first|(with_reducible first|exact HI0.out|apply IsS84.alloc|apply IsS84.drewN|apply IsS84.drew|apply IsS84.set_1)|exact HI0.out))
        (case side2 => repeat (first|(with_reducible first|exact HB.out|apply ba_|apply bn_|apply bd_|refine bs_ ?_ (IsS84.ge HI0.out))|exact HB.out))
        (case side3 => repeat (first|exact (rr_ HO213.out).2.2|(with_reducible refine ca_ ?_ _)|(with_reducible refine cn_ ?_ _)|(with_reducible refine cd_ ?_)))
        (case side4 => exact (rr_ HO213.out).2.1)
        (case side5 => exact far_slice (IsS84.own_ne HI0.out HO213.out (by decide)))
        rintro e w30 ⟨rfl,hi,hb,hk⟩
        refine ⟨_,rfl,?_⟩
        have n0_:=mk_ (rm_ (Kd.R_keep (IsS84.apart (show IsS84 w0 _ g s0_0 t210 from by repeat (first|(with_reducible first|exact HI0.out|apply IsS84.alloc|apply IsS84.drewN|apply IsS84.drew|apply IsS84.set_1)|exact HI0.out)) (qr_ HO_5) (by decide)) hk (fun _ h => h.2)) (fun _ h => h.1))
        have n1_:=mk_ (rm_ (Kd.R_keep (IsS84.apart (show IsS84 w0 _ g s0_0 t210 from by repeat (first|(with_reducible first|exact HI0.out|apply IsS84.alloc|apply IsS84.drewN|apply IsS84.drew|apply IsS84.set_1)|exact HI0.out)) (qr_ HO213) (by decide)) hk (fun _ h => h.2)) (fun _ h => h.1))
        have n2_:=mk_ (KeepBut.trans (by repeat (first|(with_reducible first|exact HK.out|apply KeepBut.set_|apply keep_drewN|apply keep_drew|apply keep_alloc)|exact HK.out)) hk (.inl rfl))
        have n3_:=mk_ (hb)
        have n4_:=mk_ (hi)
        clear HO_5
        clear HO213
        clear HK
        clear HB
        clear HI0
        have HO_5:=n0_
        have HO213:=n1_
        have HK:=n2_
        have HB:=n3_
        have HI0:=n4_
        clear n0_ n1_ n2_ n3_ n4_
        (try clear hb)
        (try clear hb2)
        (try clear hk)
        (try clear hi)
        refine hK.out _ _ trivial (fun hHeld => ?_)
        clear hK K
        refine norm_ (a':=?_) ?_ ?_
        rotate_left
        ·show Act.put _ (some 39) _ = _
         simp only [Act.put,sx_,sy_,sz_,i64_w,i32_w]
         rfl
        refine pure_ (i:=14) (N:=some 40) (v:=?_) (a':=?_) #[true,true,true,true,true,true,true,true,true,true,true,true,true,true,true,false,false,false] rfl rfl (any_of HT_.out (by kernel_rfl)) (fun _ _ _ h => h) (Or.inl ⟨by rfl,?_⟩) ?_ ?_
        rotate_left
        ·intro w'
         go_simp
         with_reducible rfl
        rotate_left
        ·simp only [Act.put,sx_,sy_,sz_,i64_w,i32_w]
         rfl
        refine one_ (i:=15) (N:=some 41) #[true,true,true,true,true,true,true,true,true,true,true,true,true,true,true,true,false,false] rfl rfl (one_of HT_.out (by kernel_rfl)) (by decide) (fun K hK => ?_)
        refine value_ (w1:=?_) (v:=?_) (by rfl) rfl ?_ ?_
        rotate_left 2
        ·go_simp
         constructor
         ·rfl
         ·rfl
        refine hK.out _ _ trivial (fun hHeld => ?_)
        clear hK K
        refine norm_ (a':=?_) ?_ ?_
        rotate_left
        ·show Act.put _ (some 41) _ = _
         simp only [Act.put,sx_,sy_,sz_,i64_w,i32_w]
         rfl
        refine one_ (i:=16) (N:=some 42) #[true,true,true,true,true,true,true,true,true,true,true,true,true,true,true,true,true,false] rfl rfl (one_of HT_.out (by kernel_rfl)) (by decide) (fun K hK => ?_)
        refine Kd.R_append_step k51 w.heap.size (by rfl) (.tmp 26) (.tmp 41) 28 51 (.agg #[(.int .i64 0),(.int .i64 0),(.int .i64 0)]) 24 rfl Try.underlying28 info51 rfl (by decide) (by omega) (.slice Ao23 x5_1.length co23) x5_1 (⟨t207,Int.tmod (wrap64 ((wrap64 (t207 + 1)) + t209)) t197,t214⟩ : S51) [.int .i64 t207,.int .i64 (Int.tmod (wrap64 ((wrap64 (t207 + 1)) + t209)) t197),.int .i64 t214] (fun _ => True) (fun _ => False) rfl rfl ?aP (fun _ hk => hk.elim) ?aF ?aO (Below.refl _ _) ?aS ?aL ?_
        (case aP => exact k51_mkM _ _ _ (⟨t207,Int.tmod (wrap64 ((wrap64 (t207 + 1)) + t209)) t197,t214⟩ : S51))
        (case aF => exact (fun _ _ => trivial))
        (case aO => exact (qr_ HO_5))
        (case aS => exact (keep_size (w:=w) (g:=g) (row:=none) (by repeat (first|(with_reducible first|exact HK.out|apply KeepBut.set_|apply keep_drewN|apply keep_drew|apply keep_alloc)|exact HK.out))))
        (case aL => have:=LMc21.out;omega)
        intro v217 w31 ho hb hg hat
        rw [← Ny216.out] at ho
        have n0_:=mk_ (IsS84.grown (by repeat (first|(with_reducible first|exact HI0.out|apply IsS84.alloc|apply IsS84.drewN|apply IsS84.drew|apply IsS84.set_1)|exact HI0.out)) hg (IsS84.own_ne HI0.out HO_5.out (by decide)))
        have n1_:=mk_ (Kd.R_over' (qr_ HO213) (Kd.R_typed (qr_ HO_5)) (by decide) hg)
        have n2_:=mk_ (below_weaken (by repeat (first|(with_reducible first|exact HB.out|apply ba_|apply bn_|apply bd_|refine bs_ ?_ (IsS84.ge HI0.out))|exact HB.out)) HL.out hb)
        have n3_:=mk_ (KeepBut.trans (by repeat (first|(with_reducible first|exact HK.out|apply KeepBut.set_|apply keep_drewN|apply keep_drew|apply keep_alloc)|exact HK.out)) (KeepBut.of_grown hg g) (Kd.R_base2 HO_5.out))
        have n4_:=mk_ (ho)
        clear HI0
        clear HO213
        clear HB
        clear HK
        clear HO_5
        have HI0:=n0_
        have HO213:=n1_
        have HB:=n2_
        have HK:=n3_
        have HO218:=n4_
        clear n0_ n1_ n2_ n3_ n4_
        clear ho hb hg hat
        refine hK.out _ _ trivial (fun hHeld => ?_)
        clear hK K
        refine norm_ (a':=?_) ?_ ?_
        rotate_left
        ·show Act.put _ (some 42) _ = _
         simp only [Act.put,sx_,sy_,sz_,i64_w,i32_w]
         rfl
        refine pure_ (i:=17) (N:=some 5) (v:=?_) (a':=?_) #[true,true,true,true,true,true,true,true,true,true,true,true,true,true,true,true,true,true] rfl rfl (any_of HT_.out (by kernel_rfl)) (fun _ _ _ h => h) (Or.inl ⟨by rfl,?_⟩) ?_ ?_
        rotate_left
        ·intro w'
         go_simp
         with_reducible rfl
        rotate_left
        ·simp only [Act.put,sx_,sy_,sz_,i64_w,i32_w]
         rfl
        refine done_ (done_of HT_.out (by kernel_rfl)) ?_
        try go_wp2
        go_roundg kj13
        case measure => have:=HK1.out;have:=HJ13.out;omega
        case rel => exact ⟨(y216),(wrap64 (x6_1 - 1)),(t215),(by first|rfl|(simp;done)|(simp [*];done)),H',⟨by have:=HK1.out;have:=HJ13.out;omega⟩,⟨by (with_reducible repeat (first|apply ra_|apply rn_|apply rd_));exact HO218.out⟩,⟨by repeat (first|(with_reducible first|exact HI0.out|apply IsS84.alloc|apply IsS84.drewN|apply IsS84.drew|apply IsS84.set_1)|exact HI0.out)⟩,⟨by repeat (first|(with_reducible first|exact HK.out|apply KeepBut.set_|apply keep_drewN|apply keep_drew|apply keep_alloc)|exact HK.out)⟩,⟨by repeat (first|(with_reducible first|exact HB.out|apply ba_|apply bn_|apply bd_|refine bs_ ?_ (IsS84.ge HI0.out))|exact HB.out)⟩⟩
       ·rw [if_neg c21] at H
        exact absurd H (by simp)
     ·replace c16:=Bool.eq_false_iff.mpr c16
      subst c16
      have H1 : (some (t197,x5_1,x1001_1)) = some (r1,r2,r3):=by rw [if_neg (show ¬ (false = true) by decide)] at H;exact H
      clear H
      have H:=H1
      clear H1
      simp only [Option.some.injEq,Prod.mk.injEq] at H
      obtain ⟨rfl,rfl,rfl⟩:=H
      go_wp2
      go_ret2
      exact ⟨_,by first|rfl|(simp [errW_none,errW_some] <;> rfl)|(simp [*,errW_none,errW_some] <;> rfl),by (with_reducible repeat (first|apply ra_|apply rn_|apply rd_));exact HO_5.out,by repeat (first|(with_reducible first|exact HI0.out|apply IsS84.alloc|apply IsS84.drewN|apply IsS84.drew|apply IsS84.set_1)|exact HI0.out),by repeat (first|(with_reducible first|exact HB.out|apply ba_|apply bn_|apply bd_|refine bs_ ?_ (IsS84.ge HI0.out))|exact HB.out),by repeat (first|(with_reducible first|exact HK.out|apply KeepBut.set_|apply keep_drewN|apply keep_drew|apply keep_alloc)|exact HK.out)⟩

end Go.Proofs.Ytdamdcdjodmemaa.PAll

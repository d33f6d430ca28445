/- Proved here: contracts of functions of the given program, or lemmas on them, for the laws of this seat. Written by xprint.py, a program of this session, on the ground of the kit's print; parts by hand: wip/x/ext. -/
import Derived.Test.YtdamdcdjodmemaaPAllx0
import Derived.Test.YtdamdcdjodmemaaPAllx1
import Derived.Test.YtdamdcdjodmemaaPAllx2
namespace Go.Proofs.Ytdamdcdjodmemaa.PAll
open Go.RowKit Go.Proofs.YtdamdcdjodmemaaW.PrintWords Go.Proofs.YtdamdcdjodmemaaW.PrintLast Go.Proofs.YtdamdcdjodmemaaW.PrintMore
attribute [local go_sem] max2_int min2_int max_two min_two max_three min_three max_four min_four   -- for this text's walks alone
set_option linter.unusedVariables false
set_option linter.unusedSimpArgs false

/-! ### bits_Len64: function 103 (by hand) -/
def bits_Len64.f (a0 : Int) : Option (Int) :=
 if 0 ≤ a0 ∧ a0 ≤ 20 then some (([0,1,2,2,3,3,3,3,4,4,4,4,4,4,4,4,5,5,5,5,5] : List Int).getD a0.toNat 0) else none
theorem upto20 {a : Int} (h0 : 0 ≤ a) (h1 : a ≤ 20) : a = 0 ∨ a = 1 ∨ a = 2 ∨ a = 3 ∨ a = 4 ∨ a = 5 ∨ a = 6 ∨ a = 7 ∨ a = 8 ∨ a = 9 ∨ a = 10 ∨ a = 11 ∨ a = 12 ∨ a = 13 ∨ a = 14 ∨ a = 15 ∨ a = 16 ∨ a = 17 ∨ a = 18 ∨ a = 19 ∨ a = 20:=by omega
set_option maxHeartbeats 4000000 in
set_option maxRecDepth 100000 in
theorem bits_Len64.calls (a0 : Int) (r : Int) (w : World) (h : bits_Len64.f a0 = some r) :
  Calls Try.prog 103 #[.int .u64 a0] w fun e w' => e = .returned (.int .i64 r) ∧ Drawn0 w w':=by
 unfold bits_Len64.f at h
 by_cases hc : 0 ≤ a0 ∧ a0 ≤ 20
 ·rw [if_pos hc] at h
  obtain rfl:=Option.some.inj h
  clear h
  have hu:=upto20 hc.1 hc.2
  clear hc
  rcases hu with rfl|rfl|rfl|rfl|rfl|rfl|rfl|rfl|rfl|rfl|rfl|rfl|rfl|rfl|rfl|rfl|rfl|rfl|rfl|rfl|rfl
  all_goals
   go_enter Try.func103,Try.ntmps103
   go_wp2
   go_ret
   exact ⟨by first|kernel_rfl|rfl,Drawn0.refl _⟩
 ·rw [if_neg hc] at h
  cases h

/-! ### bits_Len: function 84 -/
def bits_Len.f (a0 : Int) : Option (Int):=(bits_Len64.f a0).bind fun t182 => (some t182)
set_option maxHeartbeats 8000000 in
set_option maxRecDepth 100000 in
theorem bits_Len.calls (a0 : Int) (r : Int) (w : World) (h : bits_Len.f a0 = some r) :
  Calls Try.prog 84 #[.int .u64 a0] w fun e w' => e = .returned (.int .i64 r) ∧ Drawn0 w w':=by
 have H : ((bits_Len64.f a0).bind fun t182 => (some t182)) = some r:=h
 clear h
 replace H:=Option.bind_eq_some_iff.mp H
 obtain ⟨t182,A20,H⟩:=H
 replace H : (some t182) = some r:=H
 have A2:=mk_ A20
 clear A20
 obtain rfl:=Option.some.inj H
 go_enter Try.func84,Try.ntmps84
 go_wp2_with (first|((with_reducible refine gate_callee (f:=103) rfl ?_);refine goesL_ (some 7) rfl rfl Try.func103 (by kernel_rfl) rfl #[.int .u64 a0] rfl (by (try simp only [List.map_toArray,List.map_cons,List.map_nil]);first|done|rfl|(simp only [List.length_drop,List.length_take];rfl)) ?_;(with_reducible refine (bits_Len64.calls a0 t182 _ A2.out).mono ?_);rintro e w' ⟨rfl,⟨nd,rfl⟩⟩;refine ⟨_,rfl,?_⟩))
 go_ret
 exact ⟨by first|rfl|(simp;done)|(simp [*];done),by repeat (first|exact Drawn0.refl _|apply Drawn0.step)⟩

/-! ### slices_pdqsortOrdered_int: function 83 (by hand) -/
def slices_pdqsortOrdered_int.f (k : Nat) (l0 : List Int) (a1 : Int) (a2 : Int) (a3 : Int) : Option (List Int) :=
 if wrap64 (a2 - a1) ≤ 12 then slices_insertionSortOrdered_int.f k l0 a1 a2 else none
theorem slices_pdqsortOrdered_int.mono : ∀ a0 a1 a2 a3 k,LeO (slices_pdqsortOrdered_int.f k a0 a1 a2 a3) (slices_pdqsortOrdered_int.f (k + 1) a0 a1 a2 a3):=by
 intro a0 a1 a2 a3 k
 unfold slices_pdqsortOrdered_int.f
 exact LeO.ite (slices_insertionSortOrdered_int.mono _ _ _ _) (LeO.refl _)
set_option maxHeartbeats 4000000 in
set_option maxRecDepth 100000 in
theorem slices_pdqsortOrdered_int.calls (k : Nat) (P0_ : Nat → Prop) (u9000_ : Value) (l0 : List Int) (a1 : Int) (a2 : Int) (a3 : Int) (r : List Int) (w0 w : World) (hB : Below w0.heap.size w0 w) (ho0 : Kd.R (Kd.int .i64) 3 w w0.heap.size P0_ u9000_ l0) (h : slices_pdqsortOrdered_int.f k l0 a1 a2 a3 = some r) :
  Calls Try.prog 83 #[u9000_,.int .i64 a1,.int .i64 a2,.int .i64 a3] w fun e w' => e = .returned (.tuple #[]) ∧ Kd.R (Kd.int .i64) 3 w' w0.heap.size (fun k_ => (P0_ k_ ∨ w.heap.size ≤ k_)) u9000_ r ∧ Below w0.heap.size w0 w' ∧ Kept w w' (fun k_ => P0_ k_):=by
 unfold slices_pdqsortOrdered_int.f at h
 by_cases hc : wrap64 (a2 - a1) ≤ 12
 ·rw [if_pos hc] at h
  have hcall:=slices_insertionSortOrdered_int.calls k P0_ u9000_ l0 a1 a2 r w0 w hB ho0 h
  have hc1 : (wrap64 (a2 - a1) ≤ 12) = True:=eq_true hc
  clear h hB ho0 hc
  go_enter Try.func83,Try.ntmps83
  go_wp2
  go_loopg [1,2,3,8,9,10,11,12,13,14,15,16,17,18] 1 (fun gg s1 s2 _ _ _ _ _ _ _ _ _ _ _ _ wr => s1 = .int .i64 a1 ∧ s2 = .int .i64 a2 ∧ wr = w)
  case atStart => exact ⟨rfl,rfl,rfl⟩
  case round =>
   obtain ⟨rfl,rfl,rfl⟩:=hrel
   go_wp2_with fail
   refine hcall.mono ?_
   rintro e w' ⟨rfl,h1,h2,h3⟩
   go_wp2_with fail
   first|go_end0|((try simp only [Exit.inBlock,Exit.then]);refine bodyPost_ret (results_none rfl _ _ _) rfl ?_)
   exact ⟨rfl,h1,h2,h3⟩
 ·rw [if_neg hc] at h
  cases h

/-! ### slices_Sort_int_int: function 64 -/
def slices_Sort_int_int.f (k : Nat) (l0 : List Int) : Option (List Int):=(bits_Len.f (IntKind.u64.wrap ((l0.length : Int)))).bind fun t267 => ((slices_pdqsortOrdered_int.f k l0 0 (l0.length : Int) t267).bind fun t268 => (some t268))
theorem slices_Sort_int_int.mono : ∀ a0 k,LeO (slices_Sort_int_int.f k a0) (slices_Sort_int_int.f (k + 1) a0):=by
 intro a0 k
 unfold slices_Sort_int_int.f
 repeat' first
   | (with_reducible exact slices_pdqsortOrdered_int.mono _ _ _ _ _)
   | (with_reducible exact LeO.refl _)
   | (with_reducible exact LeO.none _)
   | (with_reducible refine LeO.ite ?_ ?_)
   | (with_reducible refine LeO.bind ?_ (fun _ => ?_))
   | exact slices_pdqsortOrdered_int.mono _ _ _ _ _
   | exact LeO.none _
   | refine LeO.ite ?_ ?_
   | refine LeO.bind ?_ (fun _ => ?_)
set_option maxHeartbeats 8000000 in
set_option maxRecDepth 100000 in
theorem slices_Sort_int_int.calls (k : Nat) (P0_ : Nat → Prop) (u9000_ : Value) (l0 : List Int) (r : List Int) (w0 w : World) (hB : Below w0.heap.size w0 w) (ho0 : Kd.R (Kd.int .i64) 3 w w0.heap.size P0_ u9000_ l0) (h : slices_Sort_int_int.f k l0 = some r) :
  Calls Try.prog 64 #[u9000_] w fun e w' => e = .returned (.tuple #[]) ∧ Kd.R (Kd.int .i64) 3 w' w0.heap.size (fun k_ => (P0_ k_ ∨ w.heap.size ≤ k_)) u9000_ r ∧ Below w0.heap.size w0 w' ∧ Kept w w' (fun k_ => P0_ k_):=by
 have HO0:=mk_ (show Kd.R (Kd.int .i64) 3 w w0.heap.size (fun k_ => (P0_ k_ ∨ w.heap.size ≤ k_)) u9000_ l0 from rm_ ho0 (fun k_ hk => (.inl hk)))
 have HK:=mk_ (Kept.refl w (fun k_ => P0_ k_))
 have HW0:=mk_ hB.size
 have HB:=mk_ hB
 clear hB
 have H : ((bits_Len.f (IntKind.u64.wrap ((l0.length : Int)))).bind fun t267 => ((slices_pdqsortOrdered_int.f k l0 0 (l0.length : Int) t267).bind fun t268 => (some t268))) = some r:=h
 clear h
 replace H:=Option.bind_eq_some_iff.mp H
 obtain ⟨t267,A20,H⟩:=H
 replace H : ((slices_pdqsortOrdered_int.f k l0 0 (l0.length : Int) t267).bind fun t268 => (some t268)) = some r:=H
 have A2:=mk_ A20
 clear A20
 replace H:=Option.bind_eq_some_iff.mp H
 obtain ⟨t268,A30,H⟩:=H
 replace H : (some t268) = some r:=H
 have A3:=mk_ A30
 clear A30
 obtain rfl:=Option.some.inj H
 obtain ⟨Ao4,co4,eo4⟩:=Kd.R_slice HO0.out
 subst eo4
 go_enter Try.func64,Try.ntmps64
 go_wp2_with (first|((with_reducible refine gate_callee (f:=84) rfl ?_);refine goesL_ (some 9) rfl rfl Try.func84 (by kernel_rfl) rfl #[.int .u64 (IntKind.u64.wrap ((l0.length : Int)))] rfl (by (try simp only [List.map_toArray,List.map_cons,List.map_nil]);first|done|rfl|(simp only [List.length_drop,List.length_take];rfl)) ?_;(with_reducible refine (bits_Len.calls (IntKind.u64.wrap ((l0.length : Int))) t267 _ A2.out).mono ?_);rintro e w' ⟨rfl,⟨nd,rfl⟩⟩;refine ⟨_,rfl,?_⟩)|((with_reducible refine gate_callee (f:=83) rfl ?_);refine goesL_ (some 10) rfl rfl Try.func83 (by kernel_rfl) rfl #[.slice Ao4 l0.length co4,.int .i64 0,.int .i64 (l0.length : Int),.int .i64 t267] rfl (by (try simp only [List.map_toArray,List.map_cons,List.map_nil]);first|done|rfl|(simp only [List.length_drop,List.length_take];rfl)) ?_;(with_reducible refine (slices_pdqsortOrdered_int.calls k (fun k_ => some k_ = (.slice Ao4 l0.length co4 : Value).ownBlock) (.slice Ao4 l0.length co4) l0 0 (l0.length : Int) t267 t268 w0 _ ?side1 ?side2 A3.out).mono ?_);(case side1 => repeat (first|(with_reducible first|exact HB.out|apply ba_|apply bn_|apply bd_)|exact HB.out));(case side2 => exact Kd.R_tight rfl HO0.out);rintro e w5 ⟨rfl,hy0,hb,hkp⟩;refine ⟨_,rfl,?_⟩;have n0_:=mk_ (Kd.R_reok rfl hy0 (fun k_ e_ => HO0.out.1 k_ e_));have n1_:=mk_ (Kept.then_ (S:=(fun k_ => P0_ k_)) (by repeat (first|(with_reducible first|exact HK.out|apply Kept.alloc|apply Kept.drewN|apply Kept.drew)|exact HK.out)) hkp (fun k_ hs_ => (fun e_ => (HO0.out.1 k_ e_.symm)) hs_));have n2_:=mk_ (hb);clear HO0;clear HK;clear HB;have HO0:=n0_;have HK:=n1_;have HB:=n2_;clear n0_ n1_ n2_;(try clear hb);(try clear hkp);(try clear hy0)))
 first|go_end0|((try simp only [Exit.inBlock,Exit.then]);refine bodyPost_ret (results_none rfl _ _ _) rfl ?_)
 exact ⟨by first|rfl|(simp [errW_none,errW_some] <;> rfl)|(simp [*,errW_none,errW_some] <;> rfl),by (with_reducible repeat (first|apply ra_|apply rn_|apply rd_));exact HO0.out,by repeat (first|(with_reducible first|exact HB.out|apply ba_|apply bn_|apply bd_)|exact HB.out),by repeat (first|(with_reducible first|exact HK.out|apply Kept.alloc|apply Kept.drewN|apply Kept.drew)|exact HK.out)⟩

/-! ### impl_TreeOf: function 30 -/
def impl_TreeOf.l0 : Nat → List (S51) → List Int → List Int → Int → Int → Option (List Int)
 | 0,_,_,_,_,_ => none
 | k + 1,x1,x5,x6,x17,x18 => if x18 < x17 then ((impl_upOf.f k x1 x6 x18).bind fun bt273 => (if bt273.1 ≥ 0 then (if x5.length < 17592186044416 then (impl_TreeOf.l0 k x1 (x5 ++ [bt273.1]) x6 x17 (wrap64 (x18 + 1))) else (none)) else (impl_TreeOf.l0 k x1 x5 x6 x17 (wrap64 (x18 + 1))))) else ((slices_Sort_int_int.f k x5).bind fun t278 => (some t278))
def impl_TreeOf.f (k : Nat) (a0 : Int) (l1 : List (S51)) : Option (List Int):=(impl_CablesValid.f a0 l1).bind fun t269 => (if t269 = true then ((impl_costsOf.f k a0 l1).bind fun t270 => (impl_TreeOf.l0 k l1 ([] : List Int) t270 a0 0)) else (some ([] : List Int)))
theorem impl_TreeOf.mono_l : ∀ k,(∀ y0 y1 y2 y3 y4,LeO (impl_TreeOf.l0 k y0 y1 y2 y3 y4) (impl_TreeOf.l0 (k + 1) y0 y1 y2 y3 y4))
 | 0 => fun _ _ _ _ _ r h => by simp [impl_TreeOf.l0] at h
 | k + 1 => by
  have ih0:=impl_TreeOf.mono_l k
  ·intro y0 y1 y2 y3 y4
   unfold impl_TreeOf.l0
   repeat' first
   | (with_reducible exact ih0 _ _ _ _ _)
   | (with_reducible exact impl_costsOf.mono _ _ _)
   | (with_reducible exact impl_upOf.mono _ _ _ _)
   | (with_reducible exact slices_Sort_int_int.mono _ _)
   | (with_reducible exact LeO.refl _)
   | (with_reducible exact LeO.none _)
   | (with_reducible refine LeO.ite ?_ ?_)
   | (with_reducible refine LeO.bind ?_ (fun _ => ?_))
   | exact ih0 _ _ _ _ _
   | exact impl_costsOf.mono _ _ _
   | exact impl_upOf.mono _ _ _ _
   | exact slices_Sort_int_int.mono _ _
   | exact LeO.none _
   | refine LeO.ite ?_ ?_
   | refine LeO.bind ?_ (fun _ => ?_)
theorem impl_TreeOf.mono : ∀ a0 a1 k,LeO (impl_TreeOf.f k a0 a1) (impl_TreeOf.f (k + 1) a0 a1):=by
 intro a0 a1 k
 have ih0:=impl_TreeOf.mono_l k
 unfold impl_TreeOf.f
 repeat' first
   | (with_reducible exact ih0 _ _ _ _ _)
   | (with_reducible exact impl_costsOf.mono _ _ _)
   | (with_reducible exact impl_upOf.mono _ _ _ _)
   | (with_reducible exact slices_Sort_int_int.mono _ _)
   | (with_reducible exact LeO.refl _)
   | (with_reducible exact LeO.none _)
   | (with_reducible refine LeO.ite ?_ ?_)
   | (with_reducible refine LeO.bind ?_ (fun _ => ?_))
   | exact ih0 _ _ _ _ _
   | exact impl_costsOf.mono _ _ _
   | exact impl_upOf.mono _ _ _ _
   | exact slices_Sort_int_int.mono _ _
   | exact LeO.none _
   | refine LeO.ite ?_ ?_
   | refine LeO.bind ?_ (fun _ => ?_)
set_option maxHeartbeats 8000000 in
set_option maxRecDepth 100000 in
theorem impl_TreeOf.calls (k : Nat) (a0 : Int) (A1 : Option Addr) (c1 : Nat) (l1 : List (S51)) (r : List Int) (w : World) (hr1 : Kd.C k51 w A1 l1.length l1) (hc1 : l1.length ≤ c1) (h : impl_TreeOf.f k a0 l1 = some r) :
  Calls Try.prog 30 #[.int .i64 a0,.slice A1 l1.length c1] w fun e w' => ∃ v0_ : Value,e = .returned (v0_) ∧ Kd.R (Kd.int .i64) 3 w' w.heap.size (fun _ => True) v0_ r ∧ Below w.heap.size w w':=by
 have HR1:=mk_ hr1
 have HC1:=mk_ hc1
 clear hr1 hc1
 have HB:=mk_ (Below.refl w.heap.size w)
 have H : ((impl_CablesValid.f a0 l1).bind fun t269 => (if t269 = true then ((impl_costsOf.f k a0 l1).bind fun t270 => (impl_TreeOf.l0 k l1 ([] : List Int) t270 a0 0)) else (some ([] : List Int)))) = some r:=h
 clear h
 replace H:=Option.bind_eq_some_iff.mp H
 obtain ⟨t269,A30,H⟩:=H
 replace H : (if t269 = true then ((impl_costsOf.f k a0 l1).bind fun t270 => (impl_TreeOf.l0 k l1 ([] : List Int) t270 a0 0)) else (some ([] : List Int))) = some r:=H
 have A3:=mk_ A30
 clear A30
 by_cases c4 : t269 = true
 ·subst c4
  have H1 : ((impl_costsOf.f k a0 l1).bind fun t270 => (impl_TreeOf.l0 k l1 ([] : List Int) t270 a0 0)) = some r:=by rw [if_pos rfl] at H;exact H
  clear H
  have H:=H1
  clear H1
  replace H:=Option.bind_eq_some_iff.mp H
  obtain ⟨t270,A50,H⟩:=H
  replace H : (impl_TreeOf.l0 k l1 ([] : List Int) t270 a0 0) = some r:=H
  have A5:=mk_ A50
  clear A50
  have H':=mk_ H
  clear H
  go_enter Try.func30,Try.ntmps30
  go_wp2_with (first|((with_reducible refine gate_callee (f:=45) rfl ?_);refine goesL_ (some 12) rfl rfl Try.func45 (by kernel_rfl) rfl #[.int .i64 a0,.slice A1 l1.length c1] rfl (by (try simp only [List.map_toArray,List.map_cons,List.map_nil]);first|done|rfl|(simp only [List.length_drop,List.length_take];rfl)) ?_;(with_reducible refine (impl_CablesValid.calls a0 _ _ l1 true _ ?side1 ?side2 A3.out).mono ?_);(case side1 => repeat (first|exact HR1.out|(with_reducible refine ca_ ?_ _)|(with_reducible refine cn_ ?_ _)|(with_reducible refine cd_ ?_)));(case side2 => exact HC1.out);rintro e w6 ⟨rfl,hb⟩;refine ⟨_,rfl,?_⟩;have n0_:=mk_ (st_ (by repeat (first|(with_reducible first|exact HB.out|apply ba_|apply bn_|apply bd_)|exact HB.out)) hb);clear HB;have HB:=n0_;clear n0_;(try clear hb);(try clear hb2);(try clear hk);(try clear hi))|((with_reducible refine gate_callee (f:=62) rfl ?_);refine goesL_ (some 16) rfl rfl Try.func62 (by kernel_rfl) rfl #[.int .i64 a0,.slice A1 l1.length c1] rfl (by (try simp only [List.map_toArray,List.map_cons,List.map_nil]);first|done|rfl|(simp only [List.length_drop,List.length_take];rfl)) ?_;(with_reducible refine (impl_costsOf.calls k a0 _ _ l1 t270 _ ?side1 ?side2 A5.out).mono ?_);(case side1 => repeat (first|exact (cb_ HR1.out HB.out)|(with_reducible refine ca_ ?_ _)|(with_reducible refine cn_ ?_ _)|(with_reducible refine cd_ ?_)));(case side2 => exact HC1.out);rintro e w7 ⟨v271,rfl,ho0,hb⟩;refine ⟨_,rfl,?_⟩;have n0_:=mk_ (Kd.R_lower ho0 (bz_ (by repeat (first|(with_reducible first|exact HB.out|apply ba_|apply bn_|apply bd_)|exact HB.out))));have n1_:=mk_ (st_ (by repeat (first|(with_reducible first|exact HB.out|apply ba_|apply bn_|apply bd_)|exact HB.out)) hb);clear HB;have HO272:=n0_;have HB:=n1_;clear n0_ n1_;(try clear hb);(try clear hb2);(try clear hk);(try clear hi);(try clear ho0)))
  go_loopg [5,18] k (fun kq v5 v18 w' => ∃ (x5_1 : List Int) (x18_1 : Int),v18 = .int .i64 x18_1 ∧ Aside0 (impl_TreeOf.l0 kq l1 x5_1 t270 a0 x18_1 = some r) ∧ Aside0 (kq ≤ k) ∧ Aside0 (Kd.R (Kd.int .i64) 3 w' w.heap.size (fun k_ => some k_ ≠ (v271 : Value).ownBlock) v5 x5_1) ∧ Aside0 (Kd.R (Kd.int .i64) 3 w' w.heap.size (fun k_ => some k_ ≠ (v5 : Value).ownBlock) v271 t270) ∧ Aside0 (Below w.heap.size w w'))
  case atStart => exact ⟨(([] : List Int)),(0),(by first|rfl|(simp;done)|(simp [*];done)),H',⟨Nat.le_refl _⟩,⟨by first|exact Kd.R_nil _ _ _ _ _|exact Kd.N_nil _ _ _ _ _|exact Kd.V_nil _ _ _ _ _|exact Kd.Q_nil _ _ _ _ _|exact Kd.S_nil _ _ _ _ _⟩,⟨by (with_reducible repeat (first|apply ra_|apply rn_|apply rd_));exact rm_ HO272.out (fun _ hk => (by simp [Value.ownBlock]))⟩,⟨by repeat (first|(with_reducible first|exact HB.out|apply ba_|apply bn_|apply bd_)|exact HB.out)⟩⟩
  case round =>
   clear H'
   try clear c1
   try clear p2
   try clear c3
   try clear c4
   try clear c6
   obtain ⟨x5_1,x18_1,rfl,HA,HK1,HO_5,HO_6,HB⟩:=hrel
   cases gk with
   | zero => exact absurd HA.out (by simp [impl_TreeOf.l0])
   | succ k1 =>
    have H:=HA.out
    clear HA
    simp only [impl_TreeOf.l0] at H
    by_cases c8 : x18_1 < a0
    ·rw [if_pos c8] at H
     have c8b0 : decide (x18_1 < a0) = true:=decide_eq_true c8
     clear c8
     replace H:=Option.bind_eq_some_iff.mp H
     obtain ⟨⟨t273,t274⟩,A90,H⟩:=H
     replace H : (if t273 ≥ 0 then (if x5_1.length < 17592186044416 then (impl_TreeOf.l0 k1 l1 (x5_1 ++ [t273]) t270 a0 (wrap64 (x18_1 + 1))) else (none)) else (impl_TreeOf.l0 k1 l1 x5_1 t270 a0 (wrap64 (x18_1 + 1)))) = some r:=H
     have A9:=mk_ A90
     clear A90
     by_cases c10 : t273 ≥ 0
     ·rw [if_pos c10] at H
      have c10b0 : decide (0 ≤ t273) = true:=decide_eq_true c10
      clear c10
      by_cases c11 : x5_1.length < 17592186044416
      ·rw [if_pos c11] at H
       have LMc11:=mk_ c11
       clear c11
       obtain ⟨y275,hy275⟩ : ∃ y_ : List Int,y_ = (x5_1 ++ [t273]):=⟨_,rfl⟩
       replace H : (impl_TreeOf.l0 k1 l1 y275 t270 a0 (wrap64 (x18_1 + 1))) = some r:=by first|(rw [hy275];with_reducible exact H)|(have H2_:=(Option.bind_some _ _).symm.trans H;rw [hy275];with_reducible exact H2_)|(have H2_:=(Option.bind_some _ _).symm.trans H;with_reducible exact H2_)|with_reducible exact H|(rw [hy275];exact H)|exact H
       have Ny275:=mk_ hy275
       clear hy275
       have H':=mk_ H
       clear H
       obtain ⟨Ao12,co12,eo12⟩:=Kd.R_slice HO_6.out
       subst eo12
       go_wp2_with (first|((with_reducible refine gate_callee (f:=63) rfl ?_);refine goesL_ (some 25) rfl rfl Try.func63 (by kernel_rfl) rfl #[.slice A1 l1.length c1,.slice Ao12 t270.length co12,.int .i64 x18_1] rfl (by (try simp only [List.map_toArray,List.map_cons,List.map_nil]);first|done|rfl|(simp only [List.length_drop,List.length_take];rfl)) ?_;(with_reducible refine (impl_upOf.calls k1 _ _ l1 _ _ t270 x18_1 t273 t274 _ ?side1 ?side2 ?side3 ?side4 A9.out).mono ?_);(case side1 => repeat (first|exact (cb_ HR1.out HB.out)|(with_reducible refine ca_ ?_ _)|(with_reducible refine cn_ ?_ _)|(with_reducible refine cd_ ?_)));(case side2 => exact HC1.out);(case side3 => repeat (first|exact (rr_ HO_6.out).2.2|(with_reducible refine ca_ ?_ _)|(with_reducible refine cn_ ?_ _)|(with_reducible refine cd_ ?_)));(case side4 => exact (rr_ HO_6.out).2.1);rintro e w13 ⟨rfl,hb⟩;refine ⟨_,rfl,?_⟩;have n0_:=mk_ (rb_ (by (with_reducible repeat (first|apply ra_|apply rn_|apply rd_));exact HO_5.out) hb);have n1_:=mk_ (rb_ (by (with_reducible repeat (first|apply ra_|apply rn_|apply rd_));exact HO_6.out) hb);have n2_:=mk_ (st_ (by repeat (first|(with_reducible first|exact HB.out|apply ba_|apply bn_|apply bd_)|exact HB.out)) hb);clear HO_5;clear HO_6;clear HB;have HO_5:=n0_;have HO_6:=n1_;have HB:=n2_;clear n0_ n1_ n2_;(try clear hb);(try clear hb2);(try clear hk);(try clear hi))|((with_reducible refine gate_builtin (b:=.append) (xs:=#[.tmp 30,.tmp 32]) rfl ?_);at_builtin;refine Kd.R_append (Kd.int .i64) (w0:=w) w.heap.size rfl (.tmp 30) (.tmp 32) 23 3 (.int .i64 0) 8 rfl Try.underlying23 info3 rfl (by decide) (by omega) u5 x5_1 t273 [.int .i64 t273] (fun k_ => some k_ ≠ (.slice Ao12 t270.length co12 : Value).ownBlock) (fun _ => False) rfl rfl ?aP (fun _ hk => hk.elim) ?aF ?aO ?aB ?aS ?aL ?_;(case aP => exact rfl);(case aB => exact (by repeat (first|(with_reducible first|exact HB.out|apply ba_|apply bn_|apply bd_)|exact HB.out)));(case aF => exact (fun k_ hk => Kd.fresh' (Kd.R_lt (by (with_reducible repeat (first|apply ra_|apply rn_|apply rd_));exact HO_6.out)) k_ hk));(case aO => exact (by (with_reducible repeat (first|apply ra_|apply rn_|apply rd_));exact HO_5.out));(case aS => exact (bz_ (by repeat (first|(with_reducible first|exact HB.out|apply ba_|apply bn_|apply bd_)|exact HB.out))));(case aL => have:=LMc11.out;omega);intro v276 w14 ho hb hg hat;rw [← Ny275.out] at ho;have n0_:=mk_ (Kd.R_after (ok:=(fun _ => True)) (by (with_reducible repeat (first|apply ra_|apply rn_|apply rd_));exact rm_ HO_6.out (fun _ hk => ⟨trivial,hk⟩)) hg hat);have n1_:=mk_ (hb);have n2_:=mk_ (ho);clear HO_6;clear HB;clear HO_5;have HO_6:=n0_;have HB:=n1_;have HO277:=n2_;clear n0_ n1_ n2_;clear ho hb hg hat))
       go_roundg k1
       case measure => have:=HK1.out;omega
       case rel => exact ⟨(y275),(wrap64 (x18_1 + 1)),(by first|rfl|(simp;done)|(simp [*];done)),H',⟨by have:=HK1.out;omega⟩,⟨by (with_reducible repeat (first|apply ra_|apply rn_|apply rd_));exact HO277.out⟩,⟨by (with_reducible repeat (first|apply ra_|apply rn_|apply rd_));exact rm_ HO_6.out (fun _ hk => hk.2)⟩,⟨by repeat (first|(with_reducible first|exact HB.out|apply ba_|apply bn_|apply bd_)|exact HB.out)⟩⟩
      ·rw [if_neg c11] at H
       exact absurd H (by simp)
     ·rw [if_neg c10] at H
      have c10b0 : decide (0 ≤ t273) = false:=decide_eq_false c10
      clear c10
      have H':=mk_ H
      clear H
      obtain ⟨Ao15,co15,eo15⟩:=Kd.R_slice HO_6.out
      subst eo15
      go_wp2_with (first|((with_reducible refine gate_callee (f:=63) rfl ?_);refine goesL_ (some 25) rfl rfl Try.func63 (by kernel_rfl) rfl #[.slice A1 l1.length c1,.slice Ao15 t270.length co15,.int .i64 x18_1] rfl (by (try simp only [List.map_toArray,List.map_cons,List.map_nil]);first|done|rfl|(simp only [List.length_drop,List.length_take];rfl)) ?_;(with_reducible refine (impl_upOf.calls k1 _ _ l1 _ _ t270 x18_1 t273 t274 _ ?side1 ?side2 ?side3 ?side4 A9.out).mono ?_);(case side1 => repeat (first|exact (cb_ HR1.out HB.out)|(with_reducible refine ca_ ?_ _)|(with_reducible refine cn_ ?_ _)|(with_reducible refine cd_ ?_)));(case side2 => exact HC1.out);(case side3 => repeat (first|exact (rr_ HO_6.out).2.2|(with_reducible refine ca_ ?_ _)|(with_reducible refine cn_ ?_ _)|(with_reducible refine cd_ ?_)));(case side4 => exact (rr_ HO_6.out).2.1);rintro e w16 ⟨rfl,hb⟩;refine ⟨_,rfl,?_⟩;have n0_:=mk_ (rb_ (by (with_reducible repeat (first|apply ra_|apply rn_|apply rd_));exact HO_5.out) hb);have n1_:=mk_ (rb_ (by (with_reducible repeat (first|apply ra_|apply rn_|apply rd_));exact HO_6.out) hb);have n2_:=mk_ (st_ (by repeat (first|(with_reducible first|exact HB.out|apply ba_|apply bn_|apply bd_)|exact HB.out)) hb);clear HO_5;clear HO_6;clear HB;have HO_5:=n0_;have HO_6:=n1_;have HB:=n2_;clear n0_ n1_ n2_;(try clear hb);(try clear hb2);(try clear hk);(try clear hi)))
      go_roundg k1
      case measure => have:=HK1.out;omega
      case rel => exact ⟨(x5_1),(wrap64 (x18_1 + 1)),(by first|rfl|(simp;done)|(simp [*];done)),H',⟨by have:=HK1.out;omega⟩,⟨by (with_reducible repeat (first|apply ra_|apply rn_|apply rd_));exact HO_5.out⟩,⟨by (with_reducible repeat (first|apply ra_|apply rn_|apply rd_));exact HO_6.out⟩,⟨by repeat (first|(with_reducible first|exact HB.out|apply ba_|apply bn_|apply bd_)|exact HB.out)⟩⟩
    ·rw [if_neg c8] at H
     have c8b0 : decide (x18_1 < a0) = false:=decide_eq_false c8
     clear c8
     replace H:=Option.bind_eq_some_iff.mp H
     obtain ⟨t278,A170,H⟩:=H
     replace H : (some t278) = some r:=H
     have A17:=mk_ A170
     clear A170
     obtain rfl:=Option.some.inj H
     obtain ⟨Ao18,co18,eo18⟩:=Kd.R_slice HO_5.out
     subst eo18
     go_wp2_with (first|((with_reducible refine gate_callee (f:=64) rfl ?_);refine goesL_ (some 36) rfl rfl Try.func64 (by kernel_rfl) rfl #[.slice Ao18 x5_1.length co18] rfl (by (try simp only [List.map_toArray,List.map_cons,List.map_nil]);first|done|rfl|(simp only [List.length_drop,List.length_take];rfl)) ?_;(with_reducible refine (slices_Sort_int_int.calls k1 (fun k_ => some k_ = (.slice Ao18 x5_1.length co18 : Value).ownBlock) (.slice Ao18 x5_1.length co18) x5_1 t278 w _ ?side1 ?side2 A17.out).mono ?_);(case side1 => repeat (first|(with_reducible first|exact HB.out|apply ba_|apply bn_|apply bd_)|exact HB.out));(case side2 => exact Kd.R_tight rfl HO_5.out);rintro e w19 ⟨rfl,hy0,hb,hkp⟩;refine ⟨_,rfl,?_⟩;have n0_:=mk_ (Kd.R_reok rfl hy0 (fun k_ e_ => HO_5.out.1 k_ e_));have n1_:=mk_ (rm_ (ok':=fun k_ => some k_ ≠ (.slice Ao18 x5_1.length co18 : Value).ownBlock) (Kd.R_keptB (HO_6.out) hkp (fun k_ hk_ hs_ => (hk_) hs_)) (fun k_ hk_ => hk_.1));have n2_:=mk_ (hb);clear HO_5;clear HO_6;clear HB;have HO_5:=n0_;have HO_6:=n1_;have HB:=n2_;clear n0_ n1_ n2_;(try clear hb);(try clear hkp);(try clear hy0)))
     go_ret
     exact ⟨_,by first|rfl|(simp [errW_none,errW_some] <;> rfl)|(simp [*,errW_none,errW_some] <;> rfl),by (with_reducible repeat (first|apply ra_|apply rn_|apply rd_));exact rm_ HO_5.out (fun _ hk => trivial),by repeat (first|(with_reducible first|exact HB.out|apply ba_|apply bn_|apply bd_)|exact HB.out)⟩
 ·replace c4:=Bool.eq_false_iff.mpr c4
  subst c4
  have H1 : (some ([] : List Int)) = some r:=by rw [if_neg (show ¬ (false = true) by decide)] at H;exact H
  clear H
  have H:=H1
  clear H1
  obtain rfl:=Option.some.inj H
  go_enter Try.func30,Try.ntmps30
  go_wp2_with (first|((with_reducible refine gate_callee (f:=45) rfl ?_);refine goesL_ (some 12) rfl rfl Try.func45 (by kernel_rfl) rfl #[.int .i64 a0,.slice A1 l1.length c1] rfl (by (try simp only [List.map_toArray,List.map_cons,List.map_nil]);first|done|rfl|(simp only [List.length_drop,List.length_take];rfl)) ?_;(with_reducible refine (impl_CablesValid.calls a0 _ _ l1 false _ ?side1 ?side2 A3.out).mono ?_);(case side1 => repeat (first|exact HR1.out|(with_reducible refine ca_ ?_ _)|(with_reducible refine cn_ ?_ _)|(with_reducible refine cd_ ?_)));(case side2 => exact HC1.out);rintro e w20 ⟨rfl,hb⟩;refine ⟨_,rfl,?_⟩;have n0_:=mk_ (st_ (by repeat (first|(with_reducible first|exact HB.out|apply ba_|apply bn_|apply bd_)|exact HB.out)) hb);clear HB;have HB:=n0_;clear n0_;(try clear hb);(try clear hb2);(try clear hk);(try clear hi)))
  go_ret
  exact ⟨_,by first|rfl|(simp [errW_none,errW_some] <;> rfl)|(simp [*,errW_none,errW_some] <;> rfl),by first|exact Kd.R_nil _ _ _ _ _|exact Kd.N_nil _ _ _ _ _|exact Kd.V_nil _ _ _ _ _|exact Kd.Q_nil _ _ _ _ _|exact Kd.S_nil _ _ _ _ _,by repeat (first|(with_reducible first|exact HB.out|apply ba_|apply bn_|apply bd_)|exact HB.out)⟩

/-- A state of type 84 at block g of W;what its slices lead to came in by w0. -/
def IsS84 (w0 W : World) (g : Nat) (f0 : List Int) (f1 : Int) : Prop:=∃ A0 c0,W.heap[g]? = some (.cells #[.slice A0 f0.length c0,.int .i64 f1] 84 (0,0)) ∧ w0.heap.size ≤ g ∧ Kd.C (Kd.int .u8) w0 A0 f0.length f0
theorem IsS84.grown {w0 W : World} {g : Nat} {f0 : List Int} {f1 : Int} {W1 : World} {row : Option Nat} (h : IsS84 w0 W g f0 f1) (hw : W.grownBy W1 row) (hne : some g ≠ row) : IsS84 w0 W1 g f0 f1:=by
 obtain ⟨A0,c0,hb,hg,hr0⟩:=h
 exact ⟨A0,c0,blk_grown hb hw hne,hg,hr0⟩
theorem IsS84.own_neN {w0 W : World} {g : Nat} {f0 : List Int} {f1 : Int} {α : Type} {d : Kd α} {e : Nat} {base : Nat} {ok : Nat → Prop} {v : Value} {xs : List α} (h : IsS84 w0 W g f0 f1) (ho : Kd.N d e W base ok v xs) (ht : e ≠ 84) : some g ≠ v.ownBlock:=by
 obtain ⟨A0,c0,hb,hg,hr0⟩:=h
 exact Kd.N_ne ho hb ht
theorem IsS84.fresh {w0 W : World} {g : Nat} {f0 : List Int} {f1 : Int} (h : IsS84 w0 W g f0 f1) : ∀ k,W.heap.size ≤ k → k ≠ g:=by
 obtain ⟨A0,c0,hb,hg,hr0⟩:=h
 exact Kd.freshB hb
theorem IsS84.kept {w0 W : World} {g : Nat} {f0 : List Int} {f1 : Int} {W1 : World} {S : Nat → Prop} (h : IsS84 w0 W g f0 f1) (hk : Kept W W1 S) (hne : ¬ S g) : IsS84 w0 W1 g f0 f1:=by
 obtain ⟨A0,c0,hb,hg,hr0⟩:=h
 exact ⟨A0,c0,blk_kept hb hk hne,hg,hr0⟩
theorem IsS84.below {w0 W : World} {g : Nat} {f0 : List Int} {f1 : Int} {W1 : World} (h : IsS84 w0 W g f0 f1) (hw : Below W.heap.size W W1) : IsS84 w0 W1 g f0 f1:=h.grown (grown_of_below hw none) (by simp)
theorem IsS84.alloc {w0 W : World} {g : Nat} {f0 : List Int} {f1 : Int} (h : IsS84 w0 W g f0 f1) (o : Obj) : IsS84 w0 (W.alloc o) g f0 f1:=h.below (ba_ (Below.refl _ _) o)
theorem IsS84.drewN {w0 W : World} {g : Nat} {f0 : List Int} {f1 : Int} (h : IsS84 w0 W g f0 f1) (m : Nat) : IsS84 w0 (W.drewN m) g f0 f1:=h
theorem IsS84.drew {w0 W : World} {g : Nat} {f0 : List Int} {f1 : Int} (h : IsS84 w0 W g f0 f1) : IsS84 w0 W.drew g f0 f1:=h
theorem IsS84.at_ {w0 W : World} {g : Nat} {f0 : List Int} {f1 : Int} {w' : World} {m : Nat} (hq : W.drewN m = w') (h : IsS84 w0 W g f0 f1) : IsS84 w0 w' g f0 f1:=by subst hq;exact IsS84.drewN h m
theorem IsS84.apart {w0 W : World} {g : Nat} {f0 : List Int} {f1 : Int} {α : Type} {d : Kd α} {e : Nat} {base : Nat} {ok : Nat → Prop} {v : Value} {xs : List α} (h : IsS84 w0 W g f0 f1) (ho : d.R e W base ok v xs) (ht : ∀ q,q ∈ e :: d.E → q ≠ 84) : d.R e W base (fun k => ok k ∧ k ≠ g) v xs:=by
 obtain ⟨A0,c0,hb,hg,hr0⟩:=h
 exact rt_ ho hb ht
theorem IsS84.own_ne {w0 W : World} {g : Nat} {f0 : List Int} {f1 : Int} {α : Type} {d : Kd α} {e : Nat} {base : Nat} {ok : Nat → Prop} {v : Value} {xs : List α} (h : IsS84 w0 W g f0 f1) (ho : d.R e W base ok v xs) (ht : e ≠ 84) : some g ≠ v.ownBlock:=by
 obtain ⟨A0,c0,hb,hg,hr0⟩:=h
 exact Kd.R_ne ho hb ht
theorem IsS84.apartQ {w0 W : World} {g : Nat} {f0 : List Int} {f1 : Int} {α : Type} {d : Kd α} {e : Nat} {base : Nat} {ok : Nat → Prop} {v : Value} {xs : List α} (h : IsS84 w0 W g f0 f1) (ho : d.Q e W base ok v xs) (ht : ∀ q,q ∈ e :: d.E → q ≠ 84) : d.Q e W base (fun k => ok k ∧ k ≠ g) v xs:=by
 obtain ⟨A0,c0,hb,hg,hr0⟩:=h
 exact Kd.Q_types ho hb ht
theorem IsS84.own_neQ {w0 W : World} {g : Nat} {f0 : List Int} {f1 : Int} {α : Type} {d : Kd α} {e : Nat} {base : Nat} {ok : Nat → Prop} {v : Value} {xs : List α} (h : IsS84 w0 W g f0 f1) (ho : d.Q e W base ok v xs) (ht : e ≠ 84) : some g ≠ v.ownBlock:=by
 obtain ⟨A0,c0,hb,hg,hr0⟩:=h
 exact Kd.Q_ne ho hb ht
theorem IsS84.apartS {w0 W : World} {g : Nat} {f0 : List Int} {f1 : Int} {α : Type} {d : Kd α} {e : Nat} {base : Nat} {ok : Nat → Prop} {v : Value} {xs : List α} (h : IsS84 w0 W g f0 f1) (ho : d.S e W base ok v xs) (ht : ∀ q,q ∈ e :: d.E → q ≠ 84) : d.S e W base (fun k => ok k ∧ k ≠ g) v xs:=by
 obtain ⟨A0,c0,hb,hg,hr0⟩:=h
 exact Kd.S_types ho hb ht
theorem IsS84.own_neS {w0 W : World} {g : Nat} {f0 : List Int} {f1 : Int} {α : Type} {d : Kd α} {e : Nat} {base : Nat} {ok : Nat → Prop} {v : Value} {xs : List α} (h : IsS84 w0 W g f0 f1) (ho : d.S e W base ok v xs) (ht : e ≠ 84) : some g ≠ v.ownBlock:=by
 obtain ⟨A0,c0,hb,hg,hr0⟩:=h
 exact Kd.S_ne ho hb ht
theorem IsS84.lt {w0 W : World} {g : Nat} {f0 : List Int} {f1 : Int} (h : IsS84 w0 W g f0 f1) : g < W.heap.size:=by
 obtain ⟨A0,c0,hb,hg,hr0⟩:=h
 exact blk_lt hb
theorem IsS84.ge {w0 W : World} {g : Nat} {f0 : List Int} {f1 : Int} (h : IsS84 w0 W g f0 f1) : w0.heap.size ≤ g:=by
 obtain ⟨A0,c0,hb,hg,hr0⟩:=h
 exact hg
theorem IsS84.ne_blk {w0 W : World} {g : Nat} {f0 : List Int} {f1 : Int} {a : Nat} {cs : Array Value} {t : TypeId} {fr : Nat × Nat} (h : IsS84 w0 W g f0 f1) (hb2 : W.heap[a]? = some (.cells cs t fr)) (ht : t ≠ 84) : g ≠ a:=by
 obtain ⟨A0,c0,hb,hg,hr0⟩:=h
 rintro rfl
 rw [hb] at hb2
 injection hb2 with hb2
 injection hb2 with _ ht2
 exact ht ht2.symm
theorem IsS84.far {w0 W : World} {g : Nat} {f0 : List Int} {f1 : Int} {p : Addr} (h : IsS84 w0 W g f0 f1) (hne : g ≠ p.block) (u : Value) : IsS84 w0 (W.setCell p u) g f0 f1:=by
 obtain ⟨A0,c0,hb,hg,hr0⟩:=h
 exact ⟨A0,c0,blk_far hb hne u,hg,hr0⟩
theorem cellS84_0 {W : World} {g : Nat} {A0 : Option Addr} {c0 : Nat} {f0 : List Int} {f1 : Int} (h : W.heap[g]? = some (.cells #[.slice A0 f0.length c0,.int .i64 f1] 84 (0,0))) : W.cell? ⟨g,0,none⟩ = some (.slice A0 f0.length c0):=(bc_ h 0).trans rfl
theorem cellS84_1 {W : World} {g : Nat} {A0 : Option Addr} {c0 : Nat} {f0 : List Int} {f1 : Int} (h : W.heap[g]? = some (.cells #[.slice A0 f0.length c0,.int .i64 f1] 84 (0,0))) : W.cell? ⟨g,1,none⟩ = some (.int .i64 f1):=(bc_ h 1).trans rfl
theorem IsS84.set_1 {w0 W : World} {g : Nat} {f0 : List Int} {f1 : Int} (h : IsS84 w0 W g f0 f1) (x : Int) : IsS84 w0 (W.setCell ⟨g,1,none⟩ (.int .i64 x)) g f0 x:=by
 obtain ⟨A0,c0,hb,hg,hr0⟩:=h
 exact ⟨A0,c0,by simpa using blk_set hb 1 (.int .i64 x),hg,hr0⟩
theorem IsS84.new (w0 W : World) (A0 : Option Addr) (c0 : Nat) (f0 : List Int) (f1 : Int) (hB : Below w0.heap.size w0 W) (hr0 : Kd.C (Kd.int .u8) w0 A0 f0.length f0) : IsS84 w0 (W.alloc (.cells #[.slice A0 f0.length c0,.int .i64 f1] 84)) W.heap.size f0 f1:=⟨A0,c0,by simpa using heap_alloc_new W _,hB.size,hr0⟩

/-! ### spec_l21Open: function 51 -/
def spec_l21Open.f (l0 : List Int) : Option (List Int × Int):=if (l0.length : Int) > 2000 then (if 2000 ≤ (l0.length : Int) then (some (l0.take 2000,0)) else (none)) else (some (l0,0))
set_option maxHeartbeats 8000000 in
set_option maxRecDepth 100000 in
theorem spec_l21Open.calls (A0 : Option Addr) (c0 : Nat) (l0 : List Int) (r1 : List Int) (r2 : Int) (w0 w : World) (hB : Below w0.heap.size w0 w) (hr0 : Kd.C (Kd.int .u8) w0 A0 l0.length l0) (hc0 : l0.length ≤ c0) (h : spec_l21Open.f l0 = some (r1,r2)) :
  Calls Try.prog 51 #[.slice A0 l0.length c0] w fun e w' => ∃ g_ : Nat,e = .returned (.pointer (some ⟨g_,0,none⟩)) ∧ IsS84 w0 w' g_ r1 r2 ∧ Below w0.heap.size w0 w' ∧ Below w.heap.size w w':=by
 have hu84:=Try.underlying84
 have HR0:=mk_ hr0
 have HC0:=mk_ hc0
 clear hr0 hc0
 have HBW:=mk_ (Below.refl w.heap.size w)
 have HW0:=mk_ hB.size
 have HB:=mk_ hB
 clear hB
 have H : (if (l0.length : Int) > 2000 then (if 2000 ≤ (l0.length : Int) then (some (l0.take 2000,0)) else (none)) else (some (l0,0))) = some (r1,r2):=h
 clear h
 by_cases c2 : (l0.length : Int) > 2000
 ·rw [if_pos c2] at H
  have c2b0 : decide (2000 < (l0.length : Int)) = true:=decide_eq_true c2
  have c2b1 : decide (2000 < l0.length) = true:=decide_eq_true (by omega)
  clear c2
  by_cases c3 : 2000 ≤ (l0.length : Int)
  ·rw [if_pos c3] at H
   have c3b0:=eq_true c3
   have c3b1 : decide (2000 ≤ (l0.length : Int)) = true:=decide_eq_true c3
   clear c3
   simp only [Option.some.injEq,Prod.mk.injEq] at H
   obtain ⟨rfl,rfl⟩:=H
   obtain ⟨i04,hi04,_,hsz4,_⟩:=info_parts info5
   obtain ⟨hcut4,hA4,hC4⟩:=print_take_of (P:=Try.prog) (Value.int .u8) 0 34 5 .i64 Try.underlying34 hi04 hsz4 A0 c0 l0 2000 (by omega) (od_ (by first|(with_reducible assumption)|assumption)) HC0.out
   have HR279:=mk_ (Kd.C_of_reads (h1:=fun _ => rfl) (hA4 _ (Kd.reads_of_C HR0.out)))
   have HC279:=mk_ hC4
   clear hA4 hC4 hi04 hsz4
   go_enter Try.func51,Try.ntmps51
   go_wp2_with (first|((with_reducible refine gate_dst (N:=10) rfl ?_);refine box_event ?hg (N:=10) ?hd (cs:=#[.slice A0 (l0.take 2000).length c0,.int .i64 0]) (t:=84) ?hr ?_;(case hd => rfl);(case hg => rfl);(case hr => first|(go_simp;done)|(go_simp;rfl));intro gb280 hg w5 hbox hb;have n0_:=mk_ (st_ HBW.out hb);have n1_:=mk_ (st_ (by repeat (first|(with_reducible first|exact HB.out|apply ba_|apply bn_|apply bd_)|exact HB.out)) hb);have n2_:=mk_ (hbox);have n3_:=mk_ ((by rw [hg];exact (bz_ (by repeat (first|(with_reducible first|exact HBW.out|apply ba_|apply bn_|apply bd_)|exact HBW.out))) : w.heap.size ≤ gb280));have n4_:=mk_ ((Nat.le_trans HW0.out (by rw [hg];exact (bz_ (by repeat (first|(with_reducible first|exact HBW.out|apply ba_|apply bn_|apply bd_)|exact HBW.out))) : w.heap.size ≤ gb280) : w0.heap.size ≤ gb280));clear HBW;clear HB;have HBW:=n0_;have HB:=n1_;have BK280:=n2_;have GW280:=n3_;have GE280:=n4_;clear n0_ n1_ n2_ n3_ n4_;clear hb hbox hg))
   go_ret
   exact ⟨_,rfl,(show IsS84 w0 _ gb280 (l0.take 2000) 0 from ⟨_,_,by (with_reducible repeat (first|refine kn_ ?_ _|refine kd_ ?_|refine ka_ ?_ _));exact BK280.out,GE280.out,HR279.out⟩),by repeat (first|(with_reducible first|exact HB.out|apply ba_|apply bn_|apply bd_|refine bs_ ?_ GE280.out)|exact HB.out),by repeat (first|(with_reducible first|exact HBW.out|apply ba_|apply bn_|apply bd_|refine bs_ ?_ GW280.out)|exact HBW.out)⟩
  ·rw [if_neg c3] at H
   exact absurd H (by simp)
 ·rw [if_neg c2] at H
  have c2b0 : decide (2000 < (l0.length : Int)) = false:=decide_eq_false c2
  have c2b1 : decide (2000 < l0.length) = false:=decide_eq_false (by omega)
  clear c2
  simp only [Option.some.injEq,Prod.mk.injEq] at H
  obtain ⟨rfl,rfl⟩:=H
  go_enter Try.func51,Try.ntmps51
  go_wp2_with (first|((with_reducible refine gate_dst (N:=10) rfl ?_);refine box_event ?hg (N:=10) ?hd (cs:=#[.slice A0 l0.length c0,.int .i64 0]) (t:=84) ?hr ?_;(case hd => rfl);(case hg => rfl);(case hr => first|(go_simp;done)|(go_simp;rfl));intro gb281 hg w6 hbox hb;have n0_:=mk_ (st_ HBW.out hb);have n1_:=mk_ (st_ (by repeat (first|(with_reducible first|exact HB.out|apply ba_|apply bn_|apply bd_)|exact HB.out)) hb);have n2_:=mk_ (hbox);have n3_:=mk_ ((by rw [hg];exact (bz_ (by repeat (first|(with_reducible first|exact HBW.out|apply ba_|apply bn_|apply bd_)|exact HBW.out))) : w.heap.size ≤ gb281));have n4_:=mk_ ((Nat.le_trans HW0.out (by rw [hg];exact (bz_ (by repeat (first|(with_reducible first|exact HBW.out|apply ba_|apply bn_|apply bd_)|exact HBW.out))) : w.heap.size ≤ gb281) : w0.heap.size ≤ gb281));clear HBW;clear HB;have HBW:=n0_;have HB:=n1_;have BK281:=n2_;have GW281:=n3_;have GE281:=n4_;clear n0_ n1_ n2_ n3_ n4_;clear hb hbox hg))
  go_ret
  exact ⟨_,rfl,(show IsS84 w0 _ gb281 l0 0 from ⟨_,_,by (with_reducible repeat (first|refine kn_ ?_ _|refine kd_ ?_|refine ka_ ?_ _));exact BK281.out,GE281.out,HR0.out⟩),by repeat (first|(with_reducible first|exact HB.out|apply ba_|apply bn_|apply bd_|refine bs_ ?_ GE281.out)|exact HB.out),by repeat (first|(with_reducible first|exact HBW.out|apply ba_|apply bn_|apply bd_|refine bs_ ?_ GW281.out)|exact HBW.out)⟩

/-! ### spec_l21Rd_pick: function 53 -/
def spec_l21Rd_pick.j0 : Nat → Int → Bool → List Int → Int → Option (Int × Int)
 | 0,_,_,_,_ => none
 | k + 1,x1,x24,x1000,x1001 => if x24 = true then (some (0,x1001)) else (if (wrap64 (x1001 - 1)) < (x1000.length : Int) then (if 0 ≤ (wrap64 (x1001 - 1)) then (if x1 = 0 then (none) else (some (Int.tmod (wrap64 (rd x1000 (wrap64 (x1001 - 1)))) x1,x1001))) else (none)) else (if (x1000.length : Int) = 0 then (none) else (if 0 ≤ (Int.tmod (wrap64 (x1001 - 1)) (x1000.length : Int)) then (if (Int.tmod (wrap64 (x1001 - 1)) (x1000.length : Int)) < (x1000.length : Int) then (if 0 ≤ (Int.tmod (wrap64 ((wrap64 ((wrap64 (x1001 - 1)) * 7)) + 3)) (x1000.length : Int)) then (if (Int.tmod (wrap64 ((wrap64 ((wrap64 (x1001 - 1)) * 7)) + 3)) (x1000.length : Int)) < (x1000.length : Int) then (if x1 = 0 then (none) else (some (Int.tmod (Go.bits .xor .i64 (wrap64 ((wrap64 ((wrap64 ((wrap64 ((wrap64 (rd x1000 (Int.tmod (wrap64 (x1001 - 1)) (x1000.length : Int)))) * 131)) + (wrap64 ((wrap64 (rd x1000 (Int.tmod (wrap64 ((wrap64 ((wrap64 (x1001 - 1)) * 7)) + 3)) (x1000.length : Int)))) * 1117)))) + (wrap64 ((wrap64 (x1001 - 1)) * 29)))) + (wrap64 ((wrap64 (Int.tdiv (wrap64 (x1001 - 1)) (x1000.length : Int))) * 53)))) (wrap64 (Int.tdiv (wrap64 ((wrap64 ((wrap64 ((wrap64 ((wrap64 (rd x1000 (Int.tmod (wrap64 (x1001 - 1)) (x1000.length : Int)))) * 131)) + (wrap64 ((wrap64 (rd x1000 (Int.tmod (wrap64 ((wrap64 ((wrap64 (x1001 - 1)) * 7)) + 3)) (x1000.length : Int)))) * 1117)))) + (wrap64 ((wrap64 (x1001 - 1)) * 29)))) + (wrap64 ((wrap64 (Int.tdiv (wrap64 (x1001 - 1)) (x1000.length : Int))) * 53)))) 64))) x1,x1001))) else (none)) else (none)) else (none)) else (none))))
def spec_l21Rd_pick.f (k : Nat) (s0_0 : List Int) (s0_1 : Int) (a1 : Int) : Option (Int × Int):=if a1 < 1 then (spec_l21Rd_pick.j0 k a1 true s0_0 (wrap64 (s0_1 + 1))) else (spec_l21Rd_pick.j0 k a1 ((s0_0.length : Int) == 0) s0_0 (wrap64 (s0_1 + 1)))
theorem spec_l21Rd_pick.mono_l : ∀ k,(∀ y0 y1 y2 y3,LeO (spec_l21Rd_pick.j0 k y0 y1 y2 y3) (spec_l21Rd_pick.j0 (k + 1) y0 y1 y2 y3))
 | 0 => fun _ _ _ _ r h => by simp [spec_l21Rd_pick.j0] at h
 | k + 1 => by
  have ih0:=spec_l21Rd_pick.mono_l k
  ·intro y0 y1 y2 y3
   unfold spec_l21Rd_pick.j0
   repeat' first
   | (with_reducible exact ih0 _ _ _ _)
   | (with_reducible exact LeO.refl _)
   | (with_reducible exact LeO.none _)
   | (with_reducible refine LeO.ite ?_ ?_)
   | (with_reducible refine LeO.bind ?_ (fun _ => ?_))
   | exact ih0 _ _ _ _
   | exact LeO.none _
   | refine LeO.ite ?_ ?_
   | refine LeO.bind ?_ (fun _ => ?_)
theorem spec_l21Rd_pick.mono : ∀ a0 a1 a2 k,LeO (spec_l21Rd_pick.f k a0 a1 a2) (spec_l21Rd_pick.f (k + 1) a0 a1 a2):=by
 intro a0 a1 a2 k
 have ih0:=spec_l21Rd_pick.mono_l k
 unfold spec_l21Rd_pick.f
 repeat' first
   | (with_reducible exact ih0 _ _ _ _)
   | (with_reducible exact LeO.refl _)
   | (with_reducible exact LeO.none _)
   | (with_reducible refine LeO.ite ?_ ?_)
   | (with_reducible refine LeO.bind ?_ (fun _ => ?_))
   | exact ih0 _ _ _ _
   | exact LeO.none _
   | refine LeO.ite ?_ ?_
   | refine LeO.bind ?_ (fun _ => ?_)
set_option maxHeartbeats 8000000 in
set_option maxRecDepth 100000 in
theorem spec_l21Rd_pick.calls (k : Nat) (g : Nat) (s0_0 : List Int) (s0_1 : Int) (a1 : Int) (r1 : Int) (r2 : Int) (w0 w : World) (hI : IsS84 w0 w g s0_0 s0_1) (hB : Below w0.heap.size w0 w) (h : spec_l21Rd_pick.f k s0_0 s0_1 a1 = some (r1,r2)) :
  Calls Try.prog 53 #[.pointer (some ⟨g,0,none⟩),.int .i64 a1] w fun e w' => e = .returned (.int .i64 r1) ∧ IsS84 w0 w' g s0_0 r2 ∧ Below w0.heap.size w0 w' ∧ KeepBut w w' g none:=by
 have HI0:=mk_ hI
 have HK:=mk_ (KeepBut.refl w g none)
 have HL:=mk_ hB.size
 clear hI
 have HW0:=mk_ hB.size
 have HB:=mk_ hB
 clear hB
 have H : (if a1 < 1 then (spec_l21Rd_pick.j0 k a1 true s0_0 (wrap64 (s0_1 + 1))) else (spec_l21Rd_pick.j0 k a1 ((s0_0.length : Int) == 0) s0_0 (wrap64 (s0_1 + 1)))) = some (r1,r2):=h
 clear h
 have HC3:=mk_ H
 clear H
 obtain ⟨ASz4_0,cSz4_0,HGz4,hgz4,HSz4_0⟩:=HI0.out
 have hcz4_0:=cellS84_0 HGz4
 have hcz4_1:=cellS84_1 HGz4
 have hfz4_1:=bf_ HGz4 1
 clear HGz4 hgz4
 go_enter Try.func53,Try.ntmps53
 go_upto_region 2 with (fail)
 repeat (go_quiet (fail);go_upto_region 2 with (fail))
 go_cut [24] (fun v24 wc => ∃ (kq : Nat) (x24_2 : Bool),v24 = .bool x24_2 ∧ Aside0 (spec_l21Rd_pick.j0 kq a1 x24_2 s0_0 (wrap64 (s0_1 + 1)) = some (r1,r2)) ∧ Aside0 (kq ≤ k) ∧ Aside0 (IsS84 w0 wc g s0_0 (wrap64 (s0_1 + 1))) ∧ Aside0 (KeepBut w wc g none) ∧ Aside0 (Below w0.heap.size w0 wc))
 case first =>
  have H:=HC3.out
  clear HC3
  by_cases c5 : a1 < 1
  ·rw [if_pos c5] at H
   have c5b0 : decide (a1 < 1) = true:=decide_eq_true c5
   clear c5
   (first|rw [c5b0]|(simp only [i64_w,i32_w];rw [c5b0])|skip)
   have H':=mk_ H
   clear H
   go_wp2
   repeat (go_quiet (fail);try go_wp2)
   go_meet
   case rel => exact ⟨_,(true),(by first|rfl|(simp;done)|(simp [*];done)),H',⟨by first|omega|exact Nat.le_refl _⟩,⟨by repeat (first|(with_reducible first|exact HI0.out|apply IsS84.alloc|apply IsS84.drewN|apply IsS84.drew|apply IsS84.set_1)|exact HI0.out)⟩,⟨by repeat (first|(with_reducible first|exact HK.out|apply KeepBut.set_|apply keep_drewN|apply keep_drew|apply keep_alloc)|exact HK.out)⟩,⟨by repeat (first|(with_reducible first|exact HB.out|apply ba_|apply bn_|apply bd_|refine bs_ ?_ (IsS84.ge HI0.out))|exact HB.out)⟩⟩
  ·rw [if_neg c5] at H
   have c5b0 : decide (a1 < 1) = false:=decide_eq_false c5
   clear c5
   (first|rw [c5b0]|(simp only [i64_w,i32_w];rw [c5b0])|skip)
   have H':=mk_ H
   clear H
   obtain ⟨ASz6_0,cSz6_0,HGz6,hgz6,HSz6_0⟩:=HI0.out
   have hcz6_0:=cellS84_0 HGz6
   have hcz6_1:=cellS84_1 HGz6
   have hfz6_1:=bf_ HGz6 1
   clear HGz6 hgz6
   go_wp2
   repeat (go_quiet (fail);try go_wp2)
   go_meet
   case rel => exact ⟨_,(((s0_0.length : Int) == 0)),(by first|rfl|(simp;done)|(simp [*];done)),H',⟨by first|omega|exact Nat.le_refl _⟩,⟨by repeat (first|(with_reducible first|exact HI0.out|apply IsS84.alloc|apply IsS84.drewN|apply IsS84.drew|apply IsS84.set_1)|exact HI0.out)⟩,⟨by repeat (first|(with_reducible first|exact HK.out|apply KeepBut.set_|apply keep_drewN|apply keep_drew|apply keep_alloc)|exact HK.out)⟩,⟨by repeat (first|(with_reducible first|exact HB.out|apply ba_|apply bn_|apply bd_|refine bs_ ?_ (IsS84.ge HI0.out))|exact HB.out)⟩⟩
 case rest =>
  clear HC3
  try clear p2
  try clear c5
  try clear c5b0
  try clear p6
  try clear hcz4_0
  try clear hcz4_1
  try clear hcz6_0
  try clear hcz6_1
  try clear hfz4_1
  try clear hfz6_1
  obtain ⟨kq,x24_2,rfl,HA,HJ2,HI0,HK,HB⟩:=hcut
  cases kq with
  | zero => exact absurd HA.out (by simp [spec_l21Rd_pick.j0])
  | succ kj2 =>
   have H:=HA.out
   clear HA
   simp only [spec_l21Rd_pick.j0] at H
   by_cases c7 : x24_2 = true
   ·subst c7
    have H1 : (some (0,(wrap64 (s0_1 + 1)))) = some (r1,r2):=by rw [if_pos rfl] at H;exact H
    clear H
    have H:=H1
    clear H1
    simp only [Option.some.injEq,Prod.mk.injEq] at H
    obtain ⟨rfl,rfl⟩:=H
    go_wp2
    repeat (go_quiet (fail);try go_wp2)
    go_ret
    exact ⟨by first|rfl|(simp [errW_none,errW_some] <;> rfl)|(simp [*,errW_none,errW_some] <;> rfl),by repeat (first|(with_reducible first|exact HI0.out|apply IsS84.alloc|apply IsS84.drewN|apply IsS84.drew|apply IsS84.set_1)|exact HI0.out),by repeat (first|(with_reducible first|exact HB.out|apply ba_|apply bn_|apply bd_|refine bs_ ?_ (IsS84.ge HI0.out))|exact HB.out),by repeat (first|(with_reducible first|exact HK.out|apply KeepBut.set_|apply keep_drewN|apply keep_drew|apply keep_alloc)|exact HK.out)⟩
   ·replace c7:=Bool.eq_false_iff.mpr c7
    subst c7
    have H1 : (if (wrap64 ((wrap64 (s0_1 + 1)) - 1)) < (s0_0.length : Int) then (if 0 ≤ (wrap64 ((wrap64 (s0_1 + 1)) - 1)) then (if a1 = 0 then (none) else (some (Int.tmod (wrap64 (rd s0_0 (wrap64 ((wrap64 (s0_1 + 1)) - 1)))) a1,(wrap64 (s0_1 + 1))))) else (none)) else (if (s0_0.length : Int) = 0 then (none) else (if 0 ≤ (Int.tmod (wrap64 ((wrap64 (s0_1 + 1)) - 1)) (s0_0.length : Int)) then (if (Int.tmod (wrap64 ((wrap64 (s0_1 + 1)) - 1)) (s0_0.length : Int)) < (s0_0.length : Int) then (if 0 ≤ (Int.tmod (wrap64 ((wrap64 ((wrap64 ((wrap64 (s0_1 + 1)) - 1)) * 7)) + 3)) (s0_0.length : Int)) then (if (Int.tmod (wrap64 ((wrap64 ((wrap64 ((wrap64 (s0_1 + 1)) - 1)) * 7)) + 3)) (s0_0.length : Int)) < (s0_0.length : Int) then (if a1 = 0 then (none) else (some (Int.tmod (Go.bits .xor .i64 (wrap64 ((wrap64 ((wrap64 ((wrap64 ((wrap64 (rd s0_0 (Int.tmod (wrap64 ((wrap64 (s0_1 + 1)) - 1)) (s0_0.length : Int)))) * 131)) + (wrap64 ((wrap64 (rd s0_0 (Int.tmod (wrap64 ((wrap64 ((wrap64 ((wrap64 (s0_1 + 1)) - 1)) * 7)) + 3)) (s0_0.length : Int)))) * 1117)))) + (wrap64 ((wrap64 ((wrap64 (s0_1 + 1)) - 1)) * 29)))) + (wrap64 ((wrap64 (Int.tdiv (wrap64 ((wrap64 (s0_1 + 1)) - 1)) (s0_0.length : Int))) * 53)))) (wrap64 (Int.tdiv (wrap64 ((wrap64 ((wrap64 ((wrap64 ((wrap64 (rd s0_0 (Int.tmod (wrap64 ((wrap64 (s0_1 + 1)) - 1)) (s0_0.length : Int)))) * 131)) + (wrap64 ((wrap64 (rd s0_0 (Int.tmod (wrap64 ((wrap64 ((wrap64 ((wrap64 (s0_1 + 1)) - 1)) * 7)) + 3)) (s0_0.length : Int)))) * 1117)))) + (wrap64 ((wrap64 ((wrap64 (s0_1 + 1)) - 1)) * 29)))) + (wrap64 ((wrap64 (Int.tdiv (wrap64 ((wrap64 (s0_1 + 1)) - 1)) (s0_0.length : Int))) * 53)))) 64))) a1,(wrap64 (s0_1 + 1))))) else (none)) else (none)) else (none)) else (none)))) = some (r1,r2):=by rw [if_neg (show ¬ (false = true) by decide)] at H;exact H
    clear H
    have H:=H1
    clear H1
    by_cases c8 : (wrap64 ((wrap64 (s0_1 + 1)) - 1)) < (s0_0.length : Int)
    ·rw [if_pos c8] at H
     have c8b0 : decide ((wrap64 ((wrap64 (s0_1 + 1)) - 1)) < (s0_0.length : Int)) = true:=decide_eq_true c8
     clear c8
     obtain ⟨ji9,hji9⟩ : ∃ j_ : Int,(wrap64 ((wrap64 (s0_1 + 1)) - 1)) = j_:=⟨_,rfl⟩
     replace H : (if 0 ≤ (ji9) then (if a1 = 0 then (none) else (some (Int.tmod (wrap64 (rd s0_0 (ji9))) a1,(wrap64 (s0_1 + 1))))) else (none)) = some (r1,r2):=by first|(rw [hji9] at H;exact H)|(simp only [hji9] at H ⊢;exact H)
     (try rw [hji9] at c8b0)
     have hji9w : (IntKind.i64.wrap ((wrap64 (s0_1 + 1)) - 1)) = ji9:=(i64_w _).trans hji9
     by_cases c10 : 0 ≤ (ji9)
     ·rw [if_pos c10] at H
      have c10b0 : decide (0 ≤ (ji9)) = true:=decide_eq_true c10
      clear c10
      by_cases c11 : a1 = 0
      ·rw [if_pos c11] at H
       exact absurd H (by simp)
      ·rw [if_neg c11] at H
       have c11b0 : (a1 == 0) = false:=beq_eq_false_iff_ne.mpr c11
       have c11b1 : (a1 != 0) = true:=bne_iff_ne.mpr c11
       simp only [Option.some.injEq,Prod.mk.injEq] at H
       obtain ⟨rfl,rfl⟩:=H
       obtain ⟨ASz12_0,cSz12_0,HGz12,hgz12,HSz12_0⟩:=HI0.out
       have hcz12_0:=cellS84_0 HGz12
       have hcz12_1:=cellS84_1 HGz12
       have hfz12_1:=bf_ HGz12 1
       clear HGz12 hgz12
       have p282 : 0 ≤ ((ji9) : Int):=od_ (by first|(with_reducible assumption)|assumption)
       have q282 : (ji9) < (s0_0.length : Int):=od_ (by first|(with_reducible assumption)|assumption)
       obtain ⟨ad282,e282,hx282_0⟩:=Kd.at_int HSz12_0 (ji9) p282 q282
       cases e282
       replace hx282_0:=pw_cell_below HB.out hx282_0
       replace p282:=eq_true p282
       replace q282:=eq_true q282
       go_wp2
       repeat (go_quiet (fail);try go_wp2)
       go_ret
       exact ⟨by first|rfl|(simp [errW_none,errW_some] <;> rfl)|(simp only [← hji9];first|rfl|(simp [errW_none,errW_some] <;> rfl))|(simp [*,errW_none,errW_some] <;> rfl),by repeat (first|(with_reducible first|exact HI0.out|apply IsS84.alloc|apply IsS84.drewN|apply IsS84.drew|apply IsS84.set_1)|exact HI0.out),by repeat (first|(with_reducible first|exact HB.out|apply ba_|apply bn_|apply bd_|refine bs_ ?_ (IsS84.ge HI0.out))|exact HB.out),by repeat (first|(with_reducible first|exact HK.out|apply KeepBut.set_|apply keep_drewN|apply keep_drew|apply keep_alloc)|exact HK.out)⟩
     ·rw [if_neg c10] at H
      exact absurd H (by simp)
    ·rw [if_neg c8] at H
     have c8b0 : decide ((wrap64 ((wrap64 (s0_1 + 1)) - 1)) < (s0_0.length : Int)) = false:=decide_eq_false c8
     clear c8
     by_cases c13 : (s0_0.length : Int) = 0
     ·rw [if_pos c13] at H
      exact absurd H (by simp)
     ·rw [if_neg c13] at H
      have c13b0 : ((s0_0.length : Int) == 0) = false:=beq_eq_false_iff_ne.mpr c13
      have c13b1 : ((s0_0.length : Int) != 0) = true:=bne_iff_ne.mpr c13
      have c13b2 : ¬ (s0_0 = []):=fun h_ => c13 (by rw [h_];rfl)
      obtain ⟨ji14,hji14⟩ : ∃ j_ : Int,(Int.tmod (wrap64 ((wrap64 (s0_1 + 1)) - 1)) (s0_0.length : Int)) = j_:=⟨_,rfl⟩
      replace H : (if 0 ≤ (ji14) then (if (ji14) < (s0_0.length : Int) then (if 0 ≤ (Int.tmod (wrap64 ((wrap64 ((wrap64 ((wrap64 (s0_1 + 1)) - 1)) * 7)) + 3)) (s0_0.length : Int)) then (if (Int.tmod (wrap64 ((wrap64 ((wrap64 ((wrap64 (s0_1 + 1)) - 1)) * 7)) + 3)) (s0_0.length : Int)) < (s0_0.length : Int) then (if a1 = 0 then (none) else (some (Int.tmod (Go.bits .xor .i64 (wrap64 ((wrap64 ((wrap64 ((wrap64 ((wrap64 (rd s0_0 (ji14))) * 131)) + (wrap64 ((wrap64 (rd s0_0 (Int.tmod (wrap64 ((wrap64 ((wrap64 ((wrap64 (s0_1 + 1)) - 1)) * 7)) + 3)) (s0_0.length : Int)))) * 1117)))) + (wrap64 ((wrap64 ((wrap64 (s0_1 + 1)) - 1)) * 29)))) + (wrap64 ((wrap64 (Int.tdiv (wrap64 ((wrap64 (s0_1 + 1)) - 1)) (s0_0.length : Int))) * 53)))) (wrap64 (Int.tdiv (wrap64 ((wrap64 ((wrap64 ((wrap64 ((wrap64 (rd s0_0 (ji14))) * 131)) + (wrap64 ((wrap64 (rd s0_0 (Int.tmod (wrap64 ((wrap64 ((wrap64 ((wrap64 (s0_1 + 1)) - 1)) * 7)) + 3)) (s0_0.length : Int)))) * 1117)))) + (wrap64 ((wrap64 ((wrap64 (s0_1 + 1)) - 1)) * 29)))) + (wrap64 ((wrap64 (Int.tdiv (wrap64 ((wrap64 (s0_1 + 1)) - 1)) (s0_0.length : Int))) * 53)))) 64))) a1,(wrap64 (s0_1 + 1))))) else (none)) else (none)) else (none)) else (none)) = some (r1,r2):=by first|(rw [hji14] at H;exact H)|(simp only [hji14] at H ⊢;exact H)
      by_cases c15 : 0 ≤ (ji14)
      ·rw [if_pos c15] at H
       have c15b0 : decide (0 ≤ (ji14)) = true:=decide_eq_true c15
       clear c15
       by_cases c16 : (ji14) < (s0_0.length : Int)
       ·rw [if_pos c16] at H
        have c16b0 : decide ((ji14) < (s0_0.length : Int)) = true:=decide_eq_true c16
        clear c16
        obtain ⟨ji17,hji17⟩ : ∃ j_ : Int,(Int.tmod (wrap64 ((wrap64 ((wrap64 ((wrap64 (s0_1 + 1)) - 1)) * 7)) + 3)) (s0_0.length : Int)) = j_:=⟨_,rfl⟩
        replace H : (if 0 ≤ (ji17) then (if (ji17) < (s0_0.length : Int) then (if a1 = 0 then (none) else (some (Int.tmod (Go.bits .xor .i64 (wrap64 ((wrap64 ((wrap64 ((wrap64 ((wrap64 (rd s0_0 (ji14))) * 131)) + (wrap64 ((wrap64 (rd s0_0 (ji17))) * 1117)))) + (wrap64 ((wrap64 ((wrap64 (s0_1 + 1)) - 1)) * 29)))) + (wrap64 ((wrap64 (Int.tdiv (wrap64 ((wrap64 (s0_1 + 1)) - 1)) (s0_0.length : Int))) * 53)))) (wrap64 (Int.tdiv (wrap64 ((wrap64 ((wrap64 ((wrap64 ((wrap64 (rd s0_0 (ji14))) * 131)) + (wrap64 ((wrap64 (rd s0_0 (ji17))) * 1117)))) + (wrap64 ((wrap64 ((wrap64 (s0_1 + 1)) - 1)) * 29)))) + (wrap64 ((wrap64 (Int.tdiv (wrap64 ((wrap64 (s0_1 + 1)) - 1)) (s0_0.length : Int))) * 53)))) 64))) a1,(wrap64 (s0_1 + 1))))) else (none)) else (none)) = some (r1,r2):=by first|(rw [hji17] at H;exact H)|(simp only [hji17] at H ⊢;exact H)
        by_cases c18 : 0 ≤ (ji17)
        ·rw [if_pos c18] at H
         have c18b0 : decide (0 ≤ (ji17)) = true:=decide_eq_true c18
         clear c18
         by_cases c19 : (ji17) < (s0_0.length : Int)
         ·rw [if_pos c19] at H
          have c19b0 : decide ((ji17) < (s0_0.length : Int)) = true:=decide_eq_true c19
          clear c19
          by_cases c20 : a1 = 0
          ·rw [if_pos c20] at H
           exact absurd H (by simp)
          ·rw [if_neg c20] at H
           have c20b0 : (a1 == 0) = false:=beq_eq_false_iff_ne.mpr c20
           have c20b1 : (a1 != 0) = true:=bne_iff_ne.mpr c20
           simp only [Option.some.injEq,Prod.mk.injEq] at H
           obtain ⟨rfl,rfl⟩:=H
           obtain ⟨ASz21_0,cSz21_0,HGz21,hgz21,HSz21_0⟩:=HI0.out
           have hcz21_0:=cellS84_0 HGz21
           have hcz21_1:=cellS84_1 HGz21
           have hfz21_1:=bf_ HGz21 1
           clear HGz21 hgz21
           have p283 : 0 ≤ ((ji14) : Int):=od_ (by first|(with_reducible assumption)|assumption)
           have q283 : (ji14) < (s0_0.length : Int):=od_ (by first|(with_reducible assumption)|assumption)
           obtain ⟨ad283,e283,hx283_0⟩:=Kd.at_int HSz21_0 (ji14) p283 q283
           cases e283
           replace hx283_0:=pw_cell_below HB.out hx283_0
           replace p283:=eq_true p283
           replace q283:=eq_true q283
           have p284 : 0 ≤ ((ji17) : Int):=od_ (by first|(with_reducible assumption)|assumption)
           have q284 : (ji17) < (s0_0.length : Int):=od_ (by first|(with_reducible assumption)|assumption)
           obtain ⟨ad284,e284,hx284_0⟩:=Kd.at_int HSz21_0 (ji17) p284 q284
           obtain rfl : ad283 = ad284:=(by injection e284)
           replace hx284_0:=pw_cell_below HB.out hx284_0
           replace p284:=eq_true p284
           replace q284:=eq_true q284
           go_wp2
           repeat (go_quiet (fail);try go_wp2)
           go_ret
           exact ⟨by first|rfl|(simp [errW_none,errW_some] <;> rfl)|(simp only [← hji14,← hji17];first|rfl|(simp [errW_none,errW_some] <;> rfl))|(simp [*,errW_none,errW_some] <;> rfl),by repeat (first|(with_reducible first|exact HI0.out|apply IsS84.alloc|apply IsS84.drewN|apply IsS84.drew|apply IsS84.set_1)|exact HI0.out),by repeat (first|(with_reducible first|exact HB.out|apply ba_|apply bn_|apply bd_|refine bs_ ?_ (IsS84.ge HI0.out))|exact HB.out),by repeat (first|(with_reducible first|exact HK.out|apply KeepBut.set_|apply keep_drewN|apply keep_drew|apply keep_alloc)|exact HK.out)⟩
         ·rw [if_neg c19] at H
          exact absurd H (by simp)
        ·rw [if_neg c18] at H
         exact absurd H (by simp)
       ·rw [if_neg c16] at H
        exact absurd H (by simp)
      ·rw [if_neg c15] at H
       exact absurd H (by simp)

/-! ### spec_l21Rd_num: function 78 -/
def spec_l21Rd_num.f (k : Nat) (s0_0 : List Int) (s0_1 : Int) (l1 : List Int) : Option (Int × Int):=(spec_l21Rd_pick.f k s0_0 s0_1 (l1.length : Int)).bind fun bt285 => (if 0 ≤ bt285.1 then (if bt285.1 < (l1.length : Int) then (some (rd l1 bt285.1,bt285.2)) else (none)) else (none))
theorem spec_l21Rd_num.mono : ∀ a0 a1 a2 k,LeO (spec_l21Rd_num.f k a0 a1 a2) (spec_l21Rd_num.f (k + 1) a0 a1 a2):=by
 intro a0 a1 a2 k
 unfold spec_l21Rd_num.f
 repeat' first
   | (with_reducible exact spec_l21Rd_pick.mono _ _ _ _)
   | (with_reducible exact LeO.refl _)
   | (with_reducible exact LeO.none _)
   | (with_reducible refine LeO.ite ?_ ?_)
   | (with_reducible refine LeO.bind ?_ (fun _ => ?_))
   | exact spec_l21Rd_pick.mono _ _ _ _
   | exact LeO.none _
   | refine LeO.ite ?_ ?_
   | refine LeO.bind ?_ (fun _ => ?_)
set_option maxHeartbeats 8000000 in
set_option maxRecDepth 100000 in
theorem spec_l21Rd_num.calls (k : Nat) (g : Nat) (s0_0 : List Int) (s0_1 : Int) (A1 : Option Addr) (c1 : Nat) (l1 : List Int) (r1 : Int) (r2 : Int) (w0 w : World) (hI : IsS84 w0 w g s0_0 s0_1) (hB : Below w0.heap.size w0 w) (hr1 : Kd.C (Kd.int .i64) w A1 l1.length l1) (hc1 : l1.length ≤ c1) (hf1 : ∀ ad,A1 = some ad → 0 < l1.length → ad.block ≠ g) (h : spec_l21Rd_num.f k s0_0 s0_1 l1 = some (r1,r2)) :
  Calls Try.prog 78 #[.pointer (some ⟨g,0,none⟩),.slice A1 l1.length c1] w fun e w' => e = .returned (.int .i64 r1) ∧ IsS84 w0 w' g s0_0 r2 ∧ Below w0.heap.size w0 w' ∧ KeepBut w w' g none:=by
 have HR1:=mk_ hr1
 have HC1:=mk_ hc1
 clear hr1 hc1
 have HI0:=mk_ hI
 have HK:=mk_ (KeepBut.refl w g none)
 have HL:=mk_ hB.size
 clear hI
 have HW0:=mk_ hB.size
 have HB:=mk_ hB
 clear hB
 have H : ((spec_l21Rd_pick.f k s0_0 s0_1 (l1.length : Int)).bind fun bt285 => (if 0 ≤ bt285.1 then (if bt285.1 < (l1.length : Int) then (some (rd l1 bt285.1,bt285.2)) else (none)) else (none))) = some (r1,r2):=h
 clear h
 replace H:=Option.bind_eq_some_iff.mp H
 obtain ⟨⟨t285,t286⟩,A30,H⟩:=H
 replace H : (if 0 ≤ t285 then (if t285 < (l1.length : Int) then (some (rd l1 t285,t286)) else (none)) else (none)) = some (r1,r2):=H
 have A3:=mk_ A30
 clear A30
 by_cases c4 : 0 ≤ t285
 ·rw [if_pos c4] at H
  have c4b0 : decide (0 ≤ t285) = true:=decide_eq_true c4
  clear c4
  by_cases c5 : t285 < (l1.length : Int)
  ·rw [if_pos c5] at H
   have c5b0 : decide (t285 < (l1.length : Int)) = true:=decide_eq_true c5
   clear c5
   simp only [Option.some.injEq,Prod.mk.injEq] at H
   obtain ⟨rfl,rfl⟩:=H
   go_enter Try.func78,Try.ntmps78
   go_wp2_with (first|((with_reducible refine gate_callee (f:=53) rfl ?_);refine goesL_ (some 9) rfl rfl Try.func53 (by kernel_rfl) rfl #[.pointer (some ⟨g,0,none⟩),.int .i64 (l1.length : Int)] rfl (by (try simp only [List.map_toArray,List.map_cons,List.map_nil]);first|done|rfl|(simp only [List.length_drop,List.length_take];rfl)) ?_;(with_reducible refine (spec_l21Rd_pick.calls k g s0_0 s0_1 (l1.length : Int) t285 t286 w0 _ ?side1 ?side2 A3.out).mono ?_);(case side1 => repeat (first|(with_reducible first|exact HI0.out|apply IsS84.alloc|apply IsS84.drewN|apply IsS84.drew|apply IsS84.set_1)|exact HI0.out));(case side2 => repeat (first|(with_reducible first|exact HB.out|apply ba_|apply bn_|apply bd_|refine bs_ ?_ (IsS84.ge HI0.out))|exact HB.out));rintro e w6 ⟨rfl,hi,hb,hk⟩;refine ⟨_,rfl,?_⟩;have n0_:=mk_ (KeepBut.trans (by repeat (first|(with_reducible first|exact HK.out|apply KeepBut.set_|apply keep_drewN|apply keep_drew|apply keep_alloc)|exact HK.out)) hk (.inl rfl));have n1_:=mk_ (hb);have n2_:=mk_ (hi);clear HK;clear HB;clear HI0;have HK:=n0_;have HB:=n1_;have HI0:=n2_;clear n0_ n1_ n2_;(try clear hb);(try clear hb2);(try clear hk);(try clear hi);have p287 : 0 ≤ (t285 : Int):=od_ (by first|(with_reducible assumption)|assumption);have q287 : t285 < (l1.length : Int):=od_ (by first|(with_reducible assumption)|assumption);obtain ⟨ad287,e287,hx287_0⟩:=Kd.at_int HR1.out t285 p287 q287;cases e287;replace hx287_0:=keep_cell HK.out hx287_0 (by first|(rw [add_block];exact hf1 _ rfl (by omega))|exact hf1 _ rfl (by omega)|exact hf1 ad287 rfl (by omega));replace p287:=eq_true p287;replace q287:=eq_true q287))
   go_ret
   exact ⟨by first|rfl|(simp [errW_none,errW_some] <;> rfl)|(simp [*,errW_none,errW_some] <;> rfl),by repeat (first|(with_reducible first|exact HI0.out|apply IsS84.alloc|apply IsS84.drewN|apply IsS84.drew|apply IsS84.set_1)|exact HI0.out),by repeat (first|(with_reducible first|exact HB.out|apply ba_|apply bn_|apply bd_|refine bs_ ?_ (IsS84.ge HI0.out))|exact HB.out),by repeat (first|(with_reducible first|exact HK.out|apply KeepBut.set_|apply keep_drewN|apply keep_drew|apply keep_alloc)|exact HK.out)⟩
  ·rw [if_neg c5] at H
   exact absurd H (by simp)
 ·rw [if_neg c4] at H
  exact absurd H (by simp)

/-! ### spec_l7Cables: function 77 -/
mutual
def spec_l7Cables.l0 : Nat → Int → List (S51) → Int → List Int → Int → Option (Int × (List (S51)) × Int)
 | 0,_,_,_,_,_ => none
 | k + 1,x4,x5,x6,x1000,x1001 => if x6 > 0 then (spec_l7Cables.j1 k x4 x5 x6 (decide (x4 > 1)) x1000 x1001) else (spec_l7Cables.j1 k x4 x5 x6 false x1000 x1001)
def spec_l7Cables.j1 : Nat → Int → List (S51) → Int → Bool → List Int → Int → Option (Int × (List (S51)) × Int)
 | 0,_,_,_,_,_,_ => none
 | k + 1,x4,x5,x6,x20,x1000,x1001 => if x20 = true then ((spec_l21Rd_pick.f k x1000 x1001 x4).bind fun bt301 => ((spec_l21Rd_pick.f k x1000 bt301.2 (wrap64 (x4 - 1))).bind fun bt303 => (if x4 = 0 then (none) else ((spec_l21Rd_num.f k x1000 bt303.2 (([1,1,2,5,10,99] : List Int))).bind fun bt308 => (if x5.length < 5864062014805 then (spec_l7Cables.l0 k x4 (x5 ++ [(⟨bt301.1,Int.tmod (wrap64 ((wrap64 (bt301.1 + 1)) + bt303.1)) x4,bt308.1⟩ : S51)]) (wrap64 (x6 - 1)) x1000 bt308.2) else (none)))))) else (some (x4,x5,x1001))
end
def spec_l7Cables.f (k : Nat) (s0_0 : List Int) (s0_1 : Int) : Option (Int × (List (S51)) × Int):=(spec_l21Rd_num.f k s0_0 s0_1 (([4,6,3,8,2,1,5] : List Int))).bind fun bt291 => ((spec_l21Rd_num.f k s0_0 bt291.2 (([5,8,12,3,0,20] : List Int))).bind fun bt299 => (spec_l7Cables.l0 k bt291.1 (([] : List (S51))) bt299.1 s0_0 bt299.2))
theorem spec_l7Cables.mono_l : ∀ k,(∀ y0 y1 y2 y3 y4,LeO (spec_l7Cables.l0 k y0 y1 y2 y3 y4) (spec_l7Cables.l0 (k + 1) y0 y1 y2 y3 y4)) ∧ (∀ y0 y1 y2 y3 y4 y5,LeO (spec_l7Cables.j1 k y0 y1 y2 y3 y4 y5) (spec_l7Cables.j1 (k + 1) y0 y1 y2 y3 y4 y5))
 | 0 => ⟨fun _ _ _ _ _ r h => by simp [spec_l7Cables.l0] at h,fun _ _ _ _ _ _ r h => by simp [spec_l7Cables.j1] at h⟩
 | k + 1 => by
  obtain ⟨ih0,ih1⟩:=spec_l7Cables.mono_l k
  refine ⟨?_,?_⟩
  ·intro y0 y1 y2 y3 y4
   unfold spec_l7Cables.l0
   repeat' first
   | (with_reducible exact ih0 _ _ _ _ _)
   | (with_reducible exact ih1 _ _ _ _ _ _)
   | (with_reducible exact spec_l21Rd_num.mono _ _ _ _)
   | (with_reducible exact spec_l21Rd_pick.mono _ _ _ _)
   | (with_reducible exact LeO.refl _)
   | (with_reducible exact LeO.none _)
   | (with_reducible refine LeO.ite ?_ ?_)
   | (with_reducible refine LeO.bind ?_ (fun _ => ?_))
   | exact ih0 _ _ _ _ _
   | exact ih1 _ _ _ _ _ _
   | exact spec_l21Rd_num.mono _ _ _ _
   | exact spec_l21Rd_pick.mono _ _ _ _
   | exact LeO.none _
   | refine LeO.ite ?_ ?_
   | refine LeO.bind ?_ (fun _ => ?_)
  ·intro y0 y1 y2 y3 y4 y5
   unfold spec_l7Cables.j1
   repeat' first
   | (with_reducible exact ih0 _ _ _ _ _)
   | (with_reducible exact ih1 _ _ _ _ _ _)
   | (with_reducible exact spec_l21Rd_num.mono _ _ _ _)
   | (with_reducible exact spec_l21Rd_pick.mono _ _ _ _)
   | (with_reducible exact LeO.refl _)
   | (with_reducible exact LeO.none _)
   | (with_reducible refine LeO.ite ?_ ?_)
   | (with_reducible refine LeO.bind ?_ (fun _ => ?_))
   | exact ih0 _ _ _ _ _
   | exact ih1 _ _ _ _ _ _
   | exact spec_l21Rd_num.mono _ _ _ _
   | exact spec_l21Rd_pick.mono _ _ _ _
   | exact LeO.none _
   | refine LeO.ite ?_ ?_
   | refine LeO.bind ?_ (fun _ => ?_)
theorem spec_l7Cables.mono : ∀ a0 a1 k,LeO (spec_l7Cables.f k a0 a1) (spec_l7Cables.f (k + 1) a0 a1):=by
 intro a0 a1 k
 obtain ⟨ih0,ih1⟩:=spec_l7Cables.mono_l k
 unfold spec_l7Cables.f
 repeat' first
   | (with_reducible exact ih0 _ _ _ _ _)
   | (with_reducible exact ih1 _ _ _ _ _ _)
   | (with_reducible exact spec_l21Rd_num.mono _ _ _ _)
   | (with_reducible exact spec_l21Rd_pick.mono _ _ _ _)
   | (with_reducible exact LeO.refl _)
   | (with_reducible exact LeO.none _)
   | (with_reducible refine LeO.ite ?_ ?_)
   | (with_reducible refine LeO.bind ?_ (fun _ => ?_))
   | exact ih0 _ _ _ _ _
   | exact ih1 _ _ _ _ _ _
   | exact spec_l21Rd_num.mono _ _ _ _
   | exact spec_l21Rd_pick.mono _ _ _ _
   | exact LeO.none _
   | refine LeO.ite ?_ ?_
   | refine LeO.bind ?_ (fun _ => ?_)
def spec_l7Cables.T7 : Bool × List (List Nat × List Nat):=(true,[([],[]),([],[]),([],[]),([2],[2]),([],[]),([],[]),([5],[5]),([4,6],[4,6]),([3,7],[3,7]),([],[]),([8,9],[8,9]),([],[]),([],[]),([11,12,7],[11,12]),([1,10,13],[1,10,13]),([14],[14]),([0,15,13],[0,15]),([16,16,0,1,2,3,4,5,6,7,8,9,10,11,12,13,14,15,16],[0,16])])
def spec_l7Cables.B7 : List Nat:=[0,0,0,4,0,0,32,112,252,0,1020,0,0,6384,16382,32766,65535,131071]
theorem spec_l7Cables.tab7 : rtab .any (opsOf Try.f77 7) = spec_l7Cables.T7:=by kernel_rfl
theorem spec_l7Cables.bits7 : waitsOk spec_l7Cables.T7.2 spec_l7Cables.B7 = true:=by kernel_rfl
set_option maxHeartbeats 8000000 in
set_option maxRecDepth 100000 in
theorem spec_l7Cables.calls (k : Nat) (g : Nat) (s0_0 : List Int) (s0_1 : Int) (r1 : Int) (r2 : List (S51)) (r3 : Int) (w0 w : World) (hI : IsS84 w0 w g s0_0 s0_1) (hB : Below w0.heap.size w0 w) (h : spec_l7Cables.f k s0_0 s0_1 = some (r1,r2,r3)) :
  Calls Try.prog 77 #[.pointer (some ⟨g,0,none⟩)] w fun e w' => ∃ v1_ : Value,e = .returned (.tuple #[.int .i64 r1,v1_]) ∧ Kd.R k51 51 w' w.heap.size (fun _ => True) v1_ r2 ∧ IsS84 w0 w' g s0_0 r3 ∧ Below w0.heap.size w0 w' ∧ KeepBut w w' g none:=by
 have hu51:=Try.underlying51
 have HI0:=mk_ hI
 have HK:=mk_ (KeepBut.refl w g none)
 have HL:=mk_ hB.size
 clear hI
 have HW0:=mk_ hB.size
 have HB:=mk_ hB
 clear hB
 have H : ((spec_l21Rd_num.f k s0_0 s0_1 (([4,6,3,8,2,1,5] : List Int))).bind fun bt291 => ((spec_l21Rd_num.f k s0_0 bt291.2 (([5,8,12,3,0,20] : List Int))).bind fun bt299 => (spec_l7Cables.l0 k bt291.1 (([] : List (S51))) bt299.1 s0_0 bt299.2))) = some (r1,r2,r3):=h
 clear h
 obtain ⟨y288,hy288⟩ : ∃ y_ : List Int,y_ = (([4,6,3,8,2,1,5] : List Int)):=⟨_,rfl⟩
 replace H : ((spec_l21Rd_num.f k s0_0 s0_1 y288).bind fun bt291 => ((spec_l21Rd_num.f k s0_0 bt291.2 (([5,8,12,3,0,20] : List Int))).bind fun bt299 => (spec_l7Cables.l0 k bt291.1 (([] : List (S51))) bt299.1 s0_0 bt299.2))) = some (r1,r2,r3):=by first|(rw [hy288];with_reducible exact H)|(have H2_:=(Option.bind_some _ _).symm.trans H;rw [hy288];with_reducible exact H2_)|(have H2_:=(Option.bind_some _ _).symm.trans H;with_reducible exact H2_)|with_reducible exact H|(rw [hy288];exact H)|exact H
 have Ny288:=mk_ hy288
 clear hy288
 replace H:=Option.bind_eq_some_iff.mp H
 obtain ⟨⟨t291,t292⟩,A20,H⟩:=H
 replace H : ((spec_l21Rd_num.f k s0_0 t292 (([5,8,12,3,0,20] : List Int))).bind fun bt299 => (spec_l7Cables.l0 k t291 (([] : List (S51))) bt299.1 s0_0 bt299.2)) = some (r1,r2,r3):=H
 have A2:=mk_ A20
 clear A20
 obtain ⟨y293,hy293⟩ : ∃ y_ : List (S51),y_ = (([] : List (S51))):=⟨_,rfl⟩
 replace H : ((spec_l21Rd_num.f k s0_0 t292 (([5,8,12,3,0,20] : List Int))).bind fun bt299 => (spec_l7Cables.l0 k t291 y293 bt299.1 s0_0 bt299.2)) = some (r1,r2,r3):=by first|(rw [hy293];with_reducible exact H)|(have H2_:=(Option.bind_some _ _).symm.trans H;rw [hy293];with_reducible exact H2_)|(have H2_:=(Option.bind_some _ _).symm.trans H;with_reducible exact H2_)|with_reducible exact H|(rw [hy293];exact H)|exact H
 have Ny293:=mk_ hy293
 clear hy293
 obtain ⟨y296,hy296⟩ : ∃ y_ : List Int,y_ = (([5,8,12,3,0,20] : List Int)):=⟨_,rfl⟩
 replace H : ((spec_l21Rd_num.f k s0_0 t292 y296).bind fun bt299 => (spec_l7Cables.l0 k t291 y293 bt299.1 s0_0 bt299.2)) = some (r1,r2,r3):=by first|(rw [hy296];with_reducible exact H)|(have H2_:=(Option.bind_some _ _).symm.trans H;rw [hy296];with_reducible exact H2_)|(have H2_:=(Option.bind_some _ _).symm.trans H;with_reducible exact H2_)|with_reducible exact H|(rw [hy296];exact H)|exact H
 have Ny296:=mk_ hy296
 clear hy296
 replace H:=Option.bind_eq_some_iff.mp H
 obtain ⟨⟨t299,t300⟩,A30,H⟩:=H
 replace H : (spec_l7Cables.l0 k t291 y293 t299 s0_0 t300) = some (r1,r2,r3):=H
 have A3:=mk_ A30
 clear A30
 have H':=mk_ H
 clear H
 go_enter Try.func77,Try.ntmps77
 go_wp2_with (first|((with_reducible refine gate_dst (N:=9) rfl ?_);refine Kd.R_lit (Kd.int .i64) _ 3 ?hg (N:=9) ?hd (xs:=([4,6,3,8,2,1,5] : List Int)) (inner:=[.int .i64 4,.int .i64 6,.int .i64 3,.int .i64 8,.int .i64 2,.int .i64 1,.int .i64 5]) (ok:=fun _ => True) (okp:=fun _ => True) ?hr ?hp (fun _ hk => hk) trivial (Below.refl _ _) (Nat.le_refl _) (by simp) ?_;(case hd => rfl);(case hg => rfl);(case hr => first|(go_simp;done)|(go_simp;rfl));(case hp => exact (Reps.one (show Kd.M (Kd.int .i64) _ _ _ 4 [.int .i64 4] from rfl) (Reps.one (show Kd.M (Kd.int .i64) _ _ _ 6 [.int .i64 6] from rfl) (Reps.one (show Kd.M (Kd.int .i64) _ _ _ 3 [.int .i64 3] from rfl) (Reps.one (show Kd.M (Kd.int .i64) _ _ _ 8 [.int .i64 8] from rfl) (Reps.one (show Kd.M (Kd.int .i64) _ _ _ 2 [.int .i64 2] from rfl) (Reps.one (show Kd.M (Kd.int .i64) _ _ _ 1 [.int .i64 1] from rfl) (Reps.one (show Kd.M (Kd.int .i64) _ _ _ 5 [.int .i64 5] from rfl) (Reps.none _ _)))))))));intro v289 w4 ho5 hb hg_ hnew_;clear hg_ hnew_;(first|rw [← Ny288.out] at ho5|(simp only [Int.reduceToNat] at ho5;rw [← Ny288.out] at ho5));have n0_:=mk_ (Kd.R_lower ho5 (keep_size (w:=w) (g:=g) (row:=none) (by repeat (first|(with_reducible first|exact HK.out|apply KeepBut.set_|apply keep_drewN|apply keep_drew|apply keep_alloc)|exact HK.out))));have n1_:=mk_ (IsS84.below (by repeat (first|(with_reducible first|exact HI0.out|apply IsS84.alloc|apply IsS84.drewN|apply IsS84.drew|apply IsS84.set_1)|exact HI0.out)) hb);have n2_:=mk_ (KeepBut.trans (by repeat (first|(with_reducible first|exact HK.out|apply KeepBut.set_|apply keep_drewN|apply keep_drew|apply keep_alloc)|exact HK.out)) (KeepBut.of_below hb g none) (.inl rfl));have n3_:=mk_ (st_ (by repeat (first|(with_reducible first|exact HB.out|apply ba_|apply bn_|apply bd_|refine bs_ ?_ (IsS84.ge HI0.out))|exact HB.out)) hb);clear HI0;clear HK;clear HB;have HO290:=n0_;have HI0:=n1_;have HK:=n2_;have HB:=n3_;clear n0_ n1_ n2_ n3_;clear hb ho5;obtain ⟨Ao6,co6,eo6⟩:=Kd.R_slice HO290.out;subst eo6)|((with_reducible refine gate_callee (f:=78) rfl ?_);refine goesL_ (some 10) rfl rfl Try.func78 (by kernel_rfl) rfl #[.pointer (some ⟨g,0,none⟩),.slice Ao6 y288.length co6] rfl (by (try simp only [List.map_toArray,List.map_cons,List.map_nil]);first|done|rfl|(simp only [List.length_drop,List.length_take];rfl)) ?_;(with_reducible refine (spec_l21Rd_num.calls k g s0_0 s0_1 _ _ y288 t291 t292 w0 _ ?side1 ?side2 ?side3 ?side4 ?side5 A2.out).mono ?_);(case side1 => repeat (first|(with_reducible first|exact HI0.out|apply IsS84.alloc|apply IsS84.drewN|apply IsS84.drew|apply IsS84.set_1)|exact HI0.out));(case side2 => repeat (first|(with_reducible first|exact HB.out|apply ba_|apply bn_|apply bd_|refine bs_ ?_ (IsS84.ge HI0.out))|exact HB.out));(case side3 => repeat (first|exact (rr_ HO290.out).2.2|(with_reducible refine ca_ ?_ _)|(with_reducible refine cn_ ?_ _)|(with_reducible refine cd_ ?_)));(case side4 => exact (rr_ HO290.out).2.1);(case side5 => exact far_slice (IsS84.own_ne HI0.out HO290.out (by decide)));rintro e w7 ⟨rfl,hi,hb,hk⟩;refine ⟨_,rfl,?_⟩;have n0_:=mk_ (rm_ (Kd.R_keep (IsS84.apart (show IsS84 w0 _ g s0_0 s0_1 from by repeat (first|(with_reducible first|exact HI0.out|apply IsS84.alloc|apply IsS84.drewN|apply IsS84.drew|apply IsS84.set_1)|exact HI0.out)) (by (with_reducible repeat (first|apply ra_|apply rn_|apply rd_));exact HO290.out) (by decide)) hk (fun _ h => h.2)) (fun _ h => h.1));have n1_:=mk_ (KeepBut.trans (by repeat (first|(with_reducible first|exact HK.out|apply KeepBut.set_|apply keep_drewN|apply keep_drew|apply keep_alloc)|exact HK.out)) hk (.inl rfl));have n2_:=mk_ (hb);have n3_:=mk_ (hi);clear HO290;clear HK;clear HB;clear HI0;have HO290:=n0_;have HK:=n1_;have HB:=n2_;have HI0:=n3_;clear n0_ n1_ n2_ n3_;(try clear hb);(try clear hb2);(try clear hk);(try clear hi))|((with_reducible refine gate_dst (N:=11) rfl ?_);refine Kd.R_lit k51 _ 51 ?hg (N:=11) ?hd (xs:=([] : List (S51))) (inner:=[]) (ok:=fun _ => True) (okp:=fun _ => True) ?hr ?hp (fun _ hk => hk) trivial (Below.refl _ _) (Nat.le_refl _) (by simp) ?_;(case hd => rfl);(case hg => rfl);(case hr => first|(go_simp;done)|(go_simp;rfl));(case hp => exact (Reps.none _ _));intro v294 w8 ho9 hb hg_ hnew_;clear hg_ hnew_;(first|rw [← Ny293.out] at ho9|(simp only [Int.reduceToNat] at ho9;rw [← Ny293.out] at ho9));have n0_:=mk_ (rb_ (by (with_reducible repeat (first|apply ra_|apply rn_|apply rd_));exact HO290.out) hb);have n1_:=mk_ (Kd.R_lower ho9 (keep_size (w:=w) (g:=g) (row:=none) (by repeat (first|(with_reducible first|exact HK.out|apply KeepBut.set_|apply keep_drewN|apply keep_drew|apply keep_alloc)|exact HK.out))));have n2_:=mk_ (IsS84.below (by repeat (first|(with_reducible first|exact HI0.out|apply IsS84.alloc|apply IsS84.drewN|apply IsS84.drew|apply IsS84.set_1)|exact HI0.out)) hb);have n3_:=mk_ (KeepBut.trans (by repeat (first|(with_reducible first|exact HK.out|apply KeepBut.set_|apply keep_drewN|apply keep_drew|apply keep_alloc)|exact HK.out)) (KeepBut.of_below hb g none) (.inl rfl));have n4_:=mk_ (st_ (by repeat (first|(with_reducible first|exact HB.out|apply ba_|apply bn_|apply bd_|refine bs_ ?_ (IsS84.ge HI0.out))|exact HB.out)) hb);clear HO290;clear HI0;clear HK;clear HB;have HO290:=n0_;have HO295:=n1_;have HI0:=n2_;have HK:=n3_;have HB:=n4_;clear n0_ n1_ n2_ n3_ n4_;clear hb ho9)|((with_reducible refine gate_dst (N:=13) rfl ?_);refine Kd.R_lit (Kd.int .i64) _ 3 ?hg (N:=13) ?hd (xs:=([5,8,12,3,0,20] : List Int)) (inner:=[.int .i64 5,.int .i64 8,.int .i64 12,.int .i64 3,.int .i64 0,.int .i64 20]) (ok:=fun _ => True) (okp:=fun _ => True) ?hr ?hp (fun _ hk => hk) trivial (Below.refl _ _) (Nat.le_refl _) (by simp) ?_;(case hd => rfl);(case hg => rfl);(case hr => first|(go_simp;done)|(go_simp;rfl));(case hp => exact (Reps.one (show Kd.M (Kd.int .i64) _ _ _ 5 [.int .i64 5] from rfl) (Reps.one (show Kd.M (Kd.int .i64) _ _ _ 8 [.int .i64 8] from rfl) (Reps.one (show Kd.M (Kd.int .i64) _ _ _ 12 [.int .i64 12] from rfl) (Reps.one (show Kd.M (Kd.int .i64) _ _ _ 3 [.int .i64 3] from rfl) (Reps.one (show Kd.M (Kd.int .i64) _ _ _ 0 [.int .i64 0] from rfl) (Reps.one (show Kd.M (Kd.int .i64) _ _ _ 20 [.int .i64 20] from rfl) (Reps.none _ _))))))));intro v297 w10 ho11 hb hg_ hnew_;clear hg_ hnew_;(first|rw [← Ny296.out] at ho11|(simp only [Int.reduceToNat] at ho11;rw [← Ny296.out] at ho11));have n0_:=mk_ (re_ (by (with_reducible repeat (first|apply ra_|apply rn_|apply rd_));exact HO290.out) (Kd.R_base ho11) hb);have n1_:=mk_ (rb_ (by (with_reducible repeat (first|apply ra_|apply rn_|apply rd_));exact HO295.out) hb);have n2_:=mk_ (Kd.R_lower (Kd.R_new' ho11 (Kd.R_lt (by (with_reducible repeat (first|apply ra_|apply rn_|apply rd_));exact HO290.out))) (keep_size (w:=w) (g:=g) (row:=none) (by repeat (first|(with_reducible first|exact HK.out|apply KeepBut.set_|apply keep_drewN|apply keep_drew|apply keep_alloc)|exact HK.out))));have n3_:=mk_ (IsS84.below (by repeat (first|(with_reducible first|exact HI0.out|apply IsS84.alloc|apply IsS84.drewN|apply IsS84.drew|apply IsS84.set_1)|exact HI0.out)) hb);have n4_:=mk_ (KeepBut.trans (by repeat (first|(with_reducible first|exact HK.out|apply KeepBut.set_|apply keep_drewN|apply keep_drew|apply keep_alloc)|exact HK.out)) (KeepBut.of_below hb g none) (.inl rfl));have n5_:=mk_ (st_ (by repeat (first|(with_reducible first|exact HB.out|apply ba_|apply bn_|apply bd_|refine bs_ ?_ (IsS84.ge HI0.out))|exact HB.out)) hb);clear HO290;clear HO295;clear HI0;clear HK;clear HB;have HO290:=n0_;have HO295:=n1_;have HO298:=n2_;have HI0:=n3_;have HK:=n4_;have HB:=n5_;clear n0_ n1_ n2_ n3_ n4_ n5_;clear hb ho11;obtain ⟨Ao12,co12,eo12⟩:=Kd.R_slice HO298.out;subst eo12)|((with_reducible refine gate_callee (f:=78) rfl ?_);refine goesL_ (some 14) rfl rfl Try.func78 (by kernel_rfl) rfl #[.pointer (some ⟨g,0,none⟩),.slice Ao12 y296.length co12] rfl (by (try simp only [List.map_toArray,List.map_cons,List.map_nil]);first|done|rfl|(simp only [List.length_drop,List.length_take];rfl)) ?_;(with_reducible refine (spec_l21Rd_num.calls k g s0_0 t292 _ _ y296 t299 t300 w0 _ ?side1 ?side2 ?side3 ?side4 ?side5 A3.out).mono ?_);(case side1 => repeat (first|(with_reducible first|exact HI0.out|apply IsS84.alloc|apply IsS84.drewN|apply IsS84.drew|apply IsS84.set_1)|exact HI0.out));(case side2 => repeat (first|(with_reducible first|exact HB.out|apply ba_|apply bn_|apply bd_|refine bs_ ?_ (IsS84.ge HI0.out))|exact HB.out));(case side3 => repeat (first|exact (rr_ HO298.out).2.2|(with_reducible refine ca_ ?_ _)|(with_reducible refine cn_ ?_ _)|(with_reducible refine cd_ ?_)));(case side4 => exact (rr_ HO298.out).2.1);(case side5 => exact far_slice (IsS84.own_ne HI0.out HO298.out (by decide)));rintro e w13 ⟨rfl,hi,hb,hk⟩;refine ⟨_,rfl,?_⟩;have n0_:=mk_ (rm_ (Kd.R_keep (IsS84.apart (show IsS84 w0 _ g s0_0 t292 from by repeat (first|(with_reducible first|exact HI0.out|apply IsS84.alloc|apply IsS84.drewN|apply IsS84.drew|apply IsS84.set_1)|exact HI0.out)) (by (with_reducible repeat (first|apply ra_|apply rn_|apply rd_));exact HO290.out) (by decide)) hk (fun _ h => h.2)) (fun _ h => h.1));have n1_:=mk_ (rm_ (Kd.R_keep (IsS84.apart (show IsS84 w0 _ g s0_0 t292 from by repeat (first|(with_reducible first|exact HI0.out|apply IsS84.alloc|apply IsS84.drewN|apply IsS84.drew|apply IsS84.set_1)|exact HI0.out)) (by (with_reducible repeat (first|apply ra_|apply rn_|apply rd_));exact HO295.out) (by decide)) hk (fun _ h => h.2)) (fun _ h => h.1));have n2_:=mk_ (rm_ (Kd.R_keep (IsS84.apart (show IsS84 w0 _ g s0_0 t292 from by repeat (first|(with_reducible first|exact HI0.out|apply IsS84.alloc|apply IsS84.drewN|apply IsS84.drew|apply IsS84.set_1)|exact HI0.out)) (by (with_reducible repeat (first|apply ra_|apply rn_|apply rd_));exact HO298.out) (by decide)) hk (fun _ h => h.2)) (fun _ h => h.1));have n3_:=mk_ (KeepBut.trans (by repeat (first|(with_reducible first|exact HK.out|apply KeepBut.set_|apply keep_drewN|apply keep_drew|apply keep_alloc)|exact HK.out)) hk (.inl rfl));have n4_:=mk_ (hb);have n5_:=mk_ (hi);clear HO290;clear HO295;clear HO298;clear HK;clear HB;clear HI0;have HO290:=n0_;have HO295:=n1_;have HO298:=n2_;have HK:=n3_;have HB:=n4_;have HI0:=n5_;clear n0_ n1_ n2_ n3_ n4_ n5_;(try clear hb);(try clear hb2);(try clear hk);(try clear hi)))
 go_loopg [5,6] k (fun kq v5 v6 w' => ∃ (x5_1 : List (S51)) (x6_1 : Int) (x1001_1 : Int),v6 = .int .i64 x6_1 ∧ Aside0 (spec_l7Cables.l0 kq t291 x5_1 x6_1 s0_0 x1001_1 = some (r1,r2,r3)) ∧ Aside0 (kq ≤ k) ∧ Aside0 (Kd.R k51 51 w' w.heap.size (fun _ => True) v5 x5_1) ∧ Aside0 (IsS84 w0 w' g s0_0 x1001_1) ∧ Aside0 (KeepBut w w' g none) ∧ Aside0 (Below w0.heap.size w0 w'))
 case atStart => exact ⟨(y293),(t299),(t300),(by first|rfl|(simp;done)|(simp [*];done)),H',⟨Nat.le_refl _⟩,⟨by (with_reducible repeat (first|apply ra_|apply rn_|apply rd_));exact HO295.out⟩,⟨by repeat (first|(with_reducible first|exact HI0.out|apply IsS84.alloc|apply IsS84.drewN|apply IsS84.drew|apply IsS84.set_1)|exact HI0.out)⟩,⟨by repeat (first|(with_reducible first|exact HK.out|apply KeepBut.set_|apply keep_drewN|apply keep_drew|apply keep_alloc)|exact HK.out)⟩,⟨by repeat (first|(with_reducible first|exact HB.out|apply ba_|apply bn_|apply bd_|refine bs_ ?_ (IsS84.ge HI0.out))|exact HB.out)⟩⟩
 case round =>
  clear H'
  try clear p2
  try clear c7
  obtain ⟨x5_1,x6_1,x1001_1,rfl,HA,HK1,HO_5,HI0,HK,HB⟩:=hrel
  cases gk with
  | zero => exact absurd HA.out (by simp [spec_l7Cables.l0])
  | succ k1 =>
   have H:=HA.out
   clear HA
   simp only [spec_l7Cables.l0] at H
   have HC14:=mk_ H
   clear H
   go_upto_region 4 with (fail)
   go_cut [20] (fun v20 wc => ∃ (kq : Nat) (x20_13 : Bool),v20 = .bool x20_13 ∧ Aside0 (spec_l7Cables.j1 kq t291 x5_1 x6_1 x20_13 s0_0 x1001_1 = some (r1,r2,r3)) ∧ Aside0 (kq ≤ k1) ∧ Aside0 (Kd.R k51 51 wc w.heap.size (fun _ => True) u5 x5_1) ∧ Aside0 (IsS84 w0 wc g s0_0 x1001_1) ∧ Aside0 (KeepBut w wc g none) ∧ Aside0 (Below w0.heap.size w0 wc))
   case first =>
    have H:=HC14.out
    clear HC14
    by_cases c15 : x6_1 > 0
    ·rw [if_pos c15] at H
     have c15b0 : decide (0 < x6_1) = true:=decide_eq_true c15
     clear c15
     (first|rw [c15b0]|(simp only [i64_w,i32_w];rw [c15b0])|skip)
     have H':=mk_ H
     clear H
     go_wp2
     go_meet
     case rel => exact ⟨_,(decide (t291 > 1)),(by first|rfl|(simp;done)|(simp [*];done)),H',⟨by have:=HK1.out;first|omega|exact Nat.le_refl _⟩,⟨by (with_reducible repeat (first|apply ra_|apply rn_|apply rd_));exact HO_5.out⟩,⟨by repeat (first|(with_reducible first|exact HI0.out|apply IsS84.alloc|apply IsS84.drewN|apply IsS84.drew|apply IsS84.set_1)|exact HI0.out)⟩,⟨by repeat (first|(with_reducible first|exact HK.out|apply KeepBut.set_|apply keep_drewN|apply keep_drew|apply keep_alloc)|exact HK.out)⟩,⟨by repeat (first|(with_reducible first|exact HB.out|apply ba_|apply bn_|apply bd_|refine bs_ ?_ (IsS84.ge HI0.out))|exact HB.out)⟩⟩
    ·rw [if_neg c15] at H
     have c15b0 : decide (0 < x6_1) = false:=decide_eq_false c15
     clear c15
     (first|rw [c15b0]|(simp only [i64_w,i32_w];rw [c15b0])|skip)
     have H':=mk_ H
     clear H
     go_wp2
     go_meet
     case rel => exact ⟨_,(false),(by first|rfl|(simp;done)|(simp [*];done)),H',⟨by have:=HK1.out;first|omega|exact Nat.le_refl _⟩,⟨by (with_reducible repeat (first|apply ra_|apply rn_|apply rd_));exact HO_5.out⟩,⟨by repeat (first|(with_reducible first|exact HI0.out|apply IsS84.alloc|apply IsS84.drewN|apply IsS84.drew|apply IsS84.set_1)|exact HI0.out)⟩,⟨by repeat (first|(with_reducible first|exact HK.out|apply KeepBut.set_|apply keep_drewN|apply keep_drew|apply keep_alloc)|exact HK.out)⟩,⟨by repeat (first|(with_reducible first|exact HB.out|apply ba_|apply bn_|apply bd_|refine bs_ ?_ (IsS84.ge HI0.out))|exact HB.out)⟩⟩
   case rest =>
    clear HC14
    try clear c1
    try clear p2
    try clear c7
    try clear c15
    try clear c15b0
    try clear p2
    obtain ⟨kq,x20_13,rfl,HA,HJ13,HO_5,HI0,HK,HB⟩:=hcut
    cases kq with
    | zero => exact absurd HA.out (by simp [spec_l7Cables.j1])
    | succ kj13 =>
     have H:=HA.out
     clear HA
     simp only [spec_l7Cables.j1] at H
     by_cases c16 : x20_13 = true
     ·subst c16
      have H1 : ((spec_l21Rd_pick.f kj13 s0_0 x1001_1 t291).bind fun bt301 => ((spec_l21Rd_pick.f kj13 s0_0 bt301.2 (wrap64 (t291 - 1))).bind fun bt303 => (if t291 = 0 then (none) else ((spec_l21Rd_num.f kj13 s0_0 bt303.2 (([1,1,2,5,10,99] : List Int))).bind fun bt308 => (if x5_1.length < 5864062014805 then (spec_l7Cables.l0 kj13 t291 (x5_1 ++ [(⟨bt301.1,Int.tmod (wrap64 ((wrap64 (bt301.1 + 1)) + bt303.1)) t291,bt308.1⟩ : S51)]) (wrap64 (x6_1 - 1)) s0_0 bt308.2) else (none)))))) = some (r1,r2,r3):=by rw [if_pos rfl] at H;exact H
      clear H
      have H:=H1
      clear H1
      replace H:=Option.bind_eq_some_iff.mp H
      obtain ⟨⟨t301,t302⟩,A170,H⟩:=H
      replace H : ((spec_l21Rd_pick.f kj13 s0_0 t302 (wrap64 (t291 - 1))).bind fun bt303 => (if t291 = 0 then (none) else ((spec_l21Rd_num.f kj13 s0_0 bt303.2 (([1,1,2,5,10,99] : List Int))).bind fun bt308 => (if x5_1.length < 5864062014805 then (spec_l7Cables.l0 kj13 t291 (x5_1 ++ [(⟨t301,Int.tmod (wrap64 ((wrap64 (t301 + 1)) + bt303.1)) t291,bt308.1⟩ : S51)]) (wrap64 (x6_1 - 1)) s0_0 bt308.2) else (none))))) = some (r1,r2,r3):=H
      have A17:=mk_ A170
      clear A170
      replace H:=Option.bind_eq_some_iff.mp H
      obtain ⟨⟨t303,t304⟩,A180,H⟩:=H
      replace H : (if t291 = 0 then (none) else ((spec_l21Rd_num.f kj13 s0_0 t304 (([1,1,2,5,10,99] : List Int))).bind fun bt308 => (if x5_1.length < 5864062014805 then (spec_l7Cables.l0 kj13 t291 (x5_1 ++ [(⟨t301,Int.tmod (wrap64 ((wrap64 (t301 + 1)) + t303)) t291,bt308.1⟩ : S51)]) (wrap64 (x6_1 - 1)) s0_0 bt308.2) else (none)))) = some (r1,r2,r3):=H
      have A18:=mk_ A180
      clear A180
      by_cases c19 : t291 = 0
      ·rw [if_pos c19] at H
       exact absurd H (by simp)
      ·rw [if_neg c19] at H
       have c19b0 : (t291 == 0) = false:=beq_eq_false_iff_ne.mpr c19
       have c19b1 : (t291 != 0) = true:=bne_iff_ne.mpr c19
       obtain ⟨y305,hy305⟩ : ∃ y_ : List Int,y_ = (([1,1,2,5,10,99] : List Int)):=⟨_,rfl⟩
       replace H : ((spec_l21Rd_num.f kj13 s0_0 t304 y305).bind fun bt308 => (if x5_1.length < 5864062014805 then (spec_l7Cables.l0 kj13 t291 (x5_1 ++ [(⟨t301,Int.tmod (wrap64 ((wrap64 (t301 + 1)) + t303)) t291,bt308.1⟩ : S51)]) (wrap64 (x6_1 - 1)) s0_0 bt308.2) else (none))) = some (r1,r2,r3):=by first|(rw [hy305];with_reducible exact H)|(have H2_:=(Option.bind_some _ _).symm.trans H;rw [hy305];with_reducible exact H2_)|(have H2_:=(Option.bind_some _ _).symm.trans H;with_reducible exact H2_)|with_reducible exact H|(rw [hy305];exact H)|exact H
       have Ny305:=mk_ hy305
       clear hy305
       replace H:=Option.bind_eq_some_iff.mp H
       obtain ⟨⟨t308,t309⟩,A200,H⟩:=H
       replace H : (if x5_1.length < 5864062014805 then (spec_l7Cables.l0 kj13 t291 (x5_1 ++ [(⟨t301,Int.tmod (wrap64 ((wrap64 (t301 + 1)) + t303)) t291,t308⟩ : S51)]) (wrap64 (x6_1 - 1)) s0_0 t309) else (none)) = some (r1,r2,r3):=H
       have A20:=mk_ A200
       clear A200
       by_cases c21 : x5_1.length < 5864062014805
       ·rw [if_pos c21] at H
        have LMc21:=mk_ c21
        clear c21
        obtain ⟨y310,hy310⟩ : ∃ y_ : List (S51),y_ = (x5_1 ++ [(⟨t301,Int.tmod (wrap64 ((wrap64 (t301 + 1)) + t303)) t291,t308⟩ : S51)]):=⟨_,rfl⟩
        replace H : (spec_l7Cables.l0 kj13 t291 y310 (wrap64 (x6_1 - 1)) s0_0 t309) = some (r1,r2,r3):=by first|(rw [hy310];with_reducible exact H)|(have H2_:=(Option.bind_some _ _).symm.trans H;rw [hy310];with_reducible exact H2_)|(have H2_:=(Option.bind_some _ _).symm.trans H;with_reducible exact H2_)|with_reducible exact H|(rw [hy310];exact H)|exact H
        have Ny310:=mk_ hy310
        clear hy310
        have H':=mk_ H
        clear H
        try go_wp2_with (first|((with_reducible refine gate_callee (f:=53) rfl ?_);refine goesL_ (some 25) rfl rfl Try.func53 (by kernel_rfl) rfl #[.pointer (some ⟨g,0,none⟩),.int .i64 t291] rfl (by (try simp only [List.map_toArray,List.map_cons,List.map_nil]);first|done|rfl|(simp only [List.length_drop,List.length_take];rfl)) ?_;(with_reducible refine (spec_l21Rd_pick.calls kj13 g s0_0 x1001_1 t291 t301 t302 w0 _ ?side1 ?side2 A17.out).mono ?_);(case side1 => repeat (first|(with_reducible first|exact HI0.out|apply IsS84.alloc|apply IsS84.drewN|apply IsS84.drew|apply IsS84.set_1)|exact HI0.out));(case side2 => repeat (first|(with_reducible first|exact HB.out|apply ba_|apply bn_|apply bd_|refine bs_ ?_ (IsS84.ge HI0.out))|exact HB.out));rintro e w22 ⟨rfl,hi,hb,hk⟩;refine ⟨_,rfl,?_⟩;have n0_:=mk_ (rm_ (Kd.R_keep (IsS84.apart (show IsS84 w0 _ g s0_0 x1001_1 from by repeat (first|(with_reducible first|exact HI0.out|apply IsS84.alloc|apply IsS84.drewN|apply IsS84.drew|apply IsS84.set_1)|exact HI0.out)) (by (with_reducible repeat (first|apply ra_|apply rn_|apply rd_));exact HO_5.out) (by decide)) hk (fun _ h => h.2)) (fun _ h => h.1));have n1_:=mk_ (KeepBut.trans (by repeat (first|(with_reducible first|exact HK.out|apply KeepBut.set_|apply keep_drewN|apply keep_drew|apply keep_alloc)|exact HK.out)) hk (.inl rfl));have n2_:=mk_ (hb);have n3_:=mk_ (hi);clear HO_5;clear HK;clear HB;clear HI0;have HO_5:=n0_;have HK:=n1_;have HB:=n2_;have HI0:=n3_;clear n0_ n1_ n2_ n3_;(try clear hb);(try clear hb2);(try clear hk);(try clear hi);obtain ⟨Ao23,co23,eo23⟩:=Kd.R_slice HO_5.out;subst eo23))
        have n0_:=mk_ (rd_ HO_5.out)
        have n1_:=mk_ (IsS84.drew HI0.out)
        have n2_:=mk_ (keep_drew HK.out)
        have n3_:=mk_ (bd_ HB.out)
        clear HO_5
        clear HI0
        clear HK
        clear HB
        have HO_5:=n0_
        have HI0:=n1_
        have HK:=n2_
        have HB:=n3_
        clear n0_ n1_ n2_ n3_
        refine start_ (n:=18) (S:=fun w' => True) (ds:=[]) #[false,false,false,false,false,false,false,false,false,false,false,false,false,false,false,false,false,false] (by kernel_rfl) rfl rfl trivial (fun hHeld => ?_);refine with_tabW spec_l7Cables.tab7 spec_l7Cables.bits7 (fun HT_ HW_ => ?_)
        generalize w22.drew = w24 at HO_5 HI0 HK HB hHeld ⊢
        refine pure_ (i:=0) (N:=some 26) (v:=?_) (a':=?_) #[true,false,false,false,false,false,false,false,false,false,false,false,false,false,false,false,false,false] rfl rfl (any_of HT_.out (by kernel_rfl)) (fun _ _ _ h => h) (Or.inl ⟨by rfl,?_⟩) ?_ ?_
        rotate_left
        ·intro w'
         go_simp
         with_reducible rfl
        rotate_left
        ·simp only [Act.put,List.setIfInBounds_toArray,List.set_cons_zero,List.set_cons_succ,i64_w,i32_w]
         rfl
        refine pure_ (i:=1) (N:=some 27) (v:=?_) (a':=?_) #[true,true,false,false,false,false,false,false,false,false,false,false,false,false,false,false,false,false] rfl rfl (any_of HT_.out (by kernel_rfl)) (fun _ _ _ h => h) (Or.inl ⟨by rfl,?_⟩) ?_ ?_
        rotate_left
        ·intro w'
         go_simp
         with_reducible rfl
        rotate_left
        ·simp only [Act.put,List.setIfInBounds_toArray,List.set_cons_zero,List.set_cons_succ,i64_w,i32_w]
         rfl
        refine pure_ (i:=2) (N:=some 28) (v:=?_) (a':=?_) #[true,true,true,false,false,false,false,false,false,false,false,false,false,false,false,false,false,false] rfl rfl (any_of HT_.out (by kernel_rfl)) (fun _ _ _ h => h) (Or.inl ⟨by rfl,?_⟩) ?_ ?_
        rotate_left
        ·intro w'
         go_simp
         with_reducible rfl
        rotate_left
        ·simp only [Act.put,List.setIfInBounds_toArray,List.set_cons_zero,List.set_cons_succ,i64_w,i32_w]
         rfl
        refine pure_ (i:=3) (N:=some 29) (v:=?_) (a':=?_) #[true,true,true,true,false,false,false,false,false,false,false,false,false,false,false,false,false,false] rfl rfl (any_of HT_.out (by kernel_rfl)) (fun _ _ _ h => h) (Or.inl ⟨by rfl,?_⟩) ?_ ?_
        rotate_left
        ·intro w'
         go_simp
         with_reducible rfl
        rotate_left
        ·simp only [Act.put,List.setIfInBounds_toArray,List.set_cons_zero,List.set_cons_succ,i64_w,i32_w]
         rfl
        refine pure_ (i:=4) (N:=some 30) (v:=?_) (a':=?_) #[true,true,true,true,true,false,false,false,false,false,false,false,false,false,false,false,false,false] rfl rfl (any_of HT_.out (by kernel_rfl)) (fun _ _ _ h => h) (Or.inl ⟨by rfl,?_⟩) ?_ ?_
        rotate_left
        ·intro w'
         go_simp
         with_reducible rfl
        rotate_left
        ·simp only [Act.put,List.setIfInBounds_toArray,List.set_cons_zero,List.set_cons_succ,i64_w,i32_w]
         rfl
        refine pure_ (i:=5) (N:=some 31) (v:=?_) (a':=?_) #[true,true,true,true,true,true,false,false,false,false,false,false,false,false,false,false,false,false] rfl rfl (any_of HT_.out (by kernel_rfl)) (fun _ _ _ h => h) (Or.inl ⟨by rfl,?_⟩) ?_ ?_
        rotate_left
        ·intro w'
         go_simp
         with_reducible rfl
        rotate_left
        ·simp only [Act.put,List.setIfInBounds_toArray,List.set_cons_zero,List.set_cons_succ,i64_w,i32_w]
         rfl
        refine pure_ (i:=6) (N:=some 32) (v:=?_) (a':=?_) #[true,true,true,true,true,true,true,false,false,false,false,false,false,false,false,false,false,false] rfl rfl (any_of HT_.out (by kernel_rfl)) (fun _ _ _ h => h) (Or.inl ⟨by rfl,?_⟩) ?_ ?_
        rotate_left
        ·intro w'
         go_simp
         with_reducible rfl
        rotate_left
        ·simp only [Act.put,List.setIfInBounds_toArray,List.set_cons_zero,List.set_cons_succ,i64_w,i32_w]
         rfl
        refine pure_ (i:=9) (N:=some 35) (v:=?_) (a':=?_) #[true,true,true,true,true,true,true,false,false,true,false,false,false,false,false,false,false,false] rfl rfl (any_of HT_.out (by kernel_rfl)) (fun _ _ _ h => h) (Or.inl ⟨by rfl,?_⟩) ?_ ?_
        rotate_left
        ·intro w'
         go_simp
         with_reducible rfl
        rotate_left
        ·simp only [Act.put,List.setIfInBounds_toArray,List.set_cons_zero,List.set_cons_succ,i64_w,i32_w]
         rfl
        refine pure_ (i:=11) (N:=some 37) (v:=?_) (a':=?_) #[true,true,true,true,true,true,true,false,false,true,false,true,false,false,false,false,false,false] rfl rfl (any_of HT_.out (by kernel_rfl)) (fun _ _ _ h => h) (Or.inl ⟨by rfl,?_⟩) ?_ ?_
        rotate_left
        ·intro w'
         go_simp
         with_reducible rfl
        rotate_left
        ·simp only [Act.put,List.setIfInBounds_toArray,List.set_cons_zero,List.set_cons_succ,i64_w,i32_w]
         rfl
        refine join_ (σ:=Value) 5 #[true,true,true,true,true,true,true,true,true,true,true,true,true,false,false,false,false,false] (fun s_ => [(33,.int .i64 t303),(38,s_),(34,.int .i64 (wrap64 ((wrap64 (t301 + 1)) + t303))),(36,.int .i64 (Int.tmod (wrap64 ((wrap64 (t301 + 1)) + t303)) t291))]) (fun s_ w' => (Kd.R (Kd.int .i64) 3 w' w.heap.size (fun _ => True) s_ y305) ∧ (Kd.R k51 51 w' w.heap.size (fun _ => True) (.slice Ao23 x5_1.length co23) x5_1) ∧ (IsS84 w0 w' g s0_0 t304) ∧ (KeepBut w w' g none) ∧ (Below w0.heap.size w0 w')) ?_ ?_
        rotate_left
        ·intro hCont
         refine two_ (i:=7) (j:=12) (Ni:=some 33) (Nj:=some 38) #[true,true,true,true,true,true,true,true,false,true,false,true,false,false,false,false,false,false] #[true,true,true,true,true,true,true,false,false,true,false,true,true,false,false,false,false,false] rfl rfl rfl rfl (two_of HT_.out (by kernel_rfl)) (by decide) (by decide) (fun K hK => ?_) (fun K hK => ?_)
         ·skip
          refine goes_ Try.func53 (by kernel_rfl) rfl #[.pointer (some ⟨g,0,none⟩),.int .i64 (wrap64 (t291 - 1))] (by rfl) rfl rfl (by (try simp only [List.map_toArray,List.map_cons,List.map_nil]);first|done|rfl|(simp only [List.length_drop,List.length_take];rfl)) ?_
          with_reducible refine (spec_l21Rd_pick.calls kj13 g s0_0 t302 (wrap64 (t291 - 1)) t303 t304 w0 _ ?side1 ?side2 A18.out).mono ?_
          (case side1 => repeat (first|(with_reducible first|exact HI0.out|apply IsS84.alloc|apply IsS84.drewN|apply IsS84.drew|apply IsS84.set_1)|exact HI0.out))
          (case side2 => repeat (first|(with_reducible first|exact HB.out|apply ba_|apply bn_|apply bd_|refine bs_ ?_ (IsS84.ge HI0.out))|exact HB.out))
          rintro e w25 ⟨rfl,hi,hb,hk⟩
          refine ⟨_,rfl,?_⟩
          have n0_:=mk_ (rm_ (Kd.R_keep (IsS84.apart (show IsS84 w0 _ g s0_0 t302 from by repeat (first|(with_reducible first|exact HI0.out|apply IsS84.alloc|apply IsS84.drewN|apply IsS84.drew|apply IsS84.set_1)|exact HI0.out)) (by (with_reducible repeat (first|apply ra_|apply rn_|apply rd_));exact HO_5.out) (by decide)) hk (fun _ h => h.2)) (fun _ h => h.1))
          have n1_:=mk_ (KeepBut.trans (by repeat (first|(with_reducible first|exact HK.out|apply KeepBut.set_|apply keep_drewN|apply keep_drew|apply keep_alloc)|exact HK.out)) hk (.inl rfl))
          have n2_:=mk_ (hb)
          have n3_:=mk_ (hi)
          clear HO_5
          clear HK
          clear HB
          clear HI0
          have HO_5:=n0_
          have HK:=n1_
          have HB:=n2_
          have HI0:=n3_
          clear n0_ n1_ n2_ n3_
          (try clear hb)
          (try clear hb2)
          (try clear hk)
          (try clear hi)
          refine hK.out _ _ trivial (fun hHeld => ?_)
          clear hK K
          refine norm_ (a':=?_) ?_ ?_
          rotate_left
          ·show Act.put _ (some 33) _ = _
           simp only [Act.put,List.setIfInBounds_toArray,List.set_cons_zero,List.set_cons_succ,i64_w,i32_w]
           rfl
          refine pure_ (i:=8) (N:=some 34) (v:=?_) (a':=?_) #[true,true,true,true,true,true,true,true,true,true,false,true,false,false,false,false,false,false] rfl rfl (any_of HT_.out (by kernel_rfl)) (fun _ _ _ h => h) (Or.inl ⟨by rfl,?_⟩) ?_ ?_
          rotate_left
          ·intro w'
           go_simp
           with_reducible rfl
          rotate_left
          ·simp only [Act.put,List.setIfInBounds_toArray,List.set_cons_zero,List.set_cons_succ,i64_w,i32_w]
           rfl
          refine pure_ (i:=10) (N:=some 36) (v:=?_) (a':=?_) #[true,true,true,true,true,true,true,true,true,true,true,true,false,false,false,false,false,false] rfl rfl (any_of HT_.out (by kernel_rfl)) (fun _ _ _ h => h) (Or.inl ⟨by rfl,?_⟩) ?_ ?_
          rotate_left
          ·intro w'
           go_simp
           with_reducible rfl
          rotate_left
          ·simp only [Act.put,List.setIfInBounds_toArray,List.set_cons_zero,List.set_cons_succ,i64_w,i32_w]
           rfl
          refine one_ (i:=12) (N:=some 38) #[true,true,true,true,true,true,true,true,true,true,true,true,true,false,false,false,false,false] rfl rfl (one_of HT_.out (by kernel_rfl)) (by decide) (fun K hK => ?_)
          refine Kd.R_lit_step (Kd.int .i64) _ 3 ?hg (N:=38) ?hd (xs:=([1,1,2,5,10,99] : List Int)) (inner:=[.int .i64 1,.int .i64 1,.int .i64 2,.int .i64 5,.int .i64 10,.int .i64 99]) (ok:=fun _ => True) (okp:=fun _ => True) ?hr ?hp (fun _ hk => hk) trivial (Below.refl _ _) (Nat.le_refl _) (by simp) ?_;(case hd => rfl);(case hg => rfl);(case hr => first|(go_simp;done)|(go_simp;rfl));(case hp => exact (Reps.one (show Kd.M (Kd.int .i64) _ _ _ 1 [.int .i64 1] from rfl) (Reps.one (show Kd.M (Kd.int .i64) _ _ _ 1 [.int .i64 1] from rfl) (Reps.one (show Kd.M (Kd.int .i64) _ _ _ 2 [.int .i64 2] from rfl) (Reps.one (show Kd.M (Kd.int .i64) _ _ _ 5 [.int .i64 5] from rfl) (Reps.one (show Kd.M (Kd.int .i64) _ _ _ 10 [.int .i64 10] from rfl) (Reps.one (show Kd.M (Kd.int .i64) _ _ _ 99 [.int .i64 99] from rfl) (Reps.none _ _))))))))
          intro v306 w26 ho27 hb hg_ hnew_
          clear hg_ hnew_
          (first|rw [← Ny305.out] at ho27|(simp only [Int.reduceToNat] at ho27;rw [← Ny305.out] at ho27))
          have n0_:=mk_ (rb_ (by (with_reducible repeat (first|apply ra_|apply rn_|apply rd_));exact HO_5.out) hb)
          have n1_:=mk_ (Kd.R_lower ho27 (keep_size (w:=w) (g:=g) (row:=none) (by repeat (first|(with_reducible first|exact HK.out|apply KeepBut.set_|apply keep_drewN|apply keep_drew|apply keep_alloc)|exact HK.out))))
          have n2_:=mk_ (IsS84.below (by repeat (first|(with_reducible first|exact HI0.out|apply IsS84.alloc|apply IsS84.drewN|apply IsS84.drew|apply IsS84.set_1)|exact HI0.out)) hb)
          have n3_:=mk_ (KeepBut.trans (by repeat (first|(with_reducible first|exact HK.out|apply KeepBut.set_|apply keep_drewN|apply keep_drew|apply keep_alloc)|exact HK.out)) (KeepBut.of_below hb g none) (.inl rfl))
          have n4_:=mk_ (st_ (by repeat (first|(with_reducible first|exact HB.out|apply ba_|apply bn_|apply bd_|refine bs_ ?_ (IsS84.ge HI0.out))|exact HB.out)) hb)
          clear HO_5
          clear HI0
          clear HK
          clear HB
          have HO_5:=n0_
          have HO307:=n1_
          have HI0:=n2_
          have HK:=n3_
          have HB:=n4_
          clear n0_ n1_ n2_ n3_ n4_
          clear hb ho27
          refine hK.out _ _ trivial (fun hHeld => ?_)
          clear hK K
          refine norm_ (a':=?_) ?_ ?_
          rotate_left
          ·show Act.put _ (some 38) _ = _
           simp only [Act.put,List.setIfInBounds_toArray,List.set_cons_zero,List.set_cons_succ,i64_w,i32_w]
           rfl
          exact norm_ (by simp only [putAll,Act.put,List.setIfInBounds_toArray,List.set_cons_zero,List.set_cons_succ]) (hCont (v306) _ ⟨(by (with_reducible repeat (first|apply ra_|apply rn_|apply rd_));exact HO307.out),(by (with_reducible repeat (first|apply ra_|apply rn_|apply rd_));exact HO_5.out),(by repeat (first|(with_reducible first|exact HI0.out|apply IsS84.alloc|apply IsS84.drewN|apply IsS84.drew|apply IsS84.set_1)|exact HI0.out)),(by repeat (first|(with_reducible first|exact HK.out|apply KeepBut.set_|apply keep_drewN|apply keep_drew|apply keep_alloc)|exact HK.out)),(by repeat (first|(with_reducible first|exact HB.out|apply ba_|apply bn_|apply bd_|refine bs_ ?_ (IsS84.ge HI0.out))|exact HB.out))⟩)
         ·skip
          refine Kd.R_lit_step (Kd.int .i64) _ 3 ?hg (N:=38) ?hd (xs:=([1,1,2,5,10,99] : List Int)) (inner:=[.int .i64 1,.int .i64 1,.int .i64 2,.int .i64 5,.int .i64 10,.int .i64 99]) (ok:=fun _ => True) (okp:=fun _ => True) ?hr ?hp (fun _ hk => hk) trivial (Below.refl _ _) (Nat.le_refl _) (by simp) ?_;(case hd => rfl);(case hg => rfl);(case hr => first|(go_simp;done)|(go_simp;rfl));(case hp => exact (Reps.one (show Kd.M (Kd.int .i64) _ _ _ 1 [.int .i64 1] from rfl) (Reps.one (show Kd.M (Kd.int .i64) _ _ _ 1 [.int .i64 1] from rfl) (Reps.one (show Kd.M (Kd.int .i64) _ _ _ 2 [.int .i64 2] from rfl) (Reps.one (show Kd.M (Kd.int .i64) _ _ _ 5 [.int .i64 5] from rfl) (Reps.one (show Kd.M (Kd.int .i64) _ _ _ 10 [.int .i64 10] from rfl) (Reps.one (show Kd.M (Kd.int .i64) _ _ _ 99 [.int .i64 99] from rfl) (Reps.none _ _))))))))
          intro v306 w25 ho26 hb hg_ hnew_
          clear hg_ hnew_
          (first|rw [← Ny305.out] at ho26|(simp only [Int.reduceToNat] at ho26;rw [← Ny305.out] at ho26))
          have n0_:=mk_ (rb_ (by (with_reducible repeat (first|apply ra_|apply rn_|apply rd_));exact HO_5.out) hb)
          have n1_:=mk_ (Kd.R_lower ho26 (keep_size (w:=w) (g:=g) (row:=none) (by repeat (first|(with_reducible first|exact HK.out|apply KeepBut.set_|apply keep_drewN|apply keep_drew|apply keep_alloc)|exact HK.out))))
          have n2_:=mk_ (IsS84.below (by repeat (first|(with_reducible first|exact HI0.out|apply IsS84.alloc|apply IsS84.drewN|apply IsS84.drew|apply IsS84.set_1)|exact HI0.out)) hb)
          have n3_:=mk_ (KeepBut.trans (by repeat (first|(with_reducible first|exact HK.out|apply KeepBut.set_|apply keep_drewN|apply keep_drew|apply keep_alloc)|exact HK.out)) (KeepBut.of_below hb g none) (.inl rfl))
          have n4_:=mk_ (st_ (by repeat (first|(with_reducible first|exact HB.out|apply ba_|apply bn_|apply bd_|refine bs_ ?_ (IsS84.ge HI0.out))|exact HB.out)) hb)
          clear HO_5
          clear HI0
          clear HK
          clear HB
          have HO_5:=n0_
          have HO307:=n1_
          have HI0:=n2_
          have HK:=n3_
          have HB:=n4_
          clear n0_ n1_ n2_ n3_ n4_
          clear hb ho26
          refine hK.out _ _ trivial (fun hHeld => ?_)
          clear hK K
          refine norm_ (a':=?_) ?_ ?_
          rotate_left
          ·show Act.put _ (some 38) _ = _
           simp only [Act.put,List.setIfInBounds_toArray,List.set_cons_zero,List.set_cons_succ,i64_w,i32_w]
           rfl
          refine one_ (i:=7) (N:=some 33) #[true,true,true,true,true,true,true,true,false,true,false,true,true,false,false,false,false,false] rfl rfl (one_of HT_.out (by kernel_rfl)) (by decide) (fun K hK => ?_)
          refine goes_ Try.func53 (by kernel_rfl) rfl #[.pointer (some ⟨g,0,none⟩),.int .i64 (wrap64 (t291 - 1))] (by rfl) rfl rfl (by (try simp only [List.map_toArray,List.map_cons,List.map_nil]);first|done|rfl|(simp only [List.length_drop,List.length_take];rfl)) ?_
          with_reducible refine (spec_l21Rd_pick.calls kj13 g s0_0 t302 (wrap64 (t291 - 1)) t303 t304 w0 _ ?side1 ?side2 A18.out).mono ?_
          (case side1 => repeat (first|(with_reducible first|exact HI0.out|apply IsS84.alloc|apply IsS84.drewN|apply IsS84.drew|apply IsS84.set_1)|exact HI0.out))
          (case side2 => repeat (first|(with_reducible first|exact HB.out|apply ba_|apply bn_|apply bd_|refine bs_ ?_ (IsS84.ge HI0.out))|exact HB.out))
          rintro e w27 ⟨rfl,hi,hb,hk⟩
          refine ⟨_,rfl,?_⟩
          have n0_:=mk_ (rm_ (Kd.R_keep (IsS84.apart (show IsS84 w0 _ g s0_0 t302 from by repeat (first|(with_reducible first|exact HI0.out|apply IsS84.alloc|apply IsS84.drewN|apply IsS84.drew|apply IsS84.set_1)|exact HI0.out)) (by (with_reducible repeat (first|apply ra_|apply rn_|apply rd_));exact HO_5.out) (by decide)) hk (fun _ h => h.2)) (fun _ h => h.1))
          have n1_:=mk_ (rm_ (Kd.R_keep (IsS84.apart (show IsS84 w0 _ g s0_0 t302 from by repeat (first|(with_reducible first|exact HI0.out|apply IsS84.alloc|apply IsS84.drewN|apply IsS84.drew|apply IsS84.set_1)|exact HI0.out)) (by (with_reducible repeat (first|apply ra_|apply rn_|apply rd_));exact HO307.out) (by decide)) hk (fun _ h => h.2)) (fun _ h => h.1))
          have n2_:=mk_ (KeepBut.trans (by repeat (first|(with_reducible first|exact HK.out|apply KeepBut.set_|apply keep_drewN|apply keep_drew|apply keep_alloc)|exact HK.out)) hk (.inl rfl))
          have n3_:=mk_ (hb)
          have n4_:=mk_ (hi)
          clear HO_5
          clear HO307
          clear HK
          clear HB
          clear HI0
          have HO_5:=n0_
          have HO307:=n1_
          have HK:=n2_
          have HB:=n3_
          have HI0:=n4_
          clear n0_ n1_ n2_ n3_ n4_
          (try clear hb)
          (try clear hb2)
          (try clear hk)
          (try clear hi)
          refine hK.out _ _ trivial (fun hHeld => ?_)
          clear hK K
          refine norm_ (a':=?_) ?_ ?_
          rotate_left
          ·show Act.put _ (some 33) _ = _
           simp only [Act.put,List.setIfInBounds_toArray,List.set_cons_zero,List.set_cons_succ,i64_w,i32_w]
           rfl
          refine pure_ (i:=8) (N:=some 34) (v:=?_) (a':=?_) #[true,true,true,true,true,true,true,true,true,true,false,true,true,false,false,false,false,false] rfl rfl (any_of HT_.out (by kernel_rfl)) (fun _ _ _ h => h) (Or.inl ⟨by rfl,?_⟩) ?_ ?_
          rotate_left
          ·intro w'
           go_simp
           with_reducible rfl
          rotate_left
          ·simp only [Act.put,List.setIfInBounds_toArray,List.set_cons_zero,List.set_cons_succ,i64_w,i32_w]
           rfl
          refine pure_ (i:=10) (N:=some 36) (v:=?_) (a':=?_) #[true,true,true,true,true,true,true,true,true,true,true,true,true,false,false,false,false,false] rfl rfl (any_of HT_.out (by kernel_rfl)) (fun _ _ _ h => h) (Or.inl ⟨by rfl,?_⟩) ?_ ?_
          rotate_left
          ·intro w'
           go_simp
           with_reducible rfl
          rotate_left
          ·simp only [Act.put,List.setIfInBounds_toArray,List.set_cons_zero,List.set_cons_succ,i64_w,i32_w]
           rfl
          exact norm_ (by simp only [putAll,Act.put,List.setIfInBounds_toArray,List.set_cons_zero,List.set_cons_succ]) (hCont (v306) _ ⟨(by (with_reducible repeat (first|apply ra_|apply rn_|apply rd_));exact HO307.out),(by (with_reducible repeat (first|apply ra_|apply rn_|apply rd_));exact HO_5.out),(by repeat (first|(with_reducible first|exact HI0.out|apply IsS84.alloc|apply IsS84.drewN|apply IsS84.drew|apply IsS84.set_1)|exact HI0.out)),(by repeat (first|(with_reducible first|exact HK.out|apply KeepBut.set_|apply keep_drewN|apply keep_drew|apply keep_alloc)|exact HK.out)),(by repeat (first|(with_reducible first|exact HB.out|apply ba_|apply bn_|apply bd_|refine bs_ ?_ (IsS84.ge HI0.out))|exact HB.out))⟩)
        rintro v306 w28 ⟨h0_,h1_,h2_,h3_,h4_⟩
        have n0_ : Aside0 (Kd.R (Kd.int .i64) 3 w28 w.heap.size (fun _ => True) v306 y305):=⟨h0_⟩
        have n1_ : Aside0 (Kd.R k51 51 w28 w.heap.size (fun _ => True) (.slice Ao23 x5_1.length co23) x5_1):=⟨h1_⟩
        have n2_ : Aside0 (IsS84 w0 w28 g s0_0 t304):=⟨h2_⟩
        have n3_ : Aside0 (KeepBut w w28 g none):=⟨h3_⟩
        have n4_ : Aside0 (Below w0.heap.size w0 w28):=⟨h4_⟩
        clear HO_5
        clear HI0
        clear HK
        clear HB
        clear h0_ h1_ h2_ h3_ h4_
        have HO307:=n0_
        have HO_5:=n1_
        have HI0:=n2_
        have HK:=n3_
        have HB:=n4_
        clear n0_ n1_ n2_ n3_ n4_
        have hHeld:=trivial
        obtain ⟨Ao29,co29,eo29⟩:=Kd.R_slice HO307.out
        (first|subst eo29|(injection eo29 with f1_ f2_ f3_;have f4_:=f1_.symm;have f5_:=f3_.symm;clear f1_ f2_ f3_;subst f4_;subst f5_))
        refine norm_ (a':=?_) ?_ ?_
        rotate_left
        ·simp only [putAll,Act.put,List.setIfInBounds_toArray,List.set_cons_zero,List.set_cons_succ]
         rfl
        refine one_ (i:=13) (N:=some 39) #[true,true,true,true,true,true,true,true,true,true,true,true,true,true,false,false,false,false] rfl rfl (one_of HT_.out (by kernel_rfl)) (by decide) (fun K hK => ?_)
        refine goes_ Try.func78 (by kernel_rfl) rfl #[.pointer (some ⟨g,0,none⟩),.slice Ao29 y305.length co29] (by rfl) rfl rfl (by (try simp only [List.map_toArray,List.map_cons,List.map_nil]);first|done|rfl|(simp only [List.length_drop,List.length_take];rfl)) ?_
        with_reducible refine (spec_l21Rd_num.calls kj13 g s0_0 t304 _ _ y305 t308 t309 w0 _ ?side1 ?side2 ?side3 ?side4 ?side5 A20.out).mono ?_
        (case side1 => repeat (first|(with_reducible first|exact HI0.out|apply IsS84.alloc|apply IsS84.drewN|apply IsS84.drew|apply IsS84.set_1)|exact HI0.out))
        (case side2 => repeat (first|(with_reducible first|exact HB.out|apply ba_|apply bn_|apply bd_|refine bs_ ?_ (IsS84.ge HI0.out))|exact HB.out))
        (case side3 => repeat (first|exact (rr_ HO307.out).2.2|(with_reducible refine ca_ ?_ _)|(with_reducible refine cn_ ?_ _)|(with_reducible refine cd_ ?_)))
        (case side4 => exact (rr_ HO307.out).2.1)
        (case side5 => exact far_slice (IsS84.own_ne HI0.out HO307.out (by decide)))
        rintro e w30 ⟨rfl,hi,hb,hk⟩
        refine ⟨_,rfl,?_⟩
        have n0_:=mk_ (rm_ (Kd.R_keep (IsS84.apart (show IsS84 w0 _ g s0_0 t304 from by repeat (first|(with_reducible first|exact HI0.out|apply IsS84.alloc|apply IsS84.drewN|apply IsS84.drew|apply IsS84.set_1)|exact HI0.out)) (by (with_reducible repeat (first|apply ra_|apply rn_|apply rd_));exact HO_5.out) (by decide)) hk (fun _ h => h.2)) (fun _ h => h.1))
        have n1_:=mk_ (rm_ (Kd.R_keep (IsS84.apart (show IsS84 w0 _ g s0_0 t304 from by repeat (first|(with_reducible first|exact HI0.out|apply IsS84.alloc|apply IsS84.drewN|apply IsS84.drew|apply IsS84.set_1)|exact HI0.out)) (by (with_reducible repeat (first|apply ra_|apply rn_|apply rd_));exact HO307.out) (by decide)) hk (fun _ h => h.2)) (fun _ h => h.1))
        have n2_:=mk_ (KeepBut.trans (by repeat (first|(with_reducible first|exact HK.out|apply KeepBut.set_|apply keep_drewN|apply keep_drew|apply keep_alloc)|exact HK.out)) hk (.inl rfl))
        have n3_:=mk_ (hb)
        have n4_:=mk_ (hi)
        clear HO_5
        clear HO307
        clear HK
        clear HB
        clear HI0
        have HO_5:=n0_
        have HO307:=n1_
        have HK:=n2_
        have HB:=n3_
        have HI0:=n4_
        clear n0_ n1_ n2_ n3_ n4_
        (try clear hb)
        (try clear hb2)
        (try clear hk)
        (try clear hi)
        refine hK.out _ _ trivial (fun hHeld => ?_)
        clear hK K
        refine norm_ (a':=?_) ?_ ?_
        rotate_left
        ·show Act.put _ (some 39) _ = _
         simp only [Act.put,List.setIfInBounds_toArray,List.set_cons_zero,List.set_cons_succ,i64_w,i32_w]
         rfl
        refine pure_ (i:=14) (N:=some 40) (v:=?_) (a':=?_) #[true,true,true,true,true,true,true,true,true,true,true,true,true,true,true,false,false,false] rfl rfl (any_of HT_.out (by kernel_rfl)) (fun _ _ _ h => h) (Or.inl ⟨by rfl,?_⟩) ?_ ?_
        rotate_left
        ·intro w'
         go_simp
         with_reducible rfl
        rotate_left
        ·simp only [Act.put,List.setIfInBounds_toArray,List.set_cons_zero,List.set_cons_succ,i64_w,i32_w]
         rfl
        refine one_ (i:=15) (N:=some 41) #[true,true,true,true,true,true,true,true,true,true,true,true,true,true,true,true,false,false] rfl rfl (one_of HT_.out (by kernel_rfl)) (by decide) (fun K hK => ?_)
        refine value_ (w1:=?_) (v:=?_) (by rfl) rfl ?_ ?_
        rotate_left 2
        ·go_simp
         constructor
         ·rfl
         ·rfl
        refine hK.out _ _ trivial (fun hHeld => ?_)
        clear hK K
        refine norm_ (a':=?_) ?_ ?_
        rotate_left
        ·show Act.put _ (some 41) _ = _
         simp only [Act.put,List.setIfInBounds_toArray,List.set_cons_zero,List.set_cons_succ,i64_w,i32_w]
         rfl
        refine one_ (i:=16) (N:=some 42) #[true,true,true,true,true,true,true,true,true,true,true,true,true,true,true,true,true,false] rfl rfl (one_of HT_.out (by kernel_rfl)) (by decide) (fun K hK => ?_)
        refine Kd.R_append_step k51 w.heap.size (by rfl) (.tmp 26) (.tmp 41) 28 51 (.agg #[(.int .i64 0),(.int .i64 0),(.int .i64 0)]) 24 rfl Try.underlying28 info51 rfl (by decide) (by omega) (.slice Ao23 x5_1.length co23) x5_1 (⟨t301,Int.tmod (wrap64 ((wrap64 (t301 + 1)) + t303)) t291,t308⟩ : S51) [.int .i64 t301,.int .i64 (Int.tmod (wrap64 ((wrap64 (t301 + 1)) + t303)) t291),.int .i64 t308] (fun _ => True) (fun _ => False) rfl rfl ?aP (fun _ hk => hk.elim) ?aF ?aO (Below.refl _ _) ?aS ?aL ?_
        (case aP => exact k51_mkM _ _ _ (⟨t301,Int.tmod (wrap64 ((wrap64 (t301 + 1)) + t303)) t291,t308⟩ : S51))
        (case aF => exact (fun _ _ => trivial))
        (case aO => exact (by (with_reducible repeat (first|apply ra_|apply rn_|apply rd_));exact HO_5.out))
        (case aS => exact (keep_size (w:=w) (g:=g) (row:=none) (by repeat (first|(with_reducible first|exact HK.out|apply KeepBut.set_|apply keep_drewN|apply keep_drew|apply keep_alloc)|exact HK.out))))
        (case aL => have:=LMc21.out;omega)
        intro v311 w31 ho hb hg hat
        rw [← Ny310.out] at ho
        have n0_:=mk_ (IsS84.grown (by repeat (first|(with_reducible first|exact HI0.out|apply IsS84.alloc|apply IsS84.drewN|apply IsS84.drew|apply IsS84.set_1)|exact HI0.out)) hg (IsS84.own_ne HI0.out HO_5.out (by decide)))
        have n1_:=mk_ (Kd.R_over' (by (with_reducible repeat (first|apply ra_|apply rn_|apply rd_));exact HO307.out) (Kd.R_typed (by (with_reducible repeat (first|apply ra_|apply rn_|apply rd_));exact HO_5.out)) (by decide) hg)
        have n2_:=mk_ (below_weaken (by repeat (first|(with_reducible first|exact HB.out|apply ba_|apply bn_|apply bd_|refine bs_ ?_ (IsS84.ge HI0.out))|exact HB.out)) HL.out hb)
        have n3_:=mk_ (KeepBut.trans (by repeat (first|(with_reducible first|exact HK.out|apply KeepBut.set_|apply keep_drewN|apply keep_drew|apply keep_alloc)|exact HK.out)) (KeepBut.of_grown hg g) (Kd.R_base2 HO_5.out))
        have n4_:=mk_ (ho)
        clear HI0
        clear HO307
        clear HB
        clear HK
        clear HO_5
        have HI0:=n0_
        have HO307:=n1_
        have HB:=n2_
        have HK:=n3_
        have HO312:=n4_
        clear n0_ n1_ n2_ n3_ n4_
        clear ho hb hg hat
        refine hK.out _ _ trivial (fun hHeld => ?_)
        clear hK K
        refine norm_ (a':=?_) ?_ ?_
        rotate_left
        ·show Act.put _ (some 42) _ = _
         simp only [Act.put,List.setIfInBounds_toArray,List.set_cons_zero,List.set_cons_succ,i64_w,i32_w]
         rfl
        refine pure_ (i:=17) (N:=some 5) (v:=?_) (a':=?_) #[true,true,true,true,true,true,true,true,true,true,true,true,true,true,true,true,true,true] rfl rfl (any_of HT_.out (by kernel_rfl)) (fun _ _ _ h => h) (Or.inl ⟨by rfl,?_⟩) ?_ ?_
        rotate_left
        ·intro w'
         go_simp
         with_reducible rfl
        rotate_left
        ·simp only [Act.put,List.setIfInBounds_toArray,List.set_cons_zero,List.set_cons_succ,i64_w,i32_w]
         rfl
        refine done_ (done_of HT_.out (by kernel_rfl)) ?_
        try go_wp2
        go_roundg kj13
        case measure => have:=HK1.out;have:=HJ13.out;omega
        case rel => exact ⟨(y310),(wrap64 (x6_1 - 1)),(t309),(by first|rfl|(simp;done)|(simp [*];done)),H',⟨by have:=HK1.out;have:=HJ13.out;omega⟩,⟨by (with_reducible repeat (first|apply ra_|apply rn_|apply rd_));exact HO312.out⟩,⟨by repeat (first|(with_reducible first|exact HI0.out|apply IsS84.alloc|apply IsS84.drewN|apply IsS84.drew|apply IsS84.set_1)|exact HI0.out)⟩,⟨by repeat (first|(with_reducible first|exact HK.out|apply KeepBut.set_|apply keep_drewN|apply keep_drew|apply keep_alloc)|exact HK.out)⟩,⟨by repeat (first|(with_reducible first|exact HB.out|apply ba_|apply bn_|apply bd_|refine bs_ ?_ (IsS84.ge HI0.out))|exact HB.out)⟩⟩
       ·rw [if_neg c21] at H
        exact absurd H (by simp)
     ·replace c16:=Bool.eq_false_iff.mpr c16
      subst c16
      have H1 : (some (t291,x5_1,x1001_1)) = some (r1,r2,r3):=by rw [if_neg (show ¬ (false = true) by decide)] at H;exact H
      clear H
      have H:=H1
      clear H1
      simp only [Option.some.injEq,Prod.mk.injEq] at H
      obtain ⟨rfl,rfl,rfl⟩:=H
      go_wp2
      go_ret2
      exact ⟨_,by first|rfl|(simp [errW_none,errW_some] <;> rfl)|(simp [*,errW_none,errW_some] <;> rfl),by (with_reducible repeat (first|apply ra_|apply rn_|apply rd_));exact HO_5.out,by repeat (first|(with_reducible first|exact HI0.out|apply IsS84.alloc|apply IsS84.drewN|apply IsS84.drew|apply IsS84.set_1)|exact HI0.out),by repeat (first|(with_reducible first|exact HB.out|apply ba_|apply bn_|apply bd_|refine bs_ ?_ (IsS84.ge HI0.out))|exact HB.out),by repeat (first|(with_reducible first|exact HK.out|apply KeepBut.set_|apply keep_drewN|apply keep_drew|apply keep_alloc)|exact HK.out)⟩

/-! ### spec_l19Net: function 52 -/
def spec_l19Net.l0 : Nat → Int → Int → List Int → Int → Int → List (S51) → List Int → List Int → Option (Int × (List (S51)) × List Int × List Int × Int)
 | 0,_,_,_,_,_,_,_,_ => none
 | k + 1,x4,x6,x1000,x1001,x315000,x315001,x315002,x315003 => if x6 > 0 then ((spec_l21Rd_pick.f k x1000 x1001 x4).bind fun bt325 => (if x315002.length < 17592186044416 then ((spec_l21Rd_num.f k x1000 bt325.2 (([1,2,3] : List Int))).bind fun bt333 => ((spec_l21Rd_pick.f k x1000 bt333.2 bt333.1).bind fun bt335 => (if x315003.length < 17592186044416 then (spec_l19Net.l0 k x4 (wrap64 (x6 - 1)) x1000 bt335.2 x315000 x315001 (x315002 ++ [bt325.1]) (x315003 ++ [wrap64 (1 + bt335.1)])) else (none)))) else (none))) else ((spec_l21Rd_pick.f k x1000 x1001 80).bind fun bt340 => (if bt340.1 = 0 then (if 0 < (x315002.length : Int) then (some (x315000,x315001,(x315002.set (0 : Int).toNat x4),x315003,bt340.2)) else (none)) else (if bt340.1 = 1 then (if 0 < (x315003.length : Int) then (some (x315000,x315001,x315002,(x315003.set (0 : Int).toNat 0),bt340.2)) else (none)) else (if bt340.1 = 2 then (if 1 ≤ (x315003.length : Int) then (some (x315000,x315001,x315002,(x315003.drop (1 : Int).toNat),bt340.2)) else (none)) else (if bt340.1 = 3 then (some (9,x315001,x315002,x315003,bt340.2)) else (some (x315000,x315001,x315002,x315003,bt340.2)))))))
def spec_l19Net.f (k : Nat) (s0_0 : List Int) (s0_1 : Int) : Option (Int × (List (S51)) × List Int × List Int × Int):=(spec_l7Cables.f k s0_0 s0_1).bind fun bt315 => ((spec_l21Rd_num.f k s0_0 bt315.2.2 (([4,6,3,10,2,1,15] : List Int))).bind fun bt323 => (spec_l19Net.l0 k bt315.1 bt323.1 s0_0 bt323.2 bt315.1 bt315.2.1 ([] : List Int) ([] : List Int)))
theorem spec_l19Net.mono_l : ∀ k,(∀ y0 y1 y2 y3 y4 y5 y6 y7,LeO (spec_l19Net.l0 k y0 y1 y2 y3 y4 y5 y6 y7) (spec_l19Net.l0 (k + 1) y0 y1 y2 y3 y4 y5 y6 y7))
 | 0 => fun _ _ _ _ _ _ _ _ r h => by simp [spec_l19Net.l0] at h
 | k + 1 => by
  have ih0:=spec_l19Net.mono_l k
  ·intro y0 y1 y2 y3 y4 y5 y6 y7
   unfold spec_l19Net.l0
   repeat' first
   | (with_reducible exact ih0 _ _ _ _ _ _ _ _)
   | (with_reducible exact spec_l21Rd_num.mono _ _ _ _)
   | (with_reducible exact spec_l21Rd_pick.mono _ _ _ _)
   | (with_reducible exact spec_l7Cables.mono _ _ _)
   | (with_reducible exact LeO.refl _)
   | (with_reducible exact LeO.none _)
   | (with_reducible refine LeO.ite ?_ ?_)
   | (with_reducible refine LeO.bind ?_ (fun _ => ?_))
   | exact ih0 _ _ _ _ _ _ _ _
   | exact spec_l21Rd_num.mono _ _ _ _
   | exact spec_l21Rd_pick.mono _ _ _ _
   | exact spec_l7Cables.mono _ _ _
   | exact LeO.none _
   | refine LeO.ite ?_ ?_
   | refine LeO.bind ?_ (fun _ => ?_)
theorem spec_l19Net.mono : ∀ a0 a1 k,LeO (spec_l19Net.f k a0 a1) (spec_l19Net.f (k + 1) a0 a1):=by
 intro a0 a1 k
 have ih0:=spec_l19Net.mono_l k
 unfold spec_l19Net.f
 repeat' first
   | (with_reducible exact ih0 _ _ _ _ _ _ _ _)
   | (with_reducible exact spec_l21Rd_num.mono _ _ _ _)
   | (with_reducible exact spec_l21Rd_pick.mono _ _ _ _)
   | (with_reducible exact spec_l7Cables.mono _ _ _)
   | (with_reducible exact LeO.refl _)
   | (with_reducible exact LeO.none _)
   | (with_reducible refine LeO.ite ?_ ?_)
   | (with_reducible refine LeO.bind ?_ (fun _ => ?_))
   | exact ih0 _ _ _ _ _ _ _ _
   | exact spec_l21Rd_num.mono _ _ _ _
   | exact spec_l21Rd_pick.mono _ _ _ _
   | exact spec_l7Cables.mono _ _ _
   | exact LeO.none _
   | refine LeO.ite ?_ ?_
   | refine LeO.bind ?_ (fun _ => ?_)
def spec_l19Net.T8 : Bool × List (List Nat × List Nat):=(true,[([],[]),([0],[0]),([],[]),([],[]),([2,3],[2,3]),([4],[4]),([1,5,4],[1,5]),([0,1,2,3,4,5,6],[]),([7,6,6,0,1,2,3,4,5,6],[6,7])])
def spec_l19Net.B8 : List Nat:=[0,1,0,0,12,28,63,127,255]
theorem spec_l19Net.tab8 : rtab .any (opsOf Try.f52 8) = spec_l19Net.T8:=by kernel_rfl
theorem spec_l19Net.bits8 : waitsOk spec_l19Net.T8.2 spec_l19Net.B8 = true:=by kernel_rfl
def spec_l19Net.T9 : Bool × List (List Nat × List Nat):=(true,[([],[]),([0],[0]),([],[]),([],[]),([],[]),([3,4],[3,4]),([2,5,5],[2,5]),([6],[6]),([7],[7]),([1,8,6],[1,8]),([0,1,2,3,4,5,6,7,8,9],[]),([10,9,9,0,1,2,3,4,5,6,7,8,9],[9,10])])
def spec_l19Net.B9 : List Nat:=[0,1,0,0,0,24,60,124,252,511,1023,2047]
theorem spec_l19Net.tab9 : rtab .any (opsOf Try.f52 9) = spec_l19Net.T9:=by kernel_rfl
theorem spec_l19Net.bits9 : waitsOk spec_l19Net.T9.2 spec_l19Net.B9 = true:=by kernel_rfl
set_option maxHeartbeats 8000000 in
set_option maxRecDepth 100000 in
theorem spec_l19Net.calls (k : Nat) (g : Nat) (s0_0 : List Int) (s0_1 : Int) (r1 : Int) (r2 : List (S51)) (r3 : List Int) (r4 : List Int) (r5 : Int) (w0 w : World) (hI : IsS84 w0 w g s0_0 s0_1) (hB : Below w0.heap.size w0 w) (h : spec_l19Net.f k s0_0 s0_1 = some (r1,r2,r3,r4,r5)) :
  Calls Try.prog 52 #[.pointer (some ⟨g,0,none⟩)] w fun e w' => ∃ v1_ v2_ v3_ : Value,e = .returned (.agg #[.int .i64 r1,v1_,v2_,v3_]) ∧ Kd.R k51 51 w' w.heap.size (fun _ => True) v1_ r2 ∧ Kd.R (Kd.int .i64) 3 w' w.heap.size (fun k_ => some k_ ≠ (v3_ : Value).ownBlock) v2_ r3 ∧ Kd.Q (Kd.int .i64) 3 w' w.heap.size (fun k_ => some k_ ≠ (v2_ : Value).ownBlock) v3_ r4 ∧ IsS84 w0 w' g s0_0 r5 ∧ Below w0.heap.size w0 w' ∧ KeepBut w w' g none:=by
 have hu30:=Try.underlying30
 have HI0:=mk_ hI
 have HK:=mk_ (KeepBut.refl w g none)
 have HL:=mk_ hB.size
 clear hI
 have HW0:=mk_ hB.size
 have HB:=mk_ hB
 clear hB
 have H : ((spec_l7Cables.f k s0_0 s0_1).bind fun bt315 => ((spec_l21Rd_num.f k s0_0 bt315.2.2 (([4,6,3,10,2,1,15] : List Int))).bind fun bt323 => (spec_l19Net.l0 k bt315.1 bt323.1 s0_0 bt323.2 bt315.1 bt315.2.1 ([] : List Int) ([] : List Int)))) = some (r1,r2,r3,r4,r5):=h
 clear h
 replace H:=Option.bind_eq_some_iff.mp H
 obtain ⟨⟨t315,t316,t319⟩,A20,H⟩:=H
 replace H : ((spec_l21Rd_num.f k s0_0 t319 (([4,6,3,10,2,1,15] : List Int))).bind fun bt323 => (spec_l19Net.l0 k t315 bt323.1 s0_0 bt323.2 t315 t316 ([] : List Int) ([] : List Int))) = some (r1,r2,r3,r4,r5):=H
 have A2:=mk_ A20
 clear A20
 obtain ⟨y320,hy320⟩ : ∃ y_ : List Int,y_ = (([4,6,3,10,2,1,15] : List Int)):=⟨_,rfl⟩
 replace H : ((spec_l21Rd_num.f k s0_0 t319 y320).bind fun bt323 => (spec_l19Net.l0 k t315 bt323.1 s0_0 bt323.2 t315 t316 ([] : List Int) ([] : List Int))) = some (r1,r2,r3,r4,r5):=by first|(rw [hy320];with_reducible exact H)|(have H2_:=(Option.bind_some _ _).symm.trans H;rw [hy320];with_reducible exact H2_)|(have H2_:=(Option.bind_some _ _).symm.trans H;with_reducible exact H2_)|with_reducible exact H|(rw [hy320];exact H)|exact H
 have Ny320:=mk_ hy320
 clear hy320
 replace H:=Option.bind_eq_some_iff.mp H
 obtain ⟨⟨t323,t324⟩,A30,H⟩:=H
 replace H : (spec_l19Net.l0 k t315 t323 s0_0 t324 t315 t316 ([] : List Int) ([] : List Int)) = some (r1,r2,r3,r4,r5):=H
 have A3:=mk_ A30
 clear A30
 have H':=mk_ H
 clear H
 go_enter Try.func52,Try.ntmps52
 go_wp2_with (first|((with_reducible refine gate_dst (N:=2) rfl ?_);refine box_event ?hg (N:=2) ?hd (cs:=#[.int .i64 0,.slice none 0 0,.slice none 0 0,.slice none 0 0]) (t:=30) ?hr ?_;(case hd => rfl);(case hg => rfl);(case hr => first|(go_simp;done)|(go_simp;rfl));intro gb313 hg w4 hbox hb;have n0_:=mk_ (IsS84.below (by repeat (first|(with_reducible first|exact HI0.out|apply IsS84.alloc|apply IsS84.drewN|apply IsS84.drew|apply IsS84.set_1)|exact HI0.out)) hb);have n1_:=mk_ (KeepBut.trans (by repeat (first|(with_reducible first|exact HK.out|apply KeepBut.set_|apply keep_drewN|apply keep_drew|apply keep_alloc)|exact HK.out)) (KeepBut.of_below hb g none) (.inl rfl));have n2_:=mk_ (st_ (by repeat (first|(with_reducible first|exact HB.out|apply ba_|apply bn_|apply bd_|refine bs_ ?_ (IsS84.ge HI0.out))|exact HB.out)) hb);have n3_:=mk_ (hbox);have n4_:=mk_ ((by rw [hg];exact (keep_size (w:=w) (g:=g) (row:=none) (by repeat (first|(with_reducible first|exact HK.out|apply KeepBut.set_|apply keep_drewN|apply keep_drew|apply keep_alloc)|exact HK.out))) : w.heap.size ≤ gb313));have n5_:=mk_ ((Nat.le_trans HW0.out (by rw [hg];exact (keep_size (w:=w) (g:=g) (row:=none) (by repeat (first|(with_reducible first|exact HK.out|apply KeepBut.set_|apply keep_drewN|apply keep_drew|apply keep_alloc)|exact HK.out))) : w.heap.size ≤ gb313) : w0.heap.size ≤ gb313));have n6_:=mk_ ((by rw [hg];exact Nat.ne_of_lt (IsS84.lt (show IsS84 w0 _ g s0_0 s0_1 from by repeat (first|(with_reducible first|exact HI0.out|apply IsS84.alloc|apply IsS84.drewN|apply IsS84.drew|apply IsS84.set_1)|exact HI0.out))) : g ≠ gb313));have n7_:=mk_ ((by rw [hg];exact Nat.ne_of_gt (IsS84.lt (show IsS84 w0 _ g s0_0 s0_1 from by repeat (first|(with_reducible first|exact HI0.out|apply IsS84.alloc|apply IsS84.drewN|apply IsS84.drew|apply IsS84.set_1)|exact HI0.out))) : gb313 ≠ g));clear HI0;clear HK;clear HB;have HI0:=n0_;have HK:=n1_;have HB:=n2_;have BK313:=n3_;have GW313:=n4_;have GE313:=n5_;have NB0_313:=n6_;have NB313_0:=n7_;clear n0_ n1_ n2_ n3_ n4_ n5_ n6_ n7_;clear hb hbox hg)|((with_reducible refine gate_dst (N:=3) rfl ?_);refine box_event ?hg (N:=3) ?hd (cs:=#[.int .i64 0,.slice none 0 0,.slice none 0 0,.slice none 0 0]) (t:=30) ?hr ?_;(case hd => rfl);(case hg => rfl);(case hr => first|(go_simp;done)|(go_simp;rfl));intro gb314 hg w5 hbox hb;have n0_:=mk_ (IsS84.below (by repeat (first|(with_reducible first|exact HI0.out|apply IsS84.alloc|apply IsS84.drewN|apply IsS84.drew|apply IsS84.set_1|refine IsS84.far ?_ NB0_313.out _)|exact HI0.out)) hb);have n1_:=mk_ (blk_below (g:=gb313) (o:=.cells #[.int .i64 0,.slice none 0 0,.slice none 0 0,.slice none 0 0] 30 (0,0)) (by (with_reducible repeat (first|refine kn_ ?_ _|refine kd_ ?_|refine ka_ ?_ _));exact BK313.out) hb);have n2_:=mk_ (KeepBut.trans (by repeat (first|(with_reducible first|exact HK.out|apply KeepBut.set_|apply keep_drewN|apply keep_drew|apply keep_alloc|refine keep_far ?_ GW313.out _)|exact HK.out)) (KeepBut.of_below hb g none) (.inl rfl));have n3_:=mk_ (st_ (by repeat (first|(with_reducible first|exact HB.out|apply ba_|apply bn_|apply bd_|refine bs_ ?_ (IsS84.ge HI0.out)|refine bs_ ?_ GE313.out)|exact HB.out)) hb);have n4_:=mk_ (hbox);have n5_:=mk_ ((by rw [hg];exact (keep_size (w:=w) (g:=g) (row:=none) (by repeat (first|(with_reducible first|exact HK.out|apply KeepBut.set_|apply keep_drewN|apply keep_drew|apply keep_alloc|refine keep_far ?_ GW313.out _)|exact HK.out))) : w.heap.size ≤ gb314));have n6_:=mk_ ((Nat.le_trans HW0.out (by rw [hg];exact (keep_size (w:=w) (g:=g) (row:=none) (by repeat (first|(with_reducible first|exact HK.out|apply KeepBut.set_|apply keep_drewN|apply keep_drew|apply keep_alloc|refine keep_far ?_ GW313.out _)|exact HK.out))) : w.heap.size ≤ gb314) : w0.heap.size ≤ gb314));have n7_:=mk_ ((by rw [hg];exact Nat.ne_of_lt (blk_lt (g:=gb313) (o:=.cells #[.int .i64 0,.slice none 0 0,.slice none 0 0,.slice none 0 0] 30 (0,0)) (by (with_reducible repeat (first|refine kn_ ?_ _|refine kd_ ?_|refine ka_ ?_ _));exact BK313.out)) : gb313 ≠ gb314));have n8_:=mk_ ((by rw [hg];exact Nat.ne_of_gt (blk_lt (g:=gb313) (o:=.cells #[.int .i64 0,.slice none 0 0,.slice none 0 0,.slice none 0 0] 30 (0,0)) (by (with_reducible repeat (first|refine kn_ ?_ _|refine kd_ ?_|refine ka_ ?_ _));exact BK313.out)) : gb314 ≠ gb313));have n9_:=mk_ ((by rw [hg];exact Nat.ne_of_lt (IsS84.lt (show IsS84 w0 _ g s0_0 s0_1 from by repeat (first|(with_reducible first|exact HI0.out|apply IsS84.alloc|apply IsS84.drewN|apply IsS84.drew|apply IsS84.set_1|refine IsS84.far ?_ NB0_313.out _)|exact HI0.out))) : g ≠ gb314));have n10_:=mk_ ((by rw [hg];exact Nat.ne_of_gt (IsS84.lt (show IsS84 w0 _ g s0_0 s0_1 from by repeat (first|(with_reducible first|exact HI0.out|apply IsS84.alloc|apply IsS84.drewN|apply IsS84.drew|apply IsS84.set_1|refine IsS84.far ?_ NB0_313.out _)|exact HI0.out))) : gb314 ≠ g));clear HI0;clear BK313;clear HK;clear HB;have HI0:=n0_;have BK313:=n1_;have HK:=n2_;have HB:=n3_;have BK314:=n4_;have GW314:=n5_;have GE314:=n6_;have NB313_314:=n7_;have NB314_313:=n8_;have NB0_314:=n9_;have NB314_0:=n10_;clear n0_ n1_ n2_ n3_ n4_ n5_ n6_ n7_ n8_ n9_ n10_;clear hb hbox hg;have hnb6:=NB314_313.out;have hnc6:=NB313_314.out;have hnb7:=NB314_0.out;have hnc7:=NB0_314.out;have hcz8_0 : w5.cell? ⟨gb314,0,none⟩ = some (.int .i64 0):=(bc_ BK314.out 0).trans rfl;have hcz8_1 : w5.cell? ⟨gb314,1,none⟩ = some (.slice none 0 0):=(bc_ BK314.out 1).trans rfl;have hcz8_2 : w5.cell? ⟨gb314,2,none⟩ = some (.slice none 0 0):=(bc_ BK314.out 2).trans rfl;have hcz8_3 : w5.cell? ⟨gb314,3,none⟩ = some (.slice none 0 0):=(bc_ BK314.out 3).trans rfl;have hfz8_0:=bf_ BK314.out 0;have hfz8_1:=bf_ BK314.out 1;have hfz8_2:=bf_ BK314.out 2;have hfz8_3:=bf_ BK314.out 3)|((with_reducible refine gate_callee (f:=77) rfl ?_);refine goesL_ (some 10) rfl rfl Try.func77 (by kernel_rfl) rfl #[.pointer (some ⟨g,0,none⟩)] rfl (by (try simp only [List.map_toArray,List.map_cons,List.map_nil]);first|done|rfl|(simp only [List.length_drop,List.length_take];rfl)) ?_;(with_reducible refine (spec_l7Cables.calls k g s0_0 s0_1 t315 t316 t319 w0 _ ?side1 ?side2 A2.out).mono ?_);(case side1 => repeat (first|(with_reducible first|exact HI0.out|apply IsS84.alloc|apply IsS84.drewN|apply IsS84.drew|apply IsS84.set_1|refine IsS84.far ?_ NB0_313.out _|refine IsS84.far ?_ NB0_314.out _)|exact HI0.out));(case side2 => repeat (first|(with_reducible first|exact HB.out|apply ba_|apply bn_|apply bd_|refine bs_ ?_ (IsS84.ge HI0.out)|refine bs_ ?_ GE313.out|refine bs_ ?_ GE314.out)|exact HB.out));rintro e w9 ⟨v317,rfl,ho0,hi,hb,hk⟩;refine ⟨_,rfl,?_⟩;have n0_:=mk_ (KeepBut.blk hk (g':=gb313) (o:=.cells #[.int .i64 0,.slice none 0 0,.slice none 0 0,.slice none 0 0] 30 (0,0)) (by (with_reducible repeat (first|refine kn_ ?_ _|refine kd_ ?_|refine ka_ ?_ _));refine blk_far ?_ NB313_314.out _;(with_reducible repeat (first|refine kn_ ?_ _|refine kd_ ?_|refine ka_ ?_ _));refine blk_far ?_ NB313_314.out _;(with_reducible repeat (first|refine kn_ ?_ _|refine kd_ ?_|refine ka_ ?_ _));refine blk_far ?_ NB313_314.out _;(with_reducible repeat (first|refine kn_ ?_ _|refine kd_ ?_|refine ka_ ?_ _));refine blk_far ?_ NB313_314.out _;(with_reducible repeat (first|refine kn_ ?_ _|refine kd_ ?_|refine ka_ ?_ _));exact BK313.out) NB313_0.out (by simp));have n1_:=mk_ (KeepBut.blk hk (g':=gb314) (o:=.cells #[.int .i64 0,.slice none 0 0,.slice none 0 0,.slice none 0 0] 30 (0,0)) (by (with_reducible repeat (first|refine kn_ ?_ _|refine kd_ ?_|refine ka_ ?_ _));refine blk_put (cs:=#[.int .i64 0,.slice none 0 0,.slice none 0 0,.slice none 0 0]) ?_ 3 _ rfl;(with_reducible repeat (first|refine kn_ ?_ _|refine kd_ ?_|refine ka_ ?_ _));refine blk_put (cs:=#[.int .i64 0,.slice none 0 0,.slice none 0 0,.slice none 0 0]) ?_ 2 _ rfl;(with_reducible repeat (first|refine kn_ ?_ _|refine kd_ ?_|refine ka_ ?_ _));refine blk_put (cs:=#[.int .i64 0,.slice none 0 0,.slice none 0 0,.slice none 0 0]) ?_ 1 _ rfl;(with_reducible repeat (first|refine kn_ ?_ _|refine kd_ ?_|refine ka_ ?_ _));refine blk_put (cs:=#[.int .i64 0,.slice none 0 0,.slice none 0 0,.slice none 0 0]) ?_ 0 _ rfl;(with_reducible repeat (first|refine kn_ ?_ _|refine kd_ ?_|refine ka_ ?_ _));exact BK314.out) NB314_0.out (by simp));have n2_:=mk_ (Kd.R_lower ho0 (keep_size (w:=w) (g:=g) (row:=none) (by repeat (first|(with_reducible first|exact HK.out|apply KeepBut.set_|apply keep_drewN|apply keep_drew|apply keep_alloc|refine keep_far ?_ GW313.out _|refine keep_far ?_ GW314.out _)|exact HK.out))));have n3_:=mk_ (KeepBut.trans (by repeat (first|(with_reducible first|exact HK.out|apply KeepBut.set_|apply keep_drewN|apply keep_drew|apply keep_alloc|refine keep_far ?_ GW313.out _|refine keep_far ?_ GW314.out _)|exact HK.out)) hk (.inl rfl));have n4_:=mk_ (hb);have n5_:=mk_ (hi);clear BK313;clear BK314;clear HK;clear HB;clear HI0;have BK313:=n0_;have BK314:=n1_;have HO318:=n2_;have HK:=n3_;have HB:=n4_;have HI0:=n5_;clear n0_ n1_ n2_ n3_ n4_ n5_;(try clear hb);(try clear hb2);(try clear hk);(try clear hi);(try clear ho0);have hcz10_0 : w9.cell? ⟨gb314,0,none⟩ = some (.int .i64 0):=(bc_ BK314.out 0).trans rfl;have hcz10_1 : w9.cell? ⟨gb314,1,none⟩ = some (.slice none 0 0):=(bc_ BK314.out 1).trans rfl;have hcz10_2 : w9.cell? ⟨gb314,2,none⟩ = some (.slice none 0 0):=(bc_ BK314.out 2).trans rfl;have hcz10_3 : w9.cell? ⟨gb314,3,none⟩ = some (.slice none 0 0):=(bc_ BK314.out 3).trans rfl;have hfz10_0:=bf_ BK314.out 0;have hfz10_1:=bf_ BK314.out 1;have hfz10_2:=bf_ BK314.out 2;have hfz10_3:=bf_ BK314.out 3;obtain ⟨Ao11,co11,eo11⟩:=Kd.R_slice HO318.out;subst eo11)|((with_reducible refine gate_dst (N:=18) rfl ?_);refine Kd.R_lit (Kd.int .i64) _ 3 ?hg (N:=18) ?hd (xs:=([4,6,3,10,2,1,15] : List Int)) (inner:=[.int .i64 4,.int .i64 6,.int .i64 3,.int .i64 10,.int .i64 2,.int .i64 1,.int .i64 15]) (ok:=fun _ => True) (okp:=fun _ => True) ?hr ?hp (fun _ hk => hk) trivial (Below.refl _ _) (Nat.le_refl _) (by simp) ?_;(case hd => rfl);(case hg => rfl);(case hr => first|(go_simp;done)|(go_simp;rfl));(case hp => exact (Reps.one (show Kd.M (Kd.int .i64) _ _ _ 4 [.int .i64 4] from rfl) (Reps.one (show Kd.M (Kd.int .i64) _ _ _ 6 [.int .i64 6] from rfl) (Reps.one (show Kd.M (Kd.int .i64) _ _ _ 3 [.int .i64 3] from rfl) (Reps.one (show Kd.M (Kd.int .i64) _ _ _ 10 [.int .i64 10] from rfl) (Reps.one (show Kd.M (Kd.int .i64) _ _ _ 2 [.int .i64 2] from rfl) (Reps.one (show Kd.M (Kd.int .i64) _ _ _ 1 [.int .i64 1] from rfl) (Reps.one (show Kd.M (Kd.int .i64) _ _ _ 15 [.int .i64 15] from rfl) (Reps.none _ _)))))))));intro v321 w12 ho13 hb hg_ hnew_;clear hg_ hnew_;(first|rw [← Ny320.out] at ho13|(simp only [Int.reduceToNat] at ho13;rw [← Ny320.out] at ho13));have n0_:=mk_ (rb_ (by (with_reducible repeat (first|apply ra_|apply rn_|apply rd_));exact (rm_ (rf_ (p:=⟨gb314,1,none⟩) (rf_ (p:=⟨gb314,0,none⟩) (rt_ HO318.out BK314.out (by decide)) (fun _ hk => hk.2) (.int .i64 t315)) (fun _ hk => hk.2) (.slice Ao11 t316.length co11)) (fun _ h_ => h_.1))) hb);have n1_:=mk_ (Kd.R_lower ho13 (keep_size (w:=w) (g:=g) (row:=none) (by repeat (first|(with_reducible first|exact HK.out|apply KeepBut.set_|apply keep_drewN|apply keep_drew|apply keep_alloc|refine keep_far ?_ GW313.out _|refine keep_far ?_ GW314.out _)|exact HK.out))));have n2_:=mk_ (IsS84.below (show IsS84 w0 ((w9.setCell ⟨gb314,0,none⟩ (.int .i64 t315)).setCell ⟨gb314,1,none⟩ (.slice Ao11 t316.length co11)) g s0_0 t319 from by repeat (first|(with_reducible first|exact HI0.out|apply IsS84.alloc|apply IsS84.drewN|apply IsS84.drew|apply IsS84.set_1|refine IsS84.far ?_ NB0_313.out _|refine IsS84.far ?_ NB0_314.out _)|exact HI0.out)) hb);have n3_:=mk_ (blk_below (g:=gb313) (o:=.cells #[.int .i64 0,.slice none 0 0,.slice none 0 0,.slice none 0 0] 30 (0,0)) (by (with_reducible repeat (first|refine kn_ ?_ _|refine kd_ ?_|refine ka_ ?_ _));refine blk_far ?_ NB313_314.out _;(with_reducible repeat (first|refine kn_ ?_ _|refine kd_ ?_|refine ka_ ?_ _));refine blk_far ?_ NB313_314.out _;(with_reducible repeat (first|refine kn_ ?_ _|refine kd_ ?_|refine ka_ ?_ _));exact BK313.out) hb);have n4_:=mk_ (blk_below (g:=gb314) (o:=.cells #[.int .i64 t315,.slice Ao11 t316.length co11,.slice none 0 0,.slice none 0 0] 30 (0,0)) (by (with_reducible repeat (first|refine kn_ ?_ _|refine kd_ ?_|refine ka_ ?_ _));refine blk_put (cs:=#[.int .i64 t315,.slice none 0 0,.slice none 0 0,.slice none 0 0]) ?_ 1 _ rfl;(with_reducible repeat (first|refine kn_ ?_ _|refine kd_ ?_|refine ka_ ?_ _));refine blk_put (cs:=#[.int .i64 0,.slice none 0 0,.slice none 0 0,.slice none 0 0]) ?_ 0 _ rfl;(with_reducible repeat (first|refine kn_ ?_ _|refine kd_ ?_|refine ka_ ?_ _));exact BK314.out) hb);have n5_:=mk_ (KeepBut.trans (by repeat (first|(with_reducible first|exact HK.out|apply KeepBut.set_|apply keep_drewN|apply keep_drew|apply keep_alloc|refine keep_far ?_ GW313.out _|refine keep_far ?_ GW314.out _)|exact HK.out)) (KeepBut.of_below hb g none) (.inl rfl));have n6_:=mk_ (st_ (by repeat (first|(with_reducible first|exact HB.out|apply ba_|apply bn_|apply bd_|refine bs_ ?_ (IsS84.ge HI0.out)|refine bs_ ?_ GE313.out|refine bs_ ?_ GE314.out)|exact HB.out)) hb);clear HO318;clear HI0;clear BK313;clear BK314;clear HK;clear HB;have HO318:=n0_;have HO322:=n1_;have HI0:=n2_;have BK313:=n3_;have BK314:=n4_;have HK:=n5_;have HB:=n6_;clear n0_ n1_ n2_ n3_ n4_ n5_ n6_;clear hb ho13;obtain ⟨Ao14,co14,eo14⟩:=Kd.R_slice HO322.out;subst eo14)|((with_reducible refine gate_callee (f:=78) rfl ?_);refine goesL_ (some 19) rfl rfl Try.func78 (by kernel_rfl) rfl #[.pointer (some ⟨g,0,none⟩),.slice Ao14 y320.length co14] rfl (by (try simp only [List.map_toArray,List.map_cons,List.map_nil]);first|done|rfl|(simp only [List.length_drop,List.length_take];rfl)) ?_;(with_reducible refine (spec_l21Rd_num.calls k g s0_0 t319 _ _ y320 t323 t324 w0 _ ?side1 ?side2 ?side3 ?side4 ?side5 A3.out).mono ?_);(case side1 => repeat (first|(with_reducible first|exact HI0.out|apply IsS84.alloc|apply IsS84.drewN|apply IsS84.drew|apply IsS84.set_1|refine IsS84.far ?_ NB0_313.out _|refine IsS84.far ?_ NB0_314.out _)|exact HI0.out));(case side2 => repeat (first|(with_reducible first|exact HB.out|apply ba_|apply bn_|apply bd_|refine bs_ ?_ (IsS84.ge HI0.out)|refine bs_ ?_ GE313.out|refine bs_ ?_ GE314.out)|exact HB.out));(case side3 => repeat (first|exact (rr_ HO322.out).2.2|(with_reducible refine ca_ ?_ _)|(with_reducible refine cn_ ?_ _)|(with_reducible refine cd_ ?_)));(case side4 => exact (rr_ HO322.out).2.1);(case side5 => exact far_slice (IsS84.own_ne HI0.out HO322.out (by decide)));rintro e w15 ⟨rfl,hi,hb,hk⟩;refine ⟨_,rfl,?_⟩;have n0_:=mk_ (KeepBut.blk hk (g':=gb313) (o:=.cells #[.int .i64 0,.slice none 0 0,.slice none 0 0,.slice none 0 0] 30 (0,0)) (by (with_reducible repeat (first|refine kn_ ?_ _|refine kd_ ?_|refine ka_ ?_ _));exact BK313.out) NB313_0.out (by simp));have n1_:=mk_ (KeepBut.blk hk (g':=gb314) (o:=.cells #[.int .i64 t315,.slice Ao11 t316.length co11,.slice none 0 0,.slice none 0 0] 30 (0,0)) (by (with_reducible repeat (first|refine kn_ ?_ _|refine kd_ ?_|refine ka_ ?_ _));exact BK314.out) NB314_0.out (by simp));have n2_:=mk_ (rm_ (Kd.R_keep (IsS84.apart (show IsS84 w0 _ g s0_0 t319 from by repeat (first|(with_reducible first|exact HI0.out|apply IsS84.alloc|apply IsS84.drewN|apply IsS84.drew|apply IsS84.set_1|refine IsS84.far ?_ NB0_313.out _|refine IsS84.far ?_ NB0_314.out _)|exact HI0.out)) (by (with_reducible repeat (first|apply ra_|apply rn_|apply rd_));exact HO318.out) (by decide)) hk (fun _ h => h.2)) (fun _ h => h.1));have n3_:=mk_ (rm_ (Kd.R_keep (IsS84.apart (show IsS84 w0 _ g s0_0 t319 from by repeat (first|(with_reducible first|exact HI0.out|apply IsS84.alloc|apply IsS84.drewN|apply IsS84.drew|apply IsS84.set_1|refine IsS84.far ?_ NB0_313.out _|refine IsS84.far ?_ NB0_314.out _)|exact HI0.out)) (by (with_reducible repeat (first|apply ra_|apply rn_|apply rd_));exact HO322.out) (by decide)) hk (fun _ h => h.2)) (fun _ h => h.1));have n4_:=mk_ (KeepBut.trans (by repeat (first|(with_reducible first|exact HK.out|apply KeepBut.set_|apply keep_drewN|apply keep_drew|apply keep_alloc|refine keep_far ?_ GW313.out _|refine keep_far ?_ GW314.out _)|exact HK.out)) hk (.inl rfl));have n5_:=mk_ (hb);have n6_:=mk_ (hi);clear BK313;clear BK314;clear HO318;clear HO322;clear HK;clear HB;clear HI0;have BK313:=n0_;have BK314:=n1_;have HO318:=n2_;have HO322:=n3_;have HK:=n4_;have HB:=n5_;have HI0:=n6_;clear n0_ n1_ n2_ n3_ n4_ n5_ n6_;(try clear hb);(try clear hb2);(try clear hk);(try clear hi)))
 go_loopg [6] k (fun kq v6 w' => ∃ (x6_1 : Int) (x1001_1 : Int) (x315002_1 : List Int) (x315003_1 : List Int) (u315002 : Value) (u315003 : Value),v6 = .int .i64 x6_1 ∧ Aside0 (spec_l19Net.l0 kq t315 x6_1 s0_0 x1001_1 t315 t316 x315002_1 x315003_1 = some (r1,r2,r3,r4,r5)) ∧ Aside0 (kq ≤ k) ∧ Aside0 (Kd.R k51 51 w' w.heap.size (fun _ => True) (.slice Ao11 t316.length co11) t316) ∧ Aside0 (Kd.R (Kd.int .i64) 3 w' w.heap.size (fun k_ => some k_ ≠ (u315003 : Value).ownBlock) u315002 x315002_1) ∧ Aside0 (Kd.Q (Kd.int .i64) 3 w' w.heap.size (fun k_ => some k_ ≠ (u315002 : Value).ownBlock) u315003 x315003_1) ∧ Aside0 (w'.heap[gb313]? = some (.cells #[.int .i64 0,(.slice none 0 0),(.slice none 0 0),(.slice none 0 0)] 30 (0,0))) ∧ Aside0 (w'.heap[gb314]? = some (.cells #[.int .i64 t315,(.slice Ao11 t316.length co11),u315002,u315003] 30 (0,0))) ∧ Aside0 (IsS84 w0 w' g s0_0 x1001_1) ∧ Aside0 (KeepBut w w' g none) ∧ Aside0 (Below w0.heap.size w0 w'))
 case atStart => exact ⟨(t323),(t324),(([] : List Int)),(([] : List Int)),(.slice none 0 0),(.slice none 0 0),(by first|rfl|(simp;done)|(simp [*];done)),H',⟨Nat.le_refl _⟩,⟨by (with_reducible repeat (first|apply ra_|apply rn_|apply rd_));exact HO318.out⟩,⟨by first|exact Kd.R_nil _ _ _ _ _|exact Kd.N_nil _ _ _ _ _|exact Kd.V_nil _ _ _ _ _|exact Kd.Q_nil _ _ _ _ _|exact Kd.S_nil _ _ _ _ _⟩,⟨Kd.Q_of_R (by first|exact Kd.R_nil _ _ _ _ _|exact Kd.N_nil _ _ _ _ _|exact Kd.V_nil _ _ _ _ _|exact Kd.Q_nil _ _ _ _ _|exact Kd.S_nil _ _ _ _ _)⟩,⟨by (with_reducible repeat (first|refine kn_ ?_ _|refine kd_ ?_|refine ka_ ?_ _));exact BK313.out⟩,⟨by (with_reducible repeat (first|refine kn_ ?_ _|refine kd_ ?_|refine ka_ ?_ _));exact BK314.out⟩,⟨by repeat (first|(with_reducible first|exact HI0.out|apply IsS84.alloc|apply IsS84.drewN|apply IsS84.drew|apply IsS84.set_1|refine IsS84.far ?_ NB0_313.out _|refine IsS84.far ?_ NB0_314.out _)|exact HI0.out)⟩,⟨by repeat (first|(with_reducible first|exact HK.out|apply KeepBut.set_|apply keep_drewN|apply keep_drew|apply keep_alloc|refine keep_far ?_ GW313.out _|refine keep_far ?_ GW314.out _)|exact HK.out)⟩,⟨by repeat (first|(with_reducible first|exact HB.out|apply ba_|apply bn_|apply bd_|refine bs_ ?_ (IsS84.ge HI0.out)|refine bs_ ?_ GE313.out|refine bs_ ?_ GE314.out)|exact HB.out)⟩⟩
 case round =>
  clear H'
  try clear p2
  try clear c5
  try clear c6
  try clear c7
  try clear hcz10_0
  try clear hcz10_1
  try clear hcz10_2
  try clear hcz10_3
  try clear hcz8_0
  try clear hcz8_1
  try clear hcz8_2
  try clear hcz8_3
  try clear hfz10_0
  try clear hfz10_1
  try clear hfz10_2
  try clear hfz10_3
  try clear hfz8_0
  try clear hfz8_1
  try clear hfz8_2
  try clear hfz8_3
  obtain ⟨x6_1,x1001_1,x315002_1,x315003_1,u315002,u315003,rfl,HA,HK1,HO_315001,HO_315002,HO_315003,BK313,BK314,HI0,HK,HB⟩:=hrel
  cases gk with
  | zero => exact absurd HA.out (by simp [spec_l19Net.l0])
  | succ k1 =>
   have H:=HA.out
   clear HA
   simp only [spec_l19Net.l0] at H
   by_cases c16 : x6_1 > 0
   ·rw [if_pos c16] at H
    have c16b0 : decide (0 < x6_1) = true:=decide_eq_true c16
    clear c16
    replace H:=Option.bind_eq_some_iff.mp H
    obtain ⟨⟨t325,t326⟩,A170,H⟩:=H
    replace H : (if x315002_1.length < 17592186044416 then ((spec_l21Rd_num.f k1 s0_0 t326 (([1,2,3] : List Int))).bind fun bt333 => ((spec_l21Rd_pick.f k1 s0_0 bt333.2 bt333.1).bind fun bt335 => (if x315003_1.length < 17592186044416 then (spec_l19Net.l0 k1 t315 (wrap64 (x6_1 - 1)) s0_0 bt335.2 t315 t316 (x315002_1 ++ [t325]) (x315003_1 ++ [wrap64 (1 + bt335.1)])) else (none)))) else (none)) = some (r1,r2,r3,r4,r5):=H
    have A17:=mk_ A170
    clear A170
    by_cases c18 : x315002_1.length < 17592186044416
    ·rw [if_pos c18] at H
     have LMc18:=mk_ c18
     clear c18
     obtain ⟨y327,hy327⟩ : ∃ y_ : List Int,y_ = (x315002_1 ++ [t325]):=⟨_,rfl⟩
     replace H : ((spec_l21Rd_num.f k1 s0_0 t326 (([1,2,3] : List Int))).bind fun bt333 => ((spec_l21Rd_pick.f k1 s0_0 bt333.2 bt333.1).bind fun bt335 => (if x315003_1.length < 17592186044416 then (spec_l19Net.l0 k1 t315 (wrap64 (x6_1 - 1)) s0_0 bt335.2 t315 t316 y327 (x315003_1 ++ [wrap64 (1 + bt335.1)])) else (none)))) = some (r1,r2,r3,r4,r5):=by first|(rw [hy327];with_reducible exact H)|(have H2_:=(Option.bind_some _ _).symm.trans H;rw [hy327];with_reducible exact H2_)|(have H2_:=(Option.bind_some _ _).symm.trans H;with_reducible exact H2_)|with_reducible exact H|(rw [hy327];exact H)|exact H
     have Ny327:=mk_ hy327
     clear hy327
     obtain ⟨y330,hy330⟩ : ∃ y_ : List Int,y_ = (([1,2,3] : List Int)):=⟨_,rfl⟩
     replace H : ((spec_l21Rd_num.f k1 s0_0 t326 y330).bind fun bt333 => ((spec_l21Rd_pick.f k1 s0_0 bt333.2 bt333.1).bind fun bt335 => (if x315003_1.length < 17592186044416 then (spec_l19Net.l0 k1 t315 (wrap64 (x6_1 - 1)) s0_0 bt335.2 t315 t316 y327 (x315003_1 ++ [wrap64 (1 + bt335.1)])) else (none)))) = some (r1,r2,r3,r4,r5):=by first|(rw [hy330];with_reducible exact H)|(have H2_:=(Option.bind_some _ _).symm.trans H;rw [hy330];with_reducible exact H2_)|(have H2_:=(Option.bind_some _ _).symm.trans H;with_reducible exact H2_)|with_reducible exact H|(rw [hy330];exact H)|exact H
     have Ny330:=mk_ hy330
     clear hy330
     replace H:=Option.bind_eq_some_iff.mp H
     obtain ⟨⟨t333,t334⟩,A190,H⟩:=H
     replace H : ((spec_l21Rd_pick.f k1 s0_0 t334 t333).bind fun bt335 => (if x315003_1.length < 17592186044416 then (spec_l19Net.l0 k1 t315 (wrap64 (x6_1 - 1)) s0_0 bt335.2 t315 t316 y327 (x315003_1 ++ [wrap64 (1 + bt335.1)])) else (none))) = some (r1,r2,r3,r4,r5):=H
     have A19:=mk_ A190
     clear A190
     replace H:=Option.bind_eq_some_iff.mp H
     obtain ⟨⟨t335,t336⟩,A200,H⟩:=H
     replace H : (if x315003_1.length < 17592186044416 then (spec_l19Net.l0 k1 t315 (wrap64 (x6_1 - 1)) s0_0 t336 t315 t316 y327 (x315003_1 ++ [wrap64 (1 + t335)])) else (none)) = some (r1,r2,r3,r4,r5):=H
     have A20:=mk_ A200
     clear A200
     by_cases c21 : x315003_1.length < 17592186044416
     ·rw [if_pos c21] at H
      have LMc21:=mk_ c21
      clear c21
      obtain ⟨y337,hy337⟩ : ∃ y_ : List Int,y_ = (x315003_1 ++ [wrap64 (1 + t335)]):=⟨_,rfl⟩
      replace H : (spec_l19Net.l0 k1 t315 (wrap64 (x6_1 - 1)) s0_0 t336 t315 t316 y327 y337) = some (r1,r2,r3,r4,r5):=by first|(rw [hy337];with_reducible exact H)|(have H2_:=(Option.bind_some _ _).symm.trans H;rw [hy337];with_reducible exact H2_)|(have H2_:=(Option.bind_some _ _).symm.trans H;with_reducible exact H2_)|with_reducible exact H|(rw [hy337];exact H)|exact H
      have Ny337:=mk_ hy337
      clear hy337
      have H':=mk_ H
      clear H
      try go_wp2
      have n0_:=mk_ (rd_ HO_315001.out)
      have n1_:=mk_ (rd_ HO_315002.out)
      have n2_:=mk_ (Kd.Q_drew HO_315003.out)
      have n3_:=mk_ (kd_ BK313.out)
      have n4_:=mk_ (kd_ BK314.out)
      have n5_:=mk_ (IsS84.drew HI0.out)
      have n6_:=mk_ (keep_drew HK.out)
      have n7_:=mk_ (bd_ HB.out)
      clear HO_315001
      clear HO_315002
      clear HO_315003
      clear BK313
      clear BK314
      clear HI0
      clear HK
      clear HB
      have HO_315001:=n0_
      have HO_315002:=n1_
      have HO_315003:=n2_
      have BK313:=n3_
      have BK314:=n4_
      have HI0:=n5_
      have HK:=n6_
      have HB:=n7_
      clear n0_ n1_ n2_ n3_ n4_ n5_ n6_ n7_
      refine start_ (n:=9) (S:=fun w' => w'.cell? ⟨gb314,0,none⟩ = some (.int .i64 t315) ∧ w'.cell? ⟨gb314,1,none⟩ = some (.slice Ao11 t316.length co11) ∧ w'.cell? ⟨gb314,2,none⟩ = some (u315002) ∧ w'.cell? ⟨gb314,3,none⟩ = some (u315003)) (ds:=[8]) #[false,false,false,false,false,false,false,false,false] (by kernel_rfl) rfl rfl ⟨(bc_ BK314.out 0).trans rfl,(bc_ BK314.out 1).trans rfl,(bc_ BK314.out 2).trans rfl,(bc_ BK314.out 3).trans rfl⟩ (fun hHeld => ?_);refine with_tabW spec_l19Net.tab8 spec_l19Net.bits8 (fun HT_ HW_ => ?_)
      generalize wr.drew = w22 at HO_315001 HO_315002 HO_315003 BK313 BK314 HI0 HK HB hHeld ⊢
      refine pure_ (i:=0) (N:=some 24) (v:=?_) (a':=?_) #[true,false,false,false,false,false,false,false,false] rfl rfl (any_of HT_.out (by kernel_rfl)) (fun _ _ _ h => h) (Or.inl ⟨by rfl,?_⟩) ?_ ?_
      rotate_left
      ·intro w'
       go_simp
       with_reducible rfl
      rotate_left
      ·simp only [Act.put,List.setIfInBounds_toArray,List.set_cons_zero,List.set_cons_succ,i64_w,i32_w]
       rfl
      refine pure_ (i:=2) (N:=some 26) (v:=?_) (a':=?_) #[true,false,true,false,false,false,false,false,false] rfl rfl (any_of HT_.out (by kernel_rfl)) (fun _ _ _ h => h) (Or.inl ⟨by rfl,?_⟩) ?_ ?_
      rotate_left
      ·intro w'
       go_simp
       with_reducible rfl
      rotate_left
      ·simp only [Act.put,List.setIfInBounds_toArray,List.set_cons_zero,List.set_cons_succ,i64_w,i32_w]
       rfl
      refine pure_ (i:=3) (N:=some 27) (v:=?_) (a':=?_) #[true,false,true,true,false,false,false,false,false] rfl rfl (any_of HT_.out (by kernel_rfl)) (fun _ _ _ h => h) (Or.inl ⟨by rfl,?_⟩) ?_ ?_
      rotate_left
      ·intro w'
       go_simp
       with_reducible rfl
      rotate_left
      ·simp only [Act.put,List.setIfInBounds_toArray,List.set_cons_zero,List.set_cons_succ,i64_w,i32_w]
       rfl
      refine take_ (i:=1) (N:=some 25) (v:=?_) (a':=?_) #[true,true,true,true,false,false,false,false,false] rfl rfl (take_ofW HT_.out HW_.out (by kernel_rfl)) (fun _ _ _ h => h) (Or.inl ⟨by rfl,?_⟩) hHeld ?_ ?_
      rotate_left
      ·rintro w' ⟨s0,s1,s2,s3⟩
       go_simp
       with_reducible rfl
      rotate_left
      ·simp only [Act.put,List.setIfInBounds_toArray,List.set_cons_zero,List.set_cons_succ,i64_w,i32_w]
       rfl
      refine one_ (i:=4) (N:=some 28) #[true,true,true,true,true,false,false,false,false] rfl rfl (one_of HT_.out (by kernel_rfl)) (by decide) (fun K hK => ?_)
      refine goes_ Try.func53 (by kernel_rfl) rfl #[.pointer (some ⟨g,0,none⟩),.int .i64 t315] (by rfl) rfl rfl (by (try simp only [List.map_toArray,List.map_cons,List.map_nil]);first|done|rfl|(simp only [List.length_drop,List.length_take];rfl)) ?_
      with_reducible refine (spec_l21Rd_pick.calls k1 g s0_0 x1001_1 t315 t325 t326 w0 _ ?side1 ?side2 A17.out).mono ?_
      (case side1 => repeat (first|(with_reducible first|exact HI0.out|apply IsS84.alloc|apply IsS84.drewN|apply IsS84.drew|apply IsS84.set_1|refine IsS84.far ?_ NB0_313.out _|refine IsS84.far ?_ NB0_314.out _)|exact HI0.out))
      (case side2 => repeat (first|(with_reducible first|exact HB.out|apply ba_|apply bn_|apply bd_|refine bs_ ?_ (IsS84.ge HI0.out)|refine bs_ ?_ GE313.out|refine bs_ ?_ GE314.out)|exact HB.out))
      rintro e w23 ⟨rfl,hi,hb,hk⟩
      refine ⟨_,rfl,?_⟩
      have n0_:=mk_ (rm_ (Kd.R_keep (IsS84.apart (show IsS84 w0 _ g s0_0 x1001_1 from by repeat (first|(with_reducible first|exact HI0.out|apply IsS84.alloc|apply IsS84.drewN|apply IsS84.drew|apply IsS84.set_1|refine IsS84.far ?_ NB0_313.out _|refine IsS84.far ?_ NB0_314.out _)|exact HI0.out)) (by (with_reducible repeat (first|apply ra_|apply rn_|apply rd_));exact HO_315001.out) (by decide)) hk (fun _ h => h.2)) (fun _ h => h.1))
      have n1_:=mk_ (rm_ (Kd.R_keep (IsS84.apart (show IsS84 w0 _ g s0_0 x1001_1 from by repeat (first|(with_reducible first|exact HI0.out|apply IsS84.alloc|apply IsS84.drewN|apply IsS84.drew|apply IsS84.set_1|refine IsS84.far ?_ NB0_313.out _|refine IsS84.far ?_ NB0_314.out _)|exact HI0.out)) (by (with_reducible repeat (first|apply ra_|apply rn_|apply rd_));exact HO_315002.out) (by decide)) hk (fun _ h => h.2)) (fun _ h => h.1))
      have n2_:=mk_ (Kd.Q_mono (Kd.Q_keep (IsS84.apartQ (show IsS84 w0 _ g s0_0 x1001_1 from by repeat (first|(with_reducible first|exact HI0.out|apply IsS84.alloc|apply IsS84.drewN|apply IsS84.drew|apply IsS84.set_1|refine IsS84.far ?_ NB0_313.out _|refine IsS84.far ?_ NB0_314.out _)|exact HI0.out)) (by (with_reducible repeat (first|apply Kd.Q_alloc|apply Kd.Q_drewN|apply Kd.Q_drew));exact HO_315003.out) (by decide)) hk (fun _ h => h.2)) (fun _ h => h.1))
      have n3_:=mk_ (KeepBut.blk hk (g':=gb313) (o:=.cells #[.int .i64 0,.slice none 0 0,.slice none 0 0,.slice none 0 0] 30 (0,0)) (by (with_reducible repeat (first|refine kn_ ?_ _|refine kd_ ?_|refine ka_ ?_ _));exact BK313.out) NB313_0.out (by simp))
      have n4_:=mk_ (KeepBut.blk hk (g':=gb314) (o:=.cells #[.int .i64 t315,.slice Ao11 t316.length co11,u315002,u315003] 30 (0,0)) (by (with_reducible repeat (first|refine kn_ ?_ _|refine kd_ ?_|refine ka_ ?_ _));exact BK314.out) NB314_0.out (by simp))
      have n5_:=mk_ (KeepBut.trans (by repeat (first|(with_reducible first|exact HK.out|apply KeepBut.set_|apply keep_drewN|apply keep_drew|apply keep_alloc|refine keep_far ?_ GW313.out _|refine keep_far ?_ GW314.out _)|exact HK.out)) hk (.inl rfl))
      have n6_:=mk_ (hb)
      have n7_:=mk_ (hi)
      clear HO_315001
      clear HO_315002
      clear HO_315003
      clear BK313
      clear BK314
      clear HK
      clear HB
      clear HI0
      have HO_315001:=n0_
      have HO_315002:=n1_
      have HO_315003:=n2_
      have BK313:=n3_
      have BK314:=n4_
      have HK:=n5_
      have HB:=n6_
      have HI0:=n7_
      clear n0_ n1_ n2_ n3_ n4_ n5_ n6_ n7_
      (try clear hb)
      (try clear hb2)
      (try clear hk)
      (try clear hi)
      refine hK.out _ _ ⟨(bc_ BK314.out 0).trans rfl,(bc_ BK314.out 1).trans rfl,(bc_ BK314.out 2).trans rfl,(bc_ BK314.out 3).trans rfl⟩ (fun hHeld => ?_)
      clear hK K
      refine norm_ (a':=?_) ?_ ?_
      rotate_left
      ·show Act.put _ (some 28) _ = _
       simp only [Act.put,List.setIfInBounds_toArray,List.set_cons_zero,List.set_cons_succ,i64_w,i32_w]
       rfl
      refine one_ (i:=5) (N:=some 29) #[true,true,true,true,true,true,false,false,false] rfl rfl (one_of HT_.out (by kernel_rfl)) (by decide) (fun K hK => ?_)
      refine value_ (w1:=?_) (v:=?_) (by rfl) rfl ?_ ?_
      rotate_left 2
      ·go_simp
       constructor
       ·rfl
       ·rfl
      refine hK.out _ _ ⟨(bc_ (ka_ BK314.out _) 0).trans rfl,(bc_ (ka_ BK314.out _) 1).trans rfl,(bc_ (ka_ BK314.out _) 2).trans rfl,(bc_ (ka_ BK314.out _) 3).trans rfl⟩ (fun hHeld => ?_)
      clear hK K
      refine norm_ (a':=?_) ?_ ?_
      rotate_left
      ·show Act.put _ (some 29) _ = _
       simp only [Act.put,List.setIfInBounds_toArray,List.set_cons_zero,List.set_cons_succ,i64_w,i32_w]
       rfl
      refine one_ (i:=6) (N:=some 30) #[true,true,true,true,true,true,true,false,false] rfl rfl (one_of HT_.out (by kernel_rfl)) (by decide) (fun K hK => ?_)
      refine Kd.R_append_step (Kd.int .i64) w.heap.size (by rfl) (.tmp 25) (.tmp 29) 23 3 (.int .i64 0) 8 rfl Try.underlying23 info3 rfl (by decide) (by omega) u315002 x315002_1 t325 [.int .i64 t325] (fun k_ => some k_ ≠ (u315003 : Value).ownBlock) (fun _ => False) rfl rfl ?aP (fun _ hk => hk.elim) ?aF ?aO (Below.refl _ _) ?aS ?aL ?_
      (case aP => exact rfl)
      (case aF => exact (fun k_ hk => Kd.fresh' (Kd.Q_lt (by (with_reducible repeat (first|apply Kd.Q_alloc|apply Kd.Q_drewN|apply Kd.Q_drew));exact HO_315003.out)) k_ hk))
      (case aO => exact (by (with_reducible repeat (first|apply ra_|apply rn_|apply rd_));exact HO_315002.out))
      (case aS => exact (keep_size (w:=w) (g:=g) (row:=none) (by repeat (first|(with_reducible first|exact HK.out|apply KeepBut.set_|apply keep_drewN|apply keep_drew|apply keep_alloc|refine keep_far ?_ GW313.out _|refine keep_far ?_ GW314.out _)|exact HK.out))))
      (case aL => have:=LMc18.out;omega)
      intro v328 w24 ho hb hg hat
      rw [← Ny327.out] at ho
      have n0_:=mk_ (Kd.R_over' (by (with_reducible repeat (first|apply ra_|apply rn_|apply rd_));exact HO_315001.out) (Kd.R_typed (by (with_reducible repeat (first|apply ra_|apply rn_|apply rd_));exact HO_315002.out)) (by decide) hg)
      have n1_:=mk_ (Kd.Q_after (ok:=(fun _ => True)) (by (with_reducible repeat (first|apply Kd.Q_alloc|apply Kd.Q_drewN|apply Kd.Q_drew));exact Kd.Q_mono HO_315003.out (fun _ hk => ⟨trivial,hk⟩)) hg hat)
      have n2_:=mk_ (blk_grown (g:=gb313) (o:=.cells #[.int .i64 0,.slice none 0 0,.slice none 0 0,.slice none 0 0] 30 (0,0)) (by (with_reducible repeat (first|refine kn_ ?_ _|refine kd_ ?_|refine ka_ ?_ _));exact BK313.out) hg (Kd.R_ne HO_315002.out BK313.out (by decide)))
      have n3_:=mk_ (blk_grown (g:=gb314) (o:=.cells #[.int .i64 t315,.slice Ao11 t316.length co11,u315002,u315003] 30 (0,0)) (by (with_reducible repeat (first|refine kn_ ?_ _|refine kd_ ?_|refine ka_ ?_ _));exact BK314.out) hg (Kd.R_ne HO_315002.out BK314.out (by decide)))
      have n4_:=mk_ (IsS84.grown (by repeat (first|(with_reducible first|exact HI0.out|apply IsS84.alloc|apply IsS84.drewN|apply IsS84.drew|apply IsS84.set_1|refine IsS84.far ?_ NB0_313.out _|refine IsS84.far ?_ NB0_314.out _)|exact HI0.out)) hg (IsS84.own_ne HI0.out HO_315002.out (by decide)))
      have n5_:=mk_ (below_weaken (by repeat (first|(with_reducible first|exact HB.out|apply ba_|apply bn_|apply bd_|refine bs_ ?_ (IsS84.ge HI0.out)|refine bs_ ?_ GE313.out|refine bs_ ?_ GE314.out)|exact HB.out)) HL.out hb)
      have n6_:=mk_ (KeepBut.trans (by repeat (first|(with_reducible first|exact HK.out|apply KeepBut.set_|apply keep_drewN|apply keep_drew|apply keep_alloc|refine keep_far ?_ GW313.out _|refine keep_far ?_ GW314.out _)|exact HK.out)) (KeepBut.of_grown hg g) (Kd.R_base2 HO_315002.out))
      have n7_:=mk_ (ho)
      clear HO_315001
      clear HO_315003
      clear BK313
      clear BK314
      clear HI0
      clear HB
      clear HK
      clear HO_315002
      have HO_315001:=n0_
      have HO_315003:=n1_
      have BK313:=n2_
      have BK314:=n3_
      have HI0:=n4_
      have HB:=n5_
      have HK:=n6_
      have HO329:=n7_
      clear n0_ n1_ n2_ n3_ n4_ n5_ n6_ n7_
      clear ho hb hg hat
      obtain ⟨Ao25,co25,eo25⟩:=Kd.R_slice HO329.out
      (first|subst eo25|(injection eo25 with f1_ f2_ f3_;have f4_:=f1_.symm;have f5_:=f3_.symm;clear f1_ f2_ f3_;subst f4_;subst f5_))
      refine hK.out _ _ ⟨(bc_ BK314.out 0).trans rfl,(bc_ BK314.out 1).trans rfl,(bc_ BK314.out 2).trans rfl,(bc_ BK314.out 3).trans rfl⟩ (fun hHeld => ?_)
      clear hK K
      refine norm_ (a':=?_) ?_ ?_
      rotate_left
      ·show Act.put _ (some 30) _ = _
       simp only [Act.put,List.setIfInBounds_toArray,List.set_cons_zero,List.set_cons_succ,i64_w,i32_w]
       rfl
      refine pure_ (i:=7) (N:=some 31) (v:=?_) (a':=?_) #[true,true,true,true,true,true,true,true,false] rfl rfl (any_of HT_.out (by kernel_rfl)) (fun _ _ _ h => h) (Or.inl ⟨by rfl,?_⟩) ?_ ?_
      rotate_left
      ·intro w'
       go_simp
       with_reducible rfl
      rotate_left
      ·simp only [Act.put,List.setIfInBounds_toArray,List.set_cons_zero,List.set_cons_succ,i64_w,i32_w]
       rfl
      refine last_ (i:=8) (N:=none) #[true,true,true,true,true,true,true,true,true] rfl rfl (one_of HT_.out (by kernel_rfl)) (by decide) (fun K hK => ?_)
      have hs26 : w24.cell? ⟨gb314,2,none⟩ = some (u315002):=(bc_ BK314.out 2).trans rfl
      have hfs26:=bf_ BK314.out 2
      have hns26_0:=NB313_314.out
      have hms26_0:=NB314_313.out
      refine skip_ (w1:=?_) (by rfl) rfl ?_ ?_
      rotate_left
      ·go_simp
       rfl
      refine hK.out _ _ ?_
      clear hK K
      refine done_ (done_of HT_.out (by kernel_rfl)) ?_
      try go_wp2
      have n0_ : Aside0 (Kd.R k51 51 (w24.setCell ⟨gb314,2,none⟩ (.slice Ao25 y327.length co25)) w.heap.size (fun _ => True) (.slice Ao11 t316.length co11) t316):=⟨by (with_reducible repeat (first|apply ra_|apply rn_|apply rd_));exact rm_ (rf_ (p:=⟨gb314,2,none⟩) (rt_ HO_315001.out BK314.out (by decide)) (fun _ hk => hk.2) (.slice Ao25 y327.length co25)) (fun _ hk => trivial)⟩
      have n1_ : Aside0 (Kd.Q (Kd.int .i64) 3 (w24.setCell ⟨gb314,2,none⟩ (.slice Ao25 y327.length co25)) w.heap.size (fun k_ => some k_ ≠ (.slice Ao25 y327.length co25 : Value).ownBlock) u315003 x315003_1):=⟨by (with_reducible repeat (first|apply Kd.Q_alloc|apply Kd.Q_drewN|apply Kd.Q_drew));exact Kd.Q_mono (Kd.Q_far (p:=⟨gb314,2,none⟩) (Kd.Q_types HO_315003.out BK314.out (by decide)) (fun _ hk => hk.2) (.slice Ao25 y327.length co25)) (fun _ hk => hk.1.2)⟩
      have n2_ : Aside0 (Kd.R (Kd.int .i64) 3 (w24.setCell ⟨gb314,2,none⟩ (.slice Ao25 y327.length co25)) w.heap.size (fun k_ => some k_ ≠ (u315003 : Value).ownBlock) (.slice Ao25 y327.length co25) y327):=⟨by (with_reducible repeat (first|apply ra_|apply rn_|apply rd_));exact rm_ (rf_ (p:=⟨gb314,2,none⟩) (rt_ HO329.out BK314.out (by decide)) (fun _ hk => hk.2) (.slice Ao25 y327.length co25)) (fun _ hk => hk.1)⟩
      have n3_ : Aside0 ((w24.setCell ⟨gb314,2,none⟩ (.slice Ao25 y327.length co25)).heap[gb313]? = some (.cells #[.int .i64 0,.slice none 0 0,.slice none 0 0,.slice none 0 0] 30 (0,0))):=⟨by (with_reducible repeat (first|refine kn_ ?_ _|refine kd_ ?_|refine ka_ ?_ _));refine blk_far ?_ NB313_314.out _;(with_reducible repeat (first|refine kn_ ?_ _|refine kd_ ?_|refine ka_ ?_ _));exact BK313.out⟩
      have n4_ : Aside0 ((w24.setCell ⟨gb314,2,none⟩ (.slice Ao25 y327.length co25)).heap[gb314]? = some (.cells #[.int .i64 t315,.slice Ao11 t316.length co11,.slice Ao25 y327.length co25,u315003] 30 (0,0))):=⟨by (with_reducible repeat (first|refine kn_ ?_ _|refine kd_ ?_|refine ka_ ?_ _));refine blk_put (cs:=#[.int .i64 t315,.slice Ao11 t316.length co11,u315002,u315003]) ?_ 2 _ rfl;(with_reducible repeat (first|refine kn_ ?_ _|refine kd_ ?_|refine ka_ ?_ _));exact BK314.out⟩
      have n5_ : Aside0 (IsS84 w0 (w24.setCell ⟨gb314,2,none⟩ (.slice Ao25 y327.length co25)) g s0_0 t326):=⟨by repeat (first|(with_reducible first|exact HI0.out|apply IsS84.alloc|apply IsS84.drewN|apply IsS84.drew|apply IsS84.set_1|refine IsS84.far ?_ NB0_313.out _|refine IsS84.far ?_ NB0_314.out _)|exact HI0.out)⟩
      have n6_ : Aside0 (KeepBut w (w24.setCell ⟨gb314,2,none⟩ (.slice Ao25 y327.length co25)) g none):=⟨by repeat (first|(with_reducible first|exact HK.out|apply KeepBut.set_|apply keep_drewN|apply keep_drew|apply keep_alloc|refine keep_far ?_ GW313.out _|refine keep_far ?_ GW314.out _)|exact HK.out)⟩
      have n7_ : Aside0 (Below w0.heap.size w0 (w24.setCell ⟨gb314,2,none⟩ (.slice Ao25 y327.length co25))):=⟨by repeat (first|(with_reducible first|exact HB.out|apply ba_|apply bn_|apply bd_|refine bs_ ?_ (IsS84.ge HI0.out)|refine bs_ ?_ GE313.out|refine bs_ ?_ GE314.out)|exact HB.out)⟩
      (try clear HO_315001)
      (try clear HO_315003)
      (try clear HO329)
      (try clear BK313)
      (try clear BK314)
      (try clear HI0)
      (try clear HK)
      (try clear HB)
      generalize (w24.setCell ⟨gb314,2,none⟩ (.slice Ao25 y327.length co25)) = w27 at n0_ n1_ n2_ n3_ n4_ n5_ n6_ n7_ ⊢
      have HO_315001:=n0_
      have HO_315003:=n1_
      have HO329:=n2_
      have BK313:=n3_
      have BK314:=n4_
      have HI0:=n5_
      have HK:=n6_
      have HB:=n7_
      clear n0_ n1_ n2_ n3_ n4_ n5_ n6_ n7_
      have n0_:=mk_ (rd_ HO_315001.out)
      have n1_:=mk_ (Kd.Q_drew HO_315003.out)
      have n2_:=mk_ (rd_ HO329.out)
      have n3_:=mk_ (kd_ BK313.out)
      have n4_:=mk_ (kd_ BK314.out)
      have n5_:=mk_ (IsS84.drew HI0.out)
      have n6_:=mk_ (keep_drew HK.out)
      have n7_:=mk_ (bd_ HB.out)
      clear HO_315001
      clear HO_315003
      clear HO329
      clear BK313
      clear BK314
      clear HI0
      clear HK
      clear HB
      have HO_315001:=n0_
      have HO_315003:=n1_
      have HO329:=n2_
      have BK313:=n3_
      have BK314:=n4_
      have HI0:=n5_
      have HK:=n6_
      have HB:=n7_
      clear n0_ n1_ n2_ n3_ n4_ n5_ n6_ n7_
      refine start_ (n:=12) (S:=fun w' => w'.cell? ⟨gb314,0,none⟩ = some (.int .i64 t315) ∧ w'.cell? ⟨gb314,1,none⟩ = some (.slice Ao11 t316.length co11) ∧ w'.cell? ⟨gb314,2,none⟩ = some (.slice Ao25 y327.length co25) ∧ w'.cell? ⟨gb314,3,none⟩ = some (u315003)) (ds:=[11]) #[false,false,false,false,false,false,false,false,false,false,false,false] (by kernel_rfl) rfl rfl ⟨(bc_ BK314.out 0).trans rfl,(bc_ BK314.out 1).trans rfl,(bc_ BK314.out 2).trans rfl,(bc_ BK314.out 3).trans rfl⟩ (fun hHeld => ?_);refine with_tabW spec_l19Net.tab9 spec_l19Net.bits9 (fun HT_ HW_ => ?_)
      generalize w27.drew = w28 at HO_315001 HO_315003 HO329 BK313 BK314 HI0 HK HB hHeld ⊢
      refine pure_ (i:=0) (N:=some 32) (v:=?_) (a':=?_) #[true,false,false,false,false,false,false,false,false,false,false,false] rfl rfl (any_of HT_.out (by kernel_rfl)) (fun _ _ _ h => h) (Or.inl ⟨by rfl,?_⟩) ?_ ?_
      rotate_left
      ·intro w'
       go_simp
       with_reducible rfl
      rotate_left
      ·simp only [Act.put,List.setIfInBounds_toArray,List.set_cons_zero,List.set_cons_succ,i64_w,i32_w]
       rfl
      refine pure_ (i:=2) (N:=some 34) (v:=?_) (a':=?_) #[true,false,true,false,false,false,false,false,false,false,false,false] rfl rfl (any_of HT_.out (by kernel_rfl)) (fun _ _ _ h => h) (Or.inl ⟨by rfl,?_⟩) ?_ ?_
      rotate_left
      ·intro w'
       go_simp
       with_reducible rfl
      rotate_left
      ·simp only [Act.put,List.setIfInBounds_toArray,List.set_cons_zero,List.set_cons_succ,i64_w,i32_w]
       rfl
      refine pure_ (i:=3) (N:=some 35) (v:=?_) (a':=?_) #[true,false,true,true,false,false,false,false,false,false,false,false] rfl rfl (any_of HT_.out (by kernel_rfl)) (fun _ _ _ h => h) (Or.inl ⟨by rfl,?_⟩) ?_ ?_
      rotate_left
      ·intro w'
       go_simp
       with_reducible rfl
      rotate_left
      ·simp only [Act.put,List.setIfInBounds_toArray,List.set_cons_zero,List.set_cons_succ,i64_w,i32_w]
       rfl
      refine take_ (i:=1) (N:=some 33) (v:=?_) (a':=?_) #[true,true,true,true,false,false,false,false,false,false,false,false] rfl rfl (take_ofW HT_.out HW_.out (by kernel_rfl)) (fun _ _ _ h => h) (Or.inl ⟨by rfl,?_⟩) hHeld ?_ ?_
      rotate_left
      ·rintro w' ⟨s0,s1,s2,s3⟩
       go_simp
       with_reducible rfl
      rotate_left
      ·simp only [Act.put,List.setIfInBounds_toArray,List.set_cons_zero,List.set_cons_succ,i64_w,i32_w]
       rfl
      refine one_ (i:=4) (N:=some 36) #[true,true,true,true,true,false,false,false,false,false,false,false] rfl rfl (one_of HT_.out (by kernel_rfl)) (by decide) (fun K hK => ?_)
      refine Kd.R_lit_step (Kd.int .i64) _ 3 ?hg (N:=36) ?hd (xs:=([1,2,3] : List Int)) (inner:=[.int .i64 1,.int .i64 2,.int .i64 3]) (ok:=fun _ => True) (okp:=fun _ => True) ?hr ?hp (fun _ hk => hk) trivial (Below.refl _ _) (Nat.le_refl _) (by simp) ?_;(case hd => rfl);(case hg => rfl);(case hr => first|(go_simp;done)|(go_simp;rfl));(case hp => exact (Reps.one (show Kd.M (Kd.int .i64) _ _ _ 1 [.int .i64 1] from rfl) (Reps.one (show Kd.M (Kd.int .i64) _ _ _ 2 [.int .i64 2] from rfl) (Reps.one (show Kd.M (Kd.int .i64) _ _ _ 3 [.int .i64 3] from rfl) (Reps.none _ _)))))
      intro v331 w29 ho30 hb hg_ hnew_
      clear hg_ hnew_
      (first|rw [← Ny330.out] at ho30|(simp only [Int.reduceToNat] at ho30;rw [← Ny330.out] at ho30))
      have n0_:=mk_ (rb_ (by (with_reducible repeat (first|apply ra_|apply rn_|apply rd_));exact HO_315001.out) hb)
      have n1_:=mk_ (Kd.Q_elder' (by (with_reducible repeat (first|apply Kd.Q_alloc|apply Kd.Q_drewN|apply Kd.Q_drew));exact HO_315003.out) (Kd.R_base ho30) hb)
      have n2_:=mk_ (re_ (by (with_reducible repeat (first|apply ra_|apply rn_|apply rd_));exact HO329.out) (Kd.R_base ho30) hb)
      have n3_:=mk_ (Kd.R_lower (Kd.R_new' (Kd.R_new' ho30 (Kd.Q_lt (by (with_reducible repeat (first|apply Kd.Q_alloc|apply Kd.Q_drewN|apply Kd.Q_drew));exact HO_315003.out))) (Kd.R_lt (by (with_reducible repeat (first|apply ra_|apply rn_|apply rd_));exact HO329.out))) (keep_size (w:=w) (g:=g) (row:=none) (by repeat (first|(with_reducible first|exact HK.out|apply KeepBut.set_|apply keep_drewN|apply keep_drew|apply keep_alloc|refine keep_far ?_ GW313.out _|refine keep_far ?_ GW314.out _)|exact HK.out))))
      have n4_:=mk_ (blk_below (g:=gb313) (o:=.cells #[.int .i64 0,.slice none 0 0,.slice none 0 0,.slice none 0 0] 30 (0,0)) (by (with_reducible repeat (first|refine kn_ ?_ _|refine kd_ ?_|refine ka_ ?_ _));exact BK313.out) hb)
      have n5_:=mk_ (blk_below (g:=gb314) (o:=.cells #[.int .i64 t315,.slice Ao11 t316.length co11,.slice Ao25 y327.length co25,u315003] 30 (0,0)) (by (with_reducible repeat (first|refine kn_ ?_ _|refine kd_ ?_|refine ka_ ?_ _));exact BK314.out) hb)
      have n6_:=mk_ (IsS84.below (by repeat (first|(with_reducible first|exact HI0.out|apply IsS84.alloc|apply IsS84.drewN|apply IsS84.drew|apply IsS84.set_1|refine IsS84.far ?_ NB0_313.out _|refine IsS84.far ?_ NB0_314.out _)|exact HI0.out)) hb)
      have n7_:=mk_ (KeepBut.trans (by repeat (first|(with_reducible first|exact HK.out|apply KeepBut.set_|apply keep_drewN|apply keep_drew|apply keep_alloc|refine keep_far ?_ GW313.out _|refine keep_far ?_ GW314.out _)|exact HK.out)) (KeepBut.of_below hb g none) (.inl rfl))
      have n8_:=mk_ (st_ (by repeat (first|(with_reducible first|exact HB.out|apply ba_|apply bn_|apply bd_|refine bs_ ?_ (IsS84.ge HI0.out)|refine bs_ ?_ GE313.out|refine bs_ ?_ GE314.out)|exact HB.out)) hb)
      clear HO_315001
      clear HO_315003
      clear HO329
      clear BK313
      clear BK314
      clear HI0
      clear HK
      clear HB
      have HO_315001:=n0_
      have HO_315003:=n1_
      have HO329:=n2_
      have HO332:=n3_
      have BK313:=n4_
      have BK314:=n5_
      have HI0:=n6_
      have HK:=n7_
      have HB:=n8_
      clear n0_ n1_ n2_ n3_ n4_ n5_ n6_ n7_ n8_
      clear hb ho30
      obtain ⟨Ao31,co31,eo31⟩:=Kd.R_slice HO332.out
      (first|subst eo31|(injection eo31 with f1_ f2_ f3_;have f4_:=f1_.symm;have f5_:=f3_.symm;clear f1_ f2_ f3_;subst f4_;subst f5_))
      refine hK.out _ _ ⟨(bc_ BK314.out 0).trans rfl,(bc_ BK314.out 1).trans rfl,(bc_ BK314.out 2).trans rfl,(bc_ BK314.out 3).trans rfl⟩ (fun hHeld => ?_)
      clear hK K
      refine norm_ (a':=?_) ?_ ?_
      rotate_left
      ·show Act.put _ (some 36) _ = _
       simp only [Act.put,List.setIfInBounds_toArray,List.set_cons_zero,List.set_cons_succ,i64_w,i32_w]
       rfl
      refine one_ (i:=5) (N:=some 37) #[true,true,true,true,true,true,false,false,false,false,false,false] rfl rfl (one_of HT_.out (by kernel_rfl)) (by decide) (fun K hK => ?_)
      refine goes_ Try.func78 (by kernel_rfl) rfl #[.pointer (some ⟨g,0,none⟩),.slice Ao31 y330.length co31] (by rfl) rfl rfl (by (try simp only [List.map_toArray,List.map_cons,List.map_nil]);first|done|rfl|(simp only [List.length_drop,List.length_take];rfl)) ?_
      with_reducible refine (spec_l21Rd_num.calls k1 g s0_0 t326 _ _ y330 t333 t334 w0 _ ?side1 ?side2 ?side3 ?side4 ?side5 A19.out).mono ?_
      (case side1 => repeat (first|(with_reducible first|exact HI0.out|apply IsS84.alloc|apply IsS84.drewN|apply IsS84.drew|apply IsS84.set_1|refine IsS84.far ?_ NB0_313.out _|refine IsS84.far ?_ NB0_314.out _)|exact HI0.out))
      (case side2 => repeat (first|(with_reducible first|exact HB.out|apply ba_|apply bn_|apply bd_|refine bs_ ?_ (IsS84.ge HI0.out)|refine bs_ ?_ GE313.out|refine bs_ ?_ GE314.out)|exact HB.out))
      (case side3 => repeat (first|exact (rr_ HO332.out).2.2|(with_reducible refine ca_ ?_ _)|(with_reducible refine cn_ ?_ _)|(with_reducible refine cd_ ?_)))
      (case side4 => exact (rr_ HO332.out).2.1)
      (case side5 => exact far_slice (IsS84.own_ne HI0.out HO332.out (by decide)))
      rintro e w32 ⟨rfl,hi,hb,hk⟩
      refine ⟨_,rfl,?_⟩
      have n0_:=mk_ (rm_ (Kd.R_keep (IsS84.apart (show IsS84 w0 _ g s0_0 t326 from by repeat (first|(with_reducible first|exact HI0.out|apply IsS84.alloc|apply IsS84.drewN|apply IsS84.drew|apply IsS84.set_1|refine IsS84.far ?_ NB0_313.out _|refine IsS84.far ?_ NB0_314.out _)|exact HI0.out)) (by (with_reducible repeat (first|apply ra_|apply rn_|apply rd_));exact HO_315001.out) (by decide)) hk (fun _ h => h.2)) (fun _ h => h.1))
      have n1_:=mk_ (Kd.Q_mono (Kd.Q_keep (IsS84.apartQ (show IsS84 w0 _ g s0_0 t326 from by repeat (first|(with_reducible first|exact HI0.out|apply IsS84.alloc|apply IsS84.drewN|apply IsS84.drew|apply IsS84.set_1|refine IsS84.far ?_ NB0_313.out _|refine IsS84.far ?_ NB0_314.out _)|exact HI0.out)) (by (with_reducible repeat (first|apply Kd.Q_alloc|apply Kd.Q_drewN|apply Kd.Q_drew));exact HO_315003.out) (by decide)) hk (fun _ h => h.2)) (fun _ h => h.1))
      have n2_:=mk_ (KeepBut.blk hk (g':=gb313) (o:=.cells #[.int .i64 0,.slice none 0 0,.slice none 0 0,.slice none 0 0] 30 (0,0)) (by (with_reducible repeat (first|refine kn_ ?_ _|refine kd_ ?_|refine ka_ ?_ _));exact BK313.out) NB313_0.out (by simp))
      have n3_:=mk_ (KeepBut.blk hk (g':=gb314) (o:=.cells #[.int .i64 t315,.slice Ao11 t316.length co11,.slice Ao25 y327.length co25,u315003] 30 (0,0)) (by (with_reducible repeat (first|refine kn_ ?_ _|refine kd_ ?_|refine ka_ ?_ _));exact BK314.out) NB314_0.out (by simp))
      have n4_:=mk_ (rm_ (Kd.R_keep (IsS84.apart (show IsS84 w0 _ g s0_0 t326 from by repeat (first|(with_reducible first|exact HI0.out|apply IsS84.alloc|apply IsS84.drewN|apply IsS84.drew|apply IsS84.set_1|refine IsS84.far ?_ NB0_313.out _|refine IsS84.far ?_ NB0_314.out _)|exact HI0.out)) (by (with_reducible repeat (first|apply ra_|apply rn_|apply rd_));exact HO329.out) (by decide)) hk (fun _ h => h.2)) (fun _ h => h.1))
      have n5_:=mk_ (rm_ (Kd.R_keep (IsS84.apart (show IsS84 w0 _ g s0_0 t326 from by repeat (first|(with_reducible first|exact HI0.out|apply IsS84.alloc|apply IsS84.drewN|apply IsS84.drew|apply IsS84.set_1|refine IsS84.far ?_ NB0_313.out _|refine IsS84.far ?_ NB0_314.out _)|exact HI0.out)) (by (with_reducible repeat (first|apply ra_|apply rn_|apply rd_));exact HO332.out) (by decide)) hk (fun _ h => h.2)) (fun _ h => h.1))
      have n6_:=mk_ (KeepBut.trans (by repeat (first|(with_reducible first|exact HK.out|apply KeepBut.set_|apply keep_drewN|apply keep_drew|apply keep_alloc|refine keep_far ?_ GW313.out _|refine keep_far ?_ GW314.out _)|exact HK.out)) hk (.inl rfl))
      have n7_:=mk_ (hb)
      have n8_:=mk_ (hi)
      clear HO_315001
      clear HO_315003
      clear BK313
      clear BK314
      clear HO329
      clear HO332
      clear HK
      clear HB
      clear HI0
      have HO_315001:=n0_
      have HO_315003:=n1_
      have BK313:=n2_
      have BK314:=n3_
      have HO329:=n4_
      have HO332:=n5_
      have HK:=n6_
      have HB:=n7_
      have HI0:=n8_
      clear n0_ n1_ n2_ n3_ n4_ n5_ n6_ n7_ n8_
      (try clear hb)
      (try clear hb2)
      (try clear hk)
      (try clear hi)
      refine hK.out _ _ ⟨(bc_ BK314.out 0).trans rfl,(bc_ BK314.out 1).trans rfl,(bc_ BK314.out 2).trans rfl,(bc_ BK314.out 3).trans rfl⟩ (fun hHeld => ?_)
      clear hK K
      refine norm_ (a':=?_) ?_ ?_
      rotate_left
      ·show Act.put _ (some 37) _ = _
       simp only [Act.put,List.setIfInBounds_toArray,List.set_cons_zero,List.set_cons_succ,i64_w,i32_w]
       rfl
      refine one_ (i:=6) (N:=some 38) #[true,true,true,true,true,true,true,false,false,false,false,false] rfl rfl (one_of HT_.out (by kernel_rfl)) (by decide) (fun K hK => ?_)
      refine goes_ Try.func53 (by kernel_rfl) rfl #[.pointer (some ⟨g,0,none⟩),.int .i64 t333] (by rfl) rfl rfl (by (try simp only [List.map_toArray,List.map_cons,List.map_nil]);first|done|rfl|(simp only [List.length_drop,List.length_take];rfl)) ?_
      with_reducible refine (spec_l21Rd_pick.calls k1 g s0_0 t334 t333 t335 t336 w0 _ ?side1 ?side2 A20.out).mono ?_
      (case side1 => repeat (first|(with_reducible first|exact HI0.out|apply IsS84.alloc|apply IsS84.drewN|apply IsS84.drew|apply IsS84.set_1|refine IsS84.far ?_ NB0_313.out _|refine IsS84.far ?_ NB0_314.out _)|exact HI0.out))
      (case side2 => repeat (first|(with_reducible first|exact HB.out|apply ba_|apply bn_|apply bd_|refine bs_ ?_ (IsS84.ge HI0.out)|refine bs_ ?_ GE313.out|refine bs_ ?_ GE314.out)|exact HB.out))
      rintro e w33 ⟨rfl,hi,hb,hk⟩
      refine ⟨_,rfl,?_⟩
      have n0_:=mk_ (rm_ (Kd.R_keep (IsS84.apart (show IsS84 w0 _ g s0_0 t334 from by repeat (first|(with_reducible first|exact HI0.out|apply IsS84.alloc|apply IsS84.drewN|apply IsS84.drew|apply IsS84.set_1|refine IsS84.far ?_ NB0_313.out _|refine IsS84.far ?_ NB0_314.out _)|exact HI0.out)) (by (with_reducible repeat (first|apply ra_|apply rn_|apply rd_));exact HO_315001.out) (by decide)) hk (fun _ h => h.2)) (fun _ h => h.1))
      have n1_:=mk_ (Kd.Q_mono (Kd.Q_keep (IsS84.apartQ (show IsS84 w0 _ g s0_0 t334 from by repeat (first|(with_reducible first|exact HI0.out|apply IsS84.alloc|apply IsS84.drewN|apply IsS84.drew|apply IsS84.set_1|refine IsS84.far ?_ NB0_313.out _|refine IsS84.far ?_ NB0_314.out _)|exact HI0.out)) (by (with_reducible repeat (first|apply Kd.Q_alloc|apply Kd.Q_drewN|apply Kd.Q_drew));exact HO_315003.out) (by decide)) hk (fun _ h => h.2)) (fun _ h => h.1))
      have n2_:=mk_ (KeepBut.blk hk (g':=gb313) (o:=.cells #[.int .i64 0,.slice none 0 0,.slice none 0 0,.slice none 0 0] 30 (0,0)) (by (with_reducible repeat (first|refine kn_ ?_ _|refine kd_ ?_|refine ka_ ?_ _));exact BK313.out) NB313_0.out (by simp))
      have n3_:=mk_ (KeepBut.blk hk (g':=gb314) (o:=.cells #[.int .i64 t315,.slice Ao11 t316.length co11,.slice Ao25 y327.length co25,u315003] 30 (0,0)) (by (with_reducible repeat (first|refine kn_ ?_ _|refine kd_ ?_|refine ka_ ?_ _));exact BK314.out) NB314_0.out (by simp))
      have n4_:=mk_ (rm_ (Kd.R_keep (IsS84.apart (show IsS84 w0 _ g s0_0 t334 from by repeat (first|(with_reducible first|exact HI0.out|apply IsS84.alloc|apply IsS84.drewN|apply IsS84.drew|apply IsS84.set_1|refine IsS84.far ?_ NB0_313.out _|refine IsS84.far ?_ NB0_314.out _)|exact HI0.out)) (by (with_reducible repeat (first|apply ra_|apply rn_|apply rd_));exact HO329.out) (by decide)) hk (fun _ h => h.2)) (fun _ h => h.1))
      have n5_:=mk_ (rm_ (Kd.R_keep (IsS84.apart (show IsS84 w0 _ g s0_0 t334 from by repeat (first|(with_reducible first|exact HI0.out|apply IsS84.alloc|apply IsS84.drewN|apply IsS84.drew|apply IsS84.set_1|refine IsS84.far ?_ NB0_313.out _|refine IsS84.far ?_ NB0_314.out _)|exact HI0.out)) (by (with_reducible repeat (first|apply ra_|apply rn_|apply rd_));exact HO332.out) (by decide)) hk (fun _ h => h.2)) (fun _ h => h.1))
      have n6_:=mk_ (KeepBut.trans (by repeat (first|(with_reducible first|exact HK.out|apply KeepBut.set_|apply keep_drewN|apply keep_drew|apply keep_alloc|refine keep_far ?_ GW313.out _|refine keep_far ?_ GW314.out _)|exact HK.out)) hk (.inl rfl))
      have n7_:=mk_ (hb)
      have n8_:=mk_ (hi)
      clear HO_315001
      clear HO_315003
      clear BK313
      clear BK314
      clear HO329
      clear HO332
      clear HK
      clear HB
      clear HI0
      have HO_315001:=n0_
      have HO_315003:=n1_
      have BK313:=n2_
      have BK314:=n3_
      have HO329:=n4_
      have HO332:=n5_
      have HK:=n6_
      have HB:=n7_
      have HI0:=n8_
      clear n0_ n1_ n2_ n3_ n4_ n5_ n6_ n7_ n8_
      (try clear hb)
      (try clear hb2)
      (try clear hk)
      (try clear hi)
      refine hK.out _ _ ⟨(bc_ BK314.out 0).trans rfl,(bc_ BK314.out 1).trans rfl,(bc_ BK314.out 2).trans rfl,(bc_ BK314.out 3).trans rfl⟩ (fun hHeld => ?_)
      clear hK K
      refine norm_ (a':=?_) ?_ ?_
      rotate_left
      ·show Act.put _ (some 38) _ = _
       simp only [Act.put,List.setIfInBounds_toArray,List.set_cons_zero,List.set_cons_succ,i64_w,i32_w]
       rfl
      refine pure_ (i:=7) (N:=some 39) (v:=?_) (a':=?_) #[true,true,true,true,true,true,true,true,false,false,false,false] rfl rfl (any_of HT_.out (by kernel_rfl)) (fun _ _ _ h => h) (Or.inl ⟨by rfl,?_⟩) ?_ ?_
      rotate_left
      ·intro w'
       go_simp
       with_reducible rfl
      rotate_left
      ·simp only [Act.put,List.setIfInBounds_toArray,List.set_cons_zero,List.set_cons_succ,i64_w,i32_w]
       rfl
      refine one_ (i:=8) (N:=some 40) #[true,true,true,true,true,true,true,true,true,false,false,false] rfl rfl (one_of HT_.out (by kernel_rfl)) (by decide) (fun K hK => ?_)
      refine value_ (w1:=?_) (v:=?_) (by rfl) rfl ?_ ?_
      rotate_left 2
      ·go_simp
       constructor
       ·rfl
       ·rfl
      refine hK.out _ _ ⟨(bc_ (ka_ BK314.out _) 0).trans rfl,(bc_ (ka_ BK314.out _) 1).trans rfl,(bc_ (ka_ BK314.out _) 2).trans rfl,(bc_ (ka_ BK314.out _) 3).trans rfl⟩ (fun hHeld => ?_)
      clear hK K
      refine norm_ (a':=?_) ?_ ?_
      rotate_left
      ·show Act.put _ (some 40) _ = _
       simp only [Act.put,List.setIfInBounds_toArray,List.set_cons_zero,List.set_cons_succ,i64_w,i32_w]
       rfl
      refine one_ (i:=9) (N:=some 41) #[true,true,true,true,true,true,true,true,true,true,false,false] rfl rfl (one_of HT_.out (by kernel_rfl)) (by decide) (fun K hK => ?_)
      refine Kd.Q_append_step (Kd.int .i64) w.heap.size (by rfl) (.tmp 33) (.tmp 40) 23 3 (.int .i64 0) 8 rfl Try.underlying23 info3 rfl (by decide) (by omega) u315003 x315003_1 (wrap64 (1 + t335)) [.int .i64 (wrap64 (1 + t335))] (fun k_ => some k_ ≠ (.slice Ao25 y327.length co25 : Value).ownBlock ∧ some k_ ≠ (.slice Ao31 y330.length co31 : Value).ownBlock) (fun _ => False) rfl rfl ?aP (fun _ hk => hk.elim) ?aF ?aO (Below.refl _ _) ?aS ?aL ?_
      (case aP => exact rfl)
      (case aF => exact (fun k_ hk => ⟨Kd.fresh' (Kd.R_lt (by (with_reducible repeat (first|apply ra_|apply rn_|apply rd_));exact HO329.out)) k_ hk,Kd.fresh' (Kd.R_lt (by (with_reducible repeat (first|apply ra_|apply rn_|apply rd_));exact HO332.out)) k_ hk⟩))
      (case aO => exact (by (with_reducible repeat (first|apply Kd.Q_alloc|apply Kd.Q_drewN|apply Kd.Q_drew));exact HO_315003.out))
      (case aS => exact (keep_size (w:=w) (g:=g) (row:=none) (by repeat (first|(with_reducible first|exact HK.out|apply KeepBut.set_|apply keep_drewN|apply keep_drew|apply keep_alloc|refine keep_far ?_ GW313.out _|refine keep_far ?_ GW314.out _)|exact HK.out))))
      (case aL => have:=LMc21.out;omega)
      intro v338 w34 ho hb hg hat
      rw [← Ny337.out] at ho
      have n0_:=mk_ (Kd.R_over' (by (with_reducible repeat (first|apply ra_|apply rn_|apply rd_));exact HO_315001.out) (Kd.Q_typed (by (with_reducible repeat (first|apply Kd.Q_alloc|apply Kd.Q_drewN|apply Kd.Q_drew));exact HO_315003.out)) (by decide) hg)
      have n1_:=mk_ (blk_grown (g:=gb313) (o:=.cells #[.int .i64 0,.slice none 0 0,.slice none 0 0,.slice none 0 0] 30 (0,0)) (by (with_reducible repeat (first|refine kn_ ?_ _|refine kd_ ?_|refine ka_ ?_ _));exact BK313.out) hg (Kd.Q_ne HO_315003.out BK313.out (by decide)))
      have n2_:=mk_ (blk_grown (g:=gb314) (o:=.cells #[.int .i64 t315,.slice Ao11 t316.length co11,.slice Ao25 y327.length co25,u315003] 30 (0,0)) (by (with_reducible repeat (first|refine kn_ ?_ _|refine kd_ ?_|refine ka_ ?_ _));exact BK314.out) hg (Kd.Q_ne HO_315003.out BK314.out (by decide)))
      have n3_:=mk_ (IsS84.grown (by repeat (first|(with_reducible first|exact HI0.out|apply IsS84.alloc|apply IsS84.drewN|apply IsS84.drew|apply IsS84.set_1|refine IsS84.far ?_ NB0_313.out _|refine IsS84.far ?_ NB0_314.out _)|exact HI0.out)) hg (IsS84.own_neQ HI0.out HO_315003.out (by decide)))
      have n4_:=mk_ (Kd.R_after (ok:=(fun k_ => some k_ ≠ (.slice Ao31 y330.length co31 : Value).ownBlock)) (by (with_reducible repeat (first|apply ra_|apply rn_|apply rd_));exact rm_ HO329.out (fun _ hk => ⟨hk.2,hk.1⟩)) hg hat)
      have n5_:=mk_ (Kd.R_after (ok:=(fun k_ => some k_ ≠ (.slice Ao25 y327.length co25 : Value).ownBlock)) (by (with_reducible repeat (first|apply ra_|apply rn_|apply rd_));exact rm_ HO332.out (fun _ hk => ⟨hk.2,hk.1.2⟩)) hg hat)
      have n6_:=mk_ (below_weaken (by repeat (first|(with_reducible first|exact HB.out|apply ba_|apply bn_|apply bd_|refine bs_ ?_ (IsS84.ge HI0.out)|refine bs_ ?_ GE313.out|refine bs_ ?_ GE314.out)|exact HB.out)) HL.out hb)
      have n7_:=mk_ (KeepBut.trans (by repeat (first|(with_reducible first|exact HK.out|apply KeepBut.set_|apply keep_drewN|apply keep_drew|apply keep_alloc|refine keep_far ?_ GW313.out _|refine keep_far ?_ GW314.out _)|exact HK.out)) (KeepBut.of_grown hg g) (Kd.Q_base2 HO_315003.out))
      have n8_:=mk_ (ho)
      clear HO_315001
      clear BK313
      clear BK314
      clear HI0
      clear HO329
      clear HO332
      clear HB
      clear HK
      clear HO_315003
      have HO_315001:=n0_
      have BK313:=n1_
      have BK314:=n2_
      have HI0:=n3_
      have HO329:=n4_
      have HO332:=n5_
      have HB:=n6_
      have HK:=n7_
      have HO339:=n8_
      clear n0_ n1_ n2_ n3_ n4_ n5_ n6_ n7_ n8_
      clear ho hb hg hat
      obtain ⟨Ao35,co35,eo35,_⟩:=Kd.Q_slice HO339.out
      (first|subst eo35|(injection eo35 with f1_ f2_ f3_;have f4_:=f1_.symm;have f5_:=f3_.symm;clear f1_ f2_ f3_;subst f4_;subst f5_))
      refine hK.out _ _ ⟨(bc_ BK314.out 0).trans rfl,(bc_ BK314.out 1).trans rfl,(bc_ BK314.out 2).trans rfl,(bc_ BK314.out 3).trans rfl⟩ (fun hHeld => ?_)
      clear hK K
      refine norm_ (a':=?_) ?_ ?_
      rotate_left
      ·show Act.put _ (some 41) _ = _
       simp only [Act.put,List.setIfInBounds_toArray,List.set_cons_zero,List.set_cons_succ,i64_w,i32_w]
       rfl
      refine pure_ (i:=10) (N:=some 42) (v:=?_) (a':=?_) #[true,true,true,true,true,true,true,true,true,true,true,false] rfl rfl (any_of HT_.out (by kernel_rfl)) (fun _ _ _ h => h) (Or.inl ⟨by rfl,?_⟩) ?_ ?_
      rotate_left
      ·intro w'
       go_simp
       with_reducible rfl
      rotate_left
      ·simp only [Act.put,List.setIfInBounds_toArray,List.set_cons_zero,List.set_cons_succ,i64_w,i32_w]
       rfl
      refine last_ (i:=11) (N:=none) #[true,true,true,true,true,true,true,true,true,true,true,true] rfl rfl (one_of HT_.out (by kernel_rfl)) (by decide) (fun K hK => ?_)
      have hs36 : w34.cell? ⟨gb314,3,none⟩ = some (u315003):=(bc_ BK314.out 3).trans rfl
      have hfs36:=bf_ BK314.out 3
      have hns36_0:=NB313_314.out
      have hms36_0:=NB314_313.out
      refine skip_ (w1:=?_) (by rfl) rfl ?_ ?_
      rotate_left
      ·go_simp
       rfl
      refine hK.out _ _ ?_
      clear hK K
      refine done_ (done_of HT_.out (by kernel_rfl)) ?_
      try go_wp2
      go_roundg k1
      case measure => have:=HK1.out;omega
      case rel => exact ⟨(wrap64 (x6_1 - 1)),(t336),(y327),(y337),(.slice Ao25 y327.length co25),(.slice Ao35 y337.length co35),(by first|rfl|(simp;done)|(simp [*];done)),H',⟨by have:=HK1.out;omega⟩,⟨by (with_reducible repeat (first|apply ra_|apply rn_|apply rd_));exact rm_ (rf_ (p:=⟨gb314,3,none⟩) (rt_ HO_315001.out BK314.out (by decide)) (fun _ hk => hk.2) (.slice Ao35 y337.length co35)) (fun _ hk => trivial)⟩,⟨by (with_reducible repeat (first|apply ra_|apply rn_|apply rd_));exact rm_ (rf_ (p:=⟨gb314,3,none⟩) (rt_ HO329.out BK314.out (by decide)) (fun _ hk => hk.2) (.slice Ao35 y337.length co35)) (fun _ hk => hk.1.2)⟩,⟨by (with_reducible repeat (first|apply Kd.Q_alloc|apply Kd.Q_drewN|apply Kd.Q_drew));exact Kd.Q_mono (Kd.Q_far (p:=⟨gb314,3,none⟩) (Kd.Q_types HO339.out BK314.out (by decide)) (fun _ hk => hk.2) (.slice Ao35 y337.length co35)) (fun _ hk => hk.1.1)⟩,⟨by (with_reducible repeat (first|refine kn_ ?_ _|refine kd_ ?_|refine ka_ ?_ _));refine blk_far ?_ NB313_314.out _;(with_reducible repeat (first|refine kn_ ?_ _|refine kd_ ?_|refine ka_ ?_ _));exact BK313.out⟩,⟨by (with_reducible repeat (first|refine kn_ ?_ _|refine kd_ ?_|refine ka_ ?_ _));refine blk_put (cs:=#[.int .i64 t315,.slice Ao11 t316.length co11,.slice Ao25 y327.length co25,u315003]) ?_ 3 _ rfl;(with_reducible repeat (first|refine kn_ ?_ _|refine kd_ ?_|refine ka_ ?_ _));exact BK314.out⟩,⟨by repeat (first|(with_reducible first|exact HI0.out|apply IsS84.alloc|apply IsS84.drewN|apply IsS84.drew|apply IsS84.set_1|refine IsS84.far ?_ NB0_313.out _|refine IsS84.far ?_ NB0_314.out _)|exact HI0.out)⟩,⟨by repeat (first|(with_reducible first|exact HK.out|apply KeepBut.set_|apply keep_drewN|apply keep_drew|apply keep_alloc|refine keep_far ?_ GW313.out _|refine keep_far ?_ GW314.out _)|exact HK.out)⟩,⟨by repeat (first|(with_reducible first|exact HB.out|apply ba_|apply bn_|apply bd_|refine bs_ ?_ (IsS84.ge HI0.out)|refine bs_ ?_ GE313.out|refine bs_ ?_ GE314.out)|exact HB.out)⟩⟩
     ·rw [if_neg c21] at H
      exact absurd H (by simp)
    ·rw [if_neg c18] at H
     exact absurd H (by simp)
   ·rw [if_neg c16] at H
    have c16b0 : decide (0 < x6_1) = false:=decide_eq_false c16
    clear c16
    replace H:=Option.bind_eq_some_iff.mp H
    obtain ⟨⟨t340,t341⟩,A370,H⟩:=H
    replace H : (if t340 = 0 then (if 0 < (x315002_1.length : Int) then (some (t315,t316,(x315002_1.set (0 : Int).toNat t315),x315003_1,t341)) else (none)) else (if t340 = 1 then (if 0 < (x315003_1.length : Int) then (some (t315,t316,x315002_1,(x315003_1.set (0 : Int).toNat 0),t341)) else (none)) else (if t340 = 2 then (if 1 ≤ (x315003_1.length : Int) then (some (t315,t316,x315002_1,(x315003_1.drop (1 : Int).toNat),t341)) else (none)) else (if t340 = 3 then (some (9,t316,x315002_1,x315003_1,t341)) else (some (t315,t316,x315002_1,x315003_1,t341)))))) = some (r1,r2,r3,r4,r5):=H
    have A37:=mk_ A370
    clear A370
    by_cases c38 : t340 = 0
    ·rw [if_pos c38] at H
     have c38b0 : (t340 == 0) = true:=beq_iff_eq.mpr c38
     have c38b1 : (t340 != 0) = false:=bne_eq_false_iff_eq.mpr c38
     clear c38
     by_cases c39 : 0 < (x315002_1.length : Int)
     ·rw [if_pos c39] at H
      have c39b0 : decide (0 < (x315002_1.length : Int)) = true:=decide_eq_true c39
      have c39b1 : decide (0 < x315002_1.length) = true:=decide_eq_true (by omega)
      clear c39
      obtain ⟨y342,hy342⟩ : ∃ y_ : List Int,y_ = (x315002_1.set (0 : Int).toNat t315):=⟨_,rfl⟩
      replace H : (some (t315,t316,y342,x315003_1,t341)) = some (r1,r2,r3,r4,r5):=by first|(rw [hy342];with_reducible exact H)|(have H2_:=(Option.bind_some _ _).symm.trans H;rw [hy342];with_reducible exact H2_)|(have H2_:=(Option.bind_some _ _).symm.trans H;with_reducible exact H2_)|with_reducible exact H|(rw [hy342];exact H)|exact H
      have Ny342:=mk_ hy342
      clear hy342
      simp only [Option.some.injEq,Prod.mk.injEq] at H
      obtain ⟨rfl,rfl,rfl,rfl,rfl⟩:=H
      go_wp2_with (first|((with_reducible refine gate_callee (f:=53) rfl ?_);refine goesL_ (some 44) rfl rfl Try.func53 (by kernel_rfl) rfl #[.pointer (some ⟨g,0,none⟩),.int .i64 80] rfl (by (try simp only [List.map_toArray,List.map_cons,List.map_nil]);first|done|rfl|(simp only [List.length_drop,List.length_take];rfl)) ?_;(with_reducible refine (spec_l21Rd_pick.calls k1 g s0_0 x1001_1 80 t340 t341 w0 _ ?side1 ?side2 A37.out).mono ?_);(case side1 => repeat (first|(with_reducible first|exact HI0.out|apply IsS84.alloc|apply IsS84.drewN|apply IsS84.drew|apply IsS84.set_1|refine IsS84.far ?_ NB0_313.out _|refine IsS84.far ?_ NB0_314.out _)|exact HI0.out));(case side2 => repeat (first|(with_reducible first|exact HB.out|apply ba_|apply bn_|apply bd_|refine bs_ ?_ (IsS84.ge HI0.out)|refine bs_ ?_ GE313.out|refine bs_ ?_ GE314.out)|exact HB.out));rintro e w41 ⟨rfl,hi,hb,hk⟩;refine ⟨_,rfl,?_⟩;have n0_:=mk_ (rm_ (Kd.R_keep (IsS84.apart (show IsS84 w0 _ g s0_0 x1001_1 from by repeat (first|(with_reducible first|exact HI0.out|apply IsS84.alloc|apply IsS84.drewN|apply IsS84.drew|apply IsS84.set_1|refine IsS84.far ?_ NB0_313.out _|refine IsS84.far ?_ NB0_314.out _)|exact HI0.out)) (by (with_reducible repeat (first|apply ra_|apply rn_|apply rd_));exact HO_315001.out) (by decide)) hk (fun _ h => h.2)) (fun _ h => h.1));have n1_:=mk_ (rm_ (Kd.R_keep (IsS84.apart (show IsS84 w0 _ g s0_0 x1001_1 from by repeat (first|(with_reducible first|exact HI0.out|apply IsS84.alloc|apply IsS84.drewN|apply IsS84.drew|apply IsS84.set_1|refine IsS84.far ?_ NB0_313.out _|refine IsS84.far ?_ NB0_314.out _)|exact HI0.out)) (by (with_reducible repeat (first|apply ra_|apply rn_|apply rd_));exact HO_315002.out) (by decide)) hk (fun _ h => h.2)) (fun _ h => h.1));have n2_:=mk_ (Kd.Q_mono (Kd.Q_keep (IsS84.apartQ (show IsS84 w0 _ g s0_0 x1001_1 from by repeat (first|(with_reducible first|exact HI0.out|apply IsS84.alloc|apply IsS84.drewN|apply IsS84.drew|apply IsS84.set_1|refine IsS84.far ?_ NB0_313.out _|refine IsS84.far ?_ NB0_314.out _)|exact HI0.out)) (by (with_reducible repeat (first|apply Kd.Q_alloc|apply Kd.Q_drewN|apply Kd.Q_drew));exact HO_315003.out) (by decide)) hk (fun _ h => h.2)) (fun _ h => h.1));have n3_:=mk_ (KeepBut.blk hk (g':=gb313) (o:=.cells #[.int .i64 0,.slice none 0 0,.slice none 0 0,.slice none 0 0] 30 (0,0)) (by (with_reducible repeat (first|refine kn_ ?_ _|refine kd_ ?_|refine ka_ ?_ _));exact BK313.out) NB313_0.out (by simp));have n4_:=mk_ (KeepBut.blk hk (g':=gb314) (o:=.cells #[.int .i64 t315,.slice Ao11 t316.length co11,u315002,u315003] 30 (0,0)) (by (with_reducible repeat (first|refine kn_ ?_ _|refine kd_ ?_|refine ka_ ?_ _));exact BK314.out) NB314_0.out (by simp));have n5_:=mk_ (KeepBut.trans (by repeat (first|(with_reducible first|exact HK.out|apply KeepBut.set_|apply keep_drewN|apply keep_drew|apply keep_alloc|refine keep_far ?_ GW313.out _|refine keep_far ?_ GW314.out _)|exact HK.out)) hk (.inl rfl));have n6_:=mk_ (hb);have n7_:=mk_ (hi);clear HO_315001;clear HO_315002;clear HO_315003;clear BK313;clear BK314;clear HK;clear HB;clear HI0;have HO_315001:=n0_;have HO_315002:=n1_;have HO_315003:=n2_;have BK313:=n3_;have BK314:=n4_;have HK:=n5_;have HB:=n6_;have HI0:=n7_;clear n0_ n1_ n2_ n3_ n4_ n5_ n6_ n7_;(try clear hb);(try clear hb2);(try clear hk);(try clear hi);have hnb42:=NB314_313.out;have hnc42:=NB313_314.out;have hnb43:=NB314_0.out;have hnc43:=NB0_314.out;have hcz44_0 : w41.cell? ⟨gb314,0,none⟩ = some (.int .i64 t315):=(bc_ BK314.out 0).trans rfl;have hcz44_1 : w41.cell? ⟨gb314,1,none⟩ = some (.slice Ao11 t316.length co11):=(bc_ BK314.out 1).trans rfl;have hcz44_2 : w41.cell? ⟨gb314,2,none⟩ = some (u315002):=(bc_ BK314.out 2).trans rfl;have hcz44_3 : w41.cell? ⟨gb314,3,none⟩ = some (u315003):=(bc_ BK314.out 3).trans rfl;have hfz44_0:=bf_ BK314.out 0;have hfz44_1:=bf_ BK314.out 1;have hfz44_2:=bf_ BK314.out 2;have hfz44_3:=bf_ BK314.out 3;have p40 : 0 ≤ (0 : Int):=(by omega);have q40 : (0 : Int) < ((x315002_1.length : Int) : Int):=od_ (by first|(with_reducible assumption)|assumption);have qi40 : (0 < x315002_1.length) = True:=eq_true (by omega);obtain ⟨go40,co40,eo40,gb40,gl40,cl40,HG40⟩:=Kd.R_form HO_315002.out (by omega);(first|cases eo40|(injection eo40 with ea_ en_ ec_;(first|subst ea_|(injection ea_ with ea_;subst ea_));subst ec_;clear en_));have GB40:=mk_ gb40;have GG40:=mk_ HG40;clear gb40 gl40 HG40;obtain ⟨hx40_0,hf40_0⟩:=Kd.R_celln 0 HO_315002.out (0 : Int) p40 q40;(try rw [show ((0 : Int)).toNat = 0 from rfl] at hx40_0);(try simp only [Nat.reduceMul,Nat.zero_mul,Nat.zero_add,Nat.add_zero,Nat.reduceAdd] at hx40_0);(try rw [show ((0 : Int)).toNat = 0 from rfl] at hf40_0);(try simp only [Nat.reduceMul,Nat.zero_mul,Nat.zero_add,Nat.add_zero,Nat.reduceAdd] at hf40_0);replace p40:=eq_true p40;replace q40:=eq_true q40;obtain ⟨hy45_,hz45_⟩:=Kd.R_celln 0 HO_315002.out (0 : Int) (by omega) (od_ (by first|(with_reducible assumption)|assumption));(try simp only [Int.reduceToNat,Int.toNat_zero,Int.toNat_ofNat,Nat.reduceMul,Nat.zero_mul,Nat.zero_add,Nat.add_zero] at hy45_ hz45_);(try rw [show ((0 : Int)).toNat = 0 from rfl] at hy45_);(try rw [show ((0 : Int)).toNat = 0 from rfl] at hz45_);have HP45:=Kd.R_putg HO_315002.out (0 : Int) t315)|((with_reducible refine gate_store (t:=3) (p:=50) rfl ?_);refine store_event (t:=3) (p:=50) (v:=?vo_w46) (w1:=(w41.setCell ⟨go40,(0 : Int).toNat,none⟩ (.int .i64 t315))) ?hg ?ho ?hn ?hr ?_;(case ho => rfl);(case hg => rfl);(case hn => rfl);(case hr => first|(go_simp;done)|(go_simp;rfl));intro w46 hw;have hg : w41.grownBy w46 (some go40):=(by rw [hw];exact HP45.2);have hp_ : Kd.R (Kd.int .i64) 3 w46 w.heap.size (fun k_ => some k_ ≠ (u315003 : Value).ownBlock) (.slice (some ⟨go40,0,none⟩) x315002_1.length co40) y342:=(by rw [hw,Ny342.out];exact HP45.1);clear HP45;have n0_:=mk_ (Kd.R_over' (v:=(.slice (some ⟨go40,0,none⟩) x315002_1.length co40)) (by (with_reducible repeat (first|apply ra_|apply rn_|apply rd_));exact HO_315001.out) (Kd.R_typed HO_315002.out) (by decide) hg);have n1_:=mk_ (hp_);have n2_:=mk_ (Kd.Q_after (v:=(.slice (some ⟨go40,0,none⟩) x315002_1.length co40)) (v1:=(.slice (some ⟨go40,0,none⟩) x315002_1.length co40)) (ok:=(fun _ => True)) (by (with_reducible repeat (first|apply Kd.Q_alloc|apply Kd.Q_drewN|apply Kd.Q_drew));exact Kd.Q_mono HO_315003.out (fun _ hk => ⟨trivial,hk⟩)) hg (.inl rfl));have n3_:=mk_ (blk_grown (g:=gb313) (o:=.cells #[.int .i64 0,.slice none 0 0,.slice none 0 0,.slice none 0 0] 30 (0,0)) (by (with_reducible repeat (first|refine kn_ ?_ _|refine kd_ ?_|refine ka_ ?_ _));exact BK313.out) hg (Kd.R_ne HO_315002.out BK313.out (by decide)));have n4_:=mk_ (blk_grown (g:=gb314) (o:=.cells #[.int .i64 t315,.slice Ao11 t316.length co11,.slice (some ⟨go40,0,none⟩) x315002_1.length co40,u315003] 30 (0,0)) (by (with_reducible repeat (first|refine kn_ ?_ _|refine kd_ ?_|refine ka_ ?_ _));exact BK314.out) hg (Kd.R_ne HO_315002.out BK314.out (by decide)));have n5_:=mk_ (IsS84.grown (by repeat (first|(with_reducible first|exact HI0.out|apply IsS84.alloc|apply IsS84.drewN|apply IsS84.drew|apply IsS84.set_1|refine IsS84.far ?_ NB0_313.out _|refine IsS84.far ?_ NB0_314.out _)|exact HI0.out)) hg (IsS84.own_ne HI0.out HO_315002.out (by decide)));have n6_:=mk_ ((by rw [hw];exact bs_ (HB.out) (Nat.le_trans HL.out GB40.out) : Below w0.heap.size w0 w46));have n7_:=mk_ (KeepBut.trans (by repeat (first|(with_reducible first|exact HK.out|apply KeepBut.set_|apply keep_drewN|apply keep_drew|apply keep_alloc|refine keep_far ?_ GW313.out _|refine keep_far ?_ GW314.out _)|exact HK.out)) (KeepBut.of_grown hg g) (Kd.R_base2 HO_315002.out));clear HO_315001;clear HO_315002;clear HO_315003;clear BK313;clear BK314;clear HI0;clear HB;clear HK;have HO_315001:=n0_;have HO_315002:=n1_;have HO_315003:=n2_;have BK313:=n3_;have BK314:=n4_;have HI0:=n5_;have HB:=n6_;have HK:=n7_;clear n0_ n1_ n2_ n3_ n4_ n5_ n6_ n7_;clear hg hw hp_;have hcz47_0 : w46.cell? ⟨gb314,0,none⟩ = some (.int .i64 t315):=(bc_ BK314.out 0).trans rfl;have hcz47_1 : w46.cell? ⟨gb314,1,none⟩ = some (.slice Ao11 t316.length co11):=(bc_ BK314.out 1).trans rfl;have hcz47_2 : w46.cell? ⟨gb314,2,none⟩ = some (.slice (some ⟨go40,0,none⟩) x315002_1.length co40):=(bc_ BK314.out 2).trans rfl;have hcz47_3 : w46.cell? ⟨gb314,3,none⟩ = some (u315003):=(bc_ BK314.out 3).trans rfl;have hfz47_0:=bf_ BK314.out 0;have hfz47_1:=bf_ BK314.out 1;have hfz47_2:=bf_ BK314.out 2;have hfz47_3:=bf_ BK314.out 3;have hnb48:=NB313_0.out;have hnc48:=NB0_313.out;have hcz49_0 : w46.cell? ⟨gb313,0,none⟩ = some (.int .i64 0):=(bc_ BK313.out 0).trans rfl;have hcz49_1 : w46.cell? ⟨gb313,1,none⟩ = some (.slice none 0 0):=(bc_ BK313.out 1).trans rfl;have hcz49_2 : w46.cell? ⟨gb313,2,none⟩ = some (.slice none 0 0):=(bc_ BK313.out 2).trans rfl;have hcz49_3 : w46.cell? ⟨gb313,3,none⟩ = some (.slice none 0 0):=(bc_ BK313.out 3).trans rfl;have hfz49_0:=bf_ BK313.out 0;have hfz49_1:=bf_ BK313.out 1;have hfz49_2:=bf_ BK313.out 2;have hfz49_3:=bf_ BK313.out 3;obtain ⟨Ao50,co50,eo50,_⟩:=Kd.Q_slice HO_315003.out;subst eo50))
      refine bodyPost_ret (results_cell_row rfl _ _ gb313 30 #[.int .i64 t315,.slice Ao11 t316.length co11,.slice (some ⟨go40,0,none⟩) x315002_1.length co40,.slice Ao50 x315003_1.length co50] (0,0) _ rfl (by (with_reducible repeat (first|refine kn_ ?_ _|refine kd_ ?_|refine ka_ ?_ _));refine blk_put (cs:=#[.int .i64 t315,.slice Ao11 t316.length co11,.slice (some ⟨go40,0,none⟩) x315002_1.length co40,.slice none 0 0]) ?_ 3 _ rfl;(with_reducible repeat (first|refine kn_ ?_ _|refine kd_ ?_|refine ka_ ?_ _));refine blk_put (cs:=#[.int .i64 t315,.slice Ao11 t316.length co11,.slice none 0 0,.slice none 0 0]) ?_ 2 _ rfl;(with_reducible repeat (first|refine kn_ ?_ _|refine kd_ ?_|refine ka_ ?_ _));refine blk_put (cs:=#[.int .i64 t315,.slice none 0 0,.slice none 0 0,.slice none 0 0]) ?_ 1 _ rfl;(with_reducible repeat (first|refine kn_ ?_ _|refine kd_ ?_|refine ka_ ?_ _));refine blk_put (cs:=#[.int .i64 0,.slice none 0 0,.slice none 0 0,.slice none 0 0]) ?_ 0 _ rfl;(with_reducible repeat (first|refine kn_ ?_ _|refine kd_ ?_|refine ka_ ?_ _));exact BK313.out) Try.underlying30 rfl (by kernel_rfl)) rfl ?_
      exact ⟨_,_,_,by first|rfl|(simp [errW_none,errW_some] <;> rfl)|(simp [*,errW_none,errW_some] <;> rfl),by (with_reducible repeat (first|apply ra_|apply rn_|apply rd_));exact rm_ (rf_ (p:=⟨gb313,3,none⟩) (rf_ (p:=⟨gb313,2,none⟩) (rf_ (p:=⟨gb313,1,none⟩) (rf_ (p:=⟨gb313,0,none⟩) (rt_ HO_315001.out BK313.out (by decide)) (fun _ hk => hk.2) (.int .i64 t315)) (fun _ hk => hk.2) (.slice Ao11 t316.length co11)) (fun _ hk => hk.2) (.slice (some ⟨go40,0,none⟩) x315002_1.length co40)) (fun _ hk => hk.2) (.slice Ao50 x315003_1.length co50)) (fun _ hk => trivial),by (with_reducible repeat (first|apply ra_|apply rn_|apply rd_));exact rm_ (rf_ (p:=⟨gb313,3,none⟩) (rf_ (p:=⟨gb313,2,none⟩) (rf_ (p:=⟨gb313,1,none⟩) (rf_ (p:=⟨gb313,0,none⟩) (rt_ HO_315002.out BK313.out (by decide)) (fun _ hk => hk.2) (.int .i64 t315)) (fun _ hk => hk.2) (.slice Ao11 t316.length co11)) (fun _ hk => hk.2) (.slice (some ⟨go40,0,none⟩) x315002_1.length co40)) (fun _ hk => hk.2) (.slice Ao50 x315003_1.length co50)) (fun _ hk => hk.1),by (with_reducible repeat (first|apply Kd.Q_alloc|apply Kd.Q_drewN|apply Kd.Q_drew));exact Kd.Q_mono (Kd.Q_far (p:=⟨gb313,3,none⟩) (Kd.Q_far (p:=⟨gb313,2,none⟩) (Kd.Q_far (p:=⟨gb313,1,none⟩) (Kd.Q_far (p:=⟨gb313,0,none⟩) (Kd.Q_types HO_315003.out BK313.out (by decide)) (fun _ hk => hk.2) (.int .i64 t315)) (fun _ hk => hk.2) (.slice Ao11 t316.length co11)) (fun _ hk => hk.2) (.slice (some ⟨go40,0,none⟩) x315002_1.length co40)) (fun _ hk => hk.2) (.slice Ao50 x315003_1.length co50)) (fun _ hk => hk.1.2),by repeat (first|(with_reducible first|exact HI0.out|apply IsS84.alloc|apply IsS84.drewN|apply IsS84.drew|apply IsS84.set_1|refine IsS84.far ?_ NB0_313.out _|refine IsS84.far ?_ NB0_314.out _)|exact HI0.out),by repeat (first|(with_reducible first|exact HB.out|apply ba_|apply bn_|apply bd_|refine bs_ ?_ (IsS84.ge HI0.out)|refine bs_ ?_ GE313.out|refine bs_ ?_ GE314.out)|exact HB.out),by repeat (first|(with_reducible first|exact HK.out|apply KeepBut.set_|apply keep_drewN|apply keep_drew|apply keep_alloc|refine keep_far ?_ GW313.out _|refine keep_far ?_ GW314.out _)|exact HK.out)⟩
     ·rw [if_neg c39] at H
      exact absurd H (by simp)
    ·rw [if_neg c38] at H
     have c38b0 : (t340 == 0) = false:=beq_eq_false_iff_ne.mpr c38
     have c38b1 : (t340 != 0) = true:=bne_iff_ne.mpr c38
     by_cases c51 : t340 = 1
     ·rw [if_pos c51] at H
      have c51b0 : (t340 == 1) = true:=beq_iff_eq.mpr c51
      have c51b1 : (t340 != 1) = false:=bne_eq_false_iff_eq.mpr c51
      clear c51
      by_cases c52 : 0 < (x315003_1.length : Int)
      ·rw [if_pos c52] at H
       have c52b0 : decide (0 < (x315003_1.length : Int)) = true:=decide_eq_true c52
       have c52b1 : decide (0 < x315003_1.length) = true:=decide_eq_true (by omega)
       clear c52
       obtain ⟨y343,hy343⟩ : ∃ y_ : List Int,y_ = (x315003_1.set (0 : Int).toNat 0):=⟨_,rfl⟩
       replace H : (some (t315,t316,x315002_1,y343,t341)) = some (r1,r2,r3,r4,r5):=by first|(rw [hy343];with_reducible exact H)|(have H2_:=(Option.bind_some _ _).symm.trans H;rw [hy343];with_reducible exact H2_)|(have H2_:=(Option.bind_some _ _).symm.trans H;with_reducible exact H2_)|with_reducible exact H|(rw [hy343];exact H)|exact H
       have Ny343:=mk_ hy343
       clear hy343
       simp only [Option.some.injEq,Prod.mk.injEq] at H
       obtain ⟨rfl,rfl,rfl,rfl,rfl⟩:=H
       go_wp2_with (first|((with_reducible refine gate_callee (f:=53) rfl ?_);refine goesL_ (some 44) rfl rfl Try.func53 (by kernel_rfl) rfl #[.pointer (some ⟨g,0,none⟩),.int .i64 80] rfl (by (try simp only [List.map_toArray,List.map_cons,List.map_nil]);first|done|rfl|(simp only [List.length_drop,List.length_take];rfl)) ?_;(with_reducible refine (spec_l21Rd_pick.calls k1 g s0_0 x1001_1 80 t340 t341 w0 _ ?side1 ?side2 A37.out).mono ?_);(case side1 => repeat (first|(with_reducible first|exact HI0.out|apply IsS84.alloc|apply IsS84.drewN|apply IsS84.drew|apply IsS84.set_1|refine IsS84.far ?_ NB0_313.out _|refine IsS84.far ?_ NB0_314.out _)|exact HI0.out));(case side2 => repeat (first|(with_reducible first|exact HB.out|apply ba_|apply bn_|apply bd_|refine bs_ ?_ (IsS84.ge HI0.out)|refine bs_ ?_ GE313.out|refine bs_ ?_ GE314.out)|exact HB.out));rintro e w54 ⟨rfl,hi,hb,hk⟩;refine ⟨_,rfl,?_⟩;have n0_:=mk_ (rm_ (Kd.R_keep (IsS84.apart (show IsS84 w0 _ g s0_0 x1001_1 from by repeat (first|(with_reducible first|exact HI0.out|apply IsS84.alloc|apply IsS84.drewN|apply IsS84.drew|apply IsS84.set_1|refine IsS84.far ?_ NB0_313.out _|refine IsS84.far ?_ NB0_314.out _)|exact HI0.out)) (by (with_reducible repeat (first|apply ra_|apply rn_|apply rd_));exact HO_315001.out) (by decide)) hk (fun _ h => h.2)) (fun _ h => h.1));have n1_:=mk_ (rm_ (Kd.R_keep (IsS84.apart (show IsS84 w0 _ g s0_0 x1001_1 from by repeat (first|(with_reducible first|exact HI0.out|apply IsS84.alloc|apply IsS84.drewN|apply IsS84.drew|apply IsS84.set_1|refine IsS84.far ?_ NB0_313.out _|refine IsS84.far ?_ NB0_314.out _)|exact HI0.out)) (by (with_reducible repeat (first|apply ra_|apply rn_|apply rd_));exact HO_315002.out) (by decide)) hk (fun _ h => h.2)) (fun _ h => h.1));have n2_:=mk_ (Kd.Q_mono (Kd.Q_keep (IsS84.apartQ (show IsS84 w0 _ g s0_0 x1001_1 from by repeat (first|(with_reducible first|exact HI0.out|apply IsS84.alloc|apply IsS84.drewN|apply IsS84.drew|apply IsS84.set_1|refine IsS84.far ?_ NB0_313.out _|refine IsS84.far ?_ NB0_314.out _)|exact HI0.out)) (by (with_reducible repeat (first|apply Kd.Q_alloc|apply Kd.Q_drewN|apply Kd.Q_drew));exact HO_315003.out) (by decide)) hk (fun _ h => h.2)) (fun _ h => h.1));have n3_:=mk_ (KeepBut.blk hk (g':=gb313) (o:=.cells #[.int .i64 0,.slice none 0 0,.slice none 0 0,.slice none 0 0] 30 (0,0)) (by (with_reducible repeat (first|refine kn_ ?_ _|refine kd_ ?_|refine ka_ ?_ _));exact BK313.out) NB313_0.out (by simp));have n4_:=mk_ (KeepBut.blk hk (g':=gb314) (o:=.cells #[.int .i64 t315,.slice Ao11 t316.length co11,u315002,u315003] 30 (0,0)) (by (with_reducible repeat (first|refine kn_ ?_ _|refine kd_ ?_|refine ka_ ?_ _));exact BK314.out) NB314_0.out (by simp));have n5_:=mk_ (KeepBut.trans (by repeat (first|(with_reducible first|exact HK.out|apply KeepBut.set_|apply keep_drewN|apply keep_drew|apply keep_alloc|refine keep_far ?_ GW313.out _|refine keep_far ?_ GW314.out _)|exact HK.out)) hk (.inl rfl));have n6_:=mk_ (hb);have n7_:=mk_ (hi);clear HO_315001;clear HO_315002;clear HO_315003;clear BK313;clear BK314;clear HK;clear HB;clear HI0;have HO_315001:=n0_;have HO_315002:=n1_;have HO_315003:=n2_;have BK313:=n3_;have BK314:=n4_;have HK:=n5_;have HB:=n6_;have HI0:=n7_;clear n0_ n1_ n2_ n3_ n4_ n5_ n6_ n7_;(try clear hb);(try clear hb2);(try clear hk);(try clear hi);have hnb55:=NB314_313.out;have hnc55:=NB313_314.out;have hnb56:=NB314_0.out;have hnc56:=NB0_314.out;have hcz57_0 : w54.cell? ⟨gb314,0,none⟩ = some (.int .i64 t315):=(bc_ BK314.out 0).trans rfl;have hcz57_1 : w54.cell? ⟨gb314,1,none⟩ = some (.slice Ao11 t316.length co11):=(bc_ BK314.out 1).trans rfl;have hcz57_2 : w54.cell? ⟨gb314,2,none⟩ = some (u315002):=(bc_ BK314.out 2).trans rfl;have hcz57_3 : w54.cell? ⟨gb314,3,none⟩ = some (u315003):=(bc_ BK314.out 3).trans rfl;have hfz57_0:=bf_ BK314.out 0;have hfz57_1:=bf_ BK314.out 1;have hfz57_2:=bf_ BK314.out 2;have hfz57_3:=bf_ BK314.out 3;have p53 : 0 ≤ (0 : Int):=(by omega);have q53 : (0 : Int) < ((x315003_1.length : Int) : Int):=od_ (by first|(with_reducible assumption)|assumption);have qi53 : (0 < x315003_1.length) = True:=eq_true (by omega);obtain ⟨go53,oo53,co53,eo53,gb53,gl53,cl53,HG53⟩:=Kd.Q_form HO_315003.out (by omega);(first|cases eo53|(injection eo53 with ea_ en_ ec_;(first|subst ea_|(injection ea_ with ea_;subst ea_));subst ec_;clear en_));have GB53:=mk_ gb53;have GG53:=mk_ HG53;clear gb53 gl53 HG53;obtain ⟨hx53_0,hf53_0⟩:=Kd.Q_cell 0 HO_315003.out (0 : Int) p53 q53;(try rw [show ((0 : Int)).toNat = 0 from rfl] at hx53_0);(try simp only [Nat.reduceMul,Nat.zero_mul,Nat.zero_add,Nat.add_zero,Nat.reduceAdd] at hx53_0);(try rw [show ((0 : Int)).toNat = 0 from rfl] at hf53_0);(try simp only [Nat.reduceMul,Nat.zero_mul,Nat.zero_add,Nat.add_zero,Nat.reduceAdd] at hf53_0);replace p53:=eq_true p53;replace q53:=eq_true q53;obtain ⟨hy58_,hz58_⟩:=Kd.Q_cell 0 HO_315003.out (0 : Int) (by omega) (od_ (by first|(with_reducible assumption)|assumption));(try simp only [Int.reduceToNat,Int.toNat_zero,Int.toNat_ofNat,Nat.reduceMul,Nat.zero_mul,Nat.zero_add,Nat.add_zero] at hy58_ hz58_);(try rw [show ((0 : Int)).toNat = 0 from rfl] at hy58_);(try rw [show ((0 : Int)).toNat = 0 from rfl] at hz58_);have HP58:=Kd.Q_putg HO_315003.out (0 : Int) (by omega) (by have h_ : (0 : Int) < ((x315003_1.length : Int) : Int):=od_ (by first|(with_reducible assumption)|assumption);first|exact h_|(have e_:=(Kd.Q_reads' HO_315003.out).1;omega)|simpa using h_) 0)|((with_reducible refine gate_store (t:=3) (p:=55) rfl ?_);refine store_event (t:=3) (p:=55) (v:=?vo_w59) (w1:=(w54.setCell ⟨go53,oo53 + (0 : Int).toNat,none⟩ (.int .i64 0))) ?hg ?ho ?hn ?hr ?_;(case ho => rfl);(case hg => rfl);(case hn => rfl);(case hr => first|(go_simp;done)|(go_simp;rfl));intro w59 hw;have hg : w54.grownBy w59 (some go53):=(by rw [hw];exact HP58.2);have hp_ : Kd.Q (Kd.int .i64) 3 w59 w.heap.size (fun k_ => some k_ ≠ (u315002 : Value).ownBlock) (.slice (some ⟨go53,oo53,none⟩) x315003_1.length co53) y343:=(by rw [hw,Ny343.out];exact HP58.1);clear HP58;have n0_:=mk_ (Kd.R_over' (v:=(.slice (some ⟨go53,oo53,none⟩) x315003_1.length co53)) (by (with_reducible repeat (first|apply ra_|apply rn_|apply rd_));exact HO_315001.out) (Kd.Q_typed HO_315003.out) (by decide) hg);have n1_:=mk_ (Kd.R_after (v:=(.slice (some ⟨go53,oo53,none⟩) x315003_1.length co53)) (v1:=(.slice (some ⟨go53,oo53,none⟩) x315003_1.length co53)) (ok:=(fun _ => True)) (by (with_reducible repeat (first|apply ra_|apply rn_|apply rd_));exact rm_ HO_315002.out (fun _ hk => ⟨trivial,hk⟩)) hg (.inl rfl));have n2_:=mk_ (hp_);have n3_:=mk_ (blk_grown (g:=gb313) (o:=.cells #[.int .i64 0,.slice none 0 0,.slice none 0 0,.slice none 0 0] 30 (0,0)) (by (with_reducible repeat (first|refine kn_ ?_ _|refine kd_ ?_|refine ka_ ?_ _));exact BK313.out) hg (Kd.Q_ne HO_315003.out BK313.out (by decide)));have n4_:=mk_ (blk_grown (g:=gb314) (o:=.cells #[.int .i64 t315,.slice Ao11 t316.length co11,u315002,.slice (some ⟨go53,oo53,none⟩) x315003_1.length co53] 30 (0,0)) (by (with_reducible repeat (first|refine kn_ ?_ _|refine kd_ ?_|refine ka_ ?_ _));exact BK314.out) hg (Kd.Q_ne HO_315003.out BK314.out (by decide)));have n5_:=mk_ (IsS84.grown (by repeat (first|(with_reducible first|exact HI0.out|apply IsS84.alloc|apply IsS84.drewN|apply IsS84.drew|apply IsS84.set_1|refine IsS84.far ?_ NB0_313.out _|refine IsS84.far ?_ NB0_314.out _)|exact HI0.out)) hg (IsS84.own_neQ HI0.out HO_315003.out (by decide)));have n6_:=mk_ ((by rw [hw];exact bs_ (HB.out) (Nat.le_trans HL.out GB53.out) : Below w0.heap.size w0 w59));have n7_:=mk_ (KeepBut.trans (by repeat (first|(with_reducible first|exact HK.out|apply KeepBut.set_|apply keep_drewN|apply keep_drew|apply keep_alloc|refine keep_far ?_ GW313.out _|refine keep_far ?_ GW314.out _)|exact HK.out)) (KeepBut.of_grown hg g) (Kd.Q_base2 HO_315003.out));clear HO_315001;clear HO_315002;clear HO_315003;clear BK313;clear BK314;clear HI0;clear HB;clear HK;have HO_315001:=n0_;have HO_315002:=n1_;have HO_315003:=n2_;have BK313:=n3_;have BK314:=n4_;have HI0:=n5_;have HB:=n6_;have HK:=n7_;clear n0_ n1_ n2_ n3_ n4_ n5_ n6_ n7_;clear hg hw hp_;have hcz60_0 : w59.cell? ⟨gb314,0,none⟩ = some (.int .i64 t315):=(bc_ BK314.out 0).trans rfl;have hcz60_1 : w59.cell? ⟨gb314,1,none⟩ = some (.slice Ao11 t316.length co11):=(bc_ BK314.out 1).trans rfl;have hcz60_2 : w59.cell? ⟨gb314,2,none⟩ = some (u315002):=(bc_ BK314.out 2).trans rfl;have hcz60_3 : w59.cell? ⟨gb314,3,none⟩ = some (.slice (some ⟨go53,oo53,none⟩) x315003_1.length co53):=(bc_ BK314.out 3).trans rfl;have hfz60_0:=bf_ BK314.out 0;have hfz60_1:=bf_ BK314.out 1;have hfz60_2:=bf_ BK314.out 2;have hfz60_3:=bf_ BK314.out 3;have hnb61:=NB313_0.out;have hnc61:=NB0_313.out;have hcz62_0 : w59.cell? ⟨gb313,0,none⟩ = some (.int .i64 0):=(bc_ BK313.out 0).trans rfl;have hcz62_1 : w59.cell? ⟨gb313,1,none⟩ = some (.slice none 0 0):=(bc_ BK313.out 1).trans rfl;have hcz62_2 : w59.cell? ⟨gb313,2,none⟩ = some (.slice none 0 0):=(bc_ BK313.out 2).trans rfl;have hcz62_3 : w59.cell? ⟨gb313,3,none⟩ = some (.slice none 0 0):=(bc_ BK313.out 3).trans rfl;have hfz62_0:=bf_ BK313.out 0;have hfz62_1:=bf_ BK313.out 1;have hfz62_2:=bf_ BK313.out 2;have hfz62_3:=bf_ BK313.out 3;obtain ⟨Ao63,co63,eo63⟩:=Kd.R_slice HO_315002.out;subst eo63))
       refine bodyPost_ret (results_cell_row rfl _ _ gb313 30 #[.int .i64 t315,.slice Ao11 t316.length co11,.slice Ao63 x315002_1.length co63,.slice (some ⟨go53,oo53,none⟩) x315003_1.length co53] (0,0) _ rfl (by (with_reducible repeat (first|refine kn_ ?_ _|refine kd_ ?_|refine ka_ ?_ _));refine blk_put (cs:=#[.int .i64 t315,.slice Ao11 t316.length co11,.slice Ao63 x315002_1.length co63,.slice none 0 0]) ?_ 3 _ rfl;(with_reducible repeat (first|refine kn_ ?_ _|refine kd_ ?_|refine ka_ ?_ _));refine blk_put (cs:=#[.int .i64 t315,.slice Ao11 t316.length co11,.slice none 0 0,.slice none 0 0]) ?_ 2 _ rfl;(with_reducible repeat (first|refine kn_ ?_ _|refine kd_ ?_|refine ka_ ?_ _));refine blk_put (cs:=#[.int .i64 t315,.slice none 0 0,.slice none 0 0,.slice none 0 0]) ?_ 1 _ rfl;(with_reducible repeat (first|refine kn_ ?_ _|refine kd_ ?_|refine ka_ ?_ _));refine blk_put (cs:=#[.int .i64 0,.slice none 0 0,.slice none 0 0,.slice none 0 0]) ?_ 0 _ rfl;(with_reducible repeat (first|refine kn_ ?_ _|refine kd_ ?_|refine ka_ ?_ _));exact BK313.out) Try.underlying30 rfl (by kernel_rfl)) rfl ?_
       exact ⟨_,_,_,by first|rfl|(simp [errW_none,errW_some] <;> rfl)|(simp [*,errW_none,errW_some] <;> rfl),by (with_reducible repeat (first|apply ra_|apply rn_|apply rd_));exact rm_ (rf_ (p:=⟨gb313,3,none⟩) (rf_ (p:=⟨gb313,2,none⟩) (rf_ (p:=⟨gb313,1,none⟩) (rf_ (p:=⟨gb313,0,none⟩) (rt_ HO_315001.out BK313.out (by decide)) (fun _ hk => hk.2) (.int .i64 t315)) (fun _ hk => hk.2) (.slice Ao11 t316.length co11)) (fun _ hk => hk.2) (.slice Ao63 x315002_1.length co63)) (fun _ hk => hk.2) (.slice (some ⟨go53,oo53,none⟩) x315003_1.length co53)) (fun _ hk => trivial),by (with_reducible repeat (first|apply ra_|apply rn_|apply rd_));exact rm_ (rf_ (p:=⟨gb313,3,none⟩) (rf_ (p:=⟨gb313,2,none⟩) (rf_ (p:=⟨gb313,1,none⟩) (rf_ (p:=⟨gb313,0,none⟩) (rt_ HO_315002.out BK313.out (by decide)) (fun _ hk => hk.2) (.int .i64 t315)) (fun _ hk => hk.2) (.slice Ao11 t316.length co11)) (fun _ hk => hk.2) (.slice Ao63 x315002_1.length co63)) (fun _ hk => hk.2) (.slice (some ⟨go53,oo53,none⟩) x315003_1.length co53)) (fun _ hk => hk.1.2),by (with_reducible repeat (first|apply Kd.Q_alloc|apply Kd.Q_drewN|apply Kd.Q_drew));exact Kd.Q_mono (Kd.Q_far (p:=⟨gb313,3,none⟩) (Kd.Q_far (p:=⟨gb313,2,none⟩) (Kd.Q_far (p:=⟨gb313,1,none⟩) (Kd.Q_far (p:=⟨gb313,0,none⟩) (Kd.Q_types HO_315003.out BK313.out (by decide)) (fun _ hk => hk.2) (.int .i64 t315)) (fun _ hk => hk.2) (.slice Ao11 t316.length co11)) (fun _ hk => hk.2) (.slice Ao63 x315002_1.length co63)) (fun _ hk => hk.2) (.slice (some ⟨go53,oo53,none⟩) x315003_1.length co53)) (fun _ hk => hk.1),by repeat (first|(with_reducible first|exact HI0.out|apply IsS84.alloc|apply IsS84.drewN|apply IsS84.drew|apply IsS84.set_1|refine IsS84.far ?_ NB0_313.out _|refine IsS84.far ?_ NB0_314.out _)|exact HI0.out),by repeat (first|(with_reducible first|exact HB.out|apply ba_|apply bn_|apply bd_|refine bs_ ?_ (IsS84.ge HI0.out)|refine bs_ ?_ GE313.out|refine bs_ ?_ GE314.out)|exact HB.out),by repeat (first|(with_reducible first|exact HK.out|apply KeepBut.set_|apply keep_drewN|apply keep_drew|apply keep_alloc|refine keep_far ?_ GW313.out _|refine keep_far ?_ GW314.out _)|exact HK.out)⟩
      ·rw [if_neg c52] at H
       exact absurd H (by simp)
     ·rw [if_neg c51] at H
      have c51b0 : (t340 == 1) = false:=beq_eq_false_iff_ne.mpr c51
      have c51b1 : (t340 != 1) = true:=bne_iff_ne.mpr c51
      by_cases c64 : t340 = 2
      ·rw [if_pos c64] at H
       have c64b0 : (t340 == 2) = true:=beq_iff_eq.mpr c64
       have c64b1 : (t340 != 2) = false:=bne_eq_false_iff_eq.mpr c64
       clear c64
       by_cases c65 : 1 ≤ (x315003_1.length : Int)
       ·rw [if_pos c65] at H
        have c65b0:=eq_true c65
        have c65b1 : decide (1 ≤ (x315003_1.length : Int)) = true:=decide_eq_true c65
        clear c65
        obtain ⟨y344,hy344⟩ : ∃ y_ : List Int,y_ = (x315003_1.drop (1 : Int).toNat):=⟨_,rfl⟩
        replace H : (some (t315,t316,x315002_1,y344,t341)) = some (r1,r2,r3,r4,r5):=by first|(rw [hy344];with_reducible exact H)|(have H2_:=(Option.bind_some _ _).symm.trans H;rw [hy344];with_reducible exact H2_)|(have H2_:=(Option.bind_some _ _).symm.trans H;with_reducible exact H2_)|with_reducible exact H|(rw [hy344];exact H)|exact H
        have Ny344:=mk_ hy344
        clear hy344
        simp only [Option.some.injEq,Prod.mk.injEq] at H
        obtain ⟨rfl,rfl,rfl,rfl,rfl⟩:=H
        go_wp2_with (first|((with_reducible refine gate_callee (f:=53) rfl ?_);refine goesL_ (some 44) rfl rfl Try.func53 (by kernel_rfl) rfl #[.pointer (some ⟨g,0,none⟩),.int .i64 80] rfl (by (try simp only [List.map_toArray,List.map_cons,List.map_nil]);first|done|rfl|(simp only [List.length_drop,List.length_take];rfl)) ?_;(with_reducible refine (spec_l21Rd_pick.calls k1 g s0_0 x1001_1 80 t340 t341 w0 _ ?side1 ?side2 A37.out).mono ?_);(case side1 => repeat (first|(with_reducible first|exact HI0.out|apply IsS84.alloc|apply IsS84.drewN|apply IsS84.drew|apply IsS84.set_1|refine IsS84.far ?_ NB0_313.out _|refine IsS84.far ?_ NB0_314.out _)|exact HI0.out));(case side2 => repeat (first|(with_reducible first|exact HB.out|apply ba_|apply bn_|apply bd_|refine bs_ ?_ (IsS84.ge HI0.out)|refine bs_ ?_ GE313.out|refine bs_ ?_ GE314.out)|exact HB.out));rintro e w66 ⟨rfl,hi,hb,hk⟩;refine ⟨_,rfl,?_⟩;have n0_:=mk_ (rm_ (Kd.R_keep (IsS84.apart (show IsS84 w0 _ g s0_0 x1001_1 from by repeat (first|(with_reducible first|exact HI0.out|apply IsS84.alloc|apply IsS84.drewN|apply IsS84.drew|apply IsS84.set_1|refine IsS84.far ?_ NB0_313.out _|refine IsS84.far ?_ NB0_314.out _)|exact HI0.out)) (by (with_reducible repeat (first|apply ra_|apply rn_|apply rd_));exact HO_315001.out) (by decide)) hk (fun _ h => h.2)) (fun _ h => h.1));have n1_:=mk_ (rm_ (Kd.R_keep (IsS84.apart (show IsS84 w0 _ g s0_0 x1001_1 from by repeat (first|(with_reducible first|exact HI0.out|apply IsS84.alloc|apply IsS84.drewN|apply IsS84.drew|apply IsS84.set_1|refine IsS84.far ?_ NB0_313.out _|refine IsS84.far ?_ NB0_314.out _)|exact HI0.out)) (by (with_reducible repeat (first|apply ra_|apply rn_|apply rd_));exact HO_315002.out) (by decide)) hk (fun _ h => h.2)) (fun _ h => h.1));have n2_:=mk_ (Kd.Q_mono (Kd.Q_keep (IsS84.apartQ (show IsS84 w0 _ g s0_0 x1001_1 from by repeat (first|(with_reducible first|exact HI0.out|apply IsS84.alloc|apply IsS84.drewN|apply IsS84.drew|apply IsS84.set_1|refine IsS84.far ?_ NB0_313.out _|refine IsS84.far ?_ NB0_314.out _)|exact HI0.out)) (by (with_reducible repeat (first|apply Kd.Q_alloc|apply Kd.Q_drewN|apply Kd.Q_drew));exact HO_315003.out) (by decide)) hk (fun _ h => h.2)) (fun _ h => h.1));have n3_:=mk_ (KeepBut.blk hk (g':=gb313) (o:=.cells #[.int .i64 0,.slice none 0 0,.slice none 0 0,.slice none 0 0] 30 (0,0)) (by (with_reducible repeat (first|refine kn_ ?_ _|refine kd_ ?_|refine ka_ ?_ _));exact BK313.out) NB313_0.out (by simp));have n4_:=mk_ (KeepBut.blk hk (g':=gb314) (o:=.cells #[.int .i64 t315,.slice Ao11 t316.length co11,u315002,u315003] 30 (0,0)) (by (with_reducible repeat (first|refine kn_ ?_ _|refine kd_ ?_|refine ka_ ?_ _));exact BK314.out) NB314_0.out (by simp));have n5_:=mk_ (KeepBut.trans (by repeat (first|(with_reducible first|exact HK.out|apply KeepBut.set_|apply keep_drewN|apply keep_drew|apply keep_alloc|refine keep_far ?_ GW313.out _|refine keep_far ?_ GW314.out _)|exact HK.out)) hk (.inl rfl));have n6_:=mk_ (hb);have n7_:=mk_ (hi);clear HO_315001;clear HO_315002;clear HO_315003;clear BK313;clear BK314;clear HK;clear HB;clear HI0;have HO_315001:=n0_;have HO_315002:=n1_;have HO_315003:=n2_;have BK313:=n3_;have BK314:=n4_;have HK:=n5_;have HB:=n6_;have HI0:=n7_;clear n0_ n1_ n2_ n3_ n4_ n5_ n6_ n7_;(try clear hb);(try clear hb2);(try clear hk);(try clear hi);have hnb67:=NB314_313.out;have hnc67:=NB313_314.out;have hnb68:=NB314_0.out;have hnc68:=NB0_314.out;have hcz69_0 : w66.cell? ⟨gb314,0,none⟩ = some (.int .i64 t315):=(bc_ BK314.out 0).trans rfl;have hcz69_1 : w66.cell? ⟨gb314,1,none⟩ = some (.slice Ao11 t316.length co11):=(bc_ BK314.out 1).trans rfl;have hcz69_2 : w66.cell? ⟨gb314,2,none⟩ = some (u315002):=(bc_ BK314.out 2).trans rfl;have hcz69_3 : w66.cell? ⟨gb314,3,none⟩ = some (u315003):=(bc_ BK314.out 3).trans rfl;have hfz69_0:=bf_ BK314.out 0;have hfz69_1:=bf_ BK314.out 1;have hfz69_2:=bf_ BK314.out 2;have hfz69_3:=bf_ BK314.out 3;obtain ⟨Ao70,co70,eo70,_⟩:=Kd.Q_slice HO_315003.out;subst eo70;have q71 : (1 : Int) ≤ ((x315003_1.length : Int) : Int):=od_ (by first|(with_reducible assumption)|assumption);obtain ⟨i071,hi071,_,hsz71,_⟩:=info_parts info3;have hcut71:=cut_from (P:=Try.prog) 23 3 .i64 Try.underlying23 hi071 1 hsz71 Ao70 x315003_1.length co70 1 (by omega) q71;have hr71:=Kd.Q_drop (k:=(1 : Int).toNat) HO_315003.out (by omega);obtain ⟨A71,hA71⟩ : ∃ A1,A1 = (if co70 = (1 : Int).toNat then Ao70 else (Ao70 : Option Addr).map (·.add ((1 : Int).toNat * 1))):=⟨_,rfl⟩;obtain ⟨c71,hc71⟩ : ∃ c1,c1 = co70 - (1 : Int).toNat:=⟨_,rfl⟩;have hy71 : y344.length = x315003_1.length - (1 : Int).toNat:=(by rw [Ny344.out,List.length_drop]);rw [← Ny344.out] at hr71;rw [← hy71,← hA71,← hc71] at hcut71;replace hr71 : Kd.Q (Kd.int .i64) 3 w66 w.heap.size (fun k_ => some k_ ≠ (u315002 : Value).ownBlock) (.slice A71 y344.length c71) y344:=(by rw [hA71,hc71,hy71];exact hr71);have HE71 : Aside0 ((Value.slice A71 y344.length c71).ownBlock = (.slice Ao70 x315003_1.length co70 : Value).ownBlock):=⟨by rw [hA71];split <;> (cases (Ao70 : Option Addr) <;> rfl)⟩;clear hy71 hi071 hsz71 HO_315003 hA71 hc71;have HO346:=mk_ hr71;clear hr71;replace q71:=eq_true q71;have n_:=mk_ (rm_ (ok':=fun k_ => some k_ ≠ (.slice A71 y344.length c71 : Value).ownBlock) HO_315002.out (fun k_ hk => (by rw [HE71.out];exact hk)));clear HO_315002;have HO_315002:=n_;clear n_;have hnb72:=NB313_0.out;have hnc72:=NB0_313.out;have hcz73_0 : w66.cell? ⟨gb313,0,none⟩ = some (.int .i64 0):=(bc_ BK313.out 0).trans rfl;have hcz73_1 : w66.cell? ⟨gb313,1,none⟩ = some (.slice none 0 0):=(bc_ BK313.out 1).trans rfl;have hcz73_2 : w66.cell? ⟨gb313,2,none⟩ = some (.slice none 0 0):=(bc_ BK313.out 2).trans rfl;have hcz73_3 : w66.cell? ⟨gb313,3,none⟩ = some (.slice none 0 0):=(bc_ BK313.out 3).trans rfl;have hfz73_0:=bf_ BK313.out 0;have hfz73_1:=bf_ BK313.out 1;have hfz73_2:=bf_ BK313.out 2;have hfz73_3:=bf_ BK313.out 3;obtain ⟨Ao74,co74,eo74⟩:=Kd.R_slice HO_315002.out;subst eo74))
        refine bodyPost_ret (results_cell_row rfl _ _ gb313 30 #[.int .i64 t315,.slice Ao11 t316.length co11,.slice Ao74 x315002_1.length co74,.slice A71 y344.length c71] (0,0) _ rfl (by (with_reducible repeat (first|refine kn_ ?_ _|refine kd_ ?_|refine ka_ ?_ _));refine blk_put (cs:=#[.int .i64 t315,.slice Ao11 t316.length co11,.slice Ao74 x315002_1.length co74,.slice none 0 0]) ?_ 3 _ rfl;(with_reducible repeat (first|refine kn_ ?_ _|refine kd_ ?_|refine ka_ ?_ _));refine blk_put (cs:=#[.int .i64 t315,.slice Ao11 t316.length co11,.slice none 0 0,.slice none 0 0]) ?_ 2 _ rfl;(with_reducible repeat (first|refine kn_ ?_ _|refine kd_ ?_|refine ka_ ?_ _));refine blk_put (cs:=#[.int .i64 t315,.slice none 0 0,.slice none 0 0,.slice none 0 0]) ?_ 1 _ rfl;(with_reducible repeat (first|refine kn_ ?_ _|refine kd_ ?_|refine ka_ ?_ _));refine blk_put (cs:=#[.int .i64 0,.slice none 0 0,.slice none 0 0,.slice none 0 0]) ?_ 0 _ rfl;(with_reducible repeat (first|refine kn_ ?_ _|refine kd_ ?_|refine ka_ ?_ _));refine blk_far ?_ NB313_314.out _;(with_reducible repeat (first|refine kn_ ?_ _|refine kd_ ?_|refine ka_ ?_ _));exact BK313.out) Try.underlying30 rfl (by kernel_rfl)) rfl ?_
        exact ⟨_,_,_,by first|rfl|(simp [errW_none,errW_some] <;> rfl)|(simp [*,errW_none,errW_some] <;> rfl),by (with_reducible repeat (first|apply ra_|apply rn_|apply rd_));exact rm_ (rf_ (p:=⟨gb313,3,none⟩) (rf_ (p:=⟨gb313,2,none⟩) (rf_ (p:=⟨gb313,1,none⟩) (rf_ (p:=⟨gb313,0,none⟩) (rf_ (p:=⟨gb314,3,none⟩) (rt_ (rt_ HO_315001.out BK314.out (by decide)) BK313.out (by decide)) (fun _ hk => hk.1.2) (.slice A71 y344.length c71)) (fun _ hk => hk.2) (.int .i64 t315)) (fun _ hk => hk.2) (.slice Ao11 t316.length co11)) (fun _ hk => hk.2) (.slice Ao74 x315002_1.length co74)) (fun _ hk => hk.2) (.slice A71 y344.length c71)) (fun _ hk => trivial),by (with_reducible repeat (first|apply ra_|apply rn_|apply rd_));exact rm_ (rf_ (p:=⟨gb313,3,none⟩) (rf_ (p:=⟨gb313,2,none⟩) (rf_ (p:=⟨gb313,1,none⟩) (rf_ (p:=⟨gb313,0,none⟩) (rf_ (p:=⟨gb314,3,none⟩) (rt_ (rt_ HO_315002.out BK314.out (by decide)) BK313.out (by decide)) (fun _ hk => hk.1.2) (.slice A71 y344.length c71)) (fun _ hk => hk.2) (.int .i64 t315)) (fun _ hk => hk.2) (.slice Ao11 t316.length co11)) (fun _ hk => hk.2) (.slice Ao74 x315002_1.length co74)) (fun _ hk => hk.2) (.slice A71 y344.length c71)) (fun _ hk => hk.1.1),by (with_reducible repeat (first|apply Kd.Q_alloc|apply Kd.Q_drewN|apply Kd.Q_drew));exact Kd.Q_mono (Kd.Q_far (p:=⟨gb313,3,none⟩) (Kd.Q_far (p:=⟨gb313,2,none⟩) (Kd.Q_far (p:=⟨gb313,1,none⟩) (Kd.Q_far (p:=⟨gb313,0,none⟩) (Kd.Q_far (p:=⟨gb314,3,none⟩) (Kd.Q_types (Kd.Q_types HO346.out BK314.out (by decide)) BK313.out (by decide)) (fun _ hk => hk.1.2) (.slice A71 y344.length c71)) (fun _ hk => hk.2) (.int .i64 t315)) (fun _ hk => hk.2) (.slice Ao11 t316.length co11)) (fun _ hk => hk.2) (.slice Ao74 x315002_1.length co74)) (fun _ hk => hk.2) (.slice A71 y344.length c71)) (fun _ hk => hk.1.1),by repeat (first|(with_reducible first|exact HI0.out|apply IsS84.alloc|apply IsS84.drewN|apply IsS84.drew|apply IsS84.set_1|refine IsS84.far ?_ NB0_313.out _|refine IsS84.far ?_ NB0_314.out _)|exact HI0.out),by repeat (first|(with_reducible first|exact HB.out|apply ba_|apply bn_|apply bd_|refine bs_ ?_ (IsS84.ge HI0.out)|refine bs_ ?_ GE313.out|refine bs_ ?_ GE314.out)|exact HB.out),by repeat (first|(with_reducible first|exact HK.out|apply KeepBut.set_|apply keep_drewN|apply keep_drew|apply keep_alloc|refine keep_far ?_ GW313.out _|refine keep_far ?_ GW314.out _)|exact HK.out)⟩
       ·rw [if_neg c65] at H
        exact absurd H (by simp)
      ·rw [if_neg c64] at H
       have c64b0 : (t340 == 2) = false:=beq_eq_false_iff_ne.mpr c64
       have c64b1 : (t340 != 2) = true:=bne_iff_ne.mpr c64
       by_cases c75 : t340 = 3
       ·rw [if_pos c75] at H
        have c75b0 : (t340 == 3) = true:=beq_iff_eq.mpr c75
        have c75b1 : (t340 != 3) = false:=bne_eq_false_iff_eq.mpr c75
        clear c75
        simp only [Option.some.injEq,Prod.mk.injEq] at H
        obtain ⟨rfl,rfl,rfl,rfl,rfl⟩:=H
        go_wp2_with (first|((with_reducible refine gate_callee (f:=53) rfl ?_);refine goesL_ (some 44) rfl rfl Try.func53 (by kernel_rfl) rfl #[.pointer (some ⟨g,0,none⟩),.int .i64 80] rfl (by (try simp only [List.map_toArray,List.map_cons,List.map_nil]);first|done|rfl|(simp only [List.length_drop,List.length_take];rfl)) ?_;(with_reducible refine (spec_l21Rd_pick.calls k1 g s0_0 x1001_1 80 t340 t341 w0 _ ?side1 ?side2 A37.out).mono ?_);(case side1 => repeat (first|(with_reducible first|exact HI0.out|apply IsS84.alloc|apply IsS84.drewN|apply IsS84.drew|apply IsS84.set_1|refine IsS84.far ?_ NB0_313.out _|refine IsS84.far ?_ NB0_314.out _)|exact HI0.out));(case side2 => repeat (first|(with_reducible first|exact HB.out|apply ba_|apply bn_|apply bd_|refine bs_ ?_ (IsS84.ge HI0.out)|refine bs_ ?_ GE313.out|refine bs_ ?_ GE314.out)|exact HB.out));rintro e w76 ⟨rfl,hi,hb,hk⟩;refine ⟨_,rfl,?_⟩;have n0_:=mk_ (rm_ (Kd.R_keep (IsS84.apart (show IsS84 w0 _ g s0_0 x1001_1 from by repeat (first|(with_reducible first|exact HI0.out|apply IsS84.alloc|apply IsS84.drewN|apply IsS84.drew|apply IsS84.set_1|refine IsS84.far ?_ NB0_313.out _|refine IsS84.far ?_ NB0_314.out _)|exact HI0.out)) (by (with_reducible repeat (first|apply ra_|apply rn_|apply rd_));exact HO_315001.out) (by decide)) hk (fun _ h => h.2)) (fun _ h => h.1));have n1_:=mk_ (rm_ (Kd.R_keep (IsS84.apart (show IsS84 w0 _ g s0_0 x1001_1 from by repeat (first|(with_reducible first|exact HI0.out|apply IsS84.alloc|apply IsS84.drewN|apply IsS84.drew|apply IsS84.set_1|refine IsS84.far ?_ NB0_313.out _|refine IsS84.far ?_ NB0_314.out _)|exact HI0.out)) (by (with_reducible repeat (first|apply ra_|apply rn_|apply rd_));exact HO_315002.out) (by decide)) hk (fun _ h => h.2)) (fun _ h => h.1));have n2_:=mk_ (Kd.Q_mono (Kd.Q_keep (IsS84.apartQ (show IsS84 w0 _ g s0_0 x1001_1 from by repeat (first|(with_reducible first|exact HI0.out|apply IsS84.alloc|apply IsS84.drewN|apply IsS84.drew|apply IsS84.set_1|refine IsS84.far ?_ NB0_313.out _|refine IsS84.far ?_ NB0_314.out _)|exact HI0.out)) (by (with_reducible repeat (first|apply Kd.Q_alloc|apply Kd.Q_drewN|apply Kd.Q_drew));exact HO_315003.out) (by decide)) hk (fun _ h => h.2)) (fun _ h => h.1));have n3_:=mk_ (KeepBut.blk hk (g':=gb313) (o:=.cells #[.int .i64 0,.slice none 0 0,.slice none 0 0,.slice none 0 0] 30 (0,0)) (by (with_reducible repeat (first|refine kn_ ?_ _|refine kd_ ?_|refine ka_ ?_ _));exact BK313.out) NB313_0.out (by simp));have n4_:=mk_ (KeepBut.blk hk (g':=gb314) (o:=.cells #[.int .i64 t315,.slice Ao11 t316.length co11,u315002,u315003] 30 (0,0)) (by (with_reducible repeat (first|refine kn_ ?_ _|refine kd_ ?_|refine ka_ ?_ _));exact BK314.out) NB314_0.out (by simp));have n5_:=mk_ (KeepBut.trans (by repeat (first|(with_reducible first|exact HK.out|apply KeepBut.set_|apply keep_drewN|apply keep_drew|apply keep_alloc|refine keep_far ?_ GW313.out _|refine keep_far ?_ GW314.out _)|exact HK.out)) hk (.inl rfl));have n6_:=mk_ (hb);have n7_:=mk_ (hi);clear HO_315001;clear HO_315002;clear HO_315003;clear BK313;clear BK314;clear HK;clear HB;clear HI0;have HO_315001:=n0_;have HO_315002:=n1_;have HO_315003:=n2_;have BK313:=n3_;have BK314:=n4_;have HK:=n5_;have HB:=n6_;have HI0:=n7_;clear n0_ n1_ n2_ n3_ n4_ n5_ n6_ n7_;(try clear hb);(try clear hb2);(try clear hk);(try clear hi);have hnb77:=NB314_313.out;have hnc77:=NB313_314.out;have hnb78:=NB314_0.out;have hnc78:=NB0_314.out;have hcz79_0 : w76.cell? ⟨gb314,0,none⟩ = some (.int .i64 t315):=(bc_ BK314.out 0).trans rfl;have hcz79_1 : w76.cell? ⟨gb314,1,none⟩ = some (.slice Ao11 t316.length co11):=(bc_ BK314.out 1).trans rfl;have hcz79_2 : w76.cell? ⟨gb314,2,none⟩ = some (u315002):=(bc_ BK314.out 2).trans rfl;have hcz79_3 : w76.cell? ⟨gb314,3,none⟩ = some (u315003):=(bc_ BK314.out 3).trans rfl;have hfz79_0:=bf_ BK314.out 0;have hfz79_1:=bf_ BK314.out 1;have hfz79_2:=bf_ BK314.out 2;have hfz79_3:=bf_ BK314.out 3;have hnb80:=NB313_0.out;have hnc80:=NB0_313.out;have hcz81_0 : w76.cell? ⟨gb313,0,none⟩ = some (.int .i64 0):=(bc_ BK313.out 0).trans rfl;have hcz81_1 : w76.cell? ⟨gb313,1,none⟩ = some (.slice none 0 0):=(bc_ BK313.out 1).trans rfl;have hcz81_2 : w76.cell? ⟨gb313,2,none⟩ = some (.slice none 0 0):=(bc_ BK313.out 2).trans rfl;have hcz81_3 : w76.cell? ⟨gb313,3,none⟩ = some (.slice none 0 0):=(bc_ BK313.out 3).trans rfl;have hfz81_0:=bf_ BK313.out 0;have hfz81_1:=bf_ BK313.out 1;have hfz81_2:=bf_ BK313.out 2;have hfz81_3:=bf_ BK313.out 3;obtain ⟨Ao82,co82,eo82⟩:=Kd.R_slice HO_315002.out;subst eo82;obtain ⟨Ao83,co83,eo83,_⟩:=Kd.Q_slice HO_315003.out;subst eo83))
        refine bodyPost_ret (results_cell_row rfl _ _ gb313 30 #[.int .i64 9,.slice Ao11 t316.length co11,.slice Ao82 x315002_1.length co82,.slice Ao83 x315003_1.length co83] (0,0) _ rfl (by (with_reducible repeat (first|refine kn_ ?_ _|refine kd_ ?_|refine ka_ ?_ _));refine blk_put (cs:=#[.int .i64 9,.slice Ao11 t316.length co11,.slice Ao82 x315002_1.length co82,.slice none 0 0]) ?_ 3 _ rfl;(with_reducible repeat (first|refine kn_ ?_ _|refine kd_ ?_|refine ka_ ?_ _));refine blk_put (cs:=#[.int .i64 9,.slice Ao11 t316.length co11,.slice none 0 0,.slice none 0 0]) ?_ 2 _ rfl;(with_reducible repeat (first|refine kn_ ?_ _|refine kd_ ?_|refine ka_ ?_ _));refine blk_put (cs:=#[.int .i64 9,.slice none 0 0,.slice none 0 0,.slice none 0 0]) ?_ 1 _ rfl;(with_reducible repeat (first|refine kn_ ?_ _|refine kd_ ?_|refine ka_ ?_ _));refine blk_put (cs:=#[.int .i64 0,.slice none 0 0,.slice none 0 0,.slice none 0 0]) ?_ 0 _ rfl;(with_reducible repeat (first|refine kn_ ?_ _|refine kd_ ?_|refine ka_ ?_ _));refine blk_far ?_ NB313_314.out _;(with_reducible repeat (first|refine kn_ ?_ _|refine kd_ ?_|refine ka_ ?_ _));exact BK313.out) Try.underlying30 rfl (by kernel_rfl)) rfl ?_
        exact ⟨_,_,_,by first|rfl|(simp [errW_none,errW_some] <;> rfl)|(simp [*,errW_none,errW_some] <;> rfl),by (with_reducible repeat (first|apply ra_|apply rn_|apply rd_));exact rm_ (rf_ (p:=⟨gb313,3,none⟩) (rf_ (p:=⟨gb313,2,none⟩) (rf_ (p:=⟨gb313,1,none⟩) (rf_ (p:=⟨gb313,0,none⟩) (rf_ (p:=⟨gb314,0,none⟩) (rt_ (rt_ HO_315001.out BK314.out (by decide)) BK313.out (by decide)) (fun _ hk => hk.1.2) (.int .i64 9)) (fun _ hk => hk.2) (.int .i64 9)) (fun _ hk => hk.2) (.slice Ao11 t316.length co11)) (fun _ hk => hk.2) (.slice Ao82 x315002_1.length co82)) (fun _ hk => hk.2) (.slice Ao83 x315003_1.length co83)) (fun _ hk => trivial),by (with_reducible repeat (first|apply ra_|apply rn_|apply rd_));exact rm_ (rf_ (p:=⟨gb313,3,none⟩) (rf_ (p:=⟨gb313,2,none⟩) (rf_ (p:=⟨gb313,1,none⟩) (rf_ (p:=⟨gb313,0,none⟩) (rf_ (p:=⟨gb314,0,none⟩) (rt_ (rt_ HO_315002.out BK314.out (by decide)) BK313.out (by decide)) (fun _ hk => hk.1.2) (.int .i64 9)) (fun _ hk => hk.2) (.int .i64 9)) (fun _ hk => hk.2) (.slice Ao11 t316.length co11)) (fun _ hk => hk.2) (.slice Ao82 x315002_1.length co82)) (fun _ hk => hk.2) (.slice Ao83 x315003_1.length co83)) (fun _ hk => hk.1.1),by (with_reducible repeat (first|apply Kd.Q_alloc|apply Kd.Q_drewN|apply Kd.Q_drew));exact Kd.Q_mono (Kd.Q_far (p:=⟨gb313,3,none⟩) (Kd.Q_far (p:=⟨gb313,2,none⟩) (Kd.Q_far (p:=⟨gb313,1,none⟩) (Kd.Q_far (p:=⟨gb313,0,none⟩) (Kd.Q_far (p:=⟨gb314,0,none⟩) (Kd.Q_types (Kd.Q_types HO_315003.out BK314.out (by decide)) BK313.out (by decide)) (fun _ hk => hk.1.2) (.int .i64 9)) (fun _ hk => hk.2) (.int .i64 9)) (fun _ hk => hk.2) (.slice Ao11 t316.length co11)) (fun _ hk => hk.2) (.slice Ao82 x315002_1.length co82)) (fun _ hk => hk.2) (.slice Ao83 x315003_1.length co83)) (fun _ hk => hk.1.1),by repeat (first|(with_reducible first|exact HI0.out|apply IsS84.alloc|apply IsS84.drewN|apply IsS84.drew|apply IsS84.set_1|refine IsS84.far ?_ NB0_313.out _|refine IsS84.far ?_ NB0_314.out _)|exact HI0.out),by repeat (first|(with_reducible first|exact HB.out|apply ba_|apply bn_|apply bd_|refine bs_ ?_ (IsS84.ge HI0.out)|refine bs_ ?_ GE313.out|refine bs_ ?_ GE314.out)|exact HB.out),by repeat (first|(with_reducible first|exact HK.out|apply KeepBut.set_|apply keep_drewN|apply keep_drew|apply keep_alloc|refine keep_far ?_ GW313.out _|refine keep_far ?_ GW314.out _)|exact HK.out)⟩
       ·rw [if_neg c75] at H
        have c75b0 : (t340 == 3) = false:=beq_eq_false_iff_ne.mpr c75
        have c75b1 : (t340 != 3) = true:=bne_iff_ne.mpr c75
        simp only [Option.some.injEq,Prod.mk.injEq] at H
        obtain ⟨rfl,rfl,rfl,rfl,rfl⟩:=H
        go_wp2_with (first|((with_reducible refine gate_callee (f:=53) rfl ?_);refine goesL_ (some 44) rfl rfl Try.func53 (by kernel_rfl) rfl #[.pointer (some ⟨g,0,none⟩),.int .i64 80] rfl (by (try simp only [List.map_toArray,List.map_cons,List.map_nil]);first|done|rfl|(simp only [List.length_drop,List.length_take];rfl)) ?_;(with_reducible refine (spec_l21Rd_pick.calls k1 g s0_0 x1001_1 80 t340 t341 w0 _ ?side1 ?side2 A37.out).mono ?_);(case side1 => repeat (first|(with_reducible first|exact HI0.out|apply IsS84.alloc|apply IsS84.drewN|apply IsS84.drew|apply IsS84.set_1|refine IsS84.far ?_ NB0_313.out _|refine IsS84.far ?_ NB0_314.out _)|exact HI0.out));(case side2 => repeat (first|(with_reducible first|exact HB.out|apply ba_|apply bn_|apply bd_|refine bs_ ?_ (IsS84.ge HI0.out)|refine bs_ ?_ GE313.out|refine bs_ ?_ GE314.out)|exact HB.out));rintro e w84 ⟨rfl,hi,hb,hk⟩;refine ⟨_,rfl,?_⟩;have n0_:=mk_ (rm_ (Kd.R_keep (IsS84.apart (show IsS84 w0 _ g s0_0 x1001_1 from by repeat (first|(with_reducible first|exact HI0.out|apply IsS84.alloc|apply IsS84.drewN|apply IsS84.drew|apply IsS84.set_1|refine IsS84.far ?_ NB0_313.out _|refine IsS84.far ?_ NB0_314.out _)|exact HI0.out)) (by (with_reducible repeat (first|apply ra_|apply rn_|apply rd_));exact HO_315001.out) (by decide)) hk (fun _ h => h.2)) (fun _ h => h.1));have n1_:=mk_ (rm_ (Kd.R_keep (IsS84.apart (show IsS84 w0 _ g s0_0 x1001_1 from by repeat (first|(with_reducible first|exact HI0.out|apply IsS84.alloc|apply IsS84.drewN|apply IsS84.drew|apply IsS84.set_1|refine IsS84.far ?_ NB0_313.out _|refine IsS84.far ?_ NB0_314.out _)|exact HI0.out)) (by (with_reducible repeat (first|apply ra_|apply rn_|apply rd_));exact HO_315002.out) (by decide)) hk (fun _ h => h.2)) (fun _ h => h.1));have n2_:=mk_ (Kd.Q_mono (Kd.Q_keep (IsS84.apartQ (show IsS84 w0 _ g s0_0 x1001_1 from by repeat (first|(with_reducible first|exact HI0.out|apply IsS84.alloc|apply IsS84.drewN|apply IsS84.drew|apply IsS84.set_1|refine IsS84.far ?_ NB0_313.out _|refine IsS84.far ?_ NB0_314.out _)|exact HI0.out)) (by (with_reducible repeat (first|apply Kd.Q_alloc|apply Kd.Q_drewN|apply Kd.Q_drew));exact HO_315003.out) (by decide)) hk (fun _ h => h.2)) (fun _ h => h.1));have n3_:=mk_ (KeepBut.blk hk (g':=gb313) (o:=.cells #[.int .i64 0,.slice none 0 0,.slice none 0 0,.slice none 0 0] 30 (0,0)) (by (with_reducible repeat (first|refine kn_ ?_ _|refine kd_ ?_|refine ka_ ?_ _));exact BK313.out) NB313_0.out (by simp));have n4_:=mk_ (KeepBut.blk hk (g':=gb314) (o:=.cells #[.int .i64 t315,.slice Ao11 t316.length co11,u315002,u315003] 30 (0,0)) (by (with_reducible repeat (first|refine kn_ ?_ _|refine kd_ ?_|refine ka_ ?_ _));exact BK314.out) NB314_0.out (by simp));have n5_:=mk_ (KeepBut.trans (by repeat (first|(with_reducible first|exact HK.out|apply KeepBut.set_|apply keep_drewN|apply keep_drew|apply keep_alloc|refine keep_far ?_ GW313.out _|refine keep_far ?_ GW314.out _)|exact HK.out)) hk (.inl rfl));have n6_:=mk_ (hb);have n7_:=mk_ (hi);clear HO_315001;clear HO_315002;clear HO_315003;clear BK313;clear BK314;clear HK;clear HB;clear HI0;have HO_315001:=n0_;have HO_315002:=n1_;have HO_315003:=n2_;have BK313:=n3_;have BK314:=n4_;have HK:=n5_;have HB:=n6_;have HI0:=n7_;clear n0_ n1_ n2_ n3_ n4_ n5_ n6_ n7_;(try clear hb);(try clear hb2);(try clear hk);(try clear hi);have hnb85:=NB314_313.out;have hnc85:=NB313_314.out;have hnb86:=NB314_0.out;have hnc86:=NB0_314.out;have hcz87_0 : w84.cell? ⟨gb314,0,none⟩ = some (.int .i64 t315):=(bc_ BK314.out 0).trans rfl;have hcz87_1 : w84.cell? ⟨gb314,1,none⟩ = some (.slice Ao11 t316.length co11):=(bc_ BK314.out 1).trans rfl;have hcz87_2 : w84.cell? ⟨gb314,2,none⟩ = some (u315002):=(bc_ BK314.out 2).trans rfl;have hcz87_3 : w84.cell? ⟨gb314,3,none⟩ = some (u315003):=(bc_ BK314.out 3).trans rfl;have hfz87_0:=bf_ BK314.out 0;have hfz87_1:=bf_ BK314.out 1;have hfz87_2:=bf_ BK314.out 2;have hfz87_3:=bf_ BK314.out 3;have hnb88:=NB313_0.out;have hnc88:=NB0_313.out;have hcz89_0 : w84.cell? ⟨gb313,0,none⟩ = some (.int .i64 0):=(bc_ BK313.out 0).trans rfl;have hcz89_1 : w84.cell? ⟨gb313,1,none⟩ = some (.slice none 0 0):=(bc_ BK313.out 1).trans rfl;have hcz89_2 : w84.cell? ⟨gb313,2,none⟩ = some (.slice none 0 0):=(bc_ BK313.out 2).trans rfl;have hcz89_3 : w84.cell? ⟨gb313,3,none⟩ = some (.slice none 0 0):=(bc_ BK313.out 3).trans rfl;have hfz89_0:=bf_ BK313.out 0;have hfz89_1:=bf_ BK313.out 1;have hfz89_2:=bf_ BK313.out 2;have hfz89_3:=bf_ BK313.out 3;obtain ⟨Ao90,co90,eo90⟩:=Kd.R_slice HO_315002.out;subst eo90;obtain ⟨Ao91,co91,eo91,_⟩:=Kd.Q_slice HO_315003.out;subst eo91))
        refine bodyPost_ret (results_cell_row rfl _ _ gb313 30 #[.int .i64 t315,.slice Ao11 t316.length co11,.slice Ao90 x315002_1.length co90,.slice Ao91 x315003_1.length co91] (0,0) _ rfl (by (with_reducible repeat (first|refine kn_ ?_ _|refine kd_ ?_|refine ka_ ?_ _));refine blk_put (cs:=#[.int .i64 t315,.slice Ao11 t316.length co11,.slice Ao90 x315002_1.length co90,.slice none 0 0]) ?_ 3 _ rfl;(with_reducible repeat (first|refine kn_ ?_ _|refine kd_ ?_|refine ka_ ?_ _));refine blk_put (cs:=#[.int .i64 t315,.slice Ao11 t316.length co11,.slice none 0 0,.slice none 0 0]) ?_ 2 _ rfl;(with_reducible repeat (first|refine kn_ ?_ _|refine kd_ ?_|refine ka_ ?_ _));refine blk_put (cs:=#[.int .i64 t315,.slice none 0 0,.slice none 0 0,.slice none 0 0]) ?_ 1 _ rfl;(with_reducible repeat (first|refine kn_ ?_ _|refine kd_ ?_|refine ka_ ?_ _));refine blk_put (cs:=#[.int .i64 0,.slice none 0 0,.slice none 0 0,.slice none 0 0]) ?_ 0 _ rfl;(with_reducible repeat (first|refine kn_ ?_ _|refine kd_ ?_|refine ka_ ?_ _));exact BK313.out) Try.underlying30 rfl (by kernel_rfl)) rfl ?_
        exact ⟨_,_,_,by first|rfl|(simp [errW_none,errW_some] <;> rfl)|(simp [*,errW_none,errW_some] <;> rfl),by (with_reducible repeat (first|apply ra_|apply rn_|apply rd_));exact rm_ (rf_ (p:=⟨gb313,3,none⟩) (rf_ (p:=⟨gb313,2,none⟩) (rf_ (p:=⟨gb313,1,none⟩) (rf_ (p:=⟨gb313,0,none⟩) (rt_ HO_315001.out BK313.out (by decide)) (fun _ hk => hk.2) (.int .i64 t315)) (fun _ hk => hk.2) (.slice Ao11 t316.length co11)) (fun _ hk => hk.2) (.slice Ao90 x315002_1.length co90)) (fun _ hk => hk.2) (.slice Ao91 x315003_1.length co91)) (fun _ hk => trivial),by (with_reducible repeat (first|apply ra_|apply rn_|apply rd_));exact rm_ (rf_ (p:=⟨gb313,3,none⟩) (rf_ (p:=⟨gb313,2,none⟩) (rf_ (p:=⟨gb313,1,none⟩) (rf_ (p:=⟨gb313,0,none⟩) (rt_ HO_315002.out BK313.out (by decide)) (fun _ hk => hk.2) (.int .i64 t315)) (fun _ hk => hk.2) (.slice Ao11 t316.length co11)) (fun _ hk => hk.2) (.slice Ao90 x315002_1.length co90)) (fun _ hk => hk.2) (.slice Ao91 x315003_1.length co91)) (fun _ hk => hk.1),by (with_reducible repeat (first|apply Kd.Q_alloc|apply Kd.Q_drewN|apply Kd.Q_drew));exact Kd.Q_mono (Kd.Q_far (p:=⟨gb313,3,none⟩) (Kd.Q_far (p:=⟨gb313,2,none⟩) (Kd.Q_far (p:=⟨gb313,1,none⟩) (Kd.Q_far (p:=⟨gb313,0,none⟩) (Kd.Q_types HO_315003.out BK313.out (by decide)) (fun _ hk => hk.2) (.int .i64 t315)) (fun _ hk => hk.2) (.slice Ao11 t316.length co11)) (fun _ hk => hk.2) (.slice Ao90 x315002_1.length co90)) (fun _ hk => hk.2) (.slice Ao91 x315003_1.length co91)) (fun _ hk => hk.1),by repeat (first|(with_reducible first|exact HI0.out|apply IsS84.alloc|apply IsS84.drewN|apply IsS84.drew|apply IsS84.set_1|refine IsS84.far ?_ NB0_313.out _|refine IsS84.far ?_ NB0_314.out _)|exact HI0.out),by repeat (first|(with_reducible first|exact HB.out|apply ba_|apply bn_|apply bd_|refine bs_ ?_ (IsS84.ge HI0.out)|refine bs_ ?_ GE313.out|refine bs_ ?_ GE314.out)|exact HB.out),by repeat (first|(with_reducible first|exact HK.out|apply KeepBut.set_|apply keep_drewN|apply keep_drew|apply keep_alloc|refine keep_far ?_ GW313.out _|refine keep_far ?_ GW314.out _)|exact HK.out)⟩

end Go.Proofs.Ytdamdcdjodmemaa.PAll

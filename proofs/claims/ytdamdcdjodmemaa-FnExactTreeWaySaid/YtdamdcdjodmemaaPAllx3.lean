/- Proved here: contracts of functions of the given program, or lemmas on them, for the laws of this seat. Written by xprint.py, a program of this session, on the ground of the kit's print; parts by hand: wip/x/ext. -/
import Derived.Test.YtdamdcdjodmemaaPAllx0
import Derived.Test.YtdamdcdjodmemaaPAllx2
namespace Go.Proofs.Ytdamdcdjodmemaa.PAll
open Go.RowKit Go.Proofs.YtdamdcdjodmemaaW.PrintWords Go.Proofs.YtdamdcdjodmemaaW.PrintLast Go.Proofs.YtdamdcdjodmemaaW.PrintMore
attribute [local go_sem] max2_int min2_int max_two min_two max_three min_three max_four min_four   -- for this text's walks alone
set_option linter.unusedVariables false
set_option linter.unusedSimpArgs false

/-! ### bits_Len64: function 103 (by hand) -/
def bits_Len64.f (a0 : Int) : Option (Int) :=
 if 0 ≤ a0 ∧ a0 ≤ 20 then some (([0,1,2,2,3,3,3,3,4,4,4,4,4,4,4,4,5,5,5,5,5] : List Int).getD a0.toNat 0) else none
theorem upto20 {a : Int} (h0 : 0 ≤ a) (h1 : a ≤ 20) : a = 0 ∨ a = 1 ∨ a = 2 ∨ a = 3 ∨ a = 4 ∨ a = 5 ∨ a = 6 ∨ a = 7 ∨ a = 8 ∨ a = 9 ∨ a = 10 ∨ a = 11 ∨ a = 12 ∨ a = 13 ∨ a = 14 ∨ a = 15 ∨ a = 16 ∨ a = 17 ∨ a = 18 ∨ a = 19 ∨ a = 20:=by omega
set_option maxHeartbeats 4000000 in
set_option maxRecDepth 100000 in
theorem bits_Len64.calls (a0 : Int) (r : Int) (w : World) (h : bits_Len64.f a0 = some r) :
  Calls Try.prog 103 #[.int .u64 a0] w fun e w' => e = .returned (.int .i64 r) ∧ Drawn0 w w':=by
 unfold bits_Len64.f at h
 by_cases hc : 0 ≤ a0 ∧ a0 ≤ 20
 ·rw [if_pos hc] at h
  obtain rfl:=Option.some.inj h
  clear h
  have hu:=upto20 hc.1 hc.2
  clear hc
  rcases hu with rfl|rfl|rfl|rfl|rfl|rfl|rfl|rfl|rfl|rfl|rfl|rfl|rfl|rfl|rfl|rfl|rfl|rfl|rfl|rfl|rfl
  all_goals
   go_enter Try.func103,Try.ntmps103
   go_wp2
   go_ret
   exact ⟨by first|kernel_rfl|rfl,Drawn0.refl _⟩
 ·rw [if_neg hc] at h
  cases h

/-! ### bits_Len: function 84 -/
def bits_Len.f (a0 : Int) : Option (Int):=(bits_Len64.f a0).bind fun t193 => (some t193)
set_option maxHeartbeats 8000000 in
set_option maxRecDepth 100000 in
theorem bits_Len.calls (a0 : Int) (r : Int) (w : World) (h : bits_Len.f a0 = some r) :
  Calls Try.prog 84 #[.int .u64 a0] w fun e w' => e = .returned (.int .i64 r) ∧ Drawn0 w w':=by
 have H : ((bits_Len64.f a0).bind fun t193 => (some t193)) = some r:=h
 clear h
 replace H:=Option.bind_eq_some_iff.mp H
 obtain ⟨t193,A20,H⟩:=H
 replace H : (some t193) = some r:=H
 have A2:=mk_ A20
 clear A20
 obtain rfl:=Option.some.inj H
 go_enter Try.func84,Try.ntmps84
 go_wp2_with (first|((with_reducible refine gate_callee (f:=103) rfl ?_);refine goesL_ (some 7) rfl rfl Try.func103 (by kernel_rfl) rfl #[.int .u64 a0] rfl qm_ ?_;(with_reducible refine (bits_Len64.calls a0 t193 _ A2.out).mono ?_);rintro e w' ⟨rfl,⟨nd,rfl⟩⟩;refine ⟨_,rfl,?_⟩))
 go_ret
 exact ⟨by first|rfl|(simp;done)|(simp [*];done),by repeat (first|exact Drawn0.refl _|apply Drawn0.step)⟩

/-! ### slices_pdqsortOrdered_int: function 83 (by hand) -/
def slices_pdqsortOrdered_int.f (k : Nat) (l0 : List Int) (a1 : Int) (a2 : Int) (a3 : Int) : Option (List Int) :=
 if wrap64 (a2 - a1) ≤ 12 then slices_insertionSortOrdered_int.f k l0 a1 a2 else none
theorem slices_pdqsortOrdered_int.mono : ∀ a0 a1 a2 a3 k,LeO (slices_pdqsortOrdered_int.f k a0 a1 a2 a3) (slices_pdqsortOrdered_int.f (k + 1) a0 a1 a2 a3):=by
 intro a0 a1 a2 a3 k
 unfold slices_pdqsortOrdered_int.f
 exact LeO.ite (slices_insertionSortOrdered_int.mono _ _ _ _) (LeO.refl _)
set_option maxHeartbeats 4000000 in
set_option maxRecDepth 100000 in
theorem slices_pdqsortOrdered_int.calls (k : Nat) (P0_ : Nat → Prop) (u9000_ : Value) (l0 : List Int) (a1 : Int) (a2 : Int) (a3 : Int) (r : List Int) (w0 w : World) (hB : Below w0.heap.size w0 w) (ho0 : Kd.R (Kd.int .i64) 3 w w0.heap.size P0_ u9000_ l0) (h : slices_pdqsortOrdered_int.f k l0 a1 a2 a3 = some r) :
  Calls Try.prog 83 #[u9000_,.int .i64 a1,.int .i64 a2,.int .i64 a3] w fun e w' => e = .returned (.tuple #[]) ∧ Kd.R (Kd.int .i64) 3 w' w0.heap.size (fun k_ => (P0_ k_ ∨ w.heap.size ≤ k_)) u9000_ r ∧ Below w0.heap.size w0 w' ∧ Kept w w' (fun k_ => P0_ k_):=by
 unfold slices_pdqsortOrdered_int.f at h
 by_cases hc : wrap64 (a2 - a1) ≤ 12
 ·rw [if_pos hc] at h
  have hcall:=slices_insertionSortOrdered_int.calls k P0_ u9000_ l0 a1 a2 r w0 w hB ho0 h
  have hc1 : (wrap64 (a2 - a1) ≤ 12) = True:=eq_true hc
  clear h hB ho0 hc
  go_enter Try.func83,Try.ntmps83
  go_wp2
  go_loopg [1,2,3,8,9,10,11,12,13,14,15,16,17,18] 1 (fun gg s1 s2 _ _ _ _ _ _ _ _ _ _ _ _ wr => s1 = .int .i64 a1 ∧ s2 = .int .i64 a2 ∧ wr = w)
  case atStart => exact ⟨rfl,rfl,rfl⟩
  case round =>
   obtain ⟨rfl,rfl,rfl⟩:=hrel
   go_wp2_with fail
   refine hcall.mono ?_
   rintro e w' ⟨rfl,h1,h2,h3⟩
   go_wp2_with fail
   first|go_end0|((try simp only [Exit.inBlock,Exit.then]);refine bodyPost_ret (results_none rfl _ _ _) rfl ?_)
   exact ⟨rfl,h1,h2,h3⟩
 ·rw [if_neg hc] at h
  cases h

/-! ### slices_Sort_int_int: function 64 -/
def slices_Sort_int_int.f (k : Nat) (l0 : List Int) : Option (List Int):=(bits_Len.f (IntKind.u64.wrap ((l0.length : Int)))).bind fun t278 => ((slices_pdqsortOrdered_int.f k l0 0 (l0.length : Int) t278).bind fun t279 => (some t279))
theorem slices_Sort_int_int.mono : ∀ a0 k,LeO (slices_Sort_int_int.f k a0) (slices_Sort_int_int.f (k + 1) a0):=by
 intro a0 k
 unfold slices_Sort_int_int.f
 repeat' first
   | (with_reducible exact slices_pdqsortOrdered_int.mono _ _ _ _ _)
   | (with_reducible exact LeO.refl _)
   | (with_reducible exact LeO.none _)
   | (with_reducible refine LeO.ite ?_ ?_)
   | (with_reducible refine LeO.bind ?_ (fun _ => ?_))
   | exact slices_pdqsortOrdered_int.mono _ _ _ _ _
   | exact LeO.none _
   | refine LeO.ite ?_ ?_
   | refine LeO.bind ?_ (fun _ => ?_)
set_option maxHeartbeats 8000000 in
set_option maxRecDepth 100000 in
theorem slices_Sort_int_int.calls (k : Nat) (P0_ : Nat → Prop) (u9000_ : Value) (l0 : List Int) (r : List Int) (w0 w : World) (hB : Below w0.heap.size w0 w) (ho0 : Kd.R (Kd.int .i64) 3 w w0.heap.size P0_ u9000_ l0) (h : slices_Sort_int_int.f k l0 = some r) :
  Calls Try.prog 64 #[u9000_] w fun e w' => e = .returned (.tuple #[]) ∧ Kd.R (Kd.int .i64) 3 w' w0.heap.size (fun k_ => (P0_ k_ ∨ w.heap.size ≤ k_)) u9000_ r ∧ Below w0.heap.size w0 w' ∧ Kept w w' (fun k_ => P0_ k_):=by
 have HO0:=mk_ (show Kd.R (Kd.int .i64) 3 w w0.heap.size (fun k_ => (P0_ k_ ∨ w.heap.size ≤ k_)) u9000_ l0 from rm_ ho0 (fun k_ hk => (.inl hk)))
 have HK:=mk_ (Kept.refl w (fun k_ => P0_ k_))
 have HW0:=mk_ hB.size
 have HB:=mk_ hB
 clear hB
 have H : ((bits_Len.f (IntKind.u64.wrap ((l0.length : Int)))).bind fun t278 => ((slices_pdqsortOrdered_int.f k l0 0 (l0.length : Int) t278).bind fun t279 => (some t279))) = some r:=h
 clear h
 replace H:=Option.bind_eq_some_iff.mp H
 obtain ⟨t278,A20,H⟩:=H
 replace H : ((slices_pdqsortOrdered_int.f k l0 0 (l0.length : Int) t278).bind fun t279 => (some t279)) = some r:=H
 have A2:=mk_ A20
 clear A20
 replace H:=Option.bind_eq_some_iff.mp H
 obtain ⟨t279,A30,H⟩:=H
 replace H : (some t279) = some r:=H
 have A3:=mk_ A30
 clear A30
 obtain rfl:=Option.some.inj H
 obtain ⟨Ao4,co4,eo4⟩:=Kd.R_slice HO0.out
 subst eo4
 go_enter Try.func64,Try.ntmps64
 go_wp2_with (first|((with_reducible refine gate_callee (f:=84) rfl ?_);refine goesL_ (some 9) rfl rfl Try.func84 (by kernel_rfl) rfl #[.int .u64 (IntKind.u64.wrap ((l0.length : Int)))] rfl qm_ ?_;(with_reducible refine (bits_Len.calls (IntKind.u64.wrap ((l0.length : Int))) t278 _ A2.out).mono ?_);rintro e w' ⟨rfl,⟨nd,rfl⟩⟩;refine ⟨_,rfl,?_⟩)|((with_reducible refine gate_callee (f:=83) rfl ?_);refine goesL_ (some 10) rfl rfl Try.func83 (by kernel_rfl) rfl #[.slice Ao4 l0.length co4,.int .i64 0,.int .i64 (l0.length : Int),.int .i64 t278] rfl qm_ ?_;(with_reducible refine (slices_pdqsortOrdered_int.calls k (fun k_ => some k_ = (.slice Ao4 l0.length co4 : Value).ownBlock) (.slice Ao4 l0.length co4) l0 0 (l0.length : Int) t278 t279 w0 _ ?side1 ?side2 A3.out).mono ?_);(case side1 => repeat (first|(with_reducible first|exact HB.out|apply ba_|apply bn_|apply bd_)|exact HB.out));(case side2 => exact Kd.R_tight rfl HO0.out);rintro e w5 ⟨rfl,hy0,hb,hkp⟩;refine ⟨_,rfl,?_⟩;have n0_:=mk_ (Kd.R_reok rfl hy0 (fun k_ e_ => HO0.out.1 k_ e_));have n1_:=mk_ (Kept.then_ (S:=(fun k_ => P0_ k_)) (by repeat (first|(with_reducible first|exact HK.out|apply Kept.alloc|apply Kept.drewN|apply Kept.drew)|exact HK.out)) hkp (fun k_ hs_ => (fun e_ => (HO0.out.1 k_ e_.symm)) hs_));have n2_:=mk_ (hb);clear HO0;clear HK;clear HB;have HO0:=n0_;have HK:=n1_;have HB:=n2_;clear n0_ n1_ n2_;(try clear hb);(try clear hkp);(try clear hy0)))
 first|go_end0|((try simp only [Exit.inBlock,Exit.then]);refine bodyPost_ret (results_none rfl _ _ _) rfl ?_)
 exact ⟨by first|rfl|(simp [errW_none,errW_some] <;> rfl)|(simp [*,errW_none,errW_some] <;> rfl),by (with_reducible repeat (first|apply ra_|apply rn_|apply rd_));exact HO0.out,by repeat (first|(with_reducible first|exact HB.out|apply ba_|apply bn_|apply bd_)|exact HB.out),by repeat (first|(with_reducible first|exact HK.out|apply Kept.alloc|apply Kept.drewN|apply Kept.drew)|exact HK.out)⟩

/-! ### bits_Mul64: function 106 -/
def bits_Mul64.f (a0 : Int) (a1 : Int) : Option (Int × Int):=some (IntKind.u64.wrap ((IntKind.u64.wrap ((IntKind.u64.wrap ((a0 / 4294967296) * (a1 / 4294967296))) + ((IntKind.u64.wrap ((IntKind.u64.wrap ((a0 / 4294967296) * (Go.bits .and .u64 a1 4294967295))) + ((IntKind.u64.wrap ((Go.bits .and .u64 a0 4294967295) * (Go.bits .and .u64 a1 4294967295))) / 4294967296))) / 4294967296))) + ((IntKind.u64.wrap ((Go.bits .and .u64 (IntKind.u64.wrap ((IntKind.u64.wrap ((a0 / 4294967296) * (Go.bits .and .u64 a1 4294967295))) + ((IntKind.u64.wrap ((Go.bits .and .u64 a0 4294967295) * (Go.bits .and .u64 a1 4294967295))) / 4294967296))) 4294967295) + (IntKind.u64.wrap ((Go.bits .and .u64 a0 4294967295) * (a1 / 4294967296))))) / 4294967296)),IntKind.u64.wrap (a0 * a1))
set_option maxHeartbeats 8000000 in
set_option maxRecDepth 100000 in
theorem bits_Mul64.calls (a0 : Int) (a1 : Int) (r1 : Int) (r2 : Int) (w : World) (h : bits_Mul64.f a0 a1 = some (r1,r2)) :
  Calls Try.prog 106 #[.int .u64 a0,.int .u64 a1] w fun e w' => e = .returned (.tuple #[.int .u64 r1,.int .u64 r2]) ∧ Drawn0 w w':=by
 have H : (some (IntKind.u64.wrap ((IntKind.u64.wrap ((IntKind.u64.wrap ((a0 / 4294967296) * (a1 / 4294967296))) + ((IntKind.u64.wrap ((IntKind.u64.wrap ((a0 / 4294967296) * (Go.bits .and .u64 a1 4294967295))) + ((IntKind.u64.wrap ((Go.bits .and .u64 a0 4294967295) * (Go.bits .and .u64 a1 4294967295))) / 4294967296))) / 4294967296))) + ((IntKind.u64.wrap ((Go.bits .and .u64 (IntKind.u64.wrap ((IntKind.u64.wrap ((a0 / 4294967296) * (Go.bits .and .u64 a1 4294967295))) + ((IntKind.u64.wrap ((Go.bits .and .u64 a0 4294967295) * (Go.bits .and .u64 a1 4294967295))) / 4294967296))) 4294967295) + (IntKind.u64.wrap ((Go.bits .and .u64 a0 4294967295) * (a1 / 4294967296))))) / 4294967296)),IntKind.u64.wrap (a0 * a1))) = some (r1,r2):=h
 clear h
 simp only [Option.some.injEq,Prod.mk.injEq] at H
 obtain ⟨rfl,rfl⟩:=H
 go_enter Try.func106,Try.ntmps106
 go_wp2
 go_ret2
 exact ⟨by first|rfl|(simp;done)|(simp [*];done),by repeat (first|exact Drawn0.refl _|apply Drawn0.step)⟩

/-! ### bits_Mul: function 92 -/
def bits_Mul.f (a0 : Int) (a1 : Int) : Option (Int × Int):=(bits_Mul64.f a0 a1).bind fun bt280 => (some (bt280.1,bt280.2))
set_option maxHeartbeats 8000000 in
set_option maxRecDepth 100000 in
theorem bits_Mul.calls (a0 : Int) (a1 : Int) (r1 : Int) (r2 : Int) (w : World) (h : bits_Mul.f a0 a1 = some (r1,r2)) :
  Calls Try.prog 92 #[.int .u64 a0,.int .u64 a1] w fun e w' => e = .returned (.tuple #[.int .u64 r1,.int .u64 r2]) ∧ Drawn0 w w':=by
 have H : ((bits_Mul64.f a0 a1).bind fun bt280 => (some (bt280.1,bt280.2))) = some (r1,r2):=h
 clear h
 replace H:=Option.bind_eq_some_iff.mp H
 obtain ⟨⟨t280,t281⟩,A30,H⟩:=H
 replace H : (some (t280,t281)) = some (r1,r2):=H
 have A3:=mk_ A30
 clear A30
 simp only [Option.some.injEq,Prod.mk.injEq] at H
 obtain ⟨rfl,rfl⟩:=H
 go_enter Try.func92,Try.ntmps92
 go_wp2_with (first|((with_reducible refine gate_callee (f:=106) rfl ?_);refine goesL_ (some 25) rfl rfl Try.func106 (by kernel_rfl) rfl #[.int .u64 a0,.int .u64 a1] rfl qm_ ?_;(with_reducible refine (bits_Mul64.calls a0 a1 t280 t281 _ A3.out).mono ?_);rintro e w' ⟨rfl,⟨nd,rfl⟩⟩;refine ⟨_,rfl,?_⟩))
 go_ret2
 exact ⟨by first|rfl|(simp;done)|(simp [*];done),by repeat (first|exact Drawn0.refl _|apply Drawn0.step)⟩

/-! ### slices_Repeat_int_int: function 81 (by hand) -/
theorem R_fills {g cap : Nat} {base : Nat} {ok : Nat → Prop} {n : Nat} (v : Int) (m : Nat) : ∀ (o : Nat) (W : World) (xs : List Int),Kd.R (Kd.int .i64) 3 W base ok (.slice (some ⟨g,0,none⟩) n cap) xs → o + m ≤ n → xs.take o = List.replicate o v →
  ∃ ys,Kd.R (Kd.int .i64) 3 (W.setCells g o (List.replicate m (.int .i64 v))) base ok (.slice (some ⟨g,0,none⟩) n cap) ys ∧ ys.take (o + m) = List.replicate (o + m) v:=by
 induction m with
 | zero => exact fun o W xs h _ he => ⟨xs,h,he⟩
 | succ m ih =>
  intro o W xs h hm he
  have hn:=(rr_ h).1
  have h1:=(Kd.R_putg h (o : Int) v).1
  rw [Int.toNat_natCast] at h1
  obtain ⟨ys,h2,h3⟩:=ih (o + 1) _ _ h1 (by omega) (by
   rw [List.take_add_one,List.take_set_of_le (Nat.le_refl o),he,List.getElem?_set_self (by omega),List.replicate_succ']
   rfl)
  exact ⟨ys,h2,by rw [show o + (m + 1) = o + 1 + m by omega];exact h3⟩
theorem below_fills {w0 : World} {g : Nat} (hg : w0.heap.size ≤ g) (vs : List Value) : ∀ (o : Nat) (W : World),Below w0.heap.size w0 W → Below w0.heap.size w0 (W.setCells g o vs):=by
 induction vs with
 | nil => exact fun _ _ h => h
 | cons v vs ih => exact fun o W h => ih (o + 1) _ (bs_ h hg)
/-- 'copy' of a row's first n cells behind themselves. -/
theorem copy_fills {g cap n : Nat} {base : Nat} {ok : Nat → Prop} {W : World} {xs : List Int} (v : Int) (o m c1 c2 : Nat) (h : Kd.R (Kd.int .i64) 3 W base ok (.slice (some ⟨g,0,none⟩) n cap) xs) (he : xs.take o = List.replicate o v) (hm : m = Nat.min o (n - o)) (ho : o ≤ n) :
  ∀ ty,(Builtin.copy_ #[23,23] ty #[.slice (some ⟨g,o,none⟩) (n - o) c1,.slice (some ⟨g,0,none⟩) o c2]).run Try.prog W = .ok (.int .i64 m) (W.setCells g o (List.replicate m (.int .i64 v))):=by
 intro ty
 have hn:=(rr_ h).1
 have hmo : m ≤ o ∧ m ≤ n - o:=by rw [hm];exact ⟨Nat.min_le_left _ _,Nat.min_le_right _ _⟩
 have hval : ∀ j,j < o → rdOf 0 xs (j : Int) = v:=fun j hj => by
  have:=congrArg (fun t => t[j]?) he
  simp only [List.getElem?_take,if_pos hj,List.getElem?_replicate] at this
  simp [rdOf,List.getD_eq_getElem?_getD,this]
 have e:=run_copy_cells (P:=Try.prog) W 23 23 ty 3 g o (n - o) c1 ⟨g,0,none⟩ o c2 (List.replicate m (.int .i64 v)) Try.underlying23 (by kernel_rfl) (by rw [List.length_replicate];exact hm)
  (fun j u hj => by
   rw [List.getElem?_replicate] at hj
   split at hj
   ·rename_i hjm
    have hc:=(Kd.R_celln 0 h (j : Int) (by omega) (by omega)).1
    rw [Int.toNat_natCast,hval j (by omega)] at hc
    have e2 : (⟨g,0,none⟩ : Addr).add j = ⟨g,j,none⟩:=by simp [Addr.add];exact fun h => h.symm
    rw [e2,hc]
    exact hj
   ·cases hj)
  (fun j hj => by
   rw [List.length_replicate] at hj
   have hc:=(Kd.R_celln 0 h ((o + j : Nat) : Int) (by omega) (by omega)).1
   rw [Int.toNat_natCast] at hc
   rw [hc];rfl)
  (fun j hj => by
   rw [List.length_replicate] at hj
   have hc:=(Kd.R_celln 0 h ((o + j : Nat) : Int) (by omega) (by omega)).2
   rw [Int.toNat_natCast] at hc
   exact hc)
  (fun u hu => by rw [List.eq_of_mem_replicate hu];rfl)
 rw [List.length_replicate] at e
 exact e
theorem step_copy_run {P : Program} {ops : Array Oper} {o : Oper} {a : Act} {w : World} {K : Act → World → Prop} {Q : Exit → Act → World → Prop} {E : Prop}
  (hg : o.guard = none) (d x : Operand) (dT sT : TypeId) (hop : o.op = Op.call { callee:=Callee.builtin Builtin.copy,args:=#[d,x],argTypes:=#[dT,sT] })
  (v u : Value) (hd : a.eval d = v) (hx : a.eval x = u) {v' : Value} {w' : World} (hr : (Builtin.copy_ #[dT,sT] o.type #[v,u]).run P w = .ok v' w') (hK : K (a.put o.dst v') w') :
  if Region.wanted o (yielded ops a.tmps) = true then Oper.wp P o a w K Q else E:=by
 have hw : Region.wanted o (yielded ops a.tmps) = true:=by simp [Region.wanted,hg]
 rw [if_pos hw]
 unfold Oper.wp
 simp [execOp,hop,resolve,invoke,builtin,hd,hx,hr,Result.andThen]
 exact hK
/-- The first copy: of one number. -/
theorem first_copy {g cap n c0 : Nat} {base : Nat} {ok : Nat → Prop} {W : World} {xs : List Int} {v : Int} {ad : Addr} (h : Kd.R (Kd.int .i64) 3 W base ok (.slice (some ⟨g,0,none⟩) n cap) xs) (hn1 : 1 ≤ n) (hs : Kd.C (Kd.int .i64) W (some ad) 1 [v]) :
  ∀ ty,(Builtin.copy_ #[23,23] ty #[.slice (some ⟨g,0,none⟩) n cap,.slice (some ad) 1 c0]).run Try.prog W = .ok (.int .i64 1) (W.setCells g 0 [.int .i64 v]):=by
 intro ty
 obtain ⟨ad',e,hx⟩:=Kd.at_int hs (0 : Int) (by omega) (by omega)
 obtain rfl:=Option.some.inj e
 have hc:=Kd.R_celln 0 h (0 : Int) (by omega) (by omega)
 exact run_copy_cells (P:=Try.prog) W 23 23 ty 3 g 0 n cap ad 1 c0 [.int .i64 v] Try.underlying23 (by kernel_rfl) (by have : Nat.min 1 n = 1:=Nat.min_eq_left hn1;rw [this];rfl)
  (fun j u hj => by
   match j,hj with
   | 0,hj => exact hx.trans hj
   | j + 1,hj => simp at hj)
  (fun j hj => by
   obtain rfl : j = 0:=by simp at hj;exact hj
   rw [show (⟨g,0 + 0,none⟩ : Addr) = ⟨g,(0 : Int).toNat,none⟩ from rfl,hc.1];rfl)
  (fun j hj => by
   obtain rfl : j = 0:=by simp at hj;exact hj
   exact hc.2)
  (fun u hu => by rw [List.mem_singleton.1 hu];rfl)
def slices_Repeat_int_int.f (l0 : List Int) (a1 : Int) : Option (List Int) :=
 match l0 with
 | [v] => if 1 ≤ a1 ∧ a1 ≤ 20 then some (List.replicate a1.toNat v) else none
 | _ => none
set_option maxHeartbeats 4000000 in
set_option maxRecDepth 100000 in
theorem slices_Repeat_int_int.calls (A0 : Option Addr) (c0 : Nat) (l0 : List Int) (a1 : Int) (r : List Int) (w : World) (hr0 : Kd.C (Kd.int .i64) w A0 l0.length l0) (hc0 : l0.length ≤ c0) (h : slices_Repeat_int_int.f l0 a1 = some r) :
  Calls Try.prog 81 #[.slice A0 l0.length c0,.int .i64 a1] w fun e w' => ∃ v0_ : Value,e = .returned (v0_) ∧ Kd.R (Kd.int .i64) 3 w' w.heap.size (fun _ => True) v0_ r ∧ Below w.heap.size w w':=by
 unfold slices_Repeat_int_int.f at h
 match l0,h,hr0,hc0 with
 | [],h,_,_ => cases h
 | _ :: _ :: _,h,_,_ => cases h
 | [v],h,hr0,hc0 =>
  simp only [] at h
  by_cases hc : 1 ≤ a1 ∧ a1 ≤ 20
  ·rw [if_pos hc] at h
   obtain rfl:=Option.some.inj h
   clear h
   obtain ⟨N,hN⟩ : ∃ N : Nat,a1 = (N : Int):=⟨a1.toNat,by omega⟩
   subst hN
   rw [Int.toNat_natCast]
   obtain ⟨ad,e,hx⟩:=Kd.at_int hr0 (0 : Int) (by omega) (by simp)
   subst e
   have hN1 : 1 ≤ N:=by omega
   have hN20 : N ≤ 20:=by omega
   have hmul : bits_Mul.f 1 (N : Int) = some (0,(N : Int)):=by
    have : N = 1 ∨ N = 2 ∨ N = 3 ∨ N = 4 ∨ N = 5 ∨ N = 6 ∨ N = 7 ∨ N = 8 ∨ N = 9 ∨ N = 10 ∨ N = 11 ∨ N = 12 ∨ N = 13 ∨ N = 14 ∨ N = 15 ∨ N = 16 ∨ N = 17 ∨ N = 18 ∨ N = 19 ∨ N = 20:=by omega
    rcases this with rfl|rfl|rfl|rfl|rfl|rfl|rfl|rfl|rfl|rfl|rfl|rfl|rfl|rfl|rfl|rfl|rfl|rfl|rfl|rfl <;> decide
   have HM : Aside0 (∀ W,Calls Try.prog 92 #[.int .u64 1,.int .u64 (N : Int)] W fun e w' => e = .returned (.tuple #[.int .u64 0,.int .u64 (N : Int)]) ∧ Drawn0 W w'):=⟨fun W => bits_Mul.calls 1 (N : Int) 0 (N : Int) W hmul⟩
   have HX:=mk_ hx
   have HR:=mk_ hr0
   simp only [List.length_cons,List.length_nil,Nat.zero_add] at HR
   have hw1 : IntKind.u64.wrap 1 = 1:=rfl
   have hwN : IntKind.u64.wrap (N : Int) = (N : Int):=by
    have : IntKind.u64.wrap (N : Int) = (N : Int) % 18446744073709551616:=by simp [IntKind.wrap,IntKind.bits,IntKind.signed]
    rw [this];omega
   have hiN : IntKind.i64.wrap (N : Int) = (N : Int):=by rw [i64_w];exact (by unfold wrap64;omega)
   have p0 : ((N : Int) < 0) = False:=eq_false (by omega)
   have p1 : ((9223372036854775807 : Int) < (N : Int)) = False:=eq_false (by omega)
   clear hmul hr0 hx hc
   simp only [List.length_cons,List.length_nil,Nat.zero_add] at hc0 ⊢
   go_enter Try.func81,Try.ntmps81
   go_wp2_with (first|(go_at_call 92;refine (HM.out w).mono ?_;rintro e w1 ⟨rfl,hd1⟩;have HD:=mk_ hd1.below;clear hd1)|((with_reducible refine gate_dst (N:=30) rfl ?_);refine Kd.R_make (Kd.int .i64) (w0:=w) w.heap.size 3 rfl (N:=30) rfl 23 _ _ rfl (N : Int) rfl rfl Try.underlying23 (.int .i64 0) 8 (by kernel_rfl) rfl (by decide) (by omega) 0 (ok:=fun _ => True) (okp:=fun _ => True) rfl (fun _ hk => hk) trivial (by omega) (by rw [Int.toNat_natCast];omega) HD.out HD.out.size ?_;intro v1 w2 ho hb hg hnew;rw [Int.toNat_natCast] at ho;obtain ⟨go,co,ev,hgo,hgl,_⟩:=Kd.R_form ho (by simp;omega);rw [List.length_replicate] at ev;subst ev;have hcp:=first_copy (n:=N) (cap:=co) (c0:=c0) ho hN1 (cb_ HR.out hb);obtain ⟨ys,hy1,hy2⟩:=R_fills v 1 0 w2 (List.replicate N 0) ho (by omega) rfl;have HY:=mk_ hy1;have HT:=mk_ hy2;have HB:=mk_ (below_fills hgo [.int .i64 v] 0 w2 hb);clear ho hb hg hnew hgl hy1 hy2 HD HX)|(simp only [hcp]))
   clear hcp
   go_loopg [8] N (fun gg s8 wr => ∃ (m : Nat) (L : List Int),s8 = .int .i64 m ∧ 1 ≤ m ∧ m ≤ N ∧ N - m ≤ gg ∧ Aside0 (Kd.R (Kd.int .i64) 3 wr w.heap.size (fun _ => True) (.slice (some ⟨go,0,none⟩) N co) L) ∧ Aside0 (L.take m = List.replicate m v) ∧ Aside0 (Below w.heap.size w wr))
   case atStart => exact ⟨1,ys,by go_num,by omega,by omega,by omega,HY,HT,HB⟩
   case round =>
    clear HY HT HB
    obtain ⟨m,L,rfl,hm1,hmN,hgg,HO,HT,BW⟩:=hrel
    by_cases hlt : m < N
    ·have hcc:=(rr_ HO.out).2.1
     obtain ⟨q,hq,hq1,hq2⟩ : ∃ q : Nat,q = Nat.min m (N - m) ∧ q ≤ N - m ∧ 1 ≤ q:=⟨_,rfl,Nat.min_le_right _ _,Nat.le_min.2 ⟨hm1,by omega⟩⟩
     have hcp:=copy_fills (W:=wr.drew) v m q (co - m) co (rd_ HO.out) HT.out hq hmN
     obtain ⟨ys2,hy1,hy2⟩:=R_fills v q m wr.drew L (rd_ HO.out) (by omega) HT.out
     have HY2:=mk_ hy1
     have HT2:=mk_ hy2
     have HB2:=mk_ (below_fills hgo (List.replicate q (.int .i64 v)) m wr.drew (bd_ BW.out))
     have p2 : ((m : Int) < (N : Int)) = True:=eq_true (by omega)
     clear hy1 hy2 hq
     have hcm : (co = m) = False:=eq_false (by omega)
     have hmco : m ≤ co:=by omega
     have hmco2 : (m : Int) ≤ (co : Int):=by omega
     have hmq : IntKind.i64.wrap ((m : Int) + (q : Int)) = ((m + q : Nat) : Int):=by rw [i64_w];exact (by unfold wrap64;omega)
     go_wp2
     go_region_law (refine step_copy_run rfl (.tmp 41) (.tmp 44) 23 23 rfl (.slice (some ⟨go,m,none⟩) (N - m) (co - m)) (.slice (some ⟨go,0,none⟩) m co) (by simp [Act.eval,Act.put]) (by simp [Act.eval,Act.put]) (hcp _) ?_)
     all_goals
      try go_simp
      go_wp2
      go_roundg (N - (m + q))
      case measure => omega
      case rel => exact ⟨m + q,ys2,by go_num,by omega,by omega,by omega,HY2,HT2,HB2⟩
    ·obtain rfl : m = N:=by omega
     have hL:=(rr_ HO.out).1
     have p2 : ((m : Int) < (m : Int)) = False:=eq_false (by omega)
     have hLe : L = List.replicate m v:=by rw [← HT.out,List.take_of_length_le (by omega)]
     subst hLe
     clear HT hL
     go_wp2
     go_ret
     exact ⟨_,rfl,HO.out,BW.out⟩
  ·rw [if_neg hc] at h
   cases h

/-! ### impl_costsOf: function 62 -/
mutual
def impl_costsOf.l0 : Nat → Int → List (S51) → List Int → List Int → Int → Int → Option (List Int)
 | 0,_,_,_,_,_,_ => none
 | k + 1,x0,x1,x5,x15,x16,x17 => if x17 < x16 then (if 0 ≤ x17 then (if x17 < (x15.length : Int) then (if x17 = (rd x15 x17) then (if x17 < (x5.length : Int) then (impl_costsOf.l0 k x0 x1 (x5.set (x17 : Int).toNat 0) x15 x16 (wrap64 (x17 + 1))) else (none)) else (impl_costsOf.l0 k x0 x1 x5 x15 x16 (wrap64 (x17 + 1)))) else (none)) else (none)) else (impl_costsOf.l1 k x1 x5 x0 0)
def impl_costsOf.l1 : Nat → List (S51) → List Int → Int → Int → Option (List Int)
 | 0,_,_,_,_ => none
 | k + 1,x1,x5,x29,x30 => if x30 < x29 then (impl_costsOf.l2 k x1 x5 x29 x30 x1 (x1.length : Int) 0) else (some x5)
def impl_costsOf.l2 : Nat → List (S51) → List Int → Int → Int → List (S51) → Int → Int → Option (List Int)
 | 0,_,_,_,_,_,_,_ => none
 | k + 1,x1,x5,x29,x30,x32,x33,x34 => if x34 < x33 then (if 0 ≤ x34 then (if x34 < (x32.length : Int) then (if 0 ≤ ((rd_T51 x32 x34).f0) then (if ((rd_T51 x32 x34).f0) < (x5.length : Int) then (if 0 ≤ ((rd_T51 x32 x34).f1) then (if ((rd_T51 x32 x34).f1) < (x5.length : Int) then ((some (x5.set (((rd_T51 x32 x34).f0) : Int).toNat (mn (rd x5 ((rd_T51 x32 x34).f0)) (wrap64 ((rd x5 ((rd_T51 x32 x34).f1)) + ((rd_T51 x32 x34).f2)))) : List Int)).bind fun y297 => (impl_costsOf.l2 k x1 (y297.set (((rd_T51 x32 x34).f1) : Int).toNat (mn (rd y297 ((rd_T51 x32 x34).f1)) (wrap64 ((rd y297 ((rd_T51 x32 x34).f0)) + ((rd_T51 x32 x34).f2))))) x29 x30 x32 x33 (wrap64 (x34 + 1)))) else (none)) else (none)) else (none)) else (none)) else (none)) else (none)) else (impl_costsOf.l1 k x1 x5 x29 (wrap64 (x30 + 1)))
end
def impl_costsOf.f (k : Nat) (a0 : Int) (l1 : List (S51)) : Option (List Int):=(slices_Repeat_int_int.f (([1073741824] : List Int)) a0).bind fun t285 => ((impl_rootsOf.f a0 l1).bind fun t288 => (impl_costsOf.l0 k a0 l1 t285 t288 (t288.length : Int) 0))
theorem impl_costsOf.mono_l : ∀ k,(∀ y0 y1 y2 y3 y4 y5,LeO (impl_costsOf.l0 k y0 y1 y2 y3 y4 y5) (impl_costsOf.l0 (k + 1) y0 y1 y2 y3 y4 y5)) ∧ (∀ y0 y1 y2 y3,LeO (impl_costsOf.l1 k y0 y1 y2 y3) (impl_costsOf.l1 (k + 1) y0 y1 y2 y3)) ∧ (∀ y0 y1 y2 y3 y4 y5 y6,LeO (impl_costsOf.l2 k y0 y1 y2 y3 y4 y5 y6) (impl_costsOf.l2 (k + 1) y0 y1 y2 y3 y4 y5 y6))
 | 0 => ⟨fun _ _ _ _ _ _ r h => by simp [impl_costsOf.l0] at h,fun _ _ _ _ r h => by simp [impl_costsOf.l1] at h,fun _ _ _ _ _ _ _ r h => by simp [impl_costsOf.l2] at h⟩
 | k + 1 => by
  obtain ⟨ih0,ih1,ih2⟩:=impl_costsOf.mono_l k
  refine ⟨?_,?_,?_⟩
  ·intro y0 y1 y2 y3 y4 y5
   unfold impl_costsOf.l0
   repeat' first
   | (with_reducible exact ih0 _ _ _ _ _ _)
   | (with_reducible exact ih1 _ _ _ _)
   | (with_reducible exact ih2 _ _ _ _ _ _ _)
   | (with_reducible exact LeO.refl _)
   | (with_reducible exact LeO.none _)
   | (with_reducible refine LeO.ite ?_ ?_)
   | (with_reducible refine LeO.bind ?_ (fun _ => ?_))
   | exact ih0 _ _ _ _ _ _
   | exact ih1 _ _ _ _
   | exact ih2 _ _ _ _ _ _ _
   | exact LeO.none _
   | refine LeO.ite ?_ ?_
   | refine LeO.bind ?_ (fun _ => ?_)
  ·intro y0 y1 y2 y3
   unfold impl_costsOf.l1
   repeat' first
   | (with_reducible exact ih0 _ _ _ _ _ _)
   | (with_reducible exact ih1 _ _ _ _)
   | (with_reducible exact ih2 _ _ _ _ _ _ _)
   | (with_reducible exact LeO.refl _)
   | (with_reducible exact LeO.none _)
   | (with_reducible refine LeO.ite ?_ ?_)
   | (with_reducible refine LeO.bind ?_ (fun _ => ?_))
   | exact ih0 _ _ _ _ _ _
   | exact ih1 _ _ _ _
   | exact ih2 _ _ _ _ _ _ _
   | exact LeO.none _
   | refine LeO.ite ?_ ?_
   | refine LeO.bind ?_ (fun _ => ?_)
  ·intro y0 y1 y2 y3 y4 y5 y6
   unfold impl_costsOf.l2
   repeat' first
   | (with_reducible exact ih0 _ _ _ _ _ _)
   | (with_reducible exact ih1 _ _ _ _)
   | (with_reducible exact ih2 _ _ _ _ _ _ _)
   | (with_reducible exact LeO.refl _)
   | (with_reducible exact LeO.none _)
   | (with_reducible refine LeO.ite ?_ ?_)
   | (with_reducible refine LeO.bind ?_ (fun _ => ?_))
   | exact ih0 _ _ _ _ _ _
   | exact ih1 _ _ _ _
   | exact ih2 _ _ _ _ _ _ _
   | exact LeO.none _
   | refine LeO.ite ?_ ?_
   | refine LeO.bind ?_ (fun _ => ?_)
theorem impl_costsOf.mono : ∀ a0 a1 k,LeO (impl_costsOf.f k a0 a1) (impl_costsOf.f (k + 1) a0 a1):=by
 intro a0 a1 k
 obtain ⟨ih0,ih1,ih2⟩:=impl_costsOf.mono_l k
 unfold impl_costsOf.f
 repeat' first
   | (with_reducible exact ih0 _ _ _ _ _ _)
   | (with_reducible exact ih1 _ _ _ _)
   | (with_reducible exact ih2 _ _ _ _ _ _ _)
   | (with_reducible exact LeO.refl _)
   | (with_reducible exact LeO.none _)
   | (with_reducible refine LeO.ite ?_ ?_)
   | (with_reducible refine LeO.bind ?_ (fun _ => ?_))
   | exact ih0 _ _ _ _ _ _
   | exact ih1 _ _ _ _
   | exact ih2 _ _ _ _ _ _ _
   | exact LeO.none _
   | refine LeO.ite ?_ ?_
   | refine LeO.bind ?_ (fun _ => ?_)
def impl_costsOf.T13 : Bool × List (List Nat × List Nat):=(true,[([],[]),([],[]),([1],[1]),([],[]),([],[]),([4],[4]),([3,5],[3,5]),([6],[6]),([],[]),([],[]),([9],[9]),([8,10],[8,10]),([11],[11]),([],[]),([13],[13]),([12,14],[12,14]),([7,15],[7,15]),([0,2,0,1,2,3,4,5,6,7,8,9,10,11,12,13,14,15,16],[0,2]),([17,16,0,1,2,3,4,5,6,7,8,9,10,11,12,13,14,15,16],[16,17])])
def impl_costsOf.B13 : List Nat:=[0,0,2,0,0,16,56,120,0,0,512,1792,3840,0,8192,32512,65528,131071,262143]
theorem impl_costsOf.tab13 : rtab .any (opsOf Try.f62 13) = impl_costsOf.T13:=by kernel_rfl
theorem impl_costsOf.bits13 : waitsOk impl_costsOf.T13.2 impl_costsOf.B13 = true:=by kernel_rfl
def impl_costsOf.T14 : Bool × List (List Nat × List Nat):=(true,[([],[]),([],[]),([1],[1]),([],[]),([],[]),([4],[4]),([3,5],[3,5]),([6],[6]),([],[]),([],[]),([9],[9]),([8,10],[8,10]),([11],[11]),([],[]),([13],[13]),([12,14],[12,14]),([7,15],[7,15]),([0,2,0,1,2,3,4,5,6,7,8,9,10,11,12,13,14,15,16],[0,2]),([17,16,0,1,2,3,4,5,6,7,8,9,10,11,12,13,14,15,16],[16,17])])
def impl_costsOf.B14 : List Nat:=[0,0,2,0,0,16,56,120,0,0,512,1792,3840,0,8192,32512,65528,131071,262143]
theorem impl_costsOf.tab14 : rtab .any (opsOf Try.f62 14) = impl_costsOf.T14:=by kernel_rfl
theorem impl_costsOf.bits14 : waitsOk impl_costsOf.T14.2 impl_costsOf.B14 = true:=by kernel_rfl
set_option maxHeartbeats 8000000 in
set_option maxRecDepth 100000 in
theorem impl_costsOf.calls (k : Nat) (a0 : Int) (A1 : Option Addr) (c1 : Nat) (l1 : List (S51)) (r : List Int) (w : World) (hr1 : Kd.C k51 w A1 l1.length l1) (hc1 : l1.length ≤ c1) (h : impl_costsOf.f k a0 l1 = some r) :
  Calls Try.prog 62 #[.int .i64 a0,.slice A1 l1.length c1] w fun e w' => ∃ v0_ : Value,e = .returned (v0_) ∧ Kd.R (Kd.int .i64) 3 w' w.heap.size (fun _ => True) v0_ r ∧ Below w.heap.size w w':=by
 have hu51:=Try.underlying51
 have HR1:=mk_ hr1
 have HC1:=mk_ hc1
 clear hr1 hc1
 have HB:=mk_ (Below.refl w.heap.size w)
 have H : ((slices_Repeat_int_int.f (([1073741824] : List Int)) a0).bind fun t285 => ((impl_rootsOf.f a0 l1).bind fun t288 => (impl_costsOf.l0 k a0 l1 t285 t288 (t288.length : Int) 0))) = some r:=h
 clear h
 obtain ⟨y282,hy282⟩ : ∃ y_ : List Int,y_ = (([1073741824] : List Int)):=⟨_,rfl⟩
 replace H : ((slices_Repeat_int_int.f y282 a0).bind fun t285 => ((impl_rootsOf.f a0 l1).bind fun t288 => (impl_costsOf.l0 k a0 l1 t285 t288 (t288.length : Int) 0))) = some r:=by first|(rw [hy282];with_reducible exact H)|(have H2_:=(Option.bind_some _ _).symm.trans H;rw [hy282];with_reducible exact H2_)|(have H2_:=(Option.bind_some _ _).symm.trans H;with_reducible exact H2_)|with_reducible exact H|(rw [hy282];exact H)|exact H
 have Ny282:=mk_ hy282
 clear hy282
 replace H:=Option.bind_eq_some_iff.mp H
 obtain ⟨t285,A30,H⟩:=H
 replace H : ((impl_rootsOf.f a0 l1).bind fun t288 => (impl_costsOf.l0 k a0 l1 t285 t288 (t288.length : Int) 0)) = some r:=H
 have A3:=mk_ A30
 clear A30
 replace H:=Option.bind_eq_some_iff.mp H
 obtain ⟨t288,A40,H⟩:=H
 replace H : (impl_costsOf.l0 k a0 l1 t285 t288 (t288.length : Int) 0) = some r:=H
 have A4:=mk_ A40
 clear A40
 have H':=mk_ H
 clear H
 go_enter Try.func62,Try.ntmps62
 go_wp2_with (first|((with_reducible refine gate_dst (N:=10) rfl ?_);refine Kd.R_lit (Kd.int .i64) _ 3 ?hg (N:=10) ?hd (xs:=([1073741824] : List Int)) (inner:=[.int .i64 1073741824]) (ok:=fun _ => True) (okp:=fun _ => True) ?hr ?hp (fun _ hk => hk) trivial (Below.refl _ _) (Nat.le_refl _) (by simp) ?_;(case hd => rfl);(case hg => rfl);(case hr => first|(go_simp;done)|(go_simp;rfl));(case hp => exact (Reps.one (show Kd.M (Kd.int .i64) _ _ _ 1073741824 [.int .i64 1073741824] from rfl) (Reps.none _ _)));intro v283 w5 ho6 hb hg_ hnew_;clear hg_ hnew_;(first|rw [← Ny282.out] at ho6|(simp only [Int.reduceToNat] at ho6;rw [← Ny282.out] at ho6));have n0_:=mk_ (Kd.R_lower ho6 (bz_ (qb_ HB)));have n1_:=mk_ (st_ (qb_ HB) hb);clear HB;have HO284:=n0_;have HB:=n1_;clear n0_ n1_;clear hb ho6;obtain ⟨Ao7,co7,eo7⟩:=Kd.R_slice HO284.out;subst eo7)|((with_reducible refine gate_callee (f:=81) rfl ?_);refine goesL_ (some 12) rfl rfl Try.func81 (by kernel_rfl) rfl #[.slice Ao7 y282.length co7,.int .i64 a0] rfl qm_ ?_;(with_reducible refine (slices_Repeat_int_int.calls _ _ y282 a0 t285 _ ?side1 ?side2 A3.out).mono ?_);(case side1 => repeat (first|exact (rr_ HO284.out).2.2|(with_reducible refine ca_ ?_ _)|(with_reducible refine cn_ ?_ _)|(with_reducible refine cd_ ?_)));(case side2 => exact (rr_ HO284.out).2.1);rintro e w8 ⟨v286,rfl,ho0,hb⟩;refine ⟨_,rfl,?_⟩;have n0_:=mk_ (re_ (qr_ HO284) (Kd.R_base ho0) hb);have n1_:=mk_ (Kd.R_lower (Kd.R_new' ho0 (Kd.R_lt (qr_ HO284))) (bz_ (qb_ HB)));have n2_:=mk_ (st_ (qb_ HB) hb);clear HO284;clear HB;have HO284:=n0_;have HO287:=n1_;have HB:=n2_;clear n0_ n1_ n2_;(try clear hb);(try clear hb2);(try clear hk);(try clear hi);(try clear ho0))|((with_reducible refine gate_callee (f:=55) rfl ?_);refine goesL_ (some 15) rfl rfl Try.func55 (by kernel_rfl) rfl #[.int .i64 a0,.slice A1 l1.length c1] rfl qm_ ?_;(with_reducible refine (impl_rootsOf.calls a0 _ _ l1 t288 _ ?side1 ?side2 A4.out).mono ?_);(case side1 => repeat (first|exact (cb_ HR1.out HB.out)|(with_reducible refine ca_ ?_ _)|(with_reducible refine cn_ ?_ _)|(with_reducible refine cd_ ?_)));(case side2 => exact HC1.out);rintro e w9 ⟨v289,rfl,ho0,hb⟩;refine ⟨_,rfl,?_⟩;have n0_:=mk_ (re_ (qr_ HO284) (Kd.R_base ho0) hb);have n1_:=mk_ (re_ (qr_ HO287) (Kd.R_base ho0) hb);have n2_:=mk_ (Kd.R_lower (Kd.R_new' (Kd.R_new' ho0 (Kd.R_lt (qr_ HO284))) (Kd.R_lt (qr_ HO287))) (bz_ (qb_ HB)));have n3_:=mk_ (st_ (qb_ HB) hb);clear HO284;clear HO287;clear HB;have HO284:=n0_;have HO287:=n1_;have HO290:=n2_;have HB:=n3_;clear n0_ n1_ n2_ n3_;(try clear hb);(try clear hb2);(try clear hk);(try clear hi);(try clear ho0);obtain ⟨Ao10,co10,eo10⟩:=Kd.R_slice HO290.out;subst eo10))
 go_loopg [17] k (fun kq v17 w' => ∃ (x5_1 : List Int) (x17_1 : Int),v17 = .int .i64 x17_1 ∧ Aside0 (impl_costsOf.l0 kq a0 l1 x5_1 t288 (t288.length : Int) x17_1 = some r) ∧ Aside0 (kq ≤ k) ∧ Aside0 (Kd.R (Kd.int .i64) 3 w' w.heap.size (fun k_ => some k_ ≠ ((.slice Ao10 t288.length co10) : Value).ownBlock) v286 x5_1) ∧ Aside0 (Kd.R (Kd.int .i64) 3 w' w.heap.size (fun k_ => some k_ ≠ (v286 : Value).ownBlock) (.slice Ao10 t288.length co10) t288) ∧ Aside0 (Below w.heap.size w w'))
 case atStart => exact ⟨(t285),(0),(by first|rfl|(simp;done)|(simp [*];done)),H',⟨Nat.le_refl _⟩,⟨by (with_reducible repeat (first|apply ra_|apply rn_|apply rd_));exact rm_ HO287.out (fun _ hk => hk.2)⟩,⟨by (with_reducible repeat (first|apply ra_|apply rn_|apply rd_));exact rm_ HO290.out (fun _ hk => hk.2)⟩,⟨by repeat (first|(with_reducible first|exact HB.out|apply ba_|apply bn_|apply bd_)|exact HB.out)⟩⟩
 case round =>
  clear H'
  try clear c1
  try clear p2
  try clear c5
  try clear c6
  try clear c8
  obtain ⟨x5_1,x17_1,rfl,HA,HK1,HO_5,HO_15,HB⟩:=hrel
  cases gk with
  | zero => exact absurd HA.out (by simp [impl_costsOf.l0])
  | succ k1 =>
   have H:=HA.out
   clear HA
   simp only [impl_costsOf.l0] at H
   by_cases c11 : x17_1 < (t288.length : Int)
   ·rw [if_pos c11] at H
    have c11b0 : decide (x17_1 < (t288.length : Int)) = true:=decide_eq_true c11
    clear c11
    by_cases c12 : 0 ≤ x17_1
    ·rw [if_pos c12] at H
     have c12b0 : decide (0 ≤ x17_1) = true:=decide_eq_true c12
     clear c12
     by_cases c13 : x17_1 < (t288.length : Int)
     ·rw [if_pos c13] at H
      have c13b0 : decide (x17_1 < (t288.length : Int)) = true:=decide_eq_true c13
      clear c13
      by_cases c14 : x17_1 = (rd t288 x17_1)
      ·rw [if_pos c14] at H
       have c14b0 : (x17_1 == (rd t288 x17_1)) = true:=beq_iff_eq.mpr c14
       have c14b1 : (x17_1 != (rd t288 x17_1)) = false:=bne_eq_false_iff_eq.mpr c14
       clear c14
       by_cases c15 : x17_1 < (x5_1.length : Int)
       ·rw [if_pos c15] at H
        have c15b0 : decide (x17_1 < (x5_1.length : Int)) = true:=decide_eq_true c15
        clear c15
        obtain ⟨y292,hy292⟩ : ∃ y_ : List Int,y_ = (x5_1.set (x17_1 : Int).toNat 0):=⟨_,rfl⟩
        replace H : (impl_costsOf.l0 k1 a0 l1 y292 t288 (t288.length : Int) (wrap64 (x17_1 + 1))) = some r:=by first|(rw [hy292];with_reducible exact H)|(have H2_:=(Option.bind_some _ _).symm.trans H;rw [hy292];with_reducible exact H2_)|(have H2_:=(Option.bind_some _ _).symm.trans H;with_reducible exact H2_)|with_reducible exact H|(rw [hy292];exact H)|exact H
        have Ny292:=mk_ hy292
        clear hy292
        have H':=mk_ H
        clear H
        have p291 : 0 ≤ (x17_1 : Int):=od_ qa_
        have q291 : x17_1 < (t288.length : Int):=od_ qa_
        obtain ⟨ad291,e291,hx291_0⟩:=Kd.at_int (rr_ HO_15.out).2.2 x17_1 p291 q291
        cases e291
        replace p291:=eq_true p291
        replace q291:=eq_true q291
        have p16 : 0 ≤ (x17_1 : Int):=od_ qa_
        have q16 : (x17_1 : Int) < ((x5_1.length : Int) : Int):=od_ qa_
        obtain ⟨go16,co16,eo16,gb16,gl16,cl16,HG16⟩:=Kd.R_form HO_5.out (by omega)
        (first|cases eo16|(injection eo16 with ea_ en_ ec_;(first|subst ea_|(injection ea_ with ea_;subst ea_));subst ec_;clear en_))
        have GB16:=mk_ gb16
        have GG16:=mk_ HG16
        clear gb16 gl16 HG16
        obtain ⟨hx16_0,hf16_0⟩:=Kd.R_celln 0 HO_5.out (x17_1 : Int) p16 q16
        replace p16:=eq_true p16
        replace q16:=eq_true q16
        have HP17:=Kd.R_putg HO_5.out (x17_1 : Int) 0
        go_wp2_with (first|((with_reducible refine gate_store (t:=3) (p:=27) rfl ?_);refine store_event (t:=3) (p:=27) (v:=?vo_w18) (w1:=(wr.setCell ⟨go16,(x17_1 : Int).toNat,none⟩ (.int .i64 0))) ?hg ?ho ?hn ?hr ?_;(case ho => rfl);(case hg => rfl);(case hn => rfl);(case hr => first|(go_simp;done)|(go_simp;rfl));intro w18 hw;have hg : wr.grownBy w18 (some go16):=(by rw [hw];exact HP17.2);have hp_ : Kd.R (Kd.int .i64) 3 w18 w.heap.size (fun k_ => some k_ ≠ (.slice (some ad291) t288.length co10 : Value).ownBlock) (.slice (some ⟨go16,0,none⟩) x5_1.length co16) y292:=(by rw [hw,Ny292.out];exact HP17.1);clear HP17;have n0_:=mk_ (hp_);have n1_:=mk_ (Kd.R_after (v:=(.slice (some ⟨go16,0,none⟩) x5_1.length co16)) (v1:=(.slice (some ⟨go16,0,none⟩) x5_1.length co16)) (ok:=(fun _ => True)) (by (with_reducible repeat (first|apply ra_|apply rn_|apply rd_));exact rm_ HO_15.out (fun _ hk => ⟨trivial,hk⟩)) hg (.inl rfl));have n2_:=mk_ ((by rw [hw];exact bs_ (HB.out) GB16.out : Below w.heap.size w w18));clear HO_5;clear HO_15;clear HB;have HO_5:=n0_;have HO_15:=n1_;have HB:=n2_;clear n0_ n1_ n2_;clear hg hw hp_))
        go_roundg k1
        case measure => have:=HK1.out;omega
        case rel => exact ⟨(y292),(wrap64 (x17_1 + 1)),(by first|rfl|(simp;done)|(simp [*];done)),H',⟨by have:=HK1.out;omega⟩,⟨by (with_reducible repeat (first|apply ra_|apply rn_|apply rd_));exact HO_5.out⟩,⟨by (with_reducible repeat (first|apply ra_|apply rn_|apply rd_));exact rm_ HO_15.out (fun _ hk => hk.2)⟩,⟨by repeat (first|(with_reducible first|exact HB.out|apply ba_|apply bn_|apply bd_)|exact HB.out)⟩⟩
       ·rw [if_neg c15] at H
        exact absurd H (by simp)
      ·rw [if_neg c14] at H
       have c14b0 : (x17_1 == (rd t288 x17_1)) = false:=beq_eq_false_iff_ne.mpr c14
       have c14b1 : (x17_1 != (rd t288 x17_1)) = true:=bne_iff_ne.mpr c14
       have H':=mk_ H
       clear H
       have p291 : 0 ≤ (x17_1 : Int):=od_ qa_
       have q291 : x17_1 < (t288.length : Int):=od_ qa_
       obtain ⟨ad291,e291,hx291_0⟩:=Kd.at_int (rr_ HO_15.out).2.2 x17_1 p291 q291
       cases e291
       replace p291:=eq_true p291
       replace q291:=eq_true q291
       go_wp2
       go_roundg k1
       case measure => have:=HK1.out;omega
       case rel => exact ⟨(x5_1),(wrap64 (x17_1 + 1)),(by first|rfl|(simp;done)|(simp [*];done)),H',⟨by have:=HK1.out;omega⟩,⟨by (with_reducible repeat (first|apply ra_|apply rn_|apply rd_));exact HO_5.out⟩,⟨by (with_reducible repeat (first|apply ra_|apply rn_|apply rd_));exact HO_15.out⟩,⟨by repeat (first|(with_reducible first|exact HB.out|apply ba_|apply bn_|apply bd_)|exact HB.out)⟩⟩
     ·rw [if_neg c13] at H
      exact absurd H (by simp)
    ·rw [if_neg c12] at H
     exact absurd H (by simp)
   ·rw [if_neg c11] at H
    have c11b0 : decide (x17_1 < (t288.length : Int)) = false:=decide_eq_false c11
    clear c11
    have H':=mk_ H
    clear H
    go_wp2
    go_loopg [30] k1 (fun kq v30 w' => ∃ (x5_2 : List Int) (x30_2 : Int),v30 = .int .i64 x30_2 ∧ Aside0 (impl_costsOf.l1 kq l1 x5_2 a0 x30_2 = some r) ∧ Aside0 (kq ≤ k1) ∧ Aside0 (Kd.R (Kd.int .i64) 3 w' w.heap.size (fun _ => True) v286 x5_2) ∧ Aside0 (Below w.heap.size w w'))
    case atStart => exact ⟨(x5_1),(0),(by first|rfl|(simp;done)|(simp [*];done)),H',⟨Nat.le_refl _⟩,⟨by (with_reducible repeat (first|apply ra_|apply rn_|apply rd_));exact rm_ HO_5.out (fun _ hk => trivial)⟩,⟨by repeat (first|(with_reducible first|exact HB.out|apply ba_|apply bn_|apply bd_)|exact HB.out)⟩⟩
    case round =>
     clear H'
     try clear c1
     try clear p1
     try clear q1
     try clear hx1
     try clear p2
     try clear q2
     try clear hx2
     try clear c5
     try clear c6
     try clear p6
     try clear c8
     try clear c11
     try clear c11b0
     try clear c12
     try clear c12b0
     try clear c13
     try clear c13b0
     try clear c14
     try clear c14b0
     try clear c14b1
     try clear c15
     try clear c15b0
     try clear p16
     try clear q16
     try clear hx16
     try clear hf16
     try clear hx16_0
     try clear hx291_0
     try clear p16
     try clear p2
     try clear p291
     try clear q16
     try clear q291
     obtain ⟨x5_2,x30_2,rfl,HA,HK2,HO_5,HB⟩:=hrel
     cases gk with
     | zero => exact absurd HA.out (by simp [impl_costsOf.l1])
     | succ k2 =>
      have H:=HA.out
      clear HA
      simp only [impl_costsOf.l1] at H
      by_cases c19 : x30_2 < a0
      ·rw [if_pos c19] at H
       have c19b0 : decide (x30_2 < a0) = true:=decide_eq_true c19
       clear c19
       have H':=mk_ H
       clear H
       go_wp2
       go_loopg [34] k2 (fun kq v34 w' => ∃ (x5_3 : List Int) (x34_3 : Int),v34 = .int .i64 x34_3 ∧ Aside0 (impl_costsOf.l2 kq l1 x5_3 a0 x30_2 l1 (l1.length : Int) x34_3 = some r) ∧ Aside0 (kq ≤ k2) ∧ Aside0 (Kd.R (Kd.int .i64) 3 w' w.heap.size (fun _ => True) v286 x5_3) ∧ Aside0 (Below w.heap.size w w'))
       case atStart => exact ⟨(x5_2),(0),(by first|rfl|(simp;done)|(simp [*];done)),H',⟨Nat.le_refl _⟩,⟨by (with_reducible repeat (first|apply ra_|apply rn_|apply rd_));exact HO_5.out⟩,⟨by repeat (first|(with_reducible first|exact HB.out|apply ba_|apply bn_|apply bd_)|exact HB.out)⟩⟩
       case round =>
        clear H'
        try clear c1
        try clear p1
        try clear q1
        try clear hx1
        try clear p2
        try clear q2
        try clear hx2
        try clear c5
        try clear c6
        try clear p6
        try clear c8
        try clear c11
        try clear c11b0
        try clear c12
        try clear c12b0
        try clear c13
        try clear c13b0
        try clear c14
        try clear c14b0
        try clear c14b1
        try clear c15
        try clear c15b0
        try clear p16
        try clear q16
        try clear hx16
        try clear hf16
        try clear c19
        try clear c19b0
        try clear hx16_0
        try clear hx291_0
        try clear p1
        try clear p16
        try clear p2
        try clear p291
        try clear p6
        try clear q1
        try clear q16
        try clear q2
        try clear q291
        obtain ⟨x5_3,x34_3,rfl,HA,HK3,HO_5,HB⟩:=hrel
        cases gk with
        | zero => exact absurd HA.out (by simp [impl_costsOf.l2])
        | succ k3 =>
         have H:=HA.out
         clear HA
         simp only [impl_costsOf.l2] at H
         by_cases c20 : x34_3 < (l1.length : Int)
         ·rw [if_pos c20] at H
          have c20b0 : decide (x34_3 < (l1.length : Int)) = true:=decide_eq_true c20
          clear c20
          by_cases c21 : 0 ≤ x34_3
          ·rw [if_pos c21] at H
           have c21b0 : decide (0 ≤ x34_3) = true:=decide_eq_true c21
           clear c21
           by_cases c22 : x34_3 < (l1.length : Int)
           ·rw [if_pos c22] at H
            have c22b0 : decide (x34_3 < (l1.length : Int)) = true:=decide_eq_true c22
            clear c22
            by_cases c23 : 0 ≤ ((rd_T51 l1 x34_3).f0)
            ·rw [if_pos c23] at H
             have c23b0 : decide (0 ≤ ((rd_T51 l1 x34_3).f0)) = true:=decide_eq_true c23
             clear c23
             by_cases c24 : ((rd_T51 l1 x34_3).f0) < (x5_3.length : Int)
             ·rw [if_pos c24] at H
              have c24b0 : decide (((rd_T51 l1 x34_3).f0) < (x5_3.length : Int)) = true:=decide_eq_true c24
              clear c24
              by_cases c25 : 0 ≤ ((rd_T51 l1 x34_3).f1)
              ·rw [if_pos c25] at H
               have c25b0 : decide (0 ≤ ((rd_T51 l1 x34_3).f1)) = true:=decide_eq_true c25
               clear c25
               by_cases c26 : ((rd_T51 l1 x34_3).f1) < (x5_3.length : Int)
               ·rw [if_pos c26] at H
                have c26b0 : decide (((rd_T51 l1 x34_3).f1) < (x5_3.length : Int)) = true:=decide_eq_true c26
                clear c26
                obtain ⟨ji27,hji27⟩ : ∃ j_ : Int,(mn (rd x5_3 ((rd_T51 l1 x34_3).f0)) (wrap64 ((rd x5_3 ((rd_T51 l1 x34_3).f1)) + ((rd_T51 l1 x34_3).f2)))) = j_:=⟨_,rfl⟩
                replace H : ((some (x5_3.set (((rd_T51 l1 x34_3).f0) : Int).toNat (ji27) : List Int)).bind fun y297 => (impl_costsOf.l2 k3 l1 (y297.set (((rd_T51 l1 x34_3).f1) : Int).toNat (mn (rd y297 ((rd_T51 l1 x34_3).f1)) (wrap64 ((rd y297 ((rd_T51 l1 x34_3).f0)) + ((rd_T51 l1 x34_3).f2))))) a0 x30_2 l1 (l1.length : Int) (wrap64 (x34_3 + 1)))) = some r:=by first|(rw [hji27] at H;exact H)|(simp only [hji27] at H ⊢;exact H)
                have hji27_ : (if (wrap64 ((rd x5_3 ((rd_T51 l1 x34_3).f1)) + ((rd_T51 l1 x34_3).f2))) < (rd x5_3 ((rd_T51 l1 x34_3).f0)) then (wrap64 ((rd x5_3 ((rd_T51 l1 x34_3).f1)) + ((rd_T51 l1 x34_3).f2))) else (rd x5_3 ((rd_T51 l1 x34_3).f0))) = ji27:=hji27
                obtain ⟨y297,hy297⟩ : ∃ y_ : List Int,y_ = (x5_3.set (((rd_T51 l1 x34_3).f0) : Int).toNat (ji27)):=⟨_,rfl⟩
                replace H : (impl_costsOf.l2 k3 l1 (y297.set (((rd_T51 l1 x34_3).f1) : Int).toNat (mn (rd y297 ((rd_T51 l1 x34_3).f1)) (wrap64 ((rd y297 ((rd_T51 l1 x34_3).f0)) + ((rd_T51 l1 x34_3).f2))))) a0 x30_2 l1 (l1.length : Int) (wrap64 (x34_3 + 1))) = some r:=by first|(rw [hy297];with_reducible exact H)|(have H2_:=(Option.bind_some _ _).symm.trans H;rw [hy297];with_reducible exact H2_)|(have H2_:=(Option.bind_some _ _).symm.trans H;with_reducible exact H2_)|with_reducible exact H|(rw [hy297];exact H)|exact H
                have Ny297:=mk_ hy297
                clear hy297
                obtain ⟨ji29,hji29⟩ : ∃ j_ : Int,(mn (rd y297 ((rd_T51 l1 x34_3).f1)) (wrap64 ((rd y297 ((rd_T51 l1 x34_3).f0)) + ((rd_T51 l1 x34_3).f2)))) = j_:=⟨_,rfl⟩
                replace H : (impl_costsOf.l2 k3 l1 (y297.set (((rd_T51 l1 x34_3).f1) : Int).toNat (ji29)) a0 x30_2 l1 (l1.length : Int) (wrap64 (x34_3 + 1))) = some r:=by first|(rw [hji29] at H;exact H)|(simp only [hji29] at H ⊢;exact H)
                have hji29_ : (if (wrap64 ((rd y297 ((rd_T51 l1 x34_3).f0)) + ((rd_T51 l1 x34_3).f2))) < (rd y297 ((rd_T51 l1 x34_3).f1)) then (wrap64 ((rd y297 ((rd_T51 l1 x34_3).f0)) + ((rd_T51 l1 x34_3).f2))) else (rd y297 ((rd_T51 l1 x34_3).f1))) = ji29:=hji29
                obtain ⟨y300,hy300⟩ : ∃ y_ : List Int,y_ = (y297.set (((rd_T51 l1 x34_3).f1) : Int).toNat (ji29)):=⟨_,rfl⟩
                replace H : (impl_costsOf.l2 k3 l1 y300 a0 x30_2 l1 (l1.length : Int) (wrap64 (x34_3 + 1))) = some r:=by first|(rw [hy300];with_reducible exact H)|(have H2_:=(Option.bind_some _ _).symm.trans H;rw [hy300];with_reducible exact H2_)|(have H2_:=(Option.bind_some _ _).symm.trans H;with_reducible exact H2_)|with_reducible exact H|(rw [hy300];exact H)|exact H
                have Ny300:=mk_ hy300
                clear hy300
                have H':=mk_ H
                clear H
                have p293 : 0 ≤ (x34_3 : Int):=od_ qa_
                have q293 : x34_3 < (l1.length : Int):=od_ qa_
                obtain ⟨ad293,e293,hx293_0,hx293_1,hx293_2⟩:=at_T51 HR1.out x34_3 p293 q293
                cases e293
                replace hx293_0:=(HB.out.cell (wl_ w _ hx293_0)).trans hx293_0
                replace hx293_1:=(HB.out.cell (wl_ w _ hx293_1)).trans hx293_1
                replace hx293_2:=(HB.out.cell (wl_ w _ hx293_2)).trans hx293_2
                replace p293:=eq_true p293
                replace q293:=eq_true q293
                try go_wp2_with (first|((with_reducible refine gate_dst (N:=9) rfl ?_);refine box_event ?hg (N:=9) ?hd (cs:=#[.int .i64 0,.int .i64 0,.int .i64 0]) (t:=51) ?hr ?_;(case hd => rfl);(case hg => rfl);(case hr => first|(go_simp;done)|(go_simp;rfl));intro gb294 hg w31 hbox hb;have n0_:=mk_ (rb_ (qr_ HO_5) hb);have n1_:=mk_ (st_ (qb_ HB) hb);have n2_:=mk_ (hbox);have n3_:=mk_ ((by rw [hg];exact (bz_ (qb_ HB)) : w.heap.size ≤ gb294));have n4_:=mk_ ((by rw [hg];exact (bz_ (qb_ HB)) : w.heap.size ≤ gb294));clear HO_5;clear HB;have HO_5:=n0_;have HB:=n1_;have BK294:=n2_;have GW294:=n3_;have GE294:=n4_;clear n0_ n1_ n2_ n3_ n4_;clear hb hbox hg;have hcz32_0 : w31.cell? ⟨gb294,0,none⟩ = some (.int .i64 0):=(bc_ BK294.out 0).trans rfl;have hcz32_1 : w31.cell? ⟨gb294,1,none⟩ = some (.int .i64 0):=(bc_ BK294.out 1).trans rfl;have hcz32_2 : w31.cell? ⟨gb294,2,none⟩ = some (.int .i64 0):=(bc_ BK294.out 2).trans rfl;have hfz32_0:=bf_ BK294.out 0;have hfz32_1:=bf_ BK294.out 1;have hfz32_2:=bf_ BK294.out 2))
                have n0_ : Aside0 (Kd.R (Kd.int .i64) 3 (((w31.setCell ⟨gb294,0,none⟩ (.int .i64 ((rd_T51 l1 x34_3).f0))).setCell ⟨gb294,1,none⟩ (.int .i64 ((rd_T51 l1 x34_3).f1))).setCell ⟨gb294,2,none⟩ (.int .i64 ((rd_T51 l1 x34_3).f2))) w.heap.size (fun _ => True) v286 x5_3):=⟨by (with_reducible repeat (first|apply ra_|apply rn_|apply rd_));exact rm_ (rf_ (p:=⟨gb294,2,none⟩) (rf_ (p:=⟨gb294,1,none⟩) (rf_ (p:=⟨gb294,0,none⟩) (rt_ HO_5.out BK294.out (by decide)) (fun _ hk => hk.2) (.int .i64 ((rd_T51 l1 x34_3).f0))) (fun _ hk => hk.2) (.int .i64 ((rd_T51 l1 x34_3).f1))) (fun _ hk => hk.2) (.int .i64 ((rd_T51 l1 x34_3).f2))) (fun _ hk => trivial)⟩
                have n1_ : Aside0 ((((w31.setCell ⟨gb294,0,none⟩ (.int .i64 ((rd_T51 l1 x34_3).f0))).setCell ⟨gb294,1,none⟩ (.int .i64 ((rd_T51 l1 x34_3).f1))).setCell ⟨gb294,2,none⟩ (.int .i64 ((rd_T51 l1 x34_3).f2))).heap[gb294]? = some (.cells #[.int .i64 ((rd_T51 l1 x34_3).f0),.int .i64 ((rd_T51 l1 x34_3).f1),.int .i64 ((rd_T51 l1 x34_3).f2)] 51 (0,0))):=⟨by (with_reducible repeat (first|refine kn_ ?_ _|refine kd_ ?_|refine ka_ ?_ _));refine blk_put (cs:=#[.int .i64 ((rd_T51 l1 x34_3).f0),.int .i64 ((rd_T51 l1 x34_3).f1),.int .i64 0]) ?_ 2 _ rfl;(with_reducible repeat (first|refine kn_ ?_ _|refine kd_ ?_|refine ka_ ?_ _));refine blk_put (cs:=#[.int .i64 ((rd_T51 l1 x34_3).f0),.int .i64 0,.int .i64 0]) ?_ 1 _ rfl;(with_reducible repeat (first|refine kn_ ?_ _|refine kd_ ?_|refine ka_ ?_ _));refine blk_put (cs:=#[.int .i64 0,.int .i64 0,.int .i64 0]) ?_ 0 _ rfl;(with_reducible repeat (first|refine kn_ ?_ _|refine kd_ ?_|refine ka_ ?_ _));exact BK294.out⟩
                have n2_ : Aside0 (Below w.heap.size w (((w31.setCell ⟨gb294,0,none⟩ (.int .i64 ((rd_T51 l1 x34_3).f0))).setCell ⟨gb294,1,none⟩ (.int .i64 ((rd_T51 l1 x34_3).f1))).setCell ⟨gb294,2,none⟩ (.int .i64 ((rd_T51 l1 x34_3).f2)))):=⟨by repeat (first|(with_reducible first|exact HB.out|apply ba_|apply bn_|apply bd_|refine bs_ ?_ GE294.out)|exact HB.out)⟩
                (try clear HO_5)
                (try clear BK294)
                (try clear HB)
                generalize (((w31.setCell ⟨gb294,0,none⟩ (.int .i64 ((rd_T51 l1 x34_3).f0))).setCell ⟨gb294,1,none⟩ (.int .i64 ((rd_T51 l1 x34_3).f1))).setCell ⟨gb294,2,none⟩ (.int .i64 ((rd_T51 l1 x34_3).f2))) = w33 at n0_ n1_ n2_ ⊢
                have HO_5:=n0_
                have BK294:=n1_
                have HB:=n2_
                clear n0_ n1_ n2_
                have n0_:=mk_ (rd_ HO_5.out)
                have n1_:=mk_ (kd_ BK294.out)
                have n2_:=mk_ (bd_ HB.out)
                clear HO_5
                clear BK294
                clear HB
                have HO_5:=n0_
                have BK294:=n1_
                have HB:=n2_
                clear n0_ n1_ n2_
                obtain ⟨Ao35,co35,eo35⟩:=Kd.R_slice HO_5.out
                (first|subst eo35|(injection eo35 with f1_ f2_ f3_;have f4_:=f1_.symm;have f5_:=f3_.symm;clear f1_ f2_ f3_;subst f4_;subst f5_))
                have p295 : 0 ≤ (((rd_T51 l1 x34_3).f0) : Int):=od_ qa_
                have q295 : ((rd_T51 l1 x34_3).f0) < (x5_3.length : Int):=od_ qa_
                obtain ⟨ad295,e295,hx295_0⟩:=Kd.at_int (rr_ HO_5.out).2.2 ((rd_T51 l1 x34_3).f0) p295 q295
                cases e295
                replace p295:=eq_true p295
                replace q295:=eq_true q295
                have p296 : 0 ≤ (((rd_T51 l1 x34_3).f1) : Int):=od_ qa_
                have q296 : ((rd_T51 l1 x34_3).f1) < (x5_3.length : Int):=od_ qa_
                obtain ⟨ad296,e296,hx296_0⟩:=Kd.at_int (rr_ HO_5.out).2.2 ((rd_T51 l1 x34_3).f1) p296 q296
                obtain rfl : ad295 = ad296:=(by injection e296)
                replace p296:=eq_true p296
                replace q296:=eq_true q296
                have p28 : 0 ≤ (((rd_T51 l1 x34_3).f0) : Int):=od_ qa_
                have q28 : (((rd_T51 l1 x34_3).f0) : Int) < ((x5_3.length : Int) : Int):=od_ qa_
                obtain ⟨go28,co28,eo28,gb28,gl28,cl28,HG28⟩:=Kd.R_form HO_5.out (by omega)
                (first|cases eo28|(injection eo28 with ea_ en_ ec_;(first|subst ea_|(injection ea_ with ea_;subst ea_));subst ec_;clear en_))
                have GB28:=mk_ gb28
                have GG28:=mk_ HG28
                clear gb28 gl28 HG28
                (first|simp only [add_plain] at hx295_0|skip)
                (first|simp only [add_plain] at hx296_0|skip)
                obtain ⟨hx28_0,hf28_0⟩:=Kd.R_celln 0 HO_5.out (((rd_T51 l1 x34_3).f0) : Int) p28 q28
                replace p28:=eq_true p28
                replace q28:=eq_true q28
                have HP36:=Kd.R_putn HO_5.out (((rd_T51 l1 x34_3).f0) : Int) ji27
                rw [← Ny297.out] at HP36
                have HQ36:=mk_ HP36
                clear HP36
                refine start_ (n:=19) (S:=fun w' => w'.cell? ⟨gb294,0,none⟩ = some (.int .i64 ((rd_T51 l1 x34_3).f0)) ∧ w'.cell? ⟨gb294,1,none⟩ = some (.int .i64 ((rd_T51 l1 x34_3).f1)) ∧ w'.cell? ⟨gb294,2,none⟩ = some (.int .i64 ((rd_T51 l1 x34_3).f2)) ∧ w'.cell? ⟨go28,(((rd_T51 l1 x34_3).f0)).toNat,none⟩ = some (.int .i64 (rd x5_3 ((rd_T51 l1 x34_3).f0))) ∧ w'.cell? ⟨go28,(((rd_T51 l1 x34_3).f1)).toNat,none⟩ = some (.int .i64 (rd x5_3 ((rd_T51 l1 x34_3).f1)))) (ds:=[18]) #[false,false,false,false,false,false,false,false,false,false,false,false,false,false,false,false,false,false,false] (by kernel_rfl) rfl rfl ⟨(bc_ BK294.out 0).trans rfl,(bc_ BK294.out 1).trans rfl,(bc_ BK294.out 2).trans rfl,hx295_0,hx296_0⟩ (fun hHeld => ?_);refine with_tabW impl_costsOf.tab13 impl_costsOf.bits13 (fun HT_ HW_ => ?_)
                generalize w33.drew = w34 at HO_5 BK294 HB GG28 HQ36 hf28_0 hx28_0 hx295_0 hx296_0 hHeld ⊢
                refine pure_ (i:=0) (N:=some 38) (v:=?_) (a':=?_) #[true,false,false,false,false,false,false,false,false,false,false,false,false,false,false,false,false,false,false] rfl rfl (any_of HT_.out (by kernel_rfl)) (fun _ _ _ h => h) (Or.inl ⟨by rfl,?_⟩) ?_ ?_
                rotate_left
                ·intro w'
                 go_simp
                 with_reducible rfl
                rotate_left
                ·simp only [Act.put,sx_,sy_,sz_,i64_w,i32_w]
                 rfl
                refine pure_ (i:=1) (N:=some 39) (v:=?_) (a':=?_) #[true,true,false,false,false,false,false,false,false,false,false,false,false,false,false,false,false,false,false] rfl rfl (any_of HT_.out (by kernel_rfl)) (fun _ _ _ h => h) (Or.inl ⟨by rfl,?_⟩) ?_ ?_
                rotate_left
                ·intro w'
                 go_simp
                 with_reducible rfl
                rotate_left
                ·simp only [Act.put,sx_,sy_,sz_,i64_w,i32_w]
                 rfl
                refine pure_ (i:=3) (N:=some 41) (v:=?_) (a':=?_) #[true,true,false,true,false,false,false,false,false,false,false,false,false,false,false,false,false,false,false] rfl rfl (any_of HT_.out (by kernel_rfl)) (fun _ _ _ h => h) (Or.inl ⟨by rfl,?_⟩) ?_ ?_
                rotate_left
                ·intro w'
                 go_simp
                 with_reducible rfl
                rotate_left
                ·simp only [Act.put,sx_,sy_,sz_,i64_w,i32_w]
                 rfl
                refine pure_ (i:=4) (N:=some 42) (v:=?_) (a':=?_) #[true,true,false,true,true,false,false,false,false,false,false,false,false,false,false,false,false,false,false] rfl rfl (any_of HT_.out (by kernel_rfl)) (fun _ _ _ h => h) (Or.inl ⟨by rfl,?_⟩) ?_ ?_
                rotate_left
                ·intro w'
                 go_simp
                 with_reducible rfl
                rotate_left
                ·simp only [Act.put,sx_,sy_,sz_,i64_w,i32_w]
                 rfl
                refine pure_ (i:=8) (N:=some 46) (v:=?_) (a':=?_) #[true,true,false,true,true,false,false,false,true,false,false,false,false,false,false,false,false,false,false] rfl rfl (any_of HT_.out (by kernel_rfl)) (fun _ _ _ h => h) (Or.inl ⟨by rfl,?_⟩) ?_ ?_
                rotate_left
                ·intro w'
                 go_simp
                 with_reducible rfl
                rotate_left
                ·simp only [Act.put,sx_,sy_,sz_,i64_w,i32_w]
                 rfl
                refine pure_ (i:=9) (N:=some 47) (v:=?_) (a':=?_) #[true,true,false,true,true,false,false,false,true,true,false,false,false,false,false,false,false,false,false] rfl rfl (any_of HT_.out (by kernel_rfl)) (fun _ _ _ h => h) (Or.inl ⟨by rfl,?_⟩) ?_ ?_
                rotate_left
                ·intro w'
                 go_simp
                 with_reducible rfl
                rotate_left
                ·simp only [Act.put,sx_,sy_,sz_,i64_w,i32_w]
                 rfl
                refine pure_ (i:=13) (N:=some 51) (v:=?_) (a':=?_) #[true,true,false,true,true,false,false,false,true,true,false,false,false,true,false,false,false,false,false] rfl rfl (any_of HT_.out (by kernel_rfl)) (fun _ _ _ h => h) (Or.inl ⟨by rfl,?_⟩) ?_ ?_
                rotate_left
                ·intro w'
                 go_simp
                 with_reducible rfl
                rotate_left
                ·simp only [Act.put,sx_,sy_,sz_,i64_w,i32_w]
                 rfl
                refine take_ (i:=2) (N:=some 40) (v:=?_) (a':=?_) #[true,true,true,true,true,false,false,false,true,true,false,false,false,true,false,false,false,false,false] rfl rfl (take_ofW HT_.out HW_.out (by kernel_rfl)) (fun _ _ _ h => h) (Or.inl ⟨by rfl,?_⟩) hHeld ?_ ?_
                rotate_left
                ·rintro w' ⟨s0,s1,s2,s3,s4⟩
                 go_simp
                 with_reducible rfl
                rotate_left
                ·simp only [Act.put,sx_,sy_,sz_,i64_w,i32_w]
                 rfl
                refine take_ (i:=5) (N:=some 43) (v:=?_) (a':=?_) #[true,true,true,true,true,true,false,false,true,true,false,false,false,true,false,false,false,false,false] rfl rfl (take_ofW HT_.out HW_.out (by kernel_rfl)) (fun _ _ _ h => h) (Or.inl ⟨by rfl,?_⟩) hHeld ?_ ?_
                rotate_left
                ·rintro w' ⟨s0,s1,s2,s3,s4⟩
                 go_simp
                 with_reducible rfl
                rotate_left
                ·simp only [Act.put,sx_,sy_,sz_,i64_w,i32_w]
                 rfl
                refine pure_ (i:=6) (N:=some 44) (v:=?_) (a':=?_) #[true,true,true,true,true,true,true,false,true,true,false,false,false,true,false,false,false,false,false] rfl rfl (any_of HT_.out (by kernel_rfl)) (fun _ _ _ h => h) (Or.inl ⟨by rfl,?_⟩) ?_ ?_
                rotate_left
                ·intro w'
                 go_simp
                 with_reducible rfl
                rotate_left
                ·simp only [Act.put,sx_,sy_,sz_,i64_w,i32_w]
                 rfl
                refine take_ (i:=7) (N:=some 45) (v:=?_) (a':=?_) #[true,true,true,true,true,true,true,true,true,true,false,false,false,true,false,false,false,false,false] rfl rfl (take_ofW HT_.out HW_.out (by kernel_rfl)) (fun _ _ _ h => h) (Or.inl ⟨by rfl,?_⟩) hHeld ?_ ?_
                rotate_left
                ·rintro w' ⟨s0,s1,s2,s3,s4⟩
                 go_simp
                 with_reducible rfl
                rotate_left
                ·simp only [Act.put,sx_,sy_,sz_,i64_w,i32_w]
                 rfl
                refine take_ (i:=10) (N:=some 48) (v:=?_) (a':=?_) #[true,true,true,true,true,true,true,true,true,true,true,false,false,true,false,false,false,false,false] rfl rfl (take_ofW HT_.out HW_.out (by kernel_rfl)) (fun _ _ _ h => h) (Or.inl ⟨by rfl,?_⟩) hHeld ?_ ?_
                rotate_left
                ·rintro w' ⟨s0,s1,s2,s3,s4⟩
                 go_simp
                 with_reducible rfl
                rotate_left
                ·simp only [Act.put,sx_,sy_,sz_,i64_w,i32_w]
                 rfl
                refine pure_ (i:=11) (N:=some 49) (v:=?_) (a':=?_) #[true,true,true,true,true,true,true,true,true,true,true,true,false,true,false,false,false,false,false] rfl rfl (any_of HT_.out (by kernel_rfl)) (fun _ _ _ h => h) (Or.inl ⟨by rfl,?_⟩) ?_ ?_
                rotate_left
                ·intro w'
                 go_simp
                 with_reducible rfl
                rotate_left
                ·simp only [Act.put,sx_,sy_,sz_,i64_w,i32_w]
                 rfl
                refine take_ (i:=12) (N:=some 50) (v:=?_) (a':=?_) #[true,true,true,true,true,true,true,true,true,true,true,true,true,true,false,false,false,false,false] rfl rfl (take_ofW HT_.out HW_.out (by kernel_rfl)) (fun _ _ _ h => h) (Or.inl ⟨by rfl,?_⟩) hHeld ?_ ?_
                rotate_left
                ·rintro w' ⟨s0,s1,s2,s3,s4⟩
                 go_simp
                 with_reducible rfl
                rotate_left
                ·simp only [Act.put,sx_,sy_,sz_,i64_w,i32_w]
                 rfl
                refine take_ (i:=14) (N:=some 52) (v:=?_) (a':=?_) #[true,true,true,true,true,true,true,true,true,true,true,true,true,true,true,false,false,false,false] rfl rfl (take_ofW HT_.out HW_.out (by kernel_rfl)) (fun _ _ _ h => h) (Or.inl ⟨by rfl,?_⟩) hHeld ?_ ?_
                rotate_left
                ·rintro w' ⟨s0,s1,s2,s3,s4⟩
                 go_simp
                 with_reducible rfl
                rotate_left
                ·simp only [Act.put,sx_,sy_,sz_,i64_w,i32_w]
                 rfl
                refine pure_ (i:=15) (N:=some 53) (v:=?_) (a':=?_) #[true,true,true,true,true,true,true,true,true,true,true,true,true,true,true,true,false,false,false] rfl rfl (any_of HT_.out (by kernel_rfl)) (fun _ _ _ h => h) (Or.inl ⟨by rfl,?_⟩) ?_ ?_
                rotate_left
                ·intro w'
                 go_simp
                 with_reducible rfl
                rotate_left
                ·simp only [Act.put,sx_,sy_,sz_,i64_w,i32_w]
                 rfl
                refine pure_ (i:=16) (N:=some 54) (v:=?_) (a':=?_) #[true,true,true,true,true,true,true,true,true,true,true,true,true,true,true,true,true,false,false] rfl rfl (any_of HT_.out (by kernel_rfl)) (fun _ _ _ h => h) (Or.inl ⟨by rfl,?_⟩) ?_ ?_
                rotate_left
                ·intro w'
                 go_simp
                 with_reducible rfl
                rotate_left
                ·simp only [Act.put,sx_,sy_,sz_,i64_w,i32_w]
                 rfl
                refine pure_ (i:=17) (N:=some 55) (v:=?_) (a':=?_) #[true,true,true,true,true,true,true,true,true,true,true,true,true,true,true,true,true,true,false] rfl rfl (any_of HT_.out (by kernel_rfl)) (fun _ _ _ h => h) (Or.inl ⟨by rfl,?_⟩) ?_ ?_
                rotate_left
                ·intro w'
                 go_simp
                 with_reducible rfl
                rotate_left
                ·simp only [Act.put,sx_,sy_,sz_,i64_w,i32_w]
                 rfl
                refine last_ (i:=18) (N:=none) #[true,true,true,true,true,true,true,true,true,true,true,true,true,true,true,true,true,true,true] rfl rfl (one_of HT_.out (by kernel_rfl)) (by decide) (fun K hK => ?_)
                refine skip_ (w1:=?_) (by rfl) rfl ?_ ?_
                rotate_left
                ·go_simp
                 rfl
                refine hK.out _ _ ?_
                clear hK K
                refine done_ (done_of HT_.out (by kernel_rfl)) ?_
                try go_wp2
                have n0_ : Aside0 (Kd.R (Kd.int .i64) 3 (w34.setCell ⟨go28,(((rd_T51 l1 x34_3).f0) : Int).toNat,none⟩ (.int .i64 ji27)) w.heap.size (fun _ => True) (.slice (some ⟨go28,0,none⟩) x5_3.length co35) y297):=⟨by (with_reducible repeat (first|apply ra_|apply rn_|apply rd_));exact HQ36.out⟩
                have n1_ : Aside0 ((w34.setCell ⟨go28,(((rd_T51 l1 x34_3).f0) : Int).toNat,none⟩ (.int .i64 ji27)).heap[gb294]? = some (.cells #[.int .i64 ((rd_T51 l1 x34_3).f0),.int .i64 ((rd_T51 l1 x34_3).f1),.int .i64 ((rd_T51 l1 x34_3).f2)] 51 (0,0))):=⟨by (with_reducible repeat (first|refine kn_ ?_ _|refine kd_ ?_|refine ka_ ?_ _));refine blk_far ?_ (by have h_:=Kd.R_ne HO_5.out BK294.out (by decide);intro e_;exact h_ (by rw [e_];rfl)) _;(with_reducible repeat (first|refine kn_ ?_ _|refine kd_ ?_|refine ka_ ?_ _));exact BK294.out⟩
                have n2_ : Aside0 (Below w.heap.size w (w34.setCell ⟨go28,(((rd_T51 l1 x34_3).f0) : Int).toNat,none⟩ (.int .i64 ji27))):=⟨by repeat (first|(with_reducible first|exact HB.out|apply ba_|apply bn_|apply bd_|refine bs_ ?_ GB28.out|refine bs_ ?_ GE294.out)|exact HB.out)⟩
                (try clear HO_5)
                (try clear BK294)
                (try clear HB)
                generalize (w34.setCell ⟨go28,(((rd_T51 l1 x34_3).f0) : Int).toNat,none⟩ (.int .i64 ji27)) = w37 at n0_ n1_ n2_ ⊢
                have HO_5:=n0_
                have BK294:=n1_
                have HB:=n2_
                clear n0_ n1_ n2_
                have n0_:=mk_ (rd_ HO_5.out)
                have n1_:=mk_ (kd_ BK294.out)
                have n2_:=mk_ (bd_ HB.out)
                clear HO_5
                clear BK294
                clear HB
                have HO_5:=n0_
                have BK294:=n1_
                have HB:=n2_
                clear n0_ n1_ n2_
                have p298 : 0 ≤ (((rd_T51 l1 x34_3).f1) : Int):=od_ qa_
                have q298 : ((rd_T51 l1 x34_3).f1) < (y297.length : Int):=(by have h_ : (((rd_T51 l1 x34_3).f1) : Int) < ((x5_3.length : Int) : Int):=od_ qa_;first|(have e_:=(rr_ HO_5.out).1;omega)|simpa only [Ny297.out,List.length_set] using h_)
                have ql298 : ((((rd_T51 l1 x34_3).f1) : Int) < ((x5_3.length : Int) : Int)) = True:=eq_true (od_ qa_)
                obtain ⟨ad298,e298,hx298_0⟩:=Kd.at_int (rr_ HO_5.out).2.2 ((rd_T51 l1 x34_3).f1) p298 q298
                obtain rfl : (⟨go28,0,none⟩ : Addr) = ad298:=(by injection e298)
                (first|simp only [add_plain] at hx298_0|simp only [add_at] at hx298_0|simp only [Addr.add,Nat.zero_add] at hx298_0|skip)
                replace p298:=eq_true p298
                replace q298:=eq_true q298
                have p299 : 0 ≤ (((rd_T51 l1 x34_3).f0) : Int):=od_ qa_
                have q299 : ((rd_T51 l1 x34_3).f0) < (y297.length : Int):=(by have h_ : (((rd_T51 l1 x34_3).f0) : Int) < ((x5_3.length : Int) : Int):=od_ qa_;first|(have e_:=(rr_ HO_5.out).1;omega)|simpa only [Ny297.out,List.length_set] using h_)
                have ql299 : ((((rd_T51 l1 x34_3).f0) : Int) < ((x5_3.length : Int) : Int)) = True:=eq_true (od_ qa_)
                obtain ⟨ad299,e299,hx299_0⟩:=Kd.at_int (rr_ HO_5.out).2.2 ((rd_T51 l1 x34_3).f0) p299 q299
                obtain rfl : (⟨go28,0,none⟩ : Addr) = ad299:=(by injection e299)
                (first|simp only [add_plain] at hx299_0|simp only [add_at] at hx299_0|simp only [Addr.add,Nat.zero_add] at hx299_0|skip)
                replace p299:=eq_true p299
                replace q299:=eq_true q299
                have p30 : 0 ≤ (((rd_T51 l1 x34_3).f1) : Int):=od_ qa_
                have q30 : (((rd_T51 l1 x34_3).f1) : Int) < ((x5_3.length : Int) : Int):=od_ qa_
                obtain ⟨hx30_0,hf30_0⟩:=Kd.R_celln 0 HO_5.out (((rd_T51 l1 x34_3).f1) : Int) p30 q30
                replace p30:=eq_true p30
                replace q30:=eq_true q30
                have HP39:=Kd.R_putn HO_5.out (((rd_T51 l1 x34_3).f1) : Int) ji29
                rw [← Ny300.out] at HP39
                have HQ39:=mk_ HP39
                clear HP39
                refine start_ (n:=19) (S:=fun w' => w'.cell? ⟨gb294,0,none⟩ = some (.int .i64 ((rd_T51 l1 x34_3).f0)) ∧ w'.cell? ⟨gb294,1,none⟩ = some (.int .i64 ((rd_T51 l1 x34_3).f1)) ∧ w'.cell? ⟨gb294,2,none⟩ = some (.int .i64 ((rd_T51 l1 x34_3).f2)) ∧ w'.cell? ⟨go28,(((rd_T51 l1 x34_3).f1)).toNat,none⟩ = some (.int .i64 (rd y297 ((rd_T51 l1 x34_3).f1))) ∧ w'.cell? ⟨go28,(((rd_T51 l1 x34_3).f0)).toNat,none⟩ = some (.int .i64 (rd y297 ((rd_T51 l1 x34_3).f0)))) (ds:=[18]) #[false,false,false,false,false,false,false,false,false,false,false,false,false,false,false,false,false,false,false] (by kernel_rfl) rfl rfl ⟨(bc_ BK294.out 0).trans rfl,(bc_ BK294.out 1).trans rfl,(bc_ BK294.out 2).trans rfl,hx298_0,hx299_0⟩ (fun hHeld => ?_);refine with_tabW impl_costsOf.tab14 impl_costsOf.bits14 (fun HT_ HW_ => ?_)
                generalize w37.drew = w38 at HO_5 BK294 HB HQ36 HQ39 hf30_0 hx298_0 hx299_0 hx30_0 hHeld ⊢
                refine pure_ (i:=0) (N:=some 56) (v:=?_) (a':=?_) #[true,false,false,false,false,false,false,false,false,false,false,false,false,false,false,false,false,false,false] rfl rfl (any_of HT_.out (by kernel_rfl)) (fun _ _ _ h => h) (Or.inl ⟨by rfl,?_⟩) ?_ ?_
                rotate_left
                ·intro w'
                 go_simp
                 with_reducible rfl
                rotate_left
                ·simp only [Act.put,sx_,sy_,sz_,i64_w,i32_w]
                 rfl
                refine pure_ (i:=1) (N:=some 57) (v:=?_) (a':=?_) #[true,true,false,false,false,false,false,false,false,false,false,false,false,false,false,false,false,false,false] rfl rfl (any_of HT_.out (by kernel_rfl)) (fun _ _ _ h => h) (Or.inl ⟨by rfl,?_⟩) ?_ ?_
                rotate_left
                ·intro w'
                 go_simp
                 with_reducible rfl
                rotate_left
                ·simp only [Act.put,sx_,sy_,sz_,i64_w,i32_w]
                 rfl
                refine pure_ (i:=3) (N:=some 59) (v:=?_) (a':=?_) #[true,true,false,true,false,false,false,false,false,false,false,false,false,false,false,false,false,false,false] rfl rfl (any_of HT_.out (by kernel_rfl)) (fun _ _ _ h => h) (Or.inl ⟨by rfl,?_⟩) ?_ ?_
                rotate_left
                ·intro w'
                 go_simp
                 with_reducible rfl
                rotate_left
                ·simp only [Act.put,sx_,sy_,sz_,i64_w,i32_w]
                 rfl
                refine pure_ (i:=4) (N:=some 60) (v:=?_) (a':=?_) #[true,true,false,true,true,false,false,false,false,false,false,false,false,false,false,false,false,false,false] rfl rfl (any_of HT_.out (by kernel_rfl)) (fun _ _ _ h => h) (Or.inl ⟨by rfl,?_⟩) ?_ ?_
                rotate_left
                ·intro w'
                 go_simp
                 with_reducible rfl
                rotate_left
                ·simp only [Act.put,sx_,sy_,sz_,i64_w,i32_w]
                 rfl
                refine pure_ (i:=8) (N:=some 64) (v:=?_) (a':=?_) #[true,true,false,true,true,false,false,false,true,false,false,false,false,false,false,false,false,false,false] rfl rfl (any_of HT_.out (by kernel_rfl)) (fun _ _ _ h => h) (Or.inl ⟨by rfl,?_⟩) ?_ ?_
                rotate_left
                ·intro w'
                 go_simp
                 with_reducible rfl
                rotate_left
                ·simp only [Act.put,sx_,sy_,sz_,i64_w,i32_w]
                 rfl
                refine pure_ (i:=9) (N:=some 65) (v:=?_) (a':=?_) #[true,true,false,true,true,false,false,false,true,true,false,false,false,false,false,false,false,false,false] rfl rfl (any_of HT_.out (by kernel_rfl)) (fun _ _ _ h => h) (Or.inl ⟨by rfl,?_⟩) ?_ ?_
                rotate_left
                ·intro w'
                 go_simp
                 with_reducible rfl
                rotate_left
                ·simp only [Act.put,sx_,sy_,sz_,i64_w,i32_w]
                 rfl
                refine pure_ (i:=13) (N:=some 69) (v:=?_) (a':=?_) #[true,true,false,true,true,false,false,false,true,true,false,false,false,true,false,false,false,false,false] rfl rfl (any_of HT_.out (by kernel_rfl)) (fun _ _ _ h => h) (Or.inl ⟨by rfl,?_⟩) ?_ ?_
                rotate_left
                ·intro w'
                 go_simp
                 with_reducible rfl
                rotate_left
                ·simp only [Act.put,sx_,sy_,sz_,i64_w,i32_w]
                 rfl
                refine take_ (i:=2) (N:=some 58) (v:=?_) (a':=?_) #[true,true,true,true,true,false,false,false,true,true,false,false,false,true,false,false,false,false,false] rfl rfl (take_ofW HT_.out HW_.out (by kernel_rfl)) (fun _ _ _ h => h) (Or.inl ⟨by rfl,?_⟩) hHeld ?_ ?_
                rotate_left
                ·rintro w' ⟨s0,s1,s2,s3,s4⟩
                 go_simp
                 with_reducible rfl
                rotate_left
                ·simp only [Act.put,sx_,sy_,sz_,i64_w,i32_w]
                 rfl
                refine take_ (i:=5) (N:=some 61) (v:=?_) (a':=?_) #[true,true,true,true,true,true,false,false,true,true,false,false,false,true,false,false,false,false,false] rfl rfl (take_ofW HT_.out HW_.out (by kernel_rfl)) (fun _ _ _ h => h) (Or.inl ⟨by rfl,?_⟩) hHeld ?_ ?_
                rotate_left
                ·rintro w' ⟨s0,s1,s2,s3,s4⟩
                 go_simp
                 with_reducible rfl
                rotate_left
                ·simp only [Act.put,sx_,sy_,sz_,i64_w,i32_w]
                 rfl
                refine pure_ (i:=6) (N:=some 62) (v:=?_) (a':=?_) #[true,true,true,true,true,true,true,false,true,true,false,false,false,true,false,false,false,false,false] rfl rfl (any_of HT_.out (by kernel_rfl)) (fun _ _ _ h => h) (Or.inl ⟨by rfl,?_⟩) ?_ ?_
                rotate_left
                ·intro w'
                 go_simp
                 with_reducible rfl
                rotate_left
                ·simp only [Act.put,sx_,sy_,sz_,i64_w,i32_w]
                 rfl
                refine take_ (i:=7) (N:=some 63) (v:=?_) (a':=?_) #[true,true,true,true,true,true,true,true,true,true,false,false,false,true,false,false,false,false,false] rfl rfl (take_ofW HT_.out HW_.out (by kernel_rfl)) (fun _ _ _ h => h) (Or.inl ⟨by rfl,?_⟩) hHeld ?_ ?_
                rotate_left
                ·rintro w' ⟨s0,s1,s2,s3,s4⟩
                 go_simp
                 with_reducible rfl
                rotate_left
                ·simp only [Act.put,sx_,sy_,sz_,i64_w,i32_w]
                 rfl
                refine take_ (i:=10) (N:=some 66) (v:=?_) (a':=?_) #[true,true,true,true,true,true,true,true,true,true,true,false,false,true,false,false,false,false,false] rfl rfl (take_ofW HT_.out HW_.out (by kernel_rfl)) (fun _ _ _ h => h) (Or.inl ⟨by rfl,?_⟩) hHeld ?_ ?_
                rotate_left
                ·rintro w' ⟨s0,s1,s2,s3,s4⟩
                 go_simp
                 with_reducible rfl
                rotate_left
                ·simp only [Act.put,sx_,sy_,sz_,i64_w,i32_w]
                 rfl
                refine pure_ (i:=11) (N:=some 67) (v:=?_) (a':=?_) #[true,true,true,true,true,true,true,true,true,true,true,true,false,true,false,false,false,false,false] rfl rfl (any_of HT_.out (by kernel_rfl)) (fun _ _ _ h => h) (Or.inl ⟨by rfl,?_⟩) ?_ ?_
                rotate_left
                ·intro w'
                 go_simp
                 with_reducible rfl
                rotate_left
                ·simp only [Act.put,sx_,sy_,sz_,i64_w,i32_w]
                 rfl
                refine take_ (i:=12) (N:=some 68) (v:=?_) (a':=?_) #[true,true,true,true,true,true,true,true,true,true,true,true,true,true,false,false,false,false,false] rfl rfl (take_ofW HT_.out HW_.out (by kernel_rfl)) (fun _ _ _ h => h) (Or.inl ⟨by rfl,?_⟩) hHeld ?_ ?_
                rotate_left
                ·rintro w' ⟨s0,s1,s2,s3,s4⟩
                 go_simp
                 with_reducible rfl
                rotate_left
                ·simp only [Act.put,sx_,sy_,sz_,i64_w,i32_w]
                 rfl
                refine take_ (i:=14) (N:=some 70) (v:=?_) (a':=?_) #[true,true,true,true,true,true,true,true,true,true,true,true,true,true,true,false,false,false,false] rfl rfl (take_ofW HT_.out HW_.out (by kernel_rfl)) (fun _ _ _ h => h) (Or.inl ⟨by rfl,?_⟩) hHeld ?_ ?_
                rotate_left
                ·rintro w' ⟨s0,s1,s2,s3,s4⟩
                 go_simp
                 with_reducible rfl
                rotate_left
                ·simp only [Act.put,sx_,sy_,sz_,i64_w,i32_w]
                 rfl
                refine pure_ (i:=15) (N:=some 71) (v:=?_) (a':=?_) #[true,true,true,true,true,true,true,true,true,true,true,true,true,true,true,true,false,false,false] rfl rfl (any_of HT_.out (by kernel_rfl)) (fun _ _ _ h => h) (Or.inl ⟨by rfl,?_⟩) ?_ ?_
                rotate_left
                ·intro w'
                 go_simp
                 with_reducible rfl
                rotate_left
                ·simp only [Act.put,sx_,sy_,sz_,i64_w,i32_w]
                 rfl
                refine pure_ (i:=16) (N:=some 72) (v:=?_) (a':=?_) #[true,true,true,true,true,true,true,true,true,true,true,true,true,true,true,true,true,false,false] rfl rfl (any_of HT_.out (by kernel_rfl)) (fun _ _ _ h => h) (Or.inl ⟨by rfl,?_⟩) ?_ ?_
                rotate_left
                ·intro w'
                 go_simp
                 with_reducible rfl
                rotate_left
                ·simp only [Act.put,sx_,sy_,sz_,i64_w,i32_w]
                 rfl
                refine pure_ (i:=17) (N:=some 73) (v:=?_) (a':=?_) #[true,true,true,true,true,true,true,true,true,true,true,true,true,true,true,true,true,true,false] rfl rfl (any_of HT_.out (by kernel_rfl)) (fun _ _ _ h => h) (Or.inl ⟨by rfl,?_⟩) ?_ ?_
                rotate_left
                ·intro w'
                 go_simp
                 with_reducible rfl
                rotate_left
                ·simp only [Act.put,sx_,sy_,sz_,i64_w,i32_w]
                 rfl
                refine last_ (i:=18) (N:=none) #[true,true,true,true,true,true,true,true,true,true,true,true,true,true,true,true,true,true,true] rfl rfl (one_of HT_.out (by kernel_rfl)) (by decide) (fun K hK => ?_)
                refine skip_ (w1:=?_) (by rfl) rfl ?_ ?_
                rotate_left
                ·go_simp
                 rfl
                refine hK.out _ _ ?_
                clear hK K
                refine done_ (done_of HT_.out (by kernel_rfl)) ?_
                try go_wp2
                go_roundg k3
                case measure => have:=HK1.out;have:=HK2.out;have:=HK3.out;omega
                case rel => exact ⟨(y300),(wrap64 (x34_3 + 1)),(by first|rfl|(simp;done)|(simp [*];done)),H',⟨by have:=HK1.out;have:=HK2.out;have:=HK3.out;omega⟩,⟨by (with_reducible repeat (first|apply ra_|apply rn_|apply rd_));exact HQ39.out⟩,⟨by repeat (first|(with_reducible first|exact HB.out|apply ba_|apply bn_|apply bd_|refine bs_ ?_ GB28.out|refine bs_ ?_ GE294.out)|exact HB.out)⟩⟩
               ·rw [if_neg c26] at H
                exact absurd H (by simp)
              ·rw [if_neg c25] at H
               exact absurd H (by simp)
             ·rw [if_neg c24] at H
              exact absurd H (by simp)
            ·rw [if_neg c23] at H
             exact absurd H (by simp)
           ·rw [if_neg c22] at H
            exact absurd H (by simp)
          ·rw [if_neg c21] at H
           exact absurd H (by simp)
         ·rw [if_neg c20] at H
          have c20b0 : decide (x34_3 < (l1.length : Int)) = false:=decide_eq_false c20
          clear c20
          have H':=mk_ H
          clear H
          go_wp2
          go_roundg k3
          case measure => have:=HK1.out;have:=HK2.out;have:=HK3.out;omega
          case rel => exact ⟨(x5_3),(wrap64 (x30_2 + 1)),(by first|rfl|(simp;done)|(simp [*];done)),H',⟨by have:=HK1.out;have:=HK2.out;have:=HK3.out;omega⟩,⟨by (with_reducible repeat (first|apply ra_|apply rn_|apply rd_));exact HO_5.out⟩,⟨by repeat (first|(with_reducible first|exact HB.out|apply ba_|apply bn_|apply bd_)|exact HB.out)⟩⟩
      ·rw [if_neg c19] at H
       have c19b0 : decide (x30_2 < a0) = false:=decide_eq_false c19
       clear c19
       obtain rfl:=Option.some.inj H
       go_wp2
       go_ret
       exact ⟨_,by first|rfl|(simp [errW_none,errW_some] <;> rfl)|(simp [*,errW_none,errW_some] <;> rfl),by (with_reducible repeat (first|apply ra_|apply rn_|apply rd_));exact HO_5.out,by repeat (first|(with_reducible first|exact HB.out|apply ba_|apply bn_|apply bd_)|exact HB.out)⟩

/-! ### impl_Cable_other: function 82 -/
def impl_Cable_other.f (a0_0 : Int) (a0_1 : Int) (a0_2 : Int) (a1 : Int) : Option (Int × Bool):=if a1 = a0_0 then (some (a0_1,true)) else (if a1 = a0_1 then (some (a0_0,true)) else (some (0,false)))
set_option maxHeartbeats 8000000 in
set_option maxRecDepth 100000 in
theorem impl_Cable_other.calls (a0_0 : Int) (a0_1 : Int) (a0_2 : Int) (a1 : Int) (r1 : Int) (r2 : Bool) (w : World) (h : impl_Cable_other.f a0_0 a0_1 a0_2 a1 = some (r1,r2)) :
  Calls Try.prog 82 #[.agg #[.int .i64 a0_0,.int .i64 a0_1,.int .i64 a0_2],.int .i64 a1] w fun e w' => e = .returned (.tuple #[.int .i64 r1,.bool r2]) ∧ Below w.heap.size w w':=by
 have hu51:=Try.underlying51
 have HB:=mk_ (Below.refl w.heap.size w)
 have H : (if a1 = a0_0 then (some (a0_1,true)) else (if a1 = a0_1 then (some (a0_0,true)) else (some (0,false)))) = some (r1,r2):=h
 clear h
 by_cases c3 : a1 = a0_0
 ·rw [if_pos c3] at H
  have c3b0 : (a1 == a0_0) = true:=beq_iff_eq.mpr c3
  have c3b1 : (a1 != a0_0) = false:=bne_eq_false_iff_eq.mpr c3
  clear c3
  simp only [Option.some.injEq,Prod.mk.injEq] at H
  obtain ⟨rfl,rfl⟩:=H
  go_enter Try.func82,Try.ntmps82
  go_wp2_with (first|((with_reducible refine gate_dst (N:=2) rfl ?_);refine box_event ?hg (N:=2) ?hd (cs:=#[.int .i64 a0_0,.int .i64 a0_1,.int .i64 a0_2]) (t:=51) ?hr ?_;(case hd => rfl);(case hg => rfl);(case hr => first|(go_simp;done)|(go_simp;rfl));intro gb301 hg w4 hbox hb;have n0_:=mk_ (st_ (qb_ HB) hb);have n1_:=mk_ (hbox);have n2_:=mk_ ((by rw [hg];exact (bz_ (qb_ HB)) : w.heap.size ≤ gb301));have n3_:=mk_ ((by rw [hg];exact (bz_ (qb_ HB)) : w.heap.size ≤ gb301));clear HB;have HB:=n0_;have BK301:=n1_;have GW301:=n2_;have GE301:=n3_;clear n0_ n1_ n2_ n3_;clear hb hbox hg;have hcz5_0 : w4.cell? ⟨gb301,0,none⟩ = some (.int .i64 a0_0):=(bc_ BK301.out 0).trans rfl;have hcz5_1 : w4.cell? ⟨gb301,1,none⟩ = some (.int .i64 a0_1):=(bc_ BK301.out 1).trans rfl;have hcz5_2 : w4.cell? ⟨gb301,2,none⟩ = some (.int .i64 a0_2):=(bc_ BK301.out 2).trans rfl;have hfz5_0:=bf_ BK301.out 0;have hfz5_1:=bf_ BK301.out 1;have hfz5_2:=bf_ BK301.out 2))
  go_ret2
  exact ⟨by first|rfl|(simp [errW_none,errW_some] <;> rfl)|(simp [*,errW_none,errW_some] <;> rfl),by repeat (first|(with_reducible first|exact HB.out|apply ba_|apply bn_|apply bd_|refine bs_ ?_ GE301.out)|exact HB.out)⟩
 ·rw [if_neg c3] at H
  have c3b0 : (a1 == a0_0) = false:=beq_eq_false_iff_ne.mpr c3
  have c3b1 : (a1 != a0_0) = true:=bne_iff_ne.mpr c3
  by_cases c6 : a1 = a0_1
  ·rw [if_pos c6] at H
   have c6b0 : (a1 == a0_1) = true:=beq_iff_eq.mpr c6
   have c6b1 : (a1 != a0_1) = false:=bne_eq_false_iff_eq.mpr c6
   clear c6
   simp only [Option.some.injEq,Prod.mk.injEq] at H
   obtain ⟨rfl,rfl⟩:=H
   go_enter Try.func82,Try.ntmps82
   go_wp2_with (first|((with_reducible refine gate_dst (N:=2) rfl ?_);refine box_event ?hg (N:=2) ?hd (cs:=#[.int .i64 a0_0,.int .i64 a0_1,.int .i64 a0_2]) (t:=51) ?hr ?_;(case hd => rfl);(case hg => rfl);(case hr => first|(go_simp;done)|(go_simp;rfl));intro gb301 hg w7 hbox hb;have n0_:=mk_ (st_ (qb_ HB) hb);have n1_:=mk_ (hbox);have n2_:=mk_ ((by rw [hg];exact (bz_ (qb_ HB)) : w.heap.size ≤ gb301));have n3_:=mk_ ((by rw [hg];exact (bz_ (qb_ HB)) : w.heap.size ≤ gb301));clear HB;have HB:=n0_;have BK301:=n1_;have GW301:=n2_;have GE301:=n3_;clear n0_ n1_ n2_ n3_;clear hb hbox hg;have hcz8_0 : w7.cell? ⟨gb301,0,none⟩ = some (.int .i64 a0_0):=(bc_ BK301.out 0).trans rfl;have hcz8_1 : w7.cell? ⟨gb301,1,none⟩ = some (.int .i64 a0_1):=(bc_ BK301.out 1).trans rfl;have hcz8_2 : w7.cell? ⟨gb301,2,none⟩ = some (.int .i64 a0_2):=(bc_ BK301.out 2).trans rfl;have hfz8_0:=bf_ BK301.out 0;have hfz8_1:=bf_ BK301.out 1;have hfz8_2:=bf_ BK301.out 2))
   go_ret2
   exact ⟨by first|rfl|(simp [errW_none,errW_some] <;> rfl)|(simp [*,errW_none,errW_some] <;> rfl),by repeat (first|(with_reducible first|exact HB.out|apply ba_|apply bn_|apply bd_|refine bs_ ?_ GE301.out)|exact HB.out)⟩
  ·rw [if_neg c6] at H
   have c6b0 : (a1 == a0_1) = false:=beq_eq_false_iff_ne.mpr c6
   have c6b1 : (a1 != a0_1) = true:=bne_iff_ne.mpr c6
   simp only [Option.some.injEq,Prod.mk.injEq] at H
   obtain ⟨rfl,rfl⟩:=H
   go_enter Try.func82,Try.ntmps82
   go_wp2_with (first|((with_reducible refine gate_dst (N:=2) rfl ?_);refine box_event ?hg (N:=2) ?hd (cs:=#[.int .i64 a0_0,.int .i64 a0_1,.int .i64 a0_2]) (t:=51) ?hr ?_;(case hd => rfl);(case hg => rfl);(case hr => first|(go_simp;done)|(go_simp;rfl));intro gb301 hg w9 hbox hb;have n0_:=mk_ (st_ (qb_ HB) hb);have n1_:=mk_ (hbox);have n2_:=mk_ ((by rw [hg];exact (bz_ (qb_ HB)) : w.heap.size ≤ gb301));have n3_:=mk_ ((by rw [hg];exact (bz_ (qb_ HB)) : w.heap.size ≤ gb301));clear HB;have HB:=n0_;have BK301:=n1_;have GW301:=n2_;have GE301:=n3_;clear n0_ n1_ n2_ n3_;clear hb hbox hg;have hcz10_0 : w9.cell? ⟨gb301,0,none⟩ = some (.int .i64 a0_0):=(bc_ BK301.out 0).trans rfl;have hcz10_1 : w9.cell? ⟨gb301,1,none⟩ = some (.int .i64 a0_1):=(bc_ BK301.out 1).trans rfl;have hcz10_2 : w9.cell? ⟨gb301,2,none⟩ = some (.int .i64 a0_2):=(bc_ BK301.out 2).trans rfl;have hfz10_0:=bf_ BK301.out 0;have hfz10_1:=bf_ BK301.out 1;have hfz10_2:=bf_ BK301.out 2))
   go_ret2
   exact ⟨by first|rfl|(simp [errW_none,errW_some] <;> rfl)|(simp [*,errW_none,errW_some] <;> rfl),by repeat (first|(with_reducible first|exact HB.out|apply ba_|apply bn_|apply bd_|refine bs_ ?_ GE301.out)|exact HB.out)⟩

/-! ### impl_upOf: function 63 -/
def impl_upOf.l0 : Nat → List Int → Int → Int → Int → List (S51) → Int → Int → Option (Int × Int)
 | 0,_,_,_,_,_,_,_ => none
 | k + 1,x1,x2,x8,x9,x14,x15,x16 => if x16 < x15 then (if 0 ≤ x16 then (if x16 < (x14.length : Int) then ((impl_Cable_other.f ((rd_T51 x14 x16).f0) ((rd_T51 x14 x16).f1) ((rd_T51 x14 x16).f2) x2).bind fun bt304 => (if bt304.2 = true then (if 0 ≤ bt304.1 then (if bt304.1 < (x1.length : Int) then (if 0 ≤ x2 then (if x2 < (x1.length : Int) then (if (wrap64 ((rd x1 bt304.1) + ((rd_T51 x14 x16).f2))) = (rd x1 x2) then (if x8 < 0 then (impl_upOf.l0 k x1 x2 x16 bt304.1 x14 x15 (wrap64 (x16 + 1))) else (if bt304.1 < x9 then (impl_upOf.l0 k x1 x2 x16 bt304.1 x14 x15 (wrap64 (x16 + 1))) else (impl_upOf.l0 k x1 x2 x8 x9 x14 x15 (wrap64 (x16 + 1))))) else (impl_upOf.l0 k x1 x2 x8 x9 x14 x15 (wrap64 (x16 + 1)))) else (none)) else (none)) else (none)) else (none)) else (impl_upOf.l0 k x1 x2 x8 x9 x14 x15 (wrap64 (x16 + 1))))) else (none)) else (none)) else (some (x8,x9))
def impl_upOf.f (k : Nat) (l0 : List (S51)) (l1 : List Int) (a2 : Int) : Option (Int × Int):=impl_upOf.l0 k l1 a2 (-1) (-1) l0 (l0.length : Int) 0
theorem impl_upOf.mono_l : ∀ k,(∀ y0 y1 y2 y3 y4 y5 y6,LeO (impl_upOf.l0 k y0 y1 y2 y3 y4 y5 y6) (impl_upOf.l0 (k + 1) y0 y1 y2 y3 y4 y5 y6))
 | 0 => fun _ _ _ _ _ _ _ r h => by simp [impl_upOf.l0] at h
 | k + 1 => by
  have ih0:=impl_upOf.mono_l k
  ·intro y0 y1 y2 y3 y4 y5 y6
   unfold impl_upOf.l0
   repeat' first
   | (with_reducible exact ih0 _ _ _ _ _ _ _)
   | (with_reducible exact LeO.refl _)
   | (with_reducible exact LeO.none _)
   | (with_reducible refine LeO.ite ?_ ?_)
   | (with_reducible refine LeO.bind ?_ (fun _ => ?_))
   | exact ih0 _ _ _ _ _ _ _
   | exact LeO.none _
   | refine LeO.ite ?_ ?_
   | refine LeO.bind ?_ (fun _ => ?_)
theorem impl_upOf.mono : ∀ a0 a1 a2 k,LeO (impl_upOf.f k a0 a1 a2) (impl_upOf.f (k + 1) a0 a1 a2):=by
 intro a0 a1 a2 k
 have ih0:=impl_upOf.mono_l k
 unfold impl_upOf.f
 repeat' first
   | (with_reducible exact ih0 _ _ _ _ _ _ _)
   | (with_reducible exact LeO.refl _)
   | (with_reducible exact LeO.none _)
   | (with_reducible refine LeO.ite ?_ ?_)
   | (with_reducible refine LeO.bind ?_ (fun _ => ?_))
   | exact ih0 _ _ _ _ _ _ _
   | exact LeO.none _
   | refine LeO.ite ?_ ?_
   | refine LeO.bind ?_ (fun _ => ?_)
set_option maxHeartbeats 8000000 in
set_option maxRecDepth 100000 in
theorem impl_upOf.calls (k : Nat) (A0 : Option Addr) (c0 : Nat) (l0 : List (S51)) (A1 : Option Addr) (c1 : Nat) (l1 : List Int) (a2 : Int) (r1 : Int) (r2 : Int) (w : World) (hr0 : Kd.C k51 w A0 l0.length l0) (hc0 : l0.length ≤ c0) (hr1 : Kd.C (Kd.int .i64) w A1 l1.length l1) (hc1 : l1.length ≤ c1) (h : impl_upOf.f k l0 l1 a2 = some (r1,r2)) :
  Calls Try.prog 63 #[.slice A0 l0.length c0,.slice A1 l1.length c1,.int .i64 a2] w fun e w' => e = .returned (.tuple #[.int .i64 r1,.int .i64 r2]) ∧ Below w.heap.size w w':=by
 have hu51:=Try.underlying51
 have HR0:=mk_ hr0
 have HC0:=mk_ hc0
 clear hr0 hc0
 have HR1:=mk_ hr1
 have HC1:=mk_ hc1
 clear hr1 hc1
 have HB:=mk_ (Below.refl w.heap.size w)
 have H : (impl_upOf.l0 k l1 a2 (-1) (-1) l0 (l0.length : Int) 0) = some (r1,r2):=h
 clear h
 have H':=mk_ H
 clear H
 go_enter Try.func63,Try.ntmps63
 go_wp2
 repeat (go_quiet (fail);try go_wp2)
 go_loopg [8,9,16] k (fun kq v8 v9 v16 w' => ∃ (x8_1 : Int) (x9_1 : Int) (x16_1 : Int),v8 = .int .i64 x8_1 ∧ v9 = .int .i64 x9_1 ∧ v16 = .int .i64 x16_1 ∧ Aside0 (impl_upOf.l0 kq l1 a2 x8_1 x9_1 l0 (l0.length : Int) x16_1 = some (r1,r2)) ∧ Aside0 (kq ≤ k) ∧ Aside0 (Below w.heap.size w w'))
 case atStart => exact ⟨((-1)),((-1)),(0),(by first|rfl|(simp;done)|(simp [*];done)),(by first|rfl|(simp;done)|(simp [*];done)),(by first|rfl|(simp;done)|(simp [*];done)),H',⟨Nat.le_refl _⟩,⟨by repeat (first|(with_reducible first|exact HB.out|apply ba_|apply bn_|apply bd_)|exact HB.out)⟩⟩
 case round =>
  clear H'
  try clear c1
  try clear p2
  obtain ⟨x8_1,x9_1,x16_1,rfl,rfl,rfl,HA,HK1,HB⟩:=hrel
  cases gk with
  | zero => exact absurd HA.out (by simp [impl_upOf.l0])
  | succ k1 =>
   have H:=HA.out
   clear HA
   simp only [impl_upOf.l0] at H
   by_cases c4 : x16_1 < (l0.length : Int)
   ·rw [if_pos c4] at H
    have c4b0 : decide (x16_1 < (l0.length : Int)) = true:=decide_eq_true c4
    clear c4
    by_cases c5 : 0 ≤ x16_1
    ·rw [if_pos c5] at H
     have c5b0 : decide (0 ≤ x16_1) = true:=decide_eq_true c5
     clear c5
     by_cases c6 : x16_1 < (l0.length : Int)
     ·rw [if_pos c6] at H
      have c6b0 : decide (x16_1 < (l0.length : Int)) = true:=decide_eq_true c6
      clear c6
      replace H:=Option.bind_eq_some_iff.mp H
      obtain ⟨⟨t304,t305⟩,A70,H⟩:=H
      replace H : (if t305 = true then (if 0 ≤ t304 then (if t304 < (l1.length : Int) then (if 0 ≤ a2 then (if a2 < (l1.length : Int) then (if (wrap64 ((rd l1 t304) + ((rd_T51 l0 x16_1).f2))) = (rd l1 a2) then (if x8_1 < 0 then (impl_upOf.l0 k1 l1 a2 x16_1 t304 l0 (l0.length : Int) (wrap64 (x16_1 + 1))) else (if t304 < x9_1 then (impl_upOf.l0 k1 l1 a2 x16_1 t304 l0 (l0.length : Int) (wrap64 (x16_1 + 1))) else (impl_upOf.l0 k1 l1 a2 x8_1 x9_1 l0 (l0.length : Int) (wrap64 (x16_1 + 1))))) else (impl_upOf.l0 k1 l1 a2 x8_1 x9_1 l0 (l0.length : Int) (wrap64 (x16_1 + 1)))) else (none)) else (none)) else (none)) else (none)) else (impl_upOf.l0 k1 l1 a2 x8_1 x9_1 l0 (l0.length : Int) (wrap64 (x16_1 + 1)))) = some (r1,r2):=H
      have A7:=mk_ A70
      clear A70
      by_cases c8 : t305 = true
      ·subst c8
       have H1 : (if 0 ≤ t304 then (if t304 < (l1.length : Int) then (if 0 ≤ a2 then (if a2 < (l1.length : Int) then (if (wrap64 ((rd l1 t304) + ((rd_T51 l0 x16_1).f2))) = (rd l1 a2) then (if x8_1 < 0 then (impl_upOf.l0 k1 l1 a2 x16_1 t304 l0 (l0.length : Int) (wrap64 (x16_1 + 1))) else (if t304 < x9_1 then (impl_upOf.l0 k1 l1 a2 x16_1 t304 l0 (l0.length : Int) (wrap64 (x16_1 + 1))) else (impl_upOf.l0 k1 l1 a2 x8_1 x9_1 l0 (l0.length : Int) (wrap64 (x16_1 + 1))))) else (impl_upOf.l0 k1 l1 a2 x8_1 x9_1 l0 (l0.length : Int) (wrap64 (x16_1 + 1)))) else (none)) else (none)) else (none)) else (none)) = some (r1,r2):=by rw [if_pos rfl] at H;exact H
       clear H
       have H:=H1
       clear H1
       by_cases c9 : 0 ≤ t304
       ·rw [if_pos c9] at H
        have c9b0 : decide (0 ≤ t304) = true:=decide_eq_true c9
        clear c9
        by_cases c10 : t304 < (l1.length : Int)
        ·rw [if_pos c10] at H
         have c10b0 : decide (t304 < (l1.length : Int)) = true:=decide_eq_true c10
         clear c10
         by_cases c11 : 0 ≤ a2
         ·rw [if_pos c11] at H
          have c11b0 : decide (0 ≤ a2) = true:=decide_eq_true c11
          clear c11
          by_cases c12 : a2 < (l1.length : Int)
          ·rw [if_pos c12] at H
           have c12b0 : decide (a2 < (l1.length : Int)) = true:=decide_eq_true c12
           clear c12
           by_cases c13 : (wrap64 ((rd l1 t304) + ((rd_T51 l0 x16_1).f2))) = (rd l1 a2)
           ·rw [if_pos c13] at H
            have c13b0 : ((wrap64 ((rd l1 t304) + ((rd_T51 l0 x16_1).f2))) == (rd l1 a2)) = true:=beq_iff_eq.mpr c13
            have c13b1 : ((wrap64 ((rd l1 t304) + ((rd_T51 l0 x16_1).f2))) != (rd l1 a2)) = false:=bne_eq_false_iff_eq.mpr c13
            clear c13
            by_cases c14 : x8_1 < 0
            ·rw [if_pos c14] at H
             have c14b0 : decide (x8_1 < 0) = true:=decide_eq_true c14
             clear c14
             have H':=mk_ H
             clear H
             have p302 : 0 ≤ (x16_1 : Int):=od_ qa_
             have q302 : x16_1 < (l0.length : Int):=od_ qa_
             obtain ⟨ad302,e302,hx302_0,hx302_1,hx302_2⟩:=at_T51 HR0.out x16_1 p302 q302
             cases e302
             replace hx302_0:=(HB.out.cell (wl_ w _ hx302_0)).trans hx302_0
             replace hx302_1:=(HB.out.cell (wl_ w _ hx302_1)).trans hx302_1
             replace hx302_2:=(HB.out.cell (wl_ w _ hx302_2)).trans hx302_2
             replace p302:=eq_true p302
             replace q302:=eq_true q302
             go_wp2_with (first|((with_reducible refine gate_dst (N:=11) rfl ?_);refine box_event ?hg (N:=11) ?hd (cs:=#[.int .i64 0,.int .i64 0,.int .i64 0]) (t:=51) ?hr ?_;(case hd => rfl);(case hg => rfl);(case hr => first|(go_simp;done)|(go_simp;rfl));intro gb303 hg w15 hbox hb;have n0_:=mk_ (st_ (qb_ HB) hb);have n1_:=mk_ (hbox);have n2_:=mk_ ((by rw [hg];exact (bz_ (qb_ HB)) : w.heap.size ≤ gb303));have n3_:=mk_ ((by rw [hg];exact (bz_ (qb_ HB)) : w.heap.size ≤ gb303));clear HB;have HB:=n0_;have BK303:=n1_;have GW303:=n2_;have GE303:=n3_;clear n0_ n1_ n2_ n3_;clear hb hbox hg;have hcz16_0 : w15.cell? ⟨gb303,0,none⟩ = some (.int .i64 0):=(bc_ BK303.out 0).trans rfl;have hcz16_1 : w15.cell? ⟨gb303,1,none⟩ = some (.int .i64 0):=(bc_ BK303.out 1).trans rfl;have hcz16_2 : w15.cell? ⟨gb303,2,none⟩ = some (.int .i64 0):=(bc_ BK303.out 2).trans rfl;have hfz16_0:=bf_ BK303.out 0;have hfz16_1:=bf_ BK303.out 1;have hfz16_2:=bf_ BK303.out 2)|(go_at_call 82;(with_reducible refine (impl_Cable_other.calls ((rd_T51 l0 x16_1).f0) ((rd_T51 l0 x16_1).f1) ((rd_T51 l0 x16_1).f2) a2 t304 true _ A7.out).mono ?_);rintro e w17 ⟨rfl,hb⟩;have n0_:=mk_ (blk_below (g:=gb303) (o:=.cells #[.int .i64 ((rd_T51 l0 x16_1).f0),.int .i64 ((rd_T51 l0 x16_1).f1),.int .i64 ((rd_T51 l0 x16_1).f2)] 51 (0,0)) (by (with_reducible repeat (first|refine kn_ ?_ _|refine kd_ ?_|refine ka_ ?_ _));refine blk_put (cs:=#[.int .i64 ((rd_T51 l0 x16_1).f0),.int .i64 ((rd_T51 l0 x16_1).f1),.int .i64 0]) ?_ 2 _ rfl;(with_reducible repeat (first|refine kn_ ?_ _|refine kd_ ?_|refine ka_ ?_ _));refine blk_put (cs:=#[.int .i64 ((rd_T51 l0 x16_1).f0),.int .i64 0,.int .i64 0]) ?_ 1 _ rfl;(with_reducible repeat (first|refine kn_ ?_ _|refine kd_ ?_|refine ka_ ?_ _));refine blk_put (cs:=#[.int .i64 0,.int .i64 0,.int .i64 0]) ?_ 0 _ rfl;(with_reducible repeat (first|refine kn_ ?_ _|refine kd_ ?_|refine ka_ ?_ _));exact BK303.out) hb);have n1_:=mk_ (st_ (qc_ HB GE303) hb);clear BK303;clear HB;have BK303:=n0_;have HB:=n1_;clear n0_ n1_;(try clear hb);(try clear hb2);(try clear hk);(try clear hi);have p306 : 0 ≤ (t304 : Int):=od_ qa_;have q306 : t304 < (l1.length : Int):=od_ qa_;obtain ⟨ad306,e306,hx306_0⟩:=Kd.at_int HR1.out t304 p306 q306;cases e306;replace hx306_0:=(HB.out.cell (wl_ w _ hx306_0)).trans hx306_0;replace p306:=eq_true p306;replace q306:=eq_true q306;have hcz18_0 : w17.cell? ⟨gb303,0,none⟩ = some (.int .i64 ((rd_T51 l0 x16_1).f0)):=(bc_ BK303.out 0).trans rfl;have hcz18_1 : w17.cell? ⟨gb303,1,none⟩ = some (.int .i64 ((rd_T51 l0 x16_1).f1)):=(bc_ BK303.out 1).trans rfl;have hcz18_2 : w17.cell? ⟨gb303,2,none⟩ = some (.int .i64 ((rd_T51 l0 x16_1).f2)):=(bc_ BK303.out 2).trans rfl;have hfz18_0:=bf_ BK303.out 0;have hfz18_1:=bf_ BK303.out 1;have hfz18_2:=bf_ BK303.out 2;have p307 : 0 ≤ (a2 : Int):=od_ qa_;have q307 : a2 < (l1.length : Int):=od_ qa_;obtain ⟨ad307,e307,hx307_0⟩:=Kd.at_int HR1.out a2 p307 q307;obtain rfl : ad306 = ad307:=(by injection e307);replace hx307_0:=(HB.out.cell (wl_ w _ hx307_0)).trans hx307_0;replace p307:=eq_true p307;replace q307:=eq_true q307))
             repeat (go_quiet (first|((with_reducible refine gate_dst (N:=11) rfl ?_);refine box_event ?hg (N:=11) ?hd (cs:=#[.int .i64 0,.int .i64 0,.int .i64 0]) (t:=51) ?hr ?_;(case hd => rfl);(case hg => rfl);(case hr => first|(go_simp;done)|(go_simp;rfl));intro gb303 hg w15 hbox hb;have n0_:=mk_ (st_ (qb_ HB) hb);have n1_:=mk_ (hbox);have n2_:=mk_ ((by rw [hg];exact (bz_ (qb_ HB)) : w.heap.size ≤ gb303));have n3_:=mk_ ((by rw [hg];exact (bz_ (qb_ HB)) : w.heap.size ≤ gb303));clear HB;have HB:=n0_;have BK303:=n1_;have GW303:=n2_;have GE303:=n3_;clear n0_ n1_ n2_ n3_;clear hb hbox hg;have hcz16_0 : w15.cell? ⟨gb303,0,none⟩ = some (.int .i64 0):=(bc_ BK303.out 0).trans rfl;have hcz16_1 : w15.cell? ⟨gb303,1,none⟩ = some (.int .i64 0):=(bc_ BK303.out 1).trans rfl;have hcz16_2 : w15.cell? ⟨gb303,2,none⟩ = some (.int .i64 0):=(bc_ BK303.out 2).trans rfl;have hfz16_0:=bf_ BK303.out 0;have hfz16_1:=bf_ BK303.out 1;have hfz16_2:=bf_ BK303.out 2)|(go_at_call 82;(with_reducible refine (impl_Cable_other.calls ((rd_T51 l0 x16_1).f0) ((rd_T51 l0 x16_1).f1) ((rd_T51 l0 x16_1).f2) a2 t304 true _ A7.out).mono ?_);rintro e w17 ⟨rfl,hb⟩;have n0_:=mk_ (blk_below (g:=gb303) (o:=.cells #[.int .i64 ((rd_T51 l0 x16_1).f0),.int .i64 ((rd_T51 l0 x16_1).f1),.int .i64 ((rd_T51 l0 x16_1).f2)] 51 (0,0)) (by (with_reducible repeat (first|refine kn_ ?_ _|refine kd_ ?_|refine ka_ ?_ _));refine blk_put (cs:=#[.int .i64 ((rd_T51 l0 x16_1).f0),.int .i64 ((rd_T51 l0 x16_1).f1),.int .i64 0]) ?_ 2 _ rfl;(with_reducible repeat (first|refine kn_ ?_ _|refine kd_ ?_|refine ka_ ?_ _));refine blk_put (cs:=#[.int .i64 ((rd_T51 l0 x16_1).f0),.int .i64 0,.int .i64 0]) ?_ 1 _ rfl;(with_reducible repeat (first|refine kn_ ?_ _|refine kd_ ?_|refine ka_ ?_ _));refine blk_put (cs:=#[.int .i64 0,.int .i64 0,.int .i64 0]) ?_ 0 _ rfl;(with_reducible repeat (first|refine kn_ ?_ _|refine kd_ ?_|refine ka_ ?_ _));exact BK303.out) hb);have n1_:=mk_ (st_ (qc_ HB GE303) hb);clear BK303;clear HB;have BK303:=n0_;have HB:=n1_;clear n0_ n1_;(try clear hb);(try clear hb2);(try clear hk);(try clear hi);have p306 : 0 ≤ (t304 : Int):=od_ qa_;have q306 : t304 < (l1.length : Int):=od_ qa_;obtain ⟨ad306,e306,hx306_0⟩:=Kd.at_int HR1.out t304 p306 q306;cases e306;replace hx306_0:=(HB.out.cell (wl_ w _ hx306_0)).trans hx306_0;replace p306:=eq_true p306;replace q306:=eq_true q306;have hcz18_0 : w17.cell? ⟨gb303,0,none⟩ = some (.int .i64 ((rd_T51 l0 x16_1).f0)):=(bc_ BK303.out 0).trans rfl;have hcz18_1 : w17.cell? ⟨gb303,1,none⟩ = some (.int .i64 ((rd_T51 l0 x16_1).f1)):=(bc_ BK303.out 1).trans rfl;have hcz18_2 : w17.cell? ⟨gb303,2,none⟩ = some (.int .i64 ((rd_T51 l0 x16_1).f2)):=(bc_ BK303.out 2).trans rfl;have hfz18_0:=bf_ BK303.out 0;have hfz18_1:=bf_ BK303.out 1;have hfz18_2:=bf_ BK303.out 2;have p307 : 0 ≤ (a2 : Int):=od_ qa_;have q307 : a2 < (l1.length : Int):=od_ qa_;obtain ⟨ad307,e307,hx307_0⟩:=Kd.at_int HR1.out a2 p307 q307;obtain rfl : ad306 = ad307:=(by injection e307);replace hx307_0:=(HB.out.cell (wl_ w _ hx307_0)).trans hx307_0;replace p307:=eq_true p307;replace q307:=eq_true q307));try go_wp2_with (first|((with_reducible refine gate_dst (N:=11) rfl ?_);refine box_event ?hg (N:=11) ?hd (cs:=#[.int .i64 0,.int .i64 0,.int .i64 0]) (t:=51) ?hr ?_;(case hd => rfl);(case hg => rfl);(case hr => first|(go_simp;done)|(go_simp;rfl));intro gb303 hg w15 hbox hb;have n0_:=mk_ (st_ (qb_ HB) hb);have n1_:=mk_ (hbox);have n2_:=mk_ ((by rw [hg];exact (bz_ (qb_ HB)) : w.heap.size ≤ gb303));have n3_:=mk_ ((by rw [hg];exact (bz_ (qb_ HB)) : w.heap.size ≤ gb303));clear HB;have HB:=n0_;have BK303:=n1_;have GW303:=n2_;have GE303:=n3_;clear n0_ n1_ n2_ n3_;clear hb hbox hg;have hcz16_0 : w15.cell? ⟨gb303,0,none⟩ = some (.int .i64 0):=(bc_ BK303.out 0).trans rfl;have hcz16_1 : w15.cell? ⟨gb303,1,none⟩ = some (.int .i64 0):=(bc_ BK303.out 1).trans rfl;have hcz16_2 : w15.cell? ⟨gb303,2,none⟩ = some (.int .i64 0):=(bc_ BK303.out 2).trans rfl;have hfz16_0:=bf_ BK303.out 0;have hfz16_1:=bf_ BK303.out 1;have hfz16_2:=bf_ BK303.out 2)|(go_at_call 82;(with_reducible refine (impl_Cable_other.calls ((rd_T51 l0 x16_1).f0) ((rd_T51 l0 x16_1).f1) ((rd_T51 l0 x16_1).f2) a2 t304 true _ A7.out).mono ?_);rintro e w17 ⟨rfl,hb⟩;have n0_:=mk_ (blk_below (g:=gb303) (o:=.cells #[.int .i64 ((rd_T51 l0 x16_1).f0),.int .i64 ((rd_T51 l0 x16_1).f1),.int .i64 ((rd_T51 l0 x16_1).f2)] 51 (0,0)) (by (with_reducible repeat (first|refine kn_ ?_ _|refine kd_ ?_|refine ka_ ?_ _));refine blk_put (cs:=#[.int .i64 ((rd_T51 l0 x16_1).f0),.int .i64 ((rd_T51 l0 x16_1).f1),.int .i64 0]) ?_ 2 _ rfl;(with_reducible repeat (first|refine kn_ ?_ _|refine kd_ ?_|refine ka_ ?_ _));refine blk_put (cs:=#[.int .i64 ((rd_T51 l0 x16_1).f0),.int .i64 0,.int .i64 0]) ?_ 1 _ rfl;(with_reducible repeat (first|refine kn_ ?_ _|refine kd_ ?_|refine ka_ ?_ _));refine blk_put (cs:=#[.int .i64 0,.int .i64 0,.int .i64 0]) ?_ 0 _ rfl;(with_reducible repeat (first|refine kn_ ?_ _|refine kd_ ?_|refine ka_ ?_ _));exact BK303.out) hb);have n1_:=mk_ (st_ (qc_ HB GE303) hb);clear BK303;clear HB;have BK303:=n0_;have HB:=n1_;clear n0_ n1_;(try clear hb);(try clear hb2);(try clear hk);(try clear hi);have p306 : 0 ≤ (t304 : Int):=od_ qa_;have q306 : t304 < (l1.length : Int):=od_ qa_;obtain ⟨ad306,e306,hx306_0⟩:=Kd.at_int HR1.out t304 p306 q306;cases e306;replace hx306_0:=(HB.out.cell (wl_ w _ hx306_0)).trans hx306_0;replace p306:=eq_true p306;replace q306:=eq_true q306;have hcz18_0 : w17.cell? ⟨gb303,0,none⟩ = some (.int .i64 ((rd_T51 l0 x16_1).f0)):=(bc_ BK303.out 0).trans rfl;have hcz18_1 : w17.cell? ⟨gb303,1,none⟩ = some (.int .i64 ((rd_T51 l0 x16_1).f1)):=(bc_ BK303.out 1).trans rfl;have hcz18_2 : w17.cell? ⟨gb303,2,none⟩ = some (.int .i64 ((rd_T51 l0 x16_1).f2)):=(bc_ BK303.out 2).trans rfl;have hfz18_0:=bf_ BK303.out 0;have hfz18_1:=bf_ BK303.out 1;have hfz18_2:=bf_ BK303.out 2;have p307 : 0 ≤ (a2 : Int):=od_ qa_;have q307 : a2 < (l1.length : Int):=od_ qa_;obtain ⟨ad307,e307,hx307_0⟩:=Kd.at_int HR1.out a2 p307 q307;obtain rfl : ad306 = ad307:=(by injection e307);replace hx307_0:=(HB.out.cell (wl_ w _ hx307_0)).trans hx307_0;replace p307:=eq_true p307;replace q307:=eq_true q307)))
             go_roundg k1
             case measure => have:=HK1.out;omega
             case rel => exact ⟨(x16_1),(t304),(wrap64 (x16_1 + 1)),(by first|rfl|(simp;done)|(simp [*];done)),(by first|rfl|(simp;done)|(simp [*];done)),(by first|rfl|(simp;done)|(simp [*];done)),H',⟨by have:=HK1.out;omega⟩,⟨by repeat (first|(with_reducible first|exact HB.out|apply ba_|apply bn_|apply bd_|refine bs_ ?_ GE303.out)|exact HB.out)⟩⟩
            ·rw [if_neg c14] at H
             have c14b0 : decide (x8_1 < 0) = false:=decide_eq_false c14
             clear c14
             by_cases c19 : t304 < x9_1
             ·rw [if_pos c19] at H
              have c19b0 : decide (t304 < x9_1) = true:=decide_eq_true c19
              clear c19
              have H':=mk_ H
              clear H
              have p302 : 0 ≤ (x16_1 : Int):=od_ qa_
              have q302 : x16_1 < (l0.length : Int):=od_ qa_
              obtain ⟨ad302,e302,hx302_0,hx302_1,hx302_2⟩:=at_T51 HR0.out x16_1 p302 q302
              cases e302
              replace hx302_0:=(HB.out.cell (wl_ w _ hx302_0)).trans hx302_0
              replace hx302_1:=(HB.out.cell (wl_ w _ hx302_1)).trans hx302_1
              replace hx302_2:=(HB.out.cell (wl_ w _ hx302_2)).trans hx302_2
              replace p302:=eq_true p302
              replace q302:=eq_true q302
              go_wp2_with (first|((with_reducible refine gate_dst (N:=11) rfl ?_);refine box_event ?hg (N:=11) ?hd (cs:=#[.int .i64 0,.int .i64 0,.int .i64 0]) (t:=51) ?hr ?_;(case hd => rfl);(case hg => rfl);(case hr => first|(go_simp;done)|(go_simp;rfl));intro gb303 hg w20 hbox hb;have n0_:=mk_ (st_ (qb_ HB) hb);have n1_:=mk_ (hbox);have n2_:=mk_ ((by rw [hg];exact (bz_ (qb_ HB)) : w.heap.size ≤ gb303));have n3_:=mk_ ((by rw [hg];exact (bz_ (qb_ HB)) : w.heap.size ≤ gb303));clear HB;have HB:=n0_;have BK303:=n1_;have GW303:=n2_;have GE303:=n3_;clear n0_ n1_ n2_ n3_;clear hb hbox hg;have hcz21_0 : w20.cell? ⟨gb303,0,none⟩ = some (.int .i64 0):=(bc_ BK303.out 0).trans rfl;have hcz21_1 : w20.cell? ⟨gb303,1,none⟩ = some (.int .i64 0):=(bc_ BK303.out 1).trans rfl;have hcz21_2 : w20.cell? ⟨gb303,2,none⟩ = some (.int .i64 0):=(bc_ BK303.out 2).trans rfl;have hfz21_0:=bf_ BK303.out 0;have hfz21_1:=bf_ BK303.out 1;have hfz21_2:=bf_ BK303.out 2)|(go_at_call 82;(with_reducible refine (impl_Cable_other.calls ((rd_T51 l0 x16_1).f0) ((rd_T51 l0 x16_1).f1) ((rd_T51 l0 x16_1).f2) a2 t304 true _ A7.out).mono ?_);rintro e w22 ⟨rfl,hb⟩;have n0_:=mk_ (blk_below (g:=gb303) (o:=.cells #[.int .i64 ((rd_T51 l0 x16_1).f0),.int .i64 ((rd_T51 l0 x16_1).f1),.int .i64 ((rd_T51 l0 x16_1).f2)] 51 (0,0)) (by (with_reducible repeat (first|refine kn_ ?_ _|refine kd_ ?_|refine ka_ ?_ _));refine blk_put (cs:=#[.int .i64 ((rd_T51 l0 x16_1).f0),.int .i64 ((rd_T51 l0 x16_1).f1),.int .i64 0]) ?_ 2 _ rfl;(with_reducible repeat (first|refine kn_ ?_ _|refine kd_ ?_|refine ka_ ?_ _));refine blk_put (cs:=#[.int .i64 ((rd_T51 l0 x16_1).f0),.int .i64 0,.int .i64 0]) ?_ 1 _ rfl;(with_reducible repeat (first|refine kn_ ?_ _|refine kd_ ?_|refine ka_ ?_ _));refine blk_put (cs:=#[.int .i64 0,.int .i64 0,.int .i64 0]) ?_ 0 _ rfl;(with_reducible repeat (first|refine kn_ ?_ _|refine kd_ ?_|refine ka_ ?_ _));exact BK303.out) hb);have n1_:=mk_ (st_ (qc_ HB GE303) hb);clear BK303;clear HB;have BK303:=n0_;have HB:=n1_;clear n0_ n1_;(try clear hb);(try clear hb2);(try clear hk);(try clear hi);have p306 : 0 ≤ (t304 : Int):=od_ qa_;have q306 : t304 < (l1.length : Int):=od_ qa_;obtain ⟨ad306,e306,hx306_0⟩:=Kd.at_int HR1.out t304 p306 q306;cases e306;replace hx306_0:=(HB.out.cell (wl_ w _ hx306_0)).trans hx306_0;replace p306:=eq_true p306;replace q306:=eq_true q306;have hcz23_0 : w22.cell? ⟨gb303,0,none⟩ = some (.int .i64 ((rd_T51 l0 x16_1).f0)):=(bc_ BK303.out 0).trans rfl;have hcz23_1 : w22.cell? ⟨gb303,1,none⟩ = some (.int .i64 ((rd_T51 l0 x16_1).f1)):=(bc_ BK303.out 1).trans rfl;have hcz23_2 : w22.cell? ⟨gb303,2,none⟩ = some (.int .i64 ((rd_T51 l0 x16_1).f2)):=(bc_ BK303.out 2).trans rfl;have hfz23_0:=bf_ BK303.out 0;have hfz23_1:=bf_ BK303.out 1;have hfz23_2:=bf_ BK303.out 2;have p307 : 0 ≤ (a2 : Int):=od_ qa_;have q307 : a2 < (l1.length : Int):=od_ qa_;obtain ⟨ad307,e307,hx307_0⟩:=Kd.at_int HR1.out a2 p307 q307;obtain rfl : ad306 = ad307:=(by injection e307);replace hx307_0:=(HB.out.cell (wl_ w _ hx307_0)).trans hx307_0;replace p307:=eq_true p307;replace q307:=eq_true q307))
              repeat (go_quiet (first|((with_reducible refine gate_dst (N:=11) rfl ?_);refine box_event ?hg (N:=11) ?hd (cs:=#[.int .i64 0,.int .i64 0,.int .i64 0]) (t:=51) ?hr ?_;(case hd => rfl);(case hg => rfl);(case hr => first|(go_simp;done)|(go_simp;rfl));intro gb303 hg w20 hbox hb;have n0_:=mk_ (st_ (qb_ HB) hb);have n1_:=mk_ (hbox);have n2_:=mk_ ((by rw [hg];exact (bz_ (qb_ HB)) : w.heap.size ≤ gb303));have n3_:=mk_ ((by rw [hg];exact (bz_ (qb_ HB)) : w.heap.size ≤ gb303));clear HB;have HB:=n0_;have BK303:=n1_;have GW303:=n2_;have GE303:=n3_;clear n0_ n1_ n2_ n3_;clear hb hbox hg;have hcz21_0 : w20.cell? ⟨gb303,0,none⟩ = some (.int .i64 0):=(bc_ BK303.out 0).trans rfl;have hcz21_1 : w20.cell? ⟨gb303,1,none⟩ = some (.int .i64 0):=(bc_ BK303.out 1).trans rfl;have hcz21_2 : w20.cell? ⟨gb303,2,none⟩ = some (.int .i64 0):=(bc_ BK303.out 2).trans rfl;have hfz21_0:=bf_ BK303.out 0;have hfz21_1:=bf_ BK303.out 1;have hfz21_2:=bf_ BK303.out 2)|(go_at_call 82;(with_reducible refine (impl_Cable_other.calls ((rd_T51 l0 x16_1).f0) ((rd_T51 l0 x16_1).f1) ((rd_T51 l0 x16_1).f2) a2 t304 true _ A7.out).mono ?_);rintro e w22 ⟨rfl,hb⟩;have n0_:=mk_ (blk_below (g:=gb303) (o:=.cells #[.int .i64 ((rd_T51 l0 x16_1).f0),.int .i64 ((rd_T51 l0 x16_1).f1),.int .i64 ((rd_T51 l0 x16_1).f2)] 51 (0,0)) (by (with_reducible repeat (first|refine kn_ ?_ _|refine kd_ ?_|refine ka_ ?_ _));refine blk_put (cs:=#[.int .i64 ((rd_T51 l0 x16_1).f0),.int .i64 ((rd_T51 l0 x16_1).f1),.int .i64 0]) ?_ 2 _ rfl;(with_reducible repeat (first|refine kn_ ?_ _|refine kd_ ?_|refine ka_ ?_ _));refine blk_put (cs:=#[.int .i64 ((rd_T51 l0 x16_1).f0),.int .i64 0,.int .i64 0]) ?_ 1 _ rfl;(with_reducible repeat (first|refine kn_ ?_ _|refine kd_ ?_|refine ka_ ?_ _));refine blk_put (cs:=#[.int .i64 0,.int .i64 0,.int .i64 0]) ?_ 0 _ rfl;(with_reducible repeat (first|refine kn_ ?_ _|refine kd_ ?_|refine ka_ ?_ _));exact BK303.out) hb);have n1_:=mk_ (st_ (qc_ HB GE303) hb);clear BK303;clear HB;have BK303:=n0_;have HB:=n1_;clear n0_ n1_;(try clear hb);(try clear hb2);(try clear hk);(try clear hi);have p306 : 0 ≤ (t304 : Int):=od_ qa_;have q306 : t304 < (l1.length : Int):=od_ qa_;obtain ⟨ad306,e306,hx306_0⟩:=Kd.at_int HR1.out t304 p306 q306;cases e306;replace hx306_0:=(HB.out.cell (wl_ w _ hx306_0)).trans hx306_0;replace p306:=eq_true p306;replace q306:=eq_true q306;have hcz23_0 : w22.cell? ⟨gb303,0,none⟩ = some (.int .i64 ((rd_T51 l0 x16_1).f0)):=(bc_ BK303.out 0).trans rfl;have hcz23_1 : w22.cell? ⟨gb303,1,none⟩ = some (.int .i64 ((rd_T51 l0 x16_1).f1)):=(bc_ BK303.out 1).trans rfl;have hcz23_2 : w22.cell? ⟨gb303,2,none⟩ = some (.int .i64 ((rd_T51 l0 x16_1).f2)):=(bc_ BK303.out 2).trans rfl;have hfz23_0:=bf_ BK303.out 0;have hfz23_1:=bf_ BK303.out 1;have hfz23_2:=bf_ BK303.out 2;have p307 : 0 ≤ (a2 : Int):=od_ qa_;have q307 : a2 < (l1.length : Int):=od_ qa_;obtain ⟨ad307,e307,hx307_0⟩:=Kd.at_int HR1.out a2 p307 q307;obtain rfl : ad306 = ad307:=(by injection e307);replace hx307_0:=(HB.out.cell (wl_ w _ hx307_0)).trans hx307_0;replace p307:=eq_true p307;replace q307:=eq_true q307));try go_wp2_with (first|((with_reducible refine gate_dst (N:=11) rfl ?_);refine box_event ?hg (N:=11) ?hd (cs:=#[.int .i64 0,.int .i64 0,.int .i64 0]) (t:=51) ?hr ?_;(case hd => rfl);(case hg => rfl);(case hr => first|(go_simp;done)|(go_simp;rfl));intro gb303 hg w20 hbox hb;have n0_:=mk_ (st_ (qb_ HB) hb);have n1_:=mk_ (hbox);have n2_:=mk_ ((by rw [hg];exact (bz_ (qb_ HB)) : w.heap.size ≤ gb303));have n3_:=mk_ ((by rw [hg];exact (bz_ (qb_ HB)) : w.heap.size ≤ gb303));clear HB;have HB:=n0_;have BK303:=n1_;have GW303:=n2_;have GE303:=n3_;clear n0_ n1_ n2_ n3_;clear hb hbox hg;have hcz21_0 : w20.cell? ⟨gb303,0,none⟩ = some (.int .i64 0):=(bc_ BK303.out 0).trans rfl;have hcz21_1 : w20.cell? ⟨gb303,1,none⟩ = some (.int .i64 0):=(bc_ BK303.out 1).trans rfl;have hcz21_2 : w20.cell? ⟨gb303,2,none⟩ = some (.int .i64 0):=(bc_ BK303.out 2).trans rfl;have hfz21_0:=bf_ BK303.out 0;have hfz21_1:=bf_ BK303.out 1;have hfz21_2:=bf_ BK303.out 2)|(go_at_call 82;(with_reducible refine (impl_Cable_other.calls ((rd_T51 l0 x16_1).f0) ((rd_T51 l0 x16_1).f1) ((rd_T51 l0 x16_1).f2) a2 t304 true _ A7.out).mono ?_);rintro e w22 ⟨rfl,hb⟩;have n0_:=mk_ (blk_below (g:=gb303) (o:=.cells #[.int .i64 ((rd_T51 l0 x16_1).f0),.int .i64 ((rd_T51 l0 x16_1).f1),.int .i64 ((rd_T51 l0 x16_1).f2)] 51 (0,0)) (by (with_reducible repeat (first|refine kn_ ?_ _|refine kd_ ?_|refine ka_ ?_ _));refine blk_put (cs:=#[.int .i64 ((rd_T51 l0 x16_1).f0),.int .i64 ((rd_T51 l0 x16_1).f1),.int .i64 0]) ?_ 2 _ rfl;(with_reducible repeat (first|refine kn_ ?_ _|refine kd_ ?_|refine ka_ ?_ _));refine blk_put (cs:=#[.int .i64 ((rd_T51 l0 x16_1).f0),.int .i64 0,.int .i64 0]) ?_ 1 _ rfl;(with_reducible repeat (first|refine kn_ ?_ _|refine kd_ ?_|refine ka_ ?_ _));refine blk_put (cs:=#[.int .i64 0,.int .i64 0,.int .i64 0]) ?_ 0 _ rfl;(with_reducible repeat (first|refine kn_ ?_ _|refine kd_ ?_|refine ka_ ?_ _));exact BK303.out) hb);have n1_:=mk_ (st_ (qc_ HB GE303) hb);clear BK303;clear HB;have BK303:=n0_;have HB:=n1_;clear n0_ n1_;(try clear hb);(try clear hb2);(try clear hk);(try clear hi);have p306 : 0 ≤ (t304 : Int):=od_ qa_;have q306 : t304 < (l1.length : Int):=od_ qa_;obtain ⟨ad306,e306,hx306_0⟩:=Kd.at_int HR1.out t304 p306 q306;cases e306;replace hx306_0:=(HB.out.cell (wl_ w _ hx306_0)).trans hx306_0;replace p306:=eq_true p306;replace q306:=eq_true q306;have hcz23_0 : w22.cell? ⟨gb303,0,none⟩ = some (.int .i64 ((rd_T51 l0 x16_1).f0)):=(bc_ BK303.out 0).trans rfl;have hcz23_1 : w22.cell? ⟨gb303,1,none⟩ = some (.int .i64 ((rd_T51 l0 x16_1).f1)):=(bc_ BK303.out 1).trans rfl;have hcz23_2 : w22.cell? ⟨gb303,2,none⟩ = some (.int .i64 ((rd_T51 l0 x16_1).f2)):=(bc_ BK303.out 2).trans rfl;have hfz23_0:=bf_ BK303.out 0;have hfz23_1:=bf_ BK303.out 1;have hfz23_2:=bf_ BK303.out 2;have p307 : 0 ≤ (a2 : Int):=od_ qa_;have q307 : a2 < (l1.length : Int):=od_ qa_;obtain ⟨ad307,e307,hx307_0⟩:=Kd.at_int HR1.out a2 p307 q307;obtain rfl : ad306 = ad307:=(by injection e307);replace hx307_0:=(HB.out.cell (wl_ w _ hx307_0)).trans hx307_0;replace p307:=eq_true p307;replace q307:=eq_true q307)))
              go_roundg k1
              case measure => have:=HK1.out;omega
              case rel => exact ⟨(x16_1),(t304),(wrap64 (x16_1 + 1)),(by first|rfl|(simp;done)|(simp [*];done)),(by first|rfl|(simp;done)|(simp [*];done)),(by first|rfl|(simp;done)|(simp [*];done)),H',⟨by have:=HK1.out;omega⟩,⟨by repeat (first|(with_reducible first|exact HB.out|apply ba_|apply bn_|apply bd_|refine bs_ ?_ GE303.out)|exact HB.out)⟩⟩
             ·rw [if_neg c19] at H
              have c19b0 : decide (t304 < x9_1) = false:=decide_eq_false c19
              clear c19
              have H':=mk_ H
              clear H
              have p302 : 0 ≤ (x16_1 : Int):=od_ qa_
              have q302 : x16_1 < (l0.length : Int):=od_ qa_
              obtain ⟨ad302,e302,hx302_0,hx302_1,hx302_2⟩:=at_T51 HR0.out x16_1 p302 q302
              cases e302
              replace hx302_0:=(HB.out.cell (wl_ w _ hx302_0)).trans hx302_0
              replace hx302_1:=(HB.out.cell (wl_ w _ hx302_1)).trans hx302_1
              replace hx302_2:=(HB.out.cell (wl_ w _ hx302_2)).trans hx302_2
              replace p302:=eq_true p302
              replace q302:=eq_true q302
              go_wp2_with (first|((with_reducible refine gate_dst (N:=11) rfl ?_);refine box_event ?hg (N:=11) ?hd (cs:=#[.int .i64 0,.int .i64 0,.int .i64 0]) (t:=51) ?hr ?_;(case hd => rfl);(case hg => rfl);(case hr => first|(go_simp;done)|(go_simp;rfl));intro gb303 hg w24 hbox hb;have n0_:=mk_ (st_ (qb_ HB) hb);have n1_:=mk_ (hbox);have n2_:=mk_ ((by rw [hg];exact (bz_ (qb_ HB)) : w.heap.size ≤ gb303));have n3_:=mk_ ((by rw [hg];exact (bz_ (qb_ HB)) : w.heap.size ≤ gb303));clear HB;have HB:=n0_;have BK303:=n1_;have GW303:=n2_;have GE303:=n3_;clear n0_ n1_ n2_ n3_;clear hb hbox hg;have hcz25_0 : w24.cell? ⟨gb303,0,none⟩ = some (.int .i64 0):=(bc_ BK303.out 0).trans rfl;have hcz25_1 : w24.cell? ⟨gb303,1,none⟩ = some (.int .i64 0):=(bc_ BK303.out 1).trans rfl;have hcz25_2 : w24.cell? ⟨gb303,2,none⟩ = some (.int .i64 0):=(bc_ BK303.out 2).trans rfl;have hfz25_0:=bf_ BK303.out 0;have hfz25_1:=bf_ BK303.out 1;have hfz25_2:=bf_ BK303.out 2)|(go_at_call 82;(with_reducible refine (impl_Cable_other.calls ((rd_T51 l0 x16_1).f0) ((rd_T51 l0 x16_1).f1) ((rd_T51 l0 x16_1).f2) a2 t304 true _ A7.out).mono ?_);rintro e w26 ⟨rfl,hb⟩;have n0_:=mk_ (blk_below (g:=gb303) (o:=.cells #[.int .i64 ((rd_T51 l0 x16_1).f0),.int .i64 ((rd_T51 l0 x16_1).f1),.int .i64 ((rd_T51 l0 x16_1).f2)] 51 (0,0)) (by (with_reducible repeat (first|refine kn_ ?_ _|refine kd_ ?_|refine ka_ ?_ _));refine blk_put (cs:=#[.int .i64 ((rd_T51 l0 x16_1).f0),.int .i64 ((rd_T51 l0 x16_1).f1),.int .i64 0]) ?_ 2 _ rfl;(with_reducible repeat (first|refine kn_ ?_ _|refine kd_ ?_|refine ka_ ?_ _));refine blk_put (cs:=#[.int .i64 ((rd_T51 l0 x16_1).f0),.int .i64 0,.int .i64 0]) ?_ 1 _ rfl;(with_reducible repeat (first|refine kn_ ?_ _|refine kd_ ?_|refine ka_ ?_ _));refine blk_put (cs:=#[.int .i64 0,.int .i64 0,.int .i64 0]) ?_ 0 _ rfl;(with_reducible repeat (first|refine kn_ ?_ _|refine kd_ ?_|refine ka_ ?_ _));exact BK303.out) hb);have n1_:=mk_ (st_ (qc_ HB GE303) hb);clear BK303;clear HB;have BK303:=n0_;have HB:=n1_;clear n0_ n1_;(try clear hb);(try clear hb2);(try clear hk);(try clear hi);have p306 : 0 ≤ (t304 : Int):=od_ qa_;have q306 : t304 < (l1.length : Int):=od_ qa_;obtain ⟨ad306,e306,hx306_0⟩:=Kd.at_int HR1.out t304 p306 q306;cases e306;replace hx306_0:=(HB.out.cell (wl_ w _ hx306_0)).trans hx306_0;replace p306:=eq_true p306;replace q306:=eq_true q306;have hcz27_0 : w26.cell? ⟨gb303,0,none⟩ = some (.int .i64 ((rd_T51 l0 x16_1).f0)):=(bc_ BK303.out 0).trans rfl;have hcz27_1 : w26.cell? ⟨gb303,1,none⟩ = some (.int .i64 ((rd_T51 l0 x16_1).f1)):=(bc_ BK303.out 1).trans rfl;have hcz27_2 : w26.cell? ⟨gb303,2,none⟩ = some (.int .i64 ((rd_T51 l0 x16_1).f2)):=(bc_ BK303.out 2).trans rfl;have hfz27_0:=bf_ BK303.out 0;have hfz27_1:=bf_ BK303.out 1;have hfz27_2:=bf_ BK303.out 2;have p307 : 0 ≤ (a2 : Int):=od_ qa_;have q307 : a2 < (l1.length : Int):=od_ qa_;obtain ⟨ad307,e307,hx307_0⟩:=Kd.at_int HR1.out a2 p307 q307;obtain rfl : ad306 = ad307:=(by injection e307);replace hx307_0:=(HB.out.cell (wl_ w _ hx307_0)).trans hx307_0;replace p307:=eq_true p307;replace q307:=eq_true q307))
              repeat (go_quiet (first|((with_reducible refine gate_dst (N:=11) rfl ?_);refine box_event ?hg (N:=11) ?hd (cs:=#[.int .i64 0,.int .i64 0,.int .i64 0]) (t:=51) ?hr ?_;(case hd => rfl);(case hg => rfl);(case hr => first|(go_simp;done)|(go_simp;rfl));intro gb303 hg w24 hbox hb;have n0_:=mk_ (st_ (qb_ HB) hb);have n1_:=mk_ (hbox);have n2_:=mk_ ((by rw [hg];exact (bz_ (qb_ HB)) : w.heap.size ≤ gb303));have n3_:=mk_ ((by rw [hg];exact (bz_ (qb_ HB)) : w.heap.size ≤ gb303));clear HB;have HB:=n0_;have BK303:=n1_;have GW303:=n2_;have GE303:=n3_;clear n0_ n1_ n2_ n3_;clear hb hbox hg;have hcz25_0 : w24.cell? ⟨gb303,0,none⟩ = some (.int .i64 0):=(bc_ BK303.out 0).trans rfl;have hcz25_1 : w24.cell? ⟨gb303,1,none⟩ = some (.int .i64 0):=(bc_ BK303.out 1).trans rfl;have hcz25_2 : w24.cell? ⟨gb303,2,none⟩ = some (.int .i64 0):=(bc_ BK303.out 2).trans rfl;have hfz25_0:=bf_ BK303.out 0;have hfz25_1:=bf_ BK303.out 1;have hfz25_2:=bf_ BK303.out 2)|(go_at_call 82;(with_reducible refine (impl_Cable_other.calls ((rd_T51 l0 x16_1).f0) ((rd_T51 l0 x16_1).f1) ((rd_T51 l0 x16_1).f2) a2 t304 true _ A7.out).mono ?_);rintro e w26 ⟨rfl,hb⟩;have n0_:=mk_ (blk_below (g:=gb303) (o:=.cells #[.int .i64 ((rd_T51 l0 x16_1).f0),.int .i64 ((rd_T51 l0 x16_1).f1),.int .i64 ((rd_T51 l0 x16_1).f2)] 51 (0,0)) (by (with_reducible repeat (first|refine kn_ ?_ _|refine kd_ ?_|refine ka_ ?_ _));refine blk_put (cs:=#[.int .i64 ((rd_T51 l0 x16_1).f0),.int .i64 ((rd_T51 l0 x16_1).f1),.int .i64 0]) ?_ 2 _ rfl;(with_reducible repeat (first|refine kn_ ?_ _|refine kd_ ?_|refine ka_ ?_ _));refine blk_put (cs:=#[.int .i64 ((rd_T51 l0 x16_1).f0),.int .i64 0,.int .i64 0]) ?_ 1 _ rfl;(with_reducible repeat (first|refine kn_ ?_ _|refine kd_ ?_|refine ka_ ?_ _));refine blk_put (cs:=#[.int .i64 0,.int .i64 0,.int .i64 0]) ?_ 0 _ rfl;(with_reducible repeat (first|refine kn_ ?_ _|refine kd_ ?_|refine ka_ ?_ _));exact BK303.out) hb);have n1_:=mk_ (st_ (qc_ HB GE303) hb);clear BK303;clear HB;have BK303:=n0_;have HB:=n1_;clear n0_ n1_;(try clear hb);(try clear hb2);(try clear hk);(try clear hi);have p306 : 0 ≤ (t304 : Int):=od_ qa_;have q306 : t304 < (l1.length : Int):=od_ qa_;obtain ⟨ad306,e306,hx306_0⟩:=Kd.at_int HR1.out t304 p306 q306;cases e306;replace hx306_0:=(HB.out.cell (wl_ w _ hx306_0)).trans hx306_0;replace p306:=eq_true p306;replace q306:=eq_true q306;have hcz27_0 : w26.cell? ⟨gb303,0,none⟩ = some (.int .i64 ((rd_T51 l0 x16_1).f0)):=(bc_ BK303.out 0).trans rfl;have hcz27_1 : w26.cell? ⟨gb303,1,none⟩ = some (.int .i64 ((rd_T51 l0 x16_1).f1)):=(bc_ BK303.out 1).trans rfl;have hcz27_2 : w26.cell? ⟨gb303,2,none⟩ = some (.int .i64 ((rd_T51 l0 x16_1).f2)):=(bc_ BK303.out 2).trans rfl;have hfz27_0:=bf_ BK303.out 0;have hfz27_1:=bf_ BK303.out 1;have hfz27_2:=bf_ BK303.out 2;have p307 : 0 ≤ (a2 : Int):=od_ qa_;have q307 : a2 < (l1.length : Int):=od_ qa_;obtain ⟨ad307,e307,hx307_0⟩:=Kd.at_int HR1.out a2 p307 q307;obtain rfl : ad306 = ad307:=(by injection e307);replace hx307_0:=(HB.out.cell (wl_ w _ hx307_0)).trans hx307_0;replace p307:=eq_true p307;replace q307:=eq_true q307));try go_wp2_with (first|((with_reducible refine gate_dst (N:=11) rfl ?_);refine box_event ?hg (N:=11) ?hd (cs:=#[.int .i64 0,.int .i64 0,.int .i64 0]) (t:=51) ?hr ?_;(case hd => rfl);(case hg => rfl);(case hr => first|(go_simp;done)|(go_simp;rfl));intro gb303 hg w24 hbox hb;have n0_:=mk_ (st_ (qb_ HB) hb);have n1_:=mk_ (hbox);have n2_:=mk_ ((by rw [hg];exact (bz_ (qb_ HB)) : w.heap.size ≤ gb303));have n3_:=mk_ ((by rw [hg];exact (bz_ (qb_ HB)) : w.heap.size ≤ gb303));clear HB;have HB:=n0_;have BK303:=n1_;have GW303:=n2_;have GE303:=n3_;clear n0_ n1_ n2_ n3_;clear hb hbox hg;have hcz25_0 : w24.cell? ⟨gb303,0,none⟩ = some (.int .i64 0):=(bc_ BK303.out 0).trans rfl;have hcz25_1 : w24.cell? ⟨gb303,1,none⟩ = some (.int .i64 0):=(bc_ BK303.out 1).trans rfl;have hcz25_2 : w24.cell? ⟨gb303,2,none⟩ = some (.int .i64 0):=(bc_ BK303.out 2).trans rfl;have hfz25_0:=bf_ BK303.out 0;have hfz25_1:=bf_ BK303.out 1;have hfz25_2:=bf_ BK303.out 2)|(go_at_call 82;(with_reducible refine (impl_Cable_other.calls ((rd_T51 l0 x16_1).f0) ((rd_T51 l0 x16_1).f1) ((rd_T51 l0 x16_1).f2) a2 t304 true _ A7.out).mono ?_);rintro e w26 ⟨rfl,hb⟩;have n0_:=mk_ (blk_below (g:=gb303) (o:=.cells #[.int .i64 ((rd_T51 l0 x16_1).f0),.int .i64 ((rd_T51 l0 x16_1).f1),.int .i64 ((rd_T51 l0 x16_1).f2)] 51 (0,0)) (by (with_reducible repeat (first|refine kn_ ?_ _|refine kd_ ?_|refine ka_ ?_ _));refine blk_put (cs:=#[.int .i64 ((rd_T51 l0 x16_1).f0),.int .i64 ((rd_T51 l0 x16_1).f1),.int .i64 0]) ?_ 2 _ rfl;(with_reducible repeat (first|refine kn_ ?_ _|refine kd_ ?_|refine ka_ ?_ _));refine blk_put (cs:=#[.int .i64 ((rd_T51 l0 x16_1).f0),.int .i64 0,.int .i64 0]) ?_ 1 _ rfl;(with_reducible repeat (first|refine kn_ ?_ _|refine kd_ ?_|refine ka_ ?_ _));refine blk_put (cs:=#[.int .i64 0,.int .i64 0,.int .i64 0]) ?_ 0 _ rfl;(with_reducible repeat (first|refine kn_ ?_ _|refine kd_ ?_|refine ka_ ?_ _));exact BK303.out) hb);have n1_:=mk_ (st_ (qc_ HB GE303) hb);clear BK303;clear HB;have BK303:=n0_;have HB:=n1_;clear n0_ n1_;(try clear hb);(try clear hb2);(try clear hk);(try clear hi);have p306 : 0 ≤ (t304 : Int):=od_ qa_;have q306 : t304 < (l1.length : Int):=od_ qa_;obtain ⟨ad306,e306,hx306_0⟩:=Kd.at_int HR1.out t304 p306 q306;cases e306;replace hx306_0:=(HB.out.cell (wl_ w _ hx306_0)).trans hx306_0;replace p306:=eq_true p306;replace q306:=eq_true q306;have hcz27_0 : w26.cell? ⟨gb303,0,none⟩ = some (.int .i64 ((rd_T51 l0 x16_1).f0)):=(bc_ BK303.out 0).trans rfl;have hcz27_1 : w26.cell? ⟨gb303,1,none⟩ = some (.int .i64 ((rd_T51 l0 x16_1).f1)):=(bc_ BK303.out 1).trans rfl;have hcz27_2 : w26.cell? ⟨gb303,2,none⟩ = some (.int .i64 ((rd_T51 l0 x16_1).f2)):=(bc_ BK303.out 2).trans rfl;have hfz27_0:=bf_ BK303.out 0;have hfz27_1:=bf_ BK303.out 1;have hfz27_2:=bf_ BK303.out 2;have p307 : 0 ≤ (a2 : Int):=od_ qa_;have q307 : a2 < (l1.length : Int):=od_ qa_;obtain ⟨ad307,e307,hx307_0⟩:=Kd.at_int HR1.out a2 p307 q307;obtain rfl : ad306 = ad307:=(by injection e307);replace hx307_0:=(HB.out.cell (wl_ w _ hx307_0)).trans hx307_0;replace p307:=eq_true p307;replace q307:=eq_true q307)))
              go_roundg k1
              case measure => have:=HK1.out;omega
              case rel => exact ⟨(x8_1),(x9_1),(wrap64 (x16_1 + 1)),(by first|rfl|(simp;done)|(simp [*];done)),(by first|rfl|(simp;done)|(simp [*];done)),(by first|rfl|(simp;done)|(simp [*];done)),H',⟨by have:=HK1.out;omega⟩,⟨by repeat (first|(with_reducible first|exact HB.out|apply ba_|apply bn_|apply bd_|refine bs_ ?_ GE303.out)|exact HB.out)⟩⟩
           ·rw [if_neg c13] at H
            have c13b0 : ((wrap64 ((rd l1 t304) + ((rd_T51 l0 x16_1).f2))) == (rd l1 a2)) = false:=beq_eq_false_iff_ne.mpr c13
            have c13b1 : ((wrap64 ((rd l1 t304) + ((rd_T51 l0 x16_1).f2))) != (rd l1 a2)) = true:=bne_iff_ne.mpr c13
            have H':=mk_ H
            clear H
            have p302 : 0 ≤ (x16_1 : Int):=od_ qa_
            have q302 : x16_1 < (l0.length : Int):=od_ qa_
            obtain ⟨ad302,e302,hx302_0,hx302_1,hx302_2⟩:=at_T51 HR0.out x16_1 p302 q302
            cases e302
            replace hx302_0:=(HB.out.cell (wl_ w _ hx302_0)).trans hx302_0
            replace hx302_1:=(HB.out.cell (wl_ w _ hx302_1)).trans hx302_1
            replace hx302_2:=(HB.out.cell (wl_ w _ hx302_2)).trans hx302_2
            replace p302:=eq_true p302
            replace q302:=eq_true q302
            go_wp2_with (first|((with_reducible refine gate_dst (N:=11) rfl ?_);refine box_event ?hg (N:=11) ?hd (cs:=#[.int .i64 0,.int .i64 0,.int .i64 0]) (t:=51) ?hr ?_;(case hd => rfl);(case hg => rfl);(case hr => first|(go_simp;done)|(go_simp;rfl));intro gb303 hg w28 hbox hb;have n0_:=mk_ (st_ (qb_ HB) hb);have n1_:=mk_ (hbox);have n2_:=mk_ ((by rw [hg];exact (bz_ (qb_ HB)) : w.heap.size ≤ gb303));have n3_:=mk_ ((by rw [hg];exact (bz_ (qb_ HB)) : w.heap.size ≤ gb303));clear HB;have HB:=n0_;have BK303:=n1_;have GW303:=n2_;have GE303:=n3_;clear n0_ n1_ n2_ n3_;clear hb hbox hg;have hcz29_0 : w28.cell? ⟨gb303,0,none⟩ = some (.int .i64 0):=(bc_ BK303.out 0).trans rfl;have hcz29_1 : w28.cell? ⟨gb303,1,none⟩ = some (.int .i64 0):=(bc_ BK303.out 1).trans rfl;have hcz29_2 : w28.cell? ⟨gb303,2,none⟩ = some (.int .i64 0):=(bc_ BK303.out 2).trans rfl;have hfz29_0:=bf_ BK303.out 0;have hfz29_1:=bf_ BK303.out 1;have hfz29_2:=bf_ BK303.out 2)|(go_at_call 82;(with_reducible refine (impl_Cable_other.calls ((rd_T51 l0 x16_1).f0) ((rd_T51 l0 x16_1).f1) ((rd_T51 l0 x16_1).f2) a2 t304 true _ A7.out).mono ?_);rintro e w30 ⟨rfl,hb⟩;have n0_:=mk_ (blk_below (g:=gb303) (o:=.cells #[.int .i64 ((rd_T51 l0 x16_1).f0),.int .i64 ((rd_T51 l0 x16_1).f1),.int .i64 ((rd_T51 l0 x16_1).f2)] 51 (0,0)) (by (with_reducible repeat (first|refine kn_ ?_ _|refine kd_ ?_|refine ka_ ?_ _));refine blk_put (cs:=#[.int .i64 ((rd_T51 l0 x16_1).f0),.int .i64 ((rd_T51 l0 x16_1).f1),.int .i64 0]) ?_ 2 _ rfl;(with_reducible repeat (first|refine kn_ ?_ _|refine kd_ ?_|refine ka_ ?_ _));refine blk_put (cs:=#[.int .i64 ((rd_T51 l0 x16_1).f0),.int .i64 0,.int .i64 0]) ?_ 1 _ rfl;(with_reducible repeat (first|refine kn_ ?_ _|refine kd_ ?_|refine ka_ ?_ _));refine blk_put (cs:=#[.int .i64 0,.int .i64 0,.int .i64 0]) ?_ 0 _ rfl;(with_reducible repeat (first|refine kn_ ?_ _|refine kd_ ?_|refine ka_ ?_ _));exact BK303.out) hb);have n1_:=mk_ (st_ (qc_ HB GE303) hb);clear BK303;clear HB;have BK303:=n0_;have HB:=n1_;clear n0_ n1_;(try clear hb);(try clear hb2);(try clear hk);(try clear hi);have p306 : 0 ≤ (t304 : Int):=od_ qa_;have q306 : t304 < (l1.length : Int):=od_ qa_;obtain ⟨ad306,e306,hx306_0⟩:=Kd.at_int HR1.out t304 p306 q306;cases e306;replace hx306_0:=(HB.out.cell (wl_ w _ hx306_0)).trans hx306_0;replace p306:=eq_true p306;replace q306:=eq_true q306;have hcz31_0 : w30.cell? ⟨gb303,0,none⟩ = some (.int .i64 ((rd_T51 l0 x16_1).f0)):=(bc_ BK303.out 0).trans rfl;have hcz31_1 : w30.cell? ⟨gb303,1,none⟩ = some (.int .i64 ((rd_T51 l0 x16_1).f1)):=(bc_ BK303.out 1).trans rfl;have hcz31_2 : w30.cell? ⟨gb303,2,none⟩ = some (.int .i64 ((rd_T51 l0 x16_1).f2)):=(bc_ BK303.out 2).trans rfl;have hfz31_0:=bf_ BK303.out 0;have hfz31_1:=bf_ BK303.out 1;have hfz31_2:=bf_ BK303.out 2;have p307 : 0 ≤ (a2 : Int):=od_ qa_;have q307 : a2 < (l1.length : Int):=od_ qa_;obtain ⟨ad307,e307,hx307_0⟩:=Kd.at_int HR1.out a2 p307 q307;obtain rfl : ad306 = ad307:=(by injection e307);replace hx307_0:=(HB.out.cell (wl_ w _ hx307_0)).trans hx307_0;replace p307:=eq_true p307;replace q307:=eq_true q307))
            repeat (go_quiet (first|((with_reducible refine gate_dst (N:=11) rfl ?_);refine box_event ?hg (N:=11) ?hd (cs:=#[.int .i64 0,.int .i64 0,.int .i64 0]) (t:=51) ?hr ?_;(case hd => rfl);(case hg => rfl);(case hr => first|(go_simp;done)|(go_simp;rfl));intro gb303 hg w28 hbox hb;have n0_:=mk_ (st_ (qb_ HB) hb);have n1_:=mk_ (hbox);have n2_:=mk_ ((by rw [hg];exact (bz_ (qb_ HB)) : w.heap.size ≤ gb303));have n3_:=mk_ ((by rw [hg];exact (bz_ (qb_ HB)) : w.heap.size ≤ gb303));clear HB;have HB:=n0_;have BK303:=n1_;have GW303:=n2_;have GE303:=n3_;clear n0_ n1_ n2_ n3_;clear hb hbox hg;have hcz29_0 : w28.cell? ⟨gb303,0,none⟩ = some (.int .i64 0):=(bc_ BK303.out 0).trans rfl;have hcz29_1 : w28.cell? ⟨gb303,1,none⟩ = some (.int .i64 0):=(bc_ BK303.out 1).trans rfl;have hcz29_2 : w28.cell? ⟨gb303,2,none⟩ = some (.int .i64 0):=(bc_ BK303.out 2).trans rfl;have hfz29_0:=bf_ BK303.out 0;have hfz29_1:=bf_ BK303.out 1;have hfz29_2:=bf_ BK303.out 2)|(go_at_call 82;(with_reducible refine (impl_Cable_other.calls ((rd_T51 l0 x16_1).f0) ((rd_T51 l0 x16_1).f1) ((rd_T51 l0 x16_1).f2) a2 t304 true _ A7.out).mono ?_);rintro e w30 ⟨rfl,hb⟩;have n0_:=mk_ (blk_below (g:=gb303) (o:=.cells #[.int .i64 ((rd_T51 l0 x16_1).f0),.int .i64 ((rd_T51 l0 x16_1).f1),.int .i64 ((rd_T51 l0 x16_1).f2)] 51 (0,0)) (by (with_reducible repeat (first|refine kn_ ?_ _|refine kd_ ?_|refine ka_ ?_ _));refine blk_put (cs:=#[.int .i64 ((rd_T51 l0 x16_1).f0),.int .i64 ((rd_T51 l0 x16_1).f1),.int .i64 0]) ?_ 2 _ rfl;(with_reducible repeat (first|refine kn_ ?_ _|refine kd_ ?_|refine ka_ ?_ _));refine blk_put (cs:=#[.int .i64 ((rd_T51 l0 x16_1).f0),.int .i64 0,.int .i64 0]) ?_ 1 _ rfl;(with_reducible repeat (first|refine kn_ ?_ _|refine kd_ ?_|refine ka_ ?_ _));refine blk_put (cs:=#[.int .i64 0,.int .i64 0,.int .i64 0]) ?_ 0 _ rfl;(with_reducible repeat (first|refine kn_ ?_ _|refine kd_ ?_|refine ka_ ?_ _));exact BK303.out) hb);have n1_:=mk_ (st_ (qc_ HB GE303) hb);clear BK303;clear HB;have BK303:=n0_;have HB:=n1_;clear n0_ n1_;(try clear hb);(try clear hb2);(try clear hk);(try clear hi);have p306 : 0 ≤ (t304 : Int):=od_ qa_;have q306 : t304 < (l1.length : Int):=od_ qa_;obtain ⟨ad306,e306,hx306_0⟩:=Kd.at_int HR1.out t304 p306 q306;cases e306;replace hx306_0:=(HB.out.cell (wl_ w _ hx306_0)).trans hx306_0;replace p306:=eq_true p306;replace q306:=eq_true q306;have hcz31_0 : w30.cell? ⟨gb303,0,none⟩ = some (.int .i64 ((rd_T51 l0 x16_1).f0)):=(bc_ BK303.out 0).trans rfl;have hcz31_1 : w30.cell? ⟨gb303,1,none⟩ = some (.int .i64 ((rd_T51 l0 x16_1).f1)):=(bc_ BK303.out 1).trans rfl;have hcz31_2 : w30.cell? ⟨gb303,2,none⟩ = some (.int .i64 ((rd_T51 l0 x16_1).f2)):=(bc_ BK303.out 2).trans rfl;have hfz31_0:=bf_ BK303.out 0;have hfz31_1:=bf_ BK303.out 1;have hfz31_2:=bf_ BK303.out 2;have p307 : 0 ≤ (a2 : Int):=od_ qa_;have q307 : a2 < (l1.length : Int):=od_ qa_;obtain ⟨ad307,e307,hx307_0⟩:=Kd.at_int HR1.out a2 p307 q307;obtain rfl : ad306 = ad307:=(by injection e307);replace hx307_0:=(HB.out.cell (wl_ w _ hx307_0)).trans hx307_0;replace p307:=eq_true p307;replace q307:=eq_true q307));try go_wp2_with (first|((with_reducible refine gate_dst (N:=11) rfl ?_);refine box_event ?hg (N:=11) ?hd (cs:=#[.int .i64 0,.int .i64 0,.int .i64 0]) (t:=51) ?hr ?_;(case hd => rfl);(case hg => rfl);(case hr => first|(go_simp;done)|(go_simp;rfl));intro gb303 hg w28 hbox hb;have n0_:=mk_ (st_ (qb_ HB) hb);have n1_:=mk_ (hbox);have n2_:=mk_ ((by rw [hg];exact (bz_ (qb_ HB)) : w.heap.size ≤ gb303));have n3_:=mk_ ((by rw [hg];exact (bz_ (qb_ HB)) : w.heap.size ≤ gb303));clear HB;have HB:=n0_;have BK303:=n1_;have GW303:=n2_;have GE303:=n3_;clear n0_ n1_ n2_ n3_;clear hb hbox hg;have hcz29_0 : w28.cell? ⟨gb303,0,none⟩ = some (.int .i64 0):=(bc_ BK303.out 0).trans rfl;have hcz29_1 : w28.cell? ⟨gb303,1,none⟩ = some (.int .i64 0):=(bc_ BK303.out 1).trans rfl;have hcz29_2 : w28.cell? ⟨gb303,2,none⟩ = some (.int .i64 0):=(bc_ BK303.out 2).trans rfl;have hfz29_0:=bf_ BK303.out 0;have hfz29_1:=bf_ BK303.out 1;have hfz29_2:=bf_ BK303.out 2)|(go_at_call 82;(with_reducible refine (impl_Cable_other.calls ((rd_T51 l0 x16_1).f0) ((rd_T51 l0 x16_1).f1) ((rd_T51 l0 x16_1).f2) a2 t304 true _ A7.out).mono ?_);rintro e w30 ⟨rfl,hb⟩;have n0_:=mk_ (blk_below (g:=gb303) (o:=.cells #[.int .i64 ((rd_T51 l0 x16_1).f0),.int .i64 ((rd_T51 l0 x16_1).f1),.int .i64 ((rd_T51 l0 x16_1).f2)] 51 (0,0)) (by (with_reducible repeat (first|refine kn_ ?_ _|refine kd_ ?_|refine ka_ ?_ _));refine blk_put (cs:=#[.int .i64 ((rd_T51 l0 x16_1).f0),.int .i64 ((rd_T51 l0 x16_1).f1),.int .i64 0]) ?_ 2 _ rfl;(with_reducible repeat (first|refine kn_ ?_ _|refine kd_ ?_|refine ka_ ?_ _));refine blk_put (cs:=#[.int .i64 ((rd_T51 l0 x16_1).f0),.int .i64 0,.int .i64 0]) ?_ 1 _ rfl;(with_reducible repeat (first|refine kn_ ?_ _|refine kd_ ?_|refine ka_ ?_ _));refine blk_put (cs:=#[.int .i64 0,.int .i64 0,.int .i64 0]) ?_ 0 _ rfl;(with_reducible repeat (first|refine kn_ ?_ _|refine kd_ ?_|refine ka_ ?_ _));exact BK303.out) hb);have n1_:=mk_ (st_ (qc_ HB GE303) hb);clear BK303;clear HB;have BK303:=n0_;have HB:=n1_;clear n0_ n1_;(try clear hb);(try clear hb2);(try clear hk);(try clear hi);have p306 : 0 ≤ (t304 : Int):=od_ qa_;have q306 : t304 < (l1.length : Int):=od_ qa_;obtain ⟨ad306,e306,hx306_0⟩:=Kd.at_int HR1.out t304 p306 q306;cases e306;replace hx306_0:=(HB.out.cell (wl_ w _ hx306_0)).trans hx306_0;replace p306:=eq_true p306;replace q306:=eq_true q306;have hcz31_0 : w30.cell? ⟨gb303,0,none⟩ = some (.int .i64 ((rd_T51 l0 x16_1).f0)):=(bc_ BK303.out 0).trans rfl;have hcz31_1 : w30.cell? ⟨gb303,1,none⟩ = some (.int .i64 ((rd_T51 l0 x16_1).f1)):=(bc_ BK303.out 1).trans rfl;have hcz31_2 : w30.cell? ⟨gb303,2,none⟩ = some (.int .i64 ((rd_T51 l0 x16_1).f2)):=(bc_ BK303.out 2).trans rfl;have hfz31_0:=bf_ BK303.out 0;have hfz31_1:=bf_ BK303.out 1;have hfz31_2:=bf_ BK303.out 2;have p307 : 0 ≤ (a2 : Int):=od_ qa_;have q307 : a2 < (l1.length : Int):=od_ qa_;obtain ⟨ad307,e307,hx307_0⟩:=Kd.at_int HR1.out a2 p307 q307;obtain rfl : ad306 = ad307:=(by injection e307);replace hx307_0:=(HB.out.cell (wl_ w _ hx307_0)).trans hx307_0;replace p307:=eq_true p307;replace q307:=eq_true q307)))
            go_roundg k1
            case measure => have:=HK1.out;omega
            case rel => exact ⟨(x8_1),(x9_1),(wrap64 (x16_1 + 1)),(by first|rfl|(simp;done)|(simp [*];done)),(by first|rfl|(simp;done)|(simp [*];done)),(by first|rfl|(simp;done)|(simp [*];done)),H',⟨by have:=HK1.out;omega⟩,⟨by repeat (first|(with_reducible first|exact HB.out|apply ba_|apply bn_|apply bd_|refine bs_ ?_ GE303.out)|exact HB.out)⟩⟩
          ·rw [if_neg c12] at H
           exact absurd H (by simp)
         ·rw [if_neg c11] at H
          exact absurd H (by simp)
        ·rw [if_neg c10] at H
         exact absurd H (by simp)
       ·rw [if_neg c9] at H
        exact absurd H (by simp)
      ·replace c8:=Bool.eq_false_iff.mpr c8
       subst c8
       have H1 : (impl_upOf.l0 k1 l1 a2 x8_1 x9_1 l0 (l0.length : Int) (wrap64 (x16_1 + 1))) = some (r1,r2):=by rw [if_neg (show ¬ (false = true) by decide)] at H;exact H
       clear H
       have H:=H1
       clear H1
       have H':=mk_ H
       clear H
       have p302 : 0 ≤ (x16_1 : Int):=od_ qa_
       have q302 : x16_1 < (l0.length : Int):=od_ qa_
       obtain ⟨ad302,e302,hx302_0,hx302_1,hx302_2⟩:=at_T51 HR0.out x16_1 p302 q302
       cases e302
       replace hx302_0:=(HB.out.cell (wl_ w _ hx302_0)).trans hx302_0
       replace hx302_1:=(HB.out.cell (wl_ w _ hx302_1)).trans hx302_1
       replace hx302_2:=(HB.out.cell (wl_ w _ hx302_2)).trans hx302_2
       replace p302:=eq_true p302
       replace q302:=eq_true q302
       go_wp2_with (first|((with_reducible refine gate_dst (N:=11) rfl ?_);refine box_event ?hg (N:=11) ?hd (cs:=#[.int .i64 0,.int .i64 0,.int .i64 0]) (t:=51) ?hr ?_;(case hd => rfl);(case hg => rfl);(case hr => first|(go_simp;done)|(go_simp;rfl));intro gb303 hg w32 hbox hb;have n0_:=mk_ (st_ (qb_ HB) hb);have n1_:=mk_ (hbox);have n2_:=mk_ ((by rw [hg];exact (bz_ (qb_ HB)) : w.heap.size ≤ gb303));have n3_:=mk_ ((by rw [hg];exact (bz_ (qb_ HB)) : w.heap.size ≤ gb303));clear HB;have HB:=n0_;have BK303:=n1_;have GW303:=n2_;have GE303:=n3_;clear n0_ n1_ n2_ n3_;clear hb hbox hg;have hcz33_0 : w32.cell? ⟨gb303,0,none⟩ = some (.int .i64 0):=(bc_ BK303.out 0).trans rfl;have hcz33_1 : w32.cell? ⟨gb303,1,none⟩ = some (.int .i64 0):=(bc_ BK303.out 1).trans rfl;have hcz33_2 : w32.cell? ⟨gb303,2,none⟩ = some (.int .i64 0):=(bc_ BK303.out 2).trans rfl;have hfz33_0:=bf_ BK303.out 0;have hfz33_1:=bf_ BK303.out 1;have hfz33_2:=bf_ BK303.out 2)|(go_at_call 82;(with_reducible refine (impl_Cable_other.calls ((rd_T51 l0 x16_1).f0) ((rd_T51 l0 x16_1).f1) ((rd_T51 l0 x16_1).f2) a2 t304 false _ A7.out).mono ?_);rintro e w34 ⟨rfl,hb⟩;have n0_:=mk_ (blk_below (g:=gb303) (o:=.cells #[.int .i64 ((rd_T51 l0 x16_1).f0),.int .i64 ((rd_T51 l0 x16_1).f1),.int .i64 ((rd_T51 l0 x16_1).f2)] 51 (0,0)) (by (with_reducible repeat (first|refine kn_ ?_ _|refine kd_ ?_|refine ka_ ?_ _));refine blk_put (cs:=#[.int .i64 ((rd_T51 l0 x16_1).f0),.int .i64 ((rd_T51 l0 x16_1).f1),.int .i64 0]) ?_ 2 _ rfl;(with_reducible repeat (first|refine kn_ ?_ _|refine kd_ ?_|refine ka_ ?_ _));refine blk_put (cs:=#[.int .i64 ((rd_T51 l0 x16_1).f0),.int .i64 0,.int .i64 0]) ?_ 1 _ rfl;(with_reducible repeat (first|refine kn_ ?_ _|refine kd_ ?_|refine ka_ ?_ _));refine blk_put (cs:=#[.int .i64 0,.int .i64 0,.int .i64 0]) ?_ 0 _ rfl;(with_reducible repeat (first|refine kn_ ?_ _|refine kd_ ?_|refine ka_ ?_ _));exact BK303.out) hb);have n1_:=mk_ (st_ (qc_ HB GE303) hb);clear BK303;clear HB;have BK303:=n0_;have HB:=n1_;clear n0_ n1_;(try clear hb);(try clear hb2);(try clear hk);(try clear hi)))
       repeat (go_quiet (first|((with_reducible refine gate_dst (N:=11) rfl ?_);refine box_event ?hg (N:=11) ?hd (cs:=#[.int .i64 0,.int .i64 0,.int .i64 0]) (t:=51) ?hr ?_;(case hd => rfl);(case hg => rfl);(case hr => first|(go_simp;done)|(go_simp;rfl));intro gb303 hg w32 hbox hb;have n0_:=mk_ (st_ (qb_ HB) hb);have n1_:=mk_ (hbox);have n2_:=mk_ ((by rw [hg];exact (bz_ (qb_ HB)) : w.heap.size ≤ gb303));have n3_:=mk_ ((by rw [hg];exact (bz_ (qb_ HB)) : w.heap.size ≤ gb303));clear HB;have HB:=n0_;have BK303:=n1_;have GW303:=n2_;have GE303:=n3_;clear n0_ n1_ n2_ n3_;clear hb hbox hg;have hcz33_0 : w32.cell? ⟨gb303,0,none⟩ = some (.int .i64 0):=(bc_ BK303.out 0).trans rfl;have hcz33_1 : w32.cell? ⟨gb303,1,none⟩ = some (.int .i64 0):=(bc_ BK303.out 1).trans rfl;have hcz33_2 : w32.cell? ⟨gb303,2,none⟩ = some (.int .i64 0):=(bc_ BK303.out 2).trans rfl;have hfz33_0:=bf_ BK303.out 0;have hfz33_1:=bf_ BK303.out 1;have hfz33_2:=bf_ BK303.out 2)|(go_at_call 82;(with_reducible refine (impl_Cable_other.calls ((rd_T51 l0 x16_1).f0) ((rd_T51 l0 x16_1).f1) ((rd_T51 l0 x16_1).f2) a2 t304 false _ A7.out).mono ?_);rintro e w34 ⟨rfl,hb⟩;have n0_:=mk_ (blk_below (g:=gb303) (o:=.cells #[.int .i64 ((rd_T51 l0 x16_1).f0),.int .i64 ((rd_T51 l0 x16_1).f1),.int .i64 ((rd_T51 l0 x16_1).f2)] 51 (0,0)) (by (with_reducible repeat (first|refine kn_ ?_ _|refine kd_ ?_|refine ka_ ?_ _));refine blk_put (cs:=#[.int .i64 ((rd_T51 l0 x16_1).f0),.int .i64 ((rd_T51 l0 x16_1).f1),.int .i64 0]) ?_ 2 _ rfl;(with_reducible repeat (first|refine kn_ ?_ _|refine kd_ ?_|refine ka_ ?_ _));refine blk_put (cs:=#[.int .i64 ((rd_T51 l0 x16_1).f0),.int .i64 0,.int .i64 0]) ?_ 1 _ rfl;(with_reducible repeat (first|refine kn_ ?_ _|refine kd_ ?_|refine ka_ ?_ _));refine blk_put (cs:=#[.int .i64 0,.int .i64 0,.int .i64 0]) ?_ 0 _ rfl;(with_reducible repeat (first|refine kn_ ?_ _|refine kd_ ?_|refine ka_ ?_ _));exact BK303.out) hb);have n1_:=mk_ (st_ (qc_ HB GE303) hb);clear BK303;clear HB;have BK303:=n0_;have HB:=n1_;clear n0_ n1_;(try clear hb);(try clear hb2);(try clear hk);(try clear hi)));try go_wp2_with (first|((with_reducible refine gate_dst (N:=11) rfl ?_);refine box_event ?hg (N:=11) ?hd (cs:=#[.int .i64 0,.int .i64 0,.int .i64 0]) (t:=51) ?hr ?_;(case hd => rfl);(case hg => rfl);(case hr => first|(go_simp;done)|(go_simp;rfl));intro gb303 hg w32 hbox hb;have n0_:=mk_ (st_ (qb_ HB) hb);have n1_:=mk_ (hbox);have n2_:=mk_ ((by rw [hg];exact (bz_ (qb_ HB)) : w.heap.size ≤ gb303));have n3_:=mk_ ((by rw [hg];exact (bz_ (qb_ HB)) : w.heap.size ≤ gb303));clear HB;have HB:=n0_;have BK303:=n1_;have GW303:=n2_;have GE303:=n3_;clear n0_ n1_ n2_ n3_;clear hb hbox hg;have hcz33_0 : w32.cell? ⟨gb303,0,none⟩ = some (.int .i64 0):=(bc_ BK303.out 0).trans rfl;have hcz33_1 : w32.cell? ⟨gb303,1,none⟩ = some (.int .i64 0):=(bc_ BK303.out 1).trans rfl;have hcz33_2 : w32.cell? ⟨gb303,2,none⟩ = some (.int .i64 0):=(bc_ BK303.out 2).trans rfl;have hfz33_0:=bf_ BK303.out 0;have hfz33_1:=bf_ BK303.out 1;have hfz33_2:=bf_ BK303.out 2)|(go_at_call 82;(with_reducible refine (impl_Cable_other.calls ((rd_T51 l0 x16_1).f0) ((rd_T51 l0 x16_1).f1) ((rd_T51 l0 x16_1).f2) a2 t304 false _ A7.out).mono ?_);rintro e w34 ⟨rfl,hb⟩;have n0_:=mk_ (blk_below (g:=gb303) (o:=.cells #[.int .i64 ((rd_T51 l0 x16_1).f0),.int .i64 ((rd_T51 l0 x16_1).f1),.int .i64 ((rd_T51 l0 x16_1).f2)] 51 (0,0)) (by (with_reducible repeat (first|refine kn_ ?_ _|refine kd_ ?_|refine ka_ ?_ _));refine blk_put (cs:=#[.int .i64 ((rd_T51 l0 x16_1).f0),.int .i64 ((rd_T51 l0 x16_1).f1),.int .i64 0]) ?_ 2 _ rfl;(with_reducible repeat (first|refine kn_ ?_ _|refine kd_ ?_|refine ka_ ?_ _));refine blk_put (cs:=#[.int .i64 ((rd_T51 l0 x16_1).f0),.int .i64 0,.int .i64 0]) ?_ 1 _ rfl;(with_reducible repeat (first|refine kn_ ?_ _|refine kd_ ?_|refine ka_ ?_ _));refine blk_put (cs:=#[.int .i64 0,.int .i64 0,.int .i64 0]) ?_ 0 _ rfl;(with_reducible repeat (first|refine kn_ ?_ _|refine kd_ ?_|refine ka_ ?_ _));exact BK303.out) hb);have n1_:=mk_ (st_ (qc_ HB GE303) hb);clear BK303;clear HB;have BK303:=n0_;have HB:=n1_;clear n0_ n1_;(try clear hb);(try clear hb2);(try clear hk);(try clear hi))))
       go_roundg k1
       case measure => have:=HK1.out;omega
       case rel => exact ⟨(x8_1),(x9_1),(wrap64 (x16_1 + 1)),(by first|rfl|(simp;done)|(simp [*];done)),(by first|rfl|(simp;done)|(simp [*];done)),(by first|rfl|(simp;done)|(simp [*];done)),H',⟨by have:=HK1.out;omega⟩,⟨by repeat (first|(with_reducible first|exact HB.out|apply ba_|apply bn_|apply bd_|refine bs_ ?_ GE303.out)|exact HB.out)⟩⟩
     ·rw [if_neg c6] at H
      exact absurd H (by simp)
    ·rw [if_neg c5] at H
     exact absurd H (by simp)
   ·rw [if_neg c4] at H
    have c4b0 : decide (x16_1 < (l0.length : Int)) = false:=decide_eq_false c4
    clear c4
    simp only [Option.some.injEq,Prod.mk.injEq] at H
    obtain ⟨rfl,rfl⟩:=H
    go_wp2
    repeat (go_quiet (fail);try go_wp2)
    go_ret2
    exact ⟨by first|rfl|(simp [errW_none,errW_some] <;> rfl)|(simp [*,errW_none,errW_some] <;> rfl),by repeat (first|(with_reducible first|exact HB.out|apply ba_|apply bn_|apply bd_)|exact HB.out)⟩

/-! ### impl_Net_ups: function 66 -/
def impl_Net_ups.l0 : Nat → Int → List Int → List Int → Int → List (S51) → List Int → List Int → Option (List Int)
 | 0,_,_,_,_,_,_,_ => none
 | k + 1,x1,x5,x6,x309000,x309001,x309002,x309003 => (impl_upOf.f k x309001 x5 x1).bind fun bt312 => (if bt312.1 < 0 then (some x6) else (if x6.length < 17592186044416 then (impl_Net_ups.l0 k bt312.2 x5 (x6 ++ [bt312.1]) x309000 x309001 x309002 x309003) else (none)))
def impl_Net_ups.f (k : Nat) (a0_0 : Int) (l0_1 : List (S51)) (l0_2 : List Int) (l0_3 : List Int) (a1 : Int) : Option (List Int):=(impl_costsOf.f k a0_0 l0_1).bind fun t309 => (impl_Net_ups.l0 k a1 t309 ([] : List Int) a0_0 l0_1 l0_2 l0_3)
theorem impl_Net_ups.mono_l : ∀ k,(∀ y0 y1 y2 y3 y4 y5 y6,LeO (impl_Net_ups.l0 k y0 y1 y2 y3 y4 y5 y6) (impl_Net_ups.l0 (k + 1) y0 y1 y2 y3 y4 y5 y6))
 | 0 => fun _ _ _ _ _ _ _ r h => by simp [impl_Net_ups.l0] at h
 | k + 1 => by
  have ih0:=impl_Net_ups.mono_l k
  ·intro y0 y1 y2 y3 y4 y5 y6
   unfold impl_Net_ups.l0
   repeat' first
   | (with_reducible exact ih0 _ _ _ _ _ _ _)
   | (with_reducible exact impl_costsOf.mono _ _ _)
   | (with_reducible exact impl_upOf.mono _ _ _ _)
   | (with_reducible exact LeO.refl _)
   | (with_reducible exact LeO.none _)
   | (with_reducible refine LeO.ite ?_ ?_)
   | (with_reducible refine LeO.bind ?_ (fun _ => ?_))
   | exact ih0 _ _ _ _ _ _ _
   | exact impl_costsOf.mono _ _ _
   | exact impl_upOf.mono _ _ _ _
   | exact LeO.none _
   | refine LeO.ite ?_ ?_
   | refine LeO.bind ?_ (fun _ => ?_)
theorem impl_Net_ups.mono : ∀ a0 a1 a2 a3 a4 k,LeO (impl_Net_ups.f k a0 a1 a2 a3 a4) (impl_Net_ups.f (k + 1) a0 a1 a2 a3 a4):=by
 intro a0 a1 a2 a3 a4 k
 have ih0:=impl_Net_ups.mono_l k
 unfold impl_Net_ups.f
 repeat' first
   | (with_reducible exact ih0 _ _ _ _ _ _ _)
   | (with_reducible exact impl_costsOf.mono _ _ _)
   | (with_reducible exact impl_upOf.mono _ _ _ _)
   | (with_reducible exact LeO.refl _)
   | (with_reducible exact LeO.none _)
   | (with_reducible refine LeO.ite ?_ ?_)
   | (with_reducible refine LeO.bind ?_ (fun _ => ?_))
   | exact ih0 _ _ _ _ _ _ _
   | exact impl_costsOf.mono _ _ _
   | exact impl_upOf.mono _ _ _ _
   | exact LeO.none _
   | refine LeO.ite ?_ ?_
   | refine LeO.bind ?_ (fun _ => ?_)
set_option maxHeartbeats 8000000 in
set_option maxRecDepth 100000 in
theorem impl_Net_ups.calls (k : Nat) (a0_0 : Int) (A0_1 : Option Addr) (c0_1 : Nat) (l0_1 : List (S51)) (A0_2 : Option Addr) (c0_2 : Nat) (l0_2 : List Int) (A0_3 : Option Addr) (c0_3 : Nat) (l0_3 : List Int) (a1 : Int) (r : List Int) (w : World) (hr0_1 : Kd.C k51 w A0_1 l0_1.length l0_1) (hc0_1 : l0_1.length ≤ c0_1) (hr0_2 : Kd.C (Kd.int .i64) w A0_2 l0_2.length l0_2) (hc0_2 : l0_2.length ≤ c0_2) (hr0_3 : Kd.C (Kd.int .i64) w A0_3 l0_3.length l0_3) (hc0_3 : l0_3.length ≤ c0_3) (h : impl_Net_ups.f k a0_0 l0_1 l0_2 l0_3 a1 = some r) :
  Calls Try.prog 66 #[.agg #[.int .i64 a0_0,.slice A0_1 l0_1.length c0_1,.slice A0_2 l0_2.length c0_2,.slice A0_3 l0_3.length c0_3],.int .i64 a1] w fun e w' => ∃ v0_ : Value,e = .returned (v0_) ∧ Kd.R (Kd.int .i64) 3 w' w.heap.size (fun _ => True) v0_ r ∧ Below w.heap.size w w':=by
 have hu30:=Try.underlying30
 have HR0_1:=mk_ hr0_1
 have HC0_1:=mk_ hc0_1
 clear hr0_1 hc0_1
 have HR0_2:=mk_ hr0_2
 have HC0_2:=mk_ hc0_2
 clear hr0_2 hc0_2
 have HR0_3:=mk_ hr0_3
 have HC0_3:=mk_ hc0_3
 clear hr0_3 hc0_3
 have HB:=mk_ (Below.refl w.heap.size w)
 have H : ((impl_costsOf.f k a0_0 l0_1).bind fun t309 => (impl_Net_ups.l0 k a1 t309 ([] : List Int) a0_0 l0_1 l0_2 l0_3)) = some r:=h
 clear h
 replace H:=Option.bind_eq_some_iff.mp H
 obtain ⟨t309,A30,H⟩:=H
 replace H : (impl_Net_ups.l0 k a1 t309 ([] : List Int) a0_0 l0_1 l0_2 l0_3) = some r:=H
 have A3:=mk_ A30
 clear A30
 have H':=mk_ H
 clear H
 go_enter Try.func66,Try.ntmps66
 go_wp2_with (first|((with_reducible refine gate_dst (N:=2) rfl ?_);refine box_event ?hg (N:=2) ?hd (cs:=#[.int .i64 a0_0,.slice A0_1 l0_1.length c0_1,.slice A0_2 l0_2.length c0_2,.slice A0_3 l0_3.length c0_3]) (t:=30) ?hr ?_;(case hd => rfl);(case hg => rfl);(case hr => first|(go_simp;done)|(go_simp;rfl));intro gb308 hg w4 hbox hb;have n0_:=mk_ (st_ (qb_ HB) hb);have n1_:=mk_ (hbox);have n2_:=mk_ ((by rw [hg];exact (bz_ (qb_ HB)) : w.heap.size ≤ gb308));have n3_:=mk_ ((by rw [hg];exact (bz_ (qb_ HB)) : w.heap.size ≤ gb308));clear HB;have HB:=n0_;have BK308:=n1_;have GW308:=n2_;have GE308:=n3_;clear n0_ n1_ n2_ n3_;clear hb hbox hg;have hcz5_0 : w4.cell? ⟨gb308,0,none⟩ = some (.int .i64 a0_0):=(bc_ BK308.out 0).trans rfl;have hcz5_1 : w4.cell? ⟨gb308,1,none⟩ = some (.slice A0_1 l0_1.length c0_1):=(bc_ BK308.out 1).trans rfl;have hcz5_2 : w4.cell? ⟨gb308,2,none⟩ = some (.slice A0_2 l0_2.length c0_2):=(bc_ BK308.out 2).trans rfl;have hcz5_3 : w4.cell? ⟨gb308,3,none⟩ = some (.slice A0_3 l0_3.length c0_3):=(bc_ BK308.out 3).trans rfl;have hfz5_0:=bf_ BK308.out 0;have hfz5_1:=bf_ BK308.out 1;have hfz5_2:=bf_ BK308.out 2;have hfz5_3:=bf_ BK308.out 3)|((with_reducible refine gate_callee (f:=62) rfl ?_);refine goesL_ (some 13) rfl rfl Try.func62 (by kernel_rfl) rfl #[.int .i64 a0_0,.slice A0_1 l0_1.length c0_1] rfl qm_ ?_;(with_reducible refine (impl_costsOf.calls k a0_0 _ _ l0_1 t309 _ ?side1 ?side2 A3.out).mono ?_);(case side1 => repeat (first|exact (cb_ HR0_1.out HB.out)|(with_reducible refine ca_ ?_ _)|(with_reducible refine cn_ ?_ _)|(with_reducible refine cd_ ?_)));(case side2 => exact HC0_1.out);rintro e w6 ⟨v310,rfl,ho0,hb⟩;refine ⟨_,rfl,?_⟩;have n0_:=mk_ (Kd.R_lower ho0 (bz_ (qc_ HB GE308)));have n1_:=mk_ (blk_below (g:=gb308) (o:=.cells #[.int .i64 a0_0,.slice A0_1 l0_1.length c0_1,.slice A0_2 l0_2.length c0_2,.slice A0_3 l0_3.length c0_3] 30 (0,0)) (qk_ BK308) hb);have n2_:=mk_ (st_ (qc_ HB GE308) hb);clear BK308;clear HB;have HO311:=n0_;have BK308:=n1_;have HB:=n2_;clear n0_ n1_ n2_;(try clear hb);(try clear hb2);(try clear hk);(try clear hi);(try clear ho0)))
 go_loopg [1,6] k (fun kq v1 v6 w' => ∃ (x1_1 : Int) (x6_1 : List Int),v1 = .int .i64 x1_1 ∧ Aside0 (impl_Net_ups.l0 kq x1_1 t309 x6_1 a0_0 l0_1 l0_2 l0_3 = some r) ∧ Aside0 (kq ≤ k) ∧ Aside0 (Kd.R (Kd.int .i64) 3 w' w.heap.size (fun k_ => some k_ ≠ (v6 : Value).ownBlock) v310 t309) ∧ Aside0 (Kd.R (Kd.int .i64) 3 w' w.heap.size (fun k_ => some k_ ≠ (v310 : Value).ownBlock) v6 x6_1) ∧ Aside0 (w'.heap[gb308]? = some (.cells #[.int .i64 a0_0,(.slice A0_1 l0_1.length c0_1),(.slice A0_2 l0_2.length c0_2),(.slice A0_3 l0_3.length c0_3)] 30 (0,0))) ∧ Aside0 (Below w.heap.size w w'))
 case atStart => exact ⟨(a1),(([] : List Int)),(by first|rfl|(simp;done)|(simp [*];done)),H',⟨Nat.le_refl _⟩,⟨by (with_reducible repeat (first|apply ra_|apply rn_|apply rd_));exact rm_ HO311.out (fun _ hk => (by simp [Value.ownBlock]))⟩,⟨by first|exact Kd.R_nil _ _ _ _ _|exact Kd.N_nil _ _ _ _ _|exact Kd.V_nil _ _ _ _ _|exact Kd.Q_nil _ _ _ _ _|exact Kd.S_nil _ _ _ _ _⟩,⟨by (with_reducible repeat (first|refine kn_ ?_ _|refine kd_ ?_|refine ka_ ?_ _));exact BK308.out⟩,⟨by repeat (first|(with_reducible first|exact HB.out|apply ba_|apply bn_|apply bd_|refine bs_ ?_ GE308.out)|exact HB.out)⟩⟩
 case round =>
  clear H'
  try clear p2
  try clear c6
  try clear hcz5_0
  try clear hcz5_1
  try clear hcz5_2
  try clear hcz5_3
  try clear hfz5_0
  try clear hfz5_1
  try clear hfz5_2
  try clear hfz5_3
  obtain ⟨x1_1,x6_1,rfl,HA,HK1,HO_5,HO_6,BK308,HB⟩:=hrel
  cases gk with
  | zero => exact absurd HA.out (by simp [impl_Net_ups.l0])
  | succ k1 =>
   have H:=HA.out
   clear HA
   simp only [impl_Net_ups.l0] at H
   replace H:=Option.bind_eq_some_iff.mp H
   obtain ⟨⟨t312,t313⟩,A70,H⟩:=H
   replace H : (if t312 < 0 then (some x6_1) else (if x6_1.length < 17592186044416 then (impl_Net_ups.l0 k1 t313 t309 (x6_1 ++ [t312]) a0_0 l0_1 l0_2 l0_3) else (none))) = some r:=H
   have A7:=mk_ A70
   clear A70
   by_cases c8 : t312 < 0
   ·rw [if_pos c8] at H
    have c8b0 : decide (t312 < 0) = true:=decide_eq_true c8
    clear c8
    obtain rfl:=Option.some.inj H
    have hcz9_0 : wr.cell? ⟨gb308,0,none⟩ = some (.int .i64 a0_0):=(bc_ BK308.out 0).trans rfl
    have hcz9_1 : wr.cell? ⟨gb308,1,none⟩ = some (.slice A0_1 l0_1.length c0_1):=(bc_ BK308.out 1).trans rfl
    have hcz9_2 : wr.cell? ⟨gb308,2,none⟩ = some (.slice A0_2 l0_2.length c0_2):=(bc_ BK308.out 2).trans rfl
    have hcz9_3 : wr.cell? ⟨gb308,3,none⟩ = some (.slice A0_3 l0_3.length c0_3):=(bc_ BK308.out 3).trans rfl
    have hfz9_0:=bf_ BK308.out 0
    have hfz9_1:=bf_ BK308.out 1
    have hfz9_2:=bf_ BK308.out 2
    have hfz9_3:=bf_ BK308.out 3
    obtain ⟨Ao10,co10,eo10⟩:=Kd.R_slice HO_5.out
    subst eo10
    go_wp2_with (first|((with_reducible refine gate_callee (f:=63) rfl ?_);refine goesL_ (some 19) rfl rfl Try.func63 (by kernel_rfl) rfl #[.slice A0_1 l0_1.length c0_1,.slice Ao10 t309.length co10,.int .i64 x1_1] rfl qm_ ?_;(with_reducible refine (impl_upOf.calls k1 _ _ l0_1 _ _ t309 x1_1 t312 t313 _ ?side1 ?side2 ?side3 ?side4 A7.out).mono ?_);(case side1 => repeat (first|exact (cb_ HR0_1.out HB.out)|(with_reducible refine ca_ ?_ _)|(with_reducible refine cn_ ?_ _)|(with_reducible refine cd_ ?_)));(case side2 => exact HC0_1.out);(case side3 => repeat (first|exact (rr_ HO_5.out).2.2|(with_reducible refine ca_ ?_ _)|(with_reducible refine cn_ ?_ _)|(with_reducible refine cd_ ?_)));(case side4 => exact (rr_ HO_5.out).2.1);rintro e w11 ⟨rfl,hb⟩;refine ⟨_,rfl,?_⟩;have n0_:=mk_ (rb_ (qr_ HO_5) hb);have n1_:=mk_ (rb_ (qr_ HO_6) hb);have n2_:=mk_ (blk_below (g:=gb308) (o:=.cells #[.int .i64 a0_0,.slice A0_1 l0_1.length c0_1,.slice A0_2 l0_2.length c0_2,.slice A0_3 l0_3.length c0_3] 30 (0,0)) (qk_ BK308) hb);have n3_:=mk_ (st_ (qc_ HB GE308) hb);clear HO_5;clear HO_6;clear BK308;clear HB;have HO_5:=n0_;have HO_6:=n1_;have BK308:=n2_;have HB:=n3_;clear n0_ n1_ n2_ n3_;(try clear hb);(try clear hb2);(try clear hk);(try clear hi)))
    go_ret
    exact ⟨_,by first|rfl|(simp [errW_none,errW_some] <;> rfl)|(simp [*,errW_none,errW_some] <;> rfl),by (with_reducible repeat (first|apply ra_|apply rn_|apply rd_));exact rm_ HO_6.out (fun _ hk => trivial),by repeat (first|(with_reducible first|exact HB.out|apply ba_|apply bn_|apply bd_|refine bs_ ?_ GE308.out)|exact HB.out)⟩
   ·rw [if_neg c8] at H
    have c8b0 : decide (t312 < 0) = false:=decide_eq_false c8
    clear c8
    by_cases c12 : x6_1.length < 17592186044416
    ·rw [if_pos c12] at H
     have LMc12:=mk_ c12
     clear c12
     obtain ⟨y314,hy314⟩ : ∃ y_ : List Int,y_ = (x6_1 ++ [t312]):=⟨_,rfl⟩
     replace H : (impl_Net_ups.l0 k1 t313 t309 y314 a0_0 l0_1 l0_2 l0_3) = some r:=by first|(rw [hy314];with_reducible exact H)|(have H2_:=(Option.bind_some _ _).symm.trans H;rw [hy314];with_reducible exact H2_)|(have H2_:=(Option.bind_some _ _).symm.trans H;with_reducible exact H2_)|with_reducible exact H|(rw [hy314];exact H)|exact H
     have Ny314:=mk_ hy314
     clear hy314
     have H':=mk_ H
     clear H
     have hcz13_0 : wr.cell? ⟨gb308,0,none⟩ = some (.int .i64 a0_0):=(bc_ BK308.out 0).trans rfl
     have hcz13_1 : wr.cell? ⟨gb308,1,none⟩ = some (.slice A0_1 l0_1.length c0_1):=(bc_ BK308.out 1).trans rfl
     have hcz13_2 : wr.cell? ⟨gb308,2,none⟩ = some (.slice A0_2 l0_2.length c0_2):=(bc_ BK308.out 2).trans rfl
     have hcz13_3 : wr.cell? ⟨gb308,3,none⟩ = some (.slice A0_3 l0_3.length c0_3):=(bc_ BK308.out 3).trans rfl
     have hfz13_0:=bf_ BK308.out 0
     have hfz13_1:=bf_ BK308.out 1
     have hfz13_2:=bf_ BK308.out 2
     have hfz13_3:=bf_ BK308.out 3
     obtain ⟨Ao14,co14,eo14⟩:=Kd.R_slice HO_5.out
     subst eo14
     go_wp2_with (first|((with_reducible refine gate_callee (f:=63) rfl ?_);refine goesL_ (some 19) rfl rfl Try.func63 (by kernel_rfl) rfl #[.slice A0_1 l0_1.length c0_1,.slice Ao14 t309.length co14,.int .i64 x1_1] rfl qm_ ?_;(with_reducible refine (impl_upOf.calls k1 _ _ l0_1 _ _ t309 x1_1 t312 t313 _ ?side1 ?side2 ?side3 ?side4 A7.out).mono ?_);(case side1 => repeat (first|exact (cb_ HR0_1.out HB.out)|(with_reducible refine ca_ ?_ _)|(with_reducible refine cn_ ?_ _)|(with_reducible refine cd_ ?_)));(case side2 => exact HC0_1.out);(case side3 => repeat (first|exact (rr_ HO_5.out).2.2|(with_reducible refine ca_ ?_ _)|(with_reducible refine cn_ ?_ _)|(with_reducible refine cd_ ?_)));(case side4 => exact (rr_ HO_5.out).2.1);rintro e w15 ⟨rfl,hb⟩;refine ⟨_,rfl,?_⟩;have n0_:=mk_ (rb_ (qr_ HO_5) hb);have n1_:=mk_ (rb_ (qr_ HO_6) hb);have n2_:=mk_ (blk_below (g:=gb308) (o:=.cells #[.int .i64 a0_0,.slice A0_1 l0_1.length c0_1,.slice A0_2 l0_2.length c0_2,.slice A0_3 l0_3.length c0_3] 30 (0,0)) (qk_ BK308) hb);have n3_:=mk_ (st_ (qc_ HB GE308) hb);clear HO_5;clear HO_6;clear BK308;clear HB;have HO_5:=n0_;have HO_6:=n1_;have BK308:=n2_;have HB:=n3_;clear n0_ n1_ n2_ n3_;(try clear hb);(try clear hb2);(try clear hk);(try clear hi))|((with_reducible refine gate_builtin (b:=.append) (xs:=#[.tmp 25,.tmp 27]) rfl ?_);at_builtin;refine Kd.R_append (Kd.int .i64) (w0:=w) w.heap.size rfl (.tmp 25) (.tmp 27) 23 3 (.int .i64 0) 8 rfl Try.underlying23 info3 rfl (by decide) (by omega) u6 x6_1 t312 [.int .i64 t312] (fun k_ => some k_ ≠ (.slice Ao14 t309.length co14 : Value).ownBlock) (fun _ => False) rfl rfl ?aP (fun _ hk => hk.elim) ?aF ?aO ?aB ?aS ?aL ?_;(case aP => exact rfl);(case aB => exact (qc_ HB GE308));(case aF => exact (fun k_ hk => Kd.fresh' (Kd.R_lt (qr_ HO_5)) k_ hk));(case aO => exact (qr_ HO_6));(case aS => exact (bz_ (qc_ HB GE308)));(case aL => have:=LMc12.out;omega);intro v315 w16 ho hb hg hat;rw [← Ny314.out] at ho;have n0_:=mk_ (Kd.R_after (ok:=(fun _ => True)) (by (with_reducible repeat (first|apply ra_|apply rn_|apply rd_));exact rm_ HO_5.out (fun _ hk => ⟨trivial,hk⟩)) hg hat);have n1_:=mk_ (blk_grown (g:=gb308) (o:=.cells #[.int .i64 a0_0,.slice A0_1 l0_1.length c0_1,.slice A0_2 l0_2.length c0_2,.slice A0_3 l0_3.length c0_3] 30 (0,0)) (qk_ BK308) hg (Kd.R_ne HO_6.out BK308.out (by decide)));have n2_:=mk_ (hb);have n3_:=mk_ (ho);clear HO_5;clear BK308;clear HB;clear HO_6;have HO_5:=n0_;have BK308:=n1_;have HB:=n2_;have HO316:=n3_;clear n0_ n1_ n2_ n3_;clear ho hb hg hat))
     go_roundg k1
     case measure => have:=HK1.out;omega
     case rel => exact ⟨(t313),(y314),(by first|rfl|(simp;done)|(simp [*];done)),H',⟨by have:=HK1.out;omega⟩,⟨by (with_reducible repeat (first|apply ra_|apply rn_|apply rd_));exact rm_ HO_5.out (fun _ hk => hk.2)⟩,⟨by (with_reducible repeat (first|apply ra_|apply rn_|apply rd_));exact HO316.out⟩,⟨by (with_reducible repeat (first|refine kn_ ?_ _|refine kd_ ?_|refine ka_ ?_ _));exact BK308.out⟩,⟨by repeat (first|(with_reducible first|exact HB.out|apply ba_|apply bn_|apply bd_|refine bs_ ?_ GE308.out)|exact HB.out)⟩⟩
    ·rw [if_neg c12] at H
     exact absurd H (by simp)

end Go.Proofs.Ytdamdcdjodmemaa.PAll

/- Proved here: contracts of functions of the given program, or lemmas on them, for the laws of this seat. Written by xprint.py, a program of this session, on the ground of the kit's print; parts by hand: wip/x/ext. -/
import Derived.Test.YtdamdcdjodmemaaPAllx0
import Derived.Test.YtdamdcdjodmemaaPAllx1
namespace Go.Proofs.Ytdamdcdjodmemaa.PAll
open Go.RowKit Go.Proofs.YtdamdcdjodmemaaW.PrintWords Go.Proofs.YtdamdcdjodmemaaW.PrintLast Go.Proofs.YtdamdcdjodmemaaW.PrintMore
attribute [local go_sem] max2_int min2_int max_two min_two max_three min_three max_four min_four   -- for this text's walks alone
set_option linter.unusedVariables false
set_option linter.unusedSimpArgs false

/-! ### bits_Mul64: function 106 -/
def bits_Mul64.f (a0 : Int) (a1 : Int) : Option (Int × Int):=some (IntKind.u64.wrap ((IntKind.u64.wrap ((IntKind.u64.wrap ((a0 / 4294967296) * (a1 / 4294967296))) + ((IntKind.u64.wrap ((IntKind.u64.wrap ((a0 / 4294967296) * (Go.bits .and .u64 a1 4294967295))) + ((IntKind.u64.wrap ((Go.bits .and .u64 a0 4294967295) * (Go.bits .and .u64 a1 4294967295))) / 4294967296))) / 4294967296))) + ((IntKind.u64.wrap ((Go.bits .and .u64 (IntKind.u64.wrap ((IntKind.u64.wrap ((a0 / 4294967296) * (Go.bits .and .u64 a1 4294967295))) + ((IntKind.u64.wrap ((Go.bits .and .u64 a0 4294967295) * (Go.bits .and .u64 a1 4294967295))) / 4294967296))) 4294967295) + (IntKind.u64.wrap ((Go.bits .and .u64 a0 4294967295) * (a1 / 4294967296))))) / 4294967296)),IntKind.u64.wrap (a0 * a1))
set_option maxHeartbeats 8000000 in
set_option maxRecDepth 100000 in
theorem bits_Mul64.calls (a0 : Int) (a1 : Int) (r1 : Int) (r2 : Int) (w : World) (h : bits_Mul64.f a0 a1 = some (r1,r2)) :
  Calls Try.prog 106 #[.int .u64 a0,.int .u64 a1] w fun e w' => e = .returned (.tuple #[.int .u64 r1,.int .u64 r2]) ∧ Drawn0 w w':=by
 have H : (some (IntKind.u64.wrap ((IntKind.u64.wrap ((IntKind.u64.wrap ((a0 / 4294967296) * (a1 / 4294967296))) + ((IntKind.u64.wrap ((IntKind.u64.wrap ((a0 / 4294967296) * (Go.bits .and .u64 a1 4294967295))) + ((IntKind.u64.wrap ((Go.bits .and .u64 a0 4294967295) * (Go.bits .and .u64 a1 4294967295))) / 4294967296))) / 4294967296))) + ((IntKind.u64.wrap ((Go.bits .and .u64 (IntKind.u64.wrap ((IntKind.u64.wrap ((a0 / 4294967296) * (Go.bits .and .u64 a1 4294967295))) + ((IntKind.u64.wrap ((Go.bits .and .u64 a0 4294967295) * (Go.bits .and .u64 a1 4294967295))) / 4294967296))) 4294967295) + (IntKind.u64.wrap ((Go.bits .and .u64 a0 4294967295) * (a1 / 4294967296))))) / 4294967296)),IntKind.u64.wrap (a0 * a1))) = some (r1,r2):=h
 clear h
 simp only [Option.some.injEq,Prod.mk.injEq] at H
 obtain ⟨rfl,rfl⟩:=H
 go_enter Try.func106,Try.ntmps106
 go_wp2
 go_ret2
 exact ⟨by first|rfl|(simp;done)|(simp [*];done),by repeat (first|exact Drawn0.refl _|apply Drawn0.step)⟩

/-! ### bits_Mul: function 92 -/
def bits_Mul.f (a0 : Int) (a1 : Int) : Option (Int × Int):=(bits_Mul64.f a0 a1).bind fun bt122 => (some (bt122.1,bt122.2))
set_option maxHeartbeats 8000000 in
set_option maxRecDepth 100000 in
theorem bits_Mul.calls (a0 : Int) (a1 : Int) (r1 : Int) (r2 : Int) (w : World) (h : bits_Mul.f a0 a1 = some (r1,r2)) :
  Calls Try.prog 92 #[.int .u64 a0,.int .u64 a1] w fun e w' => e = .returned (.tuple #[.int .u64 r1,.int .u64 r2]) ∧ Drawn0 w w':=by
 have H : ((bits_Mul64.f a0 a1).bind fun bt122 => (some (bt122.1,bt122.2))) = some (r1,r2):=h
 clear h
 replace H:=Option.bind_eq_some_iff.mp H
 obtain ⟨⟨t122,t123⟩,A30,H⟩:=H
 replace H : (some (t122,t123)) = some (r1,r2):=H
 have A3:=mk_ A30
 clear A30
 simp only [Option.some.injEq,Prod.mk.injEq] at H
 obtain ⟨rfl,rfl⟩:=H
 go_enter Try.func92,Try.ntmps92
 go_wp2_with (first|((with_reducible refine gate_callee (f:=106) rfl ?_);refine goesL_ (some 25) rfl rfl Try.func106 (by kernel_rfl) rfl #[.int .u64 a0,.int .u64 a1] rfl (by (try simp only [List.map_toArray,List.map_cons,List.map_nil]);first|done|rfl|(simp only [List.length_drop,List.length_take];rfl)) ?_;(with_reducible refine (bits_Mul64.calls a0 a1 t122 t123 _ A3.out).mono ?_);rintro e w' ⟨rfl,⟨nd,rfl⟩⟩;refine ⟨_,rfl,?_⟩))
 go_ret2
 exact ⟨by first|rfl|(simp;done)|(simp [*];done),by repeat (first|exact Drawn0.refl _|apply Drawn0.step)⟩

/-! ### slices_Repeat_int_int: function 81 (by hand) -/
theorem R_fills {g cap : Nat} {base : Nat} {ok : Nat → Prop} {n : Nat} (v : Int) (m : Nat) : ∀ (o : Nat) (W : World) (xs : List Int),Kd.R (Kd.int .i64) 3 W base ok (.slice (some ⟨g,0,none⟩) n cap) xs → o + m ≤ n → xs.take o = List.replicate o v →
  ∃ ys,Kd.R (Kd.int .i64) 3 (W.setCells g o (List.replicate m (.int .i64 v))) base ok (.slice (some ⟨g,0,none⟩) n cap) ys ∧ ys.take (o + m) = List.replicate (o + m) v:=by
 induction m with
 | zero => exact fun o W xs h _ he => ⟨xs,h,he⟩
 | succ m ih =>
  intro o W xs h hm he
  have hn:=(rr_ h).1
  have h1:=(Kd.R_putg h (o : Int) v).1
  rw [Int.toNat_natCast] at h1
  obtain ⟨ys,h2,h3⟩:=ih (o + 1) _ _ h1 (by omega) (by
   rw [List.take_add_one,List.take_set_of_le (Nat.le_refl o),he,List.getElem?_set_self (by omega),List.replicate_succ']
   rfl)
  exact ⟨ys,h2,by rw [show o + (m + 1) = o + 1 + m by omega];exact h3⟩
theorem below_fills {w0 : World} {g : Nat} (hg : w0.heap.size ≤ g) (vs : List Value) : ∀ (o : Nat) (W : World),Below w0.heap.size w0 W → Below w0.heap.size w0 (W.setCells g o vs):=by
 induction vs with
 | nil => exact fun _ _ h => h
 | cons v vs ih => exact fun o W h => ih (o + 1) _ (bs_ h hg)
/-- 'copy' of a row's first n cells behind themselves. -/
theorem copy_fills {g cap n : Nat} {base : Nat} {ok : Nat → Prop} {W : World} {xs : List Int} (v : Int) (o m c1 c2 : Nat) (h : Kd.R (Kd.int .i64) 3 W base ok (.slice (some ⟨g,0,none⟩) n cap) xs) (he : xs.take o = List.replicate o v) (hm : m = Nat.min o (n - o)) (ho : o ≤ n) :
  ∀ ty,(Builtin.copy_ #[23,23] ty #[.slice (some ⟨g,o,none⟩) (n - o) c1,.slice (some ⟨g,0,none⟩) o c2]).run Try.prog W = .ok (.int .i64 m) (W.setCells g o (List.replicate m (.int .i64 v))):=by
 intro ty
 have hn:=(rr_ h).1
 have hmo : m ≤ o ∧ m ≤ n - o:=by rw [hm];exact ⟨Nat.min_le_left _ _,Nat.min_le_right _ _⟩
 have hval : ∀ j,j < o → rdOf 0 xs (j : Int) = v:=fun j hj => by
  have:=congrArg (fun t => t[j]?) he
  simp only [List.getElem?_take,if_pos hj,List.getElem?_replicate] at this
  simp [rdOf,List.getD_eq_getElem?_getD,this]
 have e:=run_copy_cells (P:=Try.prog) W 23 23 ty 3 g o (n - o) c1 ⟨g,0,none⟩ o c2 (List.replicate m (.int .i64 v)) Try.underlying23 (by kernel_rfl) (by rw [List.length_replicate];exact hm)
  (fun j u hj => by
   rw [List.getElem?_replicate] at hj
   split at hj
   ·rename_i hjm
    have hc:=(Kd.R_celln 0 h (j : Int) (by omega) (by omega)).1
    rw [Int.toNat_natCast,hval j (by omega)] at hc
    have e2 : (⟨g,0,none⟩ : Addr).add j = ⟨g,j,none⟩:=by simp [Addr.add];exact fun h => h.symm
    rw [e2,hc]
    exact hj
   ·cases hj)
  (fun j hj => by
   rw [List.length_replicate] at hj
   have hc:=(Kd.R_celln 0 h ((o + j : Nat) : Int) (by omega) (by omega)).1
   rw [Int.toNat_natCast] at hc
   rw [hc];rfl)
  (fun j hj => by
   rw [List.length_replicate] at hj
   have hc:=(Kd.R_celln 0 h ((o + j : Nat) : Int) (by omega) (by omega)).2
   rw [Int.toNat_natCast] at hc
   exact hc)
  (fun u hu => by rw [List.eq_of_mem_replicate hu];rfl)
 rw [List.length_replicate] at e
 exact e
theorem step_copy_run {P : Program} {ops : Array Oper} {o : Oper} {a : Act} {w : World} {K : Act → World → Prop} {Q : Exit → Act → World → Prop} {E : Prop}
  (hg : o.guard = none) (d x : Operand) (dT sT : TypeId) (hop : o.op = Op.call { callee:=Callee.builtin Builtin.copy,args:=#[d,x],argTypes:=#[dT,sT] })
  (v u : Value) (hd : a.eval d = v) (hx : a.eval x = u) {v' : Value} {w' : World} (hr : (Builtin.copy_ #[dT,sT] o.type #[v,u]).run P w = .ok v' w') (hK : K (a.put o.dst v') w') :
  if Region.wanted o (yielded ops a.tmps) = true then Oper.wp P o a w K Q else E:=by
 have hw : Region.wanted o (yielded ops a.tmps) = true:=by simp [Region.wanted,hg]
 rw [if_pos hw]
 unfold Oper.wp
 simp [execOp,hop,resolve,invoke,builtin,hd,hx,hr,Result.andThen]
 exact hK
/-- The first copy: of one number. -/
theorem first_copy {g cap n c0 : Nat} {base : Nat} {ok : Nat → Prop} {W : World} {xs : List Int} {v : Int} {ad : Addr} (h : Kd.R (Kd.int .i64) 3 W base ok (.slice (some ⟨g,0,none⟩) n cap) xs) (hn1 : 1 ≤ n) (hs : Kd.C (Kd.int .i64) W (some ad) 1 [v]) :
  ∀ ty,(Builtin.copy_ #[23,23] ty #[.slice (some ⟨g,0,none⟩) n cap,.slice (some ad) 1 c0]).run Try.prog W = .ok (.int .i64 1) (W.setCells g 0 [.int .i64 v]):=by
 intro ty
 obtain ⟨ad',e,hx⟩:=Kd.at_int hs (0 : Int) (by omega) (by omega)
 obtain rfl:=Option.some.inj e
 have hc:=Kd.R_celln 0 h (0 : Int) (by omega) (by omega)
 exact run_copy_cells (P:=Try.prog) W 23 23 ty 3 g 0 n cap ad 1 c0 [.int .i64 v] Try.underlying23 (by kernel_rfl) (by have : Nat.min 1 n = 1:=Nat.min_eq_left hn1;rw [this];rfl)
  (fun j u hj => by
   match j,hj with
   | 0,hj => exact hx.trans hj
   | j + 1,hj => simp at hj)
  (fun j hj => by
   obtain rfl : j = 0:=by simp at hj;exact hj
   rw [show (⟨g,0 + 0,none⟩ : Addr) = ⟨g,(0 : Int).toNat,none⟩ from rfl,hc.1];rfl)
  (fun j hj => by
   obtain rfl : j = 0:=by simp at hj;exact hj
   exact hc.2)
  (fun u hu => by rw [List.mem_singleton.1 hu];rfl)
def slices_Repeat_int_int.f (l0 : List Int) (a1 : Int) : Option (List Int) :=
 match l0 with
 | [v] => if 1 ≤ a1 ∧ a1 ≤ 20 then some (List.replicate a1.toNat v) else none
 | _ => none
set_option maxHeartbeats 4000000 in
set_option maxRecDepth 100000 in
theorem slices_Repeat_int_int.calls (A0 : Option Addr) (c0 : Nat) (l0 : List Int) (a1 : Int) (r : List Int) (w : World) (hr0 : Kd.C (Kd.int .i64) w A0 l0.length l0) (hc0 : l0.length ≤ c0) (h : slices_Repeat_int_int.f l0 a1 = some r) :
  Calls Try.prog 81 #[.slice A0 l0.length c0,.int .i64 a1] w fun e w' => ∃ v0_ : Value,e = .returned (v0_) ∧ Kd.R (Kd.int .i64) 3 w' w.heap.size (fun _ => True) v0_ r ∧ Below w.heap.size w w':=by
 unfold slices_Repeat_int_int.f at h
 match l0,h,hr0,hc0 with
 | [],h,_,_ => cases h
 | _ :: _ :: _,h,_,_ => cases h
 | [v],h,hr0,hc0 =>
  simp only [] at h
  by_cases hc : 1 ≤ a1 ∧ a1 ≤ 20
  ·rw [if_pos hc] at h
   obtain rfl:=Option.some.inj h
   clear h
   obtain ⟨N,hN⟩ : ∃ N : Nat,a1 = (N : Int):=⟨a1.toNat,by omega⟩
   subst hN
   rw [Int.toNat_natCast]
   obtain ⟨ad,e,hx⟩:=Kd.at_int hr0 (0 : Int) (by omega) (by simp)
   subst e
   have hN1 : 1 ≤ N:=by omega
   have hN20 : N ≤ 20:=by omega
   have hmul : bits_Mul.f 1 (N : Int) = some (0,(N : Int)):=by
    have : N = 1 ∨ N = 2 ∨ N = 3 ∨ N = 4 ∨ N = 5 ∨ N = 6 ∨ N = 7 ∨ N = 8 ∨ N = 9 ∨ N = 10 ∨ N = 11 ∨ N = 12 ∨ N = 13 ∨ N = 14 ∨ N = 15 ∨ N = 16 ∨ N = 17 ∨ N = 18 ∨ N = 19 ∨ N = 20:=by omega
    rcases this with rfl|rfl|rfl|rfl|rfl|rfl|rfl|rfl|rfl|rfl|rfl|rfl|rfl|rfl|rfl|rfl|rfl|rfl|rfl|rfl <;> decide
   have HM : Aside0 (∀ W,Calls Try.prog 92 #[.int .u64 1,.int .u64 (N : Int)] W fun e w' => e = .returned (.tuple #[.int .u64 0,.int .u64 (N : Int)]) ∧ Drawn0 W w'):=⟨fun W => bits_Mul.calls 1 (N : Int) 0 (N : Int) W hmul⟩
   have HX:=mk_ hx
   have HR:=mk_ hr0
   simp only [List.length_cons,List.length_nil,Nat.zero_add] at HR
   have hw1 : IntKind.u64.wrap 1 = 1:=rfl
   have hwN : IntKind.u64.wrap (N : Int) = (N : Int):=by
    have : IntKind.u64.wrap (N : Int) = (N : Int) % 18446744073709551616:=by simp [IntKind.wrap,IntKind.bits,IntKind.signed]
    rw [this];omega
   have hiN : IntKind.i64.wrap (N : Int) = (N : Int):=by rw [i64_w];exact (by unfold wrap64;omega)
   have p0 : ((N : Int) < 0) = False:=eq_false (by omega)
   have p1 : ((9223372036854775807 : Int) < (N : Int)) = False:=eq_false (by omega)
   clear hmul hr0 hx hc
   simp only [List.length_cons,List.length_nil,Nat.zero_add] at hc0 ⊢
   go_enter Try.func81,Try.ntmps81
   go_wp2_with (first|(go_at_call 92;refine (HM.out w).mono ?_;rintro e w1 ⟨rfl,hd1⟩;have HD:=mk_ hd1.below;clear hd1)|((with_reducible refine gate_dst (N:=30) rfl ?_);refine Kd.R_make (Kd.int .i64) (w0:=w) w.heap.size 3 rfl (N:=30) rfl 23 _ _ rfl (N : Int) rfl rfl Try.underlying23 (.int .i64 0) 8 (by kernel_rfl) rfl (by decide) (by omega) 0 (ok:=fun _ => True) (okp:=fun _ => True) rfl (fun _ hk => hk) trivial (by omega) (by rw [Int.toNat_natCast];omega) HD.out HD.out.size ?_;intro v1 w2 ho hb hg hnew;rw [Int.toNat_natCast] at ho;obtain ⟨go,co,ev,hgo,hgl,_⟩:=Kd.R_form ho (by simp;omega);rw [List.length_replicate] at ev;subst ev;have hcp:=first_copy (n:=N) (cap:=co) (c0:=c0) ho hN1 (cb_ HR.out hb);obtain ⟨ys,hy1,hy2⟩:=R_fills v 1 0 w2 (List.replicate N 0) ho (by omega) rfl;have HY:=mk_ hy1;have HT:=mk_ hy2;have HB:=mk_ (below_fills hgo [.int .i64 v] 0 w2 hb);clear ho hb hg hnew hgl hy1 hy2 HD HX)|(simp only [hcp]))
   clear hcp
   go_loopg [8] N (fun gg s8 wr => ∃ (m : Nat) (L : List Int),s8 = .int .i64 m ∧ 1 ≤ m ∧ m ≤ N ∧ N - m ≤ gg ∧ Aside0 (Kd.R (Kd.int .i64) 3 wr w.heap.size (fun _ => True) (.slice (some ⟨go,0,none⟩) N co) L) ∧ Aside0 (L.take m = List.replicate m v) ∧ Aside0 (Below w.heap.size w wr))
   case atStart => exact ⟨1,ys,by go_num,by omega,by omega,by omega,HY,HT,HB⟩
   case round =>
    clear HY HT HB
    obtain ⟨m,L,rfl,hm1,hmN,hgg,HO,HT,BW⟩:=hrel
    by_cases hlt : m < N
    ·have hcc:=(rr_ HO.out).2.1
     obtain ⟨q,hq,hq1,hq2⟩ : ∃ q : Nat,q = Nat.min m (N - m) ∧ q ≤ N - m ∧ 1 ≤ q:=⟨_,rfl,Nat.min_le_right _ _,Nat.le_min.2 ⟨hm1,by omega⟩⟩
     have hcp:=copy_fills (W:=wr.drew) v m q (co - m) co (rd_ HO.out) HT.out hq hmN
     obtain ⟨ys2,hy1,hy2⟩:=R_fills v q m wr.drew L (rd_ HO.out) (by omega) HT.out
     have HY2:=mk_ hy1
     have HT2:=mk_ hy2
     have HB2:=mk_ (below_fills hgo (List.replicate q (.int .i64 v)) m wr.drew (bd_ BW.out))
     have p2 : ((m : Int) < (N : Int)) = True:=eq_true (by omega)
     clear hy1 hy2 hq
     have hcm : (co = m) = False:=eq_false (by omega)
     have hmco : m ≤ co:=by omega
     have hmco2 : (m : Int) ≤ (co : Int):=by omega
     have hmq : IntKind.i64.wrap ((m : Int) + (q : Int)) = ((m + q : Nat) : Int):=by rw [i64_w];exact (by unfold wrap64;omega)
     go_wp2
     go_region_law (refine step_copy_run rfl (.tmp 41) (.tmp 44) 23 23 rfl (.slice (some ⟨go,m,none⟩) (N - m) (co - m)) (.slice (some ⟨go,0,none⟩) m co) (by simp [Act.eval,Act.put]) (by simp [Act.eval,Act.put]) (hcp _) ?_)
     all_goals
      try go_simp
      go_wp2
      go_roundg (N - (m + q))
      case measure => omega
      case rel => exact ⟨m + q,ys2,by go_num,by omega,by omega,by omega,HY2,HT2,HB2⟩
    ·obtain rfl : m = N:=by omega
     have hL:=(rr_ HO.out).1
     have p2 : ((m : Int) < (m : Int)) = False:=eq_false (by omega)
     have hLe : L = List.replicate m v:=by rw [← HT.out,List.take_of_length_le (by omega)]
     subst hLe
     clear HT hL
     go_wp2
     go_ret
     exact ⟨_,rfl,HO.out,BW.out⟩
  ·rw [if_neg hc] at h
   cases h

/-! ### impl_costsOf: function 62 -/
mutual
def impl_costsOf.l0 : Nat → Int → List (S51) → List Int → List Int → Int → Int → Option (List Int)
 | 0,_,_,_,_,_,_ => none
 | k + 1,x0,x1,x5,x15,x16,x17 => if x17 < x16 then (if 0 ≤ x17 then (if x17 < (x15.length : Int) then (if x17 = (rd x15 x17) then (if x17 < (x5.length : Int) then (impl_costsOf.l0 k x0 x1 (x5.set (x17 : Int).toNat 0) x15 x16 (wrap64 (x17 + 1))) else (none)) else (impl_costsOf.l0 k x0 x1 x5 x15 x16 (wrap64 (x17 + 1)))) else (none)) else (none)) else (impl_costsOf.l1 k x1 x5 x0 0)
def impl_costsOf.l1 : Nat → List (S51) → List Int → Int → Int → Option (List Int)
 | 0,_,_,_,_ => none
 | k + 1,x1,x5,x29,x30 => if x30 < x29 then (impl_costsOf.l2 k x1 x5 x29 x30 x1 (x1.length : Int) 0) else (some x5)
def impl_costsOf.l2 : Nat → List (S51) → List Int → Int → Int → List (S51) → Int → Int → Option (List Int)
 | 0,_,_,_,_,_,_,_ => none
 | k + 1,x1,x5,x29,x30,x32,x33,x34 => if x34 < x33 then (if 0 ≤ x34 then (if x34 < (x32.length : Int) then (if 0 ≤ ((rd_T51 x32 x34).f0) then (if ((rd_T51 x32 x34).f0) < (x5.length : Int) then (if 0 ≤ ((rd_T51 x32 x34).f1) then (if ((rd_T51 x32 x34).f1) < (x5.length : Int) then ((some (x5.set (((rd_T51 x32 x34).f0) : Int).toNat (mn (rd x5 ((rd_T51 x32 x34).f0)) (wrap64 ((rd x5 ((rd_T51 x32 x34).f1)) + ((rd_T51 x32 x34).f2)))) : List Int)).bind fun y139 => (impl_costsOf.l2 k x1 (y139.set (((rd_T51 x32 x34).f1) : Int).toNat (mn (rd y139 ((rd_T51 x32 x34).f1)) (wrap64 ((rd y139 ((rd_T51 x32 x34).f0)) + ((rd_T51 x32 x34).f2))))) x29 x30 x32 x33 (wrap64 (x34 + 1)))) else (none)) else (none)) else (none)) else (none)) else (none)) else (none)) else (impl_costsOf.l1 k x1 x5 x29 (wrap64 (x30 + 1)))
end
def impl_costsOf.f (k : Nat) (a0 : Int) (l1 : List (S51)) : Option (List Int):=(slices_Repeat_int_int.f (([1073741824] : List Int)) a0).bind fun t127 => ((impl_rootsOf.f a0 l1).bind fun t130 => (impl_costsOf.l0 k a0 l1 t127 t130 (t130.length : Int) 0))
theorem impl_costsOf.mono_l : ∀ k,(∀ y0 y1 y2 y3 y4 y5,LeO (impl_costsOf.l0 k y0 y1 y2 y3 y4 y5) (impl_costsOf.l0 (k + 1) y0 y1 y2 y3 y4 y5)) ∧ (∀ y0 y1 y2 y3,LeO (impl_costsOf.l1 k y0 y1 y2 y3) (impl_costsOf.l1 (k + 1) y0 y1 y2 y3)) ∧ (∀ y0 y1 y2 y3 y4 y5 y6,LeO (impl_costsOf.l2 k y0 y1 y2 y3 y4 y5 y6) (impl_costsOf.l2 (k + 1) y0 y1 y2 y3 y4 y5 y6))
 | 0 => ⟨fun _ _ _ _ _ _ r h => by simp [impl_costsOf.l0] at h,fun _ _ _ _ r h => by simp [impl_costsOf.l1] at h,fun _ _ _ _ _ _ _ r h => by simp [impl_costsOf.l2] at h⟩
 | k + 1 => by
  obtain ⟨ih0,ih1,ih2⟩:=impl_costsOf.mono_l k
  refine ⟨?_,?_,?_⟩
  ·intro y0 y1 y2 y3 y4 y5
   unfold impl_costsOf.l0
   repeat' first
   | (with_reducible exact ih0 _ _ _ _ _ _)
   | (with_reducible exact ih1 _ _ _ _)
   | (with_reducible exact ih2 _ _ _ _ _ _ _)
   | (with_reducible exact LeO.refl _)
   | (with_reducible exact LeO.none _)
   | (with_reducible refine LeO.ite ?_ ?_)
   | (with_reducible refine LeO.bind ?_ (fun _ => ?_))
   | exact ih0 _ _ _ _ _ _
   | exact ih1 _ _ _ _
   | exact ih2 _ _ _ _ _ _ _
   | exact LeO.none _
   | refine LeO.ite ?_ ?_
   | refine LeO.bind ?_ (fun _ => ?_)
  ·intro y0 y1 y2 y3
   unfold impl_costsOf.l1
   repeat' first
   | (with_reducible exact ih0 _ _ _ _ _ _)
   | (with_reducible exact ih1 _ _ _ _)
   | (with_reducible exact ih2 _ _ _ _ _ _ _)
   | (with_reducible exact LeO.refl _)
   | (with_reducible exact LeO.none _)
   | (with_reducible refine LeO.ite ?_ ?_)
   | (with_reducible refine LeO.bind ?_ (fun _ => ?_))
   | exact ih0 _ _ _ _ _ _
   | exact ih1 _ _ _ _
   | exact ih2 _ _ _ _ _ _ _
   | exact LeO.none _
   | refine LeO.ite ?_ ?_
   | refine LeO.bind ?_ (fun _ => ?_)
  ·intro y0 y1 y2 y3 y4 y5 y6
   unfold impl_costsOf.l2
   repeat' first
   | (with_reducible exact ih0 _ _ _ _ _ _)
   | (with_reducible exact ih1 _ _ _ _)
   | (with_reducible exact ih2 _ _ _ _ _ _ _)
   | (with_reducible exact LeO.refl _)
   | (with_reducible exact LeO.none _)
   | (with_reducible refine LeO.ite ?_ ?_)
   | (with_reducible refine LeO.bind ?_ (fun _ => ?_))
   | exact ih0 _ _ _ _ _ _
   | exact ih1 _ _ _ _
   | exact ih2 _ _ _ _ _ _ _
   | exact LeO.none _
   | refine LeO.ite ?_ ?_
   | refine LeO.bind ?_ (fun _ => ?_)
theorem impl_costsOf.mono : ∀ a0 a1 k,LeO (impl_costsOf.f k a0 a1) (impl_costsOf.f (k + 1) a0 a1):=by
 intro a0 a1 k
 obtain ⟨ih0,ih1,ih2⟩:=impl_costsOf.mono_l k
 unfold impl_costsOf.f
 repeat' first
   | (with_reducible exact ih0 _ _ _ _ _ _)
   | (with_reducible exact ih1 _ _ _ _)
   | (with_reducible exact ih2 _ _ _ _ _ _ _)
   | (with_reducible exact LeO.refl _)
   | (with_reducible exact LeO.none _)
   | (with_reducible refine LeO.ite ?_ ?_)
   | (with_reducible refine LeO.bind ?_ (fun _ => ?_))
   | exact ih0 _ _ _ _ _ _
   | exact ih1 _ _ _ _
   | exact ih2 _ _ _ _ _ _ _
   | exact LeO.none _
   | refine LeO.ite ?_ ?_
   | refine LeO.bind ?_ (fun _ => ?_)
def impl_costsOf.T13 : Bool × List (List Nat × List Nat):=(true,[([],[]),([],[]),([1],[1]),([],[]),([],[]),([4],[4]),([3,5],[3,5]),([6],[6]),([],[]),([],[]),([9],[9]),([8,10],[8,10]),([11],[11]),([],[]),([13],[13]),([12,14],[12,14]),([7,15],[7,15]),([0,2,0,1,2,3,4,5,6,7,8,9,10,11,12,13,14,15,16],[0,2]),([17,16,0,1,2,3,4,5,6,7,8,9,10,11,12,13,14,15,16],[16,17])])
def impl_costsOf.B13 : List Nat:=[0,0,2,0,0,16,56,120,0,0,512,1792,3840,0,8192,32512,65528,131071,262143]
theorem impl_costsOf.tab13 : rtab .any (opsOf Try.f62 13) = impl_costsOf.T13:=by kernel_rfl
theorem impl_costsOf.bits13 : waitsOk impl_costsOf.T13.2 impl_costsOf.B13 = true:=by kernel_rfl
def impl_costsOf.T14 : Bool × List (List Nat × List Nat):=(true,[([],[]),([],[]),([1],[1]),([],[]),([],[]),([4],[4]),([3,5],[3,5]),([6],[6]),([],[]),([],[]),([9],[9]),([8,10],[8,10]),([11],[11]),([],[]),([13],[13]),([12,14],[12,14]),([7,15],[7,15]),([0,2,0,1,2,3,4,5,6,7,8,9,10,11,12,13,14,15,16],[0,2]),([17,16,0,1,2,3,4,5,6,7,8,9,10,11,12,13,14,15,16],[16,17])])
def impl_costsOf.B14 : List Nat:=[0,0,2,0,0,16,56,120,0,0,512,1792,3840,0,8192,32512,65528,131071,262143]
theorem impl_costsOf.tab14 : rtab .any (opsOf Try.f62 14) = impl_costsOf.T14:=by kernel_rfl
theorem impl_costsOf.bits14 : waitsOk impl_costsOf.T14.2 impl_costsOf.B14 = true:=by kernel_rfl
set_option maxHeartbeats 8000000 in
set_option maxRecDepth 100000 in
theorem impl_costsOf.calls (k : Nat) (a0 : Int) (A1 : Option Addr) (c1 : Nat) (l1 : List (S51)) (r : List Int) (w : World) (hr1 : Kd.C k51 w A1 l1.length l1) (hc1 : l1.length ≤ c1) (h : impl_costsOf.f k a0 l1 = some r) :
  Calls Try.prog 62 #[.int .i64 a0,.slice A1 l1.length c1] w fun e w' => ∃ v0_ : Value,e = .returned (v0_) ∧ Kd.R (Kd.int .i64) 3 w' w.heap.size (fun _ => True) v0_ r ∧ Below w.heap.size w w':=by
 have hu51:=Try.underlying51
 have HR1:=mk_ hr1
 have HC1:=mk_ hc1
 clear hr1 hc1
 have HB:=mk_ (Below.refl w.heap.size w)
 have H : ((slices_Repeat_int_int.f (([1073741824] : List Int)) a0).bind fun t127 => ((impl_rootsOf.f a0 l1).bind fun t130 => (impl_costsOf.l0 k a0 l1 t127 t130 (t130.length : Int) 0))) = some r:=h
 clear h
 obtain ⟨y124,hy124⟩ : ∃ y_ : List Int,y_ = (([1073741824] : List Int)):=⟨_,rfl⟩
 replace H : ((slices_Repeat_int_int.f y124 a0).bind fun t127 => ((impl_rootsOf.f a0 l1).bind fun t130 => (impl_costsOf.l0 k a0 l1 t127 t130 (t130.length : Int) 0))) = some r:=by first|(rw [hy124];with_reducible exact H)|(have H2_:=(Option.bind_some _ _).symm.trans H;rw [hy124];with_reducible exact H2_)|(have H2_:=(Option.bind_some _ _).symm.trans H;with_reducible exact H2_)|with_reducible exact H|(rw [hy124];exact H)|exact H
 have Ny124:=mk_ hy124
 clear hy124
 replace H:=Option.bind_eq_some_iff.mp H
 obtain ⟨t127,A30,H⟩:=H
 replace H : ((impl_rootsOf.f a0 l1).bind fun t130 => (impl_costsOf.l0 k a0 l1 t127 t130 (t130.length : Int) 0)) = some r:=H
 have A3:=mk_ A30
 clear A30
 replace H:=Option.bind_eq_some_iff.mp H
 obtain ⟨t130,A40,H⟩:=H
 replace H : (impl_costsOf.l0 k a0 l1 t127 t130 (t130.length : Int) 0) = some r:=H
 have A4:=mk_ A40
 clear A40
 have H':=mk_ H
 clear H
 go_enter Try.func62,Try.ntmps62
 go_wp2_with (first|((with_reducible refine gate_dst (N:=10) rfl ?_);refine Kd.R_lit (Kd.int .i64) _ 3 ?hg (N:=10) ?hd (xs:=([1073741824] : List Int)) (inner:=[.int .i64 1073741824]) (ok:=fun _ => True) (okp:=fun _ => True) ?hr ?hp (fun _ hk => hk) trivial (Below.refl _ _) (Nat.le_refl _) (by simp) ?_;(case hd => rfl);(case hg => rfl);(case hr => first|(go_simp;done)|(go_simp;rfl));(case hp => exact (Reps.one (show Kd.M (Kd.int .i64) _ _ _ 1073741824 [.int .i64 1073741824] from rfl) (Reps.none _ _)));intro v125 w5 ho6 hb hg_ hnew_;clear hg_ hnew_;(first|rw [← Ny124.out] at ho6|(simp only [Int.reduceToNat] at ho6;rw [← Ny124.out] at ho6));have n0_:=mk_ (Kd.R_lower ho6 (bz_ (by repeat (first|(with_reducible first|exact HB.out|apply ba_|apply bn_|apply bd_)|exact HB.out))));have n1_:=mk_ (st_ (by repeat (first|(with_reducible first|exact HB.out|apply ba_|apply bn_|apply bd_)|exact HB.out)) hb);clear HB;have HO126:=n0_;have HB:=n1_;clear n0_ n1_;clear hb ho6;obtain ⟨Ao7,co7,eo7⟩:=Kd.R_slice HO126.out;subst eo7)|((with_reducible refine gate_callee (f:=81) rfl ?_);refine goesL_ (some 12) rfl rfl Try.func81 (by kernel_rfl) rfl #[.slice Ao7 y124.length co7,.int .i64 a0] rfl (by (try simp only [List.map_toArray,List.map_cons,List.map_nil]);first|done|rfl|(simp only [List.length_drop,List.length_take];rfl)) ?_;(with_reducible refine (slices_Repeat_int_int.calls _ _ y124 a0 t127 _ ?side1 ?side2 A3.out).mono ?_);(case side1 => repeat (first|exact (rr_ HO126.out).2.2|(with_reducible refine ca_ ?_ _)|(with_reducible refine cn_ ?_ _)|(with_reducible refine cd_ ?_)));(case side2 => exact (rr_ HO126.out).2.1);rintro e w8 ⟨v128,rfl,ho0,hb⟩;refine ⟨_,rfl,?_⟩;have n0_:=mk_ (re_ (by (with_reducible repeat (first|apply ra_|apply rn_|apply rd_));exact HO126.out) (Kd.R_base ho0) hb);have n1_:=mk_ (Kd.R_lower (Kd.R_new' ho0 (Kd.R_lt (by (with_reducible repeat (first|apply ra_|apply rn_|apply rd_));exact HO126.out))) (bz_ (by repeat (first|(with_reducible first|exact HB.out|apply ba_|apply bn_|apply bd_)|exact HB.out))));have n2_:=mk_ (st_ (by repeat (first|(with_reducible first|exact HB.out|apply ba_|apply bn_|apply bd_)|exact HB.out)) hb);clear HO126;clear HB;have HO126:=n0_;have HO129:=n1_;have HB:=n2_;clear n0_ n1_ n2_;(try clear hb);(try clear hb2);(try clear hk);(try clear hi);(try clear ho0))|((with_reducible refine gate_callee (f:=55) rfl ?_);refine goesL_ (some 15) rfl rfl Try.func55 (by kernel_rfl) rfl #[.int .i64 a0,.slice A1 l1.length c1] rfl (by (try simp only [List.map_toArray,List.map_cons,List.map_nil]);first|done|rfl|(simp only [List.length_drop,List.length_take];rfl)) ?_;(with_reducible refine (impl_rootsOf.calls a0 _ _ l1 t130 _ ?side1 ?side2 A4.out).mono ?_);(case side1 => repeat (first|exact (cb_ HR1.out HB.out)|(with_reducible refine ca_ ?_ _)|(with_reducible refine cn_ ?_ _)|(with_reducible refine cd_ ?_)));(case side2 => exact HC1.out);rintro e w9 ⟨v131,rfl,ho0,hb⟩;refine ⟨_,rfl,?_⟩;have n0_:=mk_ (re_ (by (with_reducible repeat (first|apply ra_|apply rn_|apply rd_));exact HO126.out) (Kd.R_base ho0) hb);have n1_:=mk_ (re_ (by (with_reducible repeat (first|apply ra_|apply rn_|apply rd_));exact HO129.out) (Kd.R_base ho0) hb);have n2_:=mk_ (Kd.R_lower (Kd.R_new' (Kd.R_new' ho0 (Kd.R_lt (by (with_reducible repeat (first|apply ra_|apply rn_|apply rd_));exact HO126.out))) (Kd.R_lt (by (with_reducible repeat (first|apply ra_|apply rn_|apply rd_));exact HO129.out))) (bz_ (by repeat (first|(with_reducible first|exact HB.out|apply ba_|apply bn_|apply bd_)|exact HB.out))));have n3_:=mk_ (st_ (by repeat (first|(with_reducible first|exact HB.out|apply ba_|apply bn_|apply bd_)|exact HB.out)) hb);clear HO126;clear HO129;clear HB;have HO126:=n0_;have HO129:=n1_;have HO132:=n2_;have HB:=n3_;clear n0_ n1_ n2_ n3_;(try clear hb);(try clear hb2);(try clear hk);(try clear hi);(try clear ho0);obtain ⟨Ao10,co10,eo10⟩:=Kd.R_slice HO132.out;subst eo10))
 go_loopg [17] k (fun kq v17 w' => ∃ (x5_1 : List Int) (x17_1 : Int),v17 = .int .i64 x17_1 ∧ Aside0 (impl_costsOf.l0 kq a0 l1 x5_1 t130 (t130.length : Int) x17_1 = some r) ∧ Aside0 (kq ≤ k) ∧ Aside0 (Kd.R (Kd.int .i64) 3 w' w.heap.size (fun k_ => some k_ ≠ ((.slice Ao10 t130.length co10) : Value).ownBlock) v128 x5_1) ∧ Aside0 (Kd.R (Kd.int .i64) 3 w' w.heap.size (fun k_ => some k_ ≠ (v128 : Value).ownBlock) (.slice Ao10 t130.length co10) t130) ∧ Aside0 (Below w.heap.size w w'))
 case atStart => exact ⟨(t127),(0),(by first|rfl|(simp;done)|(simp [*];done)),H',⟨Nat.le_refl _⟩,⟨by (with_reducible repeat (first|apply ra_|apply rn_|apply rd_));exact rm_ HO129.out (fun _ hk => hk.2)⟩,⟨by (with_reducible repeat (first|apply ra_|apply rn_|apply rd_));exact rm_ HO132.out (fun _ hk => hk.2)⟩,⟨by repeat (first|(with_reducible first|exact HB.out|apply ba_|apply bn_|apply bd_)|exact HB.out)⟩⟩
 case round =>
  clear H'
  try clear c1
  try clear p2
  try clear c5
  try clear c6
  try clear c8
  obtain ⟨x5_1,x17_1,rfl,HA,HK1,HO_5,HO_15,HB⟩:=hrel
  cases gk with
  | zero => exact absurd HA.out (by simp [impl_costsOf.l0])
  | succ k1 =>
   have H:=HA.out
   clear HA
   simp only [impl_costsOf.l0] at H
   by_cases c11 : x17_1 < (t130.length : Int)
   ·rw [if_pos c11] at H
    have c11b0 : decide (x17_1 < (t130.length : Int)) = true:=decide_eq_true c11
    clear c11
    by_cases c12 : 0 ≤ x17_1
    ·rw [if_pos c12] at H
     have c12b0 : decide (0 ≤ x17_1) = true:=decide_eq_true c12
     clear c12
     by_cases c13 : x17_1 < (t130.length : Int)
     ·rw [if_pos c13] at H
      have c13b0 : decide (x17_1 < (t130.length : Int)) = true:=decide_eq_true c13
      clear c13
      by_cases c14 : x17_1 = (rd t130 x17_1)
      ·rw [if_pos c14] at H
       have c14b0 : (x17_1 == (rd t130 x17_1)) = true:=beq_iff_eq.mpr c14
       have c14b1 : (x17_1 != (rd t130 x17_1)) = false:=bne_eq_false_iff_eq.mpr c14
       clear c14
       by_cases c15 : x17_1 < (x5_1.length : Int)
       ·rw [if_pos c15] at H
        have c15b0 : decide (x17_1 < (x5_1.length : Int)) = true:=decide_eq_true c15
        clear c15
        obtain ⟨y134,hy134⟩ : ∃ y_ : List Int,y_ = (x5_1.set (x17_1 : Int).toNat 0):=⟨_,rfl⟩
        replace H : (impl_costsOf.l0 k1 a0 l1 y134 t130 (t130.length : Int) (wrap64 (x17_1 + 1))) = some r:=by first|(rw [hy134];with_reducible exact H)|(have H2_:=(Option.bind_some _ _).symm.trans H;rw [hy134];with_reducible exact H2_)|(have H2_:=(Option.bind_some _ _).symm.trans H;with_reducible exact H2_)|with_reducible exact H|(rw [hy134];exact H)|exact H
        have Ny134:=mk_ hy134
        clear hy134
        have H':=mk_ H
        clear H
        have p133 : 0 ≤ (x17_1 : Int):=od_ (by first|(with_reducible assumption)|assumption)
        have q133 : x17_1 < (t130.length : Int):=od_ (by first|(with_reducible assumption)|assumption)
        obtain ⟨ad133,e133,hx133_0⟩:=Kd.at_int (rr_ HO_15.out).2.2 x17_1 p133 q133
        cases e133
        replace p133:=eq_true p133
        replace q133:=eq_true q133
        have p16 : 0 ≤ (x17_1 : Int):=od_ (by first|(with_reducible assumption)|assumption)
        have q16 : (x17_1 : Int) < ((x5_1.length : Int) : Int):=od_ (by first|(with_reducible assumption)|assumption)
        obtain ⟨go16,co16,eo16,gb16,gl16,cl16,HG16⟩:=Kd.R_form HO_5.out (by omega)
        (first|cases eo16|(injection eo16 with ea_ en_ ec_;(first|subst ea_|(injection ea_ with ea_;subst ea_));subst ec_;clear en_))
        have GB16:=mk_ gb16
        have GG16:=mk_ HG16
        clear gb16 gl16 HG16
        obtain ⟨hx16_0,hf16_0⟩:=Kd.R_celln 0 HO_5.out (x17_1 : Int) p16 q16
        replace p16:=eq_true p16
        replace q16:=eq_true q16
        have HP17:=Kd.R_putg HO_5.out (x17_1 : Int) 0
        go_wp2_with (first|((with_reducible refine gate_store (t:=3) (p:=27) rfl ?_);refine store_event (t:=3) (p:=27) (v:=?vo_w18) (w1:=(wr.setCell ⟨go16,(x17_1 : Int).toNat,none⟩ (.int .i64 0))) ?hg ?ho ?hn ?hr ?_;(case ho => rfl);(case hg => rfl);(case hn => rfl);(case hr => first|(go_simp;done)|(go_simp;rfl));intro w18 hw;have hg : wr.grownBy w18 (some go16):=(by rw [hw];exact HP17.2);have hp_ : Kd.R (Kd.int .i64) 3 w18 w.heap.size (fun k_ => some k_ ≠ (.slice (some ad133) t130.length co10 : Value).ownBlock) (.slice (some ⟨go16,0,none⟩) x5_1.length co16) y134:=(by rw [hw,Ny134.out];exact HP17.1);clear HP17;have n0_:=mk_ (hp_);have n1_:=mk_ (Kd.R_after (v:=(.slice (some ⟨go16,0,none⟩) x5_1.length co16)) (v1:=(.slice (some ⟨go16,0,none⟩) x5_1.length co16)) (ok:=(fun _ => True)) (by (with_reducible repeat (first|apply ra_|apply rn_|apply rd_));exact rm_ HO_15.out (fun _ hk => ⟨trivial,hk⟩)) hg (.inl rfl));have n2_:=mk_ ((by rw [hw];exact bs_ (HB.out) GB16.out : Below w.heap.size w w18));clear HO_5;clear HO_15;clear HB;have HO_5:=n0_;have HO_15:=n1_;have HB:=n2_;clear n0_ n1_ n2_;clear hg hw hp_))
        go_roundg k1
        case measure => have:=HK1.out;omega
        case rel => exact ⟨(y134),(wrap64 (x17_1 + 1)),(by first|rfl|(simp;done)|(simp [*];done)),H',⟨by have:=HK1.out;omega⟩,⟨by (with_reducible repeat (first|apply ra_|apply rn_|apply rd_));exact HO_5.out⟩,⟨by (with_reducible repeat (first|apply ra_|apply rn_|apply rd_));exact rm_ HO_15.out (fun _ hk => hk.2)⟩,⟨by repeat (first|(with_reducible first|exact HB.out|apply ba_|apply bn_|apply bd_)|exact HB.out)⟩⟩
       ·rw [if_neg c15] at H
        exact absurd H (by simp)
      ·rw [if_neg c14] at H
       have c14b0 : (x17_1 == (rd t130 x17_1)) = false:=beq_eq_false_iff_ne.mpr c14
       have c14b1 : (x17_1 != (rd t130 x17_1)) = true:=bne_iff_ne.mpr c14
       have H':=mk_ H
       clear H
       have p133 : 0 ≤ (x17_1 : Int):=od_ (by first|(with_reducible assumption)|assumption)
       have q133 : x17_1 < (t130.length : Int):=od_ (by first|(with_reducible assumption)|assumption)
       obtain ⟨ad133,e133,hx133_0⟩:=Kd.at_int (rr_ HO_15.out).2.2 x17_1 p133 q133
       cases e133
       replace p133:=eq_true p133
       replace q133:=eq_true q133
       go_wp2
       go_roundg k1
       case measure => have:=HK1.out;omega
       case rel => exact ⟨(x5_1),(wrap64 (x17_1 + 1)),(by first|rfl|(simp;done)|(simp [*];done)),H',⟨by have:=HK1.out;omega⟩,⟨by (with_reducible repeat (first|apply ra_|apply rn_|apply rd_));exact HO_5.out⟩,⟨by (with_reducible repeat (first|apply ra_|apply rn_|apply rd_));exact HO_15.out⟩,⟨by repeat (first|(with_reducible first|exact HB.out|apply ba_|apply bn_|apply bd_)|exact HB.out)⟩⟩
     ·rw [if_neg c13] at H
      exact absurd H (by simp)
    ·rw [if_neg c12] at H
     exact absurd H (by simp)
   ·rw [if_neg c11] at H
    have c11b0 : decide (x17_1 < (t130.length : Int)) = false:=decide_eq_false c11
    clear c11
    have H':=mk_ H
    clear H
    go_wp2
    go_loopg [30] k1 (fun kq v30 w' => ∃ (x5_2 : List Int) (x30_2 : Int),v30 = .int .i64 x30_2 ∧ Aside0 (impl_costsOf.l1 kq l1 x5_2 a0 x30_2 = some r) ∧ Aside0 (kq ≤ k1) ∧ Aside0 (Kd.R (Kd.int .i64) 3 w' w.heap.size (fun _ => True) v128 x5_2) ∧ Aside0 (Below w.heap.size w w'))
    case atStart => exact ⟨(x5_1),(0),(by first|rfl|(simp;done)|(simp [*];done)),H',⟨Nat.le_refl _⟩,⟨by (with_reducible repeat (first|apply ra_|apply rn_|apply rd_));exact rm_ HO_5.out (fun _ hk => trivial)⟩,⟨by repeat (first|(with_reducible first|exact HB.out|apply ba_|apply bn_|apply bd_)|exact HB.out)⟩⟩
    case round =>
     clear H'
     try clear c1
     try clear p1
     try clear q1
     try clear hx1
     try clear p2
     try clear c5
     try clear c6
     try clear p6
     try clear c8
     try clear c11
     try clear c11b0
     try clear c12
     try clear c12b0
     try clear c13
     try clear c13b0
     try clear p13
     try clear q13
     try clear hx13
     try clear c14
     try clear c14b0
     try clear c14b1
     try clear c15
     try clear c15b0
     try clear p16
     try clear q16
     try clear hx16
     try clear hf16
     try clear hx133_0
     try clear hx16_0
     try clear p133
     try clear p16
     try clear p2
     try clear q133
     try clear q16
     obtain ⟨x5_2,x30_2,rfl,HA,HK2,HO_5,HB⟩:=hrel
     cases gk with
     | zero => exact absurd HA.out (by simp [impl_costsOf.l1])
     | succ k2 =>
      have H:=HA.out
      clear HA
      simp only [impl_costsOf.l1] at H
      by_cases c19 : x30_2 < a0
      ·rw [if_pos c19] at H
       have c19b0 : decide (x30_2 < a0) = true:=decide_eq_true c19
       clear c19
       have H':=mk_ H
       clear H
       go_wp2
       go_loopg [34] k2 (fun kq v34 w' => ∃ (x5_3 : List Int) (x34_3 : Int),v34 = .int .i64 x34_3 ∧ Aside0 (impl_costsOf.l2 kq l1 x5_3 a0 x30_2 l1 (l1.length : Int) x34_3 = some r) ∧ Aside0 (kq ≤ k2) ∧ Aside0 (Kd.R (Kd.int .i64) 3 w' w.heap.size (fun _ => True) v128 x5_3) ∧ Aside0 (Below w.heap.size w w'))
       case atStart => exact ⟨(x5_2),(0),(by first|rfl|(simp;done)|(simp [*];done)),H',⟨Nat.le_refl _⟩,⟨by (with_reducible repeat (first|apply ra_|apply rn_|apply rd_));exact HO_5.out⟩,⟨by repeat (first|(with_reducible first|exact HB.out|apply ba_|apply bn_|apply bd_)|exact HB.out)⟩⟩
       case round =>
        clear H'
        try clear c1
        try clear p1
        try clear q1
        try clear hx1
        try clear p2
        try clear c5
        try clear c6
        try clear p6
        try clear c8
        try clear c11
        try clear c11b0
        try clear c12
        try clear c12b0
        try clear c13
        try clear c13b0
        try clear p13
        try clear q13
        try clear hx13
        try clear c14
        try clear c14b0
        try clear c14b1
        try clear c15
        try clear c15b0
        try clear p16
        try clear q16
        try clear hx16
        try clear hf16
        try clear c19
        try clear c19b0
        try clear hx133_0
        try clear hx16_0
        try clear p1
        try clear p13
        try clear p133
        try clear p16
        try clear p2
        try clear p6
        try clear q1
        try clear q13
        try clear q133
        try clear q16
        obtain ⟨x5_3,x34_3,rfl,HA,HK3,HO_5,HB⟩:=hrel
        cases gk with
        | zero => exact absurd HA.out (by simp [impl_costsOf.l2])
        | succ k3 =>
         have H:=HA.out
         clear HA
         simp only [impl_costsOf.l2] at H
         by_cases c20 : x34_3 < (l1.length : Int)
         ·rw [if_pos c20] at H
          have c20b0 : decide (x34_3 < (l1.length : Int)) = true:=decide_eq_true c20
          clear c20
          by_cases c21 : 0 ≤ x34_3
          ·rw [if_pos c21] at H
           have c21b0 : decide (0 ≤ x34_3) = true:=decide_eq_true c21
           clear c21
           by_cases c22 : x34_3 < (l1.length : Int)
           ·rw [if_pos c22] at H
            have c22b0 : decide (x34_3 < (l1.length : Int)) = true:=decide_eq_true c22
            clear c22
            by_cases c23 : 0 ≤ ((rd_T51 l1 x34_3).f0)
            ·rw [if_pos c23] at H
             have c23b0 : decide (0 ≤ ((rd_T51 l1 x34_3).f0)) = true:=decide_eq_true c23
             clear c23
             by_cases c24 : ((rd_T51 l1 x34_3).f0) < (x5_3.length : Int)
             ·rw [if_pos c24] at H
              have c24b0 : decide (((rd_T51 l1 x34_3).f0) < (x5_3.length : Int)) = true:=decide_eq_true c24
              clear c24
              by_cases c25 : 0 ≤ ((rd_T51 l1 x34_3).f1)
              ·rw [if_pos c25] at H
               have c25b0 : decide (0 ≤ ((rd_T51 l1 x34_3).f1)) = true:=decide_eq_true c25
               clear c25
               by_cases c26 : ((rd_T51 l1 x34_3).f1) < (x5_3.length : Int)
               ·rw [if_pos c26] at H
                have c26b0 : decide (((rd_T51 l1 x34_3).f1) < (x5_3.length : Int)) = true:=decide_eq_true c26
                clear c26
                obtain ⟨ji27,hji27⟩ : ∃ j_ : Int,(mn (rd x5_3 ((rd_T51 l1 x34_3).f0)) (wrap64 ((rd x5_3 ((rd_T51 l1 x34_3).f1)) + ((rd_T51 l1 x34_3).f2)))) = j_:=⟨_,rfl⟩
                replace H : ((some (x5_3.set (((rd_T51 l1 x34_3).f0) : Int).toNat (ji27) : List Int)).bind fun y139 => (impl_costsOf.l2 k3 l1 (y139.set (((rd_T51 l1 x34_3).f1) : Int).toNat (mn (rd y139 ((rd_T51 l1 x34_3).f1)) (wrap64 ((rd y139 ((rd_T51 l1 x34_3).f0)) + ((rd_T51 l1 x34_3).f2))))) a0 x30_2 l1 (l1.length : Int) (wrap64 (x34_3 + 1)))) = some r:=by first|(rw [hji27] at H;exact H)|(simp only [hji27] at H ⊢;exact H)
                have hji27_ : (if (wrap64 ((rd x5_3 ((rd_T51 l1 x34_3).f1)) + ((rd_T51 l1 x34_3).f2))) < (rd x5_3 ((rd_T51 l1 x34_3).f0)) then (wrap64 ((rd x5_3 ((rd_T51 l1 x34_3).f1)) + ((rd_T51 l1 x34_3).f2))) else (rd x5_3 ((rd_T51 l1 x34_3).f0))) = ji27:=hji27
                obtain ⟨y139,hy139⟩ : ∃ y_ : List Int,y_ = (x5_3.set (((rd_T51 l1 x34_3).f0) : Int).toNat (ji27)):=⟨_,rfl⟩
                replace H : (impl_costsOf.l2 k3 l1 (y139.set (((rd_T51 l1 x34_3).f1) : Int).toNat (mn (rd y139 ((rd_T51 l1 x34_3).f1)) (wrap64 ((rd y139 ((rd_T51 l1 x34_3).f0)) + ((rd_T51 l1 x34_3).f2))))) a0 x30_2 l1 (l1.length : Int) (wrap64 (x34_3 + 1))) = some r:=by first|(rw [hy139];with_reducible exact H)|(have H2_:=(Option.bind_some _ _).symm.trans H;rw [hy139];with_reducible exact H2_)|(have H2_:=(Option.bind_some _ _).symm.trans H;with_reducible exact H2_)|with_reducible exact H|(rw [hy139];exact H)|exact H
                have Ny139:=mk_ hy139
                clear hy139
                obtain ⟨ji29,hji29⟩ : ∃ j_ : Int,(mn (rd y139 ((rd_T51 l1 x34_3).f1)) (wrap64 ((rd y139 ((rd_T51 l1 x34_3).f0)) + ((rd_T51 l1 x34_3).f2)))) = j_:=⟨_,rfl⟩
                replace H : (impl_costsOf.l2 k3 l1 (y139.set (((rd_T51 l1 x34_3).f1) : Int).toNat (ji29)) a0 x30_2 l1 (l1.length : Int) (wrap64 (x34_3 + 1))) = some r:=by first|(rw [hji29] at H;exact H)|(simp only [hji29] at H ⊢;exact H)
                have hji29_ : (if (wrap64 ((rd y139 ((rd_T51 l1 x34_3).f0)) + ((rd_T51 l1 x34_3).f2))) < (rd y139 ((rd_T51 l1 x34_3).f1)) then (wrap64 ((rd y139 ((rd_T51 l1 x34_3).f0)) + ((rd_T51 l1 x34_3).f2))) else (rd y139 ((rd_T51 l1 x34_3).f1))) = ji29:=hji29
                obtain ⟨y142,hy142⟩ : ∃ y_ : List Int,y_ = (y139.set (((rd_T51 l1 x34_3).f1) : Int).toNat (ji29)):=⟨_,rfl⟩
                replace H : (impl_costsOf.l2 k3 l1 y142 a0 x30_2 l1 (l1.length : Int) (wrap64 (x34_3 + 1))) = some r:=by first|(rw [hy142];with_reducible exact H)|(have H2_:=(Option.bind_some _ _).symm.trans H;rw [hy142];with_reducible exact H2_)|(have H2_:=(Option.bind_some _ _).symm.trans H;with_reducible exact H2_)|with_reducible exact H|(rw [hy142];exact H)|exact H
                have Ny142:=mk_ hy142
                clear hy142
                have H':=mk_ H
                clear H
                have p135 : 0 ≤ (x34_3 : Int):=od_ (by first|(with_reducible assumption)|assumption)
                have q135 : x34_3 < (l1.length : Int):=od_ (by first|(with_reducible assumption)|assumption)
                obtain ⟨ad135,e135,hx135_0,hx135_1,hx135_2⟩:=at_T51 HR1.out x34_3 p135 q135
                cases e135
                replace hx135_0:=(HB.out.cell (wl_ w _ hx135_0)).trans hx135_0
                replace hx135_1:=(HB.out.cell (wl_ w _ hx135_1)).trans hx135_1
                replace hx135_2:=(HB.out.cell (wl_ w _ hx135_2)).trans hx135_2
                replace p135:=eq_true p135
                replace q135:=eq_true q135
                try go_wp2_with (first|((with_reducible refine gate_dst (N:=9) rfl ?_);refine box_event ?hg (N:=9) ?hd (cs:=#[.int .i64 0,.int .i64 0,.int .i64 0]) (t:=51) ?hr ?_;(case hd => rfl);(case hg => rfl);(case hr => first|(go_simp;done)|(go_simp;rfl));intro gb136 hg w31 hbox hb;have n0_:=mk_ (rb_ (by (with_reducible repeat (first|apply ra_|apply rn_|apply rd_));exact HO_5.out) hb);have n1_:=mk_ (st_ (by repeat (first|(with_reducible first|exact HB.out|apply ba_|apply bn_|apply bd_)|exact HB.out)) hb);have n2_:=mk_ (hbox);have n3_:=mk_ ((by rw [hg];exact (bz_ (by repeat (first|(with_reducible first|exact HB.out|apply ba_|apply bn_|apply bd_)|exact HB.out))) : w.heap.size ≤ gb136));have n4_:=mk_ ((by rw [hg];exact (bz_ (by repeat (first|(with_reducible first|exact HB.out|apply ba_|apply bn_|apply bd_)|exact HB.out))) : w.heap.size ≤ gb136));clear HO_5;clear HB;have HO_5:=n0_;have HB:=n1_;have BK136:=n2_;have GW136:=n3_;have GE136:=n4_;clear n0_ n1_ n2_ n3_ n4_;clear hb hbox hg;have hcz32_0 : w31.cell? ⟨gb136,0,none⟩ = some (.int .i64 0):=(bc_ BK136.out 0).trans rfl;have hcz32_1 : w31.cell? ⟨gb136,1,none⟩ = some (.int .i64 0):=(bc_ BK136.out 1).trans rfl;have hcz32_2 : w31.cell? ⟨gb136,2,none⟩ = some (.int .i64 0):=(bc_ BK136.out 2).trans rfl;have hfz32_0:=bf_ BK136.out 0;have hfz32_1:=bf_ BK136.out 1;have hfz32_2:=bf_ BK136.out 2))
                have n0_ : Aside0 (Kd.R (Kd.int .i64) 3 (((w31.setCell ⟨gb136,0,none⟩ (.int .i64 ((rd_T51 l1 x34_3).f0))).setCell ⟨gb136,1,none⟩ (.int .i64 ((rd_T51 l1 x34_3).f1))).setCell ⟨gb136,2,none⟩ (.int .i64 ((rd_T51 l1 x34_3).f2))) w.heap.size (fun _ => True) v128 x5_3):=⟨by (with_reducible repeat (first|apply ra_|apply rn_|apply rd_));exact rm_ (rf_ (p:=⟨gb136,2,none⟩) (rf_ (p:=⟨gb136,1,none⟩) (rf_ (p:=⟨gb136,0,none⟩) (rt_ HO_5.out BK136.out (by decide)) (fun _ hk => hk.2) (.int .i64 ((rd_T51 l1 x34_3).f0))) (fun _ hk => hk.2) (.int .i64 ((rd_T51 l1 x34_3).f1))) (fun _ hk => hk.2) (.int .i64 ((rd_T51 l1 x34_3).f2))) (fun _ hk => trivial)⟩
                have n1_ : Aside0 ((((w31.setCell ⟨gb136,0,none⟩ (.int .i64 ((rd_T51 l1 x34_3).f0))).setCell ⟨gb136,1,none⟩ (.int .i64 ((rd_T51 l1 x34_3).f1))).setCell ⟨gb136,2,none⟩ (.int .i64 ((rd_T51 l1 x34_3).f2))).heap[gb136]? = some (.cells #[.int .i64 ((rd_T51 l1 x34_3).f0),.int .i64 ((rd_T51 l1 x34_3).f1),.int .i64 ((rd_T51 l1 x34_3).f2)] 51 (0,0))):=⟨by (with_reducible repeat (first|refine kn_ ?_ _|refine kd_ ?_|refine ka_ ?_ _));refine blk_put (cs:=#[.int .i64 ((rd_T51 l1 x34_3).f0),.int .i64 ((rd_T51 l1 x34_3).f1),.int .i64 0]) ?_ 2 _ rfl;(with_reducible repeat (first|refine kn_ ?_ _|refine kd_ ?_|refine ka_ ?_ _));refine blk_put (cs:=#[.int .i64 ((rd_T51 l1 x34_3).f0),.int .i64 0,.int .i64 0]) ?_ 1 _ rfl;(with_reducible repeat (first|refine kn_ ?_ _|refine kd_ ?_|refine ka_ ?_ _));refine blk_put (cs:=#[.int .i64 0,.int .i64 0,.int .i64 0]) ?_ 0 _ rfl;(with_reducible repeat (first|refine kn_ ?_ _|refine kd_ ?_|refine ka_ ?_ _));exact BK136.out⟩
                have n2_ : Aside0 (Below w.heap.size w (((w31.setCell ⟨gb136,0,none⟩ (.int .i64 ((rd_T51 l1 x34_3).f0))).setCell ⟨gb136,1,none⟩ (.int .i64 ((rd_T51 l1 x34_3).f1))).setCell ⟨gb136,2,none⟩ (.int .i64 ((rd_T51 l1 x34_3).f2)))):=⟨by repeat (first|(with_reducible first|exact HB.out|apply ba_|apply bn_|apply bd_|refine bs_ ?_ GE136.out)|exact HB.out)⟩
                (try clear HO_5)
                (try clear BK136)
                (try clear HB)
                generalize (((w31.setCell ⟨gb136,0,none⟩ (.int .i64 ((rd_T51 l1 x34_3).f0))).setCell ⟨gb136,1,none⟩ (.int .i64 ((rd_T51 l1 x34_3).f1))).setCell ⟨gb136,2,none⟩ (.int .i64 ((rd_T51 l1 x34_3).f2))) = w33 at n0_ n1_ n2_ ⊢
                have HO_5:=n0_
                have BK136:=n1_
                have HB:=n2_
                clear n0_ n1_ n2_
                have n0_:=mk_ (rd_ HO_5.out)
                have n1_:=mk_ (kd_ BK136.out)
                have n2_:=mk_ (bd_ HB.out)
                clear HO_5
                clear BK136
                clear HB
                have HO_5:=n0_
                have BK136:=n1_
                have HB:=n2_
                clear n0_ n1_ n2_
                obtain ⟨Ao35,co35,eo35⟩:=Kd.R_slice HO_5.out
                (first|subst eo35|(injection eo35 with f1_ f2_ f3_;have f4_:=f1_.symm;have f5_:=f3_.symm;clear f1_ f2_ f3_;subst f4_;subst f5_))
                have p137 : 0 ≤ (((rd_T51 l1 x34_3).f0) : Int):=od_ (by first|(with_reducible assumption)|assumption)
                have q137 : ((rd_T51 l1 x34_3).f0) < (x5_3.length : Int):=od_ (by first|(with_reducible assumption)|assumption)
                obtain ⟨ad137,e137,hx137_0⟩:=Kd.at_int (rr_ HO_5.out).2.2 ((rd_T51 l1 x34_3).f0) p137 q137
                cases e137
                replace p137:=eq_true p137
                replace q137:=eq_true q137
                have p138 : 0 ≤ (((rd_T51 l1 x34_3).f1) : Int):=od_ (by first|(with_reducible assumption)|assumption)
                have q138 : ((rd_T51 l1 x34_3).f1) < (x5_3.length : Int):=od_ (by first|(with_reducible assumption)|assumption)
                obtain ⟨ad138,e138,hx138_0⟩:=Kd.at_int (rr_ HO_5.out).2.2 ((rd_T51 l1 x34_3).f1) p138 q138
                obtain rfl : ad137 = ad138:=(by injection e138)
                replace p138:=eq_true p138
                replace q138:=eq_true q138
                have p28 : 0 ≤ (((rd_T51 l1 x34_3).f0) : Int):=od_ (by first|(with_reducible assumption)|assumption)
                have q28 : (((rd_T51 l1 x34_3).f0) : Int) < ((x5_3.length : Int) : Int):=od_ (by first|(with_reducible assumption)|assumption)
                obtain ⟨go28,co28,eo28,gb28,gl28,cl28,HG28⟩:=Kd.R_form HO_5.out (by omega)
                (first|cases eo28|(injection eo28 with ea_ en_ ec_;(first|subst ea_|(injection ea_ with ea_;subst ea_));subst ec_;clear en_))
                have GB28:=mk_ gb28
                have GG28:=mk_ HG28
                clear gb28 gl28 HG28
                (first|simp only [add_plain] at hx137_0|skip)
                (first|simp only [add_plain] at hx138_0|skip)
                obtain ⟨hx28_0,hf28_0⟩:=Kd.R_celln 0 HO_5.out (((rd_T51 l1 x34_3).f0) : Int) p28 q28
                replace p28:=eq_true p28
                replace q28:=eq_true q28
                have HP36:=Kd.R_putn HO_5.out (((rd_T51 l1 x34_3).f0) : Int) ji27
                rw [← Ny139.out] at HP36
                have HQ36:=mk_ HP36
                clear HP36
                refine start_ (n:=19) (S:=fun w' => w'.cell? ⟨gb136,0,none⟩ = some (.int .i64 ((rd_T51 l1 x34_3).f0)) ∧ w'.cell? ⟨gb136,1,none⟩ = some (.int .i64 ((rd_T51 l1 x34_3).f1)) ∧ w'.cell? ⟨gb136,2,none⟩ = some (.int .i64 ((rd_T51 l1 x34_3).f2)) ∧ w'.cell? ⟨go28,(((rd_T51 l1 x34_3).f0)).toNat,none⟩ = some (.int .i64 (rd x5_3 ((rd_T51 l1 x34_3).f0))) ∧ w'.cell? ⟨go28,(((rd_T51 l1 x34_3).f1)).toNat,none⟩ = some (.int .i64 (rd x5_3 ((rd_T51 l1 x34_3).f1)))) (ds:=[18]) #[false,false,false,false,false,false,false,false,false,false,false,false,false,false,false,false,false,false,false] (by kernel_rfl) rfl rfl ⟨(bc_ BK136.out 0).trans rfl,(bc_ BK136.out 1).trans rfl,(bc_ BK136.out 2).trans rfl,hx137_0,hx138_0⟩ (fun hHeld => ?_);refine with_tabW impl_costsOf.tab13 impl_costsOf.bits13 (fun HT_ HW_ => ?_)
                generalize w33.drew = w34 at HO_5 BK136 HB GG28 HQ36 hf28_0 hx137_0 hx138_0 hx28_0 hHeld ⊢
                refine pure_ (i:=0) (N:=some 38) (v:=?_) (a':=?_) #[true,false,false,false,false,false,false,false,false,false,false,false,false,false,false,false,false,false,false] rfl rfl (any_of HT_.out (by kernel_rfl)) (fun _ _ _ h => h) (Or.inl ⟨by rfl,?_⟩) ?_ ?_
                rotate_left
                ·intro w'
                 go_simp
                 with_reducible rfl
                rotate_left
                ·simp only [Act.put,List.setIfInBounds_toArray,List.set_cons_zero,List.set_cons_succ,i64_w,i32_w]
                 rfl
                refine pure_ (i:=1) (N:=some 39) (v:=?_) (a':=?_) #[true,true,false,false,false,false,false,false,false,false,false,false,false,false,false,false,false,false,false] rfl rfl (any_of HT_.out (by kernel_rfl)) (fun _ _ _ h => h) (Or.inl ⟨by rfl,?_⟩) ?_ ?_
                rotate_left
                ·intro w'
                 go_simp
                 with_reducible rfl
                rotate_left
                ·simp only [Act.put,List.setIfInBounds_toArray,List.set_cons_zero,List.set_cons_succ,i64_w,i32_w]
                 rfl
                refine pure_ (i:=3) (N:=some 41) (v:=?_) (a':=?_) #[true,true,false,true,false,false,false,false,false,false,false,false,false,false,false,false,false,false,false] rfl rfl (any_of HT_.out (by kernel_rfl)) (fun _ _ _ h => h) (Or.inl ⟨by rfl,?_⟩) ?_ ?_
                rotate_left
                ·intro w'
                 go_simp
                 with_reducible rfl
                rotate_left
                ·simp only [Act.put,List.setIfInBounds_toArray,List.set_cons_zero,List.set_cons_succ,i64_w,i32_w]
                 rfl
                refine pure_ (i:=4) (N:=some 42) (v:=?_) (a':=?_) #[true,true,false,true,true,false,false,false,false,false,false,false,false,false,false,false,false,false,false] rfl rfl (any_of HT_.out (by kernel_rfl)) (fun _ _ _ h => h) (Or.inl ⟨by rfl,?_⟩) ?_ ?_
                rotate_left
                ·intro w'
                 go_simp
                 with_reducible rfl
                rotate_left
                ·simp only [Act.put,List.setIfInBounds_toArray,List.set_cons_zero,List.set_cons_succ,i64_w,i32_w]
                 rfl
                refine pure_ (i:=8) (N:=some 46) (v:=?_) (a':=?_) #[true,true,false,true,true,false,false,false,true,false,false,false,false,false,false,false,false,false,false] rfl rfl (any_of HT_.out (by kernel_rfl)) (fun _ _ _ h => h) (Or.inl ⟨by rfl,?_⟩) ?_ ?_
                rotate_left
                ·intro w'
                 go_simp
                 with_reducible rfl
                rotate_left
                ·simp only [Act.put,List.setIfInBounds_toArray,List.set_cons_zero,List.set_cons_succ,i64_w,i32_w]
                 rfl
                refine pure_ (i:=9) (N:=some 47) (v:=?_) (a':=?_) #[true,true,false,true,true,false,false,false,true,true,false,false,false,false,false,false,false,false,false] rfl rfl (any_of HT_.out (by kernel_rfl)) (fun _ _ _ h => h) (Or.inl ⟨by rfl,?_⟩) ?_ ?_
                rotate_left
                ·intro w'
                 go_simp
                 with_reducible rfl
                rotate_left
                ·simp only [Act.put,List.setIfInBounds_toArray,List.set_cons_zero,List.set_cons_succ,i64_w,i32_w]
                 rfl
                refine pure_ (i:=13) (N:=some 51) (v:=?_) (a':=?_) #[true,true,false,true,true,false,false,false,true,true,false,false,false,true,false,false,false,false,false] rfl rfl (any_of HT_.out (by kernel_rfl)) (fun _ _ _ h => h) (Or.inl ⟨by rfl,?_⟩) ?_ ?_
                rotate_left
                ·intro w'
                 go_simp
                 with_reducible rfl
                rotate_left
                ·simp only [Act.put,List.setIfInBounds_toArray,List.set_cons_zero,List.set_cons_succ,i64_w,i32_w]
                 rfl
                refine take_ (i:=2) (N:=some 40) (v:=?_) (a':=?_) #[true,true,true,true,true,false,false,false,true,true,false,false,false,true,false,false,false,false,false] rfl rfl (take_ofW HT_.out HW_.out (by kernel_rfl)) (fun _ _ _ h => h) (Or.inl ⟨by rfl,?_⟩) hHeld ?_ ?_
                rotate_left
                ·rintro w' ⟨s0,s1,s2,s3,s4⟩
                 go_simp
                 with_reducible rfl
                rotate_left
                ·simp only [Act.put,List.setIfInBounds_toArray,List.set_cons_zero,List.set_cons_succ,i64_w,i32_w]
                 rfl
                refine take_ (i:=5) (N:=some 43) (v:=?_) (a':=?_) #[true,true,true,true,true,true,false,false,true,true,false,false,false,true,false,false,false,false,false] rfl rfl (take_ofW HT_.out HW_.out (by kernel_rfl)) (fun _ _ _ h => h) (Or.inl ⟨by rfl,?_⟩) hHeld ?_ ?_
                rotate_left
                ·rintro w' ⟨s0,s1,s2,s3,s4⟩
                 go_simp
                 with_reducible rfl
                rotate_left
                ·simp only [Act.put,List.setIfInBounds_toArray,List.set_cons_zero,List.set_cons_succ,i64_w,i32_w]
                 rfl
                refine pure_ (i:=6) (N:=some 44) (v:=?_) (a':=?_) #[true,true,true,true,true,true,true,false,true,true,false,false,false,true,false,false,false,false,false] rfl rfl (any_of HT_.out (by kernel_rfl)) (fun _ _ _ h => h) (Or.inl ⟨by rfl,?_⟩) ?_ ?_
                rotate_left
                ·intro w'
                 go_simp
                 with_reducible rfl
                rotate_left
                ·simp only [Act.put,List.setIfInBounds_toArray,List.set_cons_zero,List.set_cons_succ,i64_w,i32_w]
                 rfl
                refine take_ (i:=7) (N:=some 45) (v:=?_) (a':=?_) #[true,true,true,true,true,true,true,true,true,true,false,false,false,true,false,false,false,false,false] rfl rfl (take_ofW HT_.out HW_.out (by kernel_rfl)) (fun _ _ _ h => h) (Or.inl ⟨by rfl,?_⟩) hHeld ?_ ?_
                rotate_left
                ·rintro w' ⟨s0,s1,s2,s3,s4⟩
                 go_simp
                 with_reducible rfl
                rotate_left
                ·simp only [Act.put,List.setIfInBounds_toArray,List.set_cons_zero,List.set_cons_succ,i64_w,i32_w]
                 rfl
                refine take_ (i:=10) (N:=some 48) (v:=?_) (a':=?_) #[true,true,true,true,true,true,true,true,true,true,true,false,false,true,false,false,false,false,false] rfl rfl (take_ofW HT_.out HW_.out (by kernel_rfl)) (fun _ _ _ h => h) (Or.inl ⟨by rfl,?_⟩) hHeld ?_ ?_
                rotate_left
                ·rintro w' ⟨s0,s1,s2,s3,s4⟩
                 go_simp
                 with_reducible rfl
                rotate_left
                ·simp only [Act.put,List.setIfInBounds_toArray,List.set_cons_zero,List.set_cons_succ,i64_w,i32_w]
                 rfl
                refine pure_ (i:=11) (N:=some 49) (v:=?_) (a':=?_) #[true,true,true,true,true,true,true,true,true,true,true,true,false,true,false,false,false,false,false] rfl rfl (any_of HT_.out (by kernel_rfl)) (fun _ _ _ h => h) (Or.inl ⟨by rfl,?_⟩) ?_ ?_
                rotate_left
                ·intro w'
                 go_simp
                 with_reducible rfl
                rotate_left
                ·simp only [Act.put,List.setIfInBounds_toArray,List.set_cons_zero,List.set_cons_succ,i64_w,i32_w]
                 rfl
                refine take_ (i:=12) (N:=some 50) (v:=?_) (a':=?_) #[true,true,true,true,true,true,true,true,true,true,true,true,true,true,false,false,false,false,false] rfl rfl (take_ofW HT_.out HW_.out (by kernel_rfl)) (fun _ _ _ h => h) (Or.inl ⟨by rfl,?_⟩) hHeld ?_ ?_
                rotate_left
                ·rintro w' ⟨s0,s1,s2,s3,s4⟩
                 go_simp
                 with_reducible rfl
                rotate_left
                ·simp only [Act.put,List.setIfInBounds_toArray,List.set_cons_zero,List.set_cons_succ,i64_w,i32_w]
                 rfl
                refine take_ (i:=14) (N:=some 52) (v:=?_) (a':=?_) #[true,true,true,true,true,true,true,true,true,true,true,true,true,true,true,false,false,false,false] rfl rfl (take_ofW HT_.out HW_.out (by kernel_rfl)) (fun _ _ _ h => h) (Or.inl ⟨by rfl,?_⟩) hHeld ?_ ?_
                rotate_left
                ·rintro w' ⟨s0,s1,s2,s3,s4⟩
                 go_simp
                 with_reducible rfl
                rotate_left
                ·simp only [Act.put,List.setIfInBounds_toArray,List.set_cons_zero,List.set_cons_succ,i64_w,i32_w]
                 rfl
                refine pure_ (i:=15) (N:=some 53) (v:=?_) (a':=?_) #[true,true,true,true,true,true,true,true,true,true,true,true,true,true,true,true,false,false,false] rfl rfl (any_of HT_.out (by kernel_rfl)) (fun _ _ _ h => h) (Or.inl ⟨by rfl,?_⟩) ?_ ?_
                rotate_left
                ·intro w'
                 go_simp
                 with_reducible rfl
                rotate_left
                ·simp only [Act.put,List.setIfInBounds_toArray,List.set_cons_zero,List.set_cons_succ,i64_w,i32_w]
                 rfl
                refine pure_ (i:=16) (N:=some 54) (v:=?_) (a':=?_) #[true,true,true,true,true,true,true,true,true,true,true,true,true,true,true,true,true,false,false] rfl rfl (any_of HT_.out (by kernel_rfl)) (fun _ _ _ h => h) (Or.inl ⟨by rfl,?_⟩) ?_ ?_
                rotate_left
                ·intro w'
                 go_simp
                 with_reducible rfl
                rotate_left
                ·simp only [Act.put,List.setIfInBounds_toArray,List.set_cons_zero,List.set_cons_succ,i64_w,i32_w]
                 rfl
                refine pure_ (i:=17) (N:=some 55) (v:=?_) (a':=?_) #[true,true,true,true,true,true,true,true,true,true,true,true,true,true,true,true,true,true,false] rfl rfl (any_of HT_.out (by kernel_rfl)) (fun _ _ _ h => h) (Or.inl ⟨by rfl,?_⟩) ?_ ?_
                rotate_left
                ·intro w'
                 go_simp
                 with_reducible rfl
                rotate_left
                ·simp only [Act.put,List.setIfInBounds_toArray,List.set_cons_zero,List.set_cons_succ,i64_w,i32_w]
                 rfl
                refine last_ (i:=18) (N:=none) #[true,true,true,true,true,true,true,true,true,true,true,true,true,true,true,true,true,true,true] rfl rfl (one_of HT_.out (by kernel_rfl)) (by decide) (fun K hK => ?_)
                refine skip_ (w1:=?_) (by rfl) rfl ?_ ?_
                rotate_left
                ·go_simp
                 rfl
                refine hK.out _ _ ?_
                clear hK K
                refine done_ (done_of HT_.out (by kernel_rfl)) ?_
                try go_wp2
                have n0_ : Aside0 (Kd.R (Kd.int .i64) 3 (w34.setCell ⟨go28,(((rd_T51 l1 x34_3).f0) : Int).toNat,none⟩ (.int .i64 ji27)) w.heap.size (fun _ => True) (.slice (some ⟨go28,0,none⟩) x5_3.length co35) y139):=⟨by (with_reducible repeat (first|apply ra_|apply rn_|apply rd_));exact HQ36.out⟩
                have n1_ : Aside0 ((w34.setCell ⟨go28,(((rd_T51 l1 x34_3).f0) : Int).toNat,none⟩ (.int .i64 ji27)).heap[gb136]? = some (.cells #[.int .i64 ((rd_T51 l1 x34_3).f0),.int .i64 ((rd_T51 l1 x34_3).f1),.int .i64 ((rd_T51 l1 x34_3).f2)] 51 (0,0))):=⟨by (with_reducible repeat (first|refine kn_ ?_ _|refine kd_ ?_|refine ka_ ?_ _));refine blk_far ?_ (by have h_:=Kd.R_ne HO_5.out BK136.out (by decide);intro e_;exact h_ (by rw [e_];rfl)) _;(with_reducible repeat (first|refine kn_ ?_ _|refine kd_ ?_|refine ka_ ?_ _));exact BK136.out⟩
                have n2_ : Aside0 (Below w.heap.size w (w34.setCell ⟨go28,(((rd_T51 l1 x34_3).f0) : Int).toNat,none⟩ (.int .i64 ji27))):=⟨by repeat (first|(with_reducible first|exact HB.out|apply ba_|apply bn_|apply bd_|refine bs_ ?_ GB28.out|refine bs_ ?_ GE136.out)|exact HB.out)⟩
                (try clear HO_5)
                (try clear BK136)
                (try clear HB)
                generalize (w34.setCell ⟨go28,(((rd_T51 l1 x34_3).f0) : Int).toNat,none⟩ (.int .i64 ji27)) = w37 at n0_ n1_ n2_ ⊢
                have HO_5:=n0_
                have BK136:=n1_
                have HB:=n2_
                clear n0_ n1_ n2_
                have n0_:=mk_ (rd_ HO_5.out)
                have n1_:=mk_ (kd_ BK136.out)
                have n2_:=mk_ (bd_ HB.out)
                clear HO_5
                clear BK136
                clear HB
                have HO_5:=n0_
                have BK136:=n1_
                have HB:=n2_
                clear n0_ n1_ n2_
                have p140 : 0 ≤ (((rd_T51 l1 x34_3).f1) : Int):=od_ (by first|(with_reducible assumption)|assumption)
                have q140 : ((rd_T51 l1 x34_3).f1) < (y139.length : Int):=(by have h_ : (((rd_T51 l1 x34_3).f1) : Int) < ((x5_3.length : Int) : Int):=od_ (by first|(with_reducible assumption)|assumption);first|(have e_:=(rr_ HO_5.out).1;omega)|simpa only [Ny139.out,List.length_set] using h_)
                have ql140 : ((((rd_T51 l1 x34_3).f1) : Int) < ((x5_3.length : Int) : Int)) = True:=eq_true (od_ (by first|(with_reducible assumption)|assumption))
                obtain ⟨ad140,e140,hx140_0⟩:=Kd.at_int (rr_ HO_5.out).2.2 ((rd_T51 l1 x34_3).f1) p140 q140
                obtain rfl : (⟨go28,0,none⟩ : Addr) = ad140:=(by injection e140)
                (first|simp only [add_plain] at hx140_0|simp only [add_at] at hx140_0|simp only [Addr.add,Nat.zero_add] at hx140_0|skip)
                replace p140:=eq_true p140
                replace q140:=eq_true q140
                have p141 : 0 ≤ (((rd_T51 l1 x34_3).f0) : Int):=od_ (by first|(with_reducible assumption)|assumption)
                have q141 : ((rd_T51 l1 x34_3).f0) < (y139.length : Int):=(by have h_ : (((rd_T51 l1 x34_3).f0) : Int) < ((x5_3.length : Int) : Int):=od_ (by first|(with_reducible assumption)|assumption);first|(have e_:=(rr_ HO_5.out).1;omega)|simpa only [Ny139.out,List.length_set] using h_)
                have ql141 : ((((rd_T51 l1 x34_3).f0) : Int) < ((x5_3.length : Int) : Int)) = True:=eq_true (od_ (by first|(with_reducible assumption)|assumption))
                obtain ⟨ad141,e141,hx141_0⟩:=Kd.at_int (rr_ HO_5.out).2.2 ((rd_T51 l1 x34_3).f0) p141 q141
                obtain rfl : (⟨go28,0,none⟩ : Addr) = ad141:=(by injection e141)
                (first|simp only [add_plain] at hx141_0|simp only [add_at] at hx141_0|simp only [Addr.add,Nat.zero_add] at hx141_0|skip)
                replace p141:=eq_true p141
                replace q141:=eq_true q141
                have p30 : 0 ≤ (((rd_T51 l1 x34_3).f1) : Int):=od_ (by first|(with_reducible assumption)|assumption)
                have q30 : (((rd_T51 l1 x34_3).f1) : Int) < ((x5_3.length : Int) : Int):=od_ (by first|(with_reducible assumption)|assumption)
                obtain ⟨hx30_0,hf30_0⟩:=Kd.R_celln 0 HO_5.out (((rd_T51 l1 x34_3).f1) : Int) p30 q30
                replace p30:=eq_true p30
                replace q30:=eq_true q30
                have HP39:=Kd.R_putn HO_5.out (((rd_T51 l1 x34_3).f1) : Int) ji29
                rw [← Ny142.out] at HP39
                have HQ39:=mk_ HP39
                clear HP39
                refine start_ (n:=19) (S:=fun w' => w'.cell? ⟨gb136,0,none⟩ = some (.int .i64 ((rd_T51 l1 x34_3).f0)) ∧ w'.cell? ⟨gb136,1,none⟩ = some (.int .i64 ((rd_T51 l1 x34_3).f1)) ∧ w'.cell? ⟨gb136,2,none⟩ = some (.int .i64 ((rd_T51 l1 x34_3).f2)) ∧ w'.cell? ⟨go28,(((rd_T51 l1 x34_3).f1)).toNat,none⟩ = some (.int .i64 (rd y139 ((rd_T51 l1 x34_3).f1))) ∧ w'.cell? ⟨go28,(((rd_T51 l1 x34_3).f0)).toNat,none⟩ = some (.int .i64 (rd y139 ((rd_T51 l1 x34_3).f0)))) (ds:=[18]) #[false,false,false,false,false,false,false,false,false,false,false,false,false,false,false,false,false,false,false] (by kernel_rfl) rfl rfl ⟨(bc_ BK136.out 0).trans rfl,(bc_ BK136.out 1).trans rfl,(bc_ BK136.out 2).trans rfl,hx140_0,hx141_0⟩ (fun hHeld => ?_);refine with_tabW impl_costsOf.tab14 impl_costsOf.bits14 (fun HT_ HW_ => ?_)
                generalize w37.drew = w38 at HO_5 BK136 HB HQ36 HQ39 hf30_0 hx140_0 hx141_0 hx30_0 hHeld ⊢
                refine pure_ (i:=0) (N:=some 56) (v:=?_) (a':=?_) #[true,false,false,false,false,false,false,false,false,false,false,false,false,false,false,false,false,false,false] rfl rfl (any_of HT_.out (by kernel_rfl)) (fun _ _ _ h => h) (Or.inl ⟨by rfl,?_⟩) ?_ ?_
                rotate_left
                ·intro w'
                 go_simp
                 with_reducible rfl
                rotate_left
                ·simp only [Act.put,List.setIfInBounds_toArray,List.set_cons_zero,List.set_cons_succ,i64_w,i32_w]
                 rfl
                refine pure_ (i:=1) (N:=some 57) (v:=?_) (a':=?_) #[true,true,false,false,false,false,false,false,false,false,false,false,false,false,false,false,false,false,false] rfl rfl (any_of HT_.out (by kernel_rfl)) (fun _ _ _ h => h) (Or.inl ⟨by rfl,?_⟩) ?_ ?_
                rotate_left
                ·intro w'
                 go_simp
                 with_reducible rfl
                rotate_left
                ·simp only [Act.put,List.setIfInBounds_toArray,List.set_cons_zero,List.set_cons_succ,i64_w,i32_w]
                 rfl
                refine pure_ (i:=3) (N:=some 59) (v:=?_) (a':=?_) #[true,true,false,true,false,false,false,false,false,false,false,false,false,false,false,false,false,false,false] rfl rfl (any_of HT_.out (by kernel_rfl)) (fun _ _ _ h => h) (Or.inl ⟨by rfl,?_⟩) ?_ ?_
                rotate_left
                ·intro w'
                 go_simp
                 with_reducible rfl
                rotate_left
                ·simp only [Act.put,List.setIfInBounds_toArray,List.set_cons_zero,List.set_cons_succ,i64_w,i32_w]
                 rfl
                refine pure_ (i:=4) (N:=some 60) (v:=?_) (a':=?_) #[true,true,false,true,true,false,false,false,false,false,false,false,false,false,false,false,false,false,false] rfl rfl (any_of HT_.out (by kernel_rfl)) (fun _ _ _ h => h) (Or.inl ⟨by rfl,?_⟩) ?_ ?_
                rotate_left
                ·intro w'
                 go_simp
                 with_reducible rfl
                rotate_left
                ·simp only [Act.put,List.setIfInBounds_toArray,List.set_cons_zero,List.set_cons_succ,i64_w,i32_w]
                 rfl
                refine pure_ (i:=8) (N:=some 64) (v:=?_) (a':=?_) #[true,true,false,true,true,false,false,false,true,false,false,false,false,false,false,false,false,false,false] rfl rfl (any_of HT_.out (by kernel_rfl)) (fun _ _ _ h => h) (Or.inl ⟨by rfl,?_⟩) ?_ ?_
                rotate_left
                ·intro w'
                 go_simp
                 with_reducible rfl
                rotate_left
                ·simp only [Act.put,List.setIfInBounds_toArray,List.set_cons_zero,List.set_cons_succ,i64_w,i32_w]
                 rfl
                refine pure_ (i:=9) (N:=some 65) (v:=?_) (a':=?_) #[true,true,false,true,true,false,false,false,true,true,false,false,false,false,false,false,false,false,false] rfl rfl (any_of HT_.out (by kernel_rfl)) (fun _ _ _ h => h) (Or.inl ⟨by rfl,?_⟩) ?_ ?_
                rotate_left
                ·intro w'
                 go_simp
                 with_reducible rfl
                rotate_left
                ·simp only [Act.put,List.setIfInBounds_toArray,List.set_cons_zero,List.set_cons_succ,i64_w,i32_w]
                 rfl
                refine pure_ (i:=13) (N:=some 69) (v:=?_) (a':=?_) #[true,true,false,true,true,false,false,false,true,true,false,false,false,true,false,false,false,false,false] rfl rfl (any_of HT_.out (by kernel_rfl)) (fun _ _ _ h => h) (Or.inl ⟨by rfl,?_⟩) ?_ ?_
                rotate_left
                ·intro w'
                 go_simp
                 with_reducible rfl
                rotate_left
                ·simp only [Act.put,List.setIfInBounds_toArray,List.set_cons_zero,List.set_cons_succ,i64_w,i32_w]
                 rfl
                refine take_ (i:=2) (N:=some 58) (v:=?_) (a':=?_) #[true,true,true,true,true,false,false,false,true,true,false,false,false,true,false,false,false,false,false] rfl rfl (take_ofW HT_.out HW_.out (by kernel_rfl)) (fun _ _ _ h => h) (Or.inl ⟨by rfl,?_⟩) hHeld ?_ ?_
                rotate_left
                ·rintro w' ⟨s0,s1,s2,s3,s4⟩
                 go_simp
                 with_reducible rfl
                rotate_left
                ·simp only [Act.put,List.setIfInBounds_toArray,List.set_cons_zero,List.set_cons_succ,i64_w,i32_w]
                 rfl
                refine take_ (i:=5) (N:=some 61) (v:=?_) (a':=?_) #[true,true,true,true,true,true,false,false,true,true,false,false,false,true,false,false,false,false,false] rfl rfl (take_ofW HT_.out HW_.out (by kernel_rfl)) (fun _ _ _ h => h) (Or.inl ⟨by rfl,?_⟩) hHeld ?_ ?_
                rotate_left
                ·rintro w' ⟨s0,s1,s2,s3,s4⟩
                 go_simp
                 with_reducible rfl
                rotate_left
                ·simp only [Act.put,List.setIfInBounds_toArray,List.set_cons_zero,List.set_cons_succ,i64_w,i32_w]
                 rfl
                refine pure_ (i:=6) (N:=some 62) (v:=?_) (a':=?_) #[true,true,true,true,true,true,true,false,true,true,false,false,false,true,false,false,false,false,false] rfl rfl (any_of HT_.out (by kernel_rfl)) (fun _ _ _ h => h) (Or.inl ⟨by rfl,?_⟩) ?_ ?_
                rotate_left
                ·intro w'
                 go_simp
                 with_reducible rfl
                rotate_left
                ·simp only [Act.put,List.setIfInBounds_toArray,List.set_cons_zero,List.set_cons_succ,i64_w,i32_w]
                 rfl
                refine take_ (i:=7) (N:=some 63) (v:=?_) (a':=?_) #[true,true,true,true,true,true,true,true,true,true,false,false,false,true,false,false,false,false,false] rfl rfl (take_ofW HT_.out HW_.out (by kernel_rfl)) (fun _ _ _ h => h) (Or.inl ⟨by rfl,?_⟩) hHeld ?_ ?_
                rotate_left
                ·rintro w' ⟨s0,s1,s2,s3,s4⟩
                 go_simp
                 with_reducible rfl
                rotate_left
                ·simp only [Act.put,List.setIfInBounds_toArray,List.set_cons_zero,List.set_cons_succ,i64_w,i32_w]
                 rfl
                refine take_ (i:=10) (N:=some 66) (v:=?_) (a':=?_) #[true,true,true,true,true,true,true,true,true,true,true,false,false,true,false,false,false,false,false] rfl rfl (take_ofW HT_.out HW_.out (by kernel_rfl)) (fun _ _ _ h => h) (Or.inl ⟨by rfl,?_⟩) hHeld ?_ ?_
                rotate_left
                ·rintro w' ⟨s0,s1,s2,s3,s4⟩
                 go_simp
                 with_reducible rfl
                rotate_left
                ·simp only [Act.put,List.setIfInBounds_toArray,List.set_cons_zero,List.set_cons_succ,i64_w,i32_w]
                 rfl
                refine pure_ (i:=11) (N:=some 67) (v:=?_) (a':=?_) #[true,true,true,true,true,true,true,true,true,true,true,true,false,true,false,false,false,false,false] rfl rfl (any_of HT_.out (by kernel_rfl)) (fun _ _ _ h => h) (Or.inl ⟨by rfl,?_⟩) ?_ ?_
                rotate_left
                ·intro w'
                 go_simp
                 with_reducible rfl
                rotate_left
                ·simp only [Act.put,List.setIfInBounds_toArray,List.set_cons_zero,List.set_cons_succ,i64_w,i32_w]
                 rfl
                refine take_ (i:=12) (N:=some 68) (v:=?_) (a':=?_) #[true,true,true,true,true,true,true,true,true,true,true,true,true,true,false,false,false,false,false] rfl rfl (take_ofW HT_.out HW_.out (by kernel_rfl)) (fun _ _ _ h => h) (Or.inl ⟨by rfl,?_⟩) hHeld ?_ ?_
                rotate_left
                ·rintro w' ⟨s0,s1,s2,s3,s4⟩
                 go_simp
                 with_reducible rfl
                rotate_left
                ·simp only [Act.put,List.setIfInBounds_toArray,List.set_cons_zero,List.set_cons_succ,i64_w,i32_w]
                 rfl
                refine take_ (i:=14) (N:=some 70) (v:=?_) (a':=?_) #[true,true,true,true,true,true,true,true,true,true,true,true,true,true,true,false,false,false,false] rfl rfl (take_ofW HT_.out HW_.out (by kernel_rfl)) (fun _ _ _ h => h) (Or.inl ⟨by rfl,?_⟩) hHeld ?_ ?_
                rotate_left
                ·rintro w' ⟨s0,s1,s2,s3,s4⟩
                 go_simp
                 with_reducible rfl
                rotate_left
                ·simp only [Act.put,List.setIfInBounds_toArray,List.set_cons_zero,List.set_cons_succ,i64_w,i32_w]
                 rfl
                refine pure_ (i:=15) (N:=some 71) (v:=?_) (a':=?_) #[true,true,true,true,true,true,true,true,true,true,true,true,true,true,true,true,false,false,false] rfl rfl (any_of HT_.out (by kernel_rfl)) (fun _ _ _ h => h) (Or.inl ⟨by rfl,?_⟩) ?_ ?_
                rotate_left
                ·intro w'
                 go_simp
                 with_reducible rfl
                rotate_left
                ·simp only [Act.put,List.setIfInBounds_toArray,List.set_cons_zero,List.set_cons_succ,i64_w,i32_w]
                 rfl
                refine pure_ (i:=16) (N:=some 72) (v:=?_) (a':=?_) #[true,true,true,true,true,true,true,true,true,true,true,true,true,true,true,true,true,false,false] rfl rfl (any_of HT_.out (by kernel_rfl)) (fun _ _ _ h => h) (Or.inl ⟨by rfl,?_⟩) ?_ ?_
                rotate_left
                ·intro w'
                 go_simp
                 with_reducible rfl
                rotate_left
                ·simp only [Act.put,List.setIfInBounds_toArray,List.set_cons_zero,List.set_cons_succ,i64_w,i32_w]
                 rfl
                refine pure_ (i:=17) (N:=some 73) (v:=?_) (a':=?_) #[true,true,true,true,true,true,true,true,true,true,true,true,true,true,true,true,true,true,false] rfl rfl (any_of HT_.out (by kernel_rfl)) (fun _ _ _ h => h) (Or.inl ⟨by rfl,?_⟩) ?_ ?_
                rotate_left
                ·intro w'
                 go_simp
                 with_reducible rfl
                rotate_left
                ·simp only [Act.put,List.setIfInBounds_toArray,List.set_cons_zero,List.set_cons_succ,i64_w,i32_w]
                 rfl
                refine last_ (i:=18) (N:=none) #[true,true,true,true,true,true,true,true,true,true,true,true,true,true,true,true,true,true,true] rfl rfl (one_of HT_.out (by kernel_rfl)) (by decide) (fun K hK => ?_)
                refine skip_ (w1:=?_) (by rfl) rfl ?_ ?_
                rotate_left
                ·go_simp
                 rfl
                refine hK.out _ _ ?_
                clear hK K
                refine done_ (done_of HT_.out (by kernel_rfl)) ?_
                try go_wp2
                go_roundg k3
                case measure => have:=HK1.out;have:=HK2.out;have:=HK3.out;omega
                case rel => exact ⟨(y142),(wrap64 (x34_3 + 1)),(by first|rfl|(simp;done)|(simp [*];done)),H',⟨by have:=HK1.out;have:=HK2.out;have:=HK3.out;omega⟩,⟨by (with_reducible repeat (first|apply ra_|apply rn_|apply rd_));exact HQ39.out⟩,⟨by repeat (first|(with_reducible first|exact HB.out|apply ba_|apply bn_|apply bd_|refine bs_ ?_ GB28.out|refine bs_ ?_ GE136.out)|exact HB.out)⟩⟩
               ·rw [if_neg c26] at H
                exact absurd H (by simp)
              ·rw [if_neg c25] at H
               exact absurd H (by simp)
             ·rw [if_neg c24] at H
              exact absurd H (by simp)
            ·rw [if_neg c23] at H
             exact absurd H (by simp)
           ·rw [if_neg c22] at H
            exact absurd H (by simp)
          ·rw [if_neg c21] at H
           exact absurd H (by simp)
         ·rw [if_neg c20] at H
          have c20b0 : decide (x34_3 < (l1.length : Int)) = false:=decide_eq_false c20
          clear c20
          have H':=mk_ H
          clear H
          go_wp2
          go_roundg k3
          case measure => have:=HK1.out;have:=HK2.out;have:=HK3.out;omega
          case rel => exact ⟨(x5_3),(wrap64 (x30_2 + 1)),(by first|rfl|(simp;done)|(simp [*];done)),H',⟨by have:=HK1.out;have:=HK2.out;have:=HK3.out;omega⟩,⟨by (with_reducible repeat (first|apply ra_|apply rn_|apply rd_));exact HO_5.out⟩,⟨by repeat (first|(with_reducible first|exact HB.out|apply ba_|apply bn_|apply bd_)|exact HB.out)⟩⟩
      ·rw [if_neg c19] at H
       have c19b0 : decide (x30_2 < a0) = false:=decide_eq_false c19
       clear c19
       obtain rfl:=Option.some.inj H
       go_wp2
       go_ret
       exact ⟨_,by first|rfl|(simp [errW_none,errW_some] <;> rfl)|(simp [*,errW_none,errW_some] <;> rfl),by (with_reducible repeat (first|apply ra_|apply rn_|apply rd_));exact HO_5.out,by repeat (first|(with_reducible first|exact HB.out|apply ba_|apply bn_|apply bd_)|exact HB.out)⟩

/-! ### impl_Cable_other: function 82 -/
def impl_Cable_other.f (a0_0 : Int) (a0_1 : Int) (a0_2 : Int) (a1 : Int) : Option (Int × Bool):=if a1 = a0_0 then (some (a0_1,true)) else (if a1 = a0_1 then (some (a0_0,true)) else (some (0,false)))
set_option maxHeartbeats 8000000 in
set_option maxRecDepth 100000 in
theorem impl_Cable_other.calls (a0_0 : Int) (a0_1 : Int) (a0_2 : Int) (a1 : Int) (r1 : Int) (r2 : Bool) (w : World) (h : impl_Cable_other.f a0_0 a0_1 a0_2 a1 = some (r1,r2)) :
  Calls Try.prog 82 #[.agg #[.int .i64 a0_0,.int .i64 a0_1,.int .i64 a0_2],.int .i64 a1] w fun e w' => e = .returned (.tuple #[.int .i64 r1,.bool r2]) ∧ Below w.heap.size w w':=by
 have hu51:=Try.underlying51
 have HB:=mk_ (Below.refl w.heap.size w)
 have H : (if a1 = a0_0 then (some (a0_1,true)) else (if a1 = a0_1 then (some (a0_0,true)) else (some (0,false)))) = some (r1,r2):=h
 clear h
 by_cases c3 : a1 = a0_0
 ·rw [if_pos c3] at H
  have c3b0 : (a1 == a0_0) = true:=beq_iff_eq.mpr c3
  have c3b1 : (a1 != a0_0) = false:=bne_eq_false_iff_eq.mpr c3
  clear c3
  simp only [Option.some.injEq,Prod.mk.injEq] at H
  obtain ⟨rfl,rfl⟩:=H
  go_enter Try.func82,Try.ntmps82
  go_wp2_with (first|((with_reducible refine gate_dst (N:=2) rfl ?_);refine box_event ?hg (N:=2) ?hd (cs:=#[.int .i64 a0_0,.int .i64 a0_1,.int .i64 a0_2]) (t:=51) ?hr ?_;(case hd => rfl);(case hg => rfl);(case hr => first|(go_simp;done)|(go_simp;rfl));intro gb143 hg w4 hbox hb;have n0_:=mk_ (st_ (by repeat (first|(with_reducible first|exact HB.out|apply ba_|apply bn_|apply bd_)|exact HB.out)) hb);have n1_:=mk_ (hbox);have n2_:=mk_ ((by rw [hg];exact (bz_ (by repeat (first|(with_reducible first|exact HB.out|apply ba_|apply bn_|apply bd_)|exact HB.out))) : w.heap.size ≤ gb143));have n3_:=mk_ ((by rw [hg];exact (bz_ (by repeat (first|(with_reducible first|exact HB.out|apply ba_|apply bn_|apply bd_)|exact HB.out))) : w.heap.size ≤ gb143));clear HB;have HB:=n0_;have BK143:=n1_;have GW143:=n2_;have GE143:=n3_;clear n0_ n1_ n2_ n3_;clear hb hbox hg;have hcz5_0 : w4.cell? ⟨gb143,0,none⟩ = some (.int .i64 a0_0):=(bc_ BK143.out 0).trans rfl;have hcz5_1 : w4.cell? ⟨gb143,1,none⟩ = some (.int .i64 a0_1):=(bc_ BK143.out 1).trans rfl;have hcz5_2 : w4.cell? ⟨gb143,2,none⟩ = some (.int .i64 a0_2):=(bc_ BK143.out 2).trans rfl;have hfz5_0:=bf_ BK143.out 0;have hfz5_1:=bf_ BK143.out 1;have hfz5_2:=bf_ BK143.out 2))
  go_ret2
  exact ⟨by first|rfl|(simp [errW_none,errW_some] <;> rfl)|(simp [*,errW_none,errW_some] <;> rfl),by repeat (first|(with_reducible first|exact HB.out|apply ba_|apply bn_|apply bd_|refine bs_ ?_ GE143.out)|exact HB.out)⟩
 ·rw [if_neg c3] at H
  have c3b0 : (a1 == a0_0) = false:=beq_eq_false_iff_ne.mpr c3
  have c3b1 : (a1 != a0_0) = true:=bne_iff_ne.mpr c3
  by_cases c6 : a1 = a0_1
  ·rw [if_pos c6] at H
   have c6b0 : (a1 == a0_1) = true:=beq_iff_eq.mpr c6
   have c6b1 : (a1 != a0_1) = false:=bne_eq_false_iff_eq.mpr c6
   clear c6
   simp only [Option.some.injEq,Prod.mk.injEq] at H
   obtain ⟨rfl,rfl⟩:=H
   go_enter Try.func82,Try.ntmps82
   go_wp2_with (first|((with_reducible refine gate_dst (N:=2) rfl ?_);refine box_event ?hg (N:=2) ?hd (cs:=#[.int .i64 a0_0,.int .i64 a0_1,.int .i64 a0_2]) (t:=51) ?hr ?_;(case hd => rfl);(case hg => rfl);(case hr => first|(go_simp;done)|(go_simp;rfl));intro gb143 hg w7 hbox hb;have n0_:=mk_ (st_ (by repeat (first|(with_reducible first|exact HB.out|apply ba_|apply bn_|apply bd_)|exact HB.out)) hb);have n1_:=mk_ (hbox);have n2_:=mk_ ((by rw [hg];exact (bz_ (by repeat (first|(with_reducible first|exact HB.out|apply ba_|apply bn_|apply bd_)|exact HB.out))) : w.heap.size ≤ gb143));have n3_:=mk_ ((by rw [hg];exact (bz_ (by repeat (first|(with_reducible first|exact HB.out|apply ba_|apply bn_|apply bd_)|exact HB.out))) : w.heap.size ≤ gb143));clear HB;have HB:=n0_;have BK143:=n1_;have GW143:=n2_;have GE143:=n3_;clear n0_ n1_ n2_ n3_;clear hb hbox hg;have hcz8_0 : w7.cell? ⟨gb143,0,none⟩ = some (.int .i64 a0_0):=(bc_ BK143.out 0).trans rfl;have hcz8_1 : w7.cell? ⟨gb143,1,none⟩ = some (.int .i64 a0_1):=(bc_ BK143.out 1).trans rfl;have hcz8_2 : w7.cell? ⟨gb143,2,none⟩ = some (.int .i64 a0_2):=(bc_ BK143.out 2).trans rfl;have hfz8_0:=bf_ BK143.out 0;have hfz8_1:=bf_ BK143.out 1;have hfz8_2:=bf_ BK143.out 2))
   go_ret2
   exact ⟨by first|rfl|(simp [errW_none,errW_some] <;> rfl)|(simp [*,errW_none,errW_some] <;> rfl),by repeat (first|(with_reducible first|exact HB.out|apply ba_|apply bn_|apply bd_|refine bs_ ?_ GE143.out)|exact HB.out)⟩
  ·rw [if_neg c6] at H
   have c6b0 : (a1 == a0_1) = false:=beq_eq_false_iff_ne.mpr c6
   have c6b1 : (a1 != a0_1) = true:=bne_iff_ne.mpr c6
   simp only [Option.some.injEq,Prod.mk.injEq] at H
   obtain ⟨rfl,rfl⟩:=H
   go_enter Try.func82,Try.ntmps82
   go_wp2_with (first|((with_reducible refine gate_dst (N:=2) rfl ?_);refine box_event ?hg (N:=2) ?hd (cs:=#[.int .i64 a0_0,.int .i64 a0_1,.int .i64 a0_2]) (t:=51) ?hr ?_;(case hd => rfl);(case hg => rfl);(case hr => first|(go_simp;done)|(go_simp;rfl));intro gb143 hg w9 hbox hb;have n0_:=mk_ (st_ (by repeat (first|(with_reducible first|exact HB.out|apply ba_|apply bn_|apply bd_)|exact HB.out)) hb);have n1_:=mk_ (hbox);have n2_:=mk_ ((by rw [hg];exact (bz_ (by repeat (first|(with_reducible first|exact HB.out|apply ba_|apply bn_|apply bd_)|exact HB.out))) : w.heap.size ≤ gb143));have n3_:=mk_ ((by rw [hg];exact (bz_ (by repeat (first|(with_reducible first|exact HB.out|apply ba_|apply bn_|apply bd_)|exact HB.out))) : w.heap.size ≤ gb143));clear HB;have HB:=n0_;have BK143:=n1_;have GW143:=n2_;have GE143:=n3_;clear n0_ n1_ n2_ n3_;clear hb hbox hg;have hcz10_0 : w9.cell? ⟨gb143,0,none⟩ = some (.int .i64 a0_0):=(bc_ BK143.out 0).trans rfl;have hcz10_1 : w9.cell? ⟨gb143,1,none⟩ = some (.int .i64 a0_1):=(bc_ BK143.out 1).trans rfl;have hcz10_2 : w9.cell? ⟨gb143,2,none⟩ = some (.int .i64 a0_2):=(bc_ BK143.out 2).trans rfl;have hfz10_0:=bf_ BK143.out 0;have hfz10_1:=bf_ BK143.out 1;have hfz10_2:=bf_ BK143.out 2))
   go_ret2
   exact ⟨by first|rfl|(simp [errW_none,errW_some] <;> rfl)|(simp [*,errW_none,errW_some] <;> rfl),by repeat (first|(with_reducible first|exact HB.out|apply ba_|apply bn_|apply bd_|refine bs_ ?_ GE143.out)|exact HB.out)⟩

/-! ### impl_upOf: function 63 -/
def impl_upOf.l0 : Nat → List Int → Int → Int → Int → List (S51) → Int → Int → Option (Int × Int)
 | 0,_,_,_,_,_,_,_ => none
 | k + 1,x1,x2,x8,x9,x14,x15,x16 => if x16 < x15 then (if 0 ≤ x16 then (if x16 < (x14.length : Int) then ((impl_Cable_other.f ((rd_T51 x14 x16).f0) ((rd_T51 x14 x16).f1) ((rd_T51 x14 x16).f2) x2).bind fun bt146 => (if bt146.2 = true then (if 0 ≤ bt146.1 then (if bt146.1 < (x1.length : Int) then (if 0 ≤ x2 then (if x2 < (x1.length : Int) then (if (wrap64 ((rd x1 bt146.1) + ((rd_T51 x14 x16).f2))) = (rd x1 x2) then (if x8 < 0 then (impl_upOf.l0 k x1 x2 x16 bt146.1 x14 x15 (wrap64 (x16 + 1))) else (if bt146.1 < x9 then (impl_upOf.l0 k x1 x2 x16 bt146.1 x14 x15 (wrap64 (x16 + 1))) else (impl_upOf.l0 k x1 x2 x8 x9 x14 x15 (wrap64 (x16 + 1))))) else (impl_upOf.l0 k x1 x2 x8 x9 x14 x15 (wrap64 (x16 + 1)))) else (none)) else (none)) else (none)) else (none)) else (impl_upOf.l0 k x1 x2 x8 x9 x14 x15 (wrap64 (x16 + 1))))) else (none)) else (none)) else (some (x8,x9))
def impl_upOf.f (k : Nat) (l0 : List (S51)) (l1 : List Int) (a2 : Int) : Option (Int × Int):=impl_upOf.l0 k l1 a2 (-1) (-1) l0 (l0.length : Int) 0
theorem impl_upOf.mono_l : ∀ k,(∀ y0 y1 y2 y3 y4 y5 y6,LeO (impl_upOf.l0 k y0 y1 y2 y3 y4 y5 y6) (impl_upOf.l0 (k + 1) y0 y1 y2 y3 y4 y5 y6))
 | 0 => fun _ _ _ _ _ _ _ r h => by simp [impl_upOf.l0] at h
 | k + 1 => by
  have ih0:=impl_upOf.mono_l k
  ·intro y0 y1 y2 y3 y4 y5 y6
   unfold impl_upOf.l0
   repeat' first
   | (with_reducible exact ih0 _ _ _ _ _ _ _)
   | (with_reducible exact LeO.refl _)
   | (with_reducible exact LeO.none _)
   | (with_reducible refine LeO.ite ?_ ?_)
   | (with_reducible refine LeO.bind ?_ (fun _ => ?_))
   | exact ih0 _ _ _ _ _ _ _
   | exact LeO.none _
   | refine LeO.ite ?_ ?_
   | refine LeO.bind ?_ (fun _ => ?_)
theorem impl_upOf.mono : ∀ a0 a1 a2 k,LeO (impl_upOf.f k a0 a1 a2) (impl_upOf.f (k + 1) a0 a1 a2):=by
 intro a0 a1 a2 k
 have ih0:=impl_upOf.mono_l k
 unfold impl_upOf.f
 repeat' first
   | (with_reducible exact ih0 _ _ _ _ _ _ _)
   | (with_reducible exact LeO.refl _)
   | (with_reducible exact LeO.none _)
   | (with_reducible refine LeO.ite ?_ ?_)
   | (with_reducible refine LeO.bind ?_ (fun _ => ?_))
   | exact ih0 _ _ _ _ _ _ _
   | exact LeO.none _
   | refine LeO.ite ?_ ?_
   | refine LeO.bind ?_ (fun _ => ?_)
set_option maxHeartbeats 8000000 in
set_option maxRecDepth 100000 in
theorem impl_upOf.calls (k : Nat) (A0 : Option Addr) (c0 : Nat) (l0 : List (S51)) (A1 : Option Addr) (c1 : Nat) (l1 : List Int) (a2 : Int) (r1 : Int) (r2 : Int) (w : World) (hr0 : Kd.C k51 w A0 l0.length l0) (hc0 : l0.length ≤ c0) (hr1 : Kd.C (Kd.int .i64) w A1 l1.length l1) (hc1 : l1.length ≤ c1) (h : impl_upOf.f k l0 l1 a2 = some (r1,r2)) :
  Calls Try.prog 63 #[.slice A0 l0.length c0,.slice A1 l1.length c1,.int .i64 a2] w fun e w' => e = .returned (.tuple #[.int .i64 r1,.int .i64 r2]) ∧ Below w.heap.size w w':=by
 have hu51:=Try.underlying51
 have HR0:=mk_ hr0
 have HC0:=mk_ hc0
 clear hr0 hc0
 have HR1:=mk_ hr1
 have HC1:=mk_ hc1
 clear hr1 hc1
 have HB:=mk_ (Below.refl w.heap.size w)
 have H : (impl_upOf.l0 k l1 a2 (-1) (-1) l0 (l0.length : Int) 0) = some (r1,r2):=h
 clear h
 have H':=mk_ H
 clear H
 go_enter Try.func63,Try.ntmps63
 go_wp2
 repeat (go_quiet (fail);try go_wp2)
 go_loopg [8,9,16] k (fun kq v8 v9 v16 w' => ∃ (x8_1 : Int) (x9_1 : Int) (x16_1 : Int),v8 = .int .i64 x8_1 ∧ v9 = .int .i64 x9_1 ∧ v16 = .int .i64 x16_1 ∧ Aside0 (impl_upOf.l0 kq l1 a2 x8_1 x9_1 l0 (l0.length : Int) x16_1 = some (r1,r2)) ∧ Aside0 (kq ≤ k) ∧ Aside0 (Below w.heap.size w w'))
 case atStart => exact ⟨((-1)),((-1)),(0),(by first|rfl|(simp;done)|(simp [*];done)),(by first|rfl|(simp;done)|(simp [*];done)),(by first|rfl|(simp;done)|(simp [*];done)),H',⟨Nat.le_refl _⟩,⟨by repeat (first|(with_reducible first|exact HB.out|apply ba_|apply bn_|apply bd_)|exact HB.out)⟩⟩
 case round =>
  clear H'
  try clear c1
  try clear p2
  obtain ⟨x8_1,x9_1,x16_1,rfl,rfl,rfl,HA,HK1,HB⟩:=hrel
  cases gk with
  | zero => exact absurd HA.out (by simp [impl_upOf.l0])
  | succ k1 =>
   have H:=HA.out
   clear HA
   simp only [impl_upOf.l0] at H
   by_cases c4 : x16_1 < (l0.length : Int)
   ·rw [if_pos c4] at H
    have c4b0 : decide (x16_1 < (l0.length : Int)) = true:=decide_eq_true c4
    clear c4
    by_cases c5 : 0 ≤ x16_1
    ·rw [if_pos c5] at H
     have c5b0 : decide (0 ≤ x16_1) = true:=decide_eq_true c5
     clear c5
     by_cases c6 : x16_1 < (l0.length : Int)
     ·rw [if_pos c6] at H
      have c6b0 : decide (x16_1 < (l0.length : Int)) = true:=decide_eq_true c6
      clear c6
      replace H:=Option.bind_eq_some_iff.mp H
      obtain ⟨⟨t146,t147⟩,A70,H⟩:=H
      replace H : (if t147 = true then (if 0 ≤ t146 then (if t146 < (l1.length : Int) then (if 0 ≤ a2 then (if a2 < (l1.length : Int) then (if (wrap64 ((rd l1 t146) + ((rd_T51 l0 x16_1).f2))) = (rd l1 a2) then (if x8_1 < 0 then (impl_upOf.l0 k1 l1 a2 x16_1 t146 l0 (l0.length : Int) (wrap64 (x16_1 + 1))) else (if t146 < x9_1 then (impl_upOf.l0 k1 l1 a2 x16_1 t146 l0 (l0.length : Int) (wrap64 (x16_1 + 1))) else (impl_upOf.l0 k1 l1 a2 x8_1 x9_1 l0 (l0.length : Int) (wrap64 (x16_1 + 1))))) else (impl_upOf.l0 k1 l1 a2 x8_1 x9_1 l0 (l0.length : Int) (wrap64 (x16_1 + 1)))) else (none)) else (none)) else (none)) else (none)) else (impl_upOf.l0 k1 l1 a2 x8_1 x9_1 l0 (l0.length : Int) (wrap64 (x16_1 + 1)))) = some (r1,r2):=H
      have A7:=mk_ A70
      clear A70
      by_cases c8 : t147 = true
      ·subst c8
       have H1 : (if 0 ≤ t146 then (if t146 < (l1.length : Int) then (if 0 ≤ a2 then (if a2 < (l1.length : Int) then (if (wrap64 ((rd l1 t146) + ((rd_T51 l0 x16_1).f2))) = (rd l1 a2) then (if x8_1 < 0 then (impl_upOf.l0 k1 l1 a2 x16_1 t146 l0 (l0.length : Int) (wrap64 (x16_1 + 1))) else (if t146 < x9_1 then (impl_upOf.l0 k1 l1 a2 x16_1 t146 l0 (l0.length : Int) (wrap64 (x16_1 + 1))) else (impl_upOf.l0 k1 l1 a2 x8_1 x9_1 l0 (l0.length : Int) (wrap64 (x16_1 + 1))))) else (impl_upOf.l0 k1 l1 a2 x8_1 x9_1 l0 (l0.length : Int) (wrap64 (x16_1 + 1)))) else (none)) else (none)) else (none)) else (none)) = some (r1,r2):=by rw [if_pos rfl] at H;exact H
       clear H
       have H:=H1
       clear H1
       by_cases c9 : 0 ≤ t146
       ·rw [if_pos c9] at H
        have c9b0 : decide (0 ≤ t146) = true:=decide_eq_true c9
        clear c9
        by_cases c10 : t146 < (l1.length : Int)
        ·rw [if_pos c10] at H
         have c10b0 : decide (t146 < (l1.length : Int)) = true:=decide_eq_true c10
         clear c10
         by_cases c11 : 0 ≤ a2
         ·rw [if_pos c11] at H
          have c11b0 : decide (0 ≤ a2) = true:=decide_eq_true c11
          clear c11
          by_cases c12 : a2 < (l1.length : Int)
          ·rw [if_pos c12] at H
           have c12b0 : decide (a2 < (l1.length : Int)) = true:=decide_eq_true c12
           clear c12
           by_cases c13 : (wrap64 ((rd l1 t146) + ((rd_T51 l0 x16_1).f2))) = (rd l1 a2)
           ·rw [if_pos c13] at H
            have c13b0 : ((wrap64 ((rd l1 t146) + ((rd_T51 l0 x16_1).f2))) == (rd l1 a2)) = true:=beq_iff_eq.mpr c13
            have c13b1 : ((wrap64 ((rd l1 t146) + ((rd_T51 l0 x16_1).f2))) != (rd l1 a2)) = false:=bne_eq_false_iff_eq.mpr c13
            clear c13
            by_cases c14 : x8_1 < 0
            ·rw [if_pos c14] at H
             have c14b0 : decide (x8_1 < 0) = true:=decide_eq_true c14
             clear c14
             have H':=mk_ H
             clear H
             have p144 : 0 ≤ (x16_1 : Int):=od_ (by first|(with_reducible assumption)|assumption)
             have q144 : x16_1 < (l0.length : Int):=od_ (by first|(with_reducible assumption)|assumption)
             obtain ⟨ad144,e144,hx144_0,hx144_1,hx144_2⟩:=at_T51 HR0.out x16_1 p144 q144
             cases e144
             replace hx144_0:=(HB.out.cell (wl_ w _ hx144_0)).trans hx144_0
             replace hx144_1:=(HB.out.cell (wl_ w _ hx144_1)).trans hx144_1
             replace hx144_2:=(HB.out.cell (wl_ w _ hx144_2)).trans hx144_2
             replace p144:=eq_true p144
             replace q144:=eq_true q144
             go_wp2_with (first|((with_reducible refine gate_dst (N:=11) rfl ?_);refine box_event ?hg (N:=11) ?hd (cs:=#[.int .i64 0,.int .i64 0,.int .i64 0]) (t:=51) ?hr ?_;(case hd => rfl);(case hg => rfl);(case hr => first|(go_simp;done)|(go_simp;rfl));intro gb145 hg w15 hbox hb;have n0_:=mk_ (st_ (by repeat (first|(with_reducible first|exact HB.out|apply ba_|apply bn_|apply bd_)|exact HB.out)) hb);have n1_:=mk_ (hbox);have n2_:=mk_ ((by rw [hg];exact (bz_ (by repeat (first|(with_reducible first|exact HB.out|apply ba_|apply bn_|apply bd_)|exact HB.out))) : w.heap.size ≤ gb145));have n3_:=mk_ ((by rw [hg];exact (bz_ (by repeat (first|(with_reducible first|exact HB.out|apply ba_|apply bn_|apply bd_)|exact HB.out))) : w.heap.size ≤ gb145));clear HB;have HB:=n0_;have BK145:=n1_;have GW145:=n2_;have GE145:=n3_;clear n0_ n1_ n2_ n3_;clear hb hbox hg;have hcz16_0 : w15.cell? ⟨gb145,0,none⟩ = some (.int .i64 0):=(bc_ BK145.out 0).trans rfl;have hcz16_1 : w15.cell? ⟨gb145,1,none⟩ = some (.int .i64 0):=(bc_ BK145.out 1).trans rfl;have hcz16_2 : w15.cell? ⟨gb145,2,none⟩ = some (.int .i64 0):=(bc_ BK145.out 2).trans rfl;have hfz16_0:=bf_ BK145.out 0;have hfz16_1:=bf_ BK145.out 1;have hfz16_2:=bf_ BK145.out 2)|(go_at_call 82;(with_reducible refine (impl_Cable_other.calls ((rd_T51 l0 x16_1).f0) ((rd_T51 l0 x16_1).f1) ((rd_T51 l0 x16_1).f2) a2 t146 true _ A7.out).mono ?_);rintro e w17 ⟨rfl,hb⟩;have n0_:=mk_ (blk_below (g:=gb145) (o:=.cells #[.int .i64 ((rd_T51 l0 x16_1).f0),.int .i64 ((rd_T51 l0 x16_1).f1),.int .i64 ((rd_T51 l0 x16_1).f2)] 51 (0,0)) (by (with_reducible repeat (first|refine kn_ ?_ _|refine kd_ ?_|refine ka_ ?_ _));refine blk_put (cs:=#[.int .i64 ((rd_T51 l0 x16_1).f0),.int .i64 ((rd_T51 l0 x16_1).f1),.int .i64 0]) ?_ 2 _ rfl;(with_reducible repeat (first|refine kn_ ?_ _|refine kd_ ?_|refine ka_ ?_ _));refine blk_put (cs:=#[.int .i64 ((rd_T51 l0 x16_1).f0),.int .i64 0,.int .i64 0]) ?_ 1 _ rfl;(with_reducible repeat (first|refine kn_ ?_ _|refine kd_ ?_|refine ka_ ?_ _));refine blk_put (cs:=#[.int .i64 0,.int .i64 0,.int .i64 0]) ?_ 0 _ rfl;(with_reducible repeat (first|refine kn_ ?_ _|refine kd_ ?_|refine ka_ ?_ _));exact BK145.out) hb);have n1_:=mk_ (st_ (by repeat (first|(with_reducible first|exact HB.out|apply ba_|apply bn_|apply bd_|refine bs_ ?_ GE145.out)|exact HB.out)) hb);clear BK145;clear HB;have BK145:=n0_;have HB:=n1_;clear n0_ n1_;(try clear hb);(try clear hb2);(try clear hk);(try clear hi);have p148 : 0 ≤ (t146 : Int):=od_ (by first|(with_reducible assumption)|assumption);have q148 : t146 < (l1.length : Int):=od_ (by first|(with_reducible assumption)|assumption);obtain ⟨ad148,e148,hx148_0⟩:=Kd.at_int HR1.out t146 p148 q148;cases e148;replace hx148_0:=(HB.out.cell (wl_ w _ hx148_0)).trans hx148_0;replace p148:=eq_true p148;replace q148:=eq_true q148;have hcz18_0 : w17.cell? ⟨gb145,0,none⟩ = some (.int .i64 ((rd_T51 l0 x16_1).f0)):=(bc_ BK145.out 0).trans rfl;have hcz18_1 : w17.cell? ⟨gb145,1,none⟩ = some (.int .i64 ((rd_T51 l0 x16_1).f1)):=(bc_ BK145.out 1).trans rfl;have hcz18_2 : w17.cell? ⟨gb145,2,none⟩ = some (.int .i64 ((rd_T51 l0 x16_1).f2)):=(bc_ BK145.out 2).trans rfl;have hfz18_0:=bf_ BK145.out 0;have hfz18_1:=bf_ BK145.out 1;have hfz18_2:=bf_ BK145.out 2;have p149 : 0 ≤ (a2 : Int):=od_ (by first|(with_reducible assumption)|assumption);have q149 : a2 < (l1.length : Int):=od_ (by first|(with_reducible assumption)|assumption);obtain ⟨ad149,e149,hx149_0⟩:=Kd.at_int HR1.out a2 p149 q149;obtain rfl : ad148 = ad149:=(by injection e149);replace hx149_0:=(HB.out.cell (wl_ w _ hx149_0)).trans hx149_0;replace p149:=eq_true p149;replace q149:=eq_true q149))
             repeat (go_quiet (first|((with_reducible refine gate_dst (N:=11) rfl ?_);refine box_event ?hg (N:=11) ?hd (cs:=#[.int .i64 0,.int .i64 0,.int .i64 0]) (t:=51) ?hr ?_;(case hd => rfl);(case hg => rfl);(case hr => first|(go_simp;done)|(go_simp;rfl));intro gb145 hg w15 hbox hb;have n0_:=mk_ (st_ (by repeat (first|(with_reducible first|exact HB.out|apply ba_|apply bn_|apply bd_)|exact HB.out)) hb);have n1_:=mk_ (hbox);have n2_:=mk_ ((by rw [hg];exact (bz_ (by repeat (first|(with_reducible first|exact HB.out|apply ba_|apply bn_|apply bd_)|exact HB.out))) : w.heap.size ≤ gb145));have n3_:=mk_ ((by rw [hg];exact (bz_ (by repeat (first|(with_reducible first|exact HB.out|apply ba_|apply bn_|apply bd_)|exact HB.out))) : w.heap.size ≤ gb145));clear HB;have HB:=n0_;have BK145:=n1_;have GW145:=n2_;have GE145:=n3_;clear n0_ n1_ n2_ n3_;clear hb hbox hg;have hcz16_0 : w15.cell? ⟨gb145,0,none⟩ = some (.int .i64 0):=(bc_ BK145.out 0).trans rfl;have hcz16_1 : w15.cell? ⟨gb145,1,none⟩ = some (.int .i64 0):=(bc_ BK145.out 1).trans rfl;have hcz16_2 : w15.cell? ⟨gb145,2,none⟩ = some (.int .i64 0):=(bc_ BK145.out 2).trans rfl;have hfz16_0:=bf_ BK145.out 0;have hfz16_1:=bf_ BK145.out 1;have hfz16_2:=bf_ BK145.out 2)|(go_at_call 82;(with_reducible refine (impl_Cable_other.calls ((rd_T51 l0 x16_1).f0) ((rd_T51 l0 x16_1).f1) ((rd_T51 l0 x16_1).f2) a2 t146 true _ A7.out).mono ?_);rintro e w17 ⟨rfl,hb⟩;have n0_:=mk_ (blk_below (g:=gb145) (o:=.cells #[.int .i64 ((rd_T51 l0 x16_1).f0),.int .i64 ((rd_T51 l0 x16_1).f1),.int .i64 ((rd_T51 l0 x16_1).f2)] 51 (0,0)) (by (with_reducible repeat (first|refine kn_ ?_ _|refine kd_ ?_|refine ka_ ?_ _));refine blk_put (cs:=#[.int .i64 ((rd_T51 l0 x16_1).f0),.int .i64 ((rd_T51 l0 x16_1).f1),.int .i64 0]) ?_ 2 _ rfl;(with_reducible repeat (first|refine kn_ ?_ _|refine kd_ ?_|refine ka_ ?_ _));refine blk_put (cs:=#[.int .i64 ((rd_T51 l0 x16_1).f0),.int .i64 0,.int .i64 0]) ?_ 1 _ rfl;(with_reducible repeat (first|refine kn_ ?_ _|refine kd_ ?_|refine ka_ ?_ _));refine blk_put (cs:=#[.int .i64 0,.int .i64 0,.int .i64 0]) ?_ 0 _ rfl;(with_reducible repeat (first|refine kn_ ?_ _|refine kd_ ?_|refine ka_ ?_ _));exact BK145.out) hb);have n1_:=mk_ (st_ (by repeat (first|(with_reducible first|exact HB.out|apply ba_|apply bn_|apply bd_|refine bs_ ?_ GE145.out)|exact HB.out)) hb);clear BK145;clear HB;have BK145:=n0_;have HB:=n1_;clear n0_ n1_;(try clear hb);(try clear hb2);(try clear hk);(try clear hi);have p148 : 0 ≤ (t146 : Int):=od_ (by first|(with_reducible assumption)|assumption);have q148 : t146 < (l1.length : Int):=od_ (by first|(with_reducible assumption)|assumption);obtain ⟨ad148,e148,hx148_0⟩:=Kd.at_int HR1.out t146 p148 q148;cases e148;replace hx148_0:=(HB.out.cell (wl_ w _ hx148_0)).trans hx148_0;replace p148:=eq_true p148;replace q148:=eq_true q148;have hcz18_0 : w17.cell? ⟨gb145,0,none⟩ = some (.int .i64 ((rd_T51 l0 x16_1).f0)):=(bc_ BK145.out 0).trans rfl;have hcz18_1 : w17.cell? ⟨gb145,1,none⟩ = some (.int .i64 ((rd_T51 l0 x16_1).f1)):=(bc_ BK145.out 1).trans rfl;have hcz18_2 : w17.cell? ⟨gb145,2,none⟩ = some (.int .i64 ((rd_T51 l0 x16_1).f2)):=(bc_ BK145.out 2).trans rfl;have hfz18_0:=bf_ BK145.out 0;have hfz18_1:=bf_ BK145.out 1;have hfz18_2:=bf_ BK145.out 2;have p149 : 0 ≤ (a2 : Int):=od_ (by first|(with_reducible assumption)|assumption);have q149 : a2 < (l1.length : Int):=od_ (by first|(with_reducible assumption)|assumption);obtain ⟨ad149,e149,hx149_0⟩:=Kd.at_int HR1.out a2 p149 q149;obtain rfl : ad148 = ad149:=(by injection e149);replace hx149_0:=(HB.out.cell (wl_ w _ hx149_0)).trans hx149_0;replace p149:=eq_true p149;replace q149:=eq_true q149));try go_wp2_with (first|((with_reducible refine gate_dst (N:=11) rfl ?_);refine box_event ?hg (N:=11) ?hd (cs:=#[.int .i64 0,.int .i64 0,.int .i64 0]) (t:=51) ?hr ?_;(case hd => rfl);(case hg => rfl);(case hr => first|(go_simp;done)|(go_simp;rfl));intro gb145 hg w15 hbox hb;have n0_:=mk_ (st_ (by repeat (first|(with_reducible first|exact HB.out|apply ba_|apply bn_|apply bd_)|exact HB.out)) hb);have n1_:=mk_ (hbox);have n2_:=mk_ ((by rw [hg];exact (bz_ (by repeat (first|(with_reducible first|exact HB.out|apply ba_|apply bn_|apply bd_)|exact HB.out))) : w.heap.size ≤ gb145));have n3_:=mk_ ((by rw [hg];exact (bz_ (by repeat (first|(with_reducible first|exact HB.out|apply ba_|apply bn_|apply bd_)|exact HB.out))) : w.heap.size ≤ gb145));clear HB;have HB:=n0_;have BK145:=n1_;have GW145:=n2_;have GE145:=n3_;clear n0_ n1_ n2_ n3_;clear hb hbox hg;have hcz16_0 : w15.cell? ⟨gb145,0,none⟩ = some (.int .i64 0):=(bc_ BK145.out 0).trans rfl;have hcz16_1 : w15.cell? ⟨gb145,1,none⟩ = some (.int .i64 0):=(bc_ BK145.out 1).trans rfl;have hcz16_2 : w15.cell? ⟨gb145,2,none⟩ = some (.int .i64 0):=(bc_ BK145.out 2).trans rfl;have hfz16_0:=bf_ BK145.out 0;have hfz16_1:=bf_ BK145.out 1;have hfz16_2:=bf_ BK145.out 2)|(go_at_call 82;(with_reducible refine (impl_Cable_other.calls ((rd_T51 l0 x16_1).f0) ((rd_T51 l0 x16_1).f1) ((rd_T51 l0 x16_1).f2) a2 t146 true _ A7.out).mono ?_);rintro e w17 ⟨rfl,hb⟩;have n0_:=mk_ (blk_below (g:=gb145) (o:=.cells #[.int .i64 ((rd_T51 l0 x16_1).f0),.int .i64 ((rd_T51 l0 x16_1).f1),.int .i64 ((rd_T51 l0 x16_1).f2)] 51 (0,0)) (by (with_reducible repeat (first|refine kn_ ?_ _|refine kd_ ?_|refine ka_ ?_ _));refine blk_put (cs:=#[.int .i64 ((rd_T51 l0 x16_1).f0),.int .i64 ((rd_T51 l0 x16_1).f1),.int .i64 0]) ?_ 2 _ rfl;(with_reducible repeat (first|refine kn_ ?_ _|refine kd_ ?_|refine ka_ ?_ _));refine blk_put (cs:=#[.int .i64 ((rd_T51 l0 x16_1).f0),.int .i64 0,.int .i64 0]) ?_ 1 _ rfl;(with_reducible repeat (first|refine kn_ ?_ _|refine kd_ ?_|refine ka_ ?_ _));refine blk_put (cs:=#[.int .i64 0,.int .i64 0,.int .i64 0]) ?_ 0 _ rfl;(with_reducible repeat (first|refine kn_ ?_ _|refine kd_ ?_|refine ka_ ?_ _));exact BK145.out) hb);have n1_:=mk_ (st_ (by repeat (first|(with_reducible first|exact HB.out|apply ba_|apply bn_|apply bd_|refine bs_ ?_ GE145.out)|exact HB.out)) hb);clear BK145;clear HB;have BK145:=n0_;have HB:=n1_;clear n0_ n1_;(try clear hb);(try clear hb2);(try clear hk);(try clear hi);have p148 : 0 ≤ (t146 : Int):=od_ (by first|(with_reducible assumption)|assumption);have q148 : t146 < (l1.length : Int):=od_ (by first|(with_reducible assumption)|assumption);obtain ⟨ad148,e148,hx148_0⟩:=Kd.at_int HR1.out t146 p148 q148;cases e148;replace hx148_0:=(HB.out.cell (wl_ w _ hx148_0)).trans hx148_0;replace p148:=eq_true p148;replace q148:=eq_true q148;have hcz18_0 : w17.cell? ⟨gb145,0,none⟩ = some (.int .i64 ((rd_T51 l0 x16_1).f0)):=(bc_ BK145.out 0).trans rfl;have hcz18_1 : w17.cell? ⟨gb145,1,none⟩ = some (.int .i64 ((rd_T51 l0 x16_1).f1)):=(bc_ BK145.out 1).trans rfl;have hcz18_2 : w17.cell? ⟨gb145,2,none⟩ = some (.int .i64 ((rd_T51 l0 x16_1).f2)):=(bc_ BK145.out 2).trans rfl;have hfz18_0:=bf_ BK145.out 0;have hfz18_1:=bf_ BK145.out 1;have hfz18_2:=bf_ BK145.out 2;have p149 : 0 ≤ (a2 : Int):=od_ (by first|(with_reducible assumption)|assumption);have q149 : a2 < (l1.length : Int):=od_ (by first|(with_reducible assumption)|assumption);obtain ⟨ad149,e149,hx149_0⟩:=Kd.at_int HR1.out a2 p149 q149;obtain rfl : ad148 = ad149:=(by injection e149);replace hx149_0:=(HB.out.cell (wl_ w _ hx149_0)).trans hx149_0;replace p149:=eq_true p149;replace q149:=eq_true q149)))
             go_roundg k1
             case measure => have:=HK1.out;omega
             case rel => exact ⟨(x16_1),(t146),(wrap64 (x16_1 + 1)),(by first|rfl|(simp;done)|(simp [*];done)),(by first|rfl|(simp;done)|(simp [*];done)),(by first|rfl|(simp;done)|(simp [*];done)),H',⟨by have:=HK1.out;omega⟩,⟨by repeat (first|(with_reducible first|exact HB.out|apply ba_|apply bn_|apply bd_|refine bs_ ?_ GE145.out)|exact HB.out)⟩⟩
            ·rw [if_neg c14] at H
             have c14b0 : decide (x8_1 < 0) = false:=decide_eq_false c14
             clear c14
             by_cases c19 : t146 < x9_1
             ·rw [if_pos c19] at H
              have c19b0 : decide (t146 < x9_1) = true:=decide_eq_true c19
              clear c19
              have H':=mk_ H
              clear H
              have p144 : 0 ≤ (x16_1 : Int):=od_ (by first|(with_reducible assumption)|assumption)
              have q144 : x16_1 < (l0.length : Int):=od_ (by first|(with_reducible assumption)|assumption)
              obtain ⟨ad144,e144,hx144_0,hx144_1,hx144_2⟩:=at_T51 HR0.out x16_1 p144 q144
              cases e144
              replace hx144_0:=(HB.out.cell (wl_ w _ hx144_0)).trans hx144_0
              replace hx144_1:=(HB.out.cell (wl_ w _ hx144_1)).trans hx144_1
              replace hx144_2:=(HB.out.cell (wl_ w _ hx144_2)).trans hx144_2
              replace p144:=eq_true p144
              replace q144:=eq_true q144
              go_wp2_with (first|((with_reducible refine gate_dst (N:=11) rfl ?_);refine box_event ?hg (N:=11) ?hd (cs:=#[.int .i64 0,.int .i64 0,.int .i64 0]) (t:=51) ?hr ?_;(case hd => rfl);(case hg => rfl);(case hr => first|(go_simp;done)|(go_simp;rfl));intro gb145 hg w20 hbox hb;have n0_:=mk_ (st_ (by repeat (first|(with_reducible first|exact HB.out|apply ba_|apply bn_|apply bd_)|exact HB.out)) hb);have n1_:=mk_ (hbox);have n2_:=mk_ ((by rw [hg];exact (bz_ (by repeat (first|(with_reducible first|exact HB.out|apply ba_|apply bn_|apply bd_)|exact HB.out))) : w.heap.size ≤ gb145));have n3_:=mk_ ((by rw [hg];exact (bz_ (by repeat (first|(with_reducible first|exact HB.out|apply ba_|apply bn_|apply bd_)|exact HB.out))) : w.heap.size ≤ gb145));clear HB;have HB:=n0_;have BK145:=n1_;have GW145:=n2_;have GE145:=n3_;clear n0_ n1_ n2_ n3_;clear hb hbox hg;have hcz21_0 : w20.cell? ⟨gb145,0,none⟩ = some (.int .i64 0):=(bc_ BK145.out 0).trans rfl;have hcz21_1 : w20.cell? ⟨gb145,1,none⟩ = some (.int .i64 0):=(bc_ BK145.out 1).trans rfl;have hcz21_2 : w20.cell? ⟨gb145,2,none⟩ = some (.int .i64 0):=(bc_ BK145.out 2).trans rfl;have hfz21_0:=bf_ BK145.out 0;have hfz21_1:=bf_ BK145.out 1;have hfz21_2:=bf_ BK145.out 2)|(go_at_call 82;(with_reducible refine (impl_Cable_other.calls ((rd_T51 l0 x16_1).f0) ((rd_T51 l0 x16_1).f1) ((rd_T51 l0 x16_1).f2) a2 t146 true _ A7.out).mono ?_);rintro e w22 ⟨rfl,hb⟩;have n0_:=mk_ (blk_below (g:=gb145) (o:=.cells #[.int .i64 ((rd_T51 l0 x16_1).f0),.int .i64 ((rd_T51 l0 x16_1).f1),.int .i64 ((rd_T51 l0 x16_1).f2)] 51 (0,0)) (by (with_reducible repeat (first|refine kn_ ?_ _|refine kd_ ?_|refine ka_ ?_ _));refine blk_put (cs:=#[.int .i64 ((rd_T51 l0 x16_1).f0),.int .i64 ((rd_T51 l0 x16_1).f1),.int .i64 0]) ?_ 2 _ rfl;(with_reducible repeat (first|refine kn_ ?_ _|refine kd_ ?_|refine ka_ ?_ _));refine blk_put (cs:=#[.int .i64 ((rd_T51 l0 x16_1).f0),.int .i64 0,.int .i64 0]) ?_ 1 _ rfl;(with_reducible repeat (first|refine kn_ ?_ _|refine kd_ ?_|refine ka_ ?_ _));refine blk_put (cs:=#[.int .i64 0,.int .i64 0,.int .i64 0]) ?_ 0 _ rfl;(with_reducible repeat (first|refine kn_ ?_ _|refine kd_ ?_|refine ka_ ?_ _));exact BK145.out) hb);have n1_:=mk_ (st_ (by repeat (first|(with_reducible first|exact HB.out|apply ba_|apply bn_|apply bd_|refine bs_ ?_ GE145.out)|exact HB.out)) hb);clear BK145;clear HB;have BK145:=n0_;have HB:=n1_;clear n0_ n1_;(try clear hb);(try clear hb2);(try clear hk);(try clear hi);have p148 : 0 ≤ (t146 : Int):=od_ (by first|(with_reducible assumption)|assumption);have q148 : t146 < (l1.length : Int):=od_ (by first|(with_reducible assumption)|assumption);obtain ⟨ad148,e148,hx148_0⟩:=Kd.at_int HR1.out t146 p148 q148;cases e148;replace hx148_0:=(HB.out.cell (wl_ w _ hx148_0)).trans hx148_0;replace p148:=eq_true p148;replace q148:=eq_true q148;have hcz23_0 : w22.cell? ⟨gb145,0,none⟩ = some (.int .i64 ((rd_T51 l0 x16_1).f0)):=(bc_ BK145.out 0).trans rfl;have hcz23_1 : w22.cell? ⟨gb145,1,none⟩ = some (.int .i64 ((rd_T51 l0 x16_1).f1)):=(bc_ BK145.out 1).trans rfl;have hcz23_2 : w22.cell? ⟨gb145,2,none⟩ = some (.int .i64 ((rd_T51 l0 x16_1).f2)):=(bc_ BK145.out 2).trans rfl;have hfz23_0:=bf_ BK145.out 0;have hfz23_1:=bf_ BK145.out 1;have hfz23_2:=bf_ BK145.out 2;have p149 : 0 ≤ (a2 : Int):=od_ (by first|(with_reducible assumption)|assumption);have q149 : a2 < (l1.length : Int):=od_ (by first|(with_reducible assumption)|assumption);obtain ⟨ad149,e149,hx149_0⟩:=Kd.at_int HR1.out a2 p149 q149;obtain rfl : ad148 = ad149:=(by injection e149);replace hx149_0:=(HB.out.cell (wl_ w _ hx149_0)).trans hx149_0;replace p149:=eq_true p149;replace q149:=eq_true q149))
              repeat (go_quiet (first|((with_reducible refine gate_dst (N:=11) rfl ?_);refine box_event ?hg (N:=11) ?hd (cs:=#[.int .i64 0,.int .i64 0,.int .i64 0]) (t:=51) ?hr ?_;(case hd => rfl);(case hg => rfl);(case hr => first|(go_simp;done)|(go_simp;rfl));intro gb145 hg w20 hbox hb;have n0_:=mk_ (st_ (by repeat (first|(with_reducible first|exact HB.out|apply ba_|apply bn_|apply bd_)|exact HB.out)) hb);have n1_:=mk_ (hbox);have n2_:=mk_ ((by rw [hg];exact (bz_ (by repeat (first|(with_reducible first|exact HB.out|apply ba_|apply bn_|apply bd_)|exact HB.out))) : w.heap.size ≤ gb145));have n3_:=mk_ ((by rw [hg];exact (bz_ (by repeat (first|(with_reducible first|exact HB.out|apply ba_|apply bn_|apply bd_)|exact HB.out))) : w.heap.size ≤ gb145));clear HB;have HB:=n0_;have BK145:=n1_;have GW145:=n2_;have GE145:=n3_;clear n0_ n1_ n2_ n3_;clear hb hbox hg;have hcz21_0 : w20.cell? ⟨gb145,0,none⟩ = some (.int .i64 0):=(bc_ BK145.out 0).trans rfl;have hcz21_1 : w20.cell? ⟨gb145,1,none⟩ = some (.int .i64 0):=(bc_ BK145.out 1).trans rfl;have hcz21_2 : w20.cell? ⟨gb145,2,none⟩ = some (.int .i64 0):=(bc_ BK145.out 2).trans rfl;have hfz21_0:=bf_ BK145.out 0;have hfz21_1:=bf_ BK145.out 1;have hfz21_2:=bf_ BK145.out 2)|(go_at_call 82;(with_reducible refine (impl_Cable_other.calls ((rd_T51 l0 x16_1).f0) ((rd_T51 l0 x16_1).f1) ((rd_T51 l0 x16_1).f2) a2 t146 true _ A7.out).mono ?_);rintro e w22 ⟨rfl,hb⟩;have n0_:=mk_ (blk_below (g:=gb145) (o:=.cells #[.int .i64 ((rd_T51 l0 x16_1).f0),.int .i64 ((rd_T51 l0 x16_1).f1),.int .i64 ((rd_T51 l0 x16_1).f2)] 51 (0,0)) (by (with_reducible repeat (first|refine kn_ ?_ _|refine kd_ ?_|refine ka_ ?_ _));refine blk_put (cs:=#[.int .i64 ((rd_T51 l0 x16_1).f0),.int .i64 ((rd_T51 l0 x16_1).f1),.int .i64 0]) ?_ 2 _ rfl;(with_reducible repeat (first|refine kn_ ?_ _|refine kd_ ?_|refine ka_ ?_ _));refine blk_put (cs:=#[.int .i64 ((rd_T51 l0 x16_1).f0),.int .i64 0,.int .i64 0]) ?_ 1 _ rfl;(with_reducible repeat (first|refine kn_ ?_ _|refine kd_ ?_|refine ka_ ?_ _));refine blk_put (cs:=#[.int .i64 0,.int .i64 0,.int .i64 0]) ?_ 0 _ rfl;(with_reducible repeat (first|refine kn_ ?_ _|refine kd_ ?_|refine ka_ ?_ _));exact BK145.out) hb);have n1_:=mk_ (st_ (by repeat (first|(with_reducible first|exact HB.out|apply ba_|apply bn_|apply bd_|refine bs_ ?_ GE145.out)|exact HB.out)) hb);clear BK145;clear HB;have BK145:=n0_;have HB:=n1_;clear n0_ n1_;(try clear hb);(try clear hb2);(try clear hk);(try clear hi);have p148 : 0 ≤ (t146 : Int):=od_ (by first|(with_reducible assumption)|assumption);have q148 : t146 < (l1.length : Int):=od_ (by first|(with_reducible assumption)|assumption);obtain ⟨ad148,e148,hx148_0⟩:=Kd.at_int HR1.out t146 p148 q148;cases e148;replace hx148_0:=(HB.out.cell (wl_ w _ hx148_0)).trans hx148_0;replace p148:=eq_true p148;replace q148:=eq_true q148;have hcz23_0 : w22.cell? ⟨gb145,0,none⟩ = some (.int .i64 ((rd_T51 l0 x16_1).f0)):=(bc_ BK145.out 0).trans rfl;have hcz23_1 : w22.cell? ⟨gb145,1,none⟩ = some (.int .i64 ((rd_T51 l0 x16_1).f1)):=(bc_ BK145.out 1).trans rfl;have hcz23_2 : w22.cell? ⟨gb145,2,none⟩ = some (.int .i64 ((rd_T51 l0 x16_1).f2)):=(bc_ BK145.out 2).trans rfl;have hfz23_0:=bf_ BK145.out 0;have hfz23_1:=bf_ BK145.out 1;have hfz23_2:=bf_ BK145.out 2;have p149 : 0 ≤ (a2 : Int):=od_ (by first|(with_reducible assumption)|assumption);have q149 : a2 < (l1.length : Int):=od_ (by first|(with_reducible assumption)|assumption);obtain ⟨ad149,e149,hx149_0⟩:=Kd.at_int HR1.out a2 p149 q149;obtain rfl : ad148 = ad149:=(by injection e149);replace hx149_0:=(HB.out.cell (wl_ w _ hx149_0)).trans hx149_0;replace p149:=eq_true p149;replace q149:=eq_true q149));try go_wp2_with (first|((with_reducible refine gate_dst (N:=11) rfl ?_);refine box_event ?hg (N:=11) ?hd (cs:=#[.int .i64 0,.int .i64 0,.int .i64 0]) (t:=51) ?hr ?_;(case hd => rfl);(case hg => rfl);(case hr => first|(go_simp;done)|(go_simp;rfl));intro gb145 hg w20 hbox hb;have n0_:=mk_ (st_ (by repeat (first|(with_reducible first|exact HB.out|apply ba_|apply bn_|apply bd_)|exact HB.out)) hb);have n1_:=mk_ (hbox);have n2_:=mk_ ((by rw [hg];exact (bz_ (by repeat (first|(with_reducible first|exact HB.out|apply ba_|apply bn_|apply bd_)|exact HB.out))) : w.heap.size ≤ gb145));have n3_:=mk_ ((by rw [hg];exact (bz_ (by repeat (first|(with_reducible first|exact HB.out|apply ba_|apply bn_|apply bd_)|exact HB.out))) : w.heap.size ≤ gb145));clear HB;have HB:=n0_;have BK145:=n1_;have GW145:=n2_;have GE145:=n3_;clear n0_ n1_ n2_ n3_;clear hb hbox hg;have hcz21_0 : w20.cell? ⟨gb145,0,none⟩ = some (.int .i64 0):=(bc_ BK145.out 0).trans rfl;have hcz21_1 : w20.cell? ⟨gb145,1,none⟩ = some (.int .i64 0):=(bc_ BK145.out 1).trans rfl;have hcz21_2 : w20.cell? ⟨gb145,2,none⟩ = some (.int .i64 0):=(bc_ BK145.out 2).trans rfl;have hfz21_0:=bf_ BK145.out 0;have hfz21_1:=bf_ BK145.out 1;have hfz21_2:=bf_ BK145.out 2)|(go_at_call 82;(with_reducible refine (impl_Cable_other.calls ((rd_T51 l0 x16_1).f0) ((rd_T51 l0 x16_1).f1) ((rd_T51 l0 x16_1).f2) a2 t146 true _ A7.out).mono ?_);rintro e w22 ⟨rfl,hb⟩;have n0_:=mk_ (blk_below (g:=gb145) (o:=.cells #[.int .i64 ((rd_T51 l0 x16_1).f0),.int .i64 ((rd_T51 l0 x16_1).f1),.int .i64 ((rd_T51 l0 x16_1).f2)] 51 (0,0)) (by (with_reducible repeat (first|refine kn_ ?_ _|refine kd_ ?_|refine ka_ ?_ _));refine blk_put (cs:=#[.int .i64 ((rd_T51 l0 x16_1).f0),.int .i64 ((rd_T51 l0 x16_1).f1),.int .i64 0]) ?_ 2 _ rfl;(with_reducible repeat (first|refine kn_ ?_ _|refine kd_ ?_|refine ka_ ?_ _));refine blk_put (cs:=#[.int .i64 ((rd_T51 l0 x16_1).f0),.int .i64 0,.int .i64 0]) ?_ 1 _ rfl;(with_reducible repeat (first|refine kn_ ?_ _|refine kd_ ?_|refine ka_ ?_ _));refine blk_put (cs:=#[.int .i64 0,.int .i64 0,.int .i64 0]) ?_ 0 _ rfl;(with_reducible repeat (first|refine kn_ ?_ _|refine kd_ ?_|refine ka_ ?_ _));exact BK145.out) hb);have n1_:=mk_ (st_ (by repeat (first|(with_reducible first|exact HB.out|apply ba_|apply bn_|apply bd_|refine bs_ ?_ GE145.out)|exact HB.out)) hb);clear BK145;clear HB;have BK145:=n0_;have HB:=n1_;clear n0_ n1_;(try clear hb);(try clear hb2);(try clear hk);(try clear hi);have p148 : 0 ≤ (t146 : Int):=od_ (by first|(with_reducible assumption)|assumption);have q148 : t146 < (l1.length : Int):=od_ (by first|(with_reducible assumption)|assumption);obtain ⟨ad148,e148,hx148_0⟩:=Kd.at_int HR1.out t146 p148 q148;cases e148;replace hx148_0:=(HB.out.cell (wl_ w _ hx148_0)).trans hx148_0;replace p148:=eq_true p148;replace q148:=eq_true q148;have hcz23_0 : w22.cell? ⟨gb145,0,none⟩ = some (.int .i64 ((rd_T51 l0 x16_1).f0)):=(bc_ BK145.out 0).trans rfl;have hcz23_1 : w22.cell? ⟨gb145,1,none⟩ = some (.int .i64 ((rd_T51 l0 x16_1).f1)):=(bc_ BK145.out 1).trans rfl;have hcz23_2 : w22.cell? ⟨gb145,2,none⟩ = some (.int .i64 ((rd_T51 l0 x16_1).f2)):=(bc_ BK145.out 2).trans rfl;have hfz23_0:=bf_ BK145.out 0;have hfz23_1:=bf_ BK145.out 1;have hfz23_2:=bf_ BK145.out 2;have p149 : 0 ≤ (a2 : Int):=od_ (by first|(with_reducible assumption)|assumption);have q149 : a2 < (l1.length : Int):=od_ (by first|(with_reducible assumption)|assumption);obtain ⟨ad149,e149,hx149_0⟩:=Kd.at_int HR1.out a2 p149 q149;obtain rfl : ad148 = ad149:=(by injection e149);replace hx149_0:=(HB.out.cell (wl_ w _ hx149_0)).trans hx149_0;replace p149:=eq_true p149;replace q149:=eq_true q149)))
              go_roundg k1
              case measure => have:=HK1.out;omega
              case rel => exact ⟨(x16_1),(t146),(wrap64 (x16_1 + 1)),(by first|rfl|(simp;done)|(simp [*];done)),(by first|rfl|(simp;done)|(simp [*];done)),(by first|rfl|(simp;done)|(simp [*];done)),H',⟨by have:=HK1.out;omega⟩,⟨by repeat (first|(with_reducible first|exact HB.out|apply ba_|apply bn_|apply bd_|refine bs_ ?_ GE145.out)|exact HB.out)⟩⟩
             ·rw [if_neg c19] at H
              have c19b0 : decide (t146 < x9_1) = false:=decide_eq_false c19
              clear c19
              have H':=mk_ H
              clear H
              have p144 : 0 ≤ (x16_1 : Int):=od_ (by first|(with_reducible assumption)|assumption)
              have q144 : x16_1 < (l0.length : Int):=od_ (by first|(with_reducible assumption)|assumption)
              obtain ⟨ad144,e144,hx144_0,hx144_1,hx144_2⟩:=at_T51 HR0.out x16_1 p144 q144
              cases e144
              replace hx144_0:=(HB.out.cell (wl_ w _ hx144_0)).trans hx144_0
              replace hx144_1:=(HB.out.cell (wl_ w _ hx144_1)).trans hx144_1
              replace hx144_2:=(HB.out.cell (wl_ w _ hx144_2)).trans hx144_2
              replace p144:=eq_true p144
              replace q144:=eq_true q144
              go_wp2_with (first|((with_reducible refine gate_dst (N:=11) rfl ?_);refine box_event ?hg (N:=11) ?hd (cs:=#[.int .i64 0,.int .i64 0,.int .i64 0]) (t:=51) ?hr ?_;(case hd => rfl);(case hg => rfl);(case hr => first|(go_simp;done)|(go_simp;rfl));intro gb145 hg w24 hbox hb;have n0_:=mk_ (st_ (by repeat (first|(with_reducible first|exact HB.out|apply ba_|apply bn_|apply bd_)|exact HB.out)) hb);have n1_:=mk_ (hbox);have n2_:=mk_ ((by rw [hg];exact (bz_ (by repeat (first|(with_reducible first|exact HB.out|apply ba_|apply bn_|apply bd_)|exact HB.out))) : w.heap.size ≤ gb145));have n3_:=mk_ ((by rw [hg];exact (bz_ (by repeat (first|(with_reducible first|exact HB.out|apply ba_|apply bn_|apply bd_)|exact HB.out))) : w.heap.size ≤ gb145));clear HB;have HB:=n0_;have BK145:=n1_;have GW145:=n2_;have GE145:=n3_;clear n0_ n1_ n2_ n3_;clear hb hbox hg;have hcz25_0 : w24.cell? ⟨gb145,0,none⟩ = some (.int .i64 0):=(bc_ BK145.out 0).trans rfl;have hcz25_1 : w24.cell? ⟨gb145,1,none⟩ = some (.int .i64 0):=(bc_ BK145.out 1).trans rfl;have hcz25_2 : w24.cell? ⟨gb145,2,none⟩ = some (.int .i64 0):=(bc_ BK145.out 2).trans rfl;have hfz25_0:=bf_ BK145.out 0;have hfz25_1:=bf_ BK145.out 1;have hfz25_2:=bf_ BK145.out 2)|(go_at_call 82;(with_reducible refine (impl_Cable_other.calls ((rd_T51 l0 x16_1).f0) ((rd_T51 l0 x16_1).f1) ((rd_T51 l0 x16_1).f2) a2 t146 true _ A7.out).mono ?_);rintro e w26 ⟨rfl,hb⟩;have n0_:=mk_ (blk_below (g:=gb145) (o:=.cells #[.int .i64 ((rd_T51 l0 x16_1).f0),.int .i64 ((rd_T51 l0 x16_1).f1),.int .i64 ((rd_T51 l0 x16_1).f2)] 51 (0,0)) (by (with_reducible repeat (first|refine kn_ ?_ _|refine kd_ ?_|refine ka_ ?_ _));refine blk_put (cs:=#[.int .i64 ((rd_T51 l0 x16_1).f0),.int .i64 ((rd_T51 l0 x16_1).f1),.int .i64 0]) ?_ 2 _ rfl;(with_reducible repeat (first|refine kn_ ?_ _|refine kd_ ?_|refine ka_ ?_ _));refine blk_put (cs:=#[.int .i64 ((rd_T51 l0 x16_1).f0),.int .i64 0,.int .i64 0]) ?_ 1 _ rfl;(with_reducible repeat (first|refine kn_ ?_ _|refine kd_ ?_|refine ka_ ?_ _));refine blk_put (cs:=#[.int .i64 0,.int .i64 0,.int .i64 0]) ?_ 0 _ rfl;(with_reducible repeat (first|refine kn_ ?_ _|refine kd_ ?_|refine ka_ ?_ _));exact BK145.out) hb);have n1_:=mk_ (st_ (by repeat (first|(with_reducible first|exact HB.out|apply ba_|apply bn_|apply bd_|refine bs_ ?_ GE145.out)|exact HB.out)) hb);clear BK145;clear HB;have BK145:=n0_;have HB:=n1_;clear n0_ n1_;(try clear hb);(try clear hb2);(try clear hk);(try clear hi);have p148 : 0 ≤ (t146 : Int):=od_ (by first|(with_reducible assumption)|assumption);have q148 : t146 < (l1.length : Int):=od_ (by first|(with_reducible assumption)|assumption);obtain ⟨ad148,e148,hx148_0⟩:=Kd.at_int HR1.out t146 p148 q148;cases e148;replace hx148_0:=(HB.out.cell (wl_ w _ hx148_0)).trans hx148_0;replace p148:=eq_true p148;replace q148:=eq_true q148;have hcz27_0 : w26.cell? ⟨gb145,0,none⟩ = some (.int .i64 ((rd_T51 l0 x16_1).f0)):=(bc_ BK145.out 0).trans rfl;have hcz27_1 : w26.cell? ⟨gb145,1,none⟩ = some (.int .i64 ((rd_T51 l0 x16_1).f1)):=(bc_ BK145.out 1).trans rfl;have hcz27_2 : w26.cell? ⟨gb145,2,none⟩ = some (.int .i64 ((rd_T51 l0 x16_1).f2)):=(bc_ BK145.out 2).trans rfl;have hfz27_0:=bf_ BK145.out 0;have hfz27_1:=bf_ BK145.out 1;have hfz27_2:=bf_ BK145.out 2;have p149 : 0 ≤ (a2 : Int):=od_ (by first|(with_reducible assumption)|assumption);have q149 : a2 < (l1.length : Int):=od_ (by first|(with_reducible assumption)|assumption);obtain ⟨ad149,e149,hx149_0⟩:=Kd.at_int HR1.out a2 p149 q149;obtain rfl : ad148 = ad149:=(by injection e149);replace hx149_0:=(HB.out.cell (wl_ w _ hx149_0)).trans hx149_0;replace p149:=eq_true p149;replace q149:=eq_true q149))
              repeat (go_quiet (first|((with_reducible refine gate_dst (N:=11) rfl ?_);refine box_event ?hg (N:=11) ?hd (cs:=#[.int .i64 0,.int .i64 0,.int .i64 0]) (t:=51) ?hr ?_;(case hd => rfl);(case hg => rfl);(case hr => first|(go_simp;done)|(go_simp;rfl));intro gb145 hg w24 hbox hb;have n0_:=mk_ (st_ (by repeat (first|(with_reducible first|exact HB.out|apply ba_|apply bn_|apply bd_)|exact HB.out)) hb);have n1_:=mk_ (hbox);have n2_:=mk_ ((by rw [hg];exact (bz_ (by repeat (first|(with_reducible first|exact HB.out|apply ba_|apply bn_|apply bd_)|exact HB.out))) : w.heap.size ≤ gb145));have n3_:=mk_ ((by rw [hg];exact (bz_ (by repeat (first|(with_reducible first|exact HB.out|apply ba_|apply bn_|apply bd_)|exact HB.out))) : w.heap.size ≤ gb145));clear HB;have HB:=n0_;have BK145:=n1_;have GW145:=n2_;have GE145:=n3_;clear n0_ n1_ n2_ n3_;clear hb hbox hg;have hcz25_0 : w24.cell? ⟨gb145,0,none⟩ = some (.int .i64 0):=(bc_ BK145.out 0).trans rfl;have hcz25_1 : w24.cell? ⟨gb145,1,none⟩ = some (.int .i64 0):=(bc_ BK145.out 1).trans rfl;have hcz25_2 : w24.cell? ⟨gb145,2,none⟩ = some (.int .i64 0):=(bc_ BK145.out 2).trans rfl;have hfz25_0:=bf_ BK145.out 0;have hfz25_1:=bf_ BK145.out 1;have hfz25_2:=bf_ BK145.out 2)|(go_at_call 82;(with_reducible refine (impl_Cable_other.calls ((rd_T51 l0 x16_1).f0) ((rd_T51 l0 x16_1).f1) ((rd_T51 l0 x16_1).f2) a2 t146 true _ A7.out).mono ?_);rintro e w26 ⟨rfl,hb⟩;have n0_:=mk_ (blk_below (g:=gb145) (o:=.cells #[.int .i64 ((rd_T51 l0 x16_1).f0),.int .i64 ((rd_T51 l0 x16_1).f1),.int .i64 ((rd_T51 l0 x16_1).f2)] 51 (0,0)) (by (with_reducible repeat (first|refine kn_ ?_ _|refine kd_ ?_|refine ka_ ?_ _));refine blk_put (cs:=#[.int .i64 ((rd_T51 l0 x16_1).f0),.int .i64 ((rd_T51 l0 x16_1).f1),.int .i64 0]) ?_ 2 _ rfl;(with_reducible repeat (first|refine kn_ ?_ _|refine kd_ ?_|refine ka_ ?_ _));refine blk_put (cs:=#[.int .i64 ((rd_T51 l0 x16_1).f0),.int .i64 0,.int .i64 0]) ?_ 1 _ rfl;(with_reducible repeat (first|refine kn_ ?_ _|refine kd_ ?_|refine ka_ ?_ _));refine blk_put (cs:=#[.int .i64 0,.int .i64 0,.int .i64 0]) ?_ 0 _ rfl;(with_reducible repeat (first|refine kn_ ?_ _|refine kd_ ?_|refine ka_ ?_ _));exact BK145.out) hb);have n1_:=mk_ (st_ (by repeat (first|(with_reducible first|exact HB.out|apply ba_|apply bn_|apply bd_|refine bs_ ?_ GE145.out)|exact HB.out)) hb);clear BK145;clear HB;have BK145:=n0_;have HB:=n1_;clear n0_ n1_;(try clear hb);(try clear hb2);(try clear hk);(try clear hi);have p148 : 0 ≤ (t146 : Int):=od_ (by first|(with_reducible assumption)|assumption);have q148 : t146 < (l1.length : Int):=od_ (by first|(with_reducible assumption)|assumption);obtain ⟨ad148,e148,hx148_0⟩:=Kd.at_int HR1.out t146 p148 q148;cases e148;replace hx148_0:=(HB.out.cell (wl_ w _ hx148_0)).trans hx148_0;replace p148:=eq_true p148;replace q148:=eq_true q148;have hcz27_0 : w26.cell? ⟨gb145,0,none⟩ = some (.int .i64 ((rd_T51 l0 x16_1).f0)):=(bc_ BK145.out 0).trans rfl;have hcz27_1 : w26.cell? ⟨gb145,1,none⟩ = some (.int .i64 ((rd_T51 l0 x16_1).f1)):=(bc_ BK145.out 1).trans rfl;have hcz27_2 : w26.cell? ⟨gb145,2,none⟩ = some (.int .i64 ((rd_T51 l0 x16_1).f2)):=(bc_ BK145.out 2).trans rfl;have hfz27_0:=bf_ BK145.out 0;have hfz27_1:=bf_ BK145.out 1;have hfz27_2:=bf_ BK145.out 2;have p149 : 0 ≤ (a2 : Int):=od_ (by first|(with_reducible assumption)|assumption);have q149 : a2 < (l1.length : Int):=od_ (by first|(with_reducible assumption)|assumption);obtain ⟨ad149,e149,hx149_0⟩:=Kd.at_int HR1.out a2 p149 q149;obtain rfl : ad148 = ad149:=(by injection e149);replace hx149_0:=(HB.out.cell (wl_ w _ hx149_0)).trans hx149_0;replace p149:=eq_true p149;replace q149:=eq_true q149));try go_wp2_with (first|((with_reducible refine gate_dst (N:=11) rfl ?_);refine box_event ?hg (N:=11) ?hd (cs:=#[.int .i64 0,.int .i64 0,.int .i64 0]) (t:=51) ?hr ?_;(case hd => rfl);(case hg => rfl);(case hr => first|(go_simp;done)|(go_simp;rfl));intro gb145 hg w24 hbox hb;have n0_:=mk_ (st_ (by repeat (first|(with_reducible first|exact HB.out|apply ba_|apply bn_|apply bd_)|exact HB.out)) hb);have n1_:=mk_ (hbox);have n2_:=mk_ ((by rw [hg];exact (bz_ (by repeat (first|(with_reducible first|exact HB.out|apply ba_|apply bn_|apply bd_)|exact HB.out))) : w.heap.size ≤ gb145));have n3_:=mk_ ((by rw [hg];exact (bz_ (by repeat (first|(with_reducible first|exact HB.out|apply ba_|apply bn_|apply bd_)|exact HB.out))) : w.heap.size ≤ gb145));clear HB;have HB:=n0_;have BK145:=n1_;have GW145:=n2_;have GE145:=n3_;clear n0_ n1_ n2_ n3_;clear hb hbox hg;have hcz25_0 : w24.cell? ⟨gb145,0,none⟩ = some (.int .i64 0):=(bc_ BK145.out 0).trans rfl;have hcz25_1 : w24.cell? ⟨gb145,1,none⟩ = some (.int .i64 0):=(bc_ BK145.out 1).trans rfl;have hcz25_2 : w24.cell? ⟨gb145,2,none⟩ = some (.int .i64 0):=(bc_ BK145.out 2).trans rfl;have hfz25_0:=bf_ BK145.out 0;have hfz25_1:=bf_ BK145.out 1;have hfz25_2:=bf_ BK145.out 2)|(go_at_call 82;(with_reducible refine (impl_Cable_other.calls ((rd_T51 l0 x16_1).f0) ((rd_T51 l0 x16_1).f1) ((rd_T51 l0 x16_1).f2) a2 t146 true _ A7.out).mono ?_);rintro e w26 ⟨rfl,hb⟩;have n0_:=mk_ (blk_below (g:=gb145) (o:=.cells #[.int .i64 ((rd_T51 l0 x16_1).f0),.int .i64 ((rd_T51 l0 x16_1).f1),.int .i64 ((rd_T51 l0 x16_1).f2)] 51 (0,0)) (by (with_reducible repeat (first|refine kn_ ?_ _|refine kd_ ?_|refine ka_ ?_ _));refine blk_put (cs:=#[.int .i64 ((rd_T51 l0 x16_1).f0),.int .i64 ((rd_T51 l0 x16_1).f1),.int .i64 0]) ?_ 2 _ rfl;(with_reducible repeat (first|refine kn_ ?_ _|refine kd_ ?_|refine ka_ ?_ _));refine blk_put (cs:=#[.int .i64 ((rd_T51 l0 x16_1).f0),.int .i64 0,.int .i64 0]) ?_ 1 _ rfl;(with_reducible repeat (first|refine kn_ ?_ _|refine kd_ ?_|refine ka_ ?_ _));refine blk_put (cs:=#[.int .i64 0,.int .i64 0,.int .i64 0]) ?_ 0 _ rfl;(with_reducible repeat (first|refine kn_ ?_ _|refine kd_ ?_|refine ka_ ?_ _));exact BK145.out) hb);have n1_:=mk_ (st_ (by repeat (first|(with_reducible first|exact HB.out|apply ba_|apply bn_|apply bd_|refine bs_ ?_ GE145.out)|exact HB.out)) hb);clear BK145;clear HB;have BK145:=n0_;have HB:=n1_;clear n0_ n1_;(try clear hb);(try clear hb2);(try clear hk);(try clear hi);have p148 : 0 ≤ (t146 : Int):=od_ (by first|(with_reducible assumption)|assumption);have q148 : t146 < (l1.length : Int):=od_ (by first|(with_reducible assumption)|assumption);obtain ⟨ad148,e148,hx148_0⟩:=Kd.at_int HR1.out t146 p148 q148;cases e148;replace hx148_0:=(HB.out.cell (wl_ w _ hx148_0)).trans hx148_0;replace p148:=eq_true p148;replace q148:=eq_true q148;have hcz27_0 : w26.cell? ⟨gb145,0,none⟩ = some (.int .i64 ((rd_T51 l0 x16_1).f0)):=(bc_ BK145.out 0).trans rfl;have hcz27_1 : w26.cell? ⟨gb145,1,none⟩ = some (.int .i64 ((rd_T51 l0 x16_1).f1)):=(bc_ BK145.out 1).trans rfl;have hcz27_2 : w26.cell? ⟨gb145,2,none⟩ = some (.int .i64 ((rd_T51 l0 x16_1).f2)):=(bc_ BK145.out 2).trans rfl;have hfz27_0:=bf_ BK145.out 0;have hfz27_1:=bf_ BK145.out 1;have hfz27_2:=bf_ BK145.out 2;have p149 : 0 ≤ (a2 : Int):=od_ (by first|(with_reducible assumption)|assumption);have q149 : a2 < (l1.length : Int):=od_ (by first|(with_reducible assumption)|assumption);obtain ⟨ad149,e149,hx149_0⟩:=Kd.at_int HR1.out a2 p149 q149;obtain rfl : ad148 = ad149:=(by injection e149);replace hx149_0:=(HB.out.cell (wl_ w _ hx149_0)).trans hx149_0;replace p149:=eq_true p149;replace q149:=eq_true q149)))
              go_roundg k1
              case measure => have:=HK1.out;omega
              case rel => exact ⟨(x8_1),(x9_1),(wrap64 (x16_1 + 1)),(by first|rfl|(simp;done)|(simp [*];done)),(by first|rfl|(simp;done)|(simp [*];done)),(by first|rfl|(simp;done)|(simp [*];done)),H',⟨by have:=HK1.out;omega⟩,⟨by repeat (first|(with_reducible first|exact HB.out|apply ba_|apply bn_|apply bd_|refine bs_ ?_ GE145.out)|exact HB.out)⟩⟩
           ·rw [if_neg c13] at H
            have c13b0 : ((wrap64 ((rd l1 t146) + ((rd_T51 l0 x16_1).f2))) == (rd l1 a2)) = false:=beq_eq_false_iff_ne.mpr c13
            have c13b1 : ((wrap64 ((rd l1 t146) + ((rd_T51 l0 x16_1).f2))) != (rd l1 a2)) = true:=bne_iff_ne.mpr c13
            have H':=mk_ H
            clear H
            have p144 : 0 ≤ (x16_1 : Int):=od_ (by first|(with_reducible assumption)|assumption)
            have q144 : x16_1 < (l0.length : Int):=od_ (by first|(with_reducible assumption)|assumption)
            obtain ⟨ad144,e144,hx144_0,hx144_1,hx144_2⟩:=at_T51 HR0.out x16_1 p144 q144
            cases e144
            replace hx144_0:=(HB.out.cell (wl_ w _ hx144_0)).trans hx144_0
            replace hx144_1:=(HB.out.cell (wl_ w _ hx144_1)).trans hx144_1
            replace hx144_2:=(HB.out.cell (wl_ w _ hx144_2)).trans hx144_2
            replace p144:=eq_true p144
            replace q144:=eq_true q144
            go_wp2_with (first|((with_reducible refine gate_dst (N:=11) rfl ?_);refine box_event ?hg (N:=11) ?hd (cs:=#[.int .i64 0,.int .i64 0,.int .i64 0]) (t:=51) ?hr ?_;(case hd => rfl);(case hg => rfl);(case hr => first|(go_simp;done)|(go_simp;rfl));intro gb145 hg w28 hbox hb;have n0_:=mk_ (st_ (by repeat (first|(with_reducible first|exact HB.out|apply ba_|apply bn_|apply bd_)|exact HB.out)) hb);have n1_:=mk_ (hbox);have n2_:=mk_ ((by rw [hg];exact (bz_ (by repeat (first|(with_reducible first|exact HB.out|apply ba_|apply bn_|apply bd_)|exact HB.out))) : w.heap.size ≤ gb145));have n3_:=mk_ ((by rw [hg];exact (bz_ (by repeat (first|(with_reducible first|exact HB.out|apply ba_|apply bn_|apply bd_)|exact HB.out))) : w.heap.size ≤ gb145));clear HB;have HB:=n0_;have BK145:=n1_;have GW145:=n2_;have GE145:=n3_;clear n0_ n1_ n2_ n3_;clear hb hbox hg;have hcz29_0 : w28.cell? ⟨gb145,0,none⟩ = some (.int .i64 0):=(bc_ BK145.out 0).trans rfl;have hcz29_1 : w28.cell? ⟨gb145,1,none⟩ = some (.int .i64 0):=(bc_ BK145.out 1).trans rfl;have hcz29_2 : w28.cell? ⟨gb145,2,none⟩ = some (.int .i64 0):=(bc_ BK145.out 2).trans rfl;have hfz29_0:=bf_ BK145.out 0;have hfz29_1:=bf_ BK145.out 1;have hfz29_2:=bf_ BK145.out 2)|(go_at_call 82;(with_reducible refine (impl_Cable_other.calls ((rd_T51 l0 x16_1).f0) ((rd_T51 l0 x16_1).f1) ((rd_T51 l0 x16_1).f2) a2 t146 true _ A7.out).mono ?_);rintro e w30 ⟨rfl,hb⟩;have n0_:=mk_ (blk_below (g:=gb145) (o:=.cells #[.int .i64 ((rd_T51 l0 x16_1).f0),.int .i64 ((rd_T51 l0 x16_1).f1),.int .i64 ((rd_T51 l0 x16_1).f2)] 51 (0,0)) (by (with_reducible repeat (first|refine kn_ ?_ _|refine kd_ ?_|refine ka_ ?_ _));refine blk_put (cs:=#[.int .i64 ((rd_T51 l0 x16_1).f0),.int .i64 ((rd_T51 l0 x16_1).f1),.int .i64 0]) ?_ 2 _ rfl;(with_reducible repeat (first|refine kn_ ?_ _|refine kd_ ?_|refine ka_ ?_ _));refine blk_put (cs:=#[.int .i64 ((rd_T51 l0 x16_1).f0),.int .i64 0,.int .i64 0]) ?_ 1 _ rfl;(with_reducible repeat (first|refine kn_ ?_ _|refine kd_ ?_|refine ka_ ?_ _));refine blk_put (cs:=#[.int .i64 0,.int .i64 0,.int .i64 0]) ?_ 0 _ rfl;(with_reducible repeat (first|refine kn_ ?_ _|refine kd_ ?_|refine ka_ ?_ _));exact BK145.out) hb);have n1_:=mk_ (st_ (by repeat (first|(with_reducible first|exact HB.out|apply ba_|apply bn_|apply bd_|refine bs_ ?_ GE145.out)|exact HB.out)) hb);clear BK145;clear HB;have BK145:=n0_;have HB:=n1_;clear n0_ n1_;(try clear hb);(try clear hb2);(try clear hk);(try clear hi);have p148 : 0 ≤ (t146 : Int):=od_ (by first|(with_reducible assumption)|assumption);have q148 : t146 < (l1.length : Int):=od_ (by first|(with_reducible assumption)|assumption);obtain ⟨ad148,e148,hx148_0⟩:=Kd.at_int HR1.out t146 p148 q148;cases e148;replace hx148_0:=(HB.out.cell (wl_ w _ hx148_0)).trans hx148_0;replace p148:=eq_true p148;replace q148:=eq_true q148;have hcz31_0 : w30.cell? ⟨gb145,0,none⟩ = some (.int .i64 ((rd_T51 l0 x16_1).f0)):=(bc_ BK145.out 0).trans rfl;have hcz31_1 : w30.cell? ⟨gb145,1,none⟩ = some (.int .i64 ((rd_T51 l0 x16_1).f1)):=(bc_ BK145.out 1).trans rfl;have hcz31_2 : w30.cell? ⟨gb145,2,none⟩ = some (.int .i64 ((rd_T51 l0 x16_1).f2)):=(bc_ BK145.out 2).trans rfl;have hfz31_0:=bf_ BK145.out 0;have hfz31_1:=bf_ BK145.out 1;have hfz31_2:=bf_ BK145.out 2;have p149 : 0 ≤ (a2 : Int):=od_ (by first|(with_reducible assumption)|assumption);have q149 : a2 < (l1.length : Int):=od_ (by first|(with_reducible assumption)|assumption);obtain ⟨ad149,e149,hx149_0⟩:=Kd.at_int HR1.out a2 p149 q149;obtain rfl : ad148 = ad149:=(by injection e149);replace hx149_0:=(HB.out.cell (wl_ w _ hx149_0)).trans hx149_0;replace p149:=eq_true p149;replace q149:=eq_true q149))
            repeat (go_quiet (first|((with_reducible refine gate_dst (N:=11) rfl ?_);refine box_event ?hg (N:=11) ?hd (cs:=#[.int .i64 0,.int .i64 0,.int .i64 0]) (t:=51) ?hr ?_;(case hd => rfl);(case hg => rfl);(case hr => first|(go_simp;done)|(go_simp;rfl));intro gb145 hg w28 hbox hb;have n0_:=mk_ (st_ (by repeat (first|(with_reducible first|exact HB.out|apply ba_|apply bn_|apply bd_)|exact HB.out)) hb);have n1_:=mk_ (hbox);have n2_:=mk_ ((by rw [hg];exact (bz_ (by repeat (first|(with_reducible first|exact HB.out|apply ba_|apply bn_|apply bd_)|exact HB.out))) : w.heap.size ≤ gb145));have n3_:=mk_ ((by rw [hg];exact (bz_ (by repeat (first|(with_reducible first|exact HB.out|apply ba_|apply bn_|apply bd_)|exact HB.out))) : w.heap.size ≤ gb145));clear HB;have HB:=n0_;have BK145:=n1_;have GW145:=n2_;have GE145:=n3_;clear n0_ n1_ n2_ n3_;clear hb hbox hg;have hcz29_0 : w28.cell? ⟨gb145,0,none⟩ = some (.int .i64 0):=(bc_ BK145.out 0).trans rfl;have hcz29_1 : w28.cell? ⟨gb145,1,none⟩ = some (.int .i64 0):=(bc_ BK145.out 1).trans rfl;have hcz29_2 : w28.cell? ⟨gb145,2,none⟩ = some (.int .i64 0):=(bc_ BK145.out 2).trans rfl;have hfz29_0:=bf_ BK145.out 0;have hfz29_1:=bf_ BK145.out 1;have hfz29_2:=bf_ BK145.out 2)|(go_at_call 82;(with_reducible refine (impl_Cable_other.calls ((rd_T51 l0 x16_1).f0) ((rd_T51 l0 x16_1).f1) ((rd_T51 l0 x16_1).f2) a2 t146 true _ A7.out).mono ?_);rintro e w30 ⟨rfl,hb⟩;have n0_:=mk_ (blk_below (g:=gb145) (o:=.cells #[.int .i64 ((rd_T51 l0 x16_1).f0),.int .i64 ((rd_T51 l0 x16_1).f1),.int .i64 ((rd_T51 l0 x16_1).f2)] 51 (0,0)) (by (with_reducible repeat (first|refine kn_ ?_ _|refine kd_ ?_|refine ka_ ?_ _));refine blk_put (cs:=#[.int .i64 ((rd_T51 l0 x16_1).f0),.int .i64 ((rd_T51 l0 x16_1).f1),.int .i64 0]) ?_ 2 _ rfl;(with_reducible repeat (first|refine kn_ ?_ _|refine kd_ ?_|refine ka_ ?_ _));refine blk_put (cs:=#[.int .i64 ((rd_T51 l0 x16_1).f0),.int .i64 0,.int .i64 0]) ?_ 1 _ rfl;(with_reducible repeat (first|refine kn_ ?_ _|refine kd_ ?_|refine ka_ ?_ _));refine blk_put (cs:=#[.int .i64 0,.int .i64 0,.int .i64 0]) ?_ 0 _ rfl;(with_reducible repeat (first|refine kn_ ?_ _|refine kd_ ?_|refine ka_ ?_ _));exact BK145.out) hb);have n1_:=mk_ (st_ (by repeat (first|(with_reducible first|exact HB.out|apply ba_|apply bn_|apply bd_|refine bs_ ?_ GE145.out)|exact HB.out)) hb);clear BK145;clear HB;have BK145:=n0_;have HB:=n1_;clear n0_ n1_;(try clear hb);(try clear hb2);(try clear hk);(try clear hi);have p148 : 0 ≤ (t146 : Int):=od_ (by first|(with_reducible assumption)|assumption);have q148 : t146 < (l1.length : Int):=od_ (by first|(with_reducible assumption)|assumption);obtain ⟨ad148,e148,hx148_0⟩:=Kd.at_int HR1.out t146 p148 q148;cases e148;replace hx148_0:=(HB.out.cell (wl_ w _ hx148_0)).trans hx148_0;replace p148:=eq_true p148;replace q148:=eq_true q148;have hcz31_0 : w30.cell? ⟨gb145,0,none⟩ = some (.int .i64 ((rd_T51 l0 x16_1).f0)):=(bc_ BK145.out 0).trans rfl;have hcz31_1 : w30.cell? ⟨gb145,1,none⟩ = some (.int .i64 ((rd_T51 l0 x16_1).f1)):=(bc_ BK145.out 1).trans rfl;have hcz31_2 : w30.cell? ⟨gb145,2,none⟩ = some (.int .i64 ((rd_T51 l0 x16_1).f2)):=(bc_ BK145.out 2).trans rfl;have hfz31_0:=bf_ BK145.out 0;have hfz31_1:=bf_ BK145.out 1;have hfz31_2:=bf_ BK145.out 2;have p149 : 0 ≤ (a2 : Int):=od_ (by first|(with_reducible assumption)|assumption);have q149 : a2 < (l1.length : Int):=od_ (by first|(with_reducible assumption)|assumption);obtain ⟨ad149,e149,hx149_0⟩:=Kd.at_int HR1.out a2 p149 q149;obtain rfl : ad148 = ad149:=(by injection e149);replace hx149_0:=(HB.out.cell (wl_ w _ hx149_0)).trans hx149_0;replace p149:=eq_true p149;replace q149:=eq_true q149));try go_wp2_with (first|((with_reducible refine gate_dst (N:=11) rfl ?_);refine box_event ?hg (N:=11) ?hd (cs:=#[.int .i64 0,.int .i64 0,.int .i64 0]) (t:=51) ?hr ?_;(case hd => rfl);(case hg => rfl);(case hr => first|(go_simp;done)|(go_simp;rfl));intro gb145 hg w28 hbox hb;have n0_:=mk_ (st_ (by repeat (first|(with_reducible first|exact HB.out|apply ba_|apply bn_|apply bd_)|exact HB.out)) hb);have n1_:=mk_ (hbox);have n2_:=mk_ ((by rw [hg];exact (bz_ (by repeat (first|(with_reducible first|exact HB.out|apply ba_|apply bn_|apply bd_)|exact HB.out))) : w.heap.size ≤ gb145));have n3_:=mk_ ((by rw [hg];exact (bz_ (by repeat (first|(with_reducible first|exact HB.out|apply ba_|apply bn_|apply bd_)|exact HB.out))) : w.heap.size ≤ gb145));clear HB;have HB:=n0_;have BK145:=n1_;have GW145:=n2_;have GE145:=n3_;clear n0_ n1_ n2_ n3_;clear hb hbox hg;have hcz29_0 : w28.cell? ⟨gb145,0,none⟩ = some (.int .i64 0):=(bc_ BK145.out 0).trans rfl;have hcz29_1 : w28.cell? ⟨gb145,1,none⟩ = some (.int .i64 0):=(bc_ BK145.out 1).trans rfl;have hcz29_2 : w28.cell? ⟨gb145,2,none⟩ = some (.int .i64 0):=(bc_ BK145.out 2).trans rfl;have hfz29_0:=bf_ BK145.out 0;have hfz29_1:=bf_ BK145.out 1;have hfz29_2:=bf_ BK145.out 2)|(go_at_call 82;(with_reducible refine (impl_Cable_other.calls ((rd_T51 l0 x16_1).f0) ((rd_T51 l0 x16_1).f1) ((rd_T51 l0 x16_1).f2) a2 t146 true _ A7.out).mono ?_);rintro e w30 ⟨rfl,hb⟩;have n0_:=mk_ (blk_below (g:=gb145) (o:=.cells #[.int .i64 ((rd_T51 l0 x16_1).f0),.int .i64 ((rd_T51 l0 x16_1).f1),.int .i64 ((rd_T51 l0 x16_1).f2)] 51 (0,0)) (by (with_reducible repeat (first|refine kn_ ?_ _|refine kd_ ?_|refine ka_ ?_ _));refine blk_put (cs:=#[.int .i64 ((rd_T51 l0 x16_1).f0),.int .i64 ((rd_T51 l0 x16_1).f1),.int .i64 0]) ?_ 2 _ rfl;(with_reducible repeat (first|refine kn_ ?_ _|refine kd_ ?_|refine ka_ ?_ _));refine blk_put (cs:=#[.int .i64 ((rd_T51 l0 x16_1).f0),.int .i64 0,.int .i64 0]) ?_ 1 _ rfl;(with_reducible repeat (first|refine kn_ ?_ _|refine kd_ ?_|refine ka_ ?_ _));refine blk_put (cs:=#[.int .i64 0,.int .i64 0,.int .i64 0]) ?_ 0 _ rfl;(with_reducible repeat (first|refine kn_ ?_ _|refine kd_ ?_|refine ka_ ?_ _));exact BK145.out) hb);have n1_:=mk_ (st_ (by repeat (first|(with_reducible first|exact HB.out|apply ba_|apply bn_|apply bd_|refine bs_ ?_ GE145.out)|exact HB.out)) hb);clear BK145;clear HB;have BK145:=n0_;have HB:=n1_;clear n0_ n1_;(try clear hb);(try clear hb2);(try clear hk);(try clear hi);have p148 : 0 ≤ (t146 : Int):=od_ (by first|(with_reducible assumption)|assumption);have q148 : t146 < (l1.length : Int):=od_ (by first|(with_reducible assumption)|assumption);obtain ⟨ad148,e148,hx148_0⟩:=Kd.at_int HR1.out t146 p148 q148;cases e148;replace hx148_0:=(HB.out.cell (wl_ w _ hx148_0)).trans hx148_0;replace p148:=eq_true p148;replace q148:=eq_true q148;have hcz31_0 : w30.cell? ⟨gb145,0,none⟩ = some (.int .i64 ((rd_T51 l0 x16_1).f0)):=(bc_ BK145.out 0).trans rfl;have hcz31_1 : w30.cell? ⟨gb145,1,none⟩ = some (.int .i64 ((rd_T51 l0 x16_1).f1)):=(bc_ BK145.out 1).trans rfl;have hcz31_2 : w30.cell? ⟨gb145,2,none⟩ = some (.int .i64 ((rd_T51 l0 x16_1).f2)):=(bc_ BK145.out 2).trans rfl;have hfz31_0:=bf_ BK145.out 0;have hfz31_1:=bf_ BK145.out 1;have hfz31_2:=bf_ BK145.out 2;have p149 : 0 ≤ (a2 : Int):=od_ (by first|(with_reducible assumption)|assumption);have q149 : a2 < (l1.length : Int):=od_ (by first|(with_reducible assumption)|assumption);obtain ⟨ad149,e149,hx149_0⟩:=Kd.at_int HR1.out a2 p149 q149;obtain rfl : ad148 = ad149:=(by injection e149);replace hx149_0:=(HB.out.cell (wl_ w _ hx149_0)).trans hx149_0;replace p149:=eq_true p149;replace q149:=eq_true q149)))
            go_roundg k1
            case measure => have:=HK1.out;omega
            case rel => exact ⟨(x8_1),(x9_1),(wrap64 (x16_1 + 1)),(by first|rfl|(simp;done)|(simp [*];done)),(by first|rfl|(simp;done)|(simp [*];done)),(by first|rfl|(simp;done)|(simp [*];done)),H',⟨by have:=HK1.out;omega⟩,⟨by repeat (first|(with_reducible first|exact HB.out|apply ba_|apply bn_|apply bd_|refine bs_ ?_ GE145.out)|exact HB.out)⟩⟩
          ·rw [if_neg c12] at H
           exact absurd H (by simp)
         ·rw [if_neg c11] at H
          exact absurd H (by simp)
        ·rw [if_neg c10] at H
         exact absurd H (by simp)
       ·rw [if_neg c9] at H
        exact absurd H (by simp)
      ·replace c8:=Bool.eq_false_iff.mpr c8
       subst c8
       have H1 : (impl_upOf.l0 k1 l1 a2 x8_1 x9_1 l0 (l0.length : Int) (wrap64 (x16_1 + 1))) = some (r1,r2):=by rw [if_neg (show ¬ (false = true) by decide)] at H;exact H
       clear H
       have H:=H1
       clear H1
       have H':=mk_ H
       clear H
       have p144 : 0 ≤ (x16_1 : Int):=od_ (by first|(with_reducible assumption)|assumption)
       have q144 : x16_1 < (l0.length : Int):=od_ (by first|(with_reducible assumption)|assumption)
       obtain ⟨ad144,e144,hx144_0,hx144_1,hx144_2⟩:=at_T51 HR0.out x16_1 p144 q144
       cases e144
       replace hx144_0:=(HB.out.cell (wl_ w _ hx144_0)).trans hx144_0
       replace hx144_1:=(HB.out.cell (wl_ w _ hx144_1)).trans hx144_1
       replace hx144_2:=(HB.out.cell (wl_ w _ hx144_2)).trans hx144_2
       replace p144:=eq_true p144
       replace q144:=eq_true q144
       go_wp2_with (first|((with_reducible refine gate_dst (N:=11) rfl ?_);refine box_event ?hg (N:=11) ?hd (cs:=#[.int .i64 0,.int .i64 0,.int .i64 0]) (t:=51) ?hr ?_;(case hd => rfl);(case hg => rfl);(case hr => first|(go_simp;done)|(go_simp;rfl));intro gb145 hg w32 hbox hb;have n0_:=mk_ (st_ (by repeat (first|(with_reducible first|exact HB.out|apply ba_|apply bn_|apply bd_)|exact HB.out)) hb);have n1_:=mk_ (hbox);have n2_:=mk_ ((by rw [hg];exact (bz_ (by repeat (first|(with_reducible first|exact HB.out|apply ba_|apply bn_|apply bd_)|exact HB.out))) : w.heap.size ≤ gb145));have n3_:=mk_ ((by rw [hg];exact (bz_ (by repeat (first|(with_reducible first|exact HB.out|apply ba_|apply bn_|apply bd_)|exact HB.out))) : w.heap.size ≤ gb145));clear HB;have HB:=n0_;have BK145:=n1_;have GW145:=n2_;have GE145:=n3_;clear n0_ n1_ n2_ n3_;clear hb hbox hg;have hcz33_0 : w32.cell? ⟨gb145,0,none⟩ = some (.int .i64 0):=(bc_ BK145.out 0).trans rfl;have hcz33_1 : w32.cell? ⟨gb145,1,none⟩ = some (.int .i64 0):=(bc_ BK145.out 1).trans rfl;have hcz33_2 : w32.cell? ⟨gb145,2,none⟩ = some (.int .i64 0):=(bc_ BK145.out 2).trans rfl;have hfz33_0:=bf_ BK145.out 0;have hfz33_1:=bf_ BK145.out 1;have hfz33_2:=bf_ BK145.out 2)|(go_at_call 82;(with_reducible refine (impl_Cable_other.calls ((rd_T51 l0 x16_1).f0) ((rd_T51 l0 x16_1).f1) ((rd_T51 l0 x16_1).f2) a2 t146 false _ A7.out).mono ?_);rintro e w34 ⟨rfl,hb⟩;have n0_:=mk_ (blk_below (g:=gb145) (o:=.cells #[.int .i64 ((rd_T51 l0 x16_1).f0),.int .i64 ((rd_T51 l0 x16_1).f1),.int .i64 ((rd_T51 l0 x16_1).f2)] 51 (0,0)) (by (with_reducible repeat (first|refine kn_ ?_ _|refine kd_ ?_|refine ka_ ?_ _));refine blk_put (cs:=#[.int .i64 ((rd_T51 l0 x16_1).f0),.int .i64 ((rd_T51 l0 x16_1).f1),.int .i64 0]) ?_ 2 _ rfl;(with_reducible repeat (first|refine kn_ ?_ _|refine kd_ ?_|refine ka_ ?_ _));refine blk_put (cs:=#[.int .i64 ((rd_T51 l0 x16_1).f0),.int .i64 0,.int .i64 0]) ?_ 1 _ rfl;(with_reducible repeat (first|refine kn_ ?_ _|refine kd_ ?_|refine ka_ ?_ _));refine blk_put (cs:=#[.int .i64 0,.int .i64 0,.int .i64 0]) ?_ 0 _ rfl;(with_reducible repeat (first|refine kn_ ?_ _|refine kd_ ?_|refine ka_ ?_ _));exact BK145.out) hb);have n1_:=mk_ (st_ (by repeat (first|(with_reducible first|exact HB.out|apply ba_|apply bn_|apply bd_|refine bs_ ?_ GE145.out)|exact HB.out)) hb);clear BK145;clear HB;have BK145:=n0_;have HB:=n1_;clear n0_ n1_;(try clear hb);(try clear hb2);(try clear hk);(try clear hi)))
       repeat (go_quiet (first|((with_reducible refine gate_dst (N:=11) rfl ?_);refine box_event ?hg (N:=11) ?hd (cs:=#[.int .i64 0,.int .i64 0,.int .i64 0]) (t:=51) ?hr ?_;(case hd => rfl);(case hg => rfl);(case hr => first|(go_simp;done)|(go_simp;rfl));intro gb145 hg w32 hbox hb;have n0_:=mk_ (st_ (by repeat (first|(with_reducible first|exact HB.out|apply ba_|apply bn_|apply bd_)|exact HB.out)) hb);have n1_:=mk_ (hbox);have n2_:=mk_ ((by rw [hg];exact (bz_ (by repeat (first|(with_reducible first|exact HB.out|apply ba_|apply bn_|apply bd_)|exact HB.out))) : w.heap.size ≤ gb145));have n3_:=mk_ ((by rw [hg];exact (bz_ (by repeat (first|(with_reducible first|exact HB.out|apply ba_|apply bn_|apply bd_)|exact HB.out))) : w.heap.size ≤ gb145));clear HB;have HB:=n0_;have BK145:=n1_;have GW145:=n2_;have GE145:=n3_;clear n0_ n1_ n2_ n3_;clear hb hbox hg;have hcz33_0 : w32.cell? ⟨gb145,0,none⟩ = some (.int .i64 0):=(bc_ BK145.out 0).trans rfl;have hcz33_1 : w32.cell? ⟨gb145,1,none⟩ = some (.int .i64 0):=(bc_ BK145.out 1).trans rfl;have hcz33_2 : w32.cell? ⟨gb145,2,none⟩ = some (.int .i64 0):=(bc_ BK145.out 2).trans rfl;have hfz33_0:=bf_ BK145.out 0;have hfz33_1:=bf_ BK145.out 1;have hfz33_2:=bf_ BK145.out 2)|(go_at_call 82;(with_reducible refine (impl_Cable_other.calls ((rd_T51 l0 x16_1).f0) ((rd_T51 l0 x16_1).f1) ((rd_T51 l0 x16_1).f2) a2 t146 false _ A7.out).mono ?_);rintro e w34 ⟨rfl,hb⟩;have n0_:=mk_ (blk_below (g:=gb145) (o:=.cells #[.int .i64 ((rd_T51 l0 x16_1).f0),.int .i64 ((rd_T51 l0 x16_1).f1),.int .i64 ((rd_T51 l0 x16_1).f2)] 51 (0,0)) (by (with_reducible repeat (first|refine kn_ ?_ _|refine kd_ ?_|refine ka_ ?_ _));refine blk_put (cs:=#[.int .i64 ((rd_T51 l0 x16_1).f0),.int .i64 ((rd_T51 l0 x16_1).f1),.int .i64 0]) ?_ 2 _ rfl;(with_reducible repeat (first|refine kn_ ?_ _|refine kd_ ?_|refine ka_ ?_ _));refine blk_put (cs:=#[.int .i64 ((rd_T51 l0 x16_1).f0),.int .i64 0,.int .i64 0]) ?_ 1 _ rfl;(with_reducible repeat (first|refine kn_ ?_ _|refine kd_ ?_|refine ka_ ?_ _));refine blk_put (cs:=#[.int .i64 0,.int .i64 0,.int .i64 0]) ?_ 0 _ rfl;(with_reducible repeat (first|refine kn_ ?_ _|refine kd_ ?_|refine ka_ ?_ _));exact BK145.out) hb);have n1_:=mk_ (st_ (by repeat (first|(with_reducible first|exact HB.out|apply ba_|apply bn_|apply bd_|refine bs_ ?_ GE145.out)|exact HB.out)) hb);clear BK145;clear HB;have BK145:=n0_;have HB:=n1_;clear n0_ n1_;(try clear hb);(try clear hb2);(try clear hk);(try clear hi)));try go_wp2_with (first|((with_reducible refine gate_dst (N:=11) rfl ?_);refine box_event ?hg (N:=11) ?hd (cs:=#[.int .i64 0,.int .i64 0,.int .i64 0]) (t:=51) ?hr ?_;(case hd => rfl);(case hg => rfl);(case hr => first|(go_simp;done)|(go_simp;rfl));intro gb145 hg w32 hbox hb;have n0_:=mk_ (st_ (by repeat (first|(with_reducible first|exact HB.out|apply ba_|apply bn_|apply bd_)|exact HB.out)) hb);have n1_:=mk_ (hbox);have n2_:=mk_ ((by rw [hg];exact (bz_ (by repeat (first|(with_reducible first|exact HB.out|apply ba_|apply bn_|apply bd_)|exact HB.out))) : w.heap.size ≤ gb145));have n3_:=mk_ ((by rw [hg];exact (bz_ (by repeat (first|(with_reducible first|exact HB.out|apply ba_|apply bn_|apply bd_)|exact HB.out))) : w.heap.size ≤ gb145));clear HB;have HB:=n0_;have BK145:=n1_;have GW145:=n2_;have GE145:=n3_;clear n0_ n1_ n2_ n3_;clear hb hbox hg;have hcz33_0 : w32.cell? ⟨gb145,0,none⟩ = some (.int .i64 0):=(bc_ BK145.out 0).trans rfl;have hcz33_1 : w32.cell? ⟨gb145,1,none⟩ = some (.int .i64 0):=(bc_ BK145.out 1).trans rfl;have hcz33_2 : w32.cell? ⟨gb145,2,none⟩ = some (.int .i64 0):=(bc_ BK145.out 2).trans rfl;have hfz33_0:=bf_ BK145.out 0;have hfz33_1:=bf_ BK145.out 1;have hfz33_2:=bf_ BK145.out 2)|(go_at_call 82;(with_reducible refine (impl_Cable_other.calls ((rd_T51 l0 x16_1).f0) ((rd_T51 l0 x16_1).f1) ((rd_T51 l0 x16_1).f2) a2 t146 false _ A7.out).mono ?_);rintro e w34 ⟨rfl,hb⟩;have n0_:=mk_ (blk_below (g:=gb145) (o:=.cells #[.int .i64 ((rd_T51 l0 x16_1).f0),.int .i64 ((rd_T51 l0 x16_1).f1),.int .i64 ((rd_T51 l0 x16_1).f2)] 51 (0,0)) (by (with_reducible repeat (first|refine kn_ ?_ _|refine kd_ ?_|refine ka_ ?_ _));refine blk_put (cs:=#[.int .i64 ((rd_T51 l0 x16_1).f0),.int .i64 ((rd_T51 l0 x16_1).f1),.int .i64 0]) ?_ 2 _ rfl;(with_reducible repeat (first|refine kn_ ?_ _|refine kd_ ?_|refine ka_ ?_ _));refine blk_put (cs:=#[.int .i64 ((rd_T51 l0 x16_1).f0),.int .i64 0,.int .i64 0]) ?_ 1 _ rfl;(with_reducible repeat (first|refine kn_ ?_ _|refine kd_ ?_|refine ka_ ?_ _));refine blk_put (cs:=#[.int .i64 0,.int .i64 0,.int .i64 0]) ?_ 0 _ rfl;(with_reducible repeat (first|refine kn_ ?_ _|refine kd_ ?_|refine ka_ ?_ _));exact BK145.out) hb);have n1_:=mk_ (st_ (by repeat (first|(with_reducible first|exact HB.out|apply ba_|apply bn_|apply bd_|refine bs_ ?_ GE145.out)|exact HB.out)) hb);clear BK145;clear HB;have BK145:=n0_;have HB:=n1_;clear n0_ n1_;(try clear hb);(try clear hb2);(try clear hk);(try clear hi))))
       go_roundg k1
       case measure => have:=HK1.out;omega
       case rel => exact ⟨(x8_1),(x9_1),(wrap64 (x16_1 + 1)),(by first|rfl|(simp;done)|(simp [*];done)),(by first|rfl|(simp;done)|(simp [*];done)),(by first|rfl|(simp;done)|(simp [*];done)),H',⟨by have:=HK1.out;omega⟩,⟨by repeat (first|(with_reducible first|exact HB.out|apply ba_|apply bn_|apply bd_|refine bs_ ?_ GE145.out)|exact HB.out)⟩⟩
     ·rw [if_neg c6] at H
      exact absurd H (by simp)
    ·rw [if_neg c5] at H
     exact absurd H (by simp)
   ·rw [if_neg c4] at H
    have c4b0 : decide (x16_1 < (l0.length : Int)) = false:=decide_eq_false c4
    clear c4
    simp only [Option.some.injEq,Prod.mk.injEq] at H
    obtain ⟨rfl,rfl⟩:=H
    go_wp2
    repeat (go_quiet (fail);try go_wp2)
    go_ret2
    exact ⟨by first|rfl|(simp [errW_none,errW_some] <;> rfl)|(simp [*,errW_none,errW_some] <;> rfl),by repeat (first|(with_reducible first|exact HB.out|apply ba_|apply bn_|apply bd_)|exact HB.out)⟩

/-! ### cmp_isNaN_int: function 112 -/
def cmp_isNaN_int.f (a0 : Int) : Option (Bool):=some (a0 != a0)
set_option maxHeartbeats 8000000 in
set_option maxRecDepth 100000 in
theorem cmp_isNaN_int.calls (a0 : Int) (r : Bool) (w : World) (h : cmp_isNaN_int.f a0 = some r) :
  Calls Try.prog 112 #[.int .i64 a0] w fun e w' => e = .returned (.bool r) ∧ Drawn0 w w':=by
 have H : (some (a0 != a0)) = some r:=h
 clear h
 obtain rfl:=Option.some.inj H
 go_enter Try.func112,Try.ntmps112
 go_wp2
 go_ret
 exact ⟨by first|rfl|(simp;done)|(simp [*];done),by repeat (first|exact Drawn0.refl _|apply Drawn0.step)⟩

/-! ### cmp_Less_int: function 99 -/
def cmp_Less_int.f (a0 : Int) (a1 : Int) : Option (Bool):=(cmp_isNaN_int.f a0).bind fun t150 => (if t150 = true then ((cmp_isNaN_int.f a1).bind fun t151 => (if t151 = true then (some (decide (a0 < a1))) else (some true))) else (some (decide (a0 < a1))))
set_option maxHeartbeats 8000000 in
set_option maxRecDepth 100000 in
theorem cmp_Less_int.calls (a0 : Int) (a1 : Int) (r : Bool) (w : World) (h : cmp_Less_int.f a0 a1 = some r) :
  Calls Try.prog 99 #[.int .i64 a0,.int .i64 a1] w fun e w' => e = .returned (.bool r) ∧ Drawn0 w w':=by
 have H : ((cmp_isNaN_int.f a0).bind fun t150 => (if t150 = true then ((cmp_isNaN_int.f a1).bind fun t151 => (if t151 = true then (some (decide (a0 < a1))) else (some true))) else (some (decide (a0 < a1))))) = some r:=h
 clear h
 replace H:=Option.bind_eq_some_iff.mp H
 obtain ⟨t150,A30,H⟩:=H
 replace H : (if t150 = true then ((cmp_isNaN_int.f a1).bind fun t151 => (if t151 = true then (some (decide (a0 < a1))) else (some true))) else (some (decide (a0 < a1)))) = some r:=H
 have A3:=mk_ A30
 clear A30
 by_cases c4 : t150 = true
 ·subst c4
  have H1 : ((cmp_isNaN_int.f a1).bind fun t151 => (if t151 = true then (some (decide (a0 < a1))) else (some true))) = some r:=by rw [if_pos rfl] at H;exact H
  clear H
  have H:=H1
  clear H1
  replace H:=Option.bind_eq_some_iff.mp H
  obtain ⟨t151,A50,H⟩:=H
  replace H : (if t151 = true then (some (decide (a0 < a1))) else (some true)) = some r:=H
  have A5:=mk_ A50
  clear A50
  by_cases c6 : t151 = true
  ·subst c6
   have H1 : (some (decide (a0 < a1))) = some r:=by rw [if_pos rfl] at H;exact H
   clear H
   have H:=H1
   clear H1
   obtain rfl:=Option.some.inj H
   go_enter Try.func99,Try.ntmps99
   go_wp2_with (first|((with_reducible refine gate_callee (f:=112) rfl ?_);refine goesL_ (some 6) rfl rfl Try.func112 (by kernel_rfl) rfl #[.int .i64 a0] rfl (by (try simp only [List.map_toArray,List.map_cons,List.map_nil]);first|done|rfl|(simp only [List.length_drop,List.length_take];rfl)) ?_;(with_reducible refine (cmp_isNaN_int.calls a0 true _ A3.out).mono ?_);rintro e w' ⟨rfl,⟨nd,rfl⟩⟩;refine ⟨_,rfl,?_⟩)|(go_at_call 112;(with_reducible refine (cmp_isNaN_int.calls a1 true _ A5.out).mono ?_);rintro e w' ⟨rfl,⟨nd,rfl⟩⟩))
   go_ret
   exact ⟨by first|rfl|(simp;done)|(simp [*];done),by repeat (first|exact Drawn0.refl _|apply Drawn0.step)⟩
  ·replace c6:=Bool.eq_false_iff.mpr c6
   subst c6
   have H1 : (some true) = some r:=by rw [if_neg (show ¬ (false = true) by decide)] at H;exact H
   clear H
   have H:=H1
   clear H1
   obtain rfl:=Option.some.inj H
   go_enter Try.func99,Try.ntmps99
   go_wp2_with (first|((with_reducible refine gate_callee (f:=112) rfl ?_);refine goesL_ (some 6) rfl rfl Try.func112 (by kernel_rfl) rfl #[.int .i64 a0] rfl (by (try simp only [List.map_toArray,List.map_cons,List.map_nil]);first|done|rfl|(simp only [List.length_drop,List.length_take];rfl)) ?_;(with_reducible refine (cmp_isNaN_int.calls a0 true _ A3.out).mono ?_);rintro e w' ⟨rfl,⟨nd,rfl⟩⟩;refine ⟨_,rfl,?_⟩)|(go_at_call 112;(with_reducible refine (cmp_isNaN_int.calls a1 false _ A5.out).mono ?_);rintro e w' ⟨rfl,⟨nd,rfl⟩⟩))
   go_ret
   exact ⟨by first|rfl|(simp;done)|(simp [*];done),by repeat (first|exact Drawn0.refl _|apply Drawn0.step)⟩
 ·replace c4:=Bool.eq_false_iff.mpr c4
  subst c4
  have H1 : (some (decide (a0 < a1))) = some r:=by rw [if_neg (show ¬ (false = true) by decide)] at H;exact H
  clear H
  have H:=H1
  clear H1
  obtain rfl:=Option.some.inj H
  go_enter Try.func99,Try.ntmps99
  go_wp2_with (first|((with_reducible refine gate_callee (f:=112) rfl ?_);refine goesL_ (some 6) rfl rfl Try.func112 (by kernel_rfl) rfl #[.int .i64 a0] rfl (by (try simp only [List.map_toArray,List.map_cons,List.map_nil]);first|done|rfl|(simp only [List.length_drop,List.length_take];rfl)) ?_;(with_reducible refine (cmp_isNaN_int.calls a0 false _ A3.out).mono ?_);rintro e w' ⟨rfl,⟨nd,rfl⟩⟩;refine ⟨_,rfl,?_⟩))
  go_ret
  exact ⟨by first|rfl|(simp;done)|(simp [*];done),by repeat (first|exact Drawn0.refl _|apply Drawn0.step)⟩

/-! ### slices_insertionSortOrdered_int: function 93 -/
mutual
def slices_insertionSortOrdered_int.l0 : Nat → List Int → Int → Int → Int → Option (List Int)
 | 0,_,_,_,_ => none
 | k + 1,x0,x1,x2,x6 => if x6 < x2 then (slices_insertionSortOrdered_int.l1 k x0 x1 x2 x6 x6) else (some x0)
def slices_insertionSortOrdered_int.l1 : Nat → List Int → Int → Int → Int → Int → Option (List Int)
 | 0,_,_,_,_,_ => none
 | k + 1,x0,x1,x2,x6,x7 => if x7 > x1 then (if 0 ≤ x7 then (if x7 < (x0.length : Int) then (if 0 ≤ (wrap64 (x7 - 1)) then (if (wrap64 (x7 - 1)) < (x0.length : Int) then ((cmp_Less_int.f (rd x0 x7) (rd x0 (wrap64 (x7 - 1)))).bind fun t154 => (if t154 = true then (slices_insertionSortOrdered_int.l1 k ((x0.set (x7 : Int).toNat (rd x0 (wrap64 (x7 - 1)))).set ((wrap64 (x7 - 1)) : Int).toNat (rd x0 x7)) x1 x2 x6 (wrap64 (x7 - 1))) else (slices_insertionSortOrdered_int.l0 k x0 x1 x2 (wrap64 (x6 + 1))))) else (none)) else (none)) else (none)) else (none)) else (slices_insertionSortOrdered_int.l0 k x0 x1 x2 (wrap64 (x6 + 1)))
end
def slices_insertionSortOrdered_int.f (k : Nat) (l0 : List Int) (a1 : Int) (a2 : Int) : Option (List Int):=slices_insertionSortOrdered_int.l0 k l0 a1 a2 (wrap64 (a1 + 1))
theorem slices_insertionSortOrdered_int.mono_l : ∀ k,(∀ y0 y1 y2 y3,LeO (slices_insertionSortOrdered_int.l0 k y0 y1 y2 y3) (slices_insertionSortOrdered_int.l0 (k + 1) y0 y1 y2 y3)) ∧ (∀ y0 y1 y2 y3 y4,LeO (slices_insertionSortOrdered_int.l1 k y0 y1 y2 y3 y4) (slices_insertionSortOrdered_int.l1 (k + 1) y0 y1 y2 y3 y4))
 | 0 => ⟨fun _ _ _ _ r h => by simp [slices_insertionSortOrdered_int.l0] at h,fun _ _ _ _ _ r h => by simp [slices_insertionSortOrdered_int.l1] at h⟩
 | k + 1 => by
  obtain ⟨ih0,ih1⟩:=slices_insertionSortOrdered_int.mono_l k
  refine ⟨?_,?_⟩
  ·intro y0 y1 y2 y3
   unfold slices_insertionSortOrdered_int.l0
   repeat' first
   | (with_reducible exact ih0 _ _ _ _)
   | (with_reducible exact ih1 _ _ _ _ _)
   | (with_reducible exact LeO.refl _)
   | (with_reducible exact LeO.none _)
   | (with_reducible refine LeO.ite ?_ ?_)
   | (with_reducible refine LeO.bind ?_ (fun _ => ?_))
   | exact ih0 _ _ _ _
   | exact ih1 _ _ _ _ _
   | exact LeO.none _
   | refine LeO.ite ?_ ?_
   | refine LeO.bind ?_ (fun _ => ?_)
  ·intro y0 y1 y2 y3 y4
   unfold slices_insertionSortOrdered_int.l1
   repeat' first
   | (with_reducible exact ih0 _ _ _ _)
   | (with_reducible exact ih1 _ _ _ _ _)
   | (with_reducible exact LeO.refl _)
   | (with_reducible exact LeO.none _)
   | (with_reducible refine LeO.ite ?_ ?_)
   | (with_reducible refine LeO.bind ?_ (fun _ => ?_))
   | exact ih0 _ _ _ _
   | exact ih1 _ _ _ _ _
   | exact LeO.none _
   | refine LeO.ite ?_ ?_
   | refine LeO.bind ?_ (fun _ => ?_)
theorem slices_insertionSortOrdered_int.mono : ∀ a0 a1 a2 k,LeO (slices_insertionSortOrdered_int.f k a0 a1 a2) (slices_insertionSortOrdered_int.f (k + 1) a0 a1 a2):=by
 intro a0 a1 a2 k
 obtain ⟨ih0,ih1⟩:=slices_insertionSortOrdered_int.mono_l k
 unfold slices_insertionSortOrdered_int.f
 repeat' first
   | (with_reducible exact ih0 _ _ _ _)
   | (with_reducible exact ih1 _ _ _ _ _)
   | (with_reducible exact LeO.refl _)
   | (with_reducible exact LeO.none _)
   | (with_reducible refine LeO.ite ?_ ?_)
   | (with_reducible refine LeO.bind ?_ (fun _ => ?_))
   | exact ih0 _ _ _ _
   | exact ih1 _ _ _ _ _
   | exact LeO.none _
   | refine LeO.ite ?_ ?_
   | refine LeO.bind ?_ (fun _ => ?_)
def slices_insertionSortOrdered_int.T4 : Bool × List (List Nat × List Nat):=(true,[([],[]),([],[]),([0,1],[0,1]),([2],[2]),([3],[3]),([3],[3]),([4,5,3],[3,4,5]),([6,3],[3,6]),([3],[3]),([3],[3]),([9,3],[3,9]),([8,10,3],[3,8,10]),([11,3],[3,11]),([7,12,3,3],[3,7,12]),([3,13],[3,13])])
def slices_insertionSortOrdered_int.B4 : List Nat:=[0,0,3,7,15,15,63,127,15,15,527,1807,3855,8191,16383]
theorem slices_insertionSortOrdered_int.tab4 : rtab .any (opsOf Try.f93 4) = slices_insertionSortOrdered_int.T4:=by kernel_rfl
theorem slices_insertionSortOrdered_int.bits4 : waitsOk slices_insertionSortOrdered_int.T4.2 slices_insertionSortOrdered_int.B4 = true:=by kernel_rfl
def slices_insertionSortOrdered_int.T6 : Bool × List (List Nat × List Nat):=(true,[([],[]),([],[]),([],[]),([],[]),([3],[3]),([],[]),([],[]),([6],[6]),([5,7],[5,7]),([8],[8]),([],[]),([],[]),([10,11],[10,11]),([12],[12]),([0,1,0,1,5,6,7,8,9,13],[0,1]),([14,9,0,1,5,6,7,8,9,13],[9,14]),([2,4,0,1,2,3,4,5,6,7,8,9,10,11,12,13,14,15],[2,4]),([16,13,15,0,1,2,3,4,5,6,7,8,9,10,11,12,13,14,15],[13,16])])
def slices_insertionSortOrdered_int.B6 : List Nat:=[0,0,0,0,8,0,0,64,224,480,0,0,3072,7168,16355,32739,65535,131071]
theorem slices_insertionSortOrdered_int.tab6 : rtab .any (opsOf Try.f93 6) = slices_insertionSortOrdered_int.T6:=by kernel_rfl
theorem slices_insertionSortOrdered_int.bits6 : waitsOk slices_insertionSortOrdered_int.T6.2 slices_insertionSortOrdered_int.B6 = true:=by kernel_rfl
set_option maxHeartbeats 8000000 in
set_option maxRecDepth 100000 in
theorem slices_insertionSortOrdered_int.calls (k : Nat) (P0_ : Nat → Prop) (u9000_ : Value) (l0 : List Int) (a1 : Int) (a2 : Int) (r : List Int) (w0 w : World) (hB : Below w0.heap.size w0 w) (ho0 : Kd.R (Kd.int .i64) 3 w w0.heap.size P0_ u9000_ l0) (h : slices_insertionSortOrdered_int.f k l0 a1 a2 = some r) :
  Calls Try.prog 93 #[u9000_,.int .i64 a1,.int .i64 a2] w fun e w' => e = .returned (.tuple #[]) ∧ Kd.R (Kd.int .i64) 3 w' w0.heap.size (fun k_ => (P0_ k_ ∨ w.heap.size ≤ k_)) u9000_ r ∧ Below w0.heap.size w0 w' ∧ Kept w w' (fun k_ => P0_ k_):=by
 have HO0:=mk_ (show Kd.R (Kd.int .i64) 3 w w0.heap.size (fun k_ => (P0_ k_ ∨ w.heap.size ≤ k_)) u9000_ l0 from rm_ ho0 (fun k_ hk => (.inl hk)))
 have HK:=mk_ (Kept.refl w (fun k_ => P0_ k_))
 have HW0:=mk_ hB.size
 have HB:=mk_ hB
 clear hB
 have H : (slices_insertionSortOrdered_int.l0 k l0 a1 a2 (wrap64 (a1 + 1))) = some r:=h
 clear h
 have H':=mk_ H
 clear H
 go_enter Try.func93,Try.ntmps93
 go_wp2
 go_loopg [6] k (fun kq v6 w' => ∃ (x0_1 : List Int) (x6_1 : Int),v6 = .int .i64 x6_1 ∧ Aside0 (slices_insertionSortOrdered_int.l0 kq x0_1 a1 a2 x6_1 = some r) ∧ Aside0 (kq ≤ k) ∧ Aside0 (Kd.R (Kd.int .i64) 3 w' w0.heap.size (fun k_ => (P0_ k_ ∨ w.heap.size ≤ k_)) u9000_ x0_1) ∧ Aside0 (Kept w w' (fun k_ => P0_ k_)) ∧ Aside0 (Below w0.heap.size w0 w'))
 case atStart => exact ⟨(l0),(wrap64 (a1 + 1)),(by first|rfl|(simp;done)|(simp [*];done)),H',⟨Nat.le_refl _⟩,⟨by (with_reducible repeat (first|apply ra_|apply rn_|apply rd_));exact HO0.out⟩,⟨by repeat (first|(with_reducible first|exact HK.out|apply Kept.alloc|apply Kept.drewN|apply Kept.drew)|exact HK.out)⟩,⟨by repeat (first|(with_reducible first|exact HB.out|apply ba_|apply bn_|apply bd_)|exact HB.out)⟩⟩
 case round =>
  clear H'
  try clear p2
  obtain ⟨x0_1,x6_1,rfl,HA,HK1,HO_0,HK,HB⟩:=hrel
  cases gk with
  | zero => exact absurd HA.out (by simp [slices_insertionSortOrdered_int.l0])
  | succ k1 =>
   have H:=HA.out
   clear HA
   simp only [slices_insertionSortOrdered_int.l0] at H
   by_cases c4 : x6_1 < a2
   ·rw [if_pos c4] at H
    have c4b0 : decide (x6_1 < a2) = true:=decide_eq_true c4
    clear c4
    have H':=mk_ H
    clear H
    go_wp2
    go_loopg [7] k1 (fun kq v7 w' => ∃ (x0_2 : List Int) (x7_2 : Int),v7 = .int .i64 x7_2 ∧ Aside0 (slices_insertionSortOrdered_int.l1 kq x0_2 a1 a2 x6_1 x7_2 = some r) ∧ Aside0 (kq ≤ k1) ∧ Aside0 (Kd.R (Kd.int .i64) 3 w' w0.heap.size (fun k_ => (P0_ k_ ∨ w.heap.size ≤ k_)) u9000_ x0_2) ∧ Aside0 (Kept w w' (fun k_ => P0_ k_)) ∧ Aside0 (Below w0.heap.size w0 w'))
    case atStart => exact ⟨(x0_1),(x6_1),(by first|rfl|(simp;done)|(simp [*];done)),H',⟨Nat.le_refl _⟩,⟨by (with_reducible repeat (first|apply ra_|apply rn_|apply rd_));exact HO_0.out⟩,⟨by repeat (first|(with_reducible first|exact HK.out|apply Kept.alloc|apply Kept.drewN|apply Kept.drew)|exact HK.out)⟩,⟨by repeat (first|(with_reducible first|exact HB.out|apply ba_|apply bn_|apply bd_)|exact HB.out)⟩⟩
    case round =>
     clear H'
     try clear p2
     try clear c4
     try clear c4b0
     try clear p2
     obtain ⟨x0_2,x7_2,rfl,HA,HK2,HO_0,HK,HB⟩:=hrel
     cases gk with
     | zero => exact absurd HA.out (by simp [slices_insertionSortOrdered_int.l1])
     | succ k2 =>
      have H:=HA.out
      clear HA
      simp only [slices_insertionSortOrdered_int.l1] at H
      by_cases c5 : x7_2 > a1
      ·rw [if_pos c5] at H
       have c5b0 : decide (a1 < x7_2) = true:=decide_eq_true c5
       clear c5
       by_cases c6 : 0 ≤ x7_2
       ·rw [if_pos c6] at H
        have c6b0 : decide (0 ≤ x7_2) = true:=decide_eq_true c6
        clear c6
        by_cases c7 : x7_2 < (x0_2.length : Int)
        ·rw [if_pos c7] at H
         have c7b0 : decide (x7_2 < (x0_2.length : Int)) = true:=decide_eq_true c7
         clear c7
         obtain ⟨ji8,hji8⟩ : ∃ j_ : Int,(wrap64 (x7_2 - 1)) = j_:=⟨_,rfl⟩
         replace H : (if 0 ≤ (ji8) then (if (ji8) < (x0_2.length : Int) then ((cmp_Less_int.f (rd x0_2 x7_2) (rd x0_2 (ji8))).bind fun t154 => (if t154 = true then (slices_insertionSortOrdered_int.l1 k2 ((x0_2.set (x7_2 : Int).toNat (rd x0_2 (ji8))).set ((ji8) : Int).toNat (rd x0_2 x7_2)) a1 a2 x6_1 ji8) else (slices_insertionSortOrdered_int.l0 k2 x0_2 a1 a2 (wrap64 (x6_1 + 1))))) else (none)) else (none)) = some r:=by first|(rw [hji8] at H;exact H)|(simp only [hji8] at H ⊢;exact H)
         have hji8w : (IntKind.i64.wrap (x7_2 - 1)) = ji8:=(i64_w _).trans hji8
         by_cases c9 : 0 ≤ (ji8)
         ·rw [if_pos c9] at H
          have c9b0 : decide (0 ≤ (ji8)) = true:=decide_eq_true c9
          clear c9
          by_cases c10 : (ji8) < (x0_2.length : Int)
          ·rw [if_pos c10] at H
           have c10b0 : decide ((ji8) < (x0_2.length : Int)) = true:=decide_eq_true c10
           clear c10
           replace H:=Option.bind_eq_some_iff.mp H
           obtain ⟨t154,A110,H⟩:=H
           replace H : (if t154 = true then (slices_insertionSortOrdered_int.l1 k2 ((x0_2.set (x7_2 : Int).toNat (rd x0_2 (ji8))).set ((ji8) : Int).toNat (rd x0_2 x7_2)) a1 a2 x6_1 ji8) else (slices_insertionSortOrdered_int.l0 k2 x0_2 a1 a2 (wrap64 (x6_1 + 1)))) = some r:=H
           have A11:=mk_ A110
           clear A110
           by_cases c12 : t154 = true
           ·subst c12
            have H1 : (slices_insertionSortOrdered_int.l1 k2 ((x0_2.set (x7_2 : Int).toNat (rd x0_2 (ji8))).set ((ji8) : Int).toNat (rd x0_2 x7_2)) a1 a2 x6_1 ji8) = some r:=by rw [if_pos rfl] at H;exact H
            clear H
            have H:=H1
            clear H1
            obtain ⟨y157,hy157⟩ : ∃ y_ : List Int,y_ = (x0_2.set (x7_2 : Int).toNat (rd x0_2 (ji8))):=⟨_,rfl⟩
            replace H : (slices_insertionSortOrdered_int.l1 k2 (y157.set ((ji8) : Int).toNat (rd x0_2 x7_2)) a1 a2 x6_1 ji8) = some r:=by first|(rw [hy157];with_reducible exact H)|(have H2_:=(Option.bind_some _ _).symm.trans H;rw [hy157];with_reducible exact H2_)|(have H2_:=(Option.bind_some _ _).symm.trans H;with_reducible exact H2_)|with_reducible exact H|(rw [hy157];exact H)|exact H
            have Ny157:=mk_ hy157
            clear hy157
            obtain ⟨y158,hy158⟩ : ∃ y_ : List Int,y_ = (y157.set ((ji8) : Int).toNat (rd x0_2 x7_2)):=⟨_,rfl⟩
            replace H : (slices_insertionSortOrdered_int.l1 k2 y158 a1 a2 x6_1 ji8) = some r:=by first|(rw [hy158];with_reducible exact H)|(have H2_:=(Option.bind_some _ _).symm.trans H;rw [hy158];with_reducible exact H2_)|(have H2_:=(Option.bind_some _ _).symm.trans H;with_reducible exact H2_)|with_reducible exact H|(rw [hy158];exact H)|exact H
            have Ny158:=mk_ hy158
            clear hy158
            have H':=mk_ H
            clear H
            try go_wp2
            have n0_:=mk_ (rd_ HO_0.out)
            have n1_:=mk_ (Kept.drew HK.out)
            have n2_:=mk_ (bd_ HB.out)
            clear HO_0
            clear HK
            clear HB
            have HO_0:=n0_
            have HK:=n1_
            have HB:=n2_
            clear n0_ n1_ n2_
            obtain ⟨Ao16,co16,eo16⟩:=Kd.R_slice HO_0.out
            (first|subst eo16|(injection eo16 with f1_ f2_ f3_;have f4_:=f1_.symm;have f5_:=f3_.symm;clear f1_ f2_ f3_;subst f4_;subst f5_))
            have p152 : 0 ≤ (x7_2 : Int):=od_ (by first|(with_reducible assumption)|assumption)
            have q152 : x7_2 < (x0_2.length : Int):=od_ (by first|(with_reducible assumption)|assumption)
            obtain ⟨ad152,e152,hx152_0⟩:=Kd.at_int (rr_ HO_0.out).2.2 x7_2 p152 q152
            cases e152
            replace p152:=eq_true p152
            replace q152:=eq_true q152
            have p153 : 0 ≤ ((ji8) : Int):=od_ (by first|(with_reducible assumption)|assumption)
            have q153 : (ji8) < (x0_2.length : Int):=od_ (by first|(with_reducible assumption)|assumption)
            obtain ⟨ad153,e153,hx153_0⟩:=Kd.at_int (rr_ HO_0.out).2.2 (ji8) p153 q153
            obtain rfl : ad152 = ad153:=(by injection e153)
            replace p153:=eq_true p153
            replace q153:=eq_true q153
            refine start_ (n:=15) (S:=fun w' => w'.cell? (ad152.add (x7_2).toNat) = some (.int .i64 (rd x0_2 x7_2)) ∧ w'.cell? (ad152.add ((ji8)).toNat) = some (.int .i64 (rd x0_2 (ji8)))) (ds:=[]) #[false,false,false,false,false,false,false,false,false,false,false,false,false,false,false] (by kernel_rfl) rfl rfl ⟨hx152_0,hx153_0⟩ (fun hHeld => ?_);refine with_tabW slices_insertionSortOrdered_int.tab4 slices_insertionSortOrdered_int.bits4 (fun HT_ HW_ => ?_)
            generalize wr.drew = w15 at HO_0 HK HB hx152_0 hx153_0 hHeld ⊢
            refine pure_ (i:=0) (N:=some 16) (v:=?_) (a':=?_) #[true,false,false,false,false,false,false,false,false,false,false,false,false,false,false] rfl rfl (any_of HT_.out (by kernel_rfl)) (fun _ _ _ h => h) (Or.inl ⟨by rfl,?_⟩) ?_ ?_
            rotate_left
            ·intro w'
             go_simp
             with_reducible rfl
            rotate_left
            ·simp only [Act.put,List.setIfInBounds_toArray,List.set_cons_zero,List.set_cons_succ,i64_w,i32_w]
             rfl
            refine pure_ (i:=1) (N:=some 17) (v:=?_) (a':=?_) #[true,true,false,false,false,false,false,false,false,false,false,false,false,false,false] rfl rfl (any_of HT_.out (by kernel_rfl)) (fun _ _ _ h => h) (Or.inl ⟨by rfl,?_⟩) ?_ ?_
            rotate_left
            ·intro w'
             go_simp
             with_reducible rfl
            rotate_left
            ·simp only [Act.put,List.setIfInBounds_toArray,List.set_cons_zero,List.set_cons_succ,i64_w,i32_w]
             rfl
            refine pure_ (i:=2) (N:=some 18) (v:=?_) (a':=?_) #[true,true,true,false,false,false,false,false,false,false,false,false,false,false,false] rfl rfl (any_of HT_.out (by kernel_rfl)) (fun _ _ _ h => h) (Or.inl ⟨by rfl,?_⟩) ?_ ?_
            rotate_left
            ·intro w'
             go_simp
             with_reducible rfl
            rotate_left
            ·simp only [Act.put,List.setIfInBounds_toArray,List.set_cons_zero,List.set_cons_succ,i64_w,i32_w]
             rfl
            refine pure_ (i:=3) (N:=some 19) (v:=?_) (a':=?_) #[true,true,true,true,false,false,false,false,false,false,false,false,false,false,false] rfl rfl (any_of HT_.out (by kernel_rfl)) (fun _ _ _ h => h) (Or.inl ⟨by rfl,?_⟩) ?_ ?_
            rotate_left
            ·intro w'
             go_simp
             with_reducible rfl
            rotate_left
            ·simp only [Act.put,List.setIfInBounds_toArray,List.set_cons_zero,List.set_cons_succ,i64_w,i32_w]
             rfl
            refine pure_ (i:=4) (N:=some 20) (v:=?_) (a':=?_) #[true,true,true,true,true,false,false,false,false,false,false,false,false,false,false] rfl rfl (any_of HT_.out (by kernel_rfl)) (fun _ _ _ h => h) (Or.inl ⟨by rfl,?_⟩) ?_ ?_
            rotate_left
            ·intro w'
             go_simp
             with_reducible rfl
            rotate_left
            ·simp only [Act.put,List.setIfInBounds_toArray,List.set_cons_zero,List.set_cons_succ,i64_w,i32_w]
             rfl
            refine pure_ (i:=5) (N:=some 21) (v:=?_) (a':=?_) #[true,true,true,true,true,true,false,false,false,false,false,false,false,false,false] rfl rfl (any_of HT_.out (by kernel_rfl)) (fun _ _ _ h => h) (Or.inl ⟨by rfl,?_⟩) ?_ ?_
            rotate_left
            ·intro w'
             go_simp
             with_reducible rfl
            rotate_left
            ·simp only [Act.put,List.setIfInBounds_toArray,List.set_cons_zero,List.set_cons_succ,i64_w,i32_w]
             rfl
            refine pure_ (i:=6) (N:=some 22) (v:=?_) (a':=?_) #[true,true,true,true,true,true,true,false,false,false,false,false,false,false,false] rfl rfl (any_of HT_.out (by kernel_rfl)) (fun _ _ _ h => h) (Or.inl ⟨by rfl,?_⟩) ?_ ?_
            rotate_left
            ·intro w'
             go_simp
             with_reducible rfl
            rotate_left
            ·simp only [Act.put,List.setIfInBounds_toArray,List.set_cons_zero,List.set_cons_succ,i64_w,i32_w]
             rfl
            refine pure_ (i:=8) (N:=some 24) (v:=?_) (a':=?_) #[true,true,true,true,true,true,true,false,true,false,false,false,false,false,false] rfl rfl (any_of HT_.out (by kernel_rfl)) (fun _ _ _ h => h) (Or.inl ⟨by rfl,?_⟩) ?_ ?_
            rotate_left
            ·intro w'
             go_simp
             with_reducible rfl
            rotate_left
            ·simp only [Act.put,List.setIfInBounds_toArray,List.set_cons_zero,List.set_cons_succ,i64_w,i32_w]
             rfl
            refine pure_ (i:=9) (N:=some 25) (v:=?_) (a':=?_) #[true,true,true,true,true,true,true,false,true,true,false,false,false,false,false] rfl rfl (any_of HT_.out (by kernel_rfl)) (fun _ _ _ h => h) (Or.inl ⟨by rfl,?_⟩) ?_ ?_
            rotate_left
            ·intro w'
             go_simp
             with_reducible rfl
            rotate_left
            ·simp only [Act.put,List.setIfInBounds_toArray,List.set_cons_zero,List.set_cons_succ,i64_w,i32_w]
             rfl
            refine pure_ (i:=10) (N:=some 26) (v:=?_) (a':=?_) #[true,true,true,true,true,true,true,false,true,true,true,false,false,false,false] rfl rfl (any_of HT_.out (by kernel_rfl)) (fun _ _ _ h => h) (Or.inl ⟨by rfl,?_⟩) ?_ ?_
            rotate_left
            ·intro w'
             go_simp
             with_reducible rfl
            rotate_left
            ·simp only [Act.put,List.setIfInBounds_toArray,List.set_cons_zero,List.set_cons_succ,i64_w,i32_w]
             rfl
            refine pure_ (i:=11) (N:=some 27) (v:=?_) (a':=?_) #[true,true,true,true,true,true,true,false,true,true,true,true,false,false,false] rfl rfl (any_of HT_.out (by kernel_rfl)) (fun _ _ _ h => h) (Or.inl ⟨by rfl,?_⟩) ?_ ?_
            rotate_left
            ·intro w'
             go_simp
             with_reducible rfl
            rotate_left
            ·simp only [Act.put,List.setIfInBounds_toArray,List.set_cons_zero,List.set_cons_succ,i64_w,i32_w]
             rfl
            refine take_ (i:=7) (N:=some 23) (v:=?_) (a':=?_) #[true,true,true,true,true,true,true,true,true,true,true,true,false,false,false] rfl rfl (take_ofW HT_.out HW_.out (by kernel_rfl)) (fun _ _ _ h => h) (Or.inl ⟨by rfl,?_⟩) hHeld ?_ ?_
            rotate_left
            ·rintro w' ⟨s0,s1⟩
             go_simp
             with_reducible rfl
            rotate_left
            ·simp only [Act.put,List.setIfInBounds_toArray,List.set_cons_zero,List.set_cons_succ,i64_w,i32_w]
             rfl
            refine take_ (i:=12) (N:=some 28) (v:=?_) (a':=?_) #[true,true,true,true,true,true,true,true,true,true,true,true,true,false,false] rfl rfl (take_ofW HT_.out HW_.out (by kernel_rfl)) (fun _ _ _ h => h) (Or.inl ⟨by rfl,?_⟩) hHeld ?_ ?_
            rotate_left
            ·rintro w' ⟨s0,s1⟩
             go_simp
             with_reducible rfl
            rotate_left
            ·simp only [Act.put,List.setIfInBounds_toArray,List.set_cons_zero,List.set_cons_succ,i64_w,i32_w]
             rfl
            refine one_ (i:=13) (N:=some 29) #[true,true,true,true,true,true,true,true,true,true,true,true,true,true,false] rfl rfl (one_of HT_.out (by kernel_rfl)) (by decide) (fun K hK => ?_)
            refine goes_ Try.func99 (by kernel_rfl) rfl #[.int .i64 (rd x0_2 x7_2),.int .i64 (rd x0_2 (ji8))] (by rfl) rfl rfl (by (try simp only [List.map_toArray,List.map_cons,List.map_nil]);first|done|(simp only [hji8];rfl)|rfl|(simp only [List.length_drop,List.length_take];rfl)) ?_
            with_reducible refine (cmp_Less_int.calls (rd x0_2 x7_2) (rd x0_2 (ji8)) true _ A11.out).mono ?_
            rintro e w' ⟨rfl,⟨nd,rfl⟩⟩
            refine ⟨_,rfl,?_⟩
            refine hK.out _ _ ⟨hHeld.1,hHeld.2⟩ (fun hHeld => ?_)
            clear hK K
            refine norm_ (a':=?_) ?_ ?_
            rotate_left
            ·show Act.put _ (some 29) _ = _
             simp only [Act.put,List.setIfInBounds_toArray,List.set_cons_zero,List.set_cons_succ,i64_w,i32_w]
             rfl
            refine pure_ (i:=14) (N:=some 30) (v:=?_) (a':=?_) #[true,true,true,true,true,true,true,true,true,true,true,true,true,true,true] rfl rfl (any_of HT_.out (by kernel_rfl)) (fun _ _ _ h => h) (Or.inl ⟨by rfl,?_⟩) ?_ ?_
            rotate_left
            ·intro w'
             go_simp
             with_reducible rfl
            rotate_left
            ·simp only [Act.put,List.setIfInBounds_toArray,List.set_cons_zero,List.set_cons_succ,i64_w,i32_w]
             rfl
            refine done_ (done_of HT_.out (by kernel_rfl)) ?_
            try go_wp2
            (try (rw [drewN_self w15];generalize hq_ : World.drewN w15 _ = w15;have n0_ : Aside0 (Kd.R (Kd.int .i64) 3 w15 w0.heap.size (fun k_ => (P0_ k_ ∨ w.heap.size ≤ k_)) (.slice (some ad152) x0_2.length co16) x0_2):=⟨by rw [← hq_];exact (by (with_reducible repeat (first|apply ra_|apply rn_|apply rd_));exact HO_0.out)⟩;have n1_ : Aside0 (Kept w w15 (fun k_ => P0_ k_)):=⟨by rw [← hq_];exact (by repeat (first|(with_reducible first|exact HK.out|apply Kept.alloc|apply Kept.drewN|apply Kept.drew)|exact HK.out))⟩;have n2_ : Aside0 (Below w0.heap.size w0 w15):=⟨by rw [← hq_];exact (by repeat (first|(with_reducible first|exact HB.out|apply ba_|apply bn_|apply bd_)|exact HB.out))⟩;clear HO_0 HK HB hq_;have HO_0:=n0_;have HK:=n1_;have HB:=n2_;clear n0_ n1_ n2_))
            have n0_:=mk_ (rd_ HO_0.out)
            have n1_:=mk_ (Kept.drew HK.out)
            have n2_:=mk_ (bd_ HB.out)
            clear HO_0
            clear HK
            clear HB
            have HO_0:=n0_
            have HK:=n1_
            have HB:=n2_
            clear n0_ n1_ n2_
            have p155 : 0 ≤ ((ji8) : Int):=od_ (by first|(with_reducible assumption)|assumption)
            have q155 : (ji8) < (x0_2.length : Int):=od_ (by first|(with_reducible assumption)|assumption)
            obtain ⟨ad155,e155,hx155_0⟩:=Kd.at_int (rr_ HO_0.out).2.2 (ji8) p155 q155
            obtain rfl : ad152 = ad155:=(by injection e155)
            replace p155:=eq_true p155
            replace q155:=eq_true q155
            have p156 : 0 ≤ (x7_2 : Int):=od_ (by first|(with_reducible assumption)|assumption)
            have q156 : x7_2 < (x0_2.length : Int):=od_ (by first|(with_reducible assumption)|assumption)
            obtain ⟨ad156,e156,hx156_0⟩:=Kd.at_int (rr_ HO_0.out).2.2 x7_2 p156 q156
            obtain rfl : ad152 = ad156:=(by injection e156)
            replace p156:=eq_true p156
            replace q156:=eq_true q156
            have p13 : 0 ≤ (x7_2 : Int):=od_ (by first|(with_reducible assumption)|assumption)
            have q13 : (x7_2 : Int) < ((x0_2.length : Int) : Int):=od_ (by first|(with_reducible assumption)|assumption)
            obtain ⟨go13,co13,eo13,gb13,gl13,cl13,HG13⟩:=Kd.R_form HO_0.out (by omega)
            (first|cases eo13|(injection eo13 with ea_ en_ ec_;(first|subst ea_|(injection ea_ with ea_;subst ea_));subst ec_;clear en_))
            have GB13:=mk_ gb13
            have GG13:=mk_ HG13
            clear gb13 gl13 HG13
            have HMgo13:=mk_ (show (P0_ go13 ∨ w.heap.size ≤ go13) from (HO_0.out.1 _ rfl))
            (first|simp only [add_plain] at hx152_0|skip)
            (first|simp only [add_plain] at hx153_0|skip)
            (first|simp only [add_plain] at hx155_0|skip)
            (first|simp only [add_plain] at hx156_0|skip)
            obtain ⟨hx13_0,hf13_0⟩:=Kd.R_celln 0 HO_0.out (x7_2 : Int) p13 q13
            replace p13:=eq_true p13
            replace q13:=eq_true q13
            have HP18:=Kd.R_putn HO_0.out (x7_2 : Int) (rd x0_2 (ji8))
            rw [← Ny157.out] at HP18
            have HQ18:=mk_ HP18
            clear HP18
            have p14 : 0 ≤ ((ji8) : Int):=od_ (by first|(with_reducible assumption)|assumption)
            have q14 : ((ji8) : Int) < ((x0_2.length : Int) : Int):=od_ (by first|(with_reducible assumption)|assumption)
            obtain ⟨hx14_0,hf14_0⟩:=Kd.R_celln 0 HQ18.out ((ji8) : Int) p14 q14
            replace p14:=eq_true p14
            replace q14:=eq_true q14
            have HP19:=Kd.R_putn HQ18.out ((ji8) : Int) (rd x0_2 x7_2)
            rw [← Ny158.out] at HP19
            have HQ19:=mk_ HP19
            clear HP19
            refine start_ (n:=18) (S:=fun w' => w'.cell? ⟨go13,((ji8)).toNat,none⟩ = some (.int .i64 (rd x0_2 (ji8))) ∧ w'.cell? ⟨go13,(x7_2).toNat,none⟩ = some (.int .i64 (rd x0_2 x7_2))) (ds:=[15,17]) #[false,false,false,false,false,false,false,false,false,false,false,false,false,false,false,false,false,false] (by kernel_rfl) rfl rfl ⟨hx155_0,hx156_0⟩ (fun hHeld => ?_);refine with_tabW slices_insertionSortOrdered_int.tab6 slices_insertionSortOrdered_int.bits6 (fun HT_ HW_ => ?_)
            generalize w15.drew = w17 at HO_0 HK HB GG13 HQ18 HQ19 hf13_0 hf14_0 hx13_0 hx14_0 hx152_0 hx153_0 hx155_0 hx156_0 hHeld ⊢
            refine pure_ (i:=0) (N:=some 33) (v:=?_) (a':=?_) #[true,false,false,false,false,false,false,false,false,false,false,false,false,false,false,false,false,false] rfl rfl (any_of HT_.out (by kernel_rfl)) (fun _ _ _ h => h) (Or.inl ⟨by rfl,?_⟩) ?_ ?_
            rotate_left
            ·intro w'
             go_simp
             with_reducible rfl
            rotate_left
            ·simp only [Act.put,List.setIfInBounds_toArray,List.set_cons_zero,List.set_cons_succ,i64_w,i32_w]
             rfl
            refine pure_ (i:=1) (N:=some 34) (v:=?_) (a':=?_) #[true,true,false,false,false,false,false,false,false,false,false,false,false,false,false,false,false,false] rfl rfl (any_of HT_.out (by kernel_rfl)) (fun _ _ _ h => h) (Or.inl ⟨by rfl,?_⟩) ?_ ?_
            rotate_left
            ·intro w'
             go_simp
             with_reducible rfl
            rotate_left
            ·simp only [Act.put,List.setIfInBounds_toArray,List.set_cons_zero,List.set_cons_succ,i64_w,i32_w]
             rfl
            refine pure_ (i:=2) (N:=some 35) (v:=?_) (a':=?_) #[true,true,true,false,false,false,false,false,false,false,false,false,false,false,false,false,false,false] rfl rfl (any_of HT_.out (by kernel_rfl)) (fun _ _ _ h => h) (Or.inl ⟨by rfl,?_⟩) ?_ ?_
            rotate_left
            ·intro w'
             go_simp
             with_reducible rfl
            rotate_left
            ·simp only [Act.put,List.setIfInBounds_toArray,List.set_cons_zero,List.set_cons_succ,i64_w,i32_w]
             rfl
            refine pure_ (i:=3) (N:=some 36) (v:=?_) (a':=?_) #[true,true,true,true,false,false,false,false,false,false,false,false,false,false,false,false,false,false] rfl rfl (any_of HT_.out (by kernel_rfl)) (fun _ _ _ h => h) (Or.inl ⟨by rfl,?_⟩) ?_ ?_
            rotate_left
            ·intro w'
             go_simp
             with_reducible rfl
            rotate_left
            ·simp only [Act.put,List.setIfInBounds_toArray,List.set_cons_zero,List.set_cons_succ,i64_w,i32_w]
             rfl
            refine pure_ (i:=4) (N:=some 37) (v:=?_) (a':=?_) #[true,true,true,true,true,false,false,false,false,false,false,false,false,false,false,false,false,false] rfl rfl (any_of HT_.out (by kernel_rfl)) (fun _ _ _ h => h) (Or.inl ⟨by rfl,?_⟩) ?_ ?_
            rotate_left
            ·intro w'
             go_simp
             with_reducible rfl
            rotate_left
            ·simp only [Act.put,List.setIfInBounds_toArray,List.set_cons_zero,List.set_cons_succ,i64_w,i32_w]
             rfl
            refine pure_ (i:=5) (N:=some 38) (v:=?_) (a':=?_) #[true,true,true,true,true,true,false,false,false,false,false,false,false,false,false,false,false,false] rfl rfl (any_of HT_.out (by kernel_rfl)) (fun _ _ _ h => h) (Or.inl ⟨by rfl,?_⟩) ?_ ?_
            rotate_left
            ·intro w'
             go_simp
             with_reducible rfl
            rotate_left
            ·simp only [Act.put,List.setIfInBounds_toArray,List.set_cons_zero,List.set_cons_succ,i64_w,i32_w]
             rfl
            refine pure_ (i:=6) (N:=some 39) (v:=?_) (a':=?_) #[true,true,true,true,true,true,true,false,false,false,false,false,false,false,false,false,false,false] rfl rfl (any_of HT_.out (by kernel_rfl)) (fun _ _ _ h => h) (Or.inl ⟨by rfl,?_⟩) ?_ ?_
            rotate_left
            ·intro w'
             go_simp
             with_reducible rfl
            rotate_left
            ·simp only [Act.put,List.setIfInBounds_toArray,List.set_cons_zero,List.set_cons_succ,i64_w,i32_w]
             rfl
            refine pure_ (i:=7) (N:=some 40) (v:=?_) (a':=?_) #[true,true,true,true,true,true,true,true,false,false,false,false,false,false,false,false,false,false] rfl rfl (any_of HT_.out (by kernel_rfl)) (fun _ _ _ h => h) (Or.inl ⟨by rfl,?_⟩) ?_ ?_
            rotate_left
            ·intro w'
             go_simp
             with_reducible rfl
            rotate_left
            ·simp only [Act.put,List.setIfInBounds_toArray,List.set_cons_zero,List.set_cons_succ,i64_w,i32_w]
             rfl
            refine pure_ (i:=8) (N:=some 41) (v:=?_) (a':=?_) #[true,true,true,true,true,true,true,true,true,false,false,false,false,false,false,false,false,false] rfl rfl (any_of HT_.out (by kernel_rfl)) (fun _ _ _ h => h) (Or.inl ⟨by rfl,?_⟩) ?_ ?_
            rotate_left
            ·intro w'
             go_simp
             with_reducible rfl
            rotate_left
            ·simp only [Act.put,List.setIfInBounds_toArray,List.set_cons_zero,List.set_cons_succ,i64_w,i32_w]
             rfl
            refine pure_ (i:=10) (N:=some 43) (v:=?_) (a':=?_) #[true,true,true,true,true,true,true,true,true,false,true,false,false,false,false,false,false,false] rfl rfl (any_of HT_.out (by kernel_rfl)) (fun _ _ _ h => h) (Or.inl ⟨by rfl,?_⟩) ?_ ?_
            rotate_left
            ·intro w'
             go_simp
             with_reducible rfl
            rotate_left
            ·simp only [Act.put,List.setIfInBounds_toArray,List.set_cons_zero,List.set_cons_succ,i64_w,i32_w]
             rfl
            refine pure_ (i:=11) (N:=some 44) (v:=?_) (a':=?_) #[true,true,true,true,true,true,true,true,true,false,true,true,false,false,false,false,false,false] rfl rfl (any_of HT_.out (by kernel_rfl)) (fun _ _ _ h => h) (Or.inl ⟨by rfl,?_⟩) ?_ ?_
            rotate_left
            ·intro w'
             go_simp
             with_reducible rfl
            rotate_left
            ·simp only [Act.put,List.setIfInBounds_toArray,List.set_cons_zero,List.set_cons_succ,i64_w,i32_w]
             rfl
            refine pure_ (i:=12) (N:=some 45) (v:=?_) (a':=?_) #[true,true,true,true,true,true,true,true,true,false,true,true,true,false,false,false,false,false] rfl rfl (any_of HT_.out (by kernel_rfl)) (fun _ _ _ h => h) (Or.inl ⟨by rfl,?_⟩) ?_ ?_
            rotate_left
            ·intro w'
             go_simp
             with_reducible rfl
            rotate_left
            ·simp only [Act.put,List.setIfInBounds_toArray,List.set_cons_zero,List.set_cons_succ,i64_w,i32_w]
             rfl
            refine take_ (i:=9) (N:=some 42) (v:=?_) (a':=?_) #[true,true,true,true,true,true,true,true,true,true,true,true,true,false,false,false,false,false] rfl rfl (take_ofW HT_.out HW_.out (by kernel_rfl)) (fun _ _ _ h => h) (Or.inl ⟨by rfl,?_⟩) hHeld ?_ ?_
            rotate_left
            ·rintro w' ⟨s0,s1⟩
             go_simp
             with_reducible rfl
            rotate_left
            ·simp only [Act.put,List.setIfInBounds_toArray,List.set_cons_zero,List.set_cons_succ,i64_w,i32_w]
             rfl
            refine take_ (i:=13) (N:=some 46) (v:=?_) (a':=?_) #[true,true,true,true,true,true,true,true,true,true,true,true,true,true,false,false,false,false] rfl rfl (take_ofW HT_.out HW_.out (by kernel_rfl)) (fun _ _ _ h => h) (Or.inl ⟨by rfl,?_⟩) hHeld ?_ ?_
            rotate_left
            ·rintro w' ⟨s0,s1⟩
             go_simp
             with_reducible rfl
            rotate_left
            ·simp only [Act.put,List.setIfInBounds_toArray,List.set_cons_zero,List.set_cons_succ,i64_w,i32_w]
             rfl
            refine pure_ (i:=14) (N:=some 47) (v:=?_) (a':=?_) #[true,true,true,true,true,true,true,true,true,true,true,true,true,true,true,false,false,false] rfl rfl (any_of HT_.out (by kernel_rfl)) (fun _ _ _ h => h) (Or.inl ⟨by rfl,?_⟩) ?_ ?_
            rotate_left
            ·intro w'
             go_simp
             with_reducible rfl
            rotate_left
            ·simp only [Act.put,List.setIfInBounds_toArray,List.set_cons_zero,List.set_cons_succ,i64_w,i32_w]
             rfl
            refine last_ (i:=15) (N:=none) #[true,true,true,true,true,true,true,true,true,true,true,true,true,true,true,true,false,false] rfl rfl (one_of HT_.out (by kernel_rfl)) (by decide) (fun K hK => ?_)
            refine skip_ (w1:=?_) (by rfl) rfl ?_ ?_
            rotate_left
            ·go_simp
             rfl
            refine hK.out _ _ ?_
            clear hK K
            refine pure_ (i:=16) (N:=some 48) (v:=?_) (a':=?_) #[true,true,true,true,true,true,true,true,true,true,true,true,true,true,true,true,true,false] rfl rfl (any_of HT_.out (by kernel_rfl)) (fun _ _ _ h => h) (Or.inl ⟨by rfl,?_⟩) ?_ ?_
            rotate_left
            ·intro w'
             go_simp
             with_reducible rfl
            rotate_left
            ·simp only [Act.put,List.setIfInBounds_toArray,List.set_cons_zero,List.set_cons_succ,i64_w,i32_w]
             rfl
            refine last_ (i:=17) (N:=none) #[true,true,true,true,true,true,true,true,true,true,true,true,true,true,true,true,true,true] rfl rfl (one_of HT_.out (by kernel_rfl)) (by decide) (fun K hK => ?_)
            refine skip_ (w1:=?_) (by rfl) rfl ?_ ?_
            rotate_left
            ·go_simp
             rfl
            refine hK.out _ _ ?_
            clear hK K
            refine done_ (done_of HT_.out (by kernel_rfl)) ?_
            try go_wp2
            go_roundg k2
            case measure => have:=HK1.out;have:=HK2.out;omega
            case rel => exact ⟨(y158),(ji8),(by first|rfl|(simp;done)|(simp only [← hji8] <;> (first|rfl|simp))|(simp [*];done)),H',⟨by have:=HK1.out;have:=HK2.out;omega⟩,⟨by (with_reducible repeat (first|apply ra_|apply rn_|apply rd_));exact HQ19.out⟩,⟨by repeat (first|(with_reducible first|exact HK.out|apply Kept.alloc|apply Kept.drewN|apply Kept.drew|refine Kept.setCell ?_ HMgo13.out _|refine Kept.setCell ?_ HMgo13.out _)|exact HK.out)⟩,⟨by repeat (first|(with_reducible first|exact HB.out|apply ba_|apply bn_|apply bd_|refine bs_ ?_ GB13.out|refine bs_ ?_ GB13.out)|exact HB.out)⟩⟩
           ·replace c12:=Bool.eq_false_iff.mpr c12
            subst c12
            have H1 : (slices_insertionSortOrdered_int.l0 k2 x0_2 a1 a2 (wrap64 (x6_1 + 1))) = some r:=by rw [if_neg (show ¬ (false = true) by decide)] at H;exact H
            clear H
            have H:=H1
            clear H1
            have H':=mk_ H
            clear H
            try go_wp2
            have n0_:=mk_ (rd_ HO_0.out)
            have n1_:=mk_ (Kept.drew HK.out)
            have n2_:=mk_ (bd_ HB.out)
            clear HO_0
            clear HK
            clear HB
            have HO_0:=n0_
            have HK:=n1_
            have HB:=n2_
            clear n0_ n1_ n2_
            obtain ⟨Ao21,co21,eo21⟩:=Kd.R_slice HO_0.out
            (first|subst eo21|(injection eo21 with f1_ f2_ f3_;have f4_:=f1_.symm;have f5_:=f3_.symm;clear f1_ f2_ f3_;subst f4_;subst f5_))
            have p152 : 0 ≤ (x7_2 : Int):=od_ (by first|(with_reducible assumption)|assumption)
            have q152 : x7_2 < (x0_2.length : Int):=od_ (by first|(with_reducible assumption)|assumption)
            obtain ⟨ad152,e152,hx152_0⟩:=Kd.at_int (rr_ HO_0.out).2.2 x7_2 p152 q152
            cases e152
            replace p152:=eq_true p152
            replace q152:=eq_true q152
            have p153 : 0 ≤ ((ji8) : Int):=od_ (by first|(with_reducible assumption)|assumption)
            have q153 : (ji8) < (x0_2.length : Int):=od_ (by first|(with_reducible assumption)|assumption)
            obtain ⟨ad153,e153,hx153_0⟩:=Kd.at_int (rr_ HO_0.out).2.2 (ji8) p153 q153
            obtain rfl : ad152 = ad153:=(by injection e153)
            replace p153:=eq_true p153
            replace q153:=eq_true q153
            refine start_ (n:=15) (S:=fun w' => w'.cell? (ad152.add (x7_2).toNat) = some (.int .i64 (rd x0_2 x7_2)) ∧ w'.cell? (ad152.add ((ji8)).toNat) = some (.int .i64 (rd x0_2 (ji8)))) (ds:=[]) #[false,false,false,false,false,false,false,false,false,false,false,false,false,false,false] (by kernel_rfl) rfl rfl ⟨hx152_0,hx153_0⟩ (fun hHeld => ?_);refine with_tabW slices_insertionSortOrdered_int.tab4 slices_insertionSortOrdered_int.bits4 (fun HT_ HW_ => ?_)
            generalize wr.drew = w20 at HO_0 HK HB hx152_0 hx153_0 hHeld ⊢
            refine pure_ (i:=0) (N:=some 16) (v:=?_) (a':=?_) #[true,false,false,false,false,false,false,false,false,false,false,false,false,false,false] rfl rfl (any_of HT_.out (by kernel_rfl)) (fun _ _ _ h => h) (Or.inl ⟨by rfl,?_⟩) ?_ ?_
            rotate_left
            ·intro w'
             go_simp
             with_reducible rfl
            rotate_left
            ·simp only [Act.put,List.setIfInBounds_toArray,List.set_cons_zero,List.set_cons_succ,i64_w,i32_w]
             rfl
            refine pure_ (i:=1) (N:=some 17) (v:=?_) (a':=?_) #[true,true,false,false,false,false,false,false,false,false,false,false,false,false,false] rfl rfl (any_of HT_.out (by kernel_rfl)) (fun _ _ _ h => h) (Or.inl ⟨by rfl,?_⟩) ?_ ?_
            rotate_left
            ·intro w'
             go_simp
             with_reducible rfl
            rotate_left
            ·simp only [Act.put,List.setIfInBounds_toArray,List.set_cons_zero,List.set_cons_succ,i64_w,i32_w]
             rfl
            refine pure_ (i:=2) (N:=some 18) (v:=?_) (a':=?_) #[true,true,true,false,false,false,false,false,false,false,false,false,false,false,false] rfl rfl (any_of HT_.out (by kernel_rfl)) (fun _ _ _ h => h) (Or.inl ⟨by rfl,?_⟩) ?_ ?_
            rotate_left
            ·intro w'
             go_simp
             with_reducible rfl
            rotate_left
            ·simp only [Act.put,List.setIfInBounds_toArray,List.set_cons_zero,List.set_cons_succ,i64_w,i32_w]
             rfl
            refine pure_ (i:=3) (N:=some 19) (v:=?_) (a':=?_) #[true,true,true,true,false,false,false,false,false,false,false,false,false,false,false] rfl rfl (any_of HT_.out (by kernel_rfl)) (fun _ _ _ h => h) (Or.inl ⟨by rfl,?_⟩) ?_ ?_
            rotate_left
            ·intro w'
             go_simp
             with_reducible rfl
            rotate_left
            ·simp only [Act.put,List.setIfInBounds_toArray,List.set_cons_zero,List.set_cons_succ,i64_w,i32_w]
             rfl
            refine pure_ (i:=4) (N:=some 20) (v:=?_) (a':=?_) #[true,true,true,true,true,false,false,false,false,false,false,false,false,false,false] rfl rfl (any_of HT_.out (by kernel_rfl)) (fun _ _ _ h => h) (Or.inl ⟨by rfl,?_⟩) ?_ ?_
            rotate_left
            ·intro w'
             go_simp
             with_reducible rfl
            rotate_left
            ·simp only [Act.put,List.setIfInBounds_toArray,List.set_cons_zero,List.set_cons_succ,i64_w,i32_w]
             rfl
            refine pure_ (i:=5) (N:=some 21) (v:=?_) (a':=?_) #[true,true,true,true,true,true,false,false,false,false,false,false,false,false,false] rfl rfl (any_of HT_.out (by kernel_rfl)) (fun _ _ _ h => h) (Or.inl ⟨by rfl,?_⟩) ?_ ?_
            rotate_left
            ·intro w'
             go_simp
             with_reducible rfl
            rotate_left
            ·simp only [Act.put,List.setIfInBounds_toArray,List.set_cons_zero,List.set_cons_succ,i64_w,i32_w]
             rfl
            refine pure_ (i:=6) (N:=some 22) (v:=?_) (a':=?_) #[true,true,true,true,true,true,true,false,false,false,false,false,false,false,false] rfl rfl (any_of HT_.out (by kernel_rfl)) (fun _ _ _ h => h) (Or.inl ⟨by rfl,?_⟩) ?_ ?_
            rotate_left
            ·intro w'
             go_simp
             with_reducible rfl
            rotate_left
            ·simp only [Act.put,List.setIfInBounds_toArray,List.set_cons_zero,List.set_cons_succ,i64_w,i32_w]
             rfl
            refine pure_ (i:=8) (N:=some 24) (v:=?_) (a':=?_) #[true,true,true,true,true,true,true,false,true,false,false,false,false,false,false] rfl rfl (any_of HT_.out (by kernel_rfl)) (fun _ _ _ h => h) (Or.inl ⟨by rfl,?_⟩) ?_ ?_
            rotate_left
            ·intro w'
             go_simp
             with_reducible rfl
            rotate_left
            ·simp only [Act.put,List.setIfInBounds_toArray,List.set_cons_zero,List.set_cons_succ,i64_w,i32_w]
             rfl
            refine pure_ (i:=9) (N:=some 25) (v:=?_) (a':=?_) #[true,true,true,true,true,true,true,false,true,true,false,false,false,false,false] rfl rfl (any_of HT_.out (by kernel_rfl)) (fun _ _ _ h => h) (Or.inl ⟨by rfl,?_⟩) ?_ ?_
            rotate_left
            ·intro w'
             go_simp
             with_reducible rfl
            rotate_left
            ·simp only [Act.put,List.setIfInBounds_toArray,List.set_cons_zero,List.set_cons_succ,i64_w,i32_w]
             rfl
            refine pure_ (i:=10) (N:=some 26) (v:=?_) (a':=?_) #[true,true,true,true,true,true,true,false,true,true,true,false,false,false,false] rfl rfl (any_of HT_.out (by kernel_rfl)) (fun _ _ _ h => h) (Or.inl ⟨by rfl,?_⟩) ?_ ?_
            rotate_left
            ·intro w'
             go_simp
             with_reducible rfl
            rotate_left
            ·simp only [Act.put,List.setIfInBounds_toArray,List.set_cons_zero,List.set_cons_succ,i64_w,i32_w]
             rfl
            refine pure_ (i:=11) (N:=some 27) (v:=?_) (a':=?_) #[true,true,true,true,true,true,true,false,true,true,true,true,false,false,false] rfl rfl (any_of HT_.out (by kernel_rfl)) (fun _ _ _ h => h) (Or.inl ⟨by rfl,?_⟩) ?_ ?_
            rotate_left
            ·intro w'
             go_simp
             with_reducible rfl
            rotate_left
            ·simp only [Act.put,List.setIfInBounds_toArray,List.set_cons_zero,List.set_cons_succ,i64_w,i32_w]
             rfl
            refine take_ (i:=7) (N:=some 23) (v:=?_) (a':=?_) #[true,true,true,true,true,true,true,true,true,true,true,true,false,false,false] rfl rfl (take_ofW HT_.out HW_.out (by kernel_rfl)) (fun _ _ _ h => h) (Or.inl ⟨by rfl,?_⟩) hHeld ?_ ?_
            rotate_left
            ·rintro w' ⟨s0,s1⟩
             go_simp
             with_reducible rfl
            rotate_left
            ·simp only [Act.put,List.setIfInBounds_toArray,List.set_cons_zero,List.set_cons_succ,i64_w,i32_w]
             rfl
            refine take_ (i:=12) (N:=some 28) (v:=?_) (a':=?_) #[true,true,true,true,true,true,true,true,true,true,true,true,true,false,false] rfl rfl (take_ofW HT_.out HW_.out (by kernel_rfl)) (fun _ _ _ h => h) (Or.inl ⟨by rfl,?_⟩) hHeld ?_ ?_
            rotate_left
            ·rintro w' ⟨s0,s1⟩
             go_simp
             with_reducible rfl
            rotate_left
            ·simp only [Act.put,List.setIfInBounds_toArray,List.set_cons_zero,List.set_cons_succ,i64_w,i32_w]
             rfl
            refine one_ (i:=13) (N:=some 29) #[true,true,true,true,true,true,true,true,true,true,true,true,true,true,false] rfl rfl (one_of HT_.out (by kernel_rfl)) (by decide) (fun K hK => ?_)
            refine goes_ Try.func99 (by kernel_rfl) rfl #[.int .i64 (rd x0_2 x7_2),.int .i64 (rd x0_2 (ji8))] (by rfl) rfl rfl (by (try simp only [List.map_toArray,List.map_cons,List.map_nil]);first|done|(simp only [hji8];rfl)|rfl|(simp only [List.length_drop,List.length_take];rfl)) ?_
            with_reducible refine (cmp_Less_int.calls (rd x0_2 x7_2) (rd x0_2 (ji8)) false _ A11.out).mono ?_
            rintro e w' ⟨rfl,⟨nd,rfl⟩⟩
            refine ⟨_,rfl,?_⟩
            refine hK.out _ _ ⟨hHeld.1,hHeld.2⟩ (fun hHeld => ?_)
            clear hK K
            refine norm_ (a':=?_) ?_ ?_
            rotate_left
            ·show Act.put _ (some 29) _ = _
             simp only [Act.put,List.setIfInBounds_toArray,List.set_cons_zero,List.set_cons_succ,i64_w,i32_w]
             rfl
            refine pure_ (i:=14) (N:=some 30) (v:=?_) (a':=?_) #[true,true,true,true,true,true,true,true,true,true,true,true,true,true,true] rfl rfl (any_of HT_.out (by kernel_rfl)) (fun _ _ _ h => h) (Or.inl ⟨by rfl,?_⟩) ?_ ?_
            rotate_left
            ·intro w'
             go_simp
             with_reducible rfl
            rotate_left
            ·simp only [Act.put,List.setIfInBounds_toArray,List.set_cons_zero,List.set_cons_succ,i64_w,i32_w]
             rfl
            refine done_ (done_of HT_.out (by kernel_rfl)) ?_
            try go_wp2
            go_roundg k2
            case measure => have:=HK1.out;have:=HK2.out;omega
            case rel => exact ⟨(x0_2),(wrap64 (x6_1 + 1)),(by first|rfl|(simp;done)|(simp [*];done)),H',⟨by have:=HK1.out;have:=HK2.out;omega⟩,⟨by (with_reducible repeat (first|apply ra_|apply rn_|apply rd_));exact HO_0.out⟩,⟨by repeat (first|(with_reducible first|exact HK.out|apply Kept.alloc|apply Kept.drewN|apply Kept.drew)|exact HK.out)⟩,⟨by repeat (first|(with_reducible first|exact HB.out|apply ba_|apply bn_|apply bd_)|exact HB.out)⟩⟩
          ·rw [if_neg c10] at H
           exact absurd H (by simp)
         ·rw [if_neg c9] at H
          exact absurd H (by simp)
        ·rw [if_neg c7] at H
         exact absurd H (by simp)
       ·rw [if_neg c6] at H
        exact absurd H (by simp)
      ·rw [if_neg c5] at H
       have c5b0 : decide (a1 < x7_2) = false:=decide_eq_false c5
       clear c5
       have H':=mk_ H
       clear H
       try go_wp2
       have n0_:=mk_ (rd_ HO_0.out)
       have n1_:=mk_ (Kept.drew HK.out)
       have n2_:=mk_ (bd_ HB.out)
       clear HO_0
       clear HK
       clear HB
       have HO_0:=n0_
       have HK:=n1_
       have HB:=n2_
       clear n0_ n1_ n2_
       refine start_ (n:=15) (S:=fun w' => True) (ds:=[]) #[false,false,false,false,false,false,false,false,false,false,false,false,false,false,false] (by kernel_rfl) rfl rfl trivial (fun hHeld => ?_);refine with_tabW slices_insertionSortOrdered_int.tab4 slices_insertionSortOrdered_int.bits4 (fun HT_ HW_ => ?_)
       generalize wr.drew = w22 at HO_0 HK HB hHeld ⊢
       refine pure_ (i:=0) (N:=some 16) (v:=?_) (a':=?_) #[true,false,false,false,false,false,false,false,false,false,false,false,false,false,false] rfl rfl (any_of HT_.out (by kernel_rfl)) (fun _ _ _ h => h) (Or.inl ⟨by rfl,?_⟩) ?_ ?_
       rotate_left
       ·intro w'
        go_simp
        with_reducible rfl
       rotate_left
       ·simp only [Act.put,List.setIfInBounds_toArray,List.set_cons_zero,List.set_cons_succ,i64_w,i32_w]
        rfl
       refine pure_ (i:=1) (N:=some 17) (v:=?_) (a':=?_) #[true,true,false,false,false,false,false,false,false,false,false,false,false,false,false] rfl rfl (any_of HT_.out (by kernel_rfl)) (fun _ _ _ h => h) (Or.inl ⟨by rfl,?_⟩) ?_ ?_
       rotate_left
       ·intro w'
        go_simp
        with_reducible rfl
       rotate_left
       ·simp only [Act.put,List.setIfInBounds_toArray,List.set_cons_zero,List.set_cons_succ,i64_w,i32_w]
        rfl
       refine pure_ (i:=2) (N:=some 18) (v:=?_) (a':=?_) #[true,true,true,false,false,false,false,false,false,false,false,false,false,false,false] rfl rfl (any_of HT_.out (by kernel_rfl)) (fun _ _ _ h => h) (Or.inl ⟨by rfl,?_⟩) ?_ ?_
       rotate_left
       ·intro w'
        go_simp
        with_reducible rfl
       rotate_left
       ·simp only [Act.put,List.setIfInBounds_toArray,List.set_cons_zero,List.set_cons_succ,i64_w,i32_w]
        rfl
       refine pure_ (i:=3) (N:=some 19) (v:=?_) (a':=?_) #[true,true,true,true,false,false,false,false,false,false,false,false,false,false,false] rfl rfl (any_of HT_.out (by kernel_rfl)) (fun _ _ _ h => h) (Or.inl ⟨by rfl,?_⟩) ?_ ?_
       rotate_left
       ·intro w'
        go_simp
        with_reducible rfl
       rotate_left
       ·simp only [Act.put,List.setIfInBounds_toArray,List.set_cons_zero,List.set_cons_succ,i64_w,i32_w]
        rfl
       refine pure_ (i:=4) (N:=some 20) (v:=undef) (a':=?_) #[true,true,true,true,true,false,false,false,false,false,false,false,false,false,false] rfl rfl (any_of HT_.out (by kernel_rfl)) (fun _ _ _ h => h) (Or.inr ⟨by rfl,rfl⟩) ?_ ?_
       rotate_left
       ·simp only [Act.put,List.setIfInBounds_toArray,List.set_cons_zero,List.set_cons_succ,i64_w,i32_w]
        rfl
       refine pure_ (i:=5) (N:=some 21) (v:=undef) (a':=?_) #[true,true,true,true,true,true,false,false,false,false,false,false,false,false,false] rfl rfl (any_of HT_.out (by kernel_rfl)) (fun _ _ _ h => h) (Or.inr ⟨by rfl,rfl⟩) ?_ ?_
       rotate_left
       ·simp only [Act.put,List.setIfInBounds_toArray,List.set_cons_zero,List.set_cons_succ,i64_w,i32_w]
        rfl
       refine pure_ (i:=6) (N:=some 22) (v:=undef) (a':=?_) #[true,true,true,true,true,true,true,false,false,false,false,false,false,false,false] rfl rfl (any_of HT_.out (by kernel_rfl)) (fun _ _ _ h => h) (Or.inr ⟨by rfl,rfl⟩) ?_ ?_
       rotate_left
       ·simp only [Act.put,List.setIfInBounds_toArray,List.set_cons_zero,List.set_cons_succ,i64_w,i32_w]
        rfl
       refine pure_ (i:=7) (N:=some 23) (v:=undef) (a':=?_) #[true,true,true,true,true,true,true,true,false,false,false,false,false,false,false] rfl rfl (any_of HT_.out (by kernel_rfl)) (fun _ _ _ h => h) (Or.inr ⟨by rfl,rfl⟩) ?_ ?_
       rotate_left
       ·simp only [Act.put,List.setIfInBounds_toArray,List.set_cons_zero,List.set_cons_succ,i64_w,i32_w]
        rfl
       refine pure_ (i:=8) (N:=some 24) (v:=undef) (a':=?_) #[true,true,true,true,true,true,true,true,true,false,false,false,false,false,false] rfl rfl (any_of HT_.out (by kernel_rfl)) (fun _ _ _ h => h) (Or.inr ⟨by rfl,rfl⟩) ?_ ?_
       rotate_left
       ·simp only [Act.put,List.setIfInBounds_toArray,List.set_cons_zero,List.set_cons_succ,i64_w,i32_w]
        rfl
       refine pure_ (i:=9) (N:=some 25) (v:=undef) (a':=?_) #[true,true,true,true,true,true,true,true,true,true,false,false,false,false,false] rfl rfl (any_of HT_.out (by kernel_rfl)) (fun _ _ _ h => h) (Or.inr ⟨by rfl,rfl⟩) ?_ ?_
       rotate_left
       ·simp only [Act.put,List.setIfInBounds_toArray,List.set_cons_zero,List.set_cons_succ,i64_w,i32_w]
        rfl
       refine pure_ (i:=10) (N:=some 26) (v:=undef) (a':=?_) #[true,true,true,true,true,true,true,true,true,true,true,false,false,false,false] rfl rfl (any_of HT_.out (by kernel_rfl)) (fun _ _ _ h => h) (Or.inr ⟨by rfl,rfl⟩) ?_ ?_
       rotate_left
       ·simp only [Act.put,List.setIfInBounds_toArray,List.set_cons_zero,List.set_cons_succ,i64_w,i32_w]
        rfl
       refine pure_ (i:=11) (N:=some 27) (v:=undef) (a':=?_) #[true,true,true,true,true,true,true,true,true,true,true,true,false,false,false] rfl rfl (any_of HT_.out (by kernel_rfl)) (fun _ _ _ h => h) (Or.inr ⟨by rfl,rfl⟩) ?_ ?_
       rotate_left
       ·simp only [Act.put,List.setIfInBounds_toArray,List.set_cons_zero,List.set_cons_succ,i64_w,i32_w]
        rfl
       refine pure_ (i:=12) (N:=some 28) (v:=undef) (a':=?_) #[true,true,true,true,true,true,true,true,true,true,true,true,true,false,false] rfl rfl (any_of HT_.out (by kernel_rfl)) (fun _ _ _ h => h) (Or.inr ⟨by rfl,rfl⟩) ?_ ?_
       rotate_left
       ·simp only [Act.put,List.setIfInBounds_toArray,List.set_cons_zero,List.set_cons_succ,i64_w,i32_w]
        rfl
       refine pure_ (i:=13) (N:=some 29) (v:=undef) (a':=?_) #[true,true,true,true,true,true,true,true,true,true,true,true,true,true,false] rfl rfl (any_of HT_.out (by kernel_rfl)) (fun _ _ _ h => h) (Or.inr ⟨by rfl,rfl⟩) ?_ ?_
       rotate_left
       ·simp only [Act.put,List.setIfInBounds_toArray,List.set_cons_zero,List.set_cons_succ,i64_w,i32_w]
        rfl
       refine pure_ (i:=14) (N:=some 30) (v:=?_) (a':=?_) #[true,true,true,true,true,true,true,true,true,true,true,true,true,true,true] rfl rfl (any_of HT_.out (by kernel_rfl)) (fun _ _ _ h => h) (Or.inl ⟨by rfl,?_⟩) ?_ ?_
       rotate_left
       ·intro w'
        go_simp
        with_reducible rfl
       rotate_left
       ·simp only [Act.put,List.setIfInBounds_toArray,List.set_cons_zero,List.set_cons_succ,i64_w,i32_w]
        rfl
       refine done_ (done_of HT_.out (by kernel_rfl)) ?_
       try go_wp2
       go_roundg k2
       case measure => have:=HK1.out;have:=HK2.out;omega
       case rel => exact ⟨(x0_2),(wrap64 (x6_1 + 1)),(by first|rfl|(simp;done)|(simp [*];done)),H',⟨by have:=HK1.out;have:=HK2.out;omega⟩,⟨by (with_reducible repeat (first|apply ra_|apply rn_|apply rd_));exact HO_0.out⟩,⟨by repeat (first|(with_reducible first|exact HK.out|apply Kept.alloc|apply Kept.drewN|apply Kept.drew)|exact HK.out)⟩,⟨by repeat (first|(with_reducible first|exact HB.out|apply ba_|apply bn_|apply bd_)|exact HB.out)⟩⟩
   ·rw [if_neg c4] at H
    have c4b0 : decide (x6_1 < a2) = false:=decide_eq_false c4
    clear c4
    obtain rfl:=Option.some.inj H
    go_wp2
    first|go_end0|((try simp only [Exit.inBlock,Exit.then]);refine bodyPost_ret (results_none rfl _ _ _) rfl ?_)
    exact ⟨by first|rfl|(simp [errW_none,errW_some] <;> rfl)|(simp [*,errW_none,errW_some] <;> rfl),by (with_reducible repeat (first|apply ra_|apply rn_|apply rd_));exact HO_0.out,by repeat (first|(with_reducible first|exact HB.out|apply ba_|apply bn_|apply bd_)|exact HB.out),by repeat (first|(with_reducible first|exact HK.out|apply Kept.alloc|apply Kept.drewN|apply Kept.drew)|exact HK.out)⟩

end Go.Proofs.Ytdamdcdjodmemaa.PAll

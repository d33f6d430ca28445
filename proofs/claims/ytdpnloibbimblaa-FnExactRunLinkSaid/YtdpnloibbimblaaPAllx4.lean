/- Proved here: contracts of functions of the given program, or lemmas on them, for the laws of this seat. Written by xprint.py, a program of this session, on the ground of the kit's print; parts by hand: wip/x/ext. -/
import Derived.Test.YtdpnloibbimblaaPAllx0
import Derived.Test.YtdpnloibbimblaaPAllx1
import Derived.Test.YtdpnloibbimblaaPAllx3
namespace Go.Proofs.Ytdpnloibbimblaa.PAll
open Go.RowKit Go.Proofs.YtdpnloibbimblaaW.PrintWords Go.Proofs.YtdpnloibbimblaaW.PrintLast Go.Proofs.YtdpnloibbimblaaW.PrintMore
attribute [local go_sem] max2_int min2_int max_two min_two max_three min_three max_four min_four   -- for this text's walks alone
set_option linter.unusedVariables false
set_option linter.unusedSimpArgs false

/-! ### spec_PackLink: function 73 -/
def spec_PackLink.f (k : Nat) (a0 : Int) (a1 : Int) (l2 : List Int) : Option (List Int × Bool):=(spec_l1In.f a0 1 2).bind fun t214 => (if t214 = true then ((spec_l1In.f a1 0 15).bind fun t215 => (if t215 = true then (if a0 = 2 then (if (l2.length : Int) > 0 then (some ((([] : List Int)),false)) else ((some (([(wrap64 ((wrap64 (16 * a0)) + a1)) % 256] : List Int) : List Int)).bind fun y219 => (if y219.length + l2.length < 140737488355328 then ((spec_AddCrc.f k (y219 ++ l2)).bind fun bt225 => (some (bt225.1,bt225.2))) else (none)))) else ((some (([(wrap64 ((wrap64 (16 * a0)) + a1)) % 256] : List Int) : List Int)).bind fun y229 => (if y229.length + l2.length < 140737488355328 then ((spec_AddCrc.f k (y229 ++ l2)).bind fun bt235 => (some (bt235.1,bt235.2))) else (none)))) else (some ((([] : List Int)),false)))) else (some ((([] : List Int)),false)))
theorem spec_PackLink.mono : ∀ a0 a1 a2 k,LeO (spec_PackLink.f k a0 a1 a2) (spec_PackLink.f (k + 1) a0 a1 a2):=by
 intro a0 a1 a2 k
 unfold spec_PackLink.f
 repeat' first
   | (with_reducible exact spec_AddCrc.mono _ _)
   | (with_reducible exact LeO.refl _)
   | (with_reducible exact LeO.none _)
   | (with_reducible refine LeO.ite ?_ ?_)
   | (with_reducible refine LeO.bind ?_ (fun _ => ?_))
   | exact spec_AddCrc.mono _ _
   | exact LeO.none _
   | refine LeO.ite ?_ ?_
   | refine LeO.bind ?_ (fun _ => ?_)
set_option maxHeartbeats 8000000 in
set_option maxRecDepth 100000 in
theorem spec_PackLink.calls (k : Nat) (a0 : Int) (a1 : Int) (A2 : Option Addr) (c2 : Nat) (l2 : List Int) (r1 : List Int) (r2 : Bool) (w : World) (hr2 : Kd.C (Kd.int .u8) w A2 l2.length l2) (hc2 : l2.length ≤ c2) (h : spec_PackLink.f k a0 a1 l2 = some (r1,r2)) :
  Calls Try.prog 73 #[.int .i64 a0,.int .i64 a1,.slice A2 l2.length c2] w fun e w' => ∃ v0_ : Value,e = .returned (.tuple #[v0_,.bool r2]) ∧ Kd.R (Kd.int .u8) 5 w' w.heap.size (fun _ => True) v0_ r1 ∧ Below w.heap.size w w':=by
 have HR2:=mk_ hr2
 have HC2:=mk_ hc2
 clear hr2 hc2
 have HB:=mk_ (Below.refl w.heap.size w)
 have H : ((spec_l1In.f a0 1 2).bind fun t214 => (if t214 = true then ((spec_l1In.f a1 0 15).bind fun t215 => (if t215 = true then (if a0 = 2 then (if (l2.length : Int) > 0 then (some ((([] : List Int)),false)) else ((some (([(wrap64 ((wrap64 (16 * a0)) + a1)) % 256] : List Int) : List Int)).bind fun y219 => (if y219.length + l2.length < 140737488355328 then ((spec_AddCrc.f k (y219 ++ l2)).bind fun bt225 => (some (bt225.1,bt225.2))) else (none)))) else ((some (([(wrap64 ((wrap64 (16 * a0)) + a1)) % 256] : List Int) : List Int)).bind fun y229 => (if y229.length + l2.length < 140737488355328 then ((spec_AddCrc.f k (y229 ++ l2)).bind fun bt235 => (some (bt235.1,bt235.2))) else (none)))) else (some ((([] : List Int)),false)))) else (some ((([] : List Int)),false)))) = some (r1,r2):=h
 clear h
 replace H:=Option.bind_eq_some_iff.mp H
 obtain ⟨t214,A40,H⟩:=H
 replace H : (if t214 = true then ((spec_l1In.f a1 0 15).bind fun t215 => (if t215 = true then (if a0 = 2 then (if (l2.length : Int) > 0 then (some ((([] : List Int)),false)) else ((some (([(wrap64 ((wrap64 (16 * a0)) + a1)) % 256] : List Int) : List Int)).bind fun y219 => (if y219.length + l2.length < 140737488355328 then ((spec_AddCrc.f k (y219 ++ l2)).bind fun bt225 => (some (bt225.1,bt225.2))) else (none)))) else ((some (([(wrap64 ((wrap64 (16 * a0)) + a1)) % 256] : List Int) : List Int)).bind fun y229 => (if y229.length + l2.length < 140737488355328 then ((spec_AddCrc.f k (y229 ++ l2)).bind fun bt235 => (some (bt235.1,bt235.2))) else (none)))) else (some ((([] : List Int)),false)))) else (some ((([] : List Int)),false))) = some (r1,r2):=H
 have A4:=mk_ A40
 clear A40
 by_cases c5 : t214 = true
 ·subst c5
  have H1 : ((spec_l1In.f a1 0 15).bind fun t215 => (if t215 = true then (if a0 = 2 then (if (l2.length : Int) > 0 then (some ((([] : List Int)),false)) else ((some (([(wrap64 ((wrap64 (16 * a0)) + a1)) % 256] : List Int) : List Int)).bind fun y219 => (if y219.length + l2.length < 140737488355328 then ((spec_AddCrc.f k (y219 ++ l2)).bind fun bt225 => (some (bt225.1,bt225.2))) else (none)))) else ((some (([(wrap64 ((wrap64 (16 * a0)) + a1)) % 256] : List Int) : List Int)).bind fun y229 => (if y229.length + l2.length < 140737488355328 then ((spec_AddCrc.f k (y229 ++ l2)).bind fun bt235 => (some (bt235.1,bt235.2))) else (none)))) else (some ((([] : List Int)),false)))) = some (r1,r2):=by rw [if_pos rfl] at H;exact H
  clear H
  have H:=H1
  clear H1
  replace H:=Option.bind_eq_some_iff.mp H
  obtain ⟨t215,A60,H⟩:=H
  replace H : (if t215 = true then (if a0 = 2 then (if (l2.length : Int) > 0 then (some ((([] : List Int)),false)) else ((some (([(wrap64 ((wrap64 (16 * a0)) + a1)) % 256] : List Int) : List Int)).bind fun y219 => (if y219.length + l2.length < 140737488355328 then ((spec_AddCrc.f k (y219 ++ l2)).bind fun bt225 => (some (bt225.1,bt225.2))) else (none)))) else ((some (([(wrap64 ((wrap64 (16 * a0)) + a1)) % 256] : List Int) : List Int)).bind fun y229 => (if y229.length + l2.length < 140737488355328 then ((spec_AddCrc.f k (y229 ++ l2)).bind fun bt235 => (some (bt235.1,bt235.2))) else (none)))) else (some ((([] : List Int)),false))) = some (r1,r2):=H
  have A6:=mk_ A60
  clear A60
  by_cases c7 : t215 = true
  ·subst c7
   have H1 : (if a0 = 2 then (if (l2.length : Int) > 0 then (some ((([] : List Int)),false)) else ((some (([(wrap64 ((wrap64 (16 * a0)) + a1)) % 256] : List Int) : List Int)).bind fun y219 => (if y219.length + l2.length < 140737488355328 then ((spec_AddCrc.f k (y219 ++ l2)).bind fun bt225 => (some (bt225.1,bt225.2))) else (none)))) else ((some (([(wrap64 ((wrap64 (16 * a0)) + a1)) % 256] : List Int) : List Int)).bind fun y229 => (if y229.length + l2.length < 140737488355328 then ((spec_AddCrc.f k (y229 ++ l2)).bind fun bt235 => (some (bt235.1,bt235.2))) else (none)))) = some (r1,r2):=by rw [if_pos rfl] at H;exact H
   clear H
   have H:=H1
   clear H1
   by_cases c8 : a0 = 2
   ·rw [if_pos c8] at H
    have c8b0 : (a0 == 2) = true:=beq_iff_eq.mpr c8
    have c8b1 : (a0 != 2) = false:=bne_eq_false_iff_eq.mpr c8
    clear c8
    by_cases c9 : (l2.length : Int) > 0
    ·rw [if_pos c9] at H
     have c9b0 : decide (0 < (l2.length : Int)) = true:=decide_eq_true c9
     have c9b1 : decide (0 < l2.length) = true:=decide_eq_true (by omega)
     clear c9
     obtain ⟨y216,hy216⟩ : ∃ y_ : List Int,y_ = (([] : List Int)):=⟨_,rfl⟩
     replace H : (some (y216,false)) = some (r1,r2):=by first|(rw [hy216];with_reducible exact H)|(have H2_:=(Option.bind_some _ _).symm.trans H;rw [hy216];with_reducible exact H2_)|(have H2_:=(Option.bind_some _ _).symm.trans H;with_reducible exact H2_)|with_reducible exact H|(rw [hy216];exact H)|exact H
     have Ny216:=mk_ hy216
     clear hy216
     simp only [Option.some.injEq,Prod.mk.injEq] at H
     obtain ⟨rfl,rfl⟩:=H
     go_enter Try.func73,Try.ntmps73
     go_wp2_with (first|((with_reducible refine gate_callee (f:=36) rfl ?_);refine goesL_ (some 9) rfl rfl Try.func36 (by kernel_rfl) rfl #[.int .i64 a0,.int .i64 1,.int .i64 2] rfl qm_ ?_;(with_reducible refine (spec_l1In.calls a0 1 2 true _ A4.out).mono ?_);rintro e w' ⟨rfl,⟨nd,rfl⟩⟩;refine ⟨_,rfl,?_⟩)|(go_at_call 36;(with_reducible refine (spec_l1In.calls a1 0 15 true _ A6.out).mono ?_);rintro e w' ⟨rfl,⟨nd,rfl⟩⟩)|((with_reducible refine gate_dst (N:=25) rfl ?_);(try (refine gate_guard (by rfl) ?_;dsimp only));refine Kd.R_lit (Kd.int .u8) _ 5 ?hg (N:=25) ?hd (xs:=([] : List Int)) (inner:=[]) (ok:=fun _ => True) (okp:=fun _ => True) ?hr ?hp (fun _ hk => hk) trivial (Below.refl _ _) (Nat.le_refl _) (by simp) ?_;(case hd => rfl);(case hg => rfl);(case hr => first|(go_simp;done)|(go_simp;rfl));(case hp => exact (Reps.none _ _));intro v217 w10 ho11 hb hg_ hnew_;clear hg_ hnew_;(first|rw [← Ny216.out] at ho11|(simp only [Int.reduceToNat] at ho11;rw [← Ny216.out] at ho11));have n0_:=mk_ (Kd.R_lower ho11 (bz_ (qb_ HB)));have n1_:=mk_ (st_ (qb_ HB) hb);clear HB;have HO218:=n0_;have HB:=n1_;clear n0_ n1_ hb ho11))
     go_ret2
     exact ⟨_,qe_,qr_ HO218,u0_ HB⟩
    ·rw [if_neg c9] at H
     have c9b0 : decide (0 < (l2.length : Int)) = false:=decide_eq_false c9
     have c9b1 : decide (0 < l2.length) = false:=decide_eq_false (by omega)
     clear c9
     obtain ⟨y219,hy219⟩ : ∃ y_ : List Int,y_ = (([(wrap64 ((wrap64 (16 * a0)) + a1)) % 256] : List Int)):=⟨_,rfl⟩
     replace H : (if y219.length + l2.length < 140737488355328 then ((spec_AddCrc.f k (y219 ++ l2)).bind fun bt225 => (some (bt225.1,bt225.2))) else (none)) = some (r1,r2):=by first|(rw [hy219];with_reducible exact H)|(have H2_:=(Option.bind_some _ _).symm.trans H;rw [hy219];with_reducible exact H2_)|(have H2_:=(Option.bind_some _ _).symm.trans H;with_reducible exact H2_)|with_reducible exact H|(rw [hy219];exact H)|exact H
     have Ny219:=mk_ hy219
     clear hy219
     by_cases c12 : y219.length + l2.length < 140737488355328
     ·rw [if_pos c12] at H
      have LMc12:=mk_ c12
      clear c12
      obtain ⟨y222,hy222⟩ : ∃ y_ : List Int,y_ = (y219 ++ l2):=⟨_,rfl⟩
      replace H : ((spec_AddCrc.f k y222).bind fun bt225 => (some (bt225.1,bt225.2))) = some (r1,r2):=by first|(rw [hy222];with_reducible exact H)|(have H2_:=(Option.bind_some _ _).symm.trans H;rw [hy222];with_reducible exact H2_)|(have H2_:=(Option.bind_some _ _).symm.trans H;with_reducible exact H2_)|with_reducible exact H|(rw [hy222];exact H)|exact H
      have Ny222:=mk_ hy222
      clear hy222
      replace H:=Option.bind_eq_some_iff.mp H
      obtain ⟨⟨t225,t226⟩,A130,H⟩:=H
      replace H : (some (t225,t226)) = some (r1,r2):=H
      have A13:=mk_ A130
      clear A130
      simp only [Option.some.injEq,Prod.mk.injEq] at H
      obtain ⟨rfl,rfl⟩:=H
      go_enter Try.func73,Try.ntmps73
      go_wp2_with (first|((with_reducible refine gate_callee (f:=36) rfl ?_);refine goesL_ (some 9) rfl rfl Try.func36 (by kernel_rfl) rfl #[.int .i64 a0,.int .i64 1,.int .i64 2] rfl qm_ ?_;(with_reducible refine (spec_l1In.calls a0 1 2 true _ A4.out).mono ?_);rintro e w' ⟨rfl,⟨nd,rfl⟩⟩;refine ⟨_,rfl,?_⟩)|(go_at_call 36;(with_reducible refine (spec_l1In.calls a1 0 15 true _ A6.out).mono ?_);rintro e w' ⟨rfl,⟨nd,rfl⟩⟩)|((with_reducible refine gate_dst (N:=31) rfl ?_);(try (refine gate_guard (by rfl) ?_;dsimp only));refine Kd.R_lit (Kd.int .u8) _ 5 ?hg (N:=31) ?hd (xs:=([(wrap64 ((wrap64 (16 * a0)) + a1)) % 256] : List Int)) (inner:=[.int .u8 ((wrap64 ((wrap64 (16 * a0)) + a1)) % 256)]) (ok:=fun _ => True) (okp:=fun _ => True) ?hr ?hp (fun _ hk => hk) trivial (Below.refl _ _) (Nat.le_refl _) (by simp) ?_;(case hd => rfl);(case hg => rfl);(case hr => first|(go_simp;done)|(go_simp;rfl));(case hp => exact (Reps.one (show Kd.M (Kd.int .u8) _ _ _ ((wrap64 ((wrap64 (16 * a0)) + a1)) % 256) [.int .u8 ((wrap64 ((wrap64 (16 * a0)) + a1)) % 256)] from rfl) (Reps.none _ _)));intro v220 w14 ho15 hb hg_ hnew_;clear hg_ hnew_;(first|rw [← Ny219.out] at ho15|(simp only [Int.reduceToNat] at ho15;rw [← Ny219.out] at ho15));have n0_:=mk_ (Kd.R_lower ho15 (bz_ (qb_ HB)));have n1_:=mk_ (st_ (qb_ HB) hb);clear HB;have HO221:=n0_;have HB:=n1_;clear n0_ n1_ hb ho15)|((with_reducible refine gate_builtin (b:=.append) (xs:=#[.tmp 31,.tmp 32]) rfl ?_);(try (refine gate_guard (by rfl) ?_;dsimp only));at_builtin;refine Kd.R_append_rows (Kd.int .u8) (w0:=w) w.heap.size rfl (.tmp 31) (.tmp 32) 22 5 (.int .u8 0) 1 rfl Try.underlying22 info5 rfl (by decide) (by omega) v220 y219 l2 _ _ _ (fun _ => True) (fun _ => False) rfl rfl ?aO ?aR (fun _ _ h => h) (fun _ h => h.elim) ?aF ?aB ?aS ?aL ?_;(case aR => exact qn_ HR2 HB);(case aB => exact (qb_ HB));(case aF => exact (fun _ _ => trivial));(case aO => exact (qr_ HO221));(case aS => exact (bz_ (qb_ HB)));(case aL => have:=LMc12.out;omega);intro v223 w16 ho hb hg hat;rw [← Ny222.out] at ho;have n0_:=mk_ (hb);have n1_:=mk_ (ho);clear HB HO221;have HB:=n0_;have HO224:=n1_;clear n0_ n1_ ho hb hg hat;obtain ⟨Ao17,co17,eo17⟩:=Kd.R_slice HO224.out;subst eo17)|((with_reducible refine gate_callee (f:=87) rfl ?_);refine goesL_ (some 34) rfl rfl Try.func87 (by kernel_rfl) rfl #[.slice Ao17 y222.length co17] rfl qm_ ?_;(with_reducible refine (spec_AddCrc.calls k _ _ y222 t225 t226 _ ?side1 ?side2 A13.out).mono ?_);(case side1 => repeat (first|exact (rr_ HO224.out).2.2|(with_reducible refine ca_ ?_ _)|(with_reducible refine cn_ ?_ _)|(with_reducible refine cd_ ?_)));(case side2 => exact (rr_ HO224.out).2.1);rintro e w18 ⟨v227,rfl,ho0,hb⟩;refine ⟨_,rfl,?_⟩;have n0_:=mk_ (re_ (qr_ HO224) (Kd.R_base ho0) hb);have n1_:=mk_ (Kd.R_lower (Kd.R_new' ho0 (Kd.R_lt (qr_ HO224))) (bz_ (qb_ HB)));have n2_:=mk_ (st_ (qb_ HB) hb);clear HO224 HB;have HO224:=n0_;have HO228:=n1_;have HB:=n2_;clear n0_ n1_ n2_;(try clear hb);(try clear hb2);(try clear hk);(try clear hi);(try clear ho0)))
      go_ret2
      exact ⟨_,qe_,by (with_reducible repeat (first|apply ra_|apply rn_|apply rd_));exact rm_ HO228.out (λ_ _=>trivial),u0_ HB⟩
     ·rw [if_neg c12] at H
      exact absurd H (by simp)
   ·rw [if_neg c8] at H
    have c8b0 : (a0 == 2) = false:=beq_eq_false_iff_ne.mpr c8
    have c8b1 : (a0 != 2) = true:=bne_iff_ne.mpr c8
    obtain ⟨y229,hy229⟩ : ∃ y_ : List Int,y_ = (([(wrap64 ((wrap64 (16 * a0)) + a1)) % 256] : List Int)):=⟨_,rfl⟩
    replace H : (if y229.length + l2.length < 140737488355328 then ((spec_AddCrc.f k (y229 ++ l2)).bind fun bt235 => (some (bt235.1,bt235.2))) else (none)) = some (r1,r2):=by first|(rw [hy229];with_reducible exact H)|(have H2_:=(Option.bind_some _ _).symm.trans H;rw [hy229];with_reducible exact H2_)|(have H2_:=(Option.bind_some _ _).symm.trans H;with_reducible exact H2_)|with_reducible exact H|(rw [hy229];exact H)|exact H
    have Ny229:=mk_ hy229
    clear hy229
    by_cases c19 : y229.length + l2.length < 140737488355328
    ·rw [if_pos c19] at H
     have LMc19:=mk_ c19
     clear c19
     obtain ⟨y232,hy232⟩ : ∃ y_ : List Int,y_ = (y229 ++ l2):=⟨_,rfl⟩
     replace H : ((spec_AddCrc.f k y232).bind fun bt235 => (some (bt235.1,bt235.2))) = some (r1,r2):=by first|(rw [hy232];with_reducible exact H)|(have H2_:=(Option.bind_some _ _).symm.trans H;rw [hy232];with_reducible exact H2_)|(have H2_:=(Option.bind_some _ _).symm.trans H;with_reducible exact H2_)|with_reducible exact H|(rw [hy232];exact H)|exact H
     have Ny232:=mk_ hy232
     clear hy232
     replace H:=Option.bind_eq_some_iff.mp H
     obtain ⟨⟨t235,t236⟩,A200,H⟩:=H
     replace H : (some (t235,t236)) = some (r1,r2):=H
     have A20:=mk_ A200
     clear A200
     simp only [Option.some.injEq,Prod.mk.injEq] at H
     obtain ⟨rfl,rfl⟩:=H
     go_enter Try.func73,Try.ntmps73
     go_wp2_with (first|((with_reducible refine gate_callee (f:=36) rfl ?_);refine goesL_ (some 9) rfl rfl Try.func36 (by kernel_rfl) rfl #[.int .i64 a0,.int .i64 1,.int .i64 2] rfl qm_ ?_;(with_reducible refine (spec_l1In.calls a0 1 2 true _ A4.out).mono ?_);rintro e w' ⟨rfl,⟨nd,rfl⟩⟩;refine ⟨_,rfl,?_⟩)|(go_at_call 36;(with_reducible refine (spec_l1In.calls a1 0 15 true _ A6.out).mono ?_);rintro e w' ⟨rfl,⟨nd,rfl⟩⟩)|((with_reducible refine gate_dst (N:=31) rfl ?_);(try (refine gate_guard (by rfl) ?_;dsimp only));refine Kd.R_lit (Kd.int .u8) _ 5 ?hg (N:=31) ?hd (xs:=([(wrap64 ((wrap64 (16 * a0)) + a1)) % 256] : List Int)) (inner:=[.int .u8 ((wrap64 ((wrap64 (16 * a0)) + a1)) % 256)]) (ok:=fun _ => True) (okp:=fun _ => True) ?hr ?hp (fun _ hk => hk) trivial (Below.refl _ _) (Nat.le_refl _) (by simp) ?_;(case hd => rfl);(case hg => rfl);(case hr => first|(go_simp;done)|(go_simp;rfl));(case hp => exact (Reps.one (show Kd.M (Kd.int .u8) _ _ _ ((wrap64 ((wrap64 (16 * a0)) + a1)) % 256) [.int .u8 ((wrap64 ((wrap64 (16 * a0)) + a1)) % 256)] from rfl) (Reps.none _ _)));intro v230 w21 ho22 hb hg_ hnew_;clear hg_ hnew_;(first|rw [← Ny229.out] at ho22|(simp only [Int.reduceToNat] at ho22;rw [← Ny229.out] at ho22));have n0_:=mk_ (Kd.R_lower ho22 (bz_ (qb_ HB)));have n1_:=mk_ (st_ (qb_ HB) hb);clear HB;have HO231:=n0_;have HB:=n1_;clear n0_ n1_ hb ho22)|((with_reducible refine gate_builtin (b:=.append) (xs:=#[.tmp 31,.tmp 32]) rfl ?_);(try (refine gate_guard (by rfl) ?_;dsimp only));at_builtin;refine Kd.R_append_rows (Kd.int .u8) (w0:=w) w.heap.size rfl (.tmp 31) (.tmp 32) 22 5 (.int .u8 0) 1 rfl Try.underlying22 info5 rfl (by decide) (by omega) v230 y229 l2 _ _ _ (fun _ => True) (fun _ => False) rfl rfl ?aO ?aR (fun _ _ h => h) (fun _ h => h.elim) ?aF ?aB ?aS ?aL ?_;(case aR => exact qn_ HR2 HB);(case aB => exact (qb_ HB));(case aF => exact (fun _ _ => trivial));(case aO => exact (qr_ HO231));(case aS => exact (bz_ (qb_ HB)));(case aL => have:=LMc19.out;omega);intro v233 w23 ho hb hg hat;rw [← Ny232.out] at ho;have n0_:=mk_ (hb);have n1_:=mk_ (ho);clear HB HO231;have HB:=n0_;have HO234:=n1_;clear n0_ n1_ ho hb hg hat;obtain ⟨Ao24,co24,eo24⟩:=Kd.R_slice HO234.out;subst eo24)|((with_reducible refine gate_callee (f:=87) rfl ?_);refine goesL_ (some 34) rfl rfl Try.func87 (by kernel_rfl) rfl #[.slice Ao24 y232.length co24] rfl qm_ ?_;(with_reducible refine (spec_AddCrc.calls k _ _ y232 t235 t236 _ ?side1 ?side2 A20.out).mono ?_);(case side1 => repeat (first|exact (rr_ HO234.out).2.2|(with_reducible refine ca_ ?_ _)|(with_reducible refine cn_ ?_ _)|(with_reducible refine cd_ ?_)));(case side2 => exact (rr_ HO234.out).2.1);rintro e w25 ⟨v237,rfl,ho0,hb⟩;refine ⟨_,rfl,?_⟩;have n0_:=mk_ (re_ (qr_ HO234) (Kd.R_base ho0) hb);have n1_:=mk_ (Kd.R_lower (Kd.R_new' ho0 (Kd.R_lt (qr_ HO234))) (bz_ (qb_ HB)));have n2_:=mk_ (st_ (qb_ HB) hb);clear HO234 HB;have HO234:=n0_;have HO238:=n1_;have HB:=n2_;clear n0_ n1_ n2_;(try clear hb);(try clear hb2);(try clear hk);(try clear hi);(try clear ho0)))
     go_ret2
     exact ⟨_,qe_,by (with_reducible repeat (first|apply ra_|apply rn_|apply rd_));exact rm_ HO238.out (λ_ _=>trivial),u0_ HB⟩
    ·rw [if_neg c19] at H
     exact absurd H (by simp)
  ·replace c7:=Bool.eq_false_iff.mpr c7
   subst c7
   have H1 : (some ((([] : List Int)),false)) = some (r1,r2):=by rw [if_neg (show ¬ (false = true) by decide)] at H;exact H
   clear H
   have H:=H1
   clear H1
   obtain ⟨y239,hy239⟩ : ∃ y_ : List Int,y_ = (([] : List Int)):=⟨_,rfl⟩
   replace H : (some (y239,false)) = some (r1,r2):=by first|(rw [hy239];with_reducible exact H)|(have H2_:=(Option.bind_some _ _).symm.trans H;rw [hy239];with_reducible exact H2_)|(have H2_:=(Option.bind_some _ _).symm.trans H;with_reducible exact H2_)|with_reducible exact H|(rw [hy239];exact H)|exact H
   have Ny239:=mk_ hy239
   clear hy239
   simp only [Option.some.injEq,Prod.mk.injEq] at H
   obtain ⟨rfl,rfl⟩:=H
   go_enter Try.func73,Try.ntmps73
   go_wp2_with (first|((with_reducible refine gate_callee (f:=36) rfl ?_);refine goesL_ (some 9) rfl rfl Try.func36 (by kernel_rfl) rfl #[.int .i64 a0,.int .i64 1,.int .i64 2] rfl qm_ ?_;(with_reducible refine (spec_l1In.calls a0 1 2 true _ A4.out).mono ?_);rintro e w' ⟨rfl,⟨nd,rfl⟩⟩;refine ⟨_,rfl,?_⟩)|(go_at_call 36;(with_reducible refine (spec_l1In.calls a1 0 15 false _ A6.out).mono ?_);rintro e w' ⟨rfl,⟨nd,rfl⟩⟩)|((with_reducible refine gate_dst (N:=25) rfl ?_);(try (refine gate_guard (by rfl) ?_;dsimp only));refine Kd.R_lit (Kd.int .u8) _ 5 ?hg (N:=25) ?hd (xs:=([] : List Int)) (inner:=[]) (ok:=fun _ => True) (okp:=fun _ => True) ?hr ?hp (fun _ hk => hk) trivial (Below.refl _ _) (Nat.le_refl _) (by simp) ?_;(case hd => rfl);(case hg => rfl);(case hr => first|(go_simp;done)|(go_simp;rfl));(case hp => exact (Reps.none _ _));intro v240 w26 ho27 hb hg_ hnew_;clear hg_ hnew_;(first|rw [← Ny239.out] at ho27|(simp only [Int.reduceToNat] at ho27;rw [← Ny239.out] at ho27));have n0_:=mk_ (Kd.R_lower ho27 (bz_ (qb_ HB)));have n1_:=mk_ (st_ (qb_ HB) hb);clear HB;have HO241:=n0_;have HB:=n1_;clear n0_ n1_ hb ho27))
   go_ret2
   exact ⟨_,qe_,qr_ HO241,u0_ HB⟩
 ·replace c5:=Bool.eq_false_iff.mpr c5
  subst c5
  have H1 : (some ((([] : List Int)),false)) = some (r1,r2):=by rw [if_neg (show ¬ (false = true) by decide)] at H;exact H
  clear H
  have H:=H1
  clear H1
  obtain ⟨y242,hy242⟩ : ∃ y_ : List Int,y_ = (([] : List Int)):=⟨_,rfl⟩
  replace H : (some (y242,false)) = some (r1,r2):=by first|(rw [hy242];with_reducible exact H)|(have H2_:=(Option.bind_some _ _).symm.trans H;rw [hy242];with_reducible exact H2_)|(have H2_:=(Option.bind_some _ _).symm.trans H;with_reducible exact H2_)|with_reducible exact H|(rw [hy242];exact H)|exact H
  have Ny242:=mk_ hy242
  clear hy242
  simp only [Option.some.injEq,Prod.mk.injEq] at H
  obtain ⟨rfl,rfl⟩:=H
  go_enter Try.func73,Try.ntmps73
  go_wp2_with (first|((with_reducible refine gate_callee (f:=36) rfl ?_);refine goesL_ (some 9) rfl rfl Try.func36 (by kernel_rfl) rfl #[.int .i64 a0,.int .i64 1,.int .i64 2] rfl qm_ ?_;(with_reducible refine (spec_l1In.calls a0 1 2 false _ A4.out).mono ?_);rintro e w' ⟨rfl,⟨nd,rfl⟩⟩;refine ⟨_,rfl,?_⟩)|((with_reducible refine gate_dst (N:=25) rfl ?_);(try (refine gate_guard (by rfl) ?_;dsimp only));refine Kd.R_lit (Kd.int .u8) _ 5 ?hg (N:=25) ?hd (xs:=([] : List Int)) (inner:=[]) (ok:=fun _ => True) (okp:=fun _ => True) ?hr ?hp (fun _ hk => hk) trivial (Below.refl _ _) (Nat.le_refl _) (by simp) ?_;(case hd => rfl);(case hg => rfl);(case hr => first|(go_simp;done)|(go_simp;rfl));(case hp => exact (Reps.none _ _));intro v243 w28 ho29 hb hg_ hnew_;clear hg_ hnew_;(first|rw [← Ny242.out] at ho29|(simp only [Int.reduceToNat] at ho29;rw [← Ny242.out] at ho29));have n0_:=mk_ (Kd.R_lower ho29 (bz_ (qb_ HB)));have n1_:=mk_ (st_ (qb_ HB) hb);clear HB;have HO244:=n0_;have HB:=n1_;clear n0_ n1_ hb ho29))
  go_ret2
  exact ⟨_,qe_,qr_ HO244,u0_ HB⟩

/-! ### spec_l4List: function 88 -/
def spec_l4List.l0 : Nat → List (List Int) → Int → Option (Bool)
 | 0,_,_ => none
 | k + 1,x0,x3 => if x3 < (x0.length : Int) then (if 0 ≤ x3 then ((spec_l1Data.f (rd_L4 x0 x3)).bind fun t246 => (if t246 = true then (spec_l4List.l0 k x0 (wrap64 (x3 + 1))) else (some false))) else (none)) else (some (decide ((x0.length : Int) ≤ 60)))
def spec_l4List.f (k : Nat) (l0 : List (List Int)) : Option (Bool):=spec_l4List.l0 k l0 0
theorem spec_l4List.mono_l : ∀ k,(∀ y0 y1,LeO (spec_l4List.l0 k y0 y1) (spec_l4List.l0 (k + 1) y0 y1))
 | 0 => fun _ _ r h => by simp [spec_l4List.l0] at h
 | k + 1 => by
  have ih0:=spec_l4List.mono_l k
  ·intro y0 y1
   unfold spec_l4List.l0
   repeat' first
   | (with_reducible exact ih0 _ _)
   | (with_reducible exact LeO.refl _)
   | (with_reducible exact LeO.none _)
   | (with_reducible refine LeO.ite ?_ ?_)
   | (with_reducible refine LeO.bind ?_ (fun _ => ?_))
   | exact ih0 _ _
   | exact LeO.none _
   | refine LeO.ite ?_ ?_
   | refine LeO.bind ?_ (fun _ => ?_)
theorem spec_l4List.mono : ∀ a0 k,LeO (spec_l4List.f k a0) (spec_l4List.f (k + 1) a0):=by
 intro a0 k
 have ih0:=spec_l4List.mono_l k
 unfold spec_l4List.f
 repeat' first
   | (with_reducible exact ih0 _ _)
   | (with_reducible exact LeO.refl _)
   | (with_reducible exact LeO.none _)
   | (with_reducible refine LeO.ite ?_ ?_)
   | (with_reducible refine LeO.bind ?_ (fun _ => ?_))
   | exact ih0 _ _
   | exact LeO.none _
   | refine LeO.ite ?_ ?_
   | refine LeO.bind ?_ (fun _ => ?_)
set_option maxHeartbeats 8000000 in
set_option maxRecDepth 100000 in
theorem spec_l4List.calls (k : Nat) (A0 : Option Addr) (c0 : Nat) (l0 : List (List Int)) (r : Bool) (w : World) (hr0 : Kd.C (Kd.slice 5 (Kd.int .u8)) w A0 l0.length l0) (hc0 : l0.length ≤ c0) (h : spec_l4List.f k l0 = some r) :
  Calls Try.prog 88 #[.slice A0 l0.length c0] w fun e w' => e = .returned (.bool r) ∧ Drawn0 w w':=by
 have HR0:=mk_ hr0
 have HC0:=mk_ hc0
 clear hr0 hc0
 have H : (spec_l4List.l0 k l0 0) = some r:=h
 clear h
 have H':=mk_ H
 clear H
 go_enter Try.func88,Try.ntmps88
 go_wp2
 go_loopg [3] k (fun kq v3 w' => ∃ (x3_1 : Int),v3 = .int .i64 x3_1 ∧ Aside0 (spec_l4List.l0 kq l0 x3_1 = some r) ∧ Aside0 (kq ≤ k) ∧ Drawn0 w w')
 case atStart => exact ⟨(0),qf_,H',⟨Nat.le_refl _⟩,by repeat (first|exact Drawn0.refl _|apply Drawn0.step)⟩
 case round =>
  clear H'
  obtain ⟨x3_1,rfl,HA,HK1,⟨m1,rfl⟩⟩:=hrel
  cases gk with
  | zero => exact absurd HA.out (by simp [spec_l4List.l0])
  | succ k1 =>
   have H:=HA.out
   clear HA
   simp only [spec_l4List.l0] at H
   by_cases c2 : x3_1 < (l0.length : Int)
   ·rw [if_pos c2] at H
    have c2b0 : decide (x3_1 < (l0.length : Int)) = true:=decide_eq_true c2
    clear c2
    by_cases c3 : 0 ≤ x3_1
    ·rw [if_pos c3] at H
     have c3b0 : decide (0 ≤ x3_1) = true:=decide_eq_true c3
     clear c3
     replace H:=Option.bind_eq_some_iff.mp H
     obtain ⟨t246,A40,H⟩:=H
     replace H : (if t246 = true then (spec_l4List.l0 k1 l0 (wrap64 (x3_1 + 1))) else (some false)) = some r:=H
     have A4:=mk_ A40
     clear A40
     by_cases c5 : t246 = true
     ·subst c5
      have H1 : (spec_l4List.l0 k1 l0 (wrap64 (x3_1 + 1))) = some r:=by rw [if_pos rfl] at H;exact H
      clear H
      have H:=H1
      clear H1
      have H':=mk_ H
      clear H
      have p245 : 0 ≤ (x3_1 : Int):=od_ qa_
      have q245 : x3_1 < (l0.length : Int):=od_ qa_
      obtain ⟨ad245,A245_0,c245_0,e245,hx245_0,hl245_0,hi245_0⟩:=at_L4 HR0.out x3_1 p245 q245
      cases e245
      have HR245_0:=mk_ hi245_0
      have HC245_0:=mk_ hl245_0
      clear hi245_0 hl245_0
      replace p245:=eq_true p245
      replace q245:=eq_true q245
      go_wp2_with (first|((with_reducible refine gate_callee (f:=97) rfl ?_);refine goesL_ (some 14) rfl rfl Try.func97 (by kernel_rfl) rfl #[.slice A245_0 (rd_L4 l0 x3_1).length c245_0] rfl qm_ ?_;(with_reducible refine (spec_l1Data.calls _ _ (rd_L4 l0 x3_1) true _ ?side1 ?side2 A4.out).mono ?_);(case side1 => repeat (first|exact HR245_0.out|(with_reducible refine ca_ ?_ _)|(with_reducible refine cn_ ?_ _)|(with_reducible refine cd_ ?_)));(case side2 => exact HC245_0.out);rintro e w' ⟨rfl,⟨nd,rfl⟩⟩;refine ⟨_,rfl,?_⟩))
      go_roundg k1
      case measure => have:=HK1.out;omega
      case rel => exact ⟨(wrap64 (x3_1 + 1)),qf_,H',⟨by have:=HK1.out;omega⟩,by repeat (first|exact Drawn0.refl _|apply Drawn0.step)⟩
     ·replace c5:=Bool.eq_false_iff.mpr c5
      subst c5
      have H1 : (some false) = some r:=by rw [if_neg (show ¬ (false = true) by decide)] at H;exact H
      clear H
      have H:=H1
      clear H1
      obtain rfl:=Option.some.inj H
      have p245 : 0 ≤ (x3_1 : Int):=od_ qa_
      have q245 : x3_1 < (l0.length : Int):=od_ qa_
      obtain ⟨ad245,A245_0,c245_0,e245,hx245_0,hl245_0,hi245_0⟩:=at_L4 HR0.out x3_1 p245 q245
      cases e245
      have HR245_0:=mk_ hi245_0
      have HC245_0:=mk_ hl245_0
      clear hi245_0 hl245_0
      replace p245:=eq_true p245
      replace q245:=eq_true q245
      go_wp2_with (first|((with_reducible refine gate_callee (f:=97) rfl ?_);refine goesL_ (some 14) rfl rfl Try.func97 (by kernel_rfl) rfl #[.slice A245_0 (rd_L4 l0 x3_1).length c245_0] rfl qm_ ?_;(with_reducible refine (spec_l1Data.calls _ _ (rd_L4 l0 x3_1) false _ ?side1 ?side2 A4.out).mono ?_);(case side1 => repeat (first|exact HR245_0.out|(with_reducible refine ca_ ?_ _)|(with_reducible refine cn_ ?_ _)|(with_reducible refine cd_ ?_)));(case side2 => exact HC245_0.out);rintro e w' ⟨rfl,⟨nd,rfl⟩⟩;refine ⟨_,rfl,?_⟩))
      go_ret
      exact ⟨by first|rfl|(simp;done)|(simp [*];done),by repeat (first|exact Drawn0.refl _|apply Drawn0.step)⟩
    ·rw [if_neg c3] at H
     exact absurd H (by simp)
   ·rw [if_neg c2] at H
    have c2b0 : decide (x3_1 < (l0.length : Int)) = false:=decide_eq_false c2
    clear c2
    obtain rfl:=Option.some.inj H
    go_wp2
    go_ret
    exact ⟨by first|rfl|(simp;done)|(simp [*];done),by repeat (first|exact Drawn0.refl _|apply Drawn0.step)⟩

/-! ### spec_l4Fate: function 90 -/
def spec_l4Fate.f (l0 : List Int) (a1 : Int) : Option (Int):=if a1 < (l0.length : Int) then (if 0 ≤ a1 then (some (rd l0 a1)) else (none)) else (some 0)
set_option maxHeartbeats 8000000 in
set_option maxRecDepth 100000 in
theorem spec_l4Fate.calls (A0 : Option Addr) (c0 : Nat) (l0 : List Int) (a1 : Int) (r : Int) (w : World) (hr0 : Kd.C (Kd.int .i64) w A0 l0.length l0) (hc0 : l0.length ≤ c0) (h : spec_l4Fate.f l0 a1 = some r) :
  Calls Try.prog 90 #[.slice A0 l0.length c0,.int .i64 a1] w fun e w' => e = .returned (.int .i64 r) ∧ Drawn0 w w':=by
 have HR0:=mk_ hr0
 have HC0:=mk_ hc0
 clear hr0 hc0
 have H : (if a1 < (l0.length : Int) then (if 0 ≤ a1 then (some (rd l0 a1)) else (none)) else (some 0)) = some r:=h
 clear h
 by_cases c3 : a1 < (l0.length : Int)
 ·rw [if_pos c3] at H
  have c3b0 : decide (a1 < (l0.length : Int)) = true:=decide_eq_true c3
  clear c3
  by_cases c4 : 0 ≤ a1
  ·rw [if_pos c4] at H
   have c4b0 : decide (0 ≤ a1) = true:=decide_eq_true c4
   clear c4
   obtain rfl:=Option.some.inj H
   have p247 : 0 ≤ (a1 : Int):=od_ qa_
   have q247 : a1 < (l0.length : Int):=od_ qa_
   obtain ⟨ad247,e247,hx247_0⟩:=Kd.at_int HR0.out a1 p247 q247
   cases e247
   replace p247:=eq_true p247
   replace q247:=eq_true q247
   go_enter Try.func90,Try.ntmps90
   go_wp2
   go_ret
   exact ⟨by first|rfl|(simp;done)|(simp [*];done),by repeat (first|exact Drawn0.refl _|apply Drawn0.step)⟩
  ·rw [if_neg c4] at H
   exact absurd H (by simp)
 ·rw [if_neg c3] at H
  have c3b0 : decide (a1 < (l0.length : Int)) = false:=decide_eq_false c3
  clear c3
  obtain rfl:=Option.some.inj H
  go_enter Try.func90,Try.ntmps90
  go_wp2
  go_ret
  exact ⟨by first|rfl|(simp;done)|(simp [*];done),by repeat (first|exact Drawn0.refl _|apply Drawn0.step)⟩

/-! ### spec_l4At: function 98 -/
def spec_l4At.f (l0 : List Int) (a1 : Int) : Option (Int):=(spec_l4Fate.f l0 a1).bind fun t248 => (if t248 = 1 then (some (-1)) else (if t248 = 3 then (some (wrap64 ((wrap64 (2 * a1)) + 3))) else (some (wrap64 (2 * a1)))))
set_option maxHeartbeats 8000000 in
set_option maxRecDepth 100000 in
theorem spec_l4At.calls (A0 : Option Addr) (c0 : Nat) (l0 : List Int) (a1 : Int) (r : Int) (w : World) (hr0 : Kd.C (Kd.int .i64) w A0 l0.length l0) (hc0 : l0.length ≤ c0) (h : spec_l4At.f l0 a1 = some r) :
  Calls Try.prog 98 #[.slice A0 l0.length c0,.int .i64 a1] w fun e w' => e = .returned (.int .i64 r) ∧ Drawn0 w w':=by
 have HR0:=mk_ hr0
 have HC0:=mk_ hc0
 clear hr0 hc0
 have H : ((spec_l4Fate.f l0 a1).bind fun t248 => (if t248 = 1 then (some (-1)) else (if t248 = 3 then (some (wrap64 ((wrap64 (2 * a1)) + 3))) else (some (wrap64 (2 * a1)))))) = some r:=h
 clear h
 replace H:=Option.bind_eq_some_iff.mp H
 obtain ⟨t248,A30,H⟩:=H
 replace H : (if t248 = 1 then (some (-1)) else (if t248 = 3 then (some (wrap64 ((wrap64 (2 * a1)) + 3))) else (some (wrap64 (2 * a1))))) = some r:=H
 have A3:=mk_ A30
 clear A30
 by_cases c4 : t248 = 1
 ·rw [if_pos c4] at H
  have c4b0 : (t248 == 1) = true:=beq_iff_eq.mpr c4
  have c4b1 : (t248 != 1) = false:=bne_eq_false_iff_eq.mpr c4
  clear c4
  obtain rfl:=Option.some.inj H
  go_enter Try.func98,Try.ntmps98
  go_wp2_with (first|((with_reducible refine gate_callee (f:=90) rfl ?_);refine goesL_ (some 7) rfl rfl Try.func90 (by kernel_rfl) rfl #[.slice A0 l0.length c0,.int .i64 a1] rfl qm_ ?_;(with_reducible refine (spec_l4Fate.calls _ _ l0 a1 t248 _ ?side1 ?side2 A3.out).mono ?_);(case side1 => repeat (first|exact HR0.out|(with_reducible refine ca_ ?_ _)|(with_reducible refine cn_ ?_ _)|(with_reducible refine cd_ ?_)));(case side2 => exact HC0.out);rintro e w' ⟨rfl,⟨nd,rfl⟩⟩;refine ⟨_,rfl,?_⟩))
  go_ret
  exact ⟨by first|rfl|(simp;done)|(simp [*];done),by repeat (first|exact Drawn0.refl _|apply Drawn0.step)⟩
 ·rw [if_neg c4] at H
  have c4b0 : (t248 == 1) = false:=beq_eq_false_iff_ne.mpr c4
  have c4b1 : (t248 != 1) = true:=bne_iff_ne.mpr c4
  by_cases c5 : t248 = 3
  ·rw [if_pos c5] at H
   have c5b0 : (t248 == 3) = true:=beq_iff_eq.mpr c5
   have c5b1 : (t248 != 3) = false:=bne_eq_false_iff_eq.mpr c5
   clear c5
   obtain rfl:=Option.some.inj H
   go_enter Try.func98,Try.ntmps98
   go_wp2_with (first|((with_reducible refine gate_callee (f:=90) rfl ?_);refine goesL_ (some 7) rfl rfl Try.func90 (by kernel_rfl) rfl #[.slice A0 l0.length c0,.int .i64 a1] rfl qm_ ?_;(with_reducible refine (spec_l4Fate.calls _ _ l0 a1 t248 _ ?side1 ?side2 A3.out).mono ?_);(case side1 => repeat (first|exact HR0.out|(with_reducible refine ca_ ?_ _)|(with_reducible refine cn_ ?_ _)|(with_reducible refine cd_ ?_)));(case side2 => exact HC0.out);rintro e w' ⟨rfl,⟨nd,rfl⟩⟩;refine ⟨_,rfl,?_⟩))
   go_ret
   exact ⟨by first|rfl|(simp;done)|(simp [*];done),by repeat (first|exact Drawn0.refl _|apply Drawn0.step)⟩
  ·rw [if_neg c5] at H
   have c5b0 : (t248 == 3) = false:=beq_eq_false_iff_ne.mpr c5
   have c5b1 : (t248 != 3) = true:=bne_iff_ne.mpr c5
   obtain rfl:=Option.some.inj H
   go_enter Try.func98,Try.ntmps98
   go_wp2_with (first|((with_reducible refine gate_callee (f:=90) rfl ?_);refine goesL_ (some 7) rfl rfl Try.func90 (by kernel_rfl) rfl #[.slice A0 l0.length c0,.int .i64 a1] rfl qm_ ?_;(with_reducible refine (spec_l4Fate.calls _ _ l0 a1 t248 _ ?side1 ?side2 A3.out).mono ?_);(case side1 => repeat (first|exact HR0.out|(with_reducible refine ca_ ?_ _)|(with_reducible refine cn_ ?_ _)|(with_reducible refine cd_ ?_)));(case side2 => exact HC0.out);rintro e w' ⟨rfl,⟨nd,rfl⟩⟩;refine ⟨_,rfl,?_⟩))
   go_ret
   exact ⟨by first|rfl|(simp;done)|(simp [*];done),by repeat (first|exact Drawn0.refl _|apply Drawn0.step)⟩

/-! ### spec_ArrivalsOf: function 89 -/
mutual
def spec_ArrivalsOf.j0 : Nat → List Int → Int → List Int → Bool → Option (List Int)
 | 0,_,_,_,_ => none
 | k + 1,x0,x1,x5,x16 => if x16 = true then (some x5) else (spec_ArrivalsOf.l0 k x0 x1 x5 0)
def spec_ArrivalsOf.l0 : Nat → List Int → Int → List Int → Int → Option (List Int)
 | 0,_,_,_,_ => none
 | k + 1,x0,x1,x5,x6 => if x6 < (wrap64 ((wrap64 (2 * x1)) + 3)) then (spec_ArrivalsOf.l1 k x0 x1 x5 x6 0) else (some x5)
def spec_ArrivalsOf.l1 : Nat → List Int → Int → List Int → Int → Int → Option (List Int)
 | 0,_,_,_,_,_ => none
 | k + 1,x0,x1,x5,x6,x7 => if x7 < x1 then ((spec_l4At.f x0 x7).bind fun t254 => (if t254 = x6 then (if x5.length < 17592186044416 then ((some (x5 ++ [x7] : List Int)).bind fun y255 => ((spec_l4Fate.f x0 x7).bind fun t258 => (if t258 = 2 then (if y255.length < 17592186044416 then (spec_ArrivalsOf.l1 k x0 x1 (y255 ++ [x7]) x6 (wrap64 (x7 + 1))) else (none)) else (spec_ArrivalsOf.l1 k x0 x1 y255 x6 (wrap64 (x7 + 1)))))) else (none)) else (spec_ArrivalsOf.l1 k x0 x1 x5 x6 (wrap64 (x7 + 1))))) else (spec_ArrivalsOf.l0 k x0 x1 x5 (wrap64 (x6 + 1)))
end
def spec_ArrivalsOf.f (k : Nat) (l0 : List Int) (a1 : Int) : Option (List Int):=(some (([] : List Int) : List Int)).bind fun y249 => ((spec_FatesValid.f k l0).bind fun t252 => (if t252 = true then ((spec_l1In.f a1 0 60).bind fun t253 => (spec_ArrivalsOf.j0 k l0 a1 y249 (!t253))) else (spec_ArrivalsOf.j0 k l0 a1 y249 true)))
theorem spec_ArrivalsOf.mono_l : ∀ k,(∀ y0 y1 y2 y3,LeO (spec_ArrivalsOf.j0 k y0 y1 y2 y3) (spec_ArrivalsOf.j0 (k + 1) y0 y1 y2 y3)) ∧ (∀ y0 y1 y2 y3,LeO (spec_ArrivalsOf.l0 k y0 y1 y2 y3) (spec_ArrivalsOf.l0 (k + 1) y0 y1 y2 y3)) ∧ (∀ y0 y1 y2 y3 y4,LeO (spec_ArrivalsOf.l1 k y0 y1 y2 y3 y4) (spec_ArrivalsOf.l1 (k + 1) y0 y1 y2 y3 y4))
 | 0 => ⟨fun _ _ _ _ r h => by simp [spec_ArrivalsOf.j0] at h,fun _ _ _ _ r h => by simp [spec_ArrivalsOf.l0] at h,fun _ _ _ _ _ r h => by simp [spec_ArrivalsOf.l1] at h⟩
 | k + 1 => by
  obtain ⟨ih0,ih1,ih2⟩:=spec_ArrivalsOf.mono_l k
  refine ⟨?_,?_,?_⟩
  ·intro y0 y1 y2 y3
   unfold spec_ArrivalsOf.j0
   repeat' first
   | (with_reducible exact ih0 _ _ _ _)
   | (with_reducible exact ih1 _ _ _ _)
   | (with_reducible exact ih2 _ _ _ _ _)
   | (with_reducible exact spec_FatesValid.mono _ _)
   | (with_reducible exact LeO.refl _)
   | (with_reducible exact LeO.none _)
   | (with_reducible refine LeO.ite ?_ ?_)
   | (with_reducible refine LeO.bind ?_ (fun _ => ?_))
   | exact ih0 _ _ _ _
   | exact ih1 _ _ _ _
   | exact ih2 _ _ _ _ _
   | exact spec_FatesValid.mono _ _
   | exact LeO.none _
   | refine LeO.ite ?_ ?_
   | refine LeO.bind ?_ (fun _ => ?_)
  ·intro y0 y1 y2 y3
   unfold spec_ArrivalsOf.l0
   repeat' first
   | (with_reducible exact ih0 _ _ _ _)
   | (with_reducible exact ih1 _ _ _ _)
   | (with_reducible exact ih2 _ _ _ _ _)
   | (with_reducible exact spec_FatesValid.mono _ _)
   | (with_reducible exact LeO.refl _)
   | (with_reducible exact LeO.none _)
   | (with_reducible refine LeO.ite ?_ ?_)
   | (with_reducible refine LeO.bind ?_ (fun _ => ?_))
   | exact ih0 _ _ _ _
   | exact ih1 _ _ _ _
   | exact ih2 _ _ _ _ _
   | exact spec_FatesValid.mono _ _
   | exact LeO.none _
   | refine LeO.ite ?_ ?_
   | refine LeO.bind ?_ (fun _ => ?_)
  ·intro y0 y1 y2 y3 y4
   unfold spec_ArrivalsOf.l1
   repeat' first
   | (with_reducible exact ih0 _ _ _ _)
   | (with_reducible exact ih1 _ _ _ _)
   | (with_reducible exact ih2 _ _ _ _ _)
   | (with_reducible exact spec_FatesValid.mono _ _)
   | (with_reducible exact LeO.refl _)
   | (with_reducible exact LeO.none _)
   | (with_reducible refine LeO.ite ?_ ?_)
   | (with_reducible refine LeO.bind ?_ (fun _ => ?_))
   | exact ih0 _ _ _ _
   | exact ih1 _ _ _ _
   | exact ih2 _ _ _ _ _
   | exact spec_FatesValid.mono _ _
   | exact LeO.none _
   | refine LeO.ite ?_ ?_
   | refine LeO.bind ?_ (fun _ => ?_)
theorem spec_ArrivalsOf.mono : ∀ a0 a1 k,LeO (spec_ArrivalsOf.f k a0 a1) (spec_ArrivalsOf.f (k + 1) a0 a1):=by
 intro a0 a1 k
 obtain ⟨ih0,ih1,ih2⟩:=spec_ArrivalsOf.mono_l k
 unfold spec_ArrivalsOf.f
 repeat' first
   | (with_reducible exact ih0 _ _ _ _)
   | (with_reducible exact ih1 _ _ _ _)
   | (with_reducible exact ih2 _ _ _ _ _)
   | (with_reducible exact spec_FatesValid.mono _ _)
   | (with_reducible exact LeO.refl _)
   | (with_reducible exact LeO.none _)
   | (with_reducible refine LeO.ite ?_ ?_)
   | (with_reducible refine LeO.bind ?_ (fun _ => ?_))
   | exact ih0 _ _ _ _
   | exact ih1 _ _ _ _
   | exact ih2 _ _ _ _ _
   | exact spec_FatesValid.mono _ _
   | exact LeO.none _
   | refine LeO.ite ?_ ?_
   | refine LeO.bind ?_ (fun _ => ?_)
set_option maxHeartbeats 8000000 in
set_option maxRecDepth 100000 in
theorem spec_ArrivalsOf.calls (k : Nat) (A0 : Option Addr) (c0 : Nat) (l0 : List Int) (a1 : Int) (r : List Int) (w : World) (hr0 : Kd.C (Kd.int .i64) w A0 l0.length l0) (hc0 : l0.length ≤ c0) (h : spec_ArrivalsOf.f k l0 a1 = some r) :
  Calls Try.prog 89 #[.slice A0 l0.length c0,.int .i64 a1] w fun e w' => ∃ v0_ : Value,e = .returned (v0_) ∧ Kd.R (Kd.int .i64) 3 w' w.heap.size (fun _ => True) v0_ r ∧ Below w.heap.size w w':=by
 have HR0:=mk_ hr0
 have HC0:=mk_ hc0
 clear hr0 hc0
 have HB:=mk_ (Below.refl w.heap.size w)
 have H : ((some (([] : List Int) : List Int)).bind fun y249 => ((spec_FatesValid.f k l0).bind fun t252 => (if t252 = true then ((spec_l1In.f a1 0 60).bind fun t253 => (spec_ArrivalsOf.j0 k l0 a1 y249 (!t253))) else (spec_ArrivalsOf.j0 k l0 a1 y249 true)))) = some r:=h
 clear h
 obtain ⟨y249,hy249⟩ : ∃ y_ : List Int,y_ = (([] : List Int)):=⟨_,rfl⟩
 replace H : ((spec_FatesValid.f k l0).bind fun t252 => (if t252 = true then ((spec_l1In.f a1 0 60).bind fun t253 => (spec_ArrivalsOf.j0 k l0 a1 y249 (!t253))) else (spec_ArrivalsOf.j0 k l0 a1 y249 true))) = some r:=by first|(rw [hy249];with_reducible exact H)|(have H2_:=(Option.bind_some _ _).symm.trans H;rw [hy249];with_reducible exact H2_)|(have H2_:=(Option.bind_some _ _).symm.trans H;with_reducible exact H2_)|with_reducible exact H|(rw [hy249];exact H)|exact H
 have Ny249:=mk_ hy249
 clear hy249
 have HC3:=mk_ H
 clear H
 go_enter Try.func89,Try.ntmps89
 go_upto_region 2 with (first|((with_reducible refine gate_dst (N:=8) rfl ?_);refine Kd.R_lit (Kd.int .i64) _ 3 ?hg (N:=8) ?hd (xs:=([] : List Int)) (inner:=[]) (ok:=fun _ => True) (okp:=fun _ => True) ?hr ?hp (fun _ hk => hk) trivial (Below.refl _ _) (Nat.le_refl _) (by simp) ?_;(case hd => rfl);(case hg => rfl);(case hr => first|(go_simp;done)|(go_simp;rfl));(case hp => exact (Reps.none _ _));intro v250 w4 ho5 hb hg_ hnew_;clear hg_ hnew_;(first|rw [← Ny249.out] at ho5|(simp only [Int.reduceToNat] at ho5;rw [← Ny249.out] at ho5));have n0_:=mk_ (Kd.R_lower ho5 (bz_ (qb_ HB)));have n1_:=mk_ (st_ (qb_ HB) hb);clear HB;have HO251:=n0_;have HB:=n1_;clear n0_ n1_ hb ho5))
 (try simp only [Act.put,sx_,sy_,sz_])
 go_cut [16] (fun v16 wc => ∃ (kq : Nat) (x16_2 : Bool),v16 = .bool x16_2 ∧ Aside0 (spec_ArrivalsOf.j0 kq l0 a1 y249 x16_2 = some r) ∧ Aside0 (kq ≤ k) ∧ Aside0 (Kd.R (Kd.int .i64) 3 wc w.heap.size (fun _ => True) v250 y249) ∧ Aside0 (Below w.heap.size w wc))
 case first =>
  have H:=HC3.out
  clear HC3
  replace H:=Option.bind_eq_some_iff.mp H
  obtain ⟨t252,A60,H⟩:=H
  replace H : (if t252 = true then ((spec_l1In.f a1 0 60).bind fun t253 => (spec_ArrivalsOf.j0 k l0 a1 y249 (!t253))) else (spec_ArrivalsOf.j0 k l0 a1 y249 true)) = some r:=H
  have A6:=mk_ A60
  clear A60
  by_cases c7 : t252 = true
  ·subst c7
   have H1 : ((spec_l1In.f a1 0 60).bind fun t253 => (spec_ArrivalsOf.j0 k l0 a1 y249 (!t253))) = some r:=by rw [if_pos rfl] at H;exact H
   clear H
   have H:=H1
   clear H1
   replace H:=Option.bind_eq_some_iff.mp H
   obtain ⟨t253,A80,H⟩:=H
   replace H : (spec_ArrivalsOf.j0 k l0 a1 y249 (!t253)) = some r:=H
   have A8:=mk_ A80
   clear A80
   have H':=mk_ H
   clear H
   go_wp2_with (first|((with_reducible refine gate_callee (f:=44) rfl ?_);refine goesL_ (some 10) rfl rfl Try.func44 (by kernel_rfl) rfl #[.slice A0 l0.length c0] rfl qm_ ?_;(with_reducible refine (spec_FatesValid.calls k _ _ l0 true _ ?side1 ?side2 A6.out).mono ?_);(case side1 => exact qn_ HR0 HB);(case side2 => exact HC0.out);rintro e w' ⟨rfl,⟨nd,rfl⟩⟩;refine ⟨_,rfl,?_⟩)|(go_at_call 36;(with_reducible refine (spec_l1In.calls a1 0 60 t253 _ A8.out).mono ?_);rintro e w' ⟨rfl,⟨nd,rfl⟩⟩))
   go_meet
   case rel => exact ⟨_,(!t253),qf_,H',⟨by first|omega|exact Nat.le_refl _⟩,⟨qr_ HO251⟩,⟨u0_ HB⟩⟩
  ·replace c7:=Bool.eq_false_iff.mpr c7
   subst c7
   have H1 : (spec_ArrivalsOf.j0 k l0 a1 y249 true) = some r:=by rw [if_neg (show ¬ (false = true) by decide)] at H;exact H
   clear H
   have H:=H1
   clear H1
   have H':=mk_ H
   clear H
   go_wp2_with (first|((with_reducible refine gate_callee (f:=44) rfl ?_);refine goesL_ (some 10) rfl rfl Try.func44 (by kernel_rfl) rfl #[.slice A0 l0.length c0] rfl qm_ ?_;(with_reducible refine (spec_FatesValid.calls k _ _ l0 false _ ?side1 ?side2 A6.out).mono ?_);(case side1 => exact qn_ HR0 HB);(case side2 => exact HC0.out);rintro e w' ⟨rfl,⟨nd,rfl⟩⟩;refine ⟨_,rfl,?_⟩))
   go_meet
   case rel => exact ⟨_,(true),qf_,H',⟨by first|omega|exact Nat.le_refl _⟩,⟨qr_ HO251⟩,⟨u0_ HB⟩⟩
 case rest =>
  clear HC3
  try clear p2
  try clear c4
  try clear c7
  try clear c8
  obtain ⟨kq,x16_2,rfl,HA,HJ2,HO_5,HB⟩:=hcut
  cases kq with
  | zero => exact absurd HA.out (by simp [spec_ArrivalsOf.j0])
  | succ kj2 =>
   have H:=HA.out
   clear HA
   simp only [spec_ArrivalsOf.j0] at H
   by_cases c9 : x16_2 = true
   ·subst c9
    have H1 : (some y249) = some r:=by rw [if_pos rfl] at H;exact H
    clear H
    have H:=H1
    clear H1
    obtain rfl:=Option.some.inj H
    go_wp2
    go_ret
    exact ⟨_,qe_,qr_ HO_5,u0_ HB⟩
   ·replace c9:=Bool.eq_false_iff.mpr c9
    subst c9
    have H1 : (spec_ArrivalsOf.l0 kj2 l0 a1 y249 0) = some r:=by rw [if_neg (show ¬ (false = true) by decide)] at H;exact H
    clear H
    have H:=H1
    clear H1
    have H':=mk_ H
    clear H
    go_wp2
    go_loopg [5,6] kj2 (fun kq v5 v6 w' => ∃ (x5_2 : List Int) (x6_2 : Int),v6 = .int .i64 x6_2 ∧ Aside0 (spec_ArrivalsOf.l0 kq l0 a1 x5_2 x6_2 = some r) ∧ Aside0 (kq ≤ kj2) ∧ Aside0 (Kd.R (Kd.int .i64) 3 w' w.heap.size (fun _ => True) v5 x5_2) ∧ Aside0 (Below w.heap.size w w'))
    case atStart => exact ⟨(y249),(0),qf_,H',⟨Nat.le_refl _⟩,⟨qr_ HO_5⟩,⟨u0_ HB⟩⟩
    case round =>
     clear H'
     try clear p2
     try clear c4
     try clear c7
     try clear c8
     try clear c9
     try clear p2
     obtain ⟨x5_2,x6_2,rfl,HA,HK2,HO_5,HB⟩:=hrel
     cases gk with
     | zero => exact absurd HA.out (by simp [spec_ArrivalsOf.l0])
     | succ k2 =>
      have H:=HA.out
      clear HA
      simp only [spec_ArrivalsOf.l0] at H
      by_cases c10 : x6_2 < (wrap64 ((wrap64 (2 * a1)) + 3))
      ·rw [if_pos c10] at H
       have c10b0 : decide (x6_2 < (wrap64 ((wrap64 (2 * a1)) + 3))) = true:=decide_eq_true c10
       clear c10
       have H':=mk_ H
       clear H
       go_wp2
       go_loopg [5,7] k2 (fun kq v5 v7 w' => ∃ (x5_3 : List Int) (x7_3 : Int),v7 = .int .i64 x7_3 ∧ Aside0 (spec_ArrivalsOf.l1 kq l0 a1 x5_3 x6_2 x7_3 = some r) ∧ Aside0 (kq ≤ k2) ∧ Aside0 (Kd.R (Kd.int .i64) 3 w' w.heap.size (fun _ => True) v5 x5_3) ∧ Aside0 (Below w.heap.size w w'))
       case atStart => exact ⟨(x5_2),(0),qf_,H',⟨Nat.le_refl _⟩,⟨qr_ HO_5⟩,⟨u0_ HB⟩⟩
       case round =>
        clear H'
        try clear c1
        try clear p2
        try clear c4
        try clear p6
        try clear c7
        try clear c8
        try clear c9
        try clear c10
        try clear c10b0
        try clear p2
        obtain ⟨x5_3,x7_3,rfl,HA,HK3,HO_5,HB⟩:=hrel
        cases gk with
        | zero => exact absurd HA.out (by simp [spec_ArrivalsOf.l1])
        | succ k3 =>
         have H:=HA.out
         clear HA
         simp only [spec_ArrivalsOf.l1] at H
         by_cases c11 : x7_3 < a1
         ·rw [if_pos c11] at H
          have c11b0 : decide (x7_3 < a1) = true:=decide_eq_true c11
          clear c11
          replace H:=Option.bind_eq_some_iff.mp H
          obtain ⟨t254,A120,H⟩:=H
          replace H : (if t254 = x6_2 then (if x5_3.length < 17592186044416 then ((some (x5_3 ++ [x7_3] : List Int)).bind fun y255 => ((spec_l4Fate.f l0 x7_3).bind fun t258 => (if t258 = 2 then (if y255.length < 17592186044416 then (spec_ArrivalsOf.l1 k3 l0 a1 (y255 ++ [x7_3]) x6_2 (wrap64 (x7_3 + 1))) else (none)) else (spec_ArrivalsOf.l1 k3 l0 a1 y255 x6_2 (wrap64 (x7_3 + 1)))))) else (none)) else (spec_ArrivalsOf.l1 k3 l0 a1 x5_3 x6_2 (wrap64 (x7_3 + 1)))) = some r:=H
          have A12:=mk_ A120
          clear A120
          by_cases c13 : t254 = x6_2
          ·rw [if_pos c13] at H
           have c13b0 : (t254 == x6_2) = true:=beq_iff_eq.mpr c13
           have c13b1 : (t254 != x6_2) = false:=bne_eq_false_iff_eq.mpr c13
           clear c13
           by_cases c14 : x5_3.length < 17592186044416
           ·rw [if_pos c14] at H
            have LMc14:=mk_ c14
            clear c14
            obtain ⟨y255,hy255⟩ : ∃ y_ : List Int,y_ = (x5_3 ++ [x7_3]):=⟨_,rfl⟩
            replace H : ((spec_l4Fate.f l0 x7_3).bind fun t258 => (if t258 = 2 then (if y255.length < 17592186044416 then (spec_ArrivalsOf.l1 k3 l0 a1 (y255 ++ [x7_3]) x6_2 (wrap64 (x7_3 + 1))) else (none)) else (spec_ArrivalsOf.l1 k3 l0 a1 y255 x6_2 (wrap64 (x7_3 + 1))))) = some r:=by first|(rw [hy255];with_reducible exact H)|(have H2_:=(Option.bind_some _ _).symm.trans H;rw [hy255];with_reducible exact H2_)|(have H2_:=(Option.bind_some _ _).symm.trans H;with_reducible exact H2_)|with_reducible exact H|(rw [hy255];exact H)|exact H
            have Ny255:=mk_ hy255
            clear hy255
            replace H:=Option.bind_eq_some_iff.mp H
            obtain ⟨t258,A150,H⟩:=H
            replace H : (if t258 = 2 then (if y255.length < 17592186044416 then (spec_ArrivalsOf.l1 k3 l0 a1 (y255 ++ [x7_3]) x6_2 (wrap64 (x7_3 + 1))) else (none)) else (spec_ArrivalsOf.l1 k3 l0 a1 y255 x6_2 (wrap64 (x7_3 + 1)))) = some r:=H
            have A15:=mk_ A150
            clear A150
            by_cases c16 : t258 = 2
            ·rw [if_pos c16] at H
             have c16b0 : (t258 == 2) = true:=beq_iff_eq.mpr c16
             have c16b1 : (t258 != 2) = false:=bne_eq_false_iff_eq.mpr c16
             clear c16
             by_cases c17 : y255.length < 17592186044416
             ·rw [if_pos c17] at H
              have LMc17:=mk_ c17
              clear c17
              obtain ⟨y259,hy259⟩ : ∃ y_ : List Int,y_ = (y255 ++ [x7_3]):=⟨_,rfl⟩
              replace H : (spec_ArrivalsOf.l1 k3 l0 a1 y259 x6_2 (wrap64 (x7_3 + 1))) = some r:=by first|(rw [hy259];with_reducible exact H)|(have H2_:=(Option.bind_some _ _).symm.trans H;rw [hy259];with_reducible exact H2_)|(have H2_:=(Option.bind_some _ _).symm.trans H;with_reducible exact H2_)|with_reducible exact H|(rw [hy259];exact H)|exact H
              have Ny259:=mk_ hy259
              clear hy259
              have H':=mk_ H
              clear H
              go_wp2_with (first|((with_reducible refine gate_callee (f:=98) rfl ?_);refine goesL_ (some 32) rfl rfl Try.func98 (by kernel_rfl) rfl #[.slice A0 l0.length c0,.int .i64 x7_3] rfl qm_ ?_;(with_reducible refine (spec_l4At.calls _ _ l0 x7_3 t254 _ ?side1 ?side2 A12.out).mono ?_);(case side1 => exact qn_ HR0 HB);(case side2 => exact HC0.out);rintro e w' ⟨rfl,⟨nd,rfl⟩⟩;refine ⟨_,rfl,?_⟩)|((with_reducible refine gate_builtin (b:=.append) (xs:=#[.tmp 35,.tmp 37]) rfl ?_);at_builtin;refine Kd.R_append (Kd.int .i64) (w0:=w) w.heap.size rfl (.tmp 35) (.tmp 37) 24 3 (.int .i64 0) 8 rfl Try.underlying24 info3 rfl (by decide) (by omega) u5 x5_3 x7_3 [.int .i64 x7_3] (fun _ => True) (fun _ => False) rfl rfl ?aP (fun _ hk => hk.elim) ?aF ?aO ?aB ?aS ?aL ?_;(case aP => exact rfl);(case aB => exact (qb_ HB));(case aF => exact (fun _ _ => trivial));(case aO => exact (qr_ HO_5));(case aS => exact (bz_ (qb_ HB)));(case aL => have:=LMc14.out;omega);intro v256 w18 ho hb hg hat;rw [← Ny255.out] at ho;have n0_:=mk_ (hb);have n1_:=mk_ (ho);clear HB HO_5;have HB:=n0_;have HO257:=n1_;clear n0_ n1_ ho hb hg hat)|((with_reducible refine gate_callee (f:=90) rfl ?_);refine goesL_ (some 41) rfl rfl Try.func90 (by kernel_rfl) rfl #[.slice A0 l0.length c0,.int .i64 x7_3] rfl qm_ ?_;(with_reducible refine (spec_l4Fate.calls _ _ l0 x7_3 t258 _ ?side1 ?side2 A15.out).mono ?_);(case side1 => exact qn_ HR0 HB);(case side2 => exact HC0.out);rintro e w' ⟨rfl,⟨nd,rfl⟩⟩;refine ⟨_,rfl,?_⟩)|((with_reducible refine gate_builtin (b:=.append) (xs:=#[.tmp 43,.tmp 45]) rfl ?_);at_builtin;refine Kd.R_append (Kd.int .i64) (w0:=w) w.heap.size rfl (.tmp 43) (.tmp 45) 24 3 (.int .i64 0) 8 rfl Try.underlying24 info3 rfl (by decide) (by omega) v256 y255 x7_3 [.int .i64 x7_3] (fun _ => True) (fun _ => False) rfl rfl ?aP (fun _ hk => hk.elim) ?aF ?aO ?aB ?aS ?aL ?_;(case aP => exact rfl);(case aB => exact (qb_ HB));(case aF => exact (fun _ _ => trivial));(case aO => exact (qr_ HO257));(case aS => exact (bz_ (qb_ HB)));(case aL => have:=LMc17.out;omega);intro v260 w19 ho hb hg hat;rw [← Ny259.out] at ho;have n0_:=mk_ (hb);have n1_:=mk_ (ho);clear HB HO257;have HB:=n0_;have HO261:=n1_;clear n0_ n1_ ho hb hg hat))
              go_roundg k3
              case measure => have:=HJ2.out;have:=HK2.out;have:=HK3.out;omega
              case rel => exact ⟨(y259),(wrap64 (x7_3 + 1)),qf_,H',⟨by have:=HJ2.out;have:=HK2.out;have:=HK3.out;omega⟩,⟨qr_ HO261⟩,⟨u0_ HB⟩⟩
             ·rw [if_neg c17] at H
              exact absurd H (by simp)
            ·rw [if_neg c16] at H
             have c16b0 : (t258 == 2) = false:=beq_eq_false_iff_ne.mpr c16
             have c16b1 : (t258 != 2) = true:=bne_iff_ne.mpr c16
             have H':=mk_ H
             clear H
             go_wp2_with (first|((with_reducible refine gate_callee (f:=98) rfl ?_);refine goesL_ (some 32) rfl rfl Try.func98 (by kernel_rfl) rfl #[.slice A0 l0.length c0,.int .i64 x7_3] rfl qm_ ?_;(with_reducible refine (spec_l4At.calls _ _ l0 x7_3 t254 _ ?side1 ?side2 A12.out).mono ?_);(case side1 => exact qn_ HR0 HB);(case side2 => exact HC0.out);rintro e w' ⟨rfl,⟨nd,rfl⟩⟩;refine ⟨_,rfl,?_⟩)|((with_reducible refine gate_builtin (b:=.append) (xs:=#[.tmp 35,.tmp 37]) rfl ?_);at_builtin;refine Kd.R_append (Kd.int .i64) (w0:=w) w.heap.size rfl (.tmp 35) (.tmp 37) 24 3 (.int .i64 0) 8 rfl Try.underlying24 info3 rfl (by decide) (by omega) u5 x5_3 x7_3 [.int .i64 x7_3] (fun _ => True) (fun _ => False) rfl rfl ?aP (fun _ hk => hk.elim) ?aF ?aO ?aB ?aS ?aL ?_;(case aP => exact rfl);(case aB => exact (qb_ HB));(case aF => exact (fun _ _ => trivial));(case aO => exact (qr_ HO_5));(case aS => exact (bz_ (qb_ HB)));(case aL => have:=LMc14.out;omega);intro v256 w20 ho hb hg hat;rw [← Ny255.out] at ho;have n0_:=mk_ (hb);have n1_:=mk_ (ho);clear HB HO_5;have HB:=n0_;have HO257:=n1_;clear n0_ n1_ ho hb hg hat)|((with_reducible refine gate_callee (f:=90) rfl ?_);refine goesL_ (some 41) rfl rfl Try.func90 (by kernel_rfl) rfl #[.slice A0 l0.length c0,.int .i64 x7_3] rfl qm_ ?_;(with_reducible refine (spec_l4Fate.calls _ _ l0 x7_3 t258 _ ?side1 ?side2 A15.out).mono ?_);(case side1 => exact qn_ HR0 HB);(case side2 => exact HC0.out);rintro e w' ⟨rfl,⟨nd,rfl⟩⟩;refine ⟨_,rfl,?_⟩))
             go_roundg k3
             case measure => have:=HJ2.out;have:=HK2.out;have:=HK3.out;omega
             case rel => exact ⟨(y255),(wrap64 (x7_3 + 1)),qf_,H',⟨by have:=HJ2.out;have:=HK2.out;have:=HK3.out;omega⟩,⟨qr_ HO257⟩,⟨u0_ HB⟩⟩
           ·rw [if_neg c14] at H
            exact absurd H (by simp)
          ·rw [if_neg c13] at H
           have c13b0 : (t254 == x6_2) = false:=beq_eq_false_iff_ne.mpr c13
           have c13b1 : (t254 != x6_2) = true:=bne_iff_ne.mpr c13
           have H':=mk_ H
           clear H
           go_wp2_with (first|((with_reducible refine gate_callee (f:=98) rfl ?_);refine goesL_ (some 32) rfl rfl Try.func98 (by kernel_rfl) rfl #[.slice A0 l0.length c0,.int .i64 x7_3] rfl qm_ ?_;(with_reducible refine (spec_l4At.calls _ _ l0 x7_3 t254 _ ?side1 ?side2 A12.out).mono ?_);(case side1 => exact qn_ HR0 HB);(case side2 => exact HC0.out);rintro e w' ⟨rfl,⟨nd,rfl⟩⟩;refine ⟨_,rfl,?_⟩))
           go_roundg k3
           case measure => have:=HJ2.out;have:=HK2.out;have:=HK3.out;omega
           case rel => exact ⟨(x5_3),(wrap64 (x7_3 + 1)),qf_,H',⟨by have:=HJ2.out;have:=HK2.out;have:=HK3.out;omega⟩,⟨qr_ HO_5⟩,⟨u0_ HB⟩⟩
         ·rw [if_neg c11] at H
          have c11b0 : decide (x7_3 < a1) = false:=decide_eq_false c11
          clear c11
          have H':=mk_ H
          clear H
          go_wp2
          go_roundg k3
          case measure => have:=HJ2.out;have:=HK2.out;have:=HK3.out;omega
          case rel => exact ⟨(x5_3),(wrap64 (x6_2 + 1)),qf_,H',⟨by have:=HJ2.out;have:=HK2.out;have:=HK3.out;omega⟩,⟨qr_ HO_5⟩,⟨u0_ HB⟩⟩
      ·rw [if_neg c10] at H
       have c10b0 : decide (x6_2 < (wrap64 ((wrap64 (2 * a1)) + 3))) = false:=decide_eq_false c10
       clear c10
       obtain rfl:=Option.some.inj H
       go_wp2
       go_ret
       exact ⟨_,qe_,qr_ HO_5,u0_ HB⟩

/-! ### spec_l1Flip: function 91 -/
def spec_l1Flip.f (l0 : List Int) (a1 : Int) : Option (List Int):=(some (([] : List Int) : List Int)).bind fun y262 => (if y262.length + l0.length < 140737488355328 then ((some (y262 ++ l0 : List Int)).bind fun y265 => (if 0 ≤ (wrap64 (Int.tdiv a1 8)) then (if (wrap64 (Int.tdiv a1 8)) < (y265.length : Int) then (if 0 ≤ (wrap64 (7 - (Int.tmod a1 8))) then (some (y265.set ((wrap64 (Int.tdiv a1 8)) : Int).toNat (Go.bits .xor .u8 (rd y265 (wrap64 (Int.tdiv a1 8))) (shl .u8 1 (wrap64 (7 - (Int.tmod a1 8))))))) else (none)) else (none)) else (none))) else (none))
def spec_l1Flip.T2 : Bool × List (List Nat × List Nat):=(true,[([],[]),([],[]),([1],[1]),([],[]),([],[]),([4],[4]),([3,5],[3,5]),([6],[6]),([],[]),([8],[8]),([9],[9]),([10],[10]),([7,11],[7,11]),([0,2,0,1,2,3,4,5,6,7,8,9,10,11,12],[0,2]),([13,12,0,1,2,3,4,5,6,7,8,9,10,11,12],[12,13])])
def spec_l1Flip.B2 : List Nat:=[0,0,2,0,0,16,56,120,0,256,768,1792,4088,8191,16383]
theorem spec_l1Flip.tab2 : rtab .any (opsOf Try.f91 2) = spec_l1Flip.T2:=by kernel_rfl
theorem spec_l1Flip.bits2 : waitsOk spec_l1Flip.T2.2 spec_l1Flip.B2 = true:=by kernel_rfl
set_option maxHeartbeats 8000000 in
set_option maxRecDepth 100000 in
theorem spec_l1Flip.calls (A0 : Option Addr) (c0 : Nat) (l0 : List Int) (a1 : Int) (r : List Int) (w : World) (hr0 : Kd.C (Kd.int .u8) w A0 l0.length l0) (hc0 : l0.length ≤ c0) (h : spec_l1Flip.f l0 a1 = some r) :
  Calls Try.prog 91 #[.slice A0 l0.length c0,.int .i64 a1] w fun e w' => ∃ v0_ : Value,e = .returned (v0_) ∧ Kd.R (Kd.int .u8) 5 w' w.heap.size (fun _ => True) v0_ r ∧ Below w.heap.size w w':=by
 have HR0:=mk_ hr0
 have HC0:=mk_ hc0
 clear hr0 hc0
 have HB:=mk_ (Below.refl w.heap.size w)
 have H : ((some (([] : List Int) : List Int)).bind fun y262 => (if y262.length + l0.length < 140737488355328 then ((some (y262 ++ l0 : List Int)).bind fun y265 => (if 0 ≤ (wrap64 (Int.tdiv a1 8)) then (if (wrap64 (Int.tdiv a1 8)) < (y265.length : Int) then (if 0 ≤ (wrap64 (7 - (Int.tmod a1 8))) then (some (y265.set ((wrap64 (Int.tdiv a1 8)) : Int).toNat (Go.bits .xor .u8 (rd y265 (wrap64 (Int.tdiv a1 8))) (shl .u8 1 (wrap64 (7 - (Int.tmod a1 8))))))) else (none)) else (none)) else (none))) else (none))) = some r:=h
 clear h
 obtain ⟨y262,hy262⟩ : ∃ y_ : List Int,y_ = (([] : List Int)):=⟨_,rfl⟩
 replace H : (if y262.length + l0.length < 140737488355328 then ((some (y262 ++ l0 : List Int)).bind fun y265 => (if 0 ≤ (wrap64 (Int.tdiv a1 8)) then (if (wrap64 (Int.tdiv a1 8)) < (y265.length : Int) then (if 0 ≤ (wrap64 (7 - (Int.tmod a1 8))) then (some (y265.set ((wrap64 (Int.tdiv a1 8)) : Int).toNat (Go.bits .xor .u8 (rd y265 (wrap64 (Int.tdiv a1 8))) (shl .u8 1 (wrap64 (7 - (Int.tmod a1 8))))))) else (none)) else (none)) else (none))) else (none)) = some r:=by first|(rw [hy262];with_reducible exact H)|(have H2_:=(Option.bind_some _ _).symm.trans H;rw [hy262];with_reducible exact H2_)|(have H2_:=(Option.bind_some _ _).symm.trans H;with_reducible exact H2_)|with_reducible exact H|(rw [hy262];exact H)|exact H
 have Ny262:=mk_ hy262
 clear hy262
 by_cases c3 : y262.length + l0.length < 140737488355328
 ·rw [if_pos c3] at H
  have LMc3:=mk_ c3
  clear c3
  obtain ⟨y265,hy265⟩ : ∃ y_ : List Int,y_ = (y262 ++ l0):=⟨_,rfl⟩
  replace H : (if 0 ≤ (wrap64 (Int.tdiv a1 8)) then (if (wrap64 (Int.tdiv a1 8)) < (y265.length : Int) then (if 0 ≤ (wrap64 (7 - (Int.tmod a1 8))) then (some (y265.set ((wrap64 (Int.tdiv a1 8)) : Int).toNat (Go.bits .xor .u8 (rd y265 (wrap64 (Int.tdiv a1 8))) (shl .u8 1 (wrap64 (7 - (Int.tmod a1 8))))))) else (none)) else (none)) else (none)) = some r:=by first|(rw [hy265];with_reducible exact H)|(have H2_:=(Option.bind_some _ _).symm.trans H;rw [hy265];with_reducible exact H2_)|(have H2_:=(Option.bind_some _ _).symm.trans H;with_reducible exact H2_)|with_reducible exact H|(rw [hy265];exact H)|exact H
  have Ny265:=mk_ hy265
  clear hy265
  obtain ⟨ji4,hji4⟩ : ∃ j_ : Int,(wrap64 (Int.tdiv a1 8)) = j_:=⟨_,rfl⟩
  replace H : (if 0 ≤ (ji4) then (if (ji4) < (y265.length : Int) then (if 0 ≤ (wrap64 (7 - (Int.tmod a1 8))) then (some (y265.set ((ji4) : Int).toNat (Go.bits .xor .u8 (rd y265 (ji4)) (shl .u8 1 (wrap64 (7 - (Int.tmod a1 8))))))) else (none)) else (none)) else (none)) = some r:=by first|(rw [hji4] at H;exact H)|(simp only [hji4] at H ⊢;exact H)
  have hji4w : (IntKind.i64.wrap (Int.tdiv a1 8)) = ji4:=(i64_w _).trans hji4
  by_cases c5 : 0 ≤ (ji4)
  ·rw [if_pos c5] at H
   have c5b0 : decide (0 ≤ (ji4)) = true:=decide_eq_true c5
   clear c5
   by_cases c6 : (ji4) < (y265.length : Int)
   ·rw [if_pos c6] at H
    have c6b0 : decide ((ji4) < (y265.length : Int)) = true:=decide_eq_true c6
    clear c6
    obtain ⟨ji7,hji7⟩ : ∃ j_ : Int,(wrap64 (7 - (Int.tmod a1 8))) = j_:=⟨_,rfl⟩
    replace H : (if 0 ≤ (ji7) then (some (y265.set ((ji4) : Int).toNat (Go.bits .xor .u8 (rd y265 (ji4)) (shl .u8 1 (ji7))))) else (none)) = some r:=by first|(rw [hji7] at H;exact H)|(simp only [hji7] at H ⊢;exact H)
    have hji7w : (IntKind.i64.wrap (7 - (Int.tmod a1 8))) = ji7:=(i64_w _).trans hji7
    by_cases c8 : 0 ≤ (ji7)
    ·rw [if_pos c8] at H
     have c8b0:=eq_true c8
     have c8b1 : decide (0 ≤ (ji7)) = true:=decide_eq_true c8
     clear c8
     obtain ⟨ji9,hji9⟩ : ∃ j_ : Int,(shl .u8 1 (ji7)) = j_:=⟨_,rfl⟩
     replace H : (some (y265.set ((ji4) : Int).toNat (Go.bits .xor .u8 (rd y265 (ji4)) (ji9)))) = some r:=by first|(rw [hji9] at H;exact H)|(simp only [hji9] at H ⊢;exact H)
     have hji9_ : (IntKind.u8.wrap (1 * 2 ^ min (ji7).toNat 8)) = ji9:=hji9
     have hji9z : (ji7) ≤ 8 → (IntKind.u8.wrap (1 * 2 ^ (ji7).toNat)) = ji9:=shl_small hji9
     have hji9u : (IntKind.u8.wrap (2 ^ min (ji7).toNat 8)) = ji9:=by have h_:=hji9_;rw [Int.one_mul] at h_;exact h_
     have hji9v : (ji7) ≤ 8 → (IntKind.u8.wrap (2 ^ (ji7).toNat)) = ji9:=fun hle_ => by have h_:=hji9z hle_;rw [Int.one_mul] at h_;exact h_
     obtain ⟨y269,hy269⟩ : ∃ y_ : List Int,y_ = (y265.set ((ji4) : Int).toNat (Go.bits .xor .u8 (rd y265 (ji4)) (ji9))):=⟨_,rfl⟩
     replace H : (some y269) = some r:=by first|(rw [hy269];with_reducible exact H)|(have H2_:=(Option.bind_some _ _).symm.trans H;rw [hy269];with_reducible exact H2_)|(have H2_:=(Option.bind_some _ _).symm.trans H;with_reducible exact H2_)|with_reducible exact H|(rw [hy269];exact H)|exact H
     have Ny269:=mk_ hy269
     clear hy269
     obtain rfl:=Option.some.inj H
     go_enter Try.func91,Try.ntmps91
     try go_wp2_with (first|((with_reducible refine gate_dst (N:=6) rfl ?_);refine Kd.R_lit (Kd.int .u8) _ 5 ?hg (N:=6) ?hd (xs:=([] : List Int)) (inner:=[]) (ok:=fun _ => True) (okp:=fun _ => True) ?hr ?hp (fun _ hk => hk) trivial (Below.refl _ _) (Nat.le_refl _) (by simp) ?_;(case hd => rfl);(case hg => rfl);(case hr => first|(go_simp;done)|(go_simp;rfl));(case hp => exact (Reps.none _ _));intro v263 w11 ho12 hb hg_ hnew_;clear hg_ hnew_;(first|rw [← Ny262.out] at ho12|(simp only [Int.reduceToNat] at ho12;rw [← Ny262.out] at ho12));have n0_:=mk_ (Kd.R_lower ho12 (bz_ (qb_ HB)));have n1_:=mk_ (st_ (qb_ HB) hb);clear HB;have HO264:=n0_;have HB:=n1_;clear n0_ n1_ hb ho12)|((with_reducible refine gate_builtin (b:=.append) (xs:=#[.tmp 6,.tmp 7]) rfl ?_);at_builtin;refine Kd.R_append_rows (Kd.int .u8) (w0:=w) w.heap.size rfl (.tmp 6) (.tmp 7) 22 5 (.int .u8 0) 1 rfl Try.underlying22 info5 rfl (by decide) (by omega) v263 y262 l0 _ _ _ (fun _ => True) (fun _ => False) rfl rfl ?aO ?aR (fun _ _ h => h) (fun _ h => h.elim) ?aF ?aB ?aS ?aL ?_;(case aR => exact qn_ HR0 HB);(case aB => exact (qb_ HB));(case aF => exact (fun _ _ => trivial));(case aO => exact (qr_ HO264));(case aS => exact (bz_ (qb_ HB)));(case aL => have:=LMc3.out;omega);intro v266 w13 ho hb hg hat;rw [← Ny265.out] at ho;have n0_:=mk_ (hb);have n1_:=mk_ (ho);clear HB HO264;have HB:=n0_;have HO267:=n1_;clear n0_ n1_ ho hb hg hat))
     have n0_:=mk_ (rd_ HO267.out)
     have n1_:=mk_ (bd_ HB.out)
     clear HO267
     clear HB
     have HO267:=n0_
     have HB:=n1_
     clear n0_ n1_
     obtain ⟨Ao15,co15,eo15⟩:=Kd.R_slice HO267.out
     (first|subst eo15|(injection eo15 with f1_ f2_ f3_;have f4_:=f1_.symm;have f5_:=f3_.symm;clear f1_ f2_ f3_;subst f4_;subst f5_))
     have p268 : 0 ≤ ((ji4) : Int):=od_ qa_
     have q268 : (ji4) < (y265.length : Int):=od_ qa_
     obtain ⟨ad268,e268,hx268_0⟩:=Kd.at_int (rr_ HO267.out).2.2 (ji4) p268 q268
     cases e268
     replace p268:=eq_true p268
     replace q268:=eq_true q268
     have p10 : 0 ≤ ((ji4) : Int):=od_ qa_
     have q10 : ((ji4) : Int) < ((y265.length : Int) : Int):=od_ qa_
     obtain ⟨go10,co10,eo10,gb10,gl10,cl10,HG10⟩:=Kd.R_form HO267.out (by omega)
     (first|cases eo10|(injection eo10 with ea_ en_ ec_;(first|subst ea_|(injection ea_ with ea_;subst ea_));subst ec_;clear en_))
     have GB10:=mk_ gb10
     have GG10:=mk_ HG10
     clear gb10 gl10 HG10
     (first|simp only [add_plain] at hx268_0|skip)
     obtain ⟨hx10_0,hf10_0⟩:=Kd.R_celln 0 HO267.out ((ji4) : Int) p10 q10
     replace p10:=eq_true p10
     replace q10:=eq_true q10
     have HP16:=Kd.R_putn HO267.out ((ji4) : Int) (Go.bits .xor .u8 (rd y265 (ji4)) (ji9))
     rw [← Ny269.out] at HP16
     have HQ16:=mk_ HP16
     clear HP16
     refine start_ (n:=15) (S:=fun w' => w'.cell? ⟨go10,((ji4)).toNat,none⟩ = some (.int .u8 (rd y265 (ji4)))) (ds:=[14]) #[false,false,false,false,false,false,false,false,false,false,false,false,false,false,false] (by kernel_rfl) rfl rfl (hx268_0) (fun hHeld => ?_);refine with_tabW spec_l1Flip.tab2 spec_l1Flip.bits2 (fun HT_ HW_ => ?_)
     generalize w13.drew = w14 at HO267 HB GG10 HQ16 hf10_0 hx10_0 hx268_0 hHeld ⊢
     refine pure_ (i:=0) (N:=some 9) (v:=?_) (a':=?_) #[true,false,false,false,false,false,false,false,false,false,false,false,false,false,false] rfl rfl (any_of HT_.out (by kernel_rfl)) (fun _ _ _ h => h) (Or.inl ⟨by rfl,?_⟩) ?_ ?_
     rotate_left
     ·intro w'
      go_simp
      with_reducible rfl
     rotate_left
     ·simp only [Act.put,sx_,sy_,sz_,i64_w,i32_w]
      rfl
     refine pure_ (i:=1) (N:=some 10) (v:=?_) (a':=?_) #[true,true,false,false,false,false,false,false,false,false,false,false,false,false,false] rfl rfl (any_of HT_.out (by kernel_rfl)) (fun _ _ _ h => h) (Or.inl ⟨by rfl,?_⟩) ?_ ?_
     rotate_left
     ·intro w'
      go_simp
      with_reducible rfl
     rotate_left
     ·simp only [Act.put,sx_,sy_,sz_,i64_w,i32_w]
      rfl
     refine pure_ (i:=2) (N:=some 11) (v:=?_) (a':=?_) #[true,true,true,false,false,false,false,false,false,false,false,false,false,false,false] rfl rfl (any_of HT_.out (by kernel_rfl)) (fun _ _ _ h => h) (Or.inl ⟨by rfl,?_⟩) ?_ ?_
     rotate_left
     ·intro w'
      go_simp
      with_reducible rfl
     rotate_left
     ·simp only [Act.put,sx_,sy_,sz_,i64_w,i32_w]
      rfl
     refine pure_ (i:=3) (N:=some 12) (v:=?_) (a':=?_) #[true,true,true,true,false,false,false,false,false,false,false,false,false,false,false] rfl rfl (any_of HT_.out (by kernel_rfl)) (fun _ _ _ h => h) (Or.inl ⟨by rfl,?_⟩) ?_ ?_
     rotate_left
     ·intro w'
      go_simp
      with_reducible rfl
     rotate_left
     ·simp only [Act.put,sx_,sy_,sz_,i64_w,i32_w]
      rfl
     refine pure_ (i:=4) (N:=some 13) (v:=?_) (a':=?_) #[true,true,true,true,true,false,false,false,false,false,false,false,false,false,false] rfl rfl (any_of HT_.out (by kernel_rfl)) (fun _ _ _ h => h) (Or.inl ⟨by rfl,?_⟩) ?_ ?_
     rotate_left
     ·intro w'
      go_simp
      with_reducible rfl
     rotate_left
     ·simp only [Act.put,sx_,sy_,sz_,i64_w,i32_w]
      rfl
     refine pure_ (i:=5) (N:=some 14) (v:=?_) (a':=?_) #[true,true,true,true,true,true,false,false,false,false,false,false,false,false,false] rfl rfl (any_of HT_.out (by kernel_rfl)) (fun _ _ _ h => h) (Or.inl ⟨by rfl,?_⟩) ?_ ?_
     rotate_left
     ·intro w'
      go_simp
      with_reducible rfl
     rotate_left
     ·simp only [Act.put,sx_,sy_,sz_,i64_w,i32_w]
      rfl
     refine pure_ (i:=6) (N:=some 15) (v:=?_) (a':=?_) #[true,true,true,true,true,true,true,false,false,false,false,false,false,false,false] rfl rfl (any_of HT_.out (by kernel_rfl)) (fun _ _ _ h => h) (Or.inl ⟨by rfl,?_⟩) ?_ ?_
     rotate_left
     ·intro w'
      go_simp
      with_reducible rfl
     rotate_left
     ·simp only [Act.put,sx_,sy_,sz_,i64_w,i32_w]
      rfl
     refine pure_ (i:=8) (N:=some 17) (v:=?_) (a':=?_) #[true,true,true,true,true,true,true,false,true,false,false,false,false,false,false] rfl rfl (any_of HT_.out (by kernel_rfl)) (fun _ _ _ h => h) (Or.inl ⟨by rfl,?_⟩) ?_ ?_
     rotate_left
     ·intro w'
      go_simp
      with_reducible rfl
     rotate_left
     ·simp only [Act.put,sx_,sy_,sz_,i64_w,i32_w]
      rfl
     refine pure_ (i:=9) (N:=some 18) (v:=?_) (a':=?_) #[true,true,true,true,true,true,true,false,true,true,false,false,false,false,false] rfl rfl (any_of HT_.out (by kernel_rfl)) (fun _ _ _ h => h) (Or.inl ⟨by rfl,?_⟩) ?_ ?_
     rotate_left
     ·intro w'
      go_simp
      with_reducible rfl
     rotate_left
     ·simp only [Act.put,sx_,sy_,sz_,i64_w,i32_w]
      rfl
     refine pure_ (i:=10) (N:=some 19) (v:=?_) (a':=?_) #[true,true,true,true,true,true,true,false,true,true,true,false,false,false,false] rfl rfl (any_of HT_.out (by kernel_rfl)) (fun _ _ _ h => h) (Or.inl ⟨by rfl,?_⟩) ?_ ?_
     rotate_left
     ·intro w'
      go_simp
      with_reducible rfl
     rotate_left
     ·simp only [Act.put,sx_,sy_,sz_,i64_w,i32_w]
      rfl
     refine pure_ (i:=11) (N:=some 20) (v:=?_) (a':=?_) #[true,true,true,true,true,true,true,false,true,true,true,true,false,false,false] rfl rfl (any_of HT_.out (by kernel_rfl)) (fun _ _ _ h => h) (Or.inl ⟨by rfl,?_⟩) ?_ ?_
     rotate_left
     ·intro w'
      go_simp
      with_reducible rfl
     rotate_left
     ·simp only [Act.put,sx_,sy_,sz_,i64_w,i32_w]
      rfl
     refine take_ (i:=7) (N:=some 16) (v:=?_) (a':=?_) #[true,true,true,true,true,true,true,true,true,true,true,true,false,false,false] rfl rfl (take_ofW HT_.out HW_.out (by kernel_rfl)) (fun _ _ _ h => h) (Or.inl ⟨by rfl,?_⟩) hHeld ?_ ?_
     rotate_left
     ·intro w' s0
      go_simp
      with_reducible rfl
     rotate_left
     ·simp only [Act.put,sx_,sy_,sz_,i64_w,i32_w]
      rfl
     refine pure_ (i:=12) (N:=some 21) (v:=?_) (a':=?_) #[true,true,true,true,true,true,true,true,true,true,true,true,true,false,false] rfl rfl (any_of HT_.out (by kernel_rfl)) (fun _ _ _ h => h) (Or.inl ⟨by rfl,?_⟩) ?_ ?_
     rotate_left
     ·intro w'
      go_simp
      with_reducible rfl
     rotate_left
     ·simp only [Act.put,sx_,sy_,sz_,i64_w,i32_w]
      rfl
     refine pure_ (i:=13) (N:=some 22) (v:=?_) (a':=?_) #[true,true,true,true,true,true,true,true,true,true,true,true,true,true,false] rfl rfl (any_of HT_.out (by kernel_rfl)) (fun _ _ _ h => h) (Or.inl ⟨by rfl,?_⟩) ?_ ?_
     rotate_left
     ·intro w'
      go_simp
      with_reducible rfl
     rotate_left
     ·simp only [Act.put,sx_,sy_,sz_,i64_w,i32_w]
      rfl
     refine last_ (i:=14) (N:=none) #[true,true,true,true,true,true,true,true,true,true,true,true,true,true,true] rfl rfl (one_of HT_.out (by kernel_rfl)) (by decide) (fun K hK => ?_)
     refine skip_ (w1:=?_) (by rfl) rfl ?_ ?_
     rotate_left
     ·go_simp
      rfl
     refine hK.out _ _ ?_
     clear hK K
     refine done_ (done_of HT_.out (by kernel_rfl)) ?_
     try go_wp2
     go_ret
     exact ⟨_,by first|rfl|(simp [errW_none,errW_some] <;> rfl)|(simp only [← hji4,← hji7,← hji9];first|rfl|(simp [errW_none,errW_some] <;> rfl))|(simp [*,errW_none,errW_some] <;> rfl),qr_ HQ16,u1_ HB GB10⟩
    ·rw [if_neg c8] at H
     exact absurd H (by simp)
   ·rw [if_neg c6] at H
    exact absurd H (by simp)
  ·rw [if_neg c5] at H
   exact absurd H (by simp)
 ·rw [if_neg c3] at H
  exact absurd H (by simp)

/-! ### spec_PassWire: function 74 -/
def spec_PassWire.l0 : Nat → List Int → List (List Int) → List (List Int) → List Int → Int → Option ((List (List Int)))
 | 0,_,_,_,_,_ => none
 | k + 1,x0,x1,x5,x6,x7 => if x7 < (x6.length : Int) then ((some (([] : List Int) : List Int)).bind fun y277 => (if 0 ≤ x7 then (if 0 ≤ (rd x6 x7) then (if (rd x6 x7) < (x1.length : Int) then (if y277.length + (rd_L4 x1 (rd x6 x7)).length < 140737488355328 then ((some (y277 ++ (rd_L4 x1 (rd x6 x7)) : List Int)).bind fun y282 => ((spec_l4Fate.f x0 (rd x6 x7)).bind fun t286 => (if t286 = 4 then (if (y282.length : Int) > 0 then ((spec_l1Flip.f y282 0).bind fun t287 => (if x5.length < 5864062014805 then (spec_PassWire.l0 k x0 x1 (x5 ++ [t287]) x6 (wrap64 (x7 + 1))) else (none))) else (if x5.length < 5864062014805 then (spec_PassWire.l0 k x0 x1 (x5 ++ [y282]) x6 (wrap64 (x7 + 1))) else (none))) else (if x5.length < 5864062014805 then (spec_PassWire.l0 k x0 x1 (x5 ++ [y282]) x6 (wrap64 (x7 + 1))) else (none))))) else (none)) else (none)) else (none)) else (none))) else (some x5)
def spec_PassWire.f (k : Nat) (l0 : List Int) (l1 : List (List Int)) : Option ((List (List Int))):=(some (([] : List (List Int)) : List (List Int))).bind fun y270 => ((spec_l4List.f k l1).bind fun t273 => (if t273 = true then ((spec_ArrivalsOf.f k l0 (l1.length : Int)).bind fun t274 => (spec_PassWire.l0 k l0 l1 y270 t274 0)) else (some y270)))
theorem spec_PassWire.mono_l : ∀ k,(∀ y0 y1 y2 y3 y4,LeO (spec_PassWire.l0 k y0 y1 y2 y3 y4) (spec_PassWire.l0 (k + 1) y0 y1 y2 y3 y4))
 | 0 => fun _ _ _ _ _ r h => by simp [spec_PassWire.l0] at h
 | k + 1 => by
  have ih0:=spec_PassWire.mono_l k
  ·intro y0 y1 y2 y3 y4
   unfold spec_PassWire.l0
   repeat' first
   | (with_reducible exact ih0 _ _ _ _ _)
   | (with_reducible exact spec_ArrivalsOf.mono _ _ _)
   | (with_reducible exact spec_l4List.mono _ _)
   | (with_reducible exact LeO.refl _)
   | (with_reducible exact LeO.none _)
   | (with_reducible refine LeO.ite ?_ ?_)
   | (with_reducible refine LeO.bind ?_ (fun _ => ?_))
   | exact ih0 _ _ _ _ _
   | exact spec_ArrivalsOf.mono _ _ _
   | exact spec_l4List.mono _ _
   | exact LeO.none _
   | refine LeO.ite ?_ ?_
   | refine LeO.bind ?_ (fun _ => ?_)
theorem spec_PassWire.mono : ∀ a0 a1 k,LeO (spec_PassWire.f k a0 a1) (spec_PassWire.f (k + 1) a0 a1):=by
 intro a0 a1 k
 have ih0:=spec_PassWire.mono_l k
 unfold spec_PassWire.f
 repeat' first
   | (with_reducible exact ih0 _ _ _ _ _)
   | (with_reducible exact spec_ArrivalsOf.mono _ _ _)
   | (with_reducible exact spec_l4List.mono _ _)
   | (with_reducible exact LeO.refl _)
   | (with_reducible exact LeO.none _)
   | (with_reducible refine LeO.ite ?_ ?_)
   | (with_reducible refine LeO.bind ?_ (fun _ => ?_))
   | exact ih0 _ _ _ _ _
   | exact spec_ArrivalsOf.mono _ _ _
   | exact spec_l4List.mono _ _
   | exact LeO.none _
   | refine LeO.ite ?_ ?_
   | refine LeO.bind ?_ (fun _ => ?_)
set_option maxHeartbeats 8000000 in
set_option maxRecDepth 100000 in
theorem spec_PassWire.calls (k : Nat) (A0 : Option Addr) (c0 : Nat) (l0 : List Int) (A1 : Option Addr) (c1 : Nat) (l1 : List (List Int)) (r : List (List Int)) (w : World) (hr0 : Kd.C (Kd.int .i64) w A0 l0.length l0) (hc0 : l0.length ≤ c0) (hr1 : Kd.C (Kd.slice 5 (Kd.int .u8)) w A1 l1.length l1) (hc1 : l1.length ≤ c1) (h : spec_PassWire.f k l0 l1 = some r) :
  Calls Try.prog 74 #[.slice A0 l0.length c0,.slice A1 l1.length c1] w fun e w' => ∃ v0_ : Value,e = .returned (v0_) ∧ Kd.S (Kd.slice 5 (Kd.int .u8)) 22 w' w.heap.size (fun _ => True) v0_ r ∧ Below w.heap.size w w':=by
 have HR0:=mk_ hr0
 have HC0:=mk_ hc0
 clear hr0 hc0
 have HR1:=mk_ hr1
 have HC1:=mk_ hc1
 clear hr1 hc1
 have HB:=mk_ (Below.refl w.heap.size w)
 have H : ((some (([] : List (List Int)) : List (List Int))).bind fun y270 => ((spec_l4List.f k l1).bind fun t273 => (if t273 = true then ((spec_ArrivalsOf.f k l0 (l1.length : Int)).bind fun t274 => (spec_PassWire.l0 k l0 l1 y270 t274 0)) else (some y270)))) = some r:=h
 clear h
 obtain ⟨y270,hy270⟩ : ∃ y_ : List (List Int),y_ = (([] : List (List Int))):=⟨_,rfl⟩
 replace H : ((spec_l4List.f k l1).bind fun t273 => (if t273 = true then ((spec_ArrivalsOf.f k l0 (l1.length : Int)).bind fun t274 => (spec_PassWire.l0 k l0 l1 y270 t274 0)) else (some y270))) = some r:=by first|(rw [hy270];with_reducible exact H)|(have H2_:=(Option.bind_some _ _).symm.trans H;rw [hy270];with_reducible exact H2_)|(have H2_:=(Option.bind_some _ _).symm.trans H;with_reducible exact H2_)|with_reducible exact H|(rw [hy270];exact H)|exact H
 have Ny270:=mk_ hy270
 clear hy270
 replace H:=Option.bind_eq_some_iff.mp H
 obtain ⟨t273,A30,H⟩:=H
 replace H : (if t273 = true then ((spec_ArrivalsOf.f k l0 (l1.length : Int)).bind fun t274 => (spec_PassWire.l0 k l0 l1 y270 t274 0)) else (some y270)) = some r:=H
 have A3:=mk_ A30
 clear A30
 by_cases c4 : t273 = true
 ·subst c4
  have H1 : ((spec_ArrivalsOf.f k l0 (l1.length : Int)).bind fun t274 => (spec_PassWire.l0 k l0 l1 y270 t274 0)) = some r:=by rw [if_pos rfl] at H;exact H
  clear H
  have H:=H1
  clear H1
  replace H:=Option.bind_eq_some_iff.mp H
  obtain ⟨t274,A50,H⟩:=H
  replace H : (spec_PassWire.l0 k l0 l1 y270 t274 0) = some r:=H
  have A5:=mk_ A50
  clear A50
  have H':=mk_ H
  clear H
  go_enter Try.func74,Try.ntmps74
  go_wp2_with (first|((with_reducible refine gate_dst (N:=9) rfl ?_);(try (refine gate_guard (by rfl) ?_;dsimp only));refine Kd.S_lit (Kd.slice 5 (Kd.int .u8)) _ 22 ?hg (N:=9) ?hd (xs:=([] : List (List Int))) (inner:=[]) (ok:=fun _ => True) (okp:=fun _ => True) ?hr ?hp (fun _ hk => hk) trivial (Below.refl _ _) (Nat.le_refl _) (by simp) ?_;(case hd => rfl);(case hg => rfl);(case hr => first|(go_simp;done)|(go_simp;rfl));(case hp => exact (Reps.none _ _));intro v271 w6 ho7 hb hg_ hnew_;clear hg_ hnew_;(first|rw [← Ny270.out] at ho7|(simp only [Int.reduceToNat] at ho7;rw [← Ny270.out] at ho7));have n0_:=mk_ (Kd.S_lower ho7 (bz_ (qb_ HB)));have n1_:=mk_ (st_ (qb_ HB) hb);clear HB;have HO272:=n0_;have HB:=n1_;clear n0_ n1_ hb ho7)|((with_reducible refine gate_callee (f:=88) rfl ?_);refine goesL_ (some 11) rfl rfl Try.func88 (by kernel_rfl) rfl #[.slice A1 l1.length c1] rfl qm_ ?_;(with_reducible refine (spec_l4List.calls k _ _ l1 true _ ?side1 ?side2 A3.out).mono ?_);(case side1 => exact qn_ HR1 HB);(case side2 => exact HC1.out);rintro e w' ⟨rfl,⟨nd,rfl⟩⟩;refine ⟨_,rfl,?_⟩)|((with_reducible refine gate_callee (f:=89) rfl ?_);refine goesL_ (some 17) rfl rfl Try.func89 (by kernel_rfl) rfl #[.slice A0 l0.length c0,.int .i64 (l1.length : Int)] rfl qm_ ?_;(with_reducible refine (spec_ArrivalsOf.calls k _ _ l0 (l1.length : Int) t274 _ ?side1 ?side2 A5.out).mono ?_);(case side1 => repeat (first|exact (cb_ HR0.out (qb_ HB))|(with_reducible refine ca_ ?_ _)|(with_reducible refine cn_ ?_ _)|(with_reducible refine cd_ ?_)));(case side2 => exact HC0.out);rintro e w8 ⟨v275,rfl,ho0,hb⟩;refine ⟨_,rfl,?_⟩;have n0_:=mk_ (Kd.S_below (by (with_reducible repeat (first|apply Kd.S_alloc|apply Kd.S_drewN|apply Kd.S_drew));exact HO272.out) hb);have n1_:=mk_ (Kd.R_lower ho0 (bz_ (qb_ HB)));have n2_:=mk_ (st_ (qb_ HB) hb);clear HO272 HB;have HO272:=n0_;have HO276:=n1_;have HB:=n2_;clear n0_ n1_ n2_;(try clear hb);(try clear hb2);(try clear hk);(try clear hi);(try clear ho0)))
  go_loopg [5,7] k (fun kq v5 v7 w' => ∃ (x5_1 : List (List Int)) (x7_1 : Int),v7 = .int .i64 x7_1 ∧ Aside0 (spec_PassWire.l0 kq l0 l1 x5_1 t274 x7_1 = some r) ∧ Aside0 (kq ≤ k) ∧ Aside0 (Kd.S (Kd.slice 5 (Kd.int .u8)) 22 w' w.heap.size (fun _ => True) v5 x5_1) ∧ Aside0 (Kd.R (Kd.int .i64) 3 w' w.heap.size (fun _ => True) v275 t274) ∧ Aside0 (Below w.heap.size w w'))
  case atStart => exact ⟨(y270),(0),qf_,H',⟨Nat.le_refl _⟩,⟨by (with_reducible repeat (first|apply Kd.S_alloc|apply Kd.S_drewN|apply Kd.S_drew));exact HO272.out⟩,⟨qr_ HO276⟩,⟨u0_ HB⟩⟩
  case round =>
   clear H'
   try clear c1
   try clear p2
   try clear c4
   try clear c7
   try clear c8
   obtain ⟨x5_1,x7_1,rfl,HA,HK1,HO_5,HO_6,HB⟩:=hrel
   cases gk with
   | zero => exact absurd HA.out (by simp [spec_PassWire.l0])
   | succ k1 =>
    have H:=HA.out
    clear HA
    simp only [spec_PassWire.l0] at H
    by_cases c9 : x7_1 < (t274.length : Int)
    ·rw [if_pos c9] at H
     have c9b0 : decide (x7_1 < (t274.length : Int)) = true:=decide_eq_true c9
     clear c9
     obtain ⟨y277,hy277⟩ : ∃ y_ : List Int,y_ = (([] : List Int)):=⟨_,rfl⟩
     replace H : (if 0 ≤ x7_1 then (if 0 ≤ (rd t274 x7_1) then (if (rd t274 x7_1) < (l1.length : Int) then (if y277.length + (rd_L4 l1 (rd t274 x7_1)).length < 140737488355328 then ((some (y277 ++ (rd_L4 l1 (rd t274 x7_1)) : List Int)).bind fun y282 => ((spec_l4Fate.f l0 (rd t274 x7_1)).bind fun t286 => (if t286 = 4 then (if (y282.length : Int) > 0 then ((spec_l1Flip.f y282 0).bind fun t287 => (if x5_1.length < 5864062014805 then (spec_PassWire.l0 k1 l0 l1 (x5_1 ++ [t287]) t274 (wrap64 (x7_1 + 1))) else (none))) else (if x5_1.length < 5864062014805 then (spec_PassWire.l0 k1 l0 l1 (x5_1 ++ [y282]) t274 (wrap64 (x7_1 + 1))) else (none))) else (if x5_1.length < 5864062014805 then (spec_PassWire.l0 k1 l0 l1 (x5_1 ++ [y282]) t274 (wrap64 (x7_1 + 1))) else (none))))) else (none)) else (none)) else (none)) else (none)) = some r:=by first|(rw [hy277];with_reducible exact H)|(have H2_:=(Option.bind_some _ _).symm.trans H;rw [hy277];with_reducible exact H2_)|(have H2_:=(Option.bind_some _ _).symm.trans H;with_reducible exact H2_)|with_reducible exact H|(rw [hy277];exact H)|exact H
     have Ny277:=mk_ hy277
     clear hy277
     by_cases c10 : 0 ≤ x7_1
     ·rw [if_pos c10] at H
      have c10b0 : decide (0 ≤ x7_1) = true:=decide_eq_true c10
      clear c10
      by_cases c11 : 0 ≤ (rd t274 x7_1)
      ·rw [if_pos c11] at H
       have c11b0 : decide (0 ≤ (rd t274 x7_1)) = true:=decide_eq_true c11
       clear c11
       by_cases c12 : (rd t274 x7_1) < (l1.length : Int)
       ·rw [if_pos c12] at H
        have c12b0 : decide ((rd t274 x7_1) < (l1.length : Int)) = true:=decide_eq_true c12
        clear c12
        by_cases c13 : y277.length + (rd_L4 l1 (rd t274 x7_1)).length < 140737488355328
        ·rw [if_pos c13] at H
         have LMc13:=mk_ c13
         clear c13
         obtain ⟨y282,hy282⟩ : ∃ y_ : List Int,y_ = (y277 ++ (rd_L4 l1 (rd t274 x7_1))):=⟨_,rfl⟩
         replace H : ((spec_l4Fate.f l0 (rd t274 x7_1)).bind fun t286 => (if t286 = 4 then (if (y282.length : Int) > 0 then ((spec_l1Flip.f y282 0).bind fun t287 => (if x5_1.length < 5864062014805 then (spec_PassWire.l0 k1 l0 l1 (x5_1 ++ [t287]) t274 (wrap64 (x7_1 + 1))) else (none))) else (if x5_1.length < 5864062014805 then (spec_PassWire.l0 k1 l0 l1 (x5_1 ++ [y282]) t274 (wrap64 (x7_1 + 1))) else (none))) else (if x5_1.length < 5864062014805 then (spec_PassWire.l0 k1 l0 l1 (x5_1 ++ [y282]) t274 (wrap64 (x7_1 + 1))) else (none)))) = some r:=by first|(rw [hy282];with_reducible exact H)|(have H2_:=(Option.bind_some _ _).symm.trans H;rw [hy282];with_reducible exact H2_)|(have H2_:=(Option.bind_some _ _).symm.trans H;with_reducible exact H2_)|with_reducible exact H|(rw [hy282];exact H)|exact H
         have Ny282:=mk_ hy282
         clear hy282
         replace H:=Option.bind_eq_some_iff.mp H
         obtain ⟨t286,A140,H⟩:=H
         replace H : (if t286 = 4 then (if (y282.length : Int) > 0 then ((spec_l1Flip.f y282 0).bind fun t287 => (if x5_1.length < 5864062014805 then (spec_PassWire.l0 k1 l0 l1 (x5_1 ++ [t287]) t274 (wrap64 (x7_1 + 1))) else (none))) else (if x5_1.length < 5864062014805 then (spec_PassWire.l0 k1 l0 l1 (x5_1 ++ [y282]) t274 (wrap64 (x7_1 + 1))) else (none))) else (if x5_1.length < 5864062014805 then (spec_PassWire.l0 k1 l0 l1 (x5_1 ++ [y282]) t274 (wrap64 (x7_1 + 1))) else (none))) = some r:=H
         have A14:=mk_ A140
         clear A140
         by_cases c15 : t286 = 4
         ·rw [if_pos c15] at H
          have c15b0 : (t286 == 4) = true:=beq_iff_eq.mpr c15
          have c15b1 : (t286 != 4) = false:=bne_eq_false_iff_eq.mpr c15
          clear c15
          by_cases c16 : (y282.length : Int) > 0
          ·rw [if_pos c16] at H
           have c16b0 : decide (0 < (y282.length : Int)) = true:=decide_eq_true c16
           have c16b1 : decide (0 < y282.length) = true:=decide_eq_true (by omega)
           clear c16
           replace H:=Option.bind_eq_some_iff.mp H
           obtain ⟨t287,A170,H⟩:=H
           replace H : (if x5_1.length < 5864062014805 then (spec_PassWire.l0 k1 l0 l1 (x5_1 ++ [t287]) t274 (wrap64 (x7_1 + 1))) else (none)) = some r:=H
           have A17:=mk_ A170
           clear A170
           by_cases c18 : x5_1.length < 5864062014805
           ·rw [if_pos c18] at H
            have LMc18:=mk_ c18
            clear c18
            obtain ⟨y290,hy290⟩ : ∃ y_ : List (List Int),y_ = (x5_1 ++ [t287]):=⟨_,rfl⟩
            replace H : (spec_PassWire.l0 k1 l0 l1 y290 t274 (wrap64 (x7_1 + 1))) = some r:=by first|(rw [hy290];with_reducible exact H)|(have H2_:=(Option.bind_some _ _).symm.trans H;rw [hy290];with_reducible exact H2_)|(have H2_:=(Option.bind_some _ _).symm.trans H;with_reducible exact H2_)|with_reducible exact H|(rw [hy290];exact H)|exact H
            have Ny290:=mk_ hy290
            clear hy290
            have H':=mk_ H
            clear H
            obtain ⟨Ao19,co19,eo19⟩:=Kd.R_slice HO_6.out
            subst eo19
            go_wp2_with (first|((with_reducible refine gate_dst (N:=24) rfl ?_);(try (refine gate_guard (by rfl) ?_;dsimp only));refine Kd.R_lit (Kd.int .u8) _ 5 ?hg (N:=24) ?hd (xs:=([] : List Int)) (inner:=[]) (ok:=fun _ => True) (okp:=fun _ => True) ?hr ?hp (fun _ hk => hk) trivial (Below.refl _ _) (Nat.le_refl _) (by simp) ?_;(case hd => rfl);(case hg => rfl);(case hr => first|(go_simp;done)|(go_simp;rfl));(case hp => exact (Reps.none _ _));intro v278 w20 ho21 hb hg_ hnew_;clear hg_ hnew_;(first|rw [← Ny277.out] at ho21|(simp only [Int.reduceToNat] at ho21;rw [← Ny277.out] at ho21));have n0_:=mk_ (Kd.S_elder' (by (with_reducible repeat (first|apply Kd.S_alloc|apply Kd.S_drewN|apply Kd.S_drew));exact HO_5.out) (Kd.R_base ho21) hb);have n1_:=mk_ (rb_ (qr_ HO_6) hb);have n2_:=mk_ (Kd.R_lower ho21 (bz_ (qb_ HB)));have n3_:=mk_ (st_ (qb_ HB) hb);clear HO_5 HO_6 HB;have HO_5:=n0_;have HO_6:=n1_;have HO279:=n2_;have HB:=n3_;clear n0_ n1_ n2_ n3_ hb ho21;have p280 : 0 ≤ (x7_1 : Int):=od_ qa_;have q280 : x7_1 < (t274.length : Int):=od_ qa_;obtain ⟨ad280,e280,hx280_0⟩:=Kd.at_int (rr_ HO_6.out).2.2 x7_1 p280 q280;cases e280;replace p280:=eq_true p280;replace q280:=eq_true q280;have p281 : 0 ≤ ((rd t274 x7_1) : Int):=od_ qa_;have q281 : (rd t274 x7_1) < (l1.length : Int):=od_ qa_;obtain ⟨ad281,A281_0,c281_0,e281,hx281_0,hl281_0,hi281_0⟩:=at_L4 HR1.out (rd t274 x7_1) p281 q281;cases e281;replace hx281_0:=(HB.out.cell (wl_ w _ hx281_0)).trans hx281_0;have HR281_0:=mk_ hi281_0;have HC281_0:=mk_ hl281_0;clear hi281_0 hl281_0;replace p281:=eq_true p281;replace q281:=eq_true q281)|((with_reducible refine gate_builtin (b:=.append) (xs:=#[.tmp 24,.tmp 31]) rfl ?_);(try (refine gate_guard (by rfl) ?_;dsimp only));at_builtin;refine Kd.R_append_rows (Kd.int .u8) (w0:=w) w.heap.size rfl (.tmp 24) (.tmp 31) 22 5 (.int .u8 0) 1 rfl Try.underlying22 info5 rfl (by decide) (by omega) v278 y277 (rd_L4 l1 (rd t274 x7_1)) _ _ _ (fun _ => True) (fun _ => False) rfl rfl ?aO ?aR (fun _ _ h => h) (fun _ h => h.elim) ?aF ?aB ?aS ?aL ?_;(case aR => exact qn_ HR281_0 HB);(case aB => exact (qb_ HB));(case aF => exact (fun _ _ => trivial));(case aO => exact (qr_ HO279));(case aS => exact (bz_ (qb_ HB)));(case aL => have:=LMc13.out;omega);intro v283 w22 ho hb hg hat;rw [← Ny282.out] at ho;have n0_:=mk_ (Kd.S_after (ok:=(fun _ => True)) (by (with_reducible repeat (first|apply Kd.S_alloc|apply Kd.S_drewN|apply Kd.S_drew));exact HO_5.out) hg hat);have n1_:=mk_ (Kd.R_over' (qr_ HO_6) (Kd.R_typed (qr_ HO279)) (by decide) hg);have n2_:=mk_ (hb);have n3_:=mk_ (ho);clear HO_5 HO_6 HB HO279;have HO_5:=n0_;have HO_6:=n1_;have HB:=n2_;have HO284:=n3_;clear n0_ n1_ n2_ n3_ ho hb hg hat;have p285 : 0 ≤ (x7_1 : Int):=od_ qa_;have q285 : x7_1 < (t274.length : Int):=od_ qa_;obtain ⟨ad285,e285,hx285_0⟩:=Kd.at_int (rr_ HO_6.out).2.2 x7_1 p285 q285;obtain rfl : ad280 = ad285:=(by injection e285);replace p285:=eq_true p285;replace q285:=eq_true q285)|((with_reducible refine gate_callee (f:=90) rfl ?_);refine goesL_ (some 38) rfl rfl Try.func90 (by kernel_rfl) rfl #[.slice A0 l0.length c0,.int .i64 (rd t274 x7_1)] rfl qm_ ?_;(with_reducible refine (spec_l4Fate.calls _ _ l0 (rd t274 x7_1) t286 _ ?side1 ?side2 A14.out).mono ?_);(case side1 => exact qn_ HR0 HB);(case side2 => exact HC0.out);rintro e w' ⟨rfl,⟨nd,rfl⟩⟩;refine ⟨_,rfl,?_⟩;obtain ⟨Ao23,co23,eo23⟩:=Kd.R_slice HO284.out;subst eo23)|((with_reducible refine gate_callee (f:=91) rfl ?_);refine goesL_ (some 46) rfl rfl Try.func91 (by kernel_rfl) rfl #[.slice Ao23 y282.length co23,.int .i64 0] rfl qm_ ?_;(with_reducible refine (spec_l1Flip.calls _ _ y282 0 t287 _ ?side1 ?side2 A17.out).mono ?_);(case side1 => repeat (first|exact (rr_ HO284.out).2.2|(with_reducible refine ca_ ?_ _)|(with_reducible refine cn_ ?_ _)|(with_reducible refine cd_ ?_)));(case side2 => exact (rr_ HO284.out).2.1);rintro e w24 ⟨v288,rfl,ho0,hb⟩;refine ⟨_,rfl,?_⟩;have n0_:=mk_ (Kd.S_elder' (by (with_reducible repeat (first|apply Kd.S_alloc|apply Kd.S_drewN|apply Kd.S_drew));exact HO_5.out) (Kd.R_base ho0) hb);have n1_:=mk_ (rb_ (qr_ HO_6) hb);have n2_:=mk_ (re_ (qr_ HO284) (Kd.R_base ho0) hb);have n3_:=mk_ (Kd.R_lower (Kd.R_new' ho0 (Kd.R_lt (qr_ HO284))) (bz_ (qb_ HB)));have n4_:=mk_ (st_ (qb_ HB) hb);clear HO_5 HO_6 HO284 HB;have HO_5:=n0_;have HO_6:=n1_;have HO284:=n2_;have HO289:=n3_;have HB:=n4_;clear n0_ n1_ n2_ n3_ n4_;(try clear hb);(try clear hb2);(try clear hk);(try clear hi);(try clear ho0);obtain ⟨Ao26,co26,eo26⟩:=Kd.R_slice HO289.out;subst eo26)|((with_reducible refine gate_builtin (b:=.append) (xs:=#[.tmp 47,.tmp 49]) rfl ?_);(try (refine gate_guard (by rfl) ?_;dsimp only));at_builtin;refine Kd.S_append (Kd.slice 5 (Kd.int .u8)) (w0:=w) w.heap.size rfl (.tmp 47) (.tmp 49) 23 22 (.slice none 0 0) 24 rfl Try.underlying23 info22 rfl (by decide) (by omega) u5 x5_1 t287 [.slice Ao26 t287.length co26] (fun k_ => some k_ ≠ (.slice Ao23 y282.length co23 : Value).ownBlock) (fun k_ => some k_ = (.slice Ao26 t287.length co26 : Value).ownBlock) rfl rfl ?aP (fun k_ hk_ => ((rm_ (ok':=fun k_ => ((fun k_ => some k_ ≠ (.slice Ao23 y282.length co23 : Value).ownBlock)) k_ ∧ some k_ ≠ (u5 : Value).ownBlock) (Kd.R_apart' (HO289.out) (Kd.S_typed HO_5.out) (by decide)) (fun k_ hk => ⟨hk.1.2,hk.2⟩))).1 k_ hk_.symm) ?aF ?aO ?aB ?aS ?aL ?_;(case aP => exact Kd.M_row (rm_ (Kd.R_tight rfl (rm_ (ok':=fun k_ => ((fun k_ => some k_ ≠ (.slice Ao23 y282.length co23 : Value).ownBlock)) k_ ∧ some k_ ≠ (u5 : Value).ownBlock) (Kd.R_apart' (HO289.out) (Kd.S_typed HO_5.out) (by decide)) (fun k_ hk => ⟨hk.1.2,hk.2⟩))) (fun _ h_ => h_)));(case aB => exact (qb_ HB));(case aF => exact (fun k_ hk => Kd.fresh' (Kd.R_lt (qr_ HO284)) k_ hk));(case aO => exact (by (with_reducible repeat (first|apply Kd.S_alloc|apply Kd.S_drewN|apply Kd.S_drew));exact Kd.S_mono HO_5.out (fun k_ hk => ⟨hk.1.2,fun e_ => hk.2 e_⟩)));(case aS => exact (bz_ (qb_ HB)));(case aL => have:=LMc18.out;omega);intro v291 w25 ho hb hg hat;rw [← Ny290.out] at ho;have n0_:=mk_ (Kd.R_over' (qr_ HO_6) (Kd.S_typed (by (with_reducible repeat (first|apply Kd.S_alloc|apply Kd.S_drewN|apply Kd.S_drew));exact HO_5.out)) (by decide) hg);have n1_:=mk_ (Kd.R_over' (qr_ HO284) (Kd.S_typed (by (with_reducible repeat (first|apply Kd.S_alloc|apply Kd.S_drewN|apply Kd.S_drew));exact HO_5.out)) (by decide) hg);have n2_:=mk_ (hb);have n3_:=mk_ (ho);clear HO_6 HO284 HB HO_5 HO289;have HO_6:=n0_;have HO284:=n1_;have HB:=n2_;have HO292:=n3_;clear n0_ n1_ n2_ n3_ ho hb hg hat))
            go_roundg k1
            case measure => have:=HK1.out;omega
            case rel => exact ⟨(y290),(wrap64 (x7_1 + 1)),qf_,H',⟨by have:=HK1.out;omega⟩,⟨by (with_reducible repeat (first|apply Kd.S_alloc|apply Kd.S_drewN|apply Kd.S_drew));exact Kd.S_mono HO292.out (λ_ _=>trivial)⟩,⟨qr_ HO_6⟩,⟨u0_ HB⟩⟩
           ·rw [if_neg c18] at H
            exact absurd H (by simp)
          ·rw [if_neg c16] at H
           have c16b0 : decide (0 < (y282.length : Int)) = false:=decide_eq_false c16
           have c16b1 : decide (0 < y282.length) = false:=decide_eq_false (by omega)
           clear c16
           by_cases c27 : x5_1.length < 5864062014805
           ·rw [if_pos c27] at H
            have LMc27:=mk_ c27
            clear c27
            obtain ⟨y293,hy293⟩ : ∃ y_ : List (List Int),y_ = (x5_1 ++ [y282]):=⟨_,rfl⟩
            replace H : (spec_PassWire.l0 k1 l0 l1 y293 t274 (wrap64 (x7_1 + 1))) = some r:=by first|(rw [hy293];with_reducible exact H)|(have H2_:=(Option.bind_some _ _).symm.trans H;rw [hy293];with_reducible exact H2_)|(have H2_:=(Option.bind_some _ _).symm.trans H;with_reducible exact H2_)|with_reducible exact H|(rw [hy293];exact H)|exact H
            have Ny293:=mk_ hy293
            clear hy293
            have H':=mk_ H
            clear H
            obtain ⟨Ao28,co28,eo28⟩:=Kd.R_slice HO_6.out
            subst eo28
            go_wp2_with (first|((with_reducible refine gate_dst (N:=24) rfl ?_);(try (refine gate_guard (by rfl) ?_;dsimp only));refine Kd.R_lit (Kd.int .u8) _ 5 ?hg (N:=24) ?hd (xs:=([] : List Int)) (inner:=[]) (ok:=fun _ => True) (okp:=fun _ => True) ?hr ?hp (fun _ hk => hk) trivial (Below.refl _ _) (Nat.le_refl _) (by simp) ?_;(case hd => rfl);(case hg => rfl);(case hr => first|(go_simp;done)|(go_simp;rfl));(case hp => exact (Reps.none _ _));intro v278 w29 ho30 hb hg_ hnew_;clear hg_ hnew_;(first|rw [← Ny277.out] at ho30|(simp only [Int.reduceToNat] at ho30;rw [← Ny277.out] at ho30));have n0_:=mk_ (Kd.S_elder' (by (with_reducible repeat (first|apply Kd.S_alloc|apply Kd.S_drewN|apply Kd.S_drew));exact HO_5.out) (Kd.R_base ho30) hb);have n1_:=mk_ (rb_ (qr_ HO_6) hb);have n2_:=mk_ (Kd.R_lower ho30 (bz_ (qb_ HB)));have n3_:=mk_ (st_ (qb_ HB) hb);clear HO_5 HO_6 HB;have HO_5:=n0_;have HO_6:=n1_;have HO279:=n2_;have HB:=n3_;clear n0_ n1_ n2_ n3_ hb ho30;have p280 : 0 ≤ (x7_1 : Int):=od_ qa_;have q280 : x7_1 < (t274.length : Int):=od_ qa_;obtain ⟨ad280,e280,hx280_0⟩:=Kd.at_int (rr_ HO_6.out).2.2 x7_1 p280 q280;cases e280;replace p280:=eq_true p280;replace q280:=eq_true q280;have p281 : 0 ≤ ((rd t274 x7_1) : Int):=od_ qa_;have q281 : (rd t274 x7_1) < (l1.length : Int):=od_ qa_;obtain ⟨ad281,A281_0,c281_0,e281,hx281_0,hl281_0,hi281_0⟩:=at_L4 HR1.out (rd t274 x7_1) p281 q281;cases e281;replace hx281_0:=(HB.out.cell (wl_ w _ hx281_0)).trans hx281_0;have HR281_0:=mk_ hi281_0;have HC281_0:=mk_ hl281_0;clear hi281_0 hl281_0;replace p281:=eq_true p281;replace q281:=eq_true q281)|((with_reducible refine gate_builtin (b:=.append) (xs:=#[.tmp 24,.tmp 31]) rfl ?_);(try (refine gate_guard (by rfl) ?_;dsimp only));at_builtin;refine Kd.R_append_rows (Kd.int .u8) (w0:=w) w.heap.size rfl (.tmp 24) (.tmp 31) 22 5 (.int .u8 0) 1 rfl Try.underlying22 info5 rfl (by decide) (by omega) v278 y277 (rd_L4 l1 (rd t274 x7_1)) _ _ _ (fun _ => True) (fun _ => False) rfl rfl ?aO ?aR (fun _ _ h => h) (fun _ h => h.elim) ?aF ?aB ?aS ?aL ?_;(case aR => exact qn_ HR281_0 HB);(case aB => exact (qb_ HB));(case aF => exact (fun _ _ => trivial));(case aO => exact (qr_ HO279));(case aS => exact (bz_ (qb_ HB)));(case aL => have:=LMc13.out;omega);intro v283 w31 ho hb hg hat;rw [← Ny282.out] at ho;have n0_:=mk_ (Kd.S_after (ok:=(fun _ => True)) (by (with_reducible repeat (first|apply Kd.S_alloc|apply Kd.S_drewN|apply Kd.S_drew));exact HO_5.out) hg hat);have n1_:=mk_ (Kd.R_over' (qr_ HO_6) (Kd.R_typed (qr_ HO279)) (by decide) hg);have n2_:=mk_ (hb);have n3_:=mk_ (ho);clear HO_5 HO_6 HB HO279;have HO_5:=n0_;have HO_6:=n1_;have HB:=n2_;have HO284:=n3_;clear n0_ n1_ n2_ n3_ ho hb hg hat;have p285 : 0 ≤ (x7_1 : Int):=od_ qa_;have q285 : x7_1 < (t274.length : Int):=od_ qa_;obtain ⟨ad285,e285,hx285_0⟩:=Kd.at_int (rr_ HO_6.out).2.2 x7_1 p285 q285;obtain rfl : ad280 = ad285:=(by injection e285);replace p285:=eq_true p285;replace q285:=eq_true q285)|((with_reducible refine gate_callee (f:=90) rfl ?_);refine goesL_ (some 38) rfl rfl Try.func90 (by kernel_rfl) rfl #[.slice A0 l0.length c0,.int .i64 (rd t274 x7_1)] rfl qm_ ?_;(with_reducible refine (spec_l4Fate.calls _ _ l0 (rd t274 x7_1) t286 _ ?side1 ?side2 A14.out).mono ?_);(case side1 => exact qn_ HR0 HB);(case side2 => exact HC0.out);rintro e w' ⟨rfl,⟨nd,rfl⟩⟩;refine ⟨_,rfl,?_⟩;obtain ⟨Ao32,co32,eo32⟩:=Kd.R_slice HO284.out;subst eo32)|((with_reducible refine gate_builtin (b:=.append) (xs:=#[.tmp 47,.tmp 49]) rfl ?_);(try (refine gate_guard (by rfl) ?_;dsimp only));at_builtin;refine Kd.S_append (Kd.slice 5 (Kd.int .u8)) (w0:=w) w.heap.size rfl (.tmp 47) (.tmp 49) 23 22 (.slice none 0 0) 24 rfl Try.underlying23 info22 rfl (by decide) (by omega) u5 x5_1 y282 [.slice Ao32 y282.length co32] (fun _ => True) (fun k_ => some k_ = (.slice Ao32 y282.length co32 : Value).ownBlock) rfl rfl ?aP (fun k_ hk_ => ((rm_ (ok':=fun k_ => ((fun _ => True)) k_ ∧ some k_ ≠ (u5 : Value).ownBlock) (Kd.R_apart' (HO284.out) (Kd.S_typed HO_5.out) (by decide)) (fun k_ hk => ⟨trivial,hk.2⟩))).1 k_ hk_.symm) ?aF ?aO ?aB ?aS ?aL ?_;(case aP => exact Kd.M_row (rm_ (Kd.R_tight rfl (rm_ (ok':=fun k_ => ((fun _ => True)) k_ ∧ some k_ ≠ (u5 : Value).ownBlock) (Kd.R_apart' (HO284.out) (Kd.S_typed HO_5.out) (by decide)) (fun k_ hk => ⟨trivial,hk.2⟩))) (fun _ h_ => h_)));(case aB => exact (qb_ HB));(case aF => exact (fun _ _ => trivial));(case aO => exact (by (with_reducible repeat (first|apply Kd.S_alloc|apply Kd.S_drewN|apply Kd.S_drew));exact Kd.S_mono HO_5.out (fun k_ hk => ⟨trivial,fun e_ => hk.2 e_⟩)));(case aS => exact (bz_ (qb_ HB)));(case aL => have:=LMc27.out;omega);intro v294 w33 ho hb hg hat;rw [← Ny293.out] at ho;have n0_:=mk_ (Kd.R_over' (qr_ HO_6) (Kd.S_typed (by (with_reducible repeat (first|apply Kd.S_alloc|apply Kd.S_drewN|apply Kd.S_drew));exact HO_5.out)) (by decide) hg);have n1_:=mk_ (hb);have n2_:=mk_ (ho);clear HO_6 HB HO_5 HO284;have HO_6:=n0_;have HB:=n1_;have HO295:=n2_;clear n0_ n1_ n2_ ho hb hg hat))
            go_roundg k1
            case measure => have:=HK1.out;omega
            case rel => exact ⟨(y293),(wrap64 (x7_1 + 1)),qf_,H',⟨by have:=HK1.out;omega⟩,⟨by (with_reducible repeat (first|apply Kd.S_alloc|apply Kd.S_drewN|apply Kd.S_drew));exact HO295.out⟩,⟨qr_ HO_6⟩,⟨u0_ HB⟩⟩
           ·rw [if_neg c27] at H
            exact absurd H (by simp)
         ·rw [if_neg c15] at H
          have c15b0 : (t286 == 4) = false:=beq_eq_false_iff_ne.mpr c15
          have c15b1 : (t286 != 4) = true:=bne_iff_ne.mpr c15
          by_cases c34 : x5_1.length < 5864062014805
          ·rw [if_pos c34] at H
           have LMc34:=mk_ c34
           clear c34
           obtain ⟨y296,hy296⟩ : ∃ y_ : List (List Int),y_ = (x5_1 ++ [y282]):=⟨_,rfl⟩
           replace H : (spec_PassWire.l0 k1 l0 l1 y296 t274 (wrap64 (x7_1 + 1))) = some r:=by first|(rw [hy296];with_reducible exact H)|(have H2_:=(Option.bind_some _ _).symm.trans H;rw [hy296];with_reducible exact H2_)|(have H2_:=(Option.bind_some _ _).symm.trans H;with_reducible exact H2_)|with_reducible exact H|(rw [hy296];exact H)|exact H
           have Ny296:=mk_ hy296
           clear hy296
           have H':=mk_ H
           clear H
           obtain ⟨Ao35,co35,eo35⟩:=Kd.R_slice HO_6.out
           subst eo35
           go_wp2_with (first|((with_reducible refine gate_dst (N:=24) rfl ?_);(try (refine gate_guard (by rfl) ?_;dsimp only));refine Kd.R_lit (Kd.int .u8) _ 5 ?hg (N:=24) ?hd (xs:=([] : List Int)) (inner:=[]) (ok:=fun _ => True) (okp:=fun _ => True) ?hr ?hp (fun _ hk => hk) trivial (Below.refl _ _) (Nat.le_refl _) (by simp) ?_;(case hd => rfl);(case hg => rfl);(case hr => first|(go_simp;done)|(go_simp;rfl));(case hp => exact (Reps.none _ _));intro v278 w36 ho37 hb hg_ hnew_;clear hg_ hnew_;(first|rw [← Ny277.out] at ho37|(simp only [Int.reduceToNat] at ho37;rw [← Ny277.out] at ho37));have n0_:=mk_ (Kd.S_elder' (by (with_reducible repeat (first|apply Kd.S_alloc|apply Kd.S_drewN|apply Kd.S_drew));exact HO_5.out) (Kd.R_base ho37) hb);have n1_:=mk_ (rb_ (qr_ HO_6) hb);have n2_:=mk_ (Kd.R_lower ho37 (bz_ (qb_ HB)));have n3_:=mk_ (st_ (qb_ HB) hb);clear HO_5 HO_6 HB;have HO_5:=n0_;have HO_6:=n1_;have HO279:=n2_;have HB:=n3_;clear n0_ n1_ n2_ n3_ hb ho37;have p280 : 0 ≤ (x7_1 : Int):=od_ qa_;have q280 : x7_1 < (t274.length : Int):=od_ qa_;obtain ⟨ad280,e280,hx280_0⟩:=Kd.at_int (rr_ HO_6.out).2.2 x7_1 p280 q280;cases e280;replace p280:=eq_true p280;replace q280:=eq_true q280;have p281 : 0 ≤ ((rd t274 x7_1) : Int):=od_ qa_;have q281 : (rd t274 x7_1) < (l1.length : Int):=od_ qa_;obtain ⟨ad281,A281_0,c281_0,e281,hx281_0,hl281_0,hi281_0⟩:=at_L4 HR1.out (rd t274 x7_1) p281 q281;cases e281;replace hx281_0:=(HB.out.cell (wl_ w _ hx281_0)).trans hx281_0;have HR281_0:=mk_ hi281_0;have HC281_0:=mk_ hl281_0;clear hi281_0 hl281_0;replace p281:=eq_true p281;replace q281:=eq_true q281)|((with_reducible refine gate_builtin (b:=.append) (xs:=#[.tmp 24,.tmp 31]) rfl ?_);(try (refine gate_guard (by rfl) ?_;dsimp only));at_builtin;refine Kd.R_append_rows (Kd.int .u8) (w0:=w) w.heap.size rfl (.tmp 24) (.tmp 31) 22 5 (.int .u8 0) 1 rfl Try.underlying22 info5 rfl (by decide) (by omega) v278 y277 (rd_L4 l1 (rd t274 x7_1)) _ _ _ (fun _ => True) (fun _ => False) rfl rfl ?aO ?aR (fun _ _ h => h) (fun _ h => h.elim) ?aF ?aB ?aS ?aL ?_;(case aR => exact qn_ HR281_0 HB);(case aB => exact (qb_ HB));(case aF => exact (fun _ _ => trivial));(case aO => exact (qr_ HO279));(case aS => exact (bz_ (qb_ HB)));(case aL => have:=LMc13.out;omega);intro v283 w38 ho hb hg hat;rw [← Ny282.out] at ho;have n0_:=mk_ (Kd.S_after (ok:=(fun _ => True)) (by (with_reducible repeat (first|apply Kd.S_alloc|apply Kd.S_drewN|apply Kd.S_drew));exact HO_5.out) hg hat);have n1_:=mk_ (Kd.R_over' (qr_ HO_6) (Kd.R_typed (qr_ HO279)) (by decide) hg);have n2_:=mk_ (hb);have n3_:=mk_ (ho);clear HO_5 HO_6 HB HO279;have HO_5:=n0_;have HO_6:=n1_;have HB:=n2_;have HO284:=n3_;clear n0_ n1_ n2_ n3_ ho hb hg hat;have p285 : 0 ≤ (x7_1 : Int):=od_ qa_;have q285 : x7_1 < (t274.length : Int):=od_ qa_;obtain ⟨ad285,e285,hx285_0⟩:=Kd.at_int (rr_ HO_6.out).2.2 x7_1 p285 q285;obtain rfl : ad280 = ad285:=(by injection e285);replace p285:=eq_true p285;replace q285:=eq_true q285)|((with_reducible refine gate_callee (f:=90) rfl ?_);refine goesL_ (some 38) rfl rfl Try.func90 (by kernel_rfl) rfl #[.slice A0 l0.length c0,.int .i64 (rd t274 x7_1)] rfl qm_ ?_;(with_reducible refine (spec_l4Fate.calls _ _ l0 (rd t274 x7_1) t286 _ ?side1 ?side2 A14.out).mono ?_);(case side1 => exact qn_ HR0 HB);(case side2 => exact HC0.out);rintro e w' ⟨rfl,⟨nd,rfl⟩⟩;refine ⟨_,rfl,?_⟩;obtain ⟨Ao40,co40,eo40⟩:=Kd.R_slice HO284.out;subst eo40)|((with_reducible refine gate_builtin (b:=.append) (xs:=#[.tmp 47,.tmp 49]) rfl ?_);(try (refine gate_guard (by rfl) ?_;dsimp only));at_builtin;refine Kd.S_append (Kd.slice 5 (Kd.int .u8)) (w0:=w) w.heap.size rfl (.tmp 47) (.tmp 49) 23 22 (.slice none 0 0) 24 rfl Try.underlying23 info22 rfl (by decide) (by omega) u5 x5_1 y282 [.slice Ao40 y282.length co40] (fun _ => True) (fun k_ => some k_ = (.slice Ao40 y282.length co40 : Value).ownBlock) rfl rfl ?aP (fun k_ hk_ => ((rm_ (ok':=fun k_ => ((fun _ => True)) k_ ∧ some k_ ≠ (u5 : Value).ownBlock) (Kd.R_apart' (HO284.out) (Kd.S_typed HO_5.out) (by decide)) (fun k_ hk => ⟨trivial,hk.2⟩))).1 k_ hk_.symm) ?aF ?aO ?aB ?aS ?aL ?_;(case aP => exact Kd.M_row (rm_ (Kd.R_tight rfl (rm_ (ok':=fun k_ => ((fun _ => True)) k_ ∧ some k_ ≠ (u5 : Value).ownBlock) (Kd.R_apart' (HO284.out) (Kd.S_typed HO_5.out) (by decide)) (fun k_ hk => ⟨trivial,hk.2⟩))) (fun _ h_ => h_)));(case aB => exact (qb_ HB));(case aF => exact (fun _ _ => trivial));(case aO => exact (by (with_reducible repeat (first|apply Kd.S_alloc|apply Kd.S_drewN|apply Kd.S_drew));exact Kd.S_mono HO_5.out (fun k_ hk => ⟨trivial,fun e_ => hk.2 e_⟩)));(case aS => exact (bz_ (qb_ HB)));(case aL => have:=LMc34.out;omega);intro v297 w39 ho hb hg hat;rw [← Ny296.out] at ho;have n0_:=mk_ (Kd.R_over' (qr_ HO_6) (Kd.S_typed (by (with_reducible repeat (first|apply Kd.S_alloc|apply Kd.S_drewN|apply Kd.S_drew));exact HO_5.out)) (by decide) hg);have n1_:=mk_ (hb);have n2_:=mk_ (ho);clear HO_6 HB HO_5 HO284;have HO_6:=n0_;have HB:=n1_;have HO298:=n2_;clear n0_ n1_ n2_ ho hb hg hat))
           go_roundg k1
           case measure => have:=HK1.out;omega
           case rel => exact ⟨(y296),(wrap64 (x7_1 + 1)),qf_,H',⟨by have:=HK1.out;omega⟩,⟨by (with_reducible repeat (first|apply Kd.S_alloc|apply Kd.S_drewN|apply Kd.S_drew));exact HO298.out⟩,⟨qr_ HO_6⟩,⟨u0_ HB⟩⟩
          ·rw [if_neg c34] at H
           exact absurd H (by simp)
        ·rw [if_neg c13] at H
         exact absurd H (by simp)
       ·rw [if_neg c12] at H
        exact absurd H (by simp)
      ·rw [if_neg c11] at H
       exact absurd H (by simp)
     ·rw [if_neg c10] at H
      exact absurd H (by simp)
    ·rw [if_neg c9] at H
     have c9b0 : decide (x7_1 < (t274.length : Int)) = false:=decide_eq_false c9
     clear c9
     obtain rfl:=Option.some.inj H
     obtain ⟨Ao41,co41,eo41⟩:=Kd.R_slice HO_6.out
     subst eo41
     go_wp2
     go_ret
     exact ⟨_,qe_,by (with_reducible repeat (first|apply Kd.S_alloc|apply Kd.S_drewN|apply Kd.S_drew));exact HO_5.out,u0_ HB⟩
 ·replace c4:=Bool.eq_false_iff.mpr c4
  subst c4
  have H1 : (some y270) = some r:=by rw [if_neg (show ¬ (false = true) by decide)] at H;exact H
  clear H
  have H:=H1
  clear H1
  obtain rfl:=Option.some.inj H
  go_enter Try.func74,Try.ntmps74
  go_wp2_with (first|((with_reducible refine gate_dst (N:=9) rfl ?_);(try (refine gate_guard (by rfl) ?_;dsimp only));refine Kd.S_lit (Kd.slice 5 (Kd.int .u8)) _ 22 ?hg (N:=9) ?hd (xs:=([] : List (List Int))) (inner:=[]) (ok:=fun _ => True) (okp:=fun _ => True) ?hr ?hp (fun _ hk => hk) trivial (Below.refl _ _) (Nat.le_refl _) (by simp) ?_;(case hd => rfl);(case hg => rfl);(case hr => first|(go_simp;done)|(go_simp;rfl));(case hp => exact (Reps.none _ _));intro v271 w42 ho43 hb hg_ hnew_;clear hg_ hnew_;(first|rw [← Ny270.out] at ho43|(simp only [Int.reduceToNat] at ho43;rw [← Ny270.out] at ho43));have n0_:=mk_ (Kd.S_lower ho43 (bz_ (qb_ HB)));have n1_:=mk_ (st_ (qb_ HB) hb);clear HB;have HO272:=n0_;have HB:=n1_;clear n0_ n1_ hb ho43)|((with_reducible refine gate_callee (f:=88) rfl ?_);refine goesL_ (some 11) rfl rfl Try.func88 (by kernel_rfl) rfl #[.slice A1 l1.length c1] rfl qm_ ?_;(with_reducible refine (spec_l4List.calls k _ _ l1 false _ ?side1 ?side2 A3.out).mono ?_);(case side1 => exact qn_ HR1 HB);(case side2 => exact HC1.out);rintro e w' ⟨rfl,⟨nd,rfl⟩⟩;refine ⟨_,rfl,?_⟩))
  go_ret
  exact ⟨_,qe_,by (with_reducible repeat (first|apply Kd.S_alloc|apply Kd.S_drewN|apply Kd.S_drew));exact HO272.out,u0_ HB⟩

/-! ### spec_l4Behind: function 75 -/
def spec_l4Behind.f (l0 : List Int) (a1 : Int) : Option (List Int):=(some (([] : List Int) : List Int)).bind fun y299 => (if 0 ≤ (mn a1 (l0.length : Int)) then (if (mn a1 (l0.length : Int)) ≤ (l0.length : Int) then (if y299.length + (l0.drop ((mn a1 (l0.length : Int)) : Int).toNat).length < 17592186044416 then (some (y299 ++ (l0.drop ((mn a1 (l0.length : Int)) : Int).toNat))) else (none)) else (none)) else (none))
set_option maxHeartbeats 8000000 in
set_option maxRecDepth 100000 in
theorem spec_l4Behind.calls (A0 : Option Addr) (c0 : Nat) (l0 : List Int) (a1 : Int) (r : List Int) (w : World) (hr0 : Kd.C (Kd.int .i64) w A0 l0.length l0) (hc0 : l0.length ≤ c0) (h : spec_l4Behind.f l0 a1 = some r) :
  Calls Try.prog 75 #[.slice A0 l0.length c0,.int .i64 a1] w fun e w' => ∃ v0_ : Value,e = .returned (v0_) ∧ Kd.R (Kd.int .i64) 3 w' w.heap.size (fun _ => True) v0_ r ∧ Below w.heap.size w w':=by
 have HR0:=mk_ hr0
 have HC0:=mk_ hc0
 clear hr0 hc0
 have HB:=mk_ (Below.refl w.heap.size w)
 have H : ((some (([] : List Int) : List Int)).bind fun y299 => (if 0 ≤ (mn a1 (l0.length : Int)) then (if (mn a1 (l0.length : Int)) ≤ (l0.length : Int) then (if y299.length + (l0.drop ((mn a1 (l0.length : Int)) : Int).toNat).length < 17592186044416 then (some (y299 ++ (l0.drop ((mn a1 (l0.length : Int)) : Int).toNat))) else (none)) else (none)) else (none))) = some r:=h
 clear h
 obtain ⟨y299,hy299⟩ : ∃ y_ : List Int,y_ = (([] : List Int)):=⟨_,rfl⟩
 replace H : (if 0 ≤ (mn a1 (l0.length : Int)) then (if (mn a1 (l0.length : Int)) ≤ (l0.length : Int) then (if y299.length + (l0.drop ((mn a1 (l0.length : Int)) : Int).toNat).length < 17592186044416 then (some (y299 ++ (l0.drop ((mn a1 (l0.length : Int)) : Int).toNat))) else (none)) else (none)) else (none)) = some r:=by first|(rw [hy299];with_reducible exact H)|(have H2_:=(Option.bind_some _ _).symm.trans H;rw [hy299];with_reducible exact H2_)|(have H2_:=(Option.bind_some _ _).symm.trans H;with_reducible exact H2_)|with_reducible exact H|(rw [hy299];exact H)|exact H
 have Ny299:=mk_ hy299
 clear hy299
 obtain ⟨ji3,hji3⟩ : ∃ j_ : Int,(mn a1 (l0.length : Int)) = j_:=⟨_,rfl⟩
 replace H : (if 0 ≤ (ji3) then (if (ji3) ≤ (l0.length : Int) then (if y299.length + (l0.drop ((ji3) : Int).toNat).length < 17592186044416 then (some (y299 ++ (l0.drop ((ji3) : Int).toNat))) else (none)) else (none)) else (none)) = some r:=by first|(rw [hji3] at H;exact H)|(simp only [hji3] at H ⊢;exact H)
 have hji3_ : (if (l0.length : Int) < a1 then (l0.length : Int) else a1) = ji3:=hji3
 by_cases c4 : 0 ≤ (ji3)
 ·rw [if_pos c4] at H
  have c4b0:=eq_true c4
  have c4b1 : decide (0 ≤ (ji3)) = true:=decide_eq_true c4
  clear c4
  by_cases c5 : (ji3) ≤ (l0.length : Int)
  ·rw [if_pos c5] at H
   have c5b0:=eq_true c5
   have c5b1 : decide ((ji3) ≤ (l0.length : Int)) = true:=decide_eq_true c5
   clear c5
   by_cases c6 : y299.length + (l0.drop ((ji3) : Int).toNat).length < 17592186044416
   ·rw [if_pos c6] at H
    have LMc6:=mk_ c6
    clear c6
    obtain ⟨y303,hy303⟩ : ∃ y_ : List Int,y_ = (y299 ++ (l0.drop ((ji3) : Int).toNat)):=⟨_,rfl⟩
    replace H : (some y303) = some r:=by first|(rw [hy303];with_reducible exact H)|(have H2_:=(Option.bind_some _ _).symm.trans H;rw [hy303];with_reducible exact H2_)|(have H2_:=(Option.bind_some _ _).symm.trans H;with_reducible exact H2_)|with_reducible exact H|(rw [hy303];exact H)|exact H
    have Ny303:=mk_ hy303
    clear hy303
    obtain rfl:=Option.some.inj H
    go_enter Try.func75,Try.ntmps75
    go_wp2_with (first|((with_reducible refine gate_dst (N:=5) rfl ?_);refine Kd.R_lit (Kd.int .i64) _ 3 ?hg (N:=5) ?hd (xs:=([] : List Int)) (inner:=[]) (ok:=fun _ => True) (okp:=fun _ => True) ?hr ?hp (fun _ hk => hk) trivial (Below.refl _ _) (Nat.le_refl _) (by simp) ?_;(case hd => rfl);(case hg => rfl);(case hr => first|(go_simp;done)|(go_simp;rfl));(case hp => exact (Reps.none _ _));intro v300 w7 ho8 hb hg_ hnew_;clear hg_ hnew_;(first|rw [← Ny299.out] at ho8|(simp only [Int.reduceToNat] at ho8;rw [← Ny299.out] at ho8));have n0_:=mk_ (Kd.R_lower ho8 (bz_ (qb_ HB)));have n1_:=mk_ (st_ (qb_ HB) hb);clear HB;have HO301:=n0_;have HB:=n1_;clear n0_ n1_ hb ho8;obtain ⟨i09,hi09,_,hsz9,_⟩:=info_parts info3;obtain ⟨A9,hcut9,hA9,hC9⟩:=print_drop_of (P:=Try.prog) (Value.int .i64) 0 24 3 .i64 Try.underlying24 hi09 hsz9 A0 c0 l0 (ji3) (od_ qa_) (od_ qa_) HC0.out;have HR302:=mk_ (Kd.C_of_reads (h1:=fun _ => rfl) (hA9 _ (Kd.reads_of_C HR0.out)));have HC302:=mk_ hC9;clear hA9 hC9 hi09 hsz9)|((with_reducible refine gate_builtin (b:=.append) (xs:=#[.tmp 5,.tmp 11]) rfl ?_);at_builtin;refine Kd.R_append_rows (Kd.int .i64) (w0:=w) w.heap.size rfl (.tmp 5) (.tmp 11) 24 3 (.int .i64 0) 8 rfl Try.underlying24 info3 rfl (by decide) (by omega) v300 y299 (l0.drop ((ji3) : Int).toNat) _ _ _ (fun _ => True) (fun _ => False) rfl rfl ?aO ?aR (fun _ _ h => h) (fun _ h => h.elim) ?aF ?aB ?aS ?aL ?_;(case aR => first|(rw [← show (l0.drop ((ji3) : Int).toNat).length = (l0.length - (ji3).toNat) from List.length_drop];exact qn_ HR302 HB)|(exact qn_ HR302 HB));(case aB => exact (qb_ HB));(case aF => exact (fun _ _ => trivial));(case aO => exact (qr_ HO301));(case aS => exact (bz_ (qb_ HB)));(case aL => have:=LMc6.out;have hlx_:=(show (l0.drop ((ji3) : Int).toNat).length = (l0.length - (ji3).toNat) from List.length_drop);omega);intro v304 w10 ho hb hg hat;rw [← Ny303.out] at ho;have n0_:=mk_ (hb);have n1_:=mk_ (ho);clear HB HO301;have HB:=n0_;have HO305:=n1_;clear n0_ n1_ ho hb hg hat))
    go_ret
    exact ⟨_,by first|rfl|(simp [errW_none,errW_some] <;> rfl)|(simp only [← hji3];first|rfl|(simp [errW_none,errW_some] <;> rfl))|(simp [*,errW_none,errW_some] <;> rfl),qr_ HO305,u0_ HB⟩
   ·rw [if_neg c6] at H
    exact absurd H (by simp)
  ·rw [if_neg c5] at H
   exact absurd H (by simp)
 ·rw [if_neg c4] at H
  exact absurd H (by simp)

/-! ### spec_CutCrc: function 92 -/
def spec_CutCrc.f (k : Nat) (l0 : List Int) : Option (List Int × Bool):=(spec_l1Data.f l0).bind fun t306 => (if t306 = true then (if (wrap64 ((l0.length : Int) - 2)) < 0 then (some ((([] : List Int)),false)) else (if 0 ≤ (wrap64 ((l0.length : Int) - 2)) then (if (wrap64 ((l0.length : Int) - 2)) ≤ (l0.length : Int) then ((spec_CrcOf.f k (l0.take ((wrap64 ((l0.length : Int) - 2)) : Int).toNat)).bind fun t311 => (if (wrap64 ((l0.length : Int) - 2)) < (l0.length : Int) then (if 0 ≤ (wrap64 ((wrap64 ((l0.length : Int) - 2)) + 1)) then (if (wrap64 ((wrap64 ((l0.length : Int) - 2)) + 1)) < (l0.length : Int) then (if t311 = (wrap64 ((wrap64 ((wrap64 (rd l0 (wrap64 ((l0.length : Int) - 2)))) * 256)) + (wrap64 (rd l0 (wrap64 ((wrap64 ((l0.length : Int) - 2)) + 1)))))) then ((some (([] : List Int) : List Int)).bind fun y314 => (if y314.length + (l0.take ((wrap64 ((l0.length : Int) - 2)) : Int).toNat).length < 140737488355328 then (some ((y314 ++ (l0.take ((wrap64 ((l0.length : Int) - 2)) : Int).toNat)),true)) else (none))) else (some ((([] : List Int)),false))) else (none)) else (none)) else (none))) else (none)) else (none))) else (some ((([] : List Int)),false)))
theorem spec_CutCrc.mono : ∀ a0 k,LeO (spec_CutCrc.f k a0) (spec_CutCrc.f (k + 1) a0):=by
 intro a0 k
 unfold spec_CutCrc.f
 repeat' first
   | (with_reducible exact spec_CrcOf.mono _ _)
   | (with_reducible exact LeO.refl _)
   | (with_reducible exact LeO.none _)
   | (with_reducible refine LeO.ite ?_ ?_)
   | (with_reducible refine LeO.bind ?_ (fun _ => ?_))
   | exact spec_CrcOf.mono _ _
   | exact LeO.none _
   | refine LeO.ite ?_ ?_
   | refine LeO.bind ?_ (fun _ => ?_)
set_option maxHeartbeats 8000000 in
set_option maxRecDepth 100000 in
theorem spec_CutCrc.calls (k : Nat) (A0 : Option Addr) (c0 : Nat) (l0 : List Int) (r1 : List Int) (r2 : Bool) (w : World) (hr0 : Kd.C (Kd.int .u8) w A0 l0.length l0) (hc0 : l0.length ≤ c0) (h : spec_CutCrc.f k l0 = some (r1,r2)) :
  Calls Try.prog 92 #[.slice A0 l0.length c0] w fun e w' => ∃ v0_ : Value,e = .returned (.tuple #[v0_,.bool r2]) ∧ Kd.R (Kd.int .u8) 5 w' w.heap.size (fun _ => True) v0_ r1 ∧ Below w.heap.size w w':=by
 have HR0:=mk_ hr0
 have HC0:=mk_ hc0
 clear hr0 hc0
 have HB:=mk_ (Below.refl w.heap.size w)
 have H : ((spec_l1Data.f l0).bind fun t306 => (if t306 = true then (if (wrap64 ((l0.length : Int) - 2)) < 0 then (some ((([] : List Int)),false)) else (if 0 ≤ (wrap64 ((l0.length : Int) - 2)) then (if (wrap64 ((l0.length : Int) - 2)) ≤ (l0.length : Int) then ((spec_CrcOf.f k (l0.take ((wrap64 ((l0.length : Int) - 2)) : Int).toNat)).bind fun t311 => (if (wrap64 ((l0.length : Int) - 2)) < (l0.length : Int) then (if 0 ≤ (wrap64 ((wrap64 ((l0.length : Int) - 2)) + 1)) then (if (wrap64 ((wrap64 ((l0.length : Int) - 2)) + 1)) < (l0.length : Int) then (if t311 = (wrap64 ((wrap64 ((wrap64 (rd l0 (wrap64 ((l0.length : Int) - 2)))) * 256)) + (wrap64 (rd l0 (wrap64 ((wrap64 ((l0.length : Int) - 2)) + 1)))))) then ((some (([] : List Int) : List Int)).bind fun y314 => (if y314.length + (l0.take ((wrap64 ((l0.length : Int) - 2)) : Int).toNat).length < 140737488355328 then (some ((y314 ++ (l0.take ((wrap64 ((l0.length : Int) - 2)) : Int).toNat)),true)) else (none))) else (some ((([] : List Int)),false))) else (none)) else (none)) else (none))) else (none)) else (none))) else (some ((([] : List Int)),false)))) = some (r1,r2):=h
 clear h
 replace H:=Option.bind_eq_some_iff.mp H
 obtain ⟨t306,A20,H⟩:=H
 replace H : (if t306 = true then (if (wrap64 ((l0.length : Int) - 2)) < 0 then (some ((([] : List Int)),false)) else (if 0 ≤ (wrap64 ((l0.length : Int) - 2)) then (if (wrap64 ((l0.length : Int) - 2)) ≤ (l0.length : Int) then ((spec_CrcOf.f k (l0.take ((wrap64 ((l0.length : Int) - 2)) : Int).toNat)).bind fun t311 => (if (wrap64 ((l0.length : Int) - 2)) < (l0.length : Int) then (if 0 ≤ (wrap64 ((wrap64 ((l0.length : Int) - 2)) + 1)) then (if (wrap64 ((wrap64 ((l0.length : Int) - 2)) + 1)) < (l0.length : Int) then (if t311 = (wrap64 ((wrap64 ((wrap64 (rd l0 (wrap64 ((l0.length : Int) - 2)))) * 256)) + (wrap64 (rd l0 (wrap64 ((wrap64 ((l0.length : Int) - 2)) + 1)))))) then ((some (([] : List Int) : List Int)).bind fun y314 => (if y314.length + (l0.take ((wrap64 ((l0.length : Int) - 2)) : Int).toNat).length < 140737488355328 then (some ((y314 ++ (l0.take ((wrap64 ((l0.length : Int) - 2)) : Int).toNat)),true)) else (none))) else (some ((([] : List Int)),false))) else (none)) else (none)) else (none))) else (none)) else (none))) else (some ((([] : List Int)),false))) = some (r1,r2):=H
 have A2:=mk_ A20
 clear A20
 by_cases c3 : t306 = true
 ·subst c3
  have H1 : (if (wrap64 ((l0.length : Int) - 2)) < 0 then (some ((([] : List Int)),false)) else (if 0 ≤ (wrap64 ((l0.length : Int) - 2)) then (if (wrap64 ((l0.length : Int) - 2)) ≤ (l0.length : Int) then ((spec_CrcOf.f k (l0.take ((wrap64 ((l0.length : Int) - 2)) : Int).toNat)).bind fun t311 => (if (wrap64 ((l0.length : Int) - 2)) < (l0.length : Int) then (if 0 ≤ (wrap64 ((wrap64 ((l0.length : Int) - 2)) + 1)) then (if (wrap64 ((wrap64 ((l0.length : Int) - 2)) + 1)) < (l0.length : Int) then (if t311 = (wrap64 ((wrap64 ((wrap64 (rd l0 (wrap64 ((l0.length : Int) - 2)))) * 256)) + (wrap64 (rd l0 (wrap64 ((wrap64 ((l0.length : Int) - 2)) + 1)))))) then ((some (([] : List Int) : List Int)).bind fun y314 => (if y314.length + (l0.take ((wrap64 ((l0.length : Int) - 2)) : Int).toNat).length < 140737488355328 then (some ((y314 ++ (l0.take ((wrap64 ((l0.length : Int) - 2)) : Int).toNat)),true)) else (none))) else (some ((([] : List Int)),false))) else (none)) else (none)) else (none))) else (none)) else (none))) = some (r1,r2):=by rw [if_pos rfl] at H;exact H
  clear H
  have H:=H1
  clear H1
  by_cases c4 : (wrap64 ((l0.length : Int) - 2)) < 0
  ·rw [if_pos c4] at H
   have c4b0 : decide ((wrap64 ((l0.length : Int) - 2)) < 0) = true:=decide_eq_true c4
   clear c4
   obtain ⟨y307,hy307⟩ : ∃ y_ : List Int,y_ = (([] : List Int)):=⟨_,rfl⟩
   replace H : (some (y307,false)) = some (r1,r2):=by first|(rw [hy307];with_reducible exact H)|(have H2_:=(Option.bind_some _ _).symm.trans H;rw [hy307];with_reducible exact H2_)|(have H2_:=(Option.bind_some _ _).symm.trans H;with_reducible exact H2_)|with_reducible exact H|(rw [hy307];exact H)|exact H
   have Ny307:=mk_ hy307
   clear hy307
   simp only [Option.some.injEq,Prod.mk.injEq] at H
   obtain ⟨rfl,rfl⟩:=H
   go_enter Try.func92,Try.ntmps92
   go_wp2_with (first|(go_at_call 97;(with_reducible refine (spec_l1Data.calls _ _ l0 true _ ?side1 ?side2 A2.out).mono ?_);(case side1 => repeat (first|exact HR0.out|(with_reducible refine ca_ ?_ _)|(with_reducible refine cn_ ?_ _)|(with_reducible refine cd_ ?_)));(case side2 => exact HC0.out);rintro e w' ⟨rfl,⟨nd,rfl⟩⟩;(try first|exact ⟨rfl,_,World.drewN_drewN _ _ _⟩|exact ⟨rfl,_,Eq.trans (World.drewN_drewN _ _ _) (congrArg (World.drewN _) (Nat.add_assoc _ _ _))⟩))|((with_reducible refine gate_dst (N:=35) rfl ?_);refine Kd.R_lit (Kd.int .u8) _ 5 ?hg (N:=35) ?hd (xs:=([] : List Int)) (inner:=[]) (ok:=fun _ => True) (okp:=fun _ => True) ?hr ?hp (fun _ hk => hk) trivial (Below.refl _ _) (Nat.le_refl _) (by simp) ?_;(case hd => rfl);(case hg => rfl);(case hr => first|(go_simp;done)|(go_simp;rfl));(case hp => exact (Reps.none _ _));intro v308 w5 ho6 hb hg_ hnew_;clear hg_ hnew_;(first|rw [← Ny307.out] at ho6|(simp only [Int.reduceToNat] at ho6;rw [← Ny307.out] at ho6));have n0_:=mk_ (Kd.R_lower ho6 (bz_ (qb_ HB)));have n1_:=mk_ (st_ (qb_ HB) hb);clear HB;have HO309:=n0_;have HB:=n1_;clear n0_ n1_ hb ho6))
   repeat (go_quiet (first|(go_at_call 97;(with_reducible refine (spec_l1Data.calls _ _ l0 true _ ?side1 ?side2 A2.out).mono ?_);(case side1 => repeat (first|exact HR0.out|(with_reducible refine ca_ ?_ _)|(with_reducible refine cn_ ?_ _)|(with_reducible refine cd_ ?_)));(case side2 => exact HC0.out);rintro e w' ⟨rfl,⟨nd,rfl⟩⟩;(try first|exact ⟨rfl,_,World.drewN_drewN _ _ _⟩|exact ⟨rfl,_,Eq.trans (World.drewN_drewN _ _ _) (congrArg (World.drewN _) (Nat.add_assoc _ _ _))⟩))|((with_reducible refine gate_dst (N:=35) rfl ?_);refine Kd.R_lit (Kd.int .u8) _ 5 ?hg (N:=35) ?hd (xs:=([] : List Int)) (inner:=[]) (ok:=fun _ => True) (okp:=fun _ => True) ?hr ?hp (fun _ hk => hk) trivial (Below.refl _ _) (Nat.le_refl _) (by simp) ?_;(case hd => rfl);(case hg => rfl);(case hr => first|(go_simp;done)|(go_simp;rfl));(case hp => exact (Reps.none _ _));intro v308 w5 ho6 hb hg_ hnew_;clear hg_ hnew_;(first|rw [← Ny307.out] at ho6|(simp only [Int.reduceToNat] at ho6;rw [← Ny307.out] at ho6));have n0_:=mk_ (Kd.R_lower ho6 (bz_ (qb_ HB)));have n1_:=mk_ (st_ (qb_ HB) hb);clear HB;have HO309:=n0_;have HB:=n1_;clear n0_ n1_ hb ho6));try go_wp2_with (first|(go_at_call 97;(with_reducible refine (spec_l1Data.calls _ _ l0 true _ ?side1 ?side2 A2.out).mono ?_);(case side1 => repeat (first|exact HR0.out|(with_reducible refine ca_ ?_ _)|(with_reducible refine cn_ ?_ _)|(with_reducible refine cd_ ?_)));(case side2 => exact HC0.out);rintro e w' ⟨rfl,⟨nd,rfl⟩⟩;(try first|exact ⟨rfl,_,World.drewN_drewN _ _ _⟩|exact ⟨rfl,_,Eq.trans (World.drewN_drewN _ _ _) (congrArg (World.drewN _) (Nat.add_assoc _ _ _))⟩))|((with_reducible refine gate_dst (N:=35) rfl ?_);refine Kd.R_lit (Kd.int .u8) _ 5 ?hg (N:=35) ?hd (xs:=([] : List Int)) (inner:=[]) (ok:=fun _ => True) (okp:=fun _ => True) ?hr ?hp (fun _ hk => hk) trivial (Below.refl _ _) (Nat.le_refl _) (by simp) ?_;(case hd => rfl);(case hg => rfl);(case hr => first|(go_simp;done)|(go_simp;rfl));(case hp => exact (Reps.none _ _));intro v308 w5 ho6 hb hg_ hnew_;clear hg_ hnew_;(first|rw [← Ny307.out] at ho6|(simp only [Int.reduceToNat] at ho6;rw [← Ny307.out] at ho6));have n0_:=mk_ (Kd.R_lower ho6 (bz_ (qb_ HB)));have n1_:=mk_ (st_ (qb_ HB) hb);clear HB;have HO309:=n0_;have HB:=n1_;clear n0_ n1_ hb ho6)))
   go_ret2
   exact ⟨_,qe_,qr_ HO309,u0_ HB⟩
  ·rw [if_neg c4] at H
   have c4b0 : decide ((wrap64 ((l0.length : Int) - 2)) < 0) = false:=decide_eq_false c4
   clear c4
   obtain ⟨ji7,hji7⟩ : ∃ j_ : Int,(wrap64 ((l0.length : Int) - 2)) = j_:=⟨_,rfl⟩
   replace H : (if 0 ≤ (ji7) then (if (ji7) ≤ (l0.length : Int) then ((spec_CrcOf.f k (l0.take ((ji7) : Int).toNat)).bind fun t311 => (if (ji7) < (l0.length : Int) then (if 0 ≤ (wrap64 ((ji7) + 1)) then (if (wrap64 ((ji7) + 1)) < (l0.length : Int) then (if t311 = (wrap64 ((wrap64 ((wrap64 (rd l0 (ji7))) * 256)) + (wrap64 (rd l0 (wrap64 ((ji7) + 1)))))) then ((some (([] : List Int) : List Int)).bind fun y314 => (if y314.length + (l0.take ((ji7) : Int).toNat).length < 140737488355328 then (some ((y314 ++ (l0.take ((ji7) : Int).toNat)),true)) else (none))) else (some ((([] : List Int)),false))) else (none)) else (none)) else (none))) else (none)) else (none)) = some (r1,r2):=by first|(rw [hji7] at H;exact H)|(simp only [hji7] at H ⊢;exact H)
   (try rw [hji7] at c4b0)
   (try rw [hji7] at A2)
   have hji7w : (IntKind.i64.wrap ((l0.length : Int) - 2)) = ji7:=(i64_w _).trans hji7
   by_cases c8 : 0 ≤ (ji7)
   ·rw [if_pos c8] at H
    have c8b0:=eq_true c8
    have c8b1 : decide (0 ≤ (ji7)) = true:=decide_eq_true c8
    clear c8
    by_cases c9 : (ji7) ≤ (l0.length : Int)
    ·rw [if_pos c9] at H
     have c9b0:=eq_true c9
     have c9b1 : decide ((ji7) ≤ (l0.length : Int)) = true:=decide_eq_true c9
     clear c9
     replace H:=Option.bind_eq_some_iff.mp H
     obtain ⟨t311,A100,H⟩:=H
     replace H : (if (ji7) < (l0.length : Int) then (if 0 ≤ (wrap64 ((ji7) + 1)) then (if (wrap64 ((ji7) + 1)) < (l0.length : Int) then (if t311 = (wrap64 ((wrap64 ((wrap64 (rd l0 (ji7))) * 256)) + (wrap64 (rd l0 (wrap64 ((ji7) + 1)))))) then ((some (([] : List Int) : List Int)).bind fun y314 => (if y314.length + (l0.take ((ji7) : Int).toNat).length < 140737488355328 then (some ((y314 ++ (l0.take ((ji7) : Int).toNat)),true)) else (none))) else (some ((([] : List Int)),false))) else (none)) else (none)) else (none)) = some (r1,r2):=H
     have A10:=mk_ A100
     clear A100
     by_cases c11 : (ji7) < (l0.length : Int)
     ·rw [if_pos c11] at H
      have c11b0 : decide ((ji7) < (l0.length : Int)) = true:=decide_eq_true c11
      clear c11
      obtain ⟨ji12,hji12⟩ : ∃ j_ : Int,(wrap64 ((ji7) + 1)) = j_:=⟨_,rfl⟩
      replace H : (if 0 ≤ (ji12) then (if (ji12) < (l0.length : Int) then (if t311 = (wrap64 ((wrap64 ((wrap64 (rd l0 (ji7))) * 256)) + (wrap64 (rd l0 (ji12))))) then ((some (([] : List Int) : List Int)).bind fun y314 => (if y314.length + (l0.take ((ji7) : Int).toNat).length < 140737488355328 then (some ((y314 ++ (l0.take ((ji7) : Int).toNat)),true)) else (none))) else (some ((([] : List Int)),false))) else (none)) else (none)) = some (r1,r2):=by first|(rw [hji12] at H;exact H)|(simp only [hji12] at H ⊢;exact H)
      (try rw [hji12] at A2)
      (try rw [hji12] at A10)
      have hji12w : (IntKind.i64.wrap ((ji7) + 1)) = ji12:=(i64_w _).trans hji12
      by_cases c13 : 0 ≤ (ji12)
      ·rw [if_pos c13] at H
       have c13b0 : decide (0 ≤ (ji12)) = true:=decide_eq_true c13
       clear c13
       by_cases c14 : (ji12) < (l0.length : Int)
       ·rw [if_pos c14] at H
        have c14b0 : decide ((ji12) < (l0.length : Int)) = true:=decide_eq_true c14
        clear c14
        by_cases c15 : t311 = (wrap64 ((wrap64 ((wrap64 (rd l0 (ji7))) * 256)) + (wrap64 (rd l0 (ji12)))))
        ·rw [if_pos c15] at H
         have c15b0 : (t311 == (wrap64 ((wrap64 ((wrap64 (rd l0 (ji7))) * 256)) + (wrap64 (rd l0 (ji12)))))) = true:=beq_iff_eq.mpr c15
         have c15b1 : (t311 != (wrap64 ((wrap64 ((wrap64 (rd l0 (ji7))) * 256)) + (wrap64 (rd l0 (ji12)))))) = false:=bne_eq_false_iff_eq.mpr c15
         clear c15
         obtain ⟨y314,hy314⟩ : ∃ y_ : List Int,y_ = (([] : List Int)):=⟨_,rfl⟩
         replace H : (if y314.length + (l0.take ((ji7) : Int).toNat).length < 140737488355328 then (some ((y314 ++ (l0.take ((ji7) : Int).toNat)),true)) else (none)) = some (r1,r2):=by first|(rw [hy314];with_reducible exact H)|(have H2_:=(Option.bind_some _ _).symm.trans H;rw [hy314];with_reducible exact H2_)|(have H2_:=(Option.bind_some _ _).symm.trans H;with_reducible exact H2_)|with_reducible exact H|(rw [hy314];exact H)|exact H
         have Ny314:=mk_ hy314
         clear hy314
         have c16b0:=eq_true (od_ qa_ : 0 ≤ (ji7))
         have c17b0:=eq_true (od_ qa_ : (ji7) ≤ (l0.length : Int))
         by_cases c18 : y314.length + (l0.take ((ji7) : Int).toNat).length < 140737488355328
         ·rw [if_pos c18] at H
          have LMc18:=mk_ c18
          clear c18
          obtain ⟨y318,hy318⟩ : ∃ y_ : List Int,y_ = (y314 ++ (l0.take ((ji7) : Int).toNat)):=⟨_,rfl⟩
          replace H : (some (y318,true)) = some (r1,r2):=by first|(rw [hy318];with_reducible exact H)|(have H2_:=(Option.bind_some _ _).symm.trans H;rw [hy318];with_reducible exact H2_)|(have H2_:=(Option.bind_some _ _).symm.trans H;with_reducible exact H2_)|with_reducible exact H|(rw [hy318];exact H)|exact H
          have Ny318:=mk_ hy318
          clear hy318
          simp only [Option.some.injEq,Prod.mk.injEq] at H
          obtain ⟨rfl,rfl⟩:=H
          obtain ⟨i019,hi019,_,hsz19,_⟩:=info_parts info5
          obtain ⟨hcut19,hA19,hC19⟩:=print_take_of (P:=Try.prog) (Value.int .u8) 0 22 5 .i64 Try.underlying22 hi019 hsz19 A0 c0 l0 (ji7) (od_ qa_) (od_ qa_) HC0.out
          have HR310:=mk_ (Kd.C_of_reads (h1:=fun _ => rfl) (hA19 _ (Kd.reads_of_C HR0.out)))
          have HC310:=mk_ hC19
          clear hA19 hC19 hi019 hsz19
          have p312 : 0 ≤ ((ji7) : Int):=od_ qa_
          have q312 : (ji7) < (l0.length : Int):=od_ qa_
          obtain ⟨ad312,e312,hx312_0⟩:=Kd.at_int HR0.out (ji7) p312 q312
          cases e312
          replace p312:=eq_true p312
          replace q312:=eq_true q312
          have p313 : 0 ≤ ((ji12) : Int):=od_ qa_
          have q313 : (ji12) < (l0.length : Int):=od_ qa_
          obtain ⟨ad313,e313,hx313_0⟩:=Kd.at_int HR0.out (ji12) p313 q313
          obtain rfl : ad312 = ad313:=(by injection e313)
          replace p313:=eq_true p313
          replace q313:=eq_true q313
          have hl_ : (l0.take ((ji7) : Int).toNat).length = (ji7).toNat:=by rw [List.length_take];have h_ : (ji7 : Int) ≤ (l0.length : Int):=od_ qa_;omega
          have hcc_:=fun W (h1_ : Kd.C (Kd.int .u8) W (some ad312) (l0.take ((ji7) : Int).toNat).length (l0.take ((ji7) : Int).toNat)) => spec_CrcOf.calls k (some ad312) c0 (l0.take ((ji7) : Int).toNat) t311 W h1_ HC310.out A10.out
          rw [hl_] at hcc_
          have hrq_:=HR310.out
          rw [hl_] at hrq_
          have HRQ_:=mk_ hrq_
          clear hrq_ hl_
          go_enter Try.func92,Try.ntmps92
          go_wp2_with (first|(go_at_call 97;(with_reducible refine (spec_l1Data.calls _ _ l0 true _ ?side1 ?side2 A2.out).mono ?_);(case side1 => repeat (first|exact HR0.out|(with_reducible refine ca_ ?_ _)|(with_reducible refine cn_ ?_ _)|(with_reducible refine cd_ ?_)));(case side2 => exact HC0.out);rintro e w' ⟨rfl,⟨nd,rfl⟩⟩;(try first|exact ⟨rfl,_,World.drewN_drewN _ _ _⟩|exact ⟨rfl,_,Eq.trans (World.drewN_drewN _ _ _) (congrArg (World.drewN _) (Nat.add_assoc _ _ _))⟩))|(go_at_call 96;(with_reducible refine (hcc_ _ ?side1).mono ?_);(case side1 => repeat (first|exact HRQ_.out|(with_reducible refine ca_ ?_ _)|(with_reducible refine cn_ ?_ _)|(with_reducible refine cd_ ?_)));rintro e w' ⟨rfl,⟨nd,rfl⟩⟩;(try first|exact ⟨rfl,_,World.drewN_drewN _ _ _⟩|exact ⟨rfl,_,Eq.trans (World.drewN_drewN _ _ _) (congrArg (World.drewN _) (Nat.add_assoc _ _ _))⟩))|((with_reducible refine gate_dst (N:=36) rfl ?_);refine Kd.R_lit (Kd.int .u8) _ 5 ?hg (N:=36) ?hd (xs:=([] : List Int)) (inner:=[]) (ok:=fun _ => True) (okp:=fun _ => True) ?hr ?hp (fun _ hk => hk) trivial (Below.refl _ _) (Nat.le_refl _) (by simp) ?_;(case hd => rfl);(case hg => rfl);(case hr => first|(go_simp;done)|(go_simp;rfl));(case hp => exact (Reps.none _ _));intro v315 w20 ho21 hb hg_ hnew_;clear hg_ hnew_;(first|rw [← Ny314.out] at ho21|(simp only [Int.reduceToNat] at ho21;rw [← Ny314.out] at ho21));have n0_:=mk_ (Kd.R_lower ho21 (bz_ (qb_ HB)));have n1_:=mk_ (st_ (qb_ HB) hb);clear HB;have HO316:=n0_;have HB:=n1_;clear n0_ n1_ hb ho21;obtain ⟨i022,hi022,_,hsz22,_⟩:=info_parts info5;obtain ⟨hcut22,hA22,hC22⟩:=print_take_of (P:=Try.prog) (Value.int .u8) 0 22 5 .i64 Try.underlying22 hi022 hsz22 (some ad312) c0 l0 (ji7) (od_ qa_) (od_ qa_) HC0.out;have HR317:=mk_ (Kd.C_of_reads (h1:=fun _ => rfl) (hA22 _ (Kd.reads_of_C HR0.out)));have HC317:=mk_ hC22;clear hA22 hC22 hi022 hsz22)|((with_reducible refine gate_builtin (b:=.append) (xs:=#[.tmp 36,.tmp 39]) rfl ?_);at_builtin;refine Kd.R_append_rows (Kd.int .u8) (w0:=w) w.heap.size rfl (.tmp 36) (.tmp 39) 22 5 (.int .u8 0) 1 rfl Try.underlying22 info5 rfl (by decide) (by omega) v315 y314 (l0.take ((ji7) : Int).toNat) _ _ _ (fun _ => True) (fun _ => False) rfl rfl ?aO ?aR (fun _ _ h => h) (fun _ h => h.elim) ?aF ?aB ?aS ?aL ?_;(case aR => first|exact (cb_ HRQ_.out HB.out)|(rw [← show (l0.take ((ji7) : Int).toNat).length = (ji7).toNat from (by rw [List.length_take];have h_ : ((ji7) : Int) ≤ (l0.length : Int):=od_ qa_;omega)];exact qn_ HR317 HB)|(exact qn_ HR317 HB));(case aB => exact (qb_ HB));(case aF => exact (fun _ _ => trivial));(case aO => exact (qr_ HO316));(case aS => exact (bz_ (qb_ HB)));(case aL => have:=LMc18.out;have hlx_:=(show (l0.take ((ji7) : Int).toNat).length = (ji7).toNat from (by rw [List.length_take];have h_ : ((ji7) : Int) ≤ (l0.length : Int):=od_ qa_;omega));omega);intro v319 w23 ho hb hg hat;rw [← Ny318.out] at ho;have n0_:=mk_ (hb);have n1_:=mk_ (ho);clear HB HO316;have HB:=n0_;have HO320:=n1_;clear n0_ n1_ ho hb hg hat))
          repeat (go_quiet (first|(go_at_call 97;(with_reducible refine (spec_l1Data.calls _ _ l0 true _ ?side1 ?side2 A2.out).mono ?_);(case side1 => repeat (first|exact HR0.out|(with_reducible refine ca_ ?_ _)|(with_reducible refine cn_ ?_ _)|(with_reducible refine cd_ ?_)));(case side2 => exact HC0.out);rintro e w' ⟨rfl,⟨nd,rfl⟩⟩;(try first|exact ⟨rfl,_,World.drewN_drewN _ _ _⟩|exact ⟨rfl,_,Eq.trans (World.drewN_drewN _ _ _) (congrArg (World.drewN _) (Nat.add_assoc _ _ _))⟩))|(go_at_call 96;(with_reducible refine (hcc_ _ ?side1).mono ?_);(case side1 => repeat (first|exact HRQ_.out|(with_reducible refine ca_ ?_ _)|(with_reducible refine cn_ ?_ _)|(with_reducible refine cd_ ?_)));rintro e w' ⟨rfl,⟨nd,rfl⟩⟩;(try first|exact ⟨rfl,_,World.drewN_drewN _ _ _⟩|exact ⟨rfl,_,Eq.trans (World.drewN_drewN _ _ _) (congrArg (World.drewN _) (Nat.add_assoc _ _ _))⟩))|((with_reducible refine gate_dst (N:=36) rfl ?_);refine Kd.R_lit (Kd.int .u8) _ 5 ?hg (N:=36) ?hd (xs:=([] : List Int)) (inner:=[]) (ok:=fun _ => True) (okp:=fun _ => True) ?hr ?hp (fun _ hk => hk) trivial (Below.refl _ _) (Nat.le_refl _) (by simp) ?_;(case hd => rfl);(case hg => rfl);(case hr => first|(go_simp;done)|(go_simp;rfl));(case hp => exact (Reps.none _ _));intro v315 w20 ho21 hb hg_ hnew_;clear hg_ hnew_;(first|rw [← Ny314.out] at ho21|(simp only [Int.reduceToNat] at ho21;rw [← Ny314.out] at ho21));have n0_:=mk_ (Kd.R_lower ho21 (bz_ (qb_ HB)));have n1_:=mk_ (st_ (qb_ HB) hb);clear HB;have HO316:=n0_;have HB:=n1_;clear n0_ n1_ hb ho21;obtain ⟨i022,hi022,_,hsz22,_⟩:=info_parts info5;obtain ⟨hcut22,hA22,hC22⟩:=print_take_of (P:=Try.prog) (Value.int .u8) 0 22 5 .i64 Try.underlying22 hi022 hsz22 (some ad312) c0 l0 (ji7) (od_ qa_) (od_ qa_) HC0.out;have HR317:=mk_ (Kd.C_of_reads (h1:=fun _ => rfl) (hA22 _ (Kd.reads_of_C HR0.out)));have HC317:=mk_ hC22;clear hA22 hC22 hi022 hsz22)|((with_reducible refine gate_builtin (b:=.append) (xs:=#[.tmp 36,.tmp 39]) rfl ?_);at_builtin;refine Kd.R_append_rows (Kd.int .u8) (w0:=w) w.heap.size rfl (.tmp 36) (.tmp 39) 22 5 (.int .u8 0) 1 rfl Try.underlying22 info5 rfl (by decide) (by omega) v315 y314 (l0.take ((ji7) : Int).toNat) _ _ _ (fun _ => True) (fun _ => False) rfl rfl ?aO ?aR (fun _ _ h => h) (fun _ h => h.elim) ?aF ?aB ?aS ?aL ?_;(case aR => first|exact (cb_ HRQ_.out HB.out)|(rw [← show (l0.take ((ji7) : Int).toNat).length = (ji7).toNat from (by rw [List.length_take];have h_ : ((ji7) : Int) ≤ (l0.length : Int):=od_ qa_;omega)];exact qn_ HR317 HB)|(exact qn_ HR317 HB));(case aB => exact (qb_ HB));(case aF => exact (fun _ _ => trivial));(case aO => exact (qr_ HO316));(case aS => exact (bz_ (qb_ HB)));(case aL => have:=LMc18.out;have hlx_:=(show (l0.take ((ji7) : Int).toNat).length = (ji7).toNat from (by rw [List.length_take];have h_ : ((ji7) : Int) ≤ (l0.length : Int):=od_ qa_;omega));omega);intro v319 w23 ho hb hg hat;rw [← Ny318.out] at ho;have n0_:=mk_ (hb);have n1_:=mk_ (ho);clear HB HO316;have HB:=n0_;have HO320:=n1_;clear n0_ n1_ ho hb hg hat));try go_wp2_with (first|(go_at_call 97;(with_reducible refine (spec_l1Data.calls _ _ l0 true _ ?side1 ?side2 A2.out).mono ?_);(case side1 => repeat (first|exact HR0.out|(with_reducible refine ca_ ?_ _)|(with_reducible refine cn_ ?_ _)|(with_reducible refine cd_ ?_)));(case side2 => exact HC0.out);rintro e w' ⟨rfl,⟨nd,rfl⟩⟩;(try first|exact ⟨rfl,_,World.drewN_drewN _ _ _⟩|exact ⟨rfl,_,Eq.trans (World.drewN_drewN _ _ _) (congrArg (World.drewN _) (Nat.add_assoc _ _ _))⟩))|(go_at_call 96;(with_reducible refine (hcc_ _ ?side1).mono ?_);(case side1 => repeat (first|exact HRQ_.out|(with_reducible refine ca_ ?_ _)|(with_reducible refine cn_ ?_ _)|(with_reducible refine cd_ ?_)));rintro e w' ⟨rfl,⟨nd,rfl⟩⟩;(try first|exact ⟨rfl,_,World.drewN_drewN _ _ _⟩|exact ⟨rfl,_,Eq.trans (World.drewN_drewN _ _ _) (congrArg (World.drewN _) (Nat.add_assoc _ _ _))⟩))|((with_reducible refine gate_dst (N:=36) rfl ?_);refine Kd.R_lit (Kd.int .u8) _ 5 ?hg (N:=36) ?hd (xs:=([] : List Int)) (inner:=[]) (ok:=fun _ => True) (okp:=fun _ => True) ?hr ?hp (fun _ hk => hk) trivial (Below.refl _ _) (Nat.le_refl _) (by simp) ?_;(case hd => rfl);(case hg => rfl);(case hr => first|(go_simp;done)|(go_simp;rfl));(case hp => exact (Reps.none _ _));intro v315 w20 ho21 hb hg_ hnew_;clear hg_ hnew_;(first|rw [← Ny314.out] at ho21|(simp only [Int.reduceToNat] at ho21;rw [← Ny314.out] at ho21));have n0_:=mk_ (Kd.R_lower ho21 (bz_ (qb_ HB)));have n1_:=mk_ (st_ (qb_ HB) hb);clear HB;have HO316:=n0_;have HB:=n1_;clear n0_ n1_ hb ho21;obtain ⟨i022,hi022,_,hsz22,_⟩:=info_parts info5;obtain ⟨hcut22,hA22,hC22⟩:=print_take_of (P:=Try.prog) (Value.int .u8) 0 22 5 .i64 Try.underlying22 hi022 hsz22 (some ad312) c0 l0 (ji7) (od_ qa_) (od_ qa_) HC0.out;have HR317:=mk_ (Kd.C_of_reads (h1:=fun _ => rfl) (hA22 _ (Kd.reads_of_C HR0.out)));have HC317:=mk_ hC22;clear hA22 hC22 hi022 hsz22)|((with_reducible refine gate_builtin (b:=.append) (xs:=#[.tmp 36,.tmp 39]) rfl ?_);at_builtin;refine Kd.R_append_rows (Kd.int .u8) (w0:=w) w.heap.size rfl (.tmp 36) (.tmp 39) 22 5 (.int .u8 0) 1 rfl Try.underlying22 info5 rfl (by decide) (by omega) v315 y314 (l0.take ((ji7) : Int).toNat) _ _ _ (fun _ => True) (fun _ => False) rfl rfl ?aO ?aR (fun _ _ h => h) (fun _ h => h.elim) ?aF ?aB ?aS ?aL ?_;(case aR => first|exact (cb_ HRQ_.out HB.out)|(rw [← show (l0.take ((ji7) : Int).toNat).length = (ji7).toNat from (by rw [List.length_take];have h_ : ((ji7) : Int) ≤ (l0.length : Int):=od_ qa_;omega)];exact qn_ HR317 HB)|(exact qn_ HR317 HB));(case aB => exact (qb_ HB));(case aF => exact (fun _ _ => trivial));(case aO => exact (qr_ HO316));(case aS => exact (bz_ (qb_ HB)));(case aL => have:=LMc18.out;have hlx_:=(show (l0.take ((ji7) : Int).toNat).length = (ji7).toNat from (by rw [List.length_take];have h_ : ((ji7) : Int) ≤ (l0.length : Int):=od_ qa_;omega));omega);intro v319 w23 ho hb hg hat;rw [← Ny318.out] at ho;have n0_:=mk_ (hb);have n1_:=mk_ (ho);clear HB HO316;have HB:=n0_;have HO320:=n1_;clear n0_ n1_ ho hb hg hat)))
          go_ret2
          exact ⟨_,by first|rfl|(simp [errW_none,errW_some] <;> rfl)|(simp only [← hji7,← hji12];first|rfl|(simp [errW_none,errW_some] <;> rfl))|(simp [*,errW_none,errW_some] <;> rfl),qr_ HO320,u0_ HB⟩
         ·rw [if_neg c18] at H
          exact absurd H (by simp)
        ·rw [if_neg c15] at H
         have c15b0 : (t311 == (wrap64 ((wrap64 ((wrap64 (rd l0 (ji7))) * 256)) + (wrap64 (rd l0 (ji12)))))) = false:=beq_eq_false_iff_ne.mpr c15
         have c15b1 : (t311 != (wrap64 ((wrap64 ((wrap64 (rd l0 (ji7))) * 256)) + (wrap64 (rd l0 (ji12)))))) = true:=bne_iff_ne.mpr c15
         obtain ⟨y321,hy321⟩ : ∃ y_ : List Int,y_ = (([] : List Int)):=⟨_,rfl⟩
         replace H : (some (y321,false)) = some (r1,r2):=by first|(rw [hy321];with_reducible exact H)|(have H2_:=(Option.bind_some _ _).symm.trans H;rw [hy321];with_reducible exact H2_)|(have H2_:=(Option.bind_some _ _).symm.trans H;with_reducible exact H2_)|with_reducible exact H|(rw [hy321];exact H)|exact H
         have Ny321:=mk_ hy321
         clear hy321
         simp only [Option.some.injEq,Prod.mk.injEq] at H
         obtain ⟨rfl,rfl⟩:=H
         obtain ⟨i024,hi024,_,hsz24,_⟩:=info_parts info5
         obtain ⟨hcut24,hA24,hC24⟩:=print_take_of (P:=Try.prog) (Value.int .u8) 0 22 5 .i64 Try.underlying22 hi024 hsz24 A0 c0 l0 (ji7) (od_ qa_) (od_ qa_) HC0.out
         have HR310:=mk_ (Kd.C_of_reads (h1:=fun _ => rfl) (hA24 _ (Kd.reads_of_C HR0.out)))
         have HC310:=mk_ hC24
         clear hA24 hC24 hi024 hsz24
         have p312 : 0 ≤ ((ji7) : Int):=od_ qa_
         have q312 : (ji7) < (l0.length : Int):=od_ qa_
         obtain ⟨ad312,e312,hx312_0⟩:=Kd.at_int HR0.out (ji7) p312 q312
         cases e312
         replace p312:=eq_true p312
         replace q312:=eq_true q312
         have p313 : 0 ≤ ((ji12) : Int):=od_ qa_
         have q313 : (ji12) < (l0.length : Int):=od_ qa_
         obtain ⟨ad313,e313,hx313_0⟩:=Kd.at_int HR0.out (ji12) p313 q313
         obtain rfl : ad312 = ad313:=(by injection e313)
         replace p313:=eq_true p313
         replace q313:=eq_true q313
         have hl_ : (l0.take ((ji7) : Int).toNat).length = (ji7).toNat:=by rw [List.length_take];have h_ : (ji7 : Int) ≤ (l0.length : Int):=od_ qa_;omega
         have hcc_:=fun W (h1_ : Kd.C (Kd.int .u8) W (some ad312) (l0.take ((ji7) : Int).toNat).length (l0.take ((ji7) : Int).toNat)) => spec_CrcOf.calls k (some ad312) c0 (l0.take ((ji7) : Int).toNat) t311 W h1_ HC310.out A10.out
         rw [hl_] at hcc_
         have hrq_:=HR310.out
         rw [hl_] at hrq_
         have HRQ_:=mk_ hrq_
         clear hrq_ hl_
         go_enter Try.func92,Try.ntmps92
         go_wp2_with (first|(go_at_call 97;(with_reducible refine (spec_l1Data.calls _ _ l0 true _ ?side1 ?side2 A2.out).mono ?_);(case side1 => repeat (first|exact HR0.out|(with_reducible refine ca_ ?_ _)|(with_reducible refine cn_ ?_ _)|(with_reducible refine cd_ ?_)));(case side2 => exact HC0.out);rintro e w' ⟨rfl,⟨nd,rfl⟩⟩;(try first|exact ⟨rfl,_,World.drewN_drewN _ _ _⟩|exact ⟨rfl,_,Eq.trans (World.drewN_drewN _ _ _) (congrArg (World.drewN _) (Nat.add_assoc _ _ _))⟩))|(go_at_call 96;(with_reducible refine (hcc_ _ ?side1).mono ?_);(case side1 => repeat (first|exact HRQ_.out|(with_reducible refine ca_ ?_ _)|(with_reducible refine cn_ ?_ _)|(with_reducible refine cd_ ?_)));rintro e w' ⟨rfl,⟨nd,rfl⟩⟩;(try first|exact ⟨rfl,_,World.drewN_drewN _ _ _⟩|exact ⟨rfl,_,Eq.trans (World.drewN_drewN _ _ _) (congrArg (World.drewN _) (Nat.add_assoc _ _ _))⟩))|((with_reducible refine gate_dst (N:=35) rfl ?_);refine Kd.R_lit (Kd.int .u8) _ 5 ?hg (N:=35) ?hd (xs:=([] : List Int)) (inner:=[]) (ok:=fun _ => True) (okp:=fun _ => True) ?hr ?hp (fun _ hk => hk) trivial (Below.refl _ _) (Nat.le_refl _) (by simp) ?_;(case hd => rfl);(case hg => rfl);(case hr => first|(go_simp;done)|(go_simp;rfl));(case hp => exact (Reps.none _ _));intro v322 w25 ho26 hb hg_ hnew_;clear hg_ hnew_;(first|rw [← Ny321.out] at ho26|(simp only [Int.reduceToNat] at ho26;rw [← Ny321.out] at ho26));have n0_:=mk_ (Kd.R_lower ho26 (bz_ (qb_ HB)));have n1_:=mk_ (st_ (qb_ HB) hb);clear HB;have HO323:=n0_;have HB:=n1_;clear n0_ n1_ hb ho26))
         repeat (go_quiet (first|(go_at_call 97;(with_reducible refine (spec_l1Data.calls _ _ l0 true _ ?side1 ?side2 A2.out).mono ?_);(case side1 => repeat (first|exact HR0.out|(with_reducible refine ca_ ?_ _)|(with_reducible refine cn_ ?_ _)|(with_reducible refine cd_ ?_)));(case side2 => exact HC0.out);rintro e w' ⟨rfl,⟨nd,rfl⟩⟩;(try first|exact ⟨rfl,_,World.drewN_drewN _ _ _⟩|exact ⟨rfl,_,Eq.trans (World.drewN_drewN _ _ _) (congrArg (World.drewN _) (Nat.add_assoc _ _ _))⟩))|(go_at_call 96;(with_reducible refine (hcc_ _ ?side1).mono ?_);(case side1 => repeat (first|exact HRQ_.out|(with_reducible refine ca_ ?_ _)|(with_reducible refine cn_ ?_ _)|(with_reducible refine cd_ ?_)));rintro e w' ⟨rfl,⟨nd,rfl⟩⟩;(try first|exact ⟨rfl,_,World.drewN_drewN _ _ _⟩|exact ⟨rfl,_,Eq.trans (World.drewN_drewN _ _ _) (congrArg (World.drewN _) (Nat.add_assoc _ _ _))⟩))|((with_reducible refine gate_dst (N:=35) rfl ?_);refine Kd.R_lit (Kd.int .u8) _ 5 ?hg (N:=35) ?hd (xs:=([] : List Int)) (inner:=[]) (ok:=fun _ => True) (okp:=fun _ => True) ?hr ?hp (fun _ hk => hk) trivial (Below.refl _ _) (Nat.le_refl _) (by simp) ?_;(case hd => rfl);(case hg => rfl);(case hr => first|(go_simp;done)|(go_simp;rfl));(case hp => exact (Reps.none _ _));intro v322 w25 ho26 hb hg_ hnew_;clear hg_ hnew_;(first|rw [← Ny321.out] at ho26|(simp only [Int.reduceToNat] at ho26;rw [← Ny321.out] at ho26));have n0_:=mk_ (Kd.R_lower ho26 (bz_ (qb_ HB)));have n1_:=mk_ (st_ (qb_ HB) hb);clear HB;have HO323:=n0_;have HB:=n1_;clear n0_ n1_ hb ho26));try go_wp2_with (first|(go_at_call 97;(with_reducible refine (spec_l1Data.calls _ _ l0 true _ ?side1 ?side2 A2.out).mono ?_);(case side1 => repeat (first|exact HR0.out|(with_reducible refine ca_ ?_ _)|(with_reducible refine cn_ ?_ _)|(with_reducible refine cd_ ?_)));(case side2 => exact HC0.out);rintro e w' ⟨rfl,⟨nd,rfl⟩⟩;(try first|exact ⟨rfl,_,World.drewN_drewN _ _ _⟩|exact ⟨rfl,_,Eq.trans (World.drewN_drewN _ _ _) (congrArg (World.drewN _) (Nat.add_assoc _ _ _))⟩))|(go_at_call 96;(with_reducible refine (hcc_ _ ?side1).mono ?_);(case side1 => repeat (first|exact HRQ_.out|(with_reducible refine ca_ ?_ _)|(with_reducible refine cn_ ?_ _)|(with_reducible refine cd_ ?_)));rintro e w' ⟨rfl,⟨nd,rfl⟩⟩;(try first|exact ⟨rfl,_,World.drewN_drewN _ _ _⟩|exact ⟨rfl,_,Eq.trans (World.drewN_drewN _ _ _) (congrArg (World.drewN _) (Nat.add_assoc _ _ _))⟩))|((with_reducible refine gate_dst (N:=35) rfl ?_);refine Kd.R_lit (Kd.int .u8) _ 5 ?hg (N:=35) ?hd (xs:=([] : List Int)) (inner:=[]) (ok:=fun _ => True) (okp:=fun _ => True) ?hr ?hp (fun _ hk => hk) trivial (Below.refl _ _) (Nat.le_refl _) (by simp) ?_;(case hd => rfl);(case hg => rfl);(case hr => first|(go_simp;done)|(go_simp;rfl));(case hp => exact (Reps.none _ _));intro v322 w25 ho26 hb hg_ hnew_;clear hg_ hnew_;(first|rw [← Ny321.out] at ho26|(simp only [Int.reduceToNat] at ho26;rw [← Ny321.out] at ho26));have n0_:=mk_ (Kd.R_lower ho26 (bz_ (qb_ HB)));have n1_:=mk_ (st_ (qb_ HB) hb);clear HB;have HO323:=n0_;have HB:=n1_;clear n0_ n1_ hb ho26)))
         go_ret2
         exact ⟨_,by first|rfl|(simp [errW_none,errW_some] <;> rfl)|(simp only [← hji7,← hji12];first|rfl|(simp [errW_none,errW_some] <;> rfl))|(simp [*,errW_none,errW_some] <;> rfl),qr_ HO323,u0_ HB⟩
       ·rw [if_neg c14] at H
        exact absurd H (by simp)
      ·rw [if_neg c13] at H
       exact absurd H (by simp)
     ·rw [if_neg c11] at H
      exact absurd H (by simp)
    ·rw [if_neg c9] at H
     exact absurd H (by simp)
   ·rw [if_neg c8] at H
    exact absurd H (by simp)
 ·replace c3:=Bool.eq_false_iff.mpr c3
  subst c3
  have H1 : (some ((([] : List Int)),false)) = some (r1,r2):=by rw [if_neg (show ¬ (false = true) by decide)] at H;exact H
  clear H
  have H:=H1
  clear H1
  obtain ⟨y324,hy324⟩ : ∃ y_ : List Int,y_ = (([] : List Int)):=⟨_,rfl⟩
  replace H : (some (y324,false)) = some (r1,r2):=by first|(rw [hy324];with_reducible exact H)|(have H2_:=(Option.bind_some _ _).symm.trans H;rw [hy324];with_reducible exact H2_)|(have H2_:=(Option.bind_some _ _).symm.trans H;with_reducible exact H2_)|with_reducible exact H|(rw [hy324];exact H)|exact H
  have Ny324:=mk_ hy324
  clear hy324
  simp only [Option.some.injEq,Prod.mk.injEq] at H
  obtain ⟨rfl,rfl⟩:=H
  go_enter Try.func92,Try.ntmps92
  go_wp2_with (first|(go_at_call 97;(with_reducible refine (spec_l1Data.calls _ _ l0 false _ ?side1 ?side2 A2.out).mono ?_);(case side1 => repeat (first|exact HR0.out|(with_reducible refine ca_ ?_ _)|(with_reducible refine cn_ ?_ _)|(with_reducible refine cd_ ?_)));(case side2 => exact HC0.out);rintro e w' ⟨rfl,⟨nd,rfl⟩⟩;(try first|exact ⟨rfl,_,World.drewN_drewN _ _ _⟩|exact ⟨rfl,_,Eq.trans (World.drewN_drewN _ _ _) (congrArg (World.drewN _) (Nat.add_assoc _ _ _))⟩))|((with_reducible refine gate_dst (N:=35) rfl ?_);refine Kd.R_lit (Kd.int .u8) _ 5 ?hg (N:=35) ?hd (xs:=([] : List Int)) (inner:=[]) (ok:=fun _ => True) (okp:=fun _ => True) ?hr ?hp (fun _ hk => hk) trivial (Below.refl _ _) (Nat.le_refl _) (by simp) ?_;(case hd => rfl);(case hg => rfl);(case hr => first|(go_simp;done)|(go_simp;rfl));(case hp => exact (Reps.none _ _));intro v325 w27 ho28 hb hg_ hnew_;clear hg_ hnew_;(first|rw [← Ny324.out] at ho28|(simp only [Int.reduceToNat] at ho28;rw [← Ny324.out] at ho28));have n0_:=mk_ (Kd.R_lower ho28 (bz_ (qb_ HB)));have n1_:=mk_ (st_ (qb_ HB) hb);clear HB;have HO326:=n0_;have HB:=n1_;clear n0_ n1_ hb ho28))
  repeat (go_quiet (first|(go_at_call 97;(with_reducible refine (spec_l1Data.calls _ _ l0 false _ ?side1 ?side2 A2.out).mono ?_);(case side1 => repeat (first|exact HR0.out|(with_reducible refine ca_ ?_ _)|(with_reducible refine cn_ ?_ _)|(with_reducible refine cd_ ?_)));(case side2 => exact HC0.out);rintro e w' ⟨rfl,⟨nd,rfl⟩⟩;(try first|exact ⟨rfl,_,World.drewN_drewN _ _ _⟩|exact ⟨rfl,_,Eq.trans (World.drewN_drewN _ _ _) (congrArg (World.drewN _) (Nat.add_assoc _ _ _))⟩))|((with_reducible refine gate_dst (N:=35) rfl ?_);refine Kd.R_lit (Kd.int .u8) _ 5 ?hg (N:=35) ?hd (xs:=([] : List Int)) (inner:=[]) (ok:=fun _ => True) (okp:=fun _ => True) ?hr ?hp (fun _ hk => hk) trivial (Below.refl _ _) (Nat.le_refl _) (by simp) ?_;(case hd => rfl);(case hg => rfl);(case hr => first|(go_simp;done)|(go_simp;rfl));(case hp => exact (Reps.none _ _));intro v325 w27 ho28 hb hg_ hnew_;clear hg_ hnew_;(first|rw [← Ny324.out] at ho28|(simp only [Int.reduceToNat] at ho28;rw [← Ny324.out] at ho28));have n0_:=mk_ (Kd.R_lower ho28 (bz_ (qb_ HB)));have n1_:=mk_ (st_ (qb_ HB) hb);clear HB;have HO326:=n0_;have HB:=n1_;clear n0_ n1_ hb ho28));try go_wp2_with (first|(go_at_call 97;(with_reducible refine (spec_l1Data.calls _ _ l0 false _ ?side1 ?side2 A2.out).mono ?_);(case side1 => repeat (first|exact HR0.out|(with_reducible refine ca_ ?_ _)|(with_reducible refine cn_ ?_ _)|(with_reducible refine cd_ ?_)));(case side2 => exact HC0.out);rintro e w' ⟨rfl,⟨nd,rfl⟩⟩;(try first|exact ⟨rfl,_,World.drewN_drewN _ _ _⟩|exact ⟨rfl,_,Eq.trans (World.drewN_drewN _ _ _) (congrArg (World.drewN _) (Nat.add_assoc _ _ _))⟩))|((with_reducible refine gate_dst (N:=35) rfl ?_);refine Kd.R_lit (Kd.int .u8) _ 5 ?hg (N:=35) ?hd (xs:=([] : List Int)) (inner:=[]) (ok:=fun _ => True) (okp:=fun _ => True) ?hr ?hp (fun _ hk => hk) trivial (Below.refl _ _) (Nat.le_refl _) (by simp) ?_;(case hd => rfl);(case hg => rfl);(case hr => first|(go_simp;done)|(go_simp;rfl));(case hp => exact (Reps.none _ _));intro v325 w27 ho28 hb hg_ hnew_;clear hg_ hnew_;(first|rw [← Ny324.out] at ho28|(simp only [Int.reduceToNat] at ho28;rw [← Ny324.out] at ho28));have n0_:=mk_ (Kd.R_lower ho28 (bz_ (qb_ HB)));have n1_:=mk_ (st_ (qb_ HB) hb);clear HB;have HO326:=n0_;have HB:=n1_;clear n0_ n1_ hb ho28)))
  go_ret2
  exact ⟨_,qe_,qr_ HO326,u0_ HB⟩

/-! ### spec_UnpackLink: function 76 -/
def spec_UnpackLink.j0 : Nat → List Int → Bool → Option (Int × Int × List Int × Bool)
 | 0,_,_ => none
 | k + 1,x6,x20 => if x20 = true then (some (0,0,(([] : List Int)),false)) else (if 0 < (x6.length : Int) then ((spec_l1In.f (wrap64 (Int.tdiv (wrap64 (rd x6 0)) 16)) 1 2).bind fun t335 => (if t335 = true then (if (wrap64 (Int.tdiv (wrap64 (rd x6 0)) 16)) = 2 then (if (x6.length : Int) > 1 then (some (0,0,(([] : List Int)),false)) else ((some (([] : List Int) : List Int)).bind fun y340 => (if 1 ≤ (x6.length : Int) then ((some (x6.drop 1 : List Int)).bind fun y343 => (if y340.length + y343.length < 140737488355328 then (some (wrap64 (Int.tdiv (wrap64 (rd x6 0)) 16),Int.tmod (wrap64 (rd x6 0)) 16,(y340 ++ y343),true)) else (none))) else (none)))) else ((some (([] : List Int) : List Int)).bind fun y351 => (if 1 ≤ (x6.length : Int) then ((some (x6.drop 1 : List Int)).bind fun y354 => (if y351.length + y354.length < 140737488355328 then (some (wrap64 (Int.tdiv (wrap64 (rd x6 0)) 16),Int.tmod (wrap64 (rd x6 0)) 16,(y351 ++ y354),true)) else (none))) else (none)))) else (some (0,0,(([] : List Int)),false)))) else (none))
def spec_UnpackLink.f (k : Nat) (l0 : List Int) : Option (Int × Int × List Int × Bool):=(spec_CutCrc.f k l0).bind fun bt327 => (if bt327.2 = true then (spec_UnpackLink.j0 k bt327.1 ((bt327.1.length : Int) == 0)) else (spec_UnpackLink.j0 k bt327.1 true))
theorem spec_UnpackLink.mono_l : ∀ k,(∀ y0 y1,LeO (spec_UnpackLink.j0 k y0 y1) (spec_UnpackLink.j0 (k + 1) y0 y1))
 | 0 => fun _ _ r h => by simp [spec_UnpackLink.j0] at h
 | k + 1 => by
  have ih0:=spec_UnpackLink.mono_l k
  ·intro y0 y1
   unfold spec_UnpackLink.j0
   repeat' first
   | (with_reducible exact ih0 _ _)
   | (with_reducible exact spec_CutCrc.mono _ _)
   | (with_reducible exact LeO.refl _)
   | (with_reducible exact LeO.none _)
   | (with_reducible refine LeO.ite ?_ ?_)
   | (with_reducible refine LeO.bind ?_ (fun _ => ?_))
   | exact ih0 _ _
   | exact spec_CutCrc.mono _ _
   | exact LeO.none _
   | refine LeO.ite ?_ ?_
   | refine LeO.bind ?_ (fun _ => ?_)
theorem spec_UnpackLink.mono : ∀ a0 k,LeO (spec_UnpackLink.f k a0) (spec_UnpackLink.f (k + 1) a0):=by
 intro a0 k
 have ih0:=spec_UnpackLink.mono_l k
 unfold spec_UnpackLink.f
 repeat' first
   | (with_reducible exact ih0 _ _)
   | (with_reducible exact spec_CutCrc.mono _ _)
   | (with_reducible exact LeO.refl _)
   | (with_reducible exact LeO.none _)
   | (with_reducible refine LeO.ite ?_ ?_)
   | (with_reducible refine LeO.bind ?_ (fun _ => ?_))
   | exact ih0 _ _
   | exact spec_CutCrc.mono _ _
   | exact LeO.none _
   | refine LeO.ite ?_ ?_
   | refine LeO.bind ?_ (fun _ => ?_)
def spec_UnpackLink.T7 : Bool × List (List Nat × List Nat):=(true,[([],[]),([],[]),([1],[1]),([2],[2]),([3],[3]),([4],[4]),([],[]),([],[]),([7],[7]),([6,8],[6,8]),([0,9,0],[0]),([5,10,0,1,2,3,4,5,10],[5]),([9,11,0,1,2,3,4,5,6,7,8,9,10,11],[9]),([12,0,1,2,3,4,5,6,7,8,9,10,11,12],[])])
def spec_UnpackLink.B7 : List Nat:=[0,0,2,6,14,30,0,0,128,448,961,2047,4095,8191]
theorem spec_UnpackLink.tab7 : rtab .any (opsOf Try.f76 7) = spec_UnpackLink.T7:=by kernel_rfl
theorem spec_UnpackLink.bits7 : waitsOk spec_UnpackLink.T7.2 spec_UnpackLink.B7 = true:=by kernel_rfl
set_option maxHeartbeats 8000000 in
set_option maxRecDepth 100000 in
theorem spec_UnpackLink.calls (k : Nat) (A0 : Option Addr) (c0 : Nat) (l0 : List Int) (r1 : Int) (r2 : Int) (r3 : List Int) (r4 : Bool) (w : World) (hr0 : Kd.C (Kd.int .u8) w A0 l0.length l0) (hc0 : l0.length ≤ c0) (h : spec_UnpackLink.f k l0 = some (r1,r2,r3,r4)) :
  Calls Try.prog 76 #[.slice A0 l0.length c0] w fun e w' => ∃ v2_ : Value,e = .returned (.tuple #[.int .i64 r1,.int .i64 r2,v2_,.bool r4]) ∧ Kd.R (Kd.int .u8) 5 w' w.heap.size (fun _ => True) v2_ r3 ∧ Below w.heap.size w w':=by
 have HR0:=mk_ hr0
 have HC0:=mk_ hc0
 clear hr0 hc0
 have HB:=mk_ (Below.refl w.heap.size w)
 have H : ((spec_CutCrc.f k l0).bind fun bt327 => (if bt327.2 = true then (spec_UnpackLink.j0 k bt327.1 ((bt327.1.length : Int) == 0)) else (spec_UnpackLink.j0 k bt327.1 true))) = some (r1,r2,r3,r4):=h
 clear h
 replace H:=Option.bind_eq_some_iff.mp H
 obtain ⟨⟨t327,t328⟩,A20,H⟩:=H
 replace H : (if t328 = true then (spec_UnpackLink.j0 k t327 ((t327.length : Int) == 0)) else (spec_UnpackLink.j0 k t327 true)) = some (r1,r2,r3,r4):=H
 have A2:=mk_ A20
 clear A20
 have HC3:=mk_ H
 clear H
 go_enter Try.func76,Try.ntmps76
 go_upto_region 2 with (first|((with_reducible refine gate_callee (f:=92) rfl ?_);refine goesL_ (some 11) rfl rfl Try.func92 (by kernel_rfl) rfl #[.slice A0 l0.length c0] rfl qm_ ?_;(with_reducible refine (spec_CutCrc.calls k _ _ l0 t327 t328 _ ?side1 ?side2 A2.out).mono ?_);(case side1 => repeat (first|exact HR0.out|(with_reducible refine ca_ ?_ _)|(with_reducible refine cn_ ?_ _)|(with_reducible refine cd_ ?_)));(case side2 => exact HC0.out);rintro e w4 ⟨v329,rfl,ho0,hb⟩;refine ⟨_,rfl,?_⟩;have n0_:=mk_ (Kd.R_lower ho0 (bz_ (qb_ HB)));have n1_:=mk_ (st_ (qb_ HB) hb);clear HB;have HO330:=n0_;have HB:=n1_;clear n0_ n1_;(try clear hb);(try clear hb2);(try clear hk);(try clear hi);(try clear ho0)))
 (try simp only [Act.put,sx_,sy_,sz_])
 go_cut [20] (fun v20 wc => ∃ (kq : Nat) (x20_2 : Bool),v20 = .bool x20_2 ∧ Aside0 (spec_UnpackLink.j0 kq t327 x20_2 = some (r1,r2,r3,r4)) ∧ Aside0 (kq ≤ k) ∧ Aside0 (Kd.R (Kd.int .u8) 5 wc w.heap.size (fun _ => True) v329 t327) ∧ Aside0 (Below w.heap.size w wc))
 case first =>
  have H:=HC3.out
  clear HC3
  by_cases c5 : t328 = true
  ·subst c5
   have H1 : (spec_UnpackLink.j0 k t327 ((t327.length : Int) == 0)) = some (r1,r2,r3,r4):=by rw [if_pos rfl] at H;exact H
   clear H
   have H:=H1
   clear H1
   have H':=mk_ H
   clear H
   obtain ⟨Ao6,co6,eo6⟩:=Kd.R_slice HO330.out
   subst eo6
   go_wp2
   go_meet
   case rel => exact ⟨_,(((t327.length : Int) == 0)),qf_,H',⟨by first|omega|exact Nat.le_refl _⟩,⟨qr_ HO330⟩,⟨u0_ HB⟩⟩
  ·replace c5:=Bool.eq_false_iff.mpr c5
   subst c5
   have H1 : (spec_UnpackLink.j0 k t327 true) = some (r1,r2,r3,r4):=by rw [if_neg (show ¬ (false = true) by decide)] at H;exact H
   clear H
   have H:=H1
   clear H1
   have H':=mk_ H
   clear H
   go_wp2
   go_meet
   case rel => exact ⟨_,(true),qf_,H',⟨by first|omega|exact Nat.le_refl _⟩,⟨qr_ HO330⟩,⟨u0_ HB⟩⟩
 case rest =>
  clear HC3
  try clear p2
  try clear c5
  obtain ⟨kq,x20_2,rfl,HA,HJ2,HO_6,HB⟩:=hcut
  cases kq with
  | zero => exact absurd HA.out (by simp [spec_UnpackLink.j0])
  | succ kj2 =>
   have H:=HA.out
   clear HA
   simp only [spec_UnpackLink.j0] at H
   by_cases c7 : x20_2 = true
   ·subst c7
    have H1 : (some (0,0,(([] : List Int)),false)) = some (r1,r2,r3,r4):=by rw [if_pos rfl] at H;exact H
    clear H
    have H:=H1
    clear H1
    obtain ⟨y331,hy331⟩ : ∃ y_ : List Int,y_ = (([] : List Int)):=⟨_,rfl⟩
    replace H : (some (0,0,y331,false)) = some (r1,r2,r3,r4):=by first|(rw [hy331];with_reducible exact H)|(have H2_:=(Option.bind_some _ _).symm.trans H;rw [hy331];with_reducible exact H2_)|(have H2_:=(Option.bind_some _ _).symm.trans H;with_reducible exact H2_)|with_reducible exact H|(rw [hy331];exact H)|exact H
    have Ny331:=mk_ hy331
    clear hy331
    simp only [Option.some.injEq,Prod.mk.injEq] at H
    obtain ⟨rfl,rfl,rfl,rfl⟩:=H
    go_wp2_with (first|((with_reducible refine gate_dst (N:=21) rfl ?_);(try (refine gate_guard (by rfl) ?_;dsimp only));refine Kd.R_lit (Kd.int .u8) _ 5 ?hg (N:=21) ?hd (xs:=([] : List Int)) (inner:=[]) (ok:=fun _ => True) (okp:=fun _ => True) ?hr ?hp (fun _ hk => hk) trivial (Below.refl _ _) (Nat.le_refl _) (by simp) ?_;(case hd => rfl);(case hg => rfl);(case hr => first|(go_simp;done)|(go_simp;rfl));(case hp => exact (Reps.none _ _));intro v332 w8 ho9 hb hg_ hnew_;clear hg_ hnew_;(first|rw [← Ny331.out] at ho9|(simp only [Int.reduceToNat] at ho9;rw [← Ny331.out] at ho9));have n0_:=mk_ (re_ (qr_ HO_6) (Kd.R_base ho9) hb);have n1_:=mk_ (Kd.R_lower (Kd.R_new' ho9 (Kd.R_lt (qr_ HO_6))) (bz_ (qb_ HB)));have n2_:=mk_ (st_ (qb_ HB) hb);clear HO_6 HB;have HO_6:=n0_;have HO333:=n1_;have HB:=n2_;clear n0_ n1_ n2_ hb ho9))
    refine bodyPost_ret (results_list (rs:=[.tmp 2,.tmp 3,.tmp 4,.tmp 5]) rfl (by simp) (.tmp (.tmp (.tmp (.tmp .nil))))) rfl ?_
    exact ⟨_,qe_,by (with_reducible repeat (first|apply ra_|apply rn_|apply rd_));exact rm_ HO333.out (λ_ _=>trivial),u0_ HB⟩
   ·replace c7:=Bool.eq_false_iff.mpr c7
    subst c7
    have H1 : (if 0 < (t327.length : Int) then ((spec_l1In.f (wrap64 (Int.tdiv (wrap64 (rd t327 0)) 16)) 1 2).bind fun t335 => (if t335 = true then (if (wrap64 (Int.tdiv (wrap64 (rd t327 0)) 16)) = 2 then (if (t327.length : Int) > 1 then (some (0,0,(([] : List Int)),false)) else ((some (([] : List Int) : List Int)).bind fun y340 => (if 1 ≤ (t327.length : Int) then ((some (t327.drop 1 : List Int)).bind fun y343 => (if y340.length + y343.length < 140737488355328 then (some (wrap64 (Int.tdiv (wrap64 (rd t327 0)) 16),Int.tmod (wrap64 (rd t327 0)) 16,(y340 ++ y343),true)) else (none))) else (none)))) else ((some (([] : List Int) : List Int)).bind fun y351 => (if 1 ≤ (t327.length : Int) then ((some (t327.drop 1 : List Int)).bind fun y354 => (if y351.length + y354.length < 140737488355328 then (some (wrap64 (Int.tdiv (wrap64 (rd t327 0)) 16),Int.tmod (wrap64 (rd t327 0)) 16,(y351 ++ y354),true)) else (none))) else (none)))) else (some (0,0,(([] : List Int)),false)))) else (none)) = some (r1,r2,r3,r4):=by rw [if_neg (show ¬ (false = true) by decide)] at H;exact H
    clear H
    have H:=H1
    clear H1
    by_cases c10 : 0 < (t327.length : Int)
    ·rw [if_pos c10] at H
     have c10b0 : decide (0 < (t327.length : Int)) = true:=decide_eq_true c10
     have c10b1 : decide (0 < t327.length) = true:=decide_eq_true (by omega)
     clear c10
     replace H:=Option.bind_eq_some_iff.mp H
     obtain ⟨t335,A110,H⟩:=H
     replace H : (if t335 = true then (if (wrap64 (Int.tdiv (wrap64 (rd t327 0)) 16)) = 2 then (if (t327.length : Int) > 1 then (some (0,0,(([] : List Int)),false)) else ((some (([] : List Int) : List Int)).bind fun y340 => (if 1 ≤ (t327.length : Int) then ((some (t327.drop 1 : List Int)).bind fun y343 => (if y340.length + y343.length < 140737488355328 then (some (wrap64 (Int.tdiv (wrap64 (rd t327 0)) 16),Int.tmod (wrap64 (rd t327 0)) 16,(y340 ++ y343),true)) else (none))) else (none)))) else ((some (([] : List Int) : List Int)).bind fun y351 => (if 1 ≤ (t327.length : Int) then ((some (t327.drop 1 : List Int)).bind fun y354 => (if y351.length + y354.length < 140737488355328 then (some (wrap64 (Int.tdiv (wrap64 (rd t327 0)) 16),Int.tmod (wrap64 (rd t327 0)) 16,(y351 ++ y354),true)) else (none))) else (none)))) else (some (0,0,(([] : List Int)),false))) = some (r1,r2,r3,r4):=H
     have A11:=mk_ A110
     clear A110
     by_cases c12 : t335 = true
     ·subst c12
      have H1 : (if (wrap64 (Int.tdiv (wrap64 (rd t327 0)) 16)) = 2 then (if (t327.length : Int) > 1 then (some (0,0,(([] : List Int)),false)) else ((some (([] : List Int) : List Int)).bind fun y340 => (if 1 ≤ (t327.length : Int) then ((some (t327.drop 1 : List Int)).bind fun y343 => (if y340.length + y343.length < 140737488355328 then (some (wrap64 (Int.tdiv (wrap64 (rd t327 0)) 16),Int.tmod (wrap64 (rd t327 0)) 16,(y340 ++ y343),true)) else (none))) else (none)))) else ((some (([] : List Int) : List Int)).bind fun y351 => (if 1 ≤ (t327.length : Int) then ((some (t327.drop 1 : List Int)).bind fun y354 => (if y351.length + y354.length < 140737488355328 then (some (wrap64 (Int.tdiv (wrap64 (rd t327 0)) 16),Int.tmod (wrap64 (rd t327 0)) 16,(y351 ++ y354),true)) else (none))) else (none)))) = some (r1,r2,r3,r4):=by rw [if_pos rfl] at H;exact H
      clear H
      have H:=H1
      clear H1
      by_cases c13 : (wrap64 (Int.tdiv (wrap64 (rd t327 0)) 16)) = 2
      ·rw [if_pos c13] at H
       have c13b0 : ((wrap64 (Int.tdiv (wrap64 (rd t327 0)) 16)) == 2) = true:=beq_iff_eq.mpr c13
       have c13b1 : ((wrap64 (Int.tdiv (wrap64 (rd t327 0)) 16)) != 2) = false:=bne_eq_false_iff_eq.mpr c13
       clear c13
       by_cases c14 : (t327.length : Int) > 1
       ·rw [if_pos c14] at H
        have c14b0 : decide (1 < (t327.length : Int)) = true:=decide_eq_true c14
        have c14b1 : decide (1 < t327.length) = true:=decide_eq_true (by omega)
        clear c14
        obtain ⟨y336,hy336⟩ : ∃ y_ : List Int,y_ = (([] : List Int)):=⟨_,rfl⟩
        replace H : (some (0,0,y336,false)) = some (r1,r2,r3,r4):=by first|(rw [hy336];with_reducible exact H)|(have H2_:=(Option.bind_some _ _).symm.trans H;rw [hy336];with_reducible exact H2_)|(have H2_:=(Option.bind_some _ _).symm.trans H;with_reducible exact H2_)|with_reducible exact H|(rw [hy336];exact H)|exact H
        have Ny336:=mk_ hy336
        clear hy336
        simp only [Option.some.injEq,Prod.mk.injEq] at H
        obtain ⟨rfl,rfl,rfl,rfl⟩:=H
        obtain ⟨Ao15,co15,eo15⟩:=Kd.R_slice HO_6.out
        subst eo15
        have p334 : 0 ≤ (0 : Int):=(by omega)
        have q334 : 0 < (t327.length : Int):=od_ qa_
        obtain ⟨ad334,e334,hx334_0⟩:=Kd.at_int (rr_ HO_6.out).2.2 0 p334 q334
        cases e334
        have qi334 : (0 < t327.length) = True:=eq_true (by omega)
        (try rw [show ((0 : Int)).toNat = 0 from rfl] at hx334_0)
        (try rw [Addr.add_zero'] at hx334_0)
        replace p334:=eq_true p334
        replace q334:=eq_true q334
        go_wp2_with (first|((with_reducible refine gate_callee (f:=36) rfl ?_);refine goesL_ (some 28) rfl rfl Try.func36 (by kernel_rfl) rfl #[.int .i64 (wrap64 (Int.tdiv (wrap64 (rd t327 0)) 16)),.int .i64 1,.int .i64 2] rfl qm_ ?_;(with_reducible refine (spec_l1In.calls (wrap64 (Int.tdiv (wrap64 (rd t327 0)) 16)) 1 2 true _ A11.out).mono ?_);rintro e w' ⟨rfl,⟨nd,rfl⟩⟩;refine ⟨_,rfl,?_⟩)|((with_reducible refine gate_dst (N:=39) rfl ?_);(try (refine gate_guard (by rfl) ?_;dsimp only));refine Kd.R_lit (Kd.int .u8) _ 5 ?hg (N:=39) ?hd (xs:=([] : List Int)) (inner:=[]) (ok:=fun _ => True) (okp:=fun _ => True) ?hr ?hp (fun _ hk => hk) trivial (Below.refl _ _) (Nat.le_refl _) (by simp) ?_;(case hd => rfl);(case hg => rfl);(case hr => first|(go_simp;done)|(go_simp;rfl));(case hp => exact (Reps.none _ _));intro v337 w16 ho17 hb hg_ hnew_;clear hg_ hnew_;(first|rw [← Ny336.out] at ho17|(simp only [Int.reduceToNat] at ho17;rw [← Ny336.out] at ho17));have n0_:=mk_ (re_ (qr_ HO_6) (Kd.R_base ho17) hb);have n1_:=mk_ (Kd.R_lower (Kd.R_new' ho17 (Kd.R_lt (qr_ HO_6))) (bz_ (qb_ HB)));have n2_:=mk_ (st_ (qb_ HB) hb);clear HO_6 HB;have HO_6:=n0_;have HO338:=n1_;have HB:=n2_;clear n0_ n1_ n2_ hb ho17))
        refine bodyPost_ret (results_list (rs:=[.tmp 2,.tmp 3,.tmp 4,.tmp 5]) rfl (by simp) (.tmp (.tmp (.tmp (.tmp .nil))))) rfl ?_
        exact ⟨_,qe_,by (with_reducible repeat (first|apply ra_|apply rn_|apply rd_));exact rm_ HO338.out (λ_ _=>trivial),u0_ HB⟩
       ·rw [if_neg c14] at H
        have c14b0 : decide (1 < (t327.length : Int)) = false:=decide_eq_false c14
        have c14b1 : decide (1 < t327.length) = false:=decide_eq_false (by omega)
        clear c14
        obtain ⟨y340,hy340⟩ : ∃ y_ : List Int,y_ = (([] : List Int)):=⟨_,rfl⟩
        replace H : (if 1 ≤ (t327.length : Int) then ((some (t327.drop 1 : List Int)).bind fun y343 => (if y340.length + y343.length < 140737488355328 then (some (wrap64 (Int.tdiv (wrap64 (rd t327 0)) 16),Int.tmod (wrap64 (rd t327 0)) 16,(y340 ++ y343),true)) else (none))) else (none)) = some (r1,r2,r3,r4):=by first|(rw [hy340];with_reducible exact H)|(have H2_:=(Option.bind_some _ _).symm.trans H;rw [hy340];with_reducible exact H2_)|(have H2_:=(Option.bind_some _ _).symm.trans H;with_reducible exact H2_)|with_reducible exact H|(rw [hy340];exact H)|exact H
        have Ny340:=mk_ hy340
        clear hy340
        by_cases c18 : 1 ≤ (t327.length : Int)
        ·rw [if_pos c18] at H
         have c18b0:=eq_true c18
         have c18b1 : decide (1 ≤ (t327.length : Int)) = true:=decide_eq_true c18
         clear c18
         obtain ⟨y343,hy343⟩ : ∃ y_ : List Int,y_ = (t327.drop 1):=⟨_,rfl⟩
         replace H : (if y340.length + y343.length < 140737488355328 then (some (wrap64 (Int.tdiv (wrap64 (rd t327 0)) 16),Int.tmod (wrap64 (rd t327 0)) 16,(y340 ++ y343),true)) else (none)) = some (r1,r2,r3,r4):=by first|(rw [hy343];with_reducible exact H)|(have H2_:=(Option.bind_some _ _).symm.trans H;rw [hy343];with_reducible exact H2_)|(have H2_:=(Option.bind_some _ _).symm.trans H;with_reducible exact H2_)|with_reducible exact H|(rw [hy343];exact H)|exact H
         have Ny343:=mk_ hy343
         clear hy343
         by_cases c19 : y340.length + y343.length < 140737488355328
         ·rw [if_pos c19] at H
          have LMc19:=mk_ c19
          clear c19
          obtain ⟨y347,hy347⟩ : ∃ y_ : List Int,y_ = (y340 ++ y343):=⟨_,rfl⟩
          replace H : (some (wrap64 (Int.tdiv (wrap64 (rd t327 0)) 16),Int.tmod (wrap64 (rd t327 0)) 16,y347,true)) = some (r1,r2,r3,r4):=by first|(rw [hy347];with_reducible exact H)|(have H2_:=(Option.bind_some _ _).symm.trans H;rw [hy347];with_reducible exact H2_)|(have H2_:=(Option.bind_some _ _).symm.trans H;with_reducible exact H2_)|with_reducible exact H|(rw [hy347];exact H)|exact H
          have Ny347:=mk_ hy347
          clear hy347
          simp only [Option.some.injEq,Prod.mk.injEq] at H
          obtain ⟨rfl,rfl,rfl,rfl⟩:=H
          obtain ⟨Ao20,co20,eo20⟩:=Kd.R_slice HO_6.out
          subst eo20
          have p334 : 0 ≤ (0 : Int):=(by omega)
          have q334 : 0 < (t327.length : Int):=od_ qa_
          obtain ⟨ad334,e334,hx334_0⟩:=Kd.at_int (rr_ HO_6.out).2.2 0 p334 q334
          cases e334
          have qi334 : (0 < t327.length) = True:=eq_true (by omega)
          (try rw [show ((0 : Int)).toNat = 0 from rfl] at hx334_0)
          (try rw [Addr.add_zero'] at hx334_0)
          replace p334:=eq_true p334
          replace q334:=eq_true q334
          try go_wp2_with (first|((with_reducible refine gate_callee (f:=36) rfl ?_);refine goesL_ (some 28) rfl rfl Try.func36 (by kernel_rfl) rfl #[.int .i64 (wrap64 (Int.tdiv (wrap64 (rd t327 0)) 16)),.int .i64 1,.int .i64 2] rfl qm_ ?_;(with_reducible refine (spec_l1In.calls (wrap64 (Int.tdiv (wrap64 (rd t327 0)) 16)) 1 2 true _ A11.out).mono ?_);rintro e w' ⟨rfl,⟨nd,rfl⟩⟩;refine ⟨_,rfl,?_⟩))
          (try (rw [drewN_self wc];generalize hq_ : World.drewN wc _ = wc;have n0_ : Aside0 (Kd.R (Kd.int .u8) 5 wc w.heap.size (fun _ => True) (.slice (some ad334) t327.length co20) t327):=⟨by rw [← hq_];exact (qr_ HO_6)⟩;have n1_ : Aside0 (Below w.heap.size w wc):=⟨by rw [← hq_];exact (qb_ HB)⟩;clear HO_6 HB hq_;have HO_6:=n0_;have HB:=n1_;clear n0_ n1_))
          have n0_:=mk_ (rd_ HO_6.out)
          have n1_:=mk_ (bd_ HB.out)
          clear HO_6
          clear HB
          have HO_6:=n0_
          have HB:=n1_
          clear n0_ n1_
          have p339 : 0 ≤ (0 : Int):=(by omega)
          have q339 : 0 < (t327.length : Int):=od_ qa_
          obtain ⟨ad339,e339,hx339_0⟩:=Kd.at_int (rr_ HO_6.out).2.2 0 p339 q339
          obtain rfl : ad334 = ad339:=(by injection e339)
          have qi339 : (0 < t327.length) = True:=eq_true (by omega)
          (try rw [show ((0 : Int)).toNat = 0 from rfl] at hx339_0)
          (try rw [Addr.add_zero'] at hx339_0)
          replace p339:=eq_true p339
          replace q339:=eq_true q339
          have q22 : (1 : Int) ≤ ((t327.length : Int) : Int):=od_ qa_
          obtain ⟨i022,hi022,_,hsz22,_⟩:=info_parts info5
          have hroom22 : t327.length ≤ co20:=(rr_ HO_6.out).2.1
          have hC22 : Kd.C (Kd.int .u8) _ (some ad334) t327.length t327:=(rr_ HO_6.out).2.2
          have hcut22:=cut_from (P:=Try.prog) 22 5 .i64 Try.underlying22 hi022 1 hsz22 (some ad334) t327.length co20 1 (by omega) q22
          have hr22:=Kd.C_drop (m:=(1 : Int).toNat) (c:=co20) hC22 (by omega) hroom22
          obtain ⟨A22,hA22⟩ : ∃ A1,A1 = (if co20 = (1 : Int).toNat then (some ad334) else ((some ad334) : Option Addr).map (·.add ((1 : Int).toNat * 1))):=⟨_,rfl⟩
          obtain ⟨c22,hc22⟩ : ∃ c1,c1 = co20 - (1 : Int).toNat:=⟨_,rfl⟩
          have hy22 : y343.length = t327.length - (1 : Int).toNat:=(by rw [Ny343.out,List.length_drop] <;> omega)
          rw [show (t327).drop (1 : Int).toNat = y343 from Ny343.out.symm] at hr22
          replace hr22 : Kd.C (Kd.int .u8) _ A22 y343.length y343:=(by rw [hA22];exact hr22)
          rw [← hy22,← hA22,← hc22] at hcut22
          have HR346:=mk_ hr22
          have HC346:=mk_ (show y343.length ≤ c22 from by rw [hy22,hc22];exact Nat.sub_le_sub_right hroom22 _)
          clear hr22 hC22 hroom22 hi022 hsz22 hc22
          have KY22:=mk_ hy22
          have KA22:=mk_ hA22
          clear hy22 hA22
          have KL22:=mk_ (show 1 ≤ t327.length from by omega)
          replace q22:=eq_true q22
          refine start_ (n:=14) (S:=fun w' => w'.cell? ad334 = some (.int .u8 (rd t327 0))) (ds:=[]) #[false,false,false,false,false,false,false,false,false,false,false,false,false,false] (by kernel_rfl) rfl rfl (hx339_0) (fun hHeld => ?_);refine with_tabW spec_UnpackLink.tab7 spec_UnpackLink.bits7 (fun HT_ HW_ => ?_)
          generalize wc.drew = w21 at HO_6 HB HR346 hx339_0 hHeld ⊢
          refine pure_ (i:=0) (N:=some 40) (v:=?_) (a':=?_) #[true,false,false,false,false,false,false,false,false,false,false,false,false,false] rfl rfl (any_of HT_.out (by kernel_rfl)) (fun _ _ _ h => h) (Or.inl ⟨by rfl,?_⟩) ?_ ?_
          rotate_left
          ·intro w'
           go_simp
           with_reducible rfl
          rotate_left
          ·simp only [Act.put,sx_,sy_,sz_,i64_w,i32_w]
           rfl
          refine pure_ (i:=1) (N:=some 41) (v:=?_) (a':=?_) #[true,true,false,false,false,false,false,false,false,false,false,false,false,false] rfl rfl (any_of HT_.out (by kernel_rfl)) (fun _ _ _ h => h) (Or.inl ⟨by rfl,?_⟩) ?_ ?_
          rotate_left
          ·intro w'
           go_simp
           with_reducible rfl
          rotate_left
          ·simp only [Act.put,sx_,sy_,sz_,i64_w,i32_w]
           rfl
          refine pure_ (i:=2) (N:=some 42) (v:=?_) (a':=?_) #[true,true,true,false,false,false,false,false,false,false,false,false,false,false] rfl rfl (any_of HT_.out (by kernel_rfl)) (fun _ _ _ h => h) (Or.inl ⟨by rfl,?_⟩) ?_ ?_
          rotate_left
          ·intro w'
           go_simp
           with_reducible rfl
          rotate_left
          ·simp only [Act.put,sx_,sy_,sz_,i64_w,i32_w]
           rfl
          refine pure_ (i:=7) (N:=some 47) (v:=?_) (a':=?_) #[true,true,true,false,false,false,false,true,false,false,false,false,false,false] rfl rfl (any_of HT_.out (by kernel_rfl)) (fun _ _ _ h => h) (Or.inl ⟨by rfl,?_⟩) ?_ ?_
          rotate_left
          ·intro w'
           go_simp
           with_reducible rfl
          rotate_left
          ·simp only [Act.put,sx_,sy_,sz_,i64_w,i32_w]
           rfl
          refine pure_ (i:=8) (N:=some 48) (v:=?_) (a':=?_) #[true,true,true,false,false,false,false,true,true,false,false,false,false,false] rfl rfl (any_of HT_.out (by kernel_rfl)) (fun _ _ _ h => h) (Or.inl ⟨by rfl,?_⟩) ?_ ?_
          rotate_left
          ·intro w'
           go_simp
           with_reducible rfl
          rotate_left
          ·simp only [Act.put,sx_,sy_,sz_,i64_w,i32_w]
           rfl
          refine take_ (i:=3) (N:=some 43) (v:=?_) (a':=?_) #[true,true,true,true,false,false,false,true,true,false,false,false,false,false] rfl rfl (take_ofW HT_.out HW_.out (by kernel_rfl)) (fun _ _ _ h => h) (Or.inl ⟨by rfl,?_⟩) hHeld ?_ ?_
          rotate_left
          ·intro w' s0
           go_simp
           with_reducible rfl
          rotate_left
          ·simp only [Act.put,sx_,sy_,sz_,i64_w,i32_w]
           rfl
          refine pure_ (i:=4) (N:=some 44) (v:=?_) (a':=?_) #[true,true,true,true,true,false,false,true,true,false,false,false,false,false] rfl rfl (any_of HT_.out (by kernel_rfl)) (fun _ _ _ h => h) (Or.inl ⟨by rfl,?_⟩) ?_ ?_
          rotate_left
          ·intro w'
           go_simp
           with_reducible rfl
          rotate_left
          ·simp only [Act.put,sx_,sy_,sz_,i64_w,i32_w]
           rfl
          refine pure_ (i:=5) (N:=some 45) (v:=?_) (a':=?_) #[true,true,true,true,true,true,false,true,true,false,false,false,false,false] rfl rfl (any_of HT_.out (by kernel_rfl)) (fun _ _ _ h => h) (Or.inl ⟨by rfl,?_⟩) ?_ ?_
          rotate_left
          ·intro w'
           go_simp
           with_reducible rfl
          rotate_left
          ·simp only [Act.put,sx_,sy_,sz_,i64_w,i32_w]
           rfl
          refine one_ (i:=6) (N:=some 46) #[true,true,true,true,true,true,true,true,true,false,false,false,false,false] rfl rfl (one_of HT_.out (by kernel_rfl)) (by decide) (fun K hK => ?_)
          refine Kd.R_lit_step (Kd.int .u8) _ 5 ?hg (N:=46) ?hd (xs:=([] : List Int)) (inner:=[]) (ok:=fun _ => True) (okp:=fun _ => True) ?hr ?hp (fun _ hk => hk) trivial (Below.refl _ _) (Nat.le_refl _) (by simp) ?_;(case hd => rfl);(case hg => rfl);(case hr => first|(go_simp;done)|(go_simp;rfl));(case hp => exact (Reps.none _ _))
          intro v341 w23 ho24 hb hg_ hnew_
          have HS0_:=(hb.cell (wl_ _ _ (hHeld))).trans (hHeld)
          clear hg_ hnew_
          (first|rw [← Ny340.out] at ho24|(simp only [Int.reduceToNat] at ho24;rw [← Ny340.out] at ho24))
          have n0_:=mk_ (re_ (qr_ HO_6) (Kd.R_base ho24) hb)
          have n1_:=mk_ (Kd.R_lower (Kd.R_new' ho24 (Kd.R_lt (qr_ HO_6))) (bz_ (qb_ HB)))
          have n2_:=mk_ (cb_ (by repeat (first|(with_reducible exact HR346.out)|(with_reducible refine ca_ ?_ _)|(with_reducible refine cn_ ?_ _)|(with_reducible refine cd_ ?_)|exact HR346.out)) hb)
          have n3_:=mk_ (st_ (qb_ HB) hb)
          clear HO_6
          clear HR346
          clear HB
          have HO_6:=n0_
          have HO342:=n1_
          have HR346:=n2_
          have HB:=n3_
          clear n0_ n1_ n2_ n3_
          clear hb ho24
          refine hK.out _ _ (HS0_) (fun hHeld => ?_)
          clear hK K
          refine norm_ (a':=?_) ?_ ?_
          rotate_left
          ·show Act.put _ (some 46) _ = _
           simp only [Act.put,sx_,sy_,sz_,i64_w,i32_w]
           rfl
          refine one_ (i:=9) (N:=some 49) #[true,true,true,true,true,true,true,true,true,true,false,false,false,false] rfl rfl (one_of HT_.out (by kernel_rfl)) (by decide) (fun K hK => ?_)
          refine Kd.R_append_rows_step (Kd.int .u8) (w0:=w) w.heap.size (by rfl) (.tmp 46) (.tmp 48) 22 5 (.int .u8 0) 1 rfl Try.underlying22 info5 rfl (by decide) (by omega) v341 y340 y343 _ _ _ (fun k_ => some k_ ≠ (.slice (some ad334) t327.length co20 : Value).ownBlock) (fun _ => False) rfl rfl ?aO ?aR (fun _ _ h => h) (fun _ h => h.elim) ?aF ?aB ?aS ?aL ?_
          (case aR => repeat (first|exact (by repeat (first|(with_reducible exact HR346.out)|(with_reducible refine ca_ ?_ _)|(with_reducible refine cn_ ?_ _)|(with_reducible refine cd_ ?_)|exact HR346.out))|(with_reducible refine ca_ ?_ _)|(with_reducible refine cn_ ?_ _)|(with_reducible refine cd_ ?_)))
          (case aB => exact (qb_ HB))
          (case aF => exact (fun k_ hk => Kd.fresh' (Kd.R_lt (qr_ HO_6)) k_ hk))
          (case aO => exact (by (with_reducible repeat (first|apply ra_|apply rn_|apply rd_));exact rm_ HO342.out (λ_ h=>h.2)))
          (case aS => exact (bz_ (qb_ HB)))
          (case aL => have:=LMc19.out;omega)
          intro v348 w25 ho hb hg hat
          have HS0_:=cell_grown hg (hHeld) (by (first|rw [add_block]|(show some (Addr.add _ _).block ≠ _;rw [add_block])|skip);intro e_;have h_:=HO342.out.1 _ e_.symm;first|exact (h_.2) rfl|exact (h_.1.2) rfl|exact (h_.1.1.2) rfl|exact (h_.1.1.1.2) rfl|exact (h_.1.1.1.1.2) rfl|exact (h_.1.1.1.1.1.2) rfl|exact (h_) rfl|exact (h_.1) rfl|exact (h_.1.1) rfl|exact (h_.1.1.1) rfl|exact (h_.1.1.1.1) rfl|exact (h_.1.1.1.1.1) rfl|exact (h_.1.1.1.1.1.1) rfl|exact (h_.2.1) rfl|exact (h_.1.2.1) rfl|exact (h_.1.1.2.1) rfl|exact (h_.2.2) rfl|exact (h_.1.2.2) rfl|exact (h_.1.1.2.2) rfl)
          rw [← Ny347.out] at ho
          have n0_:=mk_ (Kd.R_after (ok:=(fun _ => True)) (qr_ HO_6) hg hat)
          have n1_:=mk_ (hb)
          have n2_:=mk_ ((show Kd.C (Kd.int .u8) w25 A22 y343.length y343 from by rw [Ny343.out,KA22.out];exact Kd.C_drop (m:=1) (c:=co20) ((rr_ (Kd.R_after (ok:=(fun _ => True)) (qr_ HO_6) hg hat)).2.2) KL22.out ((rr_ (Kd.R_after (ok:=(fun _ => True)) (qr_ HO_6) hg hat)).2.1)))
          have n3_:=mk_ (ho)
          clear HO_6
          clear HB
          clear HR346
          clear HO342
          have HO_6:=n0_
          have HB:=n1_
          have HR346:=n2_
          have HO349:=n3_
          clear n0_ n1_ n2_ n3_
          clear ho hb hg hat
          refine hK.out _ _ (HS0_) (fun hHeld => ?_)
          clear hK K
          refine norm_ (a':=?_) ?_ ?_
          rotate_left
          ·show Act.put _ (some 49) _ = _
           simp only [Act.put,sx_,sy_,sz_,i64_w,i32_w]
           rfl
          refine pure_ (i:=10) (N:=some 2) (v:=?_) (a':=?_) #[true,true,true,true,true,true,true,true,true,true,true,false,false,false] rfl rfl (any_of HT_.out (by kernel_rfl)) (fun _ _ _ h => h) (Or.inl ⟨by rfl,?_⟩) ?_ ?_
          rotate_left
          ·intro w'
           go_simp
           with_reducible rfl
          rotate_left
          ·simp only [Act.put,sx_,sy_,sz_,i64_w,i32_w]
           rfl
          refine pure_ (i:=11) (N:=some 3) (v:=?_) (a':=?_) #[true,true,true,true,true,true,true,true,true,true,true,true,false,false] rfl rfl (any_of HT_.out (by kernel_rfl)) (fun _ _ _ h => h) (Or.inl ⟨by rfl,?_⟩) ?_ ?_
          rotate_left
          ·intro w'
           go_simp
           with_reducible rfl
          rotate_left
          ·simp only [Act.put,sx_,sy_,sz_,i64_w,i32_w]
           rfl
          refine pure_ (i:=12) (N:=some 4) (v:=?_) (a':=?_) #[true,true,true,true,true,true,true,true,true,true,true,true,true,false] rfl rfl (any_of HT_.out (by kernel_rfl)) (fun _ _ _ h => h) (Or.inl ⟨by rfl,?_⟩) ?_ ?_
          rotate_left
          ·intro w'
           go_simp
           with_reducible rfl
          rotate_left
          ·simp only [Act.put,sx_,sy_,sz_,i64_w,i32_w]
           rfl
          refine pure_ (i:=13) (N:=some 5) (v:=?_) (a':=?_) #[true,true,true,true,true,true,true,true,true,true,true,true,true,true] rfl rfl (any_of HT_.out (by kernel_rfl)) (fun _ _ _ h => h) (Or.inl ⟨by rfl,?_⟩) ?_ ?_
          rotate_left
          ·intro w'
           go_simp
           with_reducible rfl
          rotate_left
          ·simp only [Act.put,sx_,sy_,sz_,i64_w,i32_w]
           rfl
          refine done_ (done_of HT_.out (by kernel_rfl)) ?_
          try go_wp2
          refine bodyPost_ret (results_list (rs:=[.tmp 2,.tmp 3,.tmp 4,.tmp 5]) rfl (by simp) (.tmp (.tmp (.tmp (.tmp .nil))))) rfl ?_
          exact ⟨_,qe_,by (with_reducible repeat (first|apply ra_|apply rn_|apply rd_));exact rm_ HO349.out (λ_ _=>trivial),u0_ HB⟩
         ·rw [if_neg c19] at H
          exact absurd H (by simp)
        ·rw [if_neg c18] at H
         exact absurd H (by simp)
      ·rw [if_neg c13] at H
       have c13b0 : ((wrap64 (Int.tdiv (wrap64 (rd t327 0)) 16)) == 2) = false:=beq_eq_false_iff_ne.mpr c13
       have c13b1 : ((wrap64 (Int.tdiv (wrap64 (rd t327 0)) 16)) != 2) = true:=bne_iff_ne.mpr c13
       obtain ⟨y351,hy351⟩ : ∃ y_ : List Int,y_ = (([] : List Int)):=⟨_,rfl⟩
       replace H : (if 1 ≤ (t327.length : Int) then ((some (t327.drop 1 : List Int)).bind fun y354 => (if y351.length + y354.length < 140737488355328 then (some (wrap64 (Int.tdiv (wrap64 (rd t327 0)) 16),Int.tmod (wrap64 (rd t327 0)) 16,(y351 ++ y354),true)) else (none))) else (none)) = some (r1,r2,r3,r4):=by first|(rw [hy351];with_reducible exact H)|(have H2_:=(Option.bind_some _ _).symm.trans H;rw [hy351];with_reducible exact H2_)|(have H2_:=(Option.bind_some _ _).symm.trans H;with_reducible exact H2_)|with_reducible exact H|(rw [hy351];exact H)|exact H
       have Ny351:=mk_ hy351
       clear hy351
       by_cases c26 : 1 ≤ (t327.length : Int)
       ·rw [if_pos c26] at H
        have c26b0:=eq_true c26
        have c26b1 : decide (1 ≤ (t327.length : Int)) = true:=decide_eq_true c26
        clear c26
        obtain ⟨y354,hy354⟩ : ∃ y_ : List Int,y_ = (t327.drop 1):=⟨_,rfl⟩
        replace H : (if y351.length + y354.length < 140737488355328 then (some (wrap64 (Int.tdiv (wrap64 (rd t327 0)) 16),Int.tmod (wrap64 (rd t327 0)) 16,(y351 ++ y354),true)) else (none)) = some (r1,r2,r3,r4):=by first|(rw [hy354];with_reducible exact H)|(have H2_:=(Option.bind_some _ _).symm.trans H;rw [hy354];with_reducible exact H2_)|(have H2_:=(Option.bind_some _ _).symm.trans H;with_reducible exact H2_)|with_reducible exact H|(rw [hy354];exact H)|exact H
        have Ny354:=mk_ hy354
        clear hy354
        by_cases c27 : y351.length + y354.length < 140737488355328
        ·rw [if_pos c27] at H
         have LMc27:=mk_ c27
         clear c27
         obtain ⟨y358,hy358⟩ : ∃ y_ : List Int,y_ = (y351 ++ y354):=⟨_,rfl⟩
         replace H : (some (wrap64 (Int.tdiv (wrap64 (rd t327 0)) 16),Int.tmod (wrap64 (rd t327 0)) 16,y358,true)) = some (r1,r2,r3,r4):=by first|(rw [hy358];with_reducible exact H)|(have H2_:=(Option.bind_some _ _).symm.trans H;rw [hy358];with_reducible exact H2_)|(have H2_:=(Option.bind_some _ _).symm.trans H;with_reducible exact H2_)|with_reducible exact H|(rw [hy358];exact H)|exact H
         have Ny358:=mk_ hy358
         clear hy358
         simp only [Option.some.injEq,Prod.mk.injEq] at H
         obtain ⟨rfl,rfl,rfl,rfl⟩:=H
         obtain ⟨Ao28,co28,eo28⟩:=Kd.R_slice HO_6.out
         subst eo28
         have p334 : 0 ≤ (0 : Int):=(by omega)
         have q334 : 0 < (t327.length : Int):=od_ qa_
         obtain ⟨ad334,e334,hx334_0⟩:=Kd.at_int (rr_ HO_6.out).2.2 0 p334 q334
         cases e334
         have qi334 : (0 < t327.length) = True:=eq_true (by omega)
         (try rw [show ((0 : Int)).toNat = 0 from rfl] at hx334_0)
         (try rw [Addr.add_zero'] at hx334_0)
         replace p334:=eq_true p334
         replace q334:=eq_true q334
         try go_wp2_with (first|((with_reducible refine gate_callee (f:=36) rfl ?_);refine goesL_ (some 28) rfl rfl Try.func36 (by kernel_rfl) rfl #[.int .i64 (wrap64 (Int.tdiv (wrap64 (rd t327 0)) 16)),.int .i64 1,.int .i64 2] rfl qm_ ?_;(with_reducible refine (spec_l1In.calls (wrap64 (Int.tdiv (wrap64 (rd t327 0)) 16)) 1 2 true _ A11.out).mono ?_);rintro e w' ⟨rfl,⟨nd,rfl⟩⟩;refine ⟨_,rfl,?_⟩))
         (try (rw [drewN_self wc];generalize hq_ : World.drewN wc _ = wc;have n0_ : Aside0 (Kd.R (Kd.int .u8) 5 wc w.heap.size (fun _ => True) (.slice (some ad334) t327.length co28) t327):=⟨by rw [← hq_];exact (qr_ HO_6)⟩;have n1_ : Aside0 (Below w.heap.size w wc):=⟨by rw [← hq_];exact (qb_ HB)⟩;clear HO_6 HB hq_;have HO_6:=n0_;have HB:=n1_;clear n0_ n1_))
         have n0_:=mk_ (rd_ HO_6.out)
         have n1_:=mk_ (bd_ HB.out)
         clear HO_6
         clear HB
         have HO_6:=n0_
         have HB:=n1_
         clear n0_ n1_
         have p350 : 0 ≤ (0 : Int):=(by omega)
         have q350 : 0 < (t327.length : Int):=od_ qa_
         obtain ⟨ad350,e350,hx350_0⟩:=Kd.at_int (rr_ HO_6.out).2.2 0 p350 q350
         obtain rfl : ad334 = ad350:=(by injection e350)
         have qi350 : (0 < t327.length) = True:=eq_true (by omega)
         (try rw [show ((0 : Int)).toNat = 0 from rfl] at hx350_0)
         (try rw [Addr.add_zero'] at hx350_0)
         replace p350:=eq_true p350
         replace q350:=eq_true q350
         have q30 : (1 : Int) ≤ ((t327.length : Int) : Int):=od_ qa_
         obtain ⟨i030,hi030,_,hsz30,_⟩:=info_parts info5
         have hroom30 : t327.length ≤ co28:=(rr_ HO_6.out).2.1
         have hC30 : Kd.C (Kd.int .u8) _ (some ad334) t327.length t327:=(rr_ HO_6.out).2.2
         have hcut30:=cut_from (P:=Try.prog) 22 5 .i64 Try.underlying22 hi030 1 hsz30 (some ad334) t327.length co28 1 (by omega) q30
         have hr30:=Kd.C_drop (m:=(1 : Int).toNat) (c:=co28) hC30 (by omega) hroom30
         obtain ⟨A30,hA30⟩ : ∃ A1,A1 = (if co28 = (1 : Int).toNat then (some ad334) else ((some ad334) : Option Addr).map (·.add ((1 : Int).toNat * 1))):=⟨_,rfl⟩
         obtain ⟨c30,hc30⟩ : ∃ c1,c1 = co28 - (1 : Int).toNat:=⟨_,rfl⟩
         have hy30 : y354.length = t327.length - (1 : Int).toNat:=(by rw [Ny354.out,List.length_drop] <;> omega)
         rw [show (t327).drop (1 : Int).toNat = y354 from Ny354.out.symm] at hr30
         replace hr30 : Kd.C (Kd.int .u8) _ A30 y354.length y354:=(by rw [hA30];exact hr30)
         rw [← hy30,← hA30,← hc30] at hcut30
         have HR357:=mk_ hr30
         have HC357:=mk_ (show y354.length ≤ c30 from by rw [hy30,hc30];exact Nat.sub_le_sub_right hroom30 _)
         clear hr30 hC30 hroom30 hi030 hsz30 hc30
         have KY30:=mk_ hy30
         have KA30:=mk_ hA30
         clear hy30 hA30
         have KL30:=mk_ (show 1 ≤ t327.length from by omega)
         replace q30:=eq_true q30
         refine start_ (n:=14) (S:=fun w' => w'.cell? ad334 = some (.int .u8 (rd t327 0))) (ds:=[]) #[false,false,false,false,false,false,false,false,false,false,false,false,false,false] (by kernel_rfl) rfl rfl (hx350_0) (fun hHeld => ?_);refine with_tabW spec_UnpackLink.tab7 spec_UnpackLink.bits7 (fun HT_ HW_ => ?_)
         generalize wc.drew = w29 at HO_6 HB HR357 hx350_0 hHeld ⊢
         refine pure_ (i:=0) (N:=some 40) (v:=?_) (a':=?_) #[true,false,false,false,false,false,false,false,false,false,false,false,false,false] rfl rfl (any_of HT_.out (by kernel_rfl)) (fun _ _ _ h => h) (Or.inl ⟨by rfl,?_⟩) ?_ ?_
         rotate_left
         ·intro w'
          go_simp
          with_reducible rfl
         rotate_left
         ·simp only [Act.put,sx_,sy_,sz_,i64_w,i32_w]
          rfl
         refine pure_ (i:=1) (N:=some 41) (v:=?_) (a':=?_) #[true,true,false,false,false,false,false,false,false,false,false,false,false,false] rfl rfl (any_of HT_.out (by kernel_rfl)) (fun _ _ _ h => h) (Or.inl ⟨by rfl,?_⟩) ?_ ?_
         rotate_left
         ·intro w'
          go_simp
          with_reducible rfl
         rotate_left
         ·simp only [Act.put,sx_,sy_,sz_,i64_w,i32_w]
          rfl
         refine pure_ (i:=2) (N:=some 42) (v:=?_) (a':=?_) #[true,true,true,false,false,false,false,false,false,false,false,false,false,false] rfl rfl (any_of HT_.out (by kernel_rfl)) (fun _ _ _ h => h) (Or.inl ⟨by rfl,?_⟩) ?_ ?_
         rotate_left
         ·intro w'
          go_simp
          with_reducible rfl
         rotate_left
         ·simp only [Act.put,sx_,sy_,sz_,i64_w,i32_w]
          rfl
         refine pure_ (i:=7) (N:=some 47) (v:=?_) (a':=?_) #[true,true,true,false,false,false,false,true,false,false,false,false,false,false] rfl rfl (any_of HT_.out (by kernel_rfl)) (fun _ _ _ h => h) (Or.inl ⟨by rfl,?_⟩) ?_ ?_
         rotate_left
         ·intro w'
          go_simp
          with_reducible rfl
         rotate_left
         ·simp only [Act.put,sx_,sy_,sz_,i64_w,i32_w]
          rfl
         refine pure_ (i:=8) (N:=some 48) (v:=?_) (a':=?_) #[true,true,true,false,false,false,false,true,true,false,false,false,false,false] rfl rfl (any_of HT_.out (by kernel_rfl)) (fun _ _ _ h => h) (Or.inl ⟨by rfl,?_⟩) ?_ ?_
         rotate_left
         ·intro w'
          go_simp
          with_reducible rfl
         rotate_left
         ·simp only [Act.put,sx_,sy_,sz_,i64_w,i32_w]
          rfl
         refine take_ (i:=3) (N:=some 43) (v:=?_) (a':=?_) #[true,true,true,true,false,false,false,true,true,false,false,false,false,false] rfl rfl (take_ofW HT_.out HW_.out (by kernel_rfl)) (fun _ _ _ h => h) (Or.inl ⟨by rfl,?_⟩) hHeld ?_ ?_
         rotate_left
         ·intro w' s0
          go_simp
          with_reducible rfl
         rotate_left
         ·simp only [Act.put,sx_,sy_,sz_,i64_w,i32_w]
          rfl
         refine pure_ (i:=4) (N:=some 44) (v:=?_) (a':=?_) #[true,true,true,true,true,false,false,true,true,false,false,false,false,false] rfl rfl (any_of HT_.out (by kernel_rfl)) (fun _ _ _ h => h) (Or.inl ⟨by rfl,?_⟩) ?_ ?_
         rotate_left
         ·intro w'
          go_simp
          with_reducible rfl
         rotate_left
         ·simp only [Act.put,sx_,sy_,sz_,i64_w,i32_w]
          rfl
         refine pure_ (i:=5) (N:=some 45) (v:=?_) (a':=?_) #[true,true,true,true,true,true,false,true,true,false,false,false,false,false] rfl rfl (any_of HT_.out (by kernel_rfl)) (fun _ _ _ h => h) (Or.inl ⟨by rfl,?_⟩) ?_ ?_
         rotate_left
         ·intro w'
          go_simp
          with_reducible rfl
         rotate_left
         ·simp only [Act.put,sx_,sy_,sz_,i64_w,i32_w]
          rfl
         refine one_ (i:=6) (N:=some 46) #[true,true,true,true,true,true,true,true,true,false,false,false,false,false] rfl rfl (one_of HT_.out (by kernel_rfl)) (by decide) (fun K hK => ?_)
         refine Kd.R_lit_step (Kd.int .u8) _ 5 ?hg (N:=46) ?hd (xs:=([] : List Int)) (inner:=[]) (ok:=fun _ => True) (okp:=fun _ => True) ?hr ?hp (fun _ hk => hk) trivial (Below.refl _ _) (Nat.le_refl _) (by simp) ?_;(case hd => rfl);(case hg => rfl);(case hr => first|(go_simp;done)|(go_simp;rfl));(case hp => exact (Reps.none _ _))
         intro v352 w31 ho32 hb hg_ hnew_
         have HS0_:=(hb.cell (wl_ _ _ (hHeld))).trans (hHeld)
         clear hg_ hnew_
         (first|rw [← Ny351.out] at ho32|(simp only [Int.reduceToNat] at ho32;rw [← Ny351.out] at ho32))
         have n0_:=mk_ (re_ (qr_ HO_6) (Kd.R_base ho32) hb)
         have n1_:=mk_ (Kd.R_lower (Kd.R_new' ho32 (Kd.R_lt (qr_ HO_6))) (bz_ (qb_ HB)))
         have n2_:=mk_ (cb_ (by repeat (first|(with_reducible exact HR357.out)|(with_reducible refine ca_ ?_ _)|(with_reducible refine cn_ ?_ _)|(with_reducible refine cd_ ?_)|exact HR357.out)) hb)
         have n3_:=mk_ (st_ (qb_ HB) hb)
         clear HO_6
         clear HR357
         clear HB
         have HO_6:=n0_
         have HO353:=n1_
         have HR357:=n2_
         have HB:=n3_
         clear n0_ n1_ n2_ n3_
         clear hb ho32
         refine hK.out _ _ (HS0_) (fun hHeld => ?_)
         clear hK K
         refine norm_ (a':=?_) ?_ ?_
         rotate_left
         ·show Act.put _ (some 46) _ = _
          simp only [Act.put,sx_,sy_,sz_,i64_w,i32_w]
          rfl
         refine one_ (i:=9) (N:=some 49) #[true,true,true,true,true,true,true,true,true,true,false,false,false,false] rfl rfl (one_of HT_.out (by kernel_rfl)) (by decide) (fun K hK => ?_)
         refine Kd.R_append_rows_step (Kd.int .u8) (w0:=w) w.heap.size (by rfl) (.tmp 46) (.tmp 48) 22 5 (.int .u8 0) 1 rfl Try.underlying22 info5 rfl (by decide) (by omega) v352 y351 y354 _ _ _ (fun k_ => some k_ ≠ (.slice (some ad334) t327.length co28 : Value).ownBlock) (fun _ => False) rfl rfl ?aO ?aR (fun _ _ h => h) (fun _ h => h.elim) ?aF ?aB ?aS ?aL ?_
         (case aR => repeat (first|exact (by repeat (first|(with_reducible exact HR357.out)|(with_reducible refine ca_ ?_ _)|(with_reducible refine cn_ ?_ _)|(with_reducible refine cd_ ?_)|exact HR357.out))|(with_reducible refine ca_ ?_ _)|(with_reducible refine cn_ ?_ _)|(with_reducible refine cd_ ?_)))
         (case aB => exact (qb_ HB))
         (case aF => exact (fun k_ hk => Kd.fresh' (Kd.R_lt (qr_ HO_6)) k_ hk))
         (case aO => exact (by (with_reducible repeat (first|apply ra_|apply rn_|apply rd_));exact rm_ HO353.out (λ_ h=>h.2)))
         (case aS => exact (bz_ (qb_ HB)))
         (case aL => have:=LMc27.out;omega)
         intro v359 w33 ho hb hg hat
         have HS0_:=cell_grown hg (hHeld) (by (first|rw [add_block]|(show some (Addr.add _ _).block ≠ _;rw [add_block])|skip);intro e_;have h_:=HO353.out.1 _ e_.symm;first|exact (h_.2) rfl|exact (h_.1.2) rfl|exact (h_.1.1.2) rfl|exact (h_.1.1.1.2) rfl|exact (h_.1.1.1.1.2) rfl|exact (h_.1.1.1.1.1.2) rfl|exact (h_) rfl|exact (h_.1) rfl|exact (h_.1.1) rfl|exact (h_.1.1.1) rfl|exact (h_.1.1.1.1) rfl|exact (h_.1.1.1.1.1) rfl|exact (h_.1.1.1.1.1.1) rfl|exact (h_.2.1) rfl|exact (h_.1.2.1) rfl|exact (h_.1.1.2.1) rfl|exact (h_.2.2) rfl|exact (h_.1.2.2) rfl|exact (h_.1.1.2.2) rfl)
         rw [← Ny358.out] at ho
         have n0_:=mk_ (Kd.R_after (ok:=(fun _ => True)) (qr_ HO_6) hg hat)
         have n1_:=mk_ (hb)
         have n2_:=mk_ ((show Kd.C (Kd.int .u8) w33 A30 y354.length y354 from by rw [Ny354.out,KA30.out];exact Kd.C_drop (m:=1) (c:=co28) ((rr_ (Kd.R_after (ok:=(fun _ => True)) (qr_ HO_6) hg hat)).2.2) KL30.out ((rr_ (Kd.R_after (ok:=(fun _ => True)) (qr_ HO_6) hg hat)).2.1)))
         have n3_:=mk_ (ho)
         clear HO_6
         clear HB
         clear HR357
         clear HO353
         have HO_6:=n0_
         have HB:=n1_
         have HR357:=n2_
         have HO360:=n3_
         clear n0_ n1_ n2_ n3_
         clear ho hb hg hat
         refine hK.out _ _ (HS0_) (fun hHeld => ?_)
         clear hK K
         refine norm_ (a':=?_) ?_ ?_
         rotate_left
         ·show Act.put _ (some 49) _ = _
          simp only [Act.put,sx_,sy_,sz_,i64_w,i32_w]
          rfl
         refine pure_ (i:=10) (N:=some 2) (v:=?_) (a':=?_) #[true,true,true,true,true,true,true,true,true,true,true,false,false,false] rfl rfl (any_of HT_.out (by kernel_rfl)) (fun _ _ _ h => h) (Or.inl ⟨by rfl,?_⟩) ?_ ?_
         rotate_left
         ·intro w'
          go_simp
          with_reducible rfl
         rotate_left
         ·simp only [Act.put,sx_,sy_,sz_,i64_w,i32_w]
          rfl
         refine pure_ (i:=11) (N:=some 3) (v:=?_) (a':=?_) #[true,true,true,true,true,true,true,true,true,true,true,true,false,false] rfl rfl (any_of HT_.out (by kernel_rfl)) (fun _ _ _ h => h) (Or.inl ⟨by rfl,?_⟩) ?_ ?_
         rotate_left
         ·intro w'
          go_simp
          with_reducible rfl
         rotate_left
         ·simp only [Act.put,sx_,sy_,sz_,i64_w,i32_w]
          rfl
         refine pure_ (i:=12) (N:=some 4) (v:=?_) (a':=?_) #[true,true,true,true,true,true,true,true,true,true,true,true,true,false] rfl rfl (any_of HT_.out (by kernel_rfl)) (fun _ _ _ h => h) (Or.inl ⟨by rfl,?_⟩) ?_ ?_
         rotate_left
         ·intro w'
          go_simp
          with_reducible rfl
         rotate_left
         ·simp only [Act.put,sx_,sy_,sz_,i64_w,i32_w]
          rfl
         refine pure_ (i:=13) (N:=some 5) (v:=?_) (a':=?_) #[true,true,true,true,true,true,true,true,true,true,true,true,true,true] rfl rfl (any_of HT_.out (by kernel_rfl)) (fun _ _ _ h => h) (Or.inl ⟨by rfl,?_⟩) ?_ ?_
         rotate_left
         ·intro w'
          go_simp
          with_reducible rfl
         rotate_left
         ·simp only [Act.put,sx_,sy_,sz_,i64_w,i32_w]
          rfl
         refine done_ (done_of HT_.out (by kernel_rfl)) ?_
         try go_wp2
         refine bodyPost_ret (results_list (rs:=[.tmp 2,.tmp 3,.tmp 4,.tmp 5]) rfl (by simp) (.tmp (.tmp (.tmp (.tmp .nil))))) rfl ?_
         exact ⟨_,qe_,by (with_reducible repeat (first|apply ra_|apply rn_|apply rd_));exact rm_ HO360.out (λ_ _=>trivial),u0_ HB⟩
        ·rw [if_neg c27] at H
         exact absurd H (by simp)
       ·rw [if_neg c26] at H
        exact absurd H (by simp)
     ·replace c12:=Bool.eq_false_iff.mpr c12
      subst c12
      have H1 : (some (0,0,(([] : List Int)),false)) = some (r1,r2,r3,r4):=by rw [if_neg (show ¬ (false = true) by decide)] at H;exact H
      clear H
      have H:=H1
      clear H1
      obtain ⟨y361,hy361⟩ : ∃ y_ : List Int,y_ = (([] : List Int)):=⟨_,rfl⟩
      replace H : (some (0,0,y361,false)) = some (r1,r2,r3,r4):=by first|(rw [hy361];with_reducible exact H)|(have H2_:=(Option.bind_some _ _).symm.trans H;rw [hy361];with_reducible exact H2_)|(have H2_:=(Option.bind_some _ _).symm.trans H;with_reducible exact H2_)|with_reducible exact H|(rw [hy361];exact H)|exact H
      have Ny361:=mk_ hy361
      clear hy361
      simp only [Option.some.injEq,Prod.mk.injEq] at H
      obtain ⟨rfl,rfl,rfl,rfl⟩:=H
      obtain ⟨Ao34,co34,eo34⟩:=Kd.R_slice HO_6.out
      subst eo34
      have p334 : 0 ≤ (0 : Int):=(by omega)
      have q334 : 0 < (t327.length : Int):=od_ qa_
      obtain ⟨ad334,e334,hx334_0⟩:=Kd.at_int (rr_ HO_6.out).2.2 0 p334 q334
      cases e334
      have qi334 : (0 < t327.length) = True:=eq_true (by omega)
      (try rw [show ((0 : Int)).toNat = 0 from rfl] at hx334_0)
      (try rw [Addr.add_zero'] at hx334_0)
      replace p334:=eq_true p334
      replace q334:=eq_true q334
      go_wp2_with (first|((with_reducible refine gate_callee (f:=36) rfl ?_);refine goesL_ (some 28) rfl rfl Try.func36 (by kernel_rfl) rfl #[.int .i64 (wrap64 (Int.tdiv (wrap64 (rd t327 0)) 16)),.int .i64 1,.int .i64 2] rfl qm_ ?_;(with_reducible refine (spec_l1In.calls (wrap64 (Int.tdiv (wrap64 (rd t327 0)) 16)) 1 2 false _ A11.out).mono ?_);rintro e w' ⟨rfl,⟨nd,rfl⟩⟩;refine ⟨_,rfl,?_⟩)|((with_reducible refine gate_dst (N:=39) rfl ?_);(try (refine gate_guard (by rfl) ?_;dsimp only));refine Kd.R_lit (Kd.int .u8) _ 5 ?hg (N:=39) ?hd (xs:=([] : List Int)) (inner:=[]) (ok:=fun _ => True) (okp:=fun _ => True) ?hr ?hp (fun _ hk => hk) trivial (Below.refl _ _) (Nat.le_refl _) (by simp) ?_;(case hd => rfl);(case hg => rfl);(case hr => first|(go_simp;done)|(go_simp;rfl));(case hp => exact (Reps.none _ _));intro v362 w35 ho36 hb hg_ hnew_;clear hg_ hnew_;(first|rw [← Ny361.out] at ho36|(simp only [Int.reduceToNat] at ho36;rw [← Ny361.out] at ho36));have n0_:=mk_ (re_ (qr_ HO_6) (Kd.R_base ho36) hb);have n1_:=mk_ (Kd.R_lower (Kd.R_new' ho36 (Kd.R_lt (qr_ HO_6))) (bz_ (qb_ HB)));have n2_:=mk_ (st_ (qb_ HB) hb);clear HO_6 HB;have HO_6:=n0_;have HO363:=n1_;have HB:=n2_;clear n0_ n1_ n2_ hb ho36))
      refine bodyPost_ret (results_list (rs:=[.tmp 2,.tmp 3,.tmp 4,.tmp 5]) rfl (by simp) (.tmp (.tmp (.tmp (.tmp .nil))))) rfl ?_
      exact ⟨_,qe_,by (with_reducible repeat (first|apply ra_|apply rn_|apply rd_));exact rm_ HO363.out (λ_ _=>trivial),u0_ HB⟩
    ·rw [if_neg c10] at H
     exact absurd H (by simp)

end Go.Proofs.Ytdpnloibbimblaa.PAll

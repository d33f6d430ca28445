/- Proved here: contracts of functions of the given program, or lemmas on them, for the laws of this seat. Written by xprint.py, a program of this session, on the ground of the kit's print; parts by hand: wip/x/ext. -/
import Derived.Test.YtdamdcdjodmemaaPAllx0
import Derived.Test.YtdamdcdjodmemaaPAllx1
import Derived.Test.YtdamdcdjodmemaaPAllx3
import Derived.Test.YtdamdcdjodmemaaPAllx4
namespace Go.Proofs.Ytdamdcdjodmemaa.PAll
open Go.RowKit Go.Proofs.YtdamdcdjodmemaaW.PrintWords Go.Proofs.YtdamdcdjodmemaaW.PrintLast Go.Proofs.YtdamdcdjodmemaaW.PrintMore
attribute [local go_sem] max2_int min2_int max_two min_two max_three min_three max_four min_four   -- for this text's walks alone
set_option linter.unusedVariables false
set_option linter.unusedSimpArgs false

/-! ### laws_heldNet: function 28 -/
def laws_heldNet.f (k : Nat) (a0_0 : Int) (l0_1 : List (S51)) (l0_2 : List Int) (l0_3 : List Int) (a1 : Int) : Option (Int):=(laws_heldCableS.f k l0_1 a1).bind fun t225 => (if t225 < 0 then (some (-1)) else ((laws_heldIntS.f k l0_2 t225).bind fun t226 => (if t226 < 0 then (some (-1)) else ((laws_heldIntS.f k l0_3 t226).bind fun t227 => (if t227 < 0 then (some (-1)) else (some t227))))))
theorem laws_heldNet.mono : ∀ a0 a1 a2 a3 a4 k,LeO (laws_heldNet.f k a0 a1 a2 a3 a4) (laws_heldNet.f (k + 1) a0 a1 a2 a3 a4):=by
 intro a0 a1 a2 a3 a4 k
 unfold laws_heldNet.f
 repeat' first
   | (with_reducible exact laws_heldCableS.mono _ _ _)
   | (with_reducible exact laws_heldIntS.mono _ _ _)
   | (with_reducible exact LeO.refl _)
   | (with_reducible exact LeO.none _)
   | (with_reducible refine LeO.ite ?_ ?_)
   | (with_reducible refine LeO.bind ?_ (fun _ => ?_))
   | exact laws_heldCableS.mono _ _ _
   | exact laws_heldIntS.mono _ _ _
   | exact LeO.none _
   | refine LeO.ite ?_ ?_
   | refine LeO.bind ?_ (fun _ => ?_)
set_option maxHeartbeats 8000000 in
set_option maxRecDepth 100000 in
theorem laws_heldNet.calls (k : Nat) (a0_0 : Int) (A0_1 : Option Addr) (c0_1 : Nat) (l0_1 : List (S51)) (A0_2 : Option Addr) (c0_2 : Nat) (l0_2 : List Int) (A0_3 : Option Addr) (c0_3 : Nat) (l0_3 : List Int) (a1 : Int) (r : Int) (w : World) (hr0_1 : Kd.C k51 w A0_1 l0_1.length l0_1) (hc0_1 : l0_1.length ≤ c0_1) (hr0_2 : Kd.C (Kd.int .i64) w A0_2 l0_2.length l0_2) (hc0_2 : l0_2.length ≤ c0_2) (hr0_3 : Kd.C (Kd.int .i64) w A0_3 l0_3.length l0_3) (hc0_3 : l0_3.length ≤ c0_3) (h : laws_heldNet.f k a0_0 l0_1 l0_2 l0_3 a1 = some r) :
  Calls Try.prog 28 #[.agg #[.int .i64 a0_0,.slice A0_1 l0_1.length c0_1,.slice A0_2 l0_2.length c0_2,.slice A0_3 l0_3.length c0_3],.int .i64 a1] w fun e w' => e = .returned (.int .i64 r) ∧ Below w.heap.size w w':=by
 have hu30:=Try.underlying30
 have HR0_1:=mk_ hr0_1
 have HC0_1:=mk_ hc0_1
 clear hr0_1 hc0_1
 have HR0_2:=mk_ hr0_2
 have HC0_2:=mk_ hc0_2
 clear hr0_2 hc0_2
 have HR0_3:=mk_ hr0_3
 have HC0_3:=mk_ hc0_3
 clear hr0_3 hc0_3
 have HB:=mk_ (Below.refl w.heap.size w)
 have H : ((laws_heldCableS.f k l0_1 a1).bind fun t225 => (if t225 < 0 then (some (-1)) else ((laws_heldIntS.f k l0_2 t225).bind fun t226 => (if t226 < 0 then (some (-1)) else ((laws_heldIntS.f k l0_3 t226).bind fun t227 => (if t227 < 0 then (some (-1)) else (some t227))))))) = some r:=h
 clear h
 replace H:=Option.bind_eq_some_iff.mp H
 obtain ⟨t225,A30,H⟩:=H
 replace H : (if t225 < 0 then (some (-1)) else ((laws_heldIntS.f k l0_2 t225).bind fun t226 => (if t226 < 0 then (some (-1)) else ((laws_heldIntS.f k l0_3 t226).bind fun t227 => (if t227 < 0 then (some (-1)) else (some t227)))))) = some r:=H
 have A3:=mk_ A30
 clear A30
 by_cases c4 : t225 < 0
 ·rw [if_pos c4] at H
  have c4b0 : decide (t225 < 0) = true:=decide_eq_true c4
  clear c4
  obtain rfl:=Option.some.inj H
  go_enter Try.func28,Try.ntmps28
  go_wp2_with (first|((with_reducible refine gate_dst (N:=2) rfl ?_);refine box_event ?hg (N:=2) ?hd (cs:=#[.int .i64 a0_0,.slice A0_1 l0_1.length c0_1,.slice A0_2 l0_2.length c0_2,.slice A0_3 l0_3.length c0_3]) (t:=30) ?hr ?_;(case hd => rfl);(case hg => rfl);(case hr => first|(go_simp;done)|(go_simp;rfl));intro gb224 hg w5 hbox hb;have n0_:=mk_ (st_ (qb_ HB) hb);have n1_:=mk_ (hbox);have n2_:=mk_ ((by rw [hg];exact (bz_ (qb_ HB)) : w.heap.size ≤ gb224));have n3_:=mk_ ((by rw [hg];exact (bz_ (qb_ HB)) : w.heap.size ≤ gb224));clear HB;have HB:=n0_;have BK224:=n1_;have GW224:=n2_;have GE224:=n3_;clear n0_ n1_ n2_ n3_ hb hbox hg;have hcz6_0 : w5.cell? ⟨gb224,0,none⟩ = some (.int .i64 a0_0):=(bc_ BK224.out 0).trans rfl;have hcz6_1 : w5.cell? ⟨gb224,1,none⟩ = some (.slice A0_1 l0_1.length c0_1):=(bc_ BK224.out 1).trans rfl;have hcz6_2 : w5.cell? ⟨gb224,2,none⟩ = some (.slice A0_2 l0_2.length c0_2):=(bc_ BK224.out 2).trans rfl;have hcz6_3 : w5.cell? ⟨gb224,3,none⟩ = some (.slice A0_3 l0_3.length c0_3):=(bc_ BK224.out 3).trans rfl;have hfz6_0:=bf_ BK224.out 0;have hfz6_1:=bf_ BK224.out 1;have hfz6_2:=bf_ BK224.out 2;have hfz6_3:=bf_ BK224.out 3)|((with_reducible refine gate_callee (f:=61) rfl ?_);refine goesL_ (some 8) rfl rfl Try.func61 (by kernel_rfl) rfl #[.slice A0_1 l0_1.length c0_1,.int .i64 a1] rfl qm_ ?_;(with_reducible refine (laws_heldCableS.calls k _ _ l0_1 a1 t225 _ ?side1 ?side2 A3.out).mono ?_);(case side1 => exact qn_ HR0_1 HB);(case side2 => exact HC0_1.out);rintro e w' ⟨rfl,⟨nd,rfl⟩⟩;refine ⟨_,rfl,?_⟩))
  go_ret
  exact ⟨qe_,u0_ HB GE224⟩
 ·rw [if_neg c4] at H
  have c4b0 : decide (t225 < 0) = false:=decide_eq_false c4
  clear c4
  replace H:=Option.bind_eq_some_iff.mp H
  obtain ⟨t226,A70,H⟩:=H
  replace H : (if t226 < 0 then (some (-1)) else ((laws_heldIntS.f k l0_3 t226).bind fun t227 => (if t227 < 0 then (some (-1)) else (some t227)))) = some r:=H
  have A7:=mk_ A70
  clear A70
  by_cases c8 : t226 < 0
  ·rw [if_pos c8] at H
   have c8b0 : decide (t226 < 0) = true:=decide_eq_true c8
   clear c8
   obtain rfl:=Option.some.inj H
   go_enter Try.func28,Try.ntmps28
   go_wp2_with (first|((with_reducible refine gate_dst (N:=2) rfl ?_);refine box_event ?hg (N:=2) ?hd (cs:=#[.int .i64 a0_0,.slice A0_1 l0_1.length c0_1,.slice A0_2 l0_2.length c0_2,.slice A0_3 l0_3.length c0_3]) (t:=30) ?hr ?_;(case hd => rfl);(case hg => rfl);(case hr => first|(go_simp;done)|(go_simp;rfl));intro gb224 hg w9 hbox hb;have n0_:=mk_ (st_ (qb_ HB) hb);have n1_:=mk_ (hbox);have n2_:=mk_ ((by rw [hg];exact (bz_ (qb_ HB)) : w.heap.size ≤ gb224));have n3_:=mk_ ((by rw [hg];exact (bz_ (qb_ HB)) : w.heap.size ≤ gb224));clear HB;have HB:=n0_;have BK224:=n1_;have GW224:=n2_;have GE224:=n3_;clear n0_ n1_ n2_ n3_ hb hbox hg;have hcz10_0 : w9.cell? ⟨gb224,0,none⟩ = some (.int .i64 a0_0):=(bc_ BK224.out 0).trans rfl;have hcz10_1 : w9.cell? ⟨gb224,1,none⟩ = some (.slice A0_1 l0_1.length c0_1):=(bc_ BK224.out 1).trans rfl;have hcz10_2 : w9.cell? ⟨gb224,2,none⟩ = some (.slice A0_2 l0_2.length c0_2):=(bc_ BK224.out 2).trans rfl;have hcz10_3 : w9.cell? ⟨gb224,3,none⟩ = some (.slice A0_3 l0_3.length c0_3):=(bc_ BK224.out 3).trans rfl;have hfz10_0:=bf_ BK224.out 0;have hfz10_1:=bf_ BK224.out 1;have hfz10_2:=bf_ BK224.out 2;have hfz10_3:=bf_ BK224.out 3)|((with_reducible refine gate_callee (f:=61) rfl ?_);refine goesL_ (some 8) rfl rfl Try.func61 (by kernel_rfl) rfl #[.slice A0_1 l0_1.length c0_1,.int .i64 a1] rfl qm_ ?_;(with_reducible refine (laws_heldCableS.calls k _ _ l0_1 a1 t225 _ ?side1 ?side2 A3.out).mono ?_);(case side1 => exact qn_ HR0_1 HB);(case side2 => exact HC0_1.out);rintro e w' ⟨rfl,⟨nd,rfl⟩⟩;refine ⟨_,rfl,?_⟩)|((with_reducible refine gate_callee (f:=25) rfl ?_);refine goesL_ (some 14) rfl rfl Try.func25 (by kernel_rfl) rfl #[.slice A0_2 l0_2.length c0_2,.int .i64 t225] rfl qm_ ?_;(with_reducible refine (laws_heldIntS.calls k _ _ l0_2 t225 t226 _ ?side1 ?side2 A7.out).mono ?_);(case side1 => repeat (first|exact (cb_ HR0_2.out (qc_ HB GE224))|(with_reducible refine ca_ ?_ _)|(with_reducible refine cn_ ?_ _)|(with_reducible refine cd_ ?_)));(case side2 => exact HC0_2.out);rintro e w' ⟨rfl,⟨nd,rfl⟩⟩;refine ⟨_,rfl,?_⟩))
   go_ret
   exact ⟨qe_,u0_ HB GE224⟩
  ·rw [if_neg c8] at H
   have c8b0 : decide (t226 < 0) = false:=decide_eq_false c8
   clear c8
   replace H:=Option.bind_eq_some_iff.mp H
   obtain ⟨t227,A110,H⟩:=H
   replace H : (if t227 < 0 then (some (-1)) else (some t227)) = some r:=H
   have A11:=mk_ A110
   clear A110
   by_cases c12 : t227 < 0
   ·rw [if_pos c12] at H
    have c12b0 : decide (t227 < 0) = true:=decide_eq_true c12
    clear c12
    obtain rfl:=Option.some.inj H
    go_enter Try.func28,Try.ntmps28
    go_wp2_with (first|((with_reducible refine gate_dst (N:=2) rfl ?_);refine box_event ?hg (N:=2) ?hd (cs:=#[.int .i64 a0_0,.slice A0_1 l0_1.length c0_1,.slice A0_2 l0_2.length c0_2,.slice A0_3 l0_3.length c0_3]) (t:=30) ?hr ?_;(case hd => rfl);(case hg => rfl);(case hr => first|(go_simp;done)|(go_simp;rfl));intro gb224 hg w13 hbox hb;have n0_:=mk_ (st_ (qb_ HB) hb);have n1_:=mk_ (hbox);have n2_:=mk_ ((by rw [hg];exact (bz_ (qb_ HB)) : w.heap.size ≤ gb224));have n3_:=mk_ ((by rw [hg];exact (bz_ (qb_ HB)) : w.heap.size ≤ gb224));clear HB;have HB:=n0_;have BK224:=n1_;have GW224:=n2_;have GE224:=n3_;clear n0_ n1_ n2_ n3_ hb hbox hg;have hcz14_0 : w13.cell? ⟨gb224,0,none⟩ = some (.int .i64 a0_0):=(bc_ BK224.out 0).trans rfl;have hcz14_1 : w13.cell? ⟨gb224,1,none⟩ = some (.slice A0_1 l0_1.length c0_1):=(bc_ BK224.out 1).trans rfl;have hcz14_2 : w13.cell? ⟨gb224,2,none⟩ = some (.slice A0_2 l0_2.length c0_2):=(bc_ BK224.out 2).trans rfl;have hcz14_3 : w13.cell? ⟨gb224,3,none⟩ = some (.slice A0_3 l0_3.length c0_3):=(bc_ BK224.out 3).trans rfl;have hfz14_0:=bf_ BK224.out 0;have hfz14_1:=bf_ BK224.out 1;have hfz14_2:=bf_ BK224.out 2;have hfz14_3:=bf_ BK224.out 3)|((with_reducible refine gate_callee (f:=61) rfl ?_);refine goesL_ (some 8) rfl rfl Try.func61 (by kernel_rfl) rfl #[.slice A0_1 l0_1.length c0_1,.int .i64 a1] rfl qm_ ?_;(with_reducible refine (laws_heldCableS.calls k _ _ l0_1 a1 t225 _ ?side1 ?side2 A3.out).mono ?_);(case side1 => exact qn_ HR0_1 HB);(case side2 => exact HC0_1.out);rintro e w' ⟨rfl,⟨nd,rfl⟩⟩;refine ⟨_,rfl,?_⟩)|((with_reducible refine gate_callee (f:=25) rfl ?_);refine goesL_ (some 14) rfl rfl Try.func25 (by kernel_rfl) rfl #[.slice A0_2 l0_2.length c0_2,.int .i64 t225] rfl qm_ ?_;(with_reducible refine (laws_heldIntS.calls k _ _ l0_2 t225 t226 _ ?side1 ?side2 A7.out).mono ?_);(case side1 => repeat (first|exact (cb_ HR0_2.out (qc_ HB GE224))|(with_reducible refine ca_ ?_ _)|(with_reducible refine cn_ ?_ _)|(with_reducible refine cd_ ?_)));(case side2 => exact HC0_2.out);rintro e w' ⟨rfl,⟨nd,rfl⟩⟩;refine ⟨_,rfl,?_⟩)|((with_reducible refine gate_callee (f:=25) rfl ?_);refine goesL_ (some 20) rfl rfl Try.func25 (by kernel_rfl) rfl #[.slice A0_3 l0_3.length c0_3,.int .i64 t226] rfl qm_ ?_;(with_reducible refine (laws_heldIntS.calls k _ _ l0_3 t226 t227 _ ?side1 ?side2 A11.out).mono ?_);(case side1 => repeat (first|exact (cb_ HR0_3.out (qc_ HB GE224))|(with_reducible refine ca_ ?_ _)|(with_reducible refine cn_ ?_ _)|(with_reducible refine cd_ ?_)));(case side2 => exact HC0_3.out);rintro e w' ⟨rfl,⟨nd,rfl⟩⟩;refine ⟨_,rfl,?_⟩))
    go_ret
    exact ⟨qe_,u0_ HB GE224⟩
   ·rw [if_neg c12] at H
    have c12b0 : decide (t227 < 0) = false:=decide_eq_false c12
    clear c12
    obtain rfl:=Option.some.inj H
    go_enter Try.func28,Try.ntmps28
    go_wp2_with (first|((with_reducible refine gate_dst (N:=2) rfl ?_);refine box_event ?hg (N:=2) ?hd (cs:=#[.int .i64 a0_0,.slice A0_1 l0_1.length c0_1,.slice A0_2 l0_2.length c0_2,.slice A0_3 l0_3.length c0_3]) (t:=30) ?hr ?_;(case hd => rfl);(case hg => rfl);(case hr => first|(go_simp;done)|(go_simp;rfl));intro gb224 hg w15 hbox hb;have n0_:=mk_ (st_ (qb_ HB) hb);have n1_:=mk_ (hbox);have n2_:=mk_ ((by rw [hg];exact (bz_ (qb_ HB)) : w.heap.size ≤ gb224));have n3_:=mk_ ((by rw [hg];exact (bz_ (qb_ HB)) : w.heap.size ≤ gb224));clear HB;have HB:=n0_;have BK224:=n1_;have GW224:=n2_;have GE224:=n3_;clear n0_ n1_ n2_ n3_ hb hbox hg;have hcz16_0 : w15.cell? ⟨gb224,0,none⟩ = some (.int .i64 a0_0):=(bc_ BK224.out 0).trans rfl;have hcz16_1 : w15.cell? ⟨gb224,1,none⟩ = some (.slice A0_1 l0_1.length c0_1):=(bc_ BK224.out 1).trans rfl;have hcz16_2 : w15.cell? ⟨gb224,2,none⟩ = some (.slice A0_2 l0_2.length c0_2):=(bc_ BK224.out 2).trans rfl;have hcz16_3 : w15.cell? ⟨gb224,3,none⟩ = some (.slice A0_3 l0_3.length c0_3):=(bc_ BK224.out 3).trans rfl;have hfz16_0:=bf_ BK224.out 0;have hfz16_1:=bf_ BK224.out 1;have hfz16_2:=bf_ BK224.out 2;have hfz16_3:=bf_ BK224.out 3)|((with_reducible refine gate_callee (f:=61) rfl ?_);refine goesL_ (some 8) rfl rfl Try.func61 (by kernel_rfl) rfl #[.slice A0_1 l0_1.length c0_1,.int .i64 a1] rfl qm_ ?_;(with_reducible refine (laws_heldCableS.calls k _ _ l0_1 a1 t225 _ ?side1 ?side2 A3.out).mono ?_);(case side1 => exact qn_ HR0_1 HB);(case side2 => exact HC0_1.out);rintro e w' ⟨rfl,⟨nd,rfl⟩⟩;refine ⟨_,rfl,?_⟩)|((with_reducible refine gate_callee (f:=25) rfl ?_);refine goesL_ (some 14) rfl rfl Try.func25 (by kernel_rfl) rfl #[.slice A0_2 l0_2.length c0_2,.int .i64 t225] rfl qm_ ?_;(with_reducible refine (laws_heldIntS.calls k _ _ l0_2 t225 t226 _ ?side1 ?side2 A7.out).mono ?_);(case side1 => repeat (first|exact (cb_ HR0_2.out (qc_ HB GE224))|(with_reducible refine ca_ ?_ _)|(with_reducible refine cn_ ?_ _)|(with_reducible refine cd_ ?_)));(case side2 => exact HC0_2.out);rintro e w' ⟨rfl,⟨nd,rfl⟩⟩;refine ⟨_,rfl,?_⟩)|((with_reducible refine gate_callee (f:=25) rfl ?_);refine goesL_ (some 20) rfl rfl Try.func25 (by kernel_rfl) rfl #[.slice A0_3 l0_3.length c0_3,.int .i64 t226] rfl qm_ ?_;(with_reducible refine (laws_heldIntS.calls k _ _ l0_3 t226 t227 _ ?side1 ?side2 A11.out).mono ?_);(case side1 => repeat (first|exact (cb_ HR0_3.out (qc_ HB GE224))|(with_reducible refine ca_ ?_ _)|(with_reducible refine cn_ ?_ _)|(with_reducible refine cd_ ?_)));(case side2 => exact HC0_3.out);rintro e w' ⟨rfl,⟨nd,rfl⟩⟩;refine ⟨_,rfl,?_⟩))
    go_ret
    exact ⟨qe_,u0_ HB GE224⟩

-- LIB rowopen
/-- What reads as data of a type is of a kind; its lengths are a slice's, its numbers are of their kinds. -/
structure Opn {α : Type} (P : Program) (d : Kd α) (t : TypeId) (wf : α → Prop) : Prop where
  out : ∀ {H : Type} (enc : TypeId × Value → H) (w : World) (fuel : Nat) (cs : List Value) (x : DataW H × List MemPlace),DataW.trod enc P w 0 (fun _ => true) true fuel t cs = some x → ∃ a,d.K w a cs ∧ wf a
/-- The same of a struct's field, or of some fields in line, from a cell on. -/
structure OpnF {α : Type} (P : Program) (d : Kd α) (fs : Array Field) (off : Nat) (wf : α → Prop) : Prop where
  out : ∀ {H : Type} (enc : TypeId × Value → H) (w : World) (n : Nat) (cs : List Value) (xs : List (DataW H × List MemPlace)),xs.length = fs.size →
    (∀ (i : Nat) (f : Field),fs[i]? = some f → DataW.trod enc P w 0 (fun _ => true) true n f.type ((cs.drop f.offset).take (P.cellsOf f.type)) = xs[i]?) → ∃ a,d.K w a ((cs.drop off).take d.sz) ∧ wf a
theorem opn_int {P : Program} {t : TypeId} {k : IntKind} (ht : P.underlying t = some (.int k)) : Opn P (Kd.int k) t (fun n => (Lit.int k n).wf = true):=by
  constructor
  intro H enc w fuel cs x h
  obtain ⟨n,rfl,_,hw⟩:=DataW.trod_int ht h
  exact ⟨n,rfl,hw⟩
theorem opn_slice {α : Type} {P : Program} {d : Kd α} {t e : TypeId} {wf : α → Prop} (ht : P.underlying t = some (.slice e)) (hc : P.cellsOf e = d.sz) (h : Opn P d e wf) : Opn P (Kd.slice e d) t (fun l => l.length ≤ maxLen ∧ ∀ x ∈ l,wf x):=by
  constructor
  intro H enc w fuel cs x hx
  rcases Go.Deep.open_slice ht hx with ⟨rfl,_⟩ | ⟨a,len,cap,m,n,D,Pl,rfl,_,hl,hm,hmm,_,hel⟩
  · exact ⟨[],⟨none,0,rfl,Nat.le_refl _,Kd.C_nil d w⟩,by simp,by simp⟩
  · have hlm : len ≤ m:=by rw [hmm];simp;exact hl
    have hch : ∀ i : Fin len,∃ p : α,∃ c,w.cells? 0 (a.add (i.1 * d.sz)) d.sz = some c ∧ d.K w p c ∧ wf p:=by
      intro i
      obtain ⟨c,h1,h2⟩:=hel i.1 (by omega)
      obtain ⟨p,h3,h4⟩:=h.out enc w n c _ h2
      rw [hc] at h1
      exact ⟨p,c,h1,h3,h4⟩
    obtain ⟨f,hf⟩ : ∃ f : Fin len → α,∀ i : Fin len,∃ c,w.cells? 0 (a.add (i.1 * d.sz)) d.sz = some c ∧ d.K w (f i) c ∧ wf (f i):=⟨fun i => Classical.choose (hch i),fun i => Classical.choose_spec (hch i)⟩
    have hlen : (List.ofFn f).length = len:=List.length_ofFn
    refine ⟨List.ofFn f,⟨some a,cap,by rw [hlen],by omega,hlen.symm ▸ rfl,?_,fun hn => ⟨a,rfl,?_⟩⟩,by rw [hlen];omega,?_⟩
    · rw [hlen];unfold maxLen at hm;omega
    · intro j p hj
      have hjl : j < len:=by rw [← hlen];exact (List.getElem?_eq_some_iff.1 hj).1
      obtain ⟨c,h1,h2,_⟩:=hf ⟨j,hjl⟩
      obtain ⟨_,h3,h4⟩:=World.cells?_some h1
      rw [List.getElem?_ofFn,dif_pos hjl] at hj
      injection hj with hj
      rw [← hj]
      refine ⟨c,h3,h2,fun i u hu => ?_⟩
      have hi : i < d.sz:=by rw [← h3];exact (List.getElem?_eq_some_iff.1 hu).1
      have:=h4 i hi
      rw [hu] at this
      rw [← this,Addr.add_add]
    · intro p hp
      obtain ⟨i,rfl⟩:=(List.mem_ofFn).1 hp
      obtain ⟨_,_,_,hw⟩:=hf i
      exact hw
theorem opnF_field {α : Type} {P : Program} {d : Kd α} {fs : Array Field} {wf : α → Prop} {off : Nat} (j : Nat) (f : Field) (hf : fs[j]? = some f) (ho : f.offset = off) (hc : P.cellsOf f.type = d.sz) (h : Opn P d f.type wf) : OpnF P d fs off wf:=by
  subst ho
  constructor
  intro H enc w n cs xs hl hx
  have hj : j < fs.size:=(Array.getElem?_eq_some_iff.1 hf).1
  have h1:=hx j f hf
  rw [List.getElem?_eq_getElem (by omega),hc] at h1
  exact h.out enc w n _ _ h1
theorem opnF_pair {α β : Type} {P : Program} {a : Kd α} {b : Kd β} {fs : Array Field} {off : Nat} {wa : α → Prop} {wb : β → Prop} (ha : OpnF P a fs off wa) (hb : OpnF P b fs (off + a.sz) wb) : OpnF P (Kd.pair a b) fs off (fun p => wa p.1 ∧ wb p.2):=by
  constructor
  intro H enc w n cs xs hl hx
  obtain ⟨p,h1,h2⟩:=ha.out enc w n cs xs hl hx
  obtain ⟨q,h3,h4⟩:=hb.out enc w n cs xs hl hx
  refine ⟨(p,q),⟨_,_,?_,h1,h3⟩,h2,h4⟩
  show (cs.drop off).take (a.sz + b.sz) = _
  rw [List.take_add,List.drop_drop]
theorem opn_struct {α β : Type} {P : Program} {d : Kd α} {t : TypeId} {fs : Array Field} {wf : α → Prop} (f : β → α) (g : α → β) (hg : ∀ a,f (g a) = a) (ht : P.underlying t = some (.struct fs)) (hc : P.cellsOf t = d.sz) (h : OpnF P d fs 0 wf) : Opn P (Kd.iso d f) t (fun x => wf (f x)):=by
  constructor
  intro H enc w fuel cs x hx
  obtain ⟨xs,n,_,_,hl,hlen,hf⟩:=DataW.trod_struct ht hx
  obtain ⟨a,h1,h2⟩:=h.out enc w n cs xs hlen hf
  rw [List.drop_zero,List.take_of_length_le (by omega)] at h1
  refine ⟨g a,?_,?_⟩
  · show d.K w (f (g a)) cs
    rw [hg];exact h1
  · show wf (f (g a))
    rw [hg];exact h2
/-- A parameter that is a struct. -/
theorem open_aggK {α : Type} {P : Program} {d : Kd α} {t : TypeId} {wf : α → Prop} {H : Type} {enc : TypeId × Value → H} {w : World} {cs : Array Value} {dd : DataW H} {p : List MemPlace} (h : Opn P d t wf) (hx : DataW.Trod enc P w 0 (fun _ => true) true t (.agg cs) dd p) : ∃ x : α,d.K w x cs.toList ∧ wf x:=by
  obtain ⟨fuel,hf⟩:=hx
  exact h.out enc w fuel _ _ hf

-- LIB opnT79
theorem opnT79 : Opn Try.prog k79 79 (fun x => ((Lit.int .i64 x.f0).wf = true ∧ ((Lit.int .i64 x.f1).wf = true ∧ (Lit.int .i64 x.f2).wf = true))):=by
  have h:=opn_struct (P:=Try.prog) (d:=(Kd.pair (Kd.int .i64) (Kd.pair (Kd.int .i64) (Kd.int .i64)))) (t:=79) (fun x : S79 => (x.f0,x.f1,x.f2)) (fun p => ⟨p.1,p.2.1,p.2.2⟩) (fun _ => rfl) Try.underlying79 (by kernel_rfl) (opnF_pair (opnF_field 0 _ rfl rfl (by kernel_rfl) (opn_int (P:=Try.prog) (t:=3) (k:=.i64) (by kernel_rfl))) (opnF_pair (opnF_field 1 _ rfl rfl (by kernel_rfl) (opn_int (P:=Try.prog) (t:=3) (k:=.i64) (by kernel_rfl))) (opnF_field 2 _ rfl rfl (by kernel_rfl) (opn_int (P:=Try.prog) (t:=3) (k:=.i64) (by kernel_rfl)))))
  exact h

-- LIB opnT25
theorem opnT25 : Opn Try.prog k25 25 (fun x => ((Lit.int .i64 x.f0).wf = true ∧ ((x.f1.length ≤ maxLen ∧ ∀ y0 ∈ x.f1,((Lit.int .i64 y0.f0).wf = true ∧ ((Lit.int .i64 y0.f1).wf = true ∧ (Lit.int .i64 y0.f2).wf = true))) ∧ ((x.f2.length ≤ maxLen ∧ ∀ y0 ∈ x.f2,(Lit.int .i64 y0).wf = true) ∧ (x.f3.length ≤ maxLen ∧ ∀ y0 ∈ x.f3,(Lit.int .i64 y0).wf = true))))):=by
  have h:=opn_struct (P:=Try.prog) (d:=(Kd.pair (Kd.int .i64) (Kd.pair (Kd.slice 79 k79) (Kd.pair (Kd.slice 3 (Kd.int .i64)) (Kd.slice 3 (Kd.int .i64)))))) (t:=25) (fun x : S25 => (x.f0,x.f1,x.f2,x.f3)) (fun p => ⟨p.1,p.2.1,p.2.2.1,p.2.2.2⟩) (fun _ => rfl) Try.underlying25 (by kernel_rfl) (opnF_pair (opnF_field 0 _ rfl rfl (by kernel_rfl) (opn_int (P:=Try.prog) (t:=3) (k:=.i64) (by kernel_rfl))) (opnF_pair (opnF_field 1 _ rfl rfl (by kernel_rfl) (opn_slice (P:=Try.prog) (t:=22) (e:=79) (by kernel_rfl) (by kernel_rfl) opnT79)) (opnF_pair (opnF_field 2 _ rfl rfl (by kernel_rfl) (opn_slice (P:=Try.prog) (t:=23) (e:=3) (by kernel_rfl) (by kernel_rfl) (opn_int (P:=Try.prog) (t:=3) (k:=.i64) (by kernel_rfl)))) (opnF_field 3 _ rfl rfl (by kernel_rfl) (opn_slice (P:=Try.prog) (t:=23) (e:=3) (by kernel_rfl) (by kernel_rfl) (opn_int (P:=Try.prog) (t:=3) (k:=.i64) (by kernel_rfl)))))))
  exact h

/-! ### laws_FnExactCutCable: function 6 -/
mutual
def laws_FnExactCutCable.j0 : Nat → Int → Bool → Bool → Bool → Int → List (S79) → List Int → List Int → Int → List (S51) → List Int → List Int → Int → List (S51) → List Int → List Int → Int → List (S51) → List Int → List Int → Option (Bool)
 | 0,_,_,_,_,_,_,_,_,_,_,_,_,_,_,_,_,_,_,_,_ => none
 | k + 1,x1,x7,x10,x44,z0_,z1_,z2_,z3_,z4_,z5_,z6_,z7_,z8_,z9_,z10_,z11_,z12_,z13_,z14_,z15_ => if x44 = true then (some false) else ((laws_toNet.f k z0_ z1_ z2_ z3_).bind fun bt276 => ((laws_eqNet.f k z8_ z9_ z10_ z11_ bt276.1 bt276.2.1 bt276.2.2.1 bt276.2.2.2).bind fun t286 => (if t286 = true then ((laws_markNet.f k z8_ z9_ z10_ z11_ 1).bind fun bt287 => (if bt287.1 < 0 then (laws_FnExactCutCable.j1 k x1 x7 true z0_ z1_ z2_ z3_ z4_ z5_ z6_ z7_ z12_ z13_ z14_ z15_) else ((laws_eqNet.f k z12_ z13_ z14_ z15_ z4_ z5_ z6_ z7_).bind fun t291 => (if t291 = true then (laws_FnExactCutCable.j1 k x1 x7 (x10 != x7) z0_ z1_ z2_ z3_ z4_ z5_ z6_ z7_ z12_ z13_ z14_ z15_) else (laws_FnExactCutCable.j1 k x1 x7 true z0_ z1_ z2_ z3_ z4_ z5_ z6_ z7_ z12_ z13_ z14_ z15_))))) else (some false))))
def laws_FnExactCutCable.j1 : Nat → Int → Bool → Bool → Int → List (S79) → List Int → List Int → Int → List (S51) → List Int → List Int → Int → List (S51) → List Int → List Int → Option (Bool)
 | 0,_,_,_,_,_,_,_,_,_,_,_,_,_,_,_ => none
 | k + 1,x1,x7,x65,z0_,z1_,z2_,z3_,z4_,z5_,z6_,z7_,z12_,z13_,z14_,z15_ => if x65 = true then (some false) else ((laws_markNet.f k z12_ z13_ z14_ z15_ 1).bind fun bt292 => ((laws_heldNet.f k z12_ bt292.2.1 bt292.2.2.1 bt292.2.2.2 1).bind fun t296 => (if t296 < 0 then (some false) else (if t296 = bt292.1 then ((laws_toNet.f k z0_ z1_ z2_ z3_).bind fun bt297 => ((impl_CutCable.f k bt297.1 bt297.2.1 bt297.2.2.1 bt297.2.2.2 x1).bind fun bt307 => ((laws_eqNet.f k bt307.1 bt307.2.1 bt307.2.2.1 bt307.2.2.2.1 z4_ z5_ z6_ z7_).bind fun t319 => (if t319 = true then (laws_FnExactCutCable.j2 k bt292.1 (bt307.2.2.2.2 != x7) z12_ bt292.2.1 bt292.2.2.1 bt292.2.2.2) else (laws_FnExactCutCable.j2 k bt292.1 true z12_ bt292.2.1 bt292.2.2.1 bt292.2.2.2))))) else (some false)))))
def laws_FnExactCutCable.j2 : Nat → Int → Bool → Int → List (S51) → List Int → List Int → Option (Bool)
 | 0,_,_,_,_,_,_ => none
 | k + 1,x12,x92,z12_,z13_,z14_,z15_ => if x92 = true then (some false) else ((laws_heldNet.f k z12_ z13_ z14_ z15_ 1).bind fun t320 => (if t320 < 0 then (some false) else (if t320 = x12 then (some true) else (some false))))
end
def laws_FnExactCutCable.f (k : Nat) (a0_0 : Int) (l0_1 : List (S79)) (l0_2 : List Int) (l0_3 : List Int) (a1 : Int) : Option (Bool):=(laws_szNet.f a0_0 l0_1 l0_2 l0_3 1048576).bind fun t229 => (if t229 < 0 then (some true) else ((laws_toNet.f k a0_0 l0_1 l0_2 l0_3).bind fun bt230 => ((spec_CutCable.f k bt230.1 bt230.2.1 bt230.2.2.1 bt230.2.2.2 a1).bind fun bt240 => ((laws_toNet.f k a0_0 l0_1 l0_2 l0_3).bind fun bt252 => ((impl_CutCable.f k bt252.1 bt252.2.1 bt252.2.2.1 bt252.2.2.2 a1).bind fun bt263 => ((laws_eqNet.f k bt263.1 bt263.2.1 bt263.2.2.1 bt263.2.2.2.1 bt240.1 bt240.2.1 bt240.2.2.1 bt240.2.2.2.1).bind fun t275 => (if t275 = true then (laws_FnExactCutCable.j0 k a1 bt240.2.2.2.2 bt263.2.2.2.2 (bt263.2.2.2.2 != bt240.2.2.2.2) a0_0 l0_1 l0_2 l0_3 bt240.1 bt240.2.1 bt240.2.2.1 bt240.2.2.2.1 bt252.1 bt252.2.1 bt252.2.2.1 bt252.2.2.2 bt263.1 bt263.2.1 bt263.2.2.1 bt263.2.2.2.1) else (laws_FnExactCutCable.j0 k a1 bt240.2.2.2.2 bt263.2.2.2.2 true a0_0 l0_1 l0_2 l0_3 bt240.1 bt240.2.1 bt240.2.2.1 bt240.2.2.2.1 bt252.1 bt252.2.1 bt252.2.2.1 bt252.2.2.2 bt263.1 bt263.2.1 bt263.2.2.1 bt263.2.2.2.1))))))))
theorem laws_FnExactCutCable.mono_l : ∀ k,(∀ y0 y1 y2 y3 y4 y5 y6 y7 y8 y9 y10 y11 y12 y13 y14 y15 y16 y17 y18 y19,LeO (laws_FnExactCutCable.j0 k y0 y1 y2 y3 y4 y5 y6 y7 y8 y9 y10 y11 y12 y13 y14 y15 y16 y17 y18 y19) (laws_FnExactCutCable.j0 (k + 1) y0 y1 y2 y3 y4 y5 y6 y7 y8 y9 y10 y11 y12 y13 y14 y15 y16 y17 y18 y19)) ∧ (∀ y0 y1 y2 y3 y4 y5 y6 y7 y8 y9 y10 y11 y12 y13 y14,LeO (laws_FnExactCutCable.j1 k y0 y1 y2 y3 y4 y5 y6 y7 y8 y9 y10 y11 y12 y13 y14) (laws_FnExactCutCable.j1 (k + 1) y0 y1 y2 y3 y4 y5 y6 y7 y8 y9 y10 y11 y12 y13 y14)) ∧ (∀ y0 y1 y2 y3 y4 y5,LeO (laws_FnExactCutCable.j2 k y0 y1 y2 y3 y4 y5) (laws_FnExactCutCable.j2 (k + 1) y0 y1 y2 y3 y4 y5))
 | 0 => ⟨fun _ _ _ _ _ _ _ _ _ _ _ _ _ _ _ _ _ _ _ _ r h => by simp [laws_FnExactCutCable.j0] at h,fun _ _ _ _ _ _ _ _ _ _ _ _ _ _ _ r h => by simp [laws_FnExactCutCable.j1] at h,fun _ _ _ _ _ _ r h => by simp [laws_FnExactCutCable.j2] at h⟩
 | k + 1 => by
  obtain ⟨ih0,ih1,ih2⟩:=laws_FnExactCutCable.mono_l k
  refine ⟨?_,?_,?_⟩
  ·intro y0 y1 y2 y3 y4 y5 y6 y7 y8 y9 y10 y11 y12 y13 y14 y15 y16 y17 y18 y19
   unfold laws_FnExactCutCable.j0
   repeat' first
   | (with_reducible exact ih0 _ _ _ _ _ _ _ _ _ _ _ _ _ _ _ _ _ _ _ _)
   | (with_reducible exact ih1 _ _ _ _ _ _ _ _ _ _ _ _ _ _ _)
   | (with_reducible exact ih2 _ _ _ _ _ _)
   | (with_reducible exact impl_CutCable.mono _ _ _ _ _ _)
   | (with_reducible exact laws_eqNet.mono _ _ _ _ _ _ _ _ _)
   | (with_reducible exact laws_heldNet.mono _ _ _ _ _ _)
   | (with_reducible exact laws_markNet.mono _ _ _ _ _ _)
   | (with_reducible exact laws_toNet.mono _ _ _ _ _)
   | (with_reducible exact spec_CutCable.mono _ _ _ _ _ _)
   | (with_reducible exact LeO.refl _)
   | (with_reducible exact LeO.none _)
   | (with_reducible refine LeO.ite ?_ ?_)
   | (with_reducible refine LeO.bind ?_ (fun _ => ?_))
   | exact ih0 _ _ _ _ _ _ _ _ _ _ _ _ _ _ _ _ _ _ _ _
   | exact ih1 _ _ _ _ _ _ _ _ _ _ _ _ _ _ _
   | exact ih2 _ _ _ _ _ _
   | exact impl_CutCable.mono _ _ _ _ _ _
   | exact laws_eqNet.mono _ _ _ _ _ _ _ _ _
   | exact laws_heldNet.mono _ _ _ _ _ _
   | exact laws_markNet.mono _ _ _ _ _ _
   | exact laws_toNet.mono _ _ _ _ _
   | exact spec_CutCable.mono _ _ _ _ _ _
   | exact LeO.none _
   | refine LeO.ite ?_ ?_
   | refine LeO.bind ?_ (fun _ => ?_)
  ·intro y0 y1 y2 y3 y4 y5 y6 y7 y8 y9 y10 y11 y12 y13 y14
   unfold laws_FnExactCutCable.j1
   repeat' first
   | (with_reducible exact ih0 _ _ _ _ _ _ _ _ _ _ _ _ _ _ _ _ _ _ _ _)
   | (with_reducible exact ih1 _ _ _ _ _ _ _ _ _ _ _ _ _ _ _)
   | (with_reducible exact ih2 _ _ _ _ _ _)
   | (with_reducible exact impl_CutCable.mono _ _ _ _ _ _)
   | (with_reducible exact laws_eqNet.mono _ _ _ _ _ _ _ _ _)
   | (with_reducible exact laws_heldNet.mono _ _ _ _ _ _)
   | (with_reducible exact laws_markNet.mono _ _ _ _ _ _)
   | (with_reducible exact laws_toNet.mono _ _ _ _ _)
   | (with_reducible exact spec_CutCable.mono _ _ _ _ _ _)
   | (with_reducible exact LeO.refl _)
   | (with_reducible exact LeO.none _)
   | (with_reducible refine LeO.ite ?_ ?_)
   | (with_reducible refine LeO.bind ?_ (fun _ => ?_))
   | exact ih0 _ _ _ _ _ _ _ _ _ _ _ _ _ _ _ _ _ _ _ _
   | exact ih1 _ _ _ _ _ _ _ _ _ _ _ _ _ _ _
   | exact ih2 _ _ _ _ _ _
   | exact impl_CutCable.mono _ _ _ _ _ _
   | exact laws_eqNet.mono _ _ _ _ _ _ _ _ _
   | exact laws_heldNet.mono _ _ _ _ _ _
   | exact laws_markNet.mono _ _ _ _ _ _
   | exact laws_toNet.mono _ _ _ _ _
   | exact spec_CutCable.mono _ _ _ _ _ _
   | exact LeO.none _
   | refine LeO.ite ?_ ?_
   | refine LeO.bind ?_ (fun _ => ?_)
  ·intro y0 y1 y2 y3 y4 y5
   unfold laws_FnExactCutCable.j2
   repeat' first
   | (with_reducible exact ih0 _ _ _ _ _ _ _ _ _ _ _ _ _ _ _ _ _ _ _ _)
   | (with_reducible exact ih1 _ _ _ _ _ _ _ _ _ _ _ _ _ _ _)
   | (with_reducible exact ih2 _ _ _ _ _ _)
   | (with_reducible exact impl_CutCable.mono _ _ _ _ _ _)
   | (with_reducible exact laws_eqNet.mono _ _ _ _ _ _ _ _ _)
   | (with_reducible exact laws_heldNet.mono _ _ _ _ _ _)
   | (with_reducible exact laws_markNet.mono _ _ _ _ _ _)
   | (with_reducible exact laws_toNet.mono _ _ _ _ _)
   | (with_reducible exact spec_CutCable.mono _ _ _ _ _ _)
   | (with_reducible exact LeO.refl _)
   | (with_reducible exact LeO.none _)
   | (with_reducible refine LeO.ite ?_ ?_)
   | (with_reducible refine LeO.bind ?_ (fun _ => ?_))
   | exact ih0 _ _ _ _ _ _ _ _ _ _ _ _ _ _ _ _ _ _ _ _
   | exact ih1 _ _ _ _ _ _ _ _ _ _ _ _ _ _ _
   | exact ih2 _ _ _ _ _ _
   | exact impl_CutCable.mono _ _ _ _ _ _
   | exact laws_eqNet.mono _ _ _ _ _ _ _ _ _
   | exact laws_heldNet.mono _ _ _ _ _ _
   | exact laws_markNet.mono _ _ _ _ _ _
   | exact laws_toNet.mono _ _ _ _ _
   | exact spec_CutCable.mono _ _ _ _ _ _
   | exact LeO.none _
   | refine LeO.ite ?_ ?_
   | refine LeO.bind ?_ (fun _ => ?_)
theorem laws_FnExactCutCable.mono : ∀ a0 a1 a2 a3 a4 k,LeO (laws_FnExactCutCable.f k a0 a1 a2 a3 a4) (laws_FnExactCutCable.f (k + 1) a0 a1 a2 a3 a4):=by
 intro a0 a1 a2 a3 a4 k
 obtain ⟨ih0,ih1,ih2⟩:=laws_FnExactCutCable.mono_l k
 unfold laws_FnExactCutCable.f
 repeat' first
   | (with_reducible exact ih0 _ _ _ _ _ _ _ _ _ _ _ _ _ _ _ _ _ _ _ _)
   | (with_reducible exact ih1 _ _ _ _ _ _ _ _ _ _ _ _ _ _ _)
   | (with_reducible exact ih2 _ _ _ _ _ _)
   | (with_reducible exact impl_CutCable.mono _ _ _ _ _ _)
   | (with_reducible exact laws_eqNet.mono _ _ _ _ _ _ _ _ _)
   | (with_reducible exact laws_heldNet.mono _ _ _ _ _ _)
   | (with_reducible exact laws_markNet.mono _ _ _ _ _ _)
   | (with_reducible exact laws_toNet.mono _ _ _ _ _)
   | (with_reducible exact spec_CutCable.mono _ _ _ _ _ _)
   | (with_reducible exact LeO.refl _)
   | (with_reducible exact LeO.none _)
   | (with_reducible refine LeO.ite ?_ ?_)
   | (with_reducible refine LeO.bind ?_ (fun _ => ?_))
   | exact ih0 _ _ _ _ _ _ _ _ _ _ _ _ _ _ _ _ _ _ _ _
   | exact ih1 _ _ _ _ _ _ _ _ _ _ _ _ _ _ _
   | exact ih2 _ _ _ _ _ _
   | exact impl_CutCable.mono _ _ _ _ _ _
   | exact laws_eqNet.mono _ _ _ _ _ _ _ _ _
   | exact laws_heldNet.mono _ _ _ _ _ _
   | exact laws_markNet.mono _ _ _ _ _ _
   | exact laws_toNet.mono _ _ _ _ _
   | exact spec_CutCable.mono _ _ _ _ _ _
   | exact LeO.none _
   | refine LeO.ite ?_ ?_
   | refine LeO.bind ?_ (fun _ => ?_)

end Go.Proofs.Ytdamdcdjodmemaa.PAll

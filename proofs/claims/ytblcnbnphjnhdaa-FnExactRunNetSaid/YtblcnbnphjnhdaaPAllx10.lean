/- Proved here: contracts of functions of the given program, or lemmas on them, for the laws of this seat. Written by xprint.py, a program of this session, on the ground of the kit's print; parts by hand: wip/x/ext. -/
import Derived.Test.YtblcnbnphjnhdaaPAllx0
import Derived.Test.YtblcnbnphjnhdaaPAllx1
import Derived.Test.YtblcnbnphjnhdaaPAllx4
import Derived.Test.YtblcnbnphjnhdaaPAllx5
import Derived.Test.YtblcnbnphjnhdaaPAllx6
import Derived.Test.YtblcnbnphjnhdaaPAllx8
import Derived.Test.YtblcnbnphjnhdaaPAllx9
namespace Go.Proofs.Ytblcnbnphjnhdaa.PAll
open Go.RowKit Go.Proofs.YtblcnbnphjnhdaaW.PrintWords Go.Proofs.YtblcnbnphjnhdaaW.PrintLast Go.Proofs.YtblcnbnphjnhdaaW.PrintMore
attribute [local go_sem] max2_int min2_int max_two min_two max_three min_three max_four min_four   -- for this text's walks alone
set_option linter.unusedVariables false
set_option linter.unusedSimpArgs false

-- LIB rowopen
structure Opn {α : Type} (P : Program) (d : Kd α) (t : TypeId) (wf : α → Prop) : Prop where
 out : ∀ {H : Type} (enc : TypeId × Value → H) (w : World) (fuel : Nat) (cs : List Value) (x : DataW H × List MemPlace),DataW.trod enc P w 0 (fun _ => true) true fuel t cs = some x → ∃ a,d.K w a cs ∧ wf a
structure OpnF {α : Type} (P : Program) (d : Kd α) (fs : Array Field) (off : Nat) (wf : α → Prop) : Prop where
 out : ∀ {H : Type} (enc : TypeId × Value → H) (w : World) (n : Nat) (cs : List Value) (xs : List (DataW H × List MemPlace)),xs.length = fs.size →
  (∀ (i : Nat) (f : Field),fs[i]? = some f → DataW.trod enc P w 0 (fun _ => true) true n f.type ((cs.drop f.offset).take (P.cellsOf f.type)) = xs[i]?) → ∃ a,d.K w a ((cs.drop off).take d.sz) ∧ wf a
theorem opn_int {P : Program} {t : TypeId} {k : IntKind} (ht : P.underlying t = some (.int k)) : Opn P (Kd.int k) t (fun n => (Lit.int k n).wf = true):=by
 constructor
 intro H enc w fuel cs x h
 obtain ⟨n,rfl,_,hw⟩:=DataW.trod_int ht h
 exact ⟨n,rfl,hw⟩
theorem opn_bool {P : Program} {t : TypeId} (ht : P.underlying t = some .bool) : Opn P Kd.bool t (fun _ => True):=by
 constructor
 intro H enc w fuel cs x h
 obtain ⟨b,rfl,_⟩:=DataW.trod_bool ht h
 exact ⟨b,rfl,trivial⟩
theorem opn_slice {α : Type} {P : Program} {d : Kd α} {t e : TypeId} {wf : α → Prop} (ht : P.underlying t = some (.slice e)) (hc : P.cellsOf e = d.sz) (h : Opn P d e wf) : Opn P (Kd.slice e d) t (fun l => l.length ≤ maxLen ∧ ∀ x ∈ l,wf x):=by
 constructor
 intro H enc w fuel cs x hx
 rcases Go.Deep.open_slice ht hx with ⟨rfl,_⟩ | ⟨a,len,cap,m,n,D,Pl,rfl,_,hl,hm,hmm,_,hel⟩
 ·exact ⟨[],⟨none,0,rfl,Nat.le_refl _,Kd.C_nil d w⟩,by simp,by simp⟩
 ·have hlm : len ≤ m:=by rw [hmm];simp;exact hl
  have hch : ∀ i : Fin len,∃ p : α,∃ c,w.cells? 0 (a.add (i.1 * d.sz)) d.sz = some c ∧ d.K w p c ∧ wf p:=by
   intro i
   obtain ⟨c,h1,h2⟩:=hel i.1 (by omega)
   obtain ⟨p,h3,h4⟩:=h.out enc w n c _ h2
   rw [hc] at h1
   exact ⟨p,c,h1,h3,h4⟩
  obtain ⟨f,hf⟩ : ∃ f : Fin len → α,∀ i : Fin len,∃ c,w.cells? 0 (a.add (i.1 * d.sz)) d.sz = some c ∧ d.K w (f i) c ∧ wf (f i):=⟨fun i => Classical.choose (hch i),fun i => Classical.choose_spec (hch i)⟩
  have hlen : (List.ofFn f).length = len:=List.length_ofFn
  refine ⟨List.ofFn f,⟨some a,cap,by rw [hlen],by omega,hlen.symm ▸ rfl,?_,fun hn => ⟨a,rfl,?_⟩⟩,by rw [hlen];omega,?_⟩
  ·rw [hlen];unfold maxLen at hm;omega
  ·intro j p hj
   have hjl : j < len:=by rw [← hlen];exact (List.getElem?_eq_some_iff.1 hj).1
   obtain ⟨c,h1,h2,_⟩:=hf ⟨j,hjl⟩
   obtain ⟨_,h3,h4⟩:=World.cells?_some h1
   rw [List.getElem?_ofFn,dif_pos hjl] at hj
   injection hj with hj
   rw [← hj]
   refine ⟨c,h3,h2,fun i u hu => ?_⟩
   have hi : i < d.sz:=by rw [← h3];exact (List.getElem?_eq_some_iff.1 hu).1
   have:=h4 i hi
   rw [hu] at this
   rw [← this,Addr.add_add]
  ·intro p hp
   obtain ⟨i,rfl⟩:=(List.mem_ofFn).1 hp
   obtain ⟨_,_,_,hw⟩:=hf i
   exact hw
theorem opnF_field {α : Type} {P : Program} {d : Kd α} {fs : Array Field} {wf : α → Prop} {off : Nat} (j : Nat) (f : Field) (hf : fs[j]? = some f) (ho : f.offset = off) (hc : P.cellsOf f.type = d.sz) (h : Opn P d f.type wf) : OpnF P d fs off wf:=by
 subst ho
 constructor
 intro H enc w n cs xs hl hx
 have hj : j < fs.size:=(Array.getElem?_eq_some_iff.1 hf).1
 have h1:=hx j f hf
 rw [List.getElem?_eq_getElem (by omega),hc] at h1
 exact h.out enc w n _ _ h1
theorem opnF_pair {α β : Type} {P : Program} {a : Kd α} {b : Kd β} {fs : Array Field} {off : Nat} {wa : α → Prop} {wb : β → Prop} (ha : OpnF P a fs off wa) (hb : OpnF P b fs (off + a.sz) wb) : OpnF P (Kd.pair a b) fs off (fun p => wa p.1 ∧ wb p.2):=by
 constructor
 intro H enc w n cs xs hl hx
 obtain ⟨p,h1,h2⟩:=ha.out enc w n cs xs hl hx
 obtain ⟨q,h3,h4⟩:=hb.out enc w n cs xs hl hx
 refine ⟨(p,q),⟨_,_,?_,h1,h3⟩,h2,h4⟩
 show (cs.drop off).take (a.sz + b.sz) = _
 rw [List.take_add,List.drop_drop]
theorem opn_struct {α β : Type} {P : Program} {d : Kd α} {t : TypeId} {fs : Array Field} {wf : α → Prop} (f : β → α) (g : α → β) (hg : ∀ a,f (g a) = a) (ht : P.underlying t = some (.struct fs)) (hc : P.cellsOf t = d.sz) (h : OpnF P d fs 0 wf) : Opn P (Kd.iso d f) t (fun x => wf (f x)):=by
 constructor
 intro H enc w fuel cs x hx
 obtain ⟨xs,n,_,_,hl,hlen,hf⟩:=DataW.trod_struct ht hx
 obtain ⟨a,h1,h2⟩:=h.out enc w n cs xs hlen hf
 rw [List.drop_zero,List.take_of_length_le (by omega)] at h1
 refine ⟨g a,?_,?_⟩
 ·show d.K w (f (g a)) cs
  rw [hg];exact h1
 ·show wf (f (g a))
  rw [hg];exact h2
theorem open_rowC {α : Type} {P : Program} {d : Kd α} {t e : TypeId} {wf : List α → Prop} {H : Type} {enc : TypeId × Value → H} {w : World} {a : Option Addr} {len cap : Nat} {dd : DataW H} {p : List MemPlace} (h : Opn P (Kd.slice e d) t wf) (hx : DataW.Trod enc P w 0 (fun _ => true) true t (.slice a len cap) dd p) :
  ∃ l : List α,len = l.length ∧ l.length ≤ cap ∧ d.C w a l.length l ∧ wf l:=by
 obtain ⟨fuel,hf⟩:=hx
 obtain ⟨l,⟨A,c,hcs,h1,h2⟩,h3⟩:=h.out enc w fuel _ _ hf
 simp only [Value.cells] at hcs
 have e:=List.singleton_inj.1 hcs
 cases e
 exact ⟨l,rfl,h1,h2,h3⟩
theorem open_aggK {α : Type} {P : Program} {d : Kd α} {t : TypeId} {wf : α → Prop} {H : Type} {enc : TypeId × Value → H} {w : World} {cs : Array Value} {dd : DataW H} {p : List MemPlace} (h : Opn P d t wf) (hx : DataW.Trod enc P w 0 (fun _ => true) true t (.agg cs) dd p) : ∃ x : α,d.K w x cs.toList ∧ wf x:=by
 obtain ⟨fuel,hf⟩:=hx
 exact h.out enc w fuel _ _ hf

-- LIB opnT117
theorem opnT117 : Opn Try.prog k117 117 (fun x => ((Lit.int .i64 x.f0).wf = true ∧ ((Lit.int .i64 x.f1).wf = true ∧ (Lit.int .i64 x.f2).wf = true))):=by
 have h:=opn_struct (P:=Try.prog) (d:=(Kd.pair (Kd.int .i64) (Kd.pair (Kd.int .i64) (Kd.int .i64)))) (t:=117) (fun x : S117 => (x.f0,x.f1,x.f2)) (fun p => ⟨p.1,p.2.1,p.2.2⟩) (fun _ => rfl) Try.underlying117 (by kernel_rfl) (opnF_pair (opnF_field 0 _ rfl rfl (by kernel_rfl) (opn_int (P:=Try.prog) (t:=3) (k:=.i64) (by kernel_rfl))) (opnF_pair (opnF_field 1 _ rfl rfl (by kernel_rfl) (opn_int (P:=Try.prog) (t:=3) (k:=.i64) (by kernel_rfl))) (opnF_field 2 _ rfl rfl (by kernel_rfl) (opn_int (P:=Try.prog) (t:=3) (k:=.i64) (by kernel_rfl)))))
 exact h

-- LIB opnT45
theorem opnT45 : Opn Try.prog k45 45 (fun x => ((Lit.int .i64 x.f0).wf = true ∧ ((x.f1.length ≤ maxLen ∧ ∀ y0 ∈ x.f1,((Lit.int .i64 y0.f0).wf = true ∧ ((Lit.int .i64 y0.f1).wf = true ∧ (Lit.int .i64 y0.f2).wf = true))) ∧ ((x.f2.length ≤ maxLen ∧ ∀ y0 ∈ x.f2,(Lit.int .i64 y0).wf = true) ∧ (x.f3.length ≤ maxLen ∧ ∀ y0 ∈ x.f3,(Lit.int .i64 y0).wf = true))))):=by
 have h:=opn_struct (P:=Try.prog) (d:=(Kd.pair (Kd.int .i64) (Kd.pair (Kd.slice 117 k117) (Kd.pair (Kd.slice 3 (Kd.int .i64)) (Kd.slice 3 (Kd.int .i64)))))) (t:=45) (fun x : S45 => (x.f0,x.f1,x.f2,x.f3)) (fun p => ⟨p.1,p.2.1,p.2.2.1,p.2.2.2⟩) (fun _ => rfl) Try.underlying45 (by kernel_rfl) (opnF_pair (opnF_field 0 _ rfl rfl (by kernel_rfl) (opn_int (P:=Try.prog) (t:=3) (k:=.i64) (by kernel_rfl))) (opnF_pair (opnF_field 1 _ rfl rfl (by kernel_rfl) (opn_slice (P:=Try.prog) (t:=43) (e:=117) (by kernel_rfl) (by kernel_rfl) opnT117)) (opnF_pair (opnF_field 2 _ rfl rfl (by kernel_rfl) (opn_slice (P:=Try.prog) (t:=24) (e:=3) (by kernel_rfl) (by kernel_rfl) (opn_int (P:=Try.prog) (t:=3) (k:=.i64) (by kernel_rfl)))) (opnF_field 3 _ rfl rfl (by kernel_rfl) (opn_slice (P:=Try.prog) (t:=24) (e:=3) (by kernel_rfl) (by kernel_rfl) (opn_int (P:=Try.prog) (t:=3) (k:=.i64) (by kernel_rfl)))))))
 exact h

-- LIB opnT88
theorem opnT88 : Opn Try.prog k88 88 (fun x => ((Lit.int .i64 x.f0).wf = true ∧ ((Lit.int .i64 x.f1).wf = true ∧ (Lit.int .i64 x.f2).wf = true))):=by
 have h:=opn_struct (P:=Try.prog) (d:=(Kd.pair (Kd.int .i64) (Kd.pair (Kd.int .i64) (Kd.int .i64)))) (t:=88) (fun x : S88 => (x.f0,x.f1,x.f2)) (fun p => ⟨p.1,p.2.1,p.2.2⟩) (fun _ => rfl) Try.underlying88 (by kernel_rfl) (opnF_pair (opnF_field 0 _ rfl rfl (by kernel_rfl) (opn_int (P:=Try.prog) (t:=3) (k:=.i64) (by kernel_rfl))) (opnF_pair (opnF_field 1 _ rfl rfl (by kernel_rfl) (opn_int (P:=Try.prog) (t:=3) (k:=.i64) (by kernel_rfl))) (opnF_field 2 _ rfl rfl (by kernel_rfl) (opn_int (P:=Try.prog) (t:=3) (k:=.i64) (by kernel_rfl)))))
 exact h

/-! ### laws_FnExactRunNet: function 7 (by hand) -/
def laws_FnExactRunNet.f (k : Nat) (a0_0 : Int) (l0_1 : List (S117)) (l0_2 : List Int) (l0_3 : List Int) (l1 : List (S88)) : Option (Bool) :=
 (laws_szNet.f a0_0 l0_1 l0_2 l0_3 1048576).bind fun t => if t < 0 then some true else (laws_szHopS.f l1 t).bind fun u => if u < 0 then some true else
  (laws_toNet.f k a0_0 l0_1 l0_2 l0_3).bind fun n => (laws_toHopS.f k l1).bind fun h => (impl_RunNet.f n.1 n.2.1 n.2.2.1 n.2.2.2 h).bind fun a => (spec_RunNet.f n.1 n.2.1 n.2.2.1 n.2.2.2 h).bind fun b =>
  (laws_eqSent.f k a.1 a.2.1 a.1 a.2.1).bind fun e0 => (laws_eqNet.f k n.1 n.2.1 n.2.2.1 n.2.2.2 n.1 n.2.1 n.2.2.1 n.2.2.2).bind fun e1 => (laws_eqHopS.f k h h).bind fun e2 =>
  (laws_markNet.f k n.1 n.2.1 n.2.2.1 n.2.2.2 1).bind fun m1 => (laws_markHopS.f k h m1.1).bind fun m2 => (laws_markSent.f a.1 a.2.1 1).bind fun m => (laws_heldSent.f k m.2.1 m.2.2 1).bind fun q =>
  if a = b ∧ e0 = true ∧ e1 = true ∧ e2 = true ∧ 0 ≤ m2.1 ∧ m.1 = q ∧ 0 ≤ m.1 then some true else none
set_option maxHeartbeats 4000000 in
set_option maxRecDepth 100000 in
theorem laws_FnExactRunNet.calls (k : Nat) (a0_0 : Int) (A0_1 : Option Addr) (c0_1 : Nat) (l0_1 : List (S117)) (A0_2 : Option Addr) (c0_2 : Nat) (l0_2 : List Int) (A0_3 : Option Addr) (c0_3 : Nat) (l0_3 : List Int) (A1 : Option Addr) (c1 : Nat) (l1 : List (S88)) (r : Bool) (w : World) (hr0_1 : Kd.C k117 w A0_1 l0_1.length l0_1) (hc0_1 : l0_1.length ≤ c0_1) (hr0_2 : Kd.C (Kd.int .i64) w A0_2 l0_2.length l0_2) (hc0_2 : l0_2.length ≤ c0_2) (hr0_3 : Kd.C (Kd.int .i64) w A0_3 l0_3.length l0_3) (hc0_3 : l0_3.length ≤ c0_3) (hr1 : Kd.C k88 w A1 l1.length l1) (hc1 : l1.length ≤ c1) (h : laws_FnExactRunNet.f k a0_0 l0_1 l0_2 l0_3 l1 = some r) :
  Calls Try.prog 7 #[.agg #[.int .i64 a0_0,.slice A0_1 l0_1.length c0_1,.slice A0_2 l0_2.length c0_2,.slice A0_3 l0_3.length c0_3],.slice A1 l1.length c1] w fun e w' => e = .returned (.bool r) ∧ Below w.heap.size w w':=by
 unfold laws_FnExactRunNet.f at h
 have hu:=Try.underlying45
 have hu2:=Try.underlying26
 have hu3:=Try.underlying32
 replace h:=Option.bind_eq_some_iff.mp h
 obtain ⟨t,hT,h⟩:=h
 have hb0:=ba_ (Below.refl w.heap.size w) (.cells #[.int .i64 a0_0,.slice A0_1 l0_1.length c0_1,.slice A0_2 l0_2.length c0_2,.slice A0_3 l0_3.length c0_3] 45)
 have HN0:=mk_ (blk_new w (.cells #[.int .i64 a0_0,.slice A0_1 l0_1.length c0_1,.slice A0_2 l0_2.length c0_2,.slice A0_3 l0_3.length c0_3] 45))
 have HR1:=mk_ hr0_1
 have HR2:=mk_ hr0_2
 have HR3:=mk_ hr0_3
 have HR4:=mk_ hr1
 have HSZ:=mk_ (laws_szNet.calls a0_0 A0_1 c0_1 l0_1 A0_2 c0_2 l0_2 A0_3 c0_3 l0_3 1048576 t _ (cb_ hr0_1 hb0) hc0_1 (cb_ hr0_2 hb0) hc0_2 (cb_ hr0_3 hb0) hc0_3 hT)
 have HB0:=mk_ hb0
 obtain ⟨m0,m1,m2,m3⟩:=cell4 HN0.out
 by_cases ct : t < 0
 ·rw [if_pos ct] at h
  obtain rfl:=Option.some.inj h
  have p3 : (t < 0) = True:=eq_true ct
  clear h hr0_1 hr0_2 hr0_3 hr1 ct hT hb0
  go_enter Try.func7,Try.ntmps7
  go_wp2_with fail
  refine HSZ.out.mono ?_
  rintro e w1 ⟨rfl,hd1⟩
  have HB1:=mk_ (st_ HB0.out hd1)
  clear hd1 m0 m1 m2 m3
  go_wp2
  go_ret
  exact ⟨rfl,HB1.out⟩
 rw [if_neg ct] at h
 have p3 : (t < 0) = False:=eq_false ct
 replace h:=Option.bind_eq_some_iff.mp h
 obtain ⟨u,hU,h⟩:=h
 have HSH:=mk_ (fun W hC => laws_szHopS.calls A1 c1 l1 t u W hC hc1 hU)
 by_cases cu : u < 0
 ·rw [if_pos cu] at h
  obtain rfl:=Option.some.inj h
  have p4 : (u < 0) = True:=eq_true cu
  clear h hr0_1 hr0_2 hr0_3 hr1 ct cu hT hU hb0
  go_enter Try.func7,Try.ntmps7
  go_wp2_with fail
  refine HSZ.out.mono ?_
  rintro e w1 ⟨rfl,hd1⟩
  have HB1:=mk_ (st_ HB0.out hd1)
  clear hd1 m0 m1 m2 m3
  go_wp2_with fail
  refine (HSH.out w1 (cb_ HR4.out HB1.out)).mono ?_
  rintro e w2 ⟨rfl,hd2⟩
  have HB2:=mk_ (st_ HB1.out hd2.below)
  clear hd2
  go_wp2
  go_ret
  exact ⟨rfl,HB2.out⟩
 rw [if_neg cu] at h
 have p4 : (u < 0) = False:=eq_false cu
 replace h:=Option.bind_eq_some_iff.mp h
 obtain ⟨⟨n,cs,hs,vs⟩,hTN,h⟩:=h
 replace h:=Option.bind_eq_some_iff.mp h
 obtain ⟨l,hTH,h⟩:=h
 replace h:=Option.bind_eq_some_iff.mp h
 obtain ⟨⟨tk,ov,g3⟩,hA,h⟩:=h
 replace h:=Option.bind_eq_some_iff.mp h
 obtain ⟨b,hS,h⟩:=h
 replace h:=Option.bind_eq_some_iff.mp h
 obtain ⟨e0,hE0,h⟩:=h
 replace h:=Option.bind_eq_some_iff.mp h
 obtain ⟨e1,hE1,h⟩:=h
 replace h:=Option.bind_eq_some_iff.mp h
 obtain ⟨e2,hE2,h⟩:=h
 replace h:=Option.bind_eq_some_iff.mp h
 obtain ⟨⟨n1,y1,y2,y3⟩,hM1,h⟩:=h
 replace h:=Option.bind_eq_some_iff.mp h
 obtain ⟨⟨n2,y4⟩,hM2,h⟩:=h
 replace h:=Option.bind_eq_some_iff.mp h
 obtain ⟨⟨n3,zt,zo⟩,hM3,h⟩:=h
 replace h:=Option.bind_eq_some_iff.mp h
 obtain ⟨q,hH,h⟩:=h
 by_cases hc : (tk,ov,g3) = b ∧ e0 = true ∧ e1 = true ∧ e2 = true ∧ 0 ≤ n2 ∧ n3 = q ∧ 0 ≤ n3
 ·rw [if_pos hc] at h
  obtain rfl:=Option.some.inj h
  obtain ⟨rfl,rfl,rfl,rfl,hn2,rfl,hn3⟩:=hc
  have p5 : (n2 < 0) = False:=eq_false (by omega)
  have p6 : (n3 < 0) = False:=eq_false (by omega)
  have HTN:=mk_ (fun W h1 h2 h3 => laws_toNet.calls k a0_0 A0_1 c0_1 l0_1 A0_2 c0_2 l0_2 A0_3 c0_3 l0_3 n cs hs vs W h1 hc0_1 h2 hc0_2 h3 hc0_3 hTN)
  have HTH:=mk_ (fun W hC => laws_toHopS.calls k A1 c1 l1 l W hC hc1 hTH)
  have HSP:=mk_ (fun B1 d1 B2 d2 B3 d3 B4 d4 W g1 q1 g2 q2 g3_ q3 g4 q4 => spec_RunNet.calls n B1 d1 cs B2 d2 hs B3 d3 vs B4 d4 l tk ov g3 W g1 q1 g2 q2 g3_ q3 g4 q4 hS)
  have HIM:=mk_ (fun B1 d1 B2 d2 B3 d3 B4 d4 W g1 q1 g2 q2 g3_ q3 g4 q4 => run_apart n B1 d1 cs B2 d2 hs B3 d3 vs B4 d4 l tk ov g3 W g1 q1 g2 q2 g3_ q3 g4 q4 hA)
  have HEL:=mk_ (fun B1 d1 B2 d2 B3 d3 B4 d4 W g1 q1 g2 q2 g3_ q3 g4 q4 => laws_eqSent.calls k B1 d1 tk B2 d2 ov B3 d3 tk B4 d4 ov true W g1 q1 g2 q2 g3_ q3 g4 q4 hE0)
  have HEN:=mk_ (fun B1 d1 B2 d2 B3 d3 B1' d1' B2' d2' B3' d3' W g1 q1 g2 q2 g3_ q3 g4 q4 g5 q5 g6 q6 => laws_eqNet.calls k n B1 d1 cs B2 d2 hs B3 d3 vs n B1' d1' cs B2' d2' hs B3' d3' vs true W g1 q1 g2 q2 g3_ q3 g4 q4 g5 q5 g6 q6 hE1)
  have HEH:=mk_ (fun B1 d1 B2 d2 W g1 q1 g2 q2 => laws_eqHopS.calls k B1 d1 l B2 d2 l true W g1 q1 g2 q2 hE2)
  have HMN:=mk_ (fun P1 u1 P2 u2 P3 u3 U W hB h1 h2 ha h3 hb => laws_markNet.calls k n P1 u1 cs P2 u2 hs P3 u3 vs 1 n1 y1 y2 y3 U W hB h1 h2 ha h3 hb hM1)
  have HMH:=mk_ (fun P v U W hB hS => laws_markHopS.calls k P v l n1 n2 y4 U W hB hS hM2)
  have HMS:=mk_ (fun P v Q v' U W hB h1 h2 ha => laws_markSent.calls P v tk Q v' ov 1 n3 zt zo U W hB h1 h2 ha hM3)
  have HHL:=mk_ (fun B1 d1 B2 d2 W g1 q1 g2 q2 => laws_heldSent.calls k B1 d1 zt B2 d2 zo 1 n3 W g1 q1 g2 q2 hH)
  clear hr0_1 hr0_2 hr0_3 hr1 ct cu hT hU hb0 hTN hTH hS hA hE0 hE1 hE2 hM1 hM2 hM3 hH hn2 hn3
  go_enter Try.func7,Try.ntmps7
  go_wp2_with fail
  refine HSZ.out.mono ?_
  rintro e w1 ⟨rfl,hd1⟩
  have HB1:=mk_ (st_ HB0.out hd1)
  replace HN0:=mk_ (blk_below HN0.out hd1)
  clear hd1 m0 m1 m2 m3 HSZ
  go_wp2_with fail
  refine (HSH.out w1 (cb_ HR4.out HB1.out)).mono ?_
  rintro e w2 ⟨rfl,hd2⟩
  have HB2:=mk_ (st_ HB1.out hd2.below)
  replace HN0:=mk_ (blk_below HN0.out hd2.below)
  obtain ⟨m0,m1,m2,m3⟩:=cell4 HN0.out
  clear hd2 HSH HB1
  go_wp2_with fail
  refine (HTN.out w2 (cb_ HR1.out HB2.out) (cb_ HR2.out HB2.out) (cb_ HR3.out HB2.out)).mono ?_
  rintro e w3 ⟨v1,v2,v3,rfl,h1,h2,h3,hb3⟩
  obtain ⟨B1,d1,rfl⟩:=Kd.R_slice h1
  obtain ⟨B2,d2,rfl⟩:=Kd.R_slice h2
  obtain ⟨B3,d3,rfl⟩:=Kd.R_slice h3
  have HB3:=mk_ (st_ HB2.out hb3)
  replace HN0:=mk_ (blk_below HN0.out hb3)
  have H1:=mk_ (rr_ h1).2
  have H2:=mk_ (rr_ h2).2
  have H3:=mk_ (rr_ h3).2
  clear h1 h2 h3 hb3 HB2 m0 m1 m2 m3
  go_wp2_with fail
  refine (HTH.out w3 (cb_ HR4.out HB3.out)).mono ?_
  rintro e w4 ⟨v4,rfl,h4,hb4⟩
  obtain ⟨B4,d4,rfl⟩:=Kd.R_slice h4
  have HB4:=mk_ (st_ HB3.out hb4)
  replace HN0:=mk_ (blk_below HN0.out hb4)
  have H4:=mk_ (rr_ h4).2
  replace H1:=mk_ (And.intro H1.out.1 (cb_ H1.out.2 hb4))
  replace H2:=mk_ (And.intro H2.out.1 (cb_ H2.out.2 hb4))
  replace H3:=mk_ (And.intro H3.out.1 (cb_ H3.out.2 hb4))
  clear h4 hb4 HB3
  go_wp2_with fail
  refine (HSP.out _ _ _ _ _ _ _ _ w4 H1.out.2 H1.out.1 H2.out.2 H2.out.1 H3.out.2 H3.out.1 H4.out.2 H4.out.1).mono ?_
  rintro e w5 ⟨vt,vo,rfl,ht,ho,hb5⟩
  obtain ⟨Aw,cw,rfl⟩:=Kd.S_slice ht
  obtain ⟨Aw',cw',rfl⟩:=Kd.S_slice ho
  have hbU:=ba_ (Below.refl _ w5) (.cells #[.slice Aw tk.length cw,.slice Aw' ov.length cw'] 32)
  have HBU:=mk_ (st_ (st_ HB4.out hb5) hbU)
  have HK6:=mk_ (blk_new w5 (.cells #[.slice Aw tk.length cw,.slice Aw' ov.length cw'] 32))
  have HCW:=mk_ (ca_ (Kd.S_reads' ht).2.2 (.cells #[.slice Aw tk.length cw,.slice Aw' ov.length cw'] 32))
  have HLW:=mk_ (Kd.S_reads' ht).2.1
  have HCO:=mk_ (ca_ (Kd.S_reads' ho).2.2 (.cells #[.slice Aw tk.length cw,.slice Aw' ov.length cw'] 32))
  have HLO:=mk_ (Kd.S_reads' ho).2.1
  have HU1:=mk_ (cb_ HR1.out HBU.out)
  have HU2:=mk_ (cb_ HR2.out HBU.out)
  have HU3:=mk_ (cb_ HR3.out HBU.out)
  have HU4:=mk_ (cb_ HR4.out HBU.out)
  replace HN0:=mk_ (blk_below (blk_below HN0.out hb5) hbU)
  clear ht ho hb5 hbU HB4 H1 H2 H3 H4 HR1 HR2 HR3 HR4
  obtain ⟨m0,m1,m2,m3⟩:=cell4 HN0.out
  go_wp2_with fail
  refine (HTN.out _ HU1.out HU2.out HU3.out).mono ?_
  rintro e w6 ⟨v1,v2,v3,rfl,h1,h2,h3,hb6⟩
  obtain ⟨X1,x1,rfl⟩:=Kd.R_slice h1
  obtain ⟨X2,x2,rfl⟩:=Kd.R_slice h2
  obtain ⟨X3,x3,rfl⟩:=Kd.R_slice h3
  generalize w5.alloc (.cells #[.slice Aw tk.length cw,.slice Aw' ov.length cw'] 32) = U at HBU HK6 HCW HCO HU1 HU2 HU3 HU4 HN0 m0 m1 m2 m3 h1 h2 h3 hb6
  generalize w5.heap.size = b6 at HK6 ⊢
  have hba:=ba_ (Below.refl _ w6) (.cells #[.int .i64 n,.slice X1 cs.length x1,.slice X2 hs.length x2,.slice X3 vs.length x3] 26)
  have HK8:=mk_ (blk_new w6 (.cells #[.int .i64 n,.slice X1 cs.length x1,.slice X2 hs.length x2,.slice X3 vs.length x3] 26))
  have HG1:=mk_ (rb_ (rm_ (R_rngI h1) (ok':=fun k => k < w6.heap.size) (fun k hk => hk.2.2)) hba)
  have HG2:=mk_ (rb_ (rm_ (R_rngI (Kd.R_tight2 rfl h2)) (ok':=fun k => (some k = (Value.slice X2 hs.length x2).ownBlock ∧ some k ≠ (Value.slice X3 vs.length x3).ownBlock) ∧ k < w6.heap.size) (fun k hk => ⟨hk.1,hk.2.2⟩)) hba)
  have HG3:=mk_ (rb_ (rm_ (R_rngI (Kd.R_tight2 rfl h3)) (ok':=fun k => (some k = (Value.slice X3 vs.length x3).ownBlock ∧ some k ≠ (Value.slice X2 hs.length x2).ownBlock) ∧ k < w6.heap.size) (fun k hk => ⟨hk.1,hk.2.2⟩)) hba)
  have HB6:=mk_ (st_ hb6 hba)
  have HS6:=mk_ hba.size
  clear h1 h2 h3 hb6 hba m0 m1 m2 m3
  go_wp2_with fail
  refine (HTH.out _ (cb_ HU4.out HB6.out)).mono ?_
  rintro e w7 ⟨v4,rfl,h4,hb7⟩
  obtain ⟨X4,x4,rfl⟩:=Kd.R_slice h4
  replace HK8:=mk_ (blk_below HK8.out hb7)
  replace HG1:=mk_ (rb_ HG1.out hb7)
  replace HG2:=mk_ (rb_ HG2.out hb7)
  replace HG3:=mk_ (rb_ HG3.out hb7)
  have HG4:=mk_ (rm_ (Kd.R_lower (R_rngI h4) HB6.out.size) (ok':=fun k => w6.heap.size ≤ k ∧ k < w7.heap.size) (fun k hk => ⟨Nat.le_trans HS6.out hk.2.1,hk.2.2⟩))
  replace HB6:=mk_ (st_ HB6.out hb7)
  have HS7:=mk_ (Nat.le_trans HS6.out hb7.size)
  clear h4 hb7 HS6
  generalize w6.heap.size = p1_ at HK8 HG1 HG2 HG3 HG4 HS7 ⊢
  obtain ⟨i0,i1,i2,i3⟩:=cell4 HK8.out
  go_wp2_with fail
  refine (HIM.out _ _ _ _ _ _ _ _ w7 (rr_ HG1.out).2.2 (rr_ HG1.out).2.1 (rr_ HG2.out).2.2 (rr_ HG2.out).2.1 (rr_ HG3.out).2.2 (rr_ HG3.out).2.1 (rr_ HG4.out).2.2 (rr_ HG4.out).2.1).mono ?_
  rintro e w8 ⟨vt,vo,P,Q,rfl,hap,ht,ho,hb8⟩
  obtain ⟨Ag,cg,rfl⟩:=Kd.S_slice ht
  obtain ⟨Ao,co,rfl⟩:=Kd.S_slice ho
  have hba:=ba_ (Below.refl _ w8) (.cells #[.slice Ag tk.length cg,.slice Ao ov.length co] 32)
  have HXD : Aside0 (XD 3 24 U (w8.alloc (.cells #[.slice Ag tk.length cg,.slice Ao ov.length co] 32)) w7.heap.size (fun k => P k ∧ w7.heap.size ≤ k ∧ k < w8.heap.size) (fun k => Q k ∧ w7.heap.size ≤ k ∧ k < w8.heap.size) (.slice Ag tk.length cg) (.slice Ao ov.length co) tk ov w8.heap.size (.cells #[.slice Ag tk.length cg,.slice Ao ov.length co] 32)) :=
   ⟨st_ (st_ HB6.out hb8) hba,fun k h1 h2 => hap k h1.1 h2.1,fun k hk => by omega,hb8.size,Kd.S_lower (Kd.S_below (S_rngI ht) hba) HB6.out.size,Kd.S_lower (Kd.S_below (S_rngI ho) hba) HB6.out.size,blk_new w8 (.cells #[.slice Ag tk.length cg,.slice Ao ov.length co] 32)⟩
  have HXR : Aside0 (XR 83 3 37 U (w8.alloc (.cells #[.slice Ag tk.length cg,.slice Ao ov.length co] 32)) p1_ w7.heap.size (fun k => (some k = (Value.slice X2 hs.length x2).ownBlock ∧ some k ≠ (Value.slice X3 vs.length x3).ownBlock) ∧ k < p1_) (fun k => (some k = (Value.slice X3 vs.length x3).ownBlock ∧ some k ≠ (Value.slice X2 hs.length x2).ownBlock) ∧ k < p1_) (.slice X1 cs.length x1) (.slice X2 hs.length x2) (.slice X3 vs.length x3) (.slice X4 l.length x4) cs hs vs l p1_ (.cells #[.int .i64 n,.slice X1 cs.length x1,.slice X2 hs.length x2,.slice X3 vs.length x3] 26)) :=
   ⟨fun k h1 h2 => h1.1.2 h2.1.1,fun k h => h.2,fun k h => h.2,rb_ (rb_ HG1.out hb8) hba,rb_ (rb_ HG2.out hb8) hba,rb_ (rb_ HG3.out hb8) hba,rb_ (rb_ HG4.out hb8) hba,blk_below (blk_below HK8.out hb8) hba⟩
  clear hap ht ho hb8 hba HK8 HG1 HG2 HG3 HG4 HB6 i0 i1 i2 i3
  generalize (fun k => (some k = (Value.slice X2 hs.length x2).ownBlock ∧ some k ≠ (Value.slice X3 vs.length x3).ownBlock) ∧ k < p1_) = P2_ at HXR
  generalize (fun k => (some k = (Value.slice X3 vs.length x3).ownBlock ∧ some k ≠ (Value.slice X2 hs.length x2).ownBlock) ∧ k < p1_) = P3_ at HXR
  generalize (fun k => P k ∧ w7.heap.size ≤ k ∧ k < w8.heap.size) = Pt_ at HXD
  generalize (fun k => Q k ∧ w7.heap.size ≤ k ∧ k < w8.heap.size) = Po_ at HXD
  generalize w7.heap.size = pg_ at HXD HXR HS7
  obtain ⟨i0,i1⟩:=cell2 HXD.out.bx
  obtain ⟨j0,j1⟩:=cell2 (blk_below HK6.out HXD.out.bel)
  go_wp2_with fail
  refine (HEL.out _ _ _ _ _ _ _ _ _ (Kd.S_reads' HXD.out.st).2.2 (Kd.S_reads' HXD.out.st).2.1 (Kd.S_reads' HXD.out.so).2.2 (Kd.S_reads' HXD.out.so).2.1 (cb_ HCW.out HXD.out.bel) HLW.out (cb_ HCO.out HXD.out.bel) HLO.out).mono ?_
  rintro e w9 ⟨rfl,hb9⟩
  replace HXD:=mk_ (HXD.out.below hb9)
  replace HXR:=mk_ (HXR.out.below hb9)
  clear i0 i1 j0 j1 hb9
  generalize w8.heap.size = bx_ at HXD ⊢
  go_upto_region 14 with (fail)
  generalize p1_ = b8 at *
  obtain ⟨i0z,i1z,i2z,i3z⟩:=cell4 HXR.out.b8
  obtain ⟨m0z,m1z,m2z,m3z⟩:=cell4 (blk_below HN0.out HXD.out.bel)
  refine start_ (n:=5) (S:=fun w' => w'.cell? ⟨b8,0,none⟩ = some (.int .i64 n) ∧ w'.cell? ⟨b8,1,none⟩ = some (.slice X1 cs.length x1) ∧ w'.cell? ⟨b8,2,none⟩ = some (.slice X2 hs.length x2) ∧ w'.cell? ⟨b8,3,none⟩ = some (.slice X3 vs.length x3) ∧ w'.cell? ⟨w.heap.size,0,none⟩ = some (.int .i64 a0_0) ∧ w'.cell? ⟨w.heap.size,1,none⟩ = some (.slice A0_1 l0_1.length c0_1) ∧ w'.cell? ⟨w.heap.size,2,none⟩ = some (.slice A0_2 l0_2.length c0_2) ∧ w'.cell? ⟨w.heap.size,3,none⟩ = some (.slice A0_3 l0_3.length c0_3)) (ds:=[]) #[false,false,false,false,false] (by kernel_rfl) rfl rfl ⟨i0z,i1z,i2z,i3z,m0z,m1z,m2z,m3z⟩ (fun hHeld => ?_)
  refine ta8_ (i:=0) (N:=some 54) 5 1 hHeld ?_
  refine ta8_ (i:=1) (N:=some 55) 5 3 hHeld ?_
  refine on_ (i:=2) (N:=some 56) 5 7 (fun K hK => ?_)
  refine goes_ Try.func19 (by kernel_rfl) rfl #[.agg #[.int .i64 a0_0,.slice A0_1 l0_1.length c0_1,.slice A0_2 l0_2.length c0_2,.slice A0_3 l0_3.length c0_3]] (by rfl) rfl rfl (by simp only [List.map_toArray,List.map_cons,List.map_nil];rfl) ?_
  with_reducible refine (HTN.out _ (cd_ (cb_ HU1.out HXD.out.bel)) (cd_ (cb_ HU2.out HXD.out.bel)) (cd_ (cb_ HU3.out HXD.out.bel))).mono ?_
  rintro e w10 ⟨y1_,y2_,y3_,rfl,h1,h2,h3,hb10⟩
  refine ⟨_,rfl,?_⟩
  obtain ⟨Y1,y1,rfl⟩:=Kd.R_slice h1
  obtain ⟨Y2,y2,rfl⟩:=Kd.R_slice h2
  obtain ⟨Y3,y3,rfl⟩:=Kd.R_slice h3
  have hd10:=st_ (below_drew (Below.refl w9.heap.size w9)) hb10
  replace HXD:=mk_ (HXD.out.below hd10)
  replace HXR:=mk_ (HXR.out.below hd10)
  have H1:=mk_ (rr_ h1).2
  have H2:=mk_ (rr_ h2).2
  have H3:=mk_ (rr_ h3).2
  clear h1 h2 h3 hb10 hd10
  obtain ⟨i0a,i1a,i2a,i3a⟩:=cell4 HXR.out.b8
  obtain ⟨m0a,m1a,m2a,m3a⟩:=cell4 (blk_below HN0.out HXD.out.bel)
  refine hK.out _ _ ⟨i0a,i1a,i2a,i3a,m0a,m1a,m2a,m3a⟩ (fun hHeld => ?_)
  clear hK K
  refine norm_ (a':=?_) ?_ ?_
  rotate_left
  ·show Act.put _ (some 56) _ = _
   simp only [Act.put,sx_,sy_,sz_,i64_w,i32_w]
   rfl
  refine on_ (i:=3) (N:=some 57) 5 15 (fun K hK => ?_)
  refine goes_ Try.func22 (by kernel_rfl) rfl #[.agg #[.int .i64 n,.slice X1 cs.length x1,.slice X2 hs.length x2,.slice X3 vs.length x3],.agg #[.int .i64 n,.slice Y1 cs.length y1,.slice Y2 hs.length y2,.slice Y3 vs.length y3]] (by rfl) rfl rfl (by simp only [List.map_toArray,List.map_cons,List.map_nil];rfl) ?_
  with_reducible refine (HEN.out _ _ _ _ _ _ _ _ _ _ _ _ w10 (rr_ HXR.out.r1).2.2 (rr_ HXR.out.r1).2.1 (rr_ HXR.out.r2).2.2 (rr_ HXR.out.r2).2.1 (rr_ HXR.out.r3).2.2 (rr_ HXR.out.r3).2.1 H1.out.2 H1.out.1 H2.out.2 H2.out.1 H3.out.2 H3.out.1).mono ?_
  rintro e w11 ⟨rfl,hb11⟩
  refine ⟨_,rfl,?_⟩
  replace HXD:=mk_ (HXD.out.below hb11)
  replace HXR:=mk_ (HXR.out.below hb11)
  clear hb11 H1 H2 H3
  obtain ⟨i0b,i1b,i2b,i3b⟩:=cell4 HXR.out.b8
  obtain ⟨m0b,m1b,m2b,m3b⟩:=cell4 (blk_below HN0.out HXD.out.bel)
  refine hK.out _ _ ⟨i0b,i1b,i2b,i3b,m0b,m1b,m2b,m3b⟩ (fun hHeld => ?_)
  clear hK K
  refine norm_ (a':=?_) ?_ ?_
  rotate_left
  ·show Act.put _ (some 57) _ = _
   simp only [Act.put,sx_,sy_,sz_,i64_w,i32_w]
   rfl
  refine pu_ (i:=4) (N:=some 58) 5 31 ?_
  refine done_ (by kernel_rfl) ?_

  clear i0z i1z i2z i3z m0z m1z m2z m3z i0a i1a i2a i3a m0a m1a m2a m3a i0b i1b i2b i3b m0b m1b m2b m3b
  go_wp2_with fail
  refine (HTH.out _ (cb_ HU4.out HXD.out.bel)).mono ?_
  rintro e w12 ⟨v4,rfl,h4,hb12⟩
  obtain ⟨Y4,y4_,rfl⟩:=Kd.R_slice h4
  replace HXD:=mk_ (HXD.out.below hb12)
  replace HXR:=mk_ (HXR.out.below hb12)
  have H4:=mk_ (rr_ h4).2
  clear h4 hb12
  go_wp2_with fail
  refine (HEH.out _ _ _ _ w12 (rr_ HXR.out.r4).2.2 (rr_ HXR.out.r4).2.1 H4.out.2 H4.out.1).mono ?_
  rintro e w13 ⟨rfl,hb13⟩
  replace HXD:=mk_ (HXD.out.below hb13)
  replace HXR:=mk_ (HXR.out.below hb13)
  obtain ⟨i0,i1,i2,i3⟩:=cell4 HXR.out.b8
  clear hb13 H4
  go_wp2_with fail
  refine (HMN.out _ _ _ _ _ _ U w13 HXD.out.bel HXR.out.r1 HXR.out.r2 HXR.out.ap HXR.out.r3 (fun k h1 h2 => HXR.out.ap k h2 h1)).mono ?_
  rintro e w14 ⟨rfl,_,_,_,hb14,hk14⟩
  have hs14 : ∀ k,(k < b8 ∨ P2_ k ∨ P3_ k) → k < b8:=fun k hk => hk.elim id (fun h => h.elim (HXR.out.a2 k) (HXR.out.a3 k))
  replace HXD:=mk_ (HXD.out.kept hk14 (fun k hk => Nat.lt_of_lt_of_le (hs14 k hk) HS7.out) hb14)
  have HL4:=mk_ (Kd.R_kept HXR.out.r4 hk14 (fun k hk h2 => by have:=hs14 k h2;omega))
  clear hb14 hk14 hs14 HXR i0 i1 i2 i3 HMN HEN HEH
  go_wp2_with fail
  refine (HMH.out _ _ U w14 HXD.out.bel HL4.out).mono ?_
  rintro e w15 ⟨rfl,_,hb15,hk15⟩
  replace HXD:=mk_ (HXD.out.kept hk15 (fun k hk => hk.2) hb15)
  clear hb15 hk15 HL4 HMH
  obtain ⟨i0,i1⟩:=cell2 HXD.out.bx
  obtain ⟨j0,j1⟩:=cell2 (blk_below HK6.out HXD.out.bel)
  go_wp2_with fail
  refine (HEL.out _ _ _ _ _ _ _ _ _ (Kd.S_reads' HXD.out.st).2.2 (Kd.S_reads' HXD.out.st).2.1 (Kd.S_reads' HXD.out.so).2.2 (Kd.S_reads' HXD.out.so).2.1 (cb_ HCW.out HXD.out.bel) HLW.out (cb_ HCO.out HXD.out.bel) HLO.out).mono ?_
  rintro e w16 ⟨rfl,hb16⟩
  replace HXD:=mk_ (HXD.out.below hb16)
  clear i0 i1 j0 j1 hb16
  obtain ⟨i0,i1⟩:=cell2 HXD.out.bx
  go_wp2_with fail
  refine (HMS.out _ _ _ _ U w16 HXD.out.bel HXD.out.st HXD.out.so HXD.out.ap).mono ?_
  rintro e w17 ⟨rfl,h1,h2,hb17,hk17⟩
  have hlt:=(Kd.S_reads' h1).1
  have hlo:=(Kd.S_reads' h2).1
  have HBX:=mk_ (blk_kept HXD.out.bx hk17 (fun hk => by have:=(HXD.out.lo bx_ hk).2;omega))
  have HBL:=mk_ hb17
  have HZ1:=mk_ (Kd.S_reads' h1).2
  have HZ2:=mk_ (Kd.S_reads' h2).2
  rw [← hlt] at HZ1
  rw [← hlo] at HZ2
  have HH:=HHL.out Ag cg Ao co
  rw [← hlt,← hlo] at HH
  have HHX:=mk_ HH
  clear hlt hlo h1 h2 hb17 hk17 HH HMS HHL HXD i0 i1
  obtain ⟨i0,i1⟩:=cell2 HBX.out
  go_wp2_with fail
  refine (HHX.out w17 HZ1.out.2 HZ1.out.1 HZ2.out.2 HZ2.out.1).mono ?_
  rintro e w18 ⟨rfl,hb18⟩
  replace HBL:=mk_ (st_ HBL.out hb18)
  replace HBX:=mk_ (blk_below HBX.out hb18)
  replace HZ1:=mk_ (And.intro HZ1.out.1 (cb_ HZ1.out.2 hb18))
  replace HZ2:=mk_ (And.intro HZ2.out.1 (cb_ HZ2.out.2 hb18))
  obtain ⟨m0,m1,m2,m3⟩:=cell4 (blk_below HN0.out HBL.out)
  clear i0 i1 hb18
  go_wp2_with fail
  refine (HTN.out w18 (cb_ HU1.out HBL.out) (cb_ HU2.out HBL.out) (cb_ HU3.out HBL.out)).mono ?_
  rintro e w19 ⟨v1,v2,v3,rfl,h1,h2,h3,hb19⟩
  obtain ⟨B1,d1,rfl⟩:=Kd.R_slice h1
  obtain ⟨B2,d2,rfl⟩:=Kd.R_slice h2
  obtain ⟨B3,d3,rfl⟩:=Kd.R_slice h3
  replace HBL:=mk_ (st_ HBL.out hb19)
  replace HBX:=mk_ (blk_below HBX.out hb19)
  replace HZ1:=mk_ (And.intro HZ1.out.1 (cb_ HZ1.out.2 hb19))
  replace HZ2:=mk_ (And.intro HZ2.out.1 (cb_ HZ2.out.2 hb19))
  have H1:=mk_ (rr_ h1).2
  have H2:=mk_ (rr_ h2).2
  have H3:=mk_ (rr_ h3).2
  clear h1 h2 h3 hb19 m0 m1 m2 m3
  go_wp2_with fail
  refine (HTH.out w19 (cb_ HU4.out HBL.out)).mono ?_
  rintro e w20 ⟨v4,rfl,h4,hb20⟩
  obtain ⟨B4,d4,rfl⟩:=Kd.R_slice h4
  replace HBL:=mk_ (st_ HBL.out hb20)
  replace HBX:=mk_ (blk_below HBX.out hb20)
  replace HZ1:=mk_ (And.intro HZ1.out.1 (cb_ HZ1.out.2 hb20))
  replace HZ2:=mk_ (And.intro HZ2.out.1 (cb_ HZ2.out.2 hb20))
  have H4:=mk_ (rr_ h4).2
  replace H1:=mk_ (And.intro H1.out.1 (cb_ H1.out.2 hb20))
  replace H2:=mk_ (And.intro H2.out.1 (cb_ H2.out.2 hb20))
  replace H3:=mk_ (And.intro H3.out.1 (cb_ H3.out.2 hb20))
  clear h4 hb20
  go_wp2_with fail
  refine (HIM.out _ _ _ _ _ _ _ _ w20 H1.out.2 H1.out.1 H2.out.2 H2.out.1 H3.out.2 H3.out.1 H4.out.2 H4.out.1).mono ?_
  rintro e w21 ⟨vt,vo,P',Q',rfl,_,ht,ho,hb21⟩
  obtain ⟨Ah,ch,rfl⟩:=Kd.S_slice ht
  obtain ⟨Ah',ch',rfl⟩:=Kd.S_slice ho
  have hba:=ba_ (Below.refl _ w21) (.cells #[.slice Ah tk.length ch,.slice Ah' ov.length ch'] 32)
  replace hb21:=st_ hb21 hba
  replace HBL:=mk_ (st_ HBL.out hb21)
  replace HBX:=mk_ (blk_below HBX.out hb21)
  replace HZ1:=mk_ (And.intro HZ1.out.1 (cb_ HZ1.out.2 hb21))
  replace HZ2:=mk_ (And.intro HZ2.out.1 (cb_ HZ2.out.2 hb21))
  have H5:=mk_ (And.intro (Kd.S_reads' ht).2.1 (cb_ (Kd.S_reads' ht).2.2 hba))
  have H6:=mk_ (And.intro (Kd.S_reads' ho).2.1 (cb_ (Kd.S_reads' ho).2.2 hba))
  obtain ⟨i0,i1⟩:=cell2 (blk_new w21 (.cells #[.slice Ah tk.length ch,.slice Ah' ov.length ch'] 32))
  obtain ⟨j0,j1⟩:=cell2 (blk_below HK6.out HBL.out)
  clear ht ho hb21 hba H1 H2 H3 H4 HTN HTH HIM
  go_wp2_with fail
  refine (HEL.out _ _ _ _ _ _ _ _ _ H5.out.2 H5.out.1 H6.out.2 H6.out.1 (cb_ HCW.out HBL.out) HLW.out (cb_ HCO.out HBL.out) HLO.out).mono ?_
  rintro e w22 ⟨rfl,hb22⟩
  replace HBL:=mk_ (st_ HBL.out hb22)
  replace HBX:=mk_ (blk_below HBX.out hb22)
  replace HZ1:=mk_ (And.intro HZ1.out.1 (cb_ HZ1.out.2 hb22))
  replace HZ2:=mk_ (And.intro HZ2.out.1 (cb_ HZ2.out.2 hb22))
  clear i0 i1 j0 j1 hb22
  obtain ⟨i0,i1⟩:=cell2 HBX.out
  go_wp2_with fail
  refine (HHX.out w22 HZ1.out.2 HZ1.out.1 HZ2.out.2 HZ2.out.1).mono ?_
  rintro e w23 ⟨rfl,hb23⟩
  go_wp2
  go_ret
  exact ⟨by first|rfl|simp,st_ HBU.out (st_ HBL.out hb23)⟩
 ·rw [if_neg hc] at h
  cases h

/-- The pure statement of laws_FnExactRunNet. -/
def laws_FnExactRunNet.Pure : Prop:=∀ (a0_0 : Int) (l0_1 : List (S117)) (l0_2 : List Int) (l0_3 : List Int) (l1 : List (S88)),(Lit.int .i64 a0_0).wf = true → (l0_1.length ≤ maxLen ∧ ∀ y0 ∈ l0_1,((Lit.int .i64 y0.f0).wf = true ∧ ((Lit.int .i64 y0.f1).wf = true ∧ (Lit.int .i64 y0.f2).wf = true))) → (l0_2.length ≤ maxLen ∧ ∀ y0 ∈ l0_2,(Lit.int .i64 y0).wf = true) → (l0_3.length ≤ maxLen ∧ ∀ y0 ∈ l0_3,(Lit.int .i64 y0).wf = true) → (l1.length ≤ maxLen ∧ ∀ y0 ∈ l1,((Lit.int .i64 y0.f0).wf = true ∧ ((Lit.int .i64 y0.f1).wf = true ∧ (Lit.int .i64 y0.f2).wf = true))) → ∃ k,laws_FnExactRunNet.f k a0_0 l0_1 l0_2 l0_3 l1 = some true
theorem laws_FnExactRunNet.walk (P : laws_FnExactRunNet.Pure) (a0_0 : Int) (A0_1 : Option Addr) (c0_1 : Nat) (l0_1 : List (S117)) (A0_2 : Option Addr) (c0_2 : Nat) (l0_2 : List Int) (A0_3 : Option Addr) (c0_3 : Nat) (l0_3 : List Int) (A1 : Option Addr) (c1 : Nat) (l1 : List (S88)) (w : World) (w0_0 : (Lit.int .i64 a0_0).wf = true) (hr0_1 : Kd.C k117 w A0_1 l0_1.length l0_1) (hc0_1 : l0_1.length ≤ c0_1) (hm0_1 : (l0_1.length ≤ maxLen ∧ ∀ y0 ∈ l0_1,((Lit.int .i64 y0.f0).wf = true ∧ ((Lit.int .i64 y0.f1).wf = true ∧ (Lit.int .i64 y0.f2).wf = true)))) (hr0_2 : Kd.C (Kd.int .i64) w A0_2 l0_2.length l0_2) (hc0_2 : l0_2.length ≤ c0_2) (hm0_2 : (l0_2.length ≤ maxLen ∧ ∀ y0 ∈ l0_2,(Lit.int .i64 y0).wf = true)) (hr0_3 : Kd.C (Kd.int .i64) w A0_3 l0_3.length l0_3) (hc0_3 : l0_3.length ≤ c0_3) (hm0_3 : (l0_3.length ≤ maxLen ∧ ∀ y0 ∈ l0_3,(Lit.int .i64 y0).wf = true)) (hr1 : Kd.C k88 w A1 l1.length l1) (hc1 : l1.length ≤ c1) (hm1 : (l1.length ≤ maxLen ∧ ∀ y0 ∈ l1,((Lit.int .i64 y0.f0).wf = true ∧ ((Lit.int .i64 y0.f1).wf = true ∧ (Lit.int .i64 y0.f2).wf = true)))) :
  Calls Try.prog 7 #[.agg #[.int .i64 a0_0,.slice A0_1 l0_1.length c0_1,.slice A0_2 l0_2.length c0_2,.slice A0_3 l0_3.length c0_3],.slice A1 l1.length c1] w fun e w' => e = .returned (.bool true) ∧ Below w.heap.size w w':=by
 obtain ⟨k,h⟩:=P a0_0 l0_1 l0_2 l0_3 l1 w0_0 hm0_1 hm0_2 hm0_3 hm1
 refine (laws_FnExactRunNet.calls k a0_0 _ _ l0_1 _ _ l0_2 _ _ l0_3 _ _ l1 true _ hr0_1 hc0_1 hr0_2 hc0_2 hr0_3 hc0_3 hr1 hc1 h).mono ?_
 rintro e w' ⟨rfl,hd⟩
 exact ⟨rfl,hd⟩

-- LIB way3
theorem filM_asc (p : Int → Bool) (d : Nat) : ∀ i,(filM p d i).Pairwise (· < ·):=by
 induction d with
 | zero => exact fun _ => List.Pairwise.nil
 | succ d ih =>
  intro i
  rw [filM]
  split
  ·exact List.Pairwise.cons (fun x hx => by have:=((filM_mem p d (i + 1) x).1 hx).1;omega) (ih (i + 1))
  ·exact ih (i + 1)
def wayB (N : Nat) (cs : List S83) (a b : Nat) (i : Int) : Bool:=hasL (upsL N cs a) i != hasL (upsL N cs b) i
def wayX (n : Int) (cs : List S83) (hs vs : List Int) (a b : Int) : List Int:=if netB n cs hs vs = true ∧ (0 ≤ a ∧ a < hs.length) ∧ (0 ≤ b ∧ b < hs.length) ∧ rd (rootsL n.toNat cs) (rd hs a) = rd (rootsL n.toNat cs) (rd hs b) then filM (wayB n.toNat cs (rd hs a).toNat (rd hs b).toNat) cs.length 0 else []
theorem filM_mem0 (p : Int → Bool) (M : Nat) (x : Int) : x ∈ filM p M 0 ↔ 0 ≤ x ∧ x < M ∧ p x = true:=by
 have:=filM_mem p M 0 x
 rw [this]
 constructor
 ·rintro ⟨h1,h2,h3⟩;exact ⟨h1,by omega,h3⟩
 ·rintro ⟨h1,h2,h3⟩;exact ⟨h1,by omega,h3⟩

-- LIB treeup
theorem treeX_up {N : Nat} {cs : List S83} (hv : cabsB (N : Int) cs = true) {x : Nat} (hx : x < N) (h0 : 0 ≤ upN N cs x) : upN N cs x ∈ treeX (N : Int) cs:=by
 unfold treeX
 rw [if_pos hv,Int.toNat_natCast]
 have hp:=tree_perm (upN N cs) N cs.length (fun x _ => (upX_lt cs _ _).2)
 refine hp.mem_iff.1 ?_
 have : ∀ (d b : Nat),b ≤ x → x < b + d → upN N cs x ∈ uL (upN N cs) d b:=by
  intro d
  induction d with
  | zero => intro b h1 h2;omega
  | succ d ih =>
   intro b h1 h2
   rw [uL]
   by_cases e : b = x
   ·subst e;rw [if_pos h0];exact List.mem_cons_self
   ·split
    ·exact List.mem_cons_of_mem _ (ih (b + 1) (by omega) (by omega))
    ·exact ih (b + 1) (by omega) (by omega)
 exact this N 0 (by omega) (by omega)

-- LIB nettree
section
variable {N : Nat} {cs : List S83}
def wL (N : Nat) (cs : List S83) (a : Nat) : List Nat:=chL (upN N cs) (nxN N cs) 50 a
theorem ups_wL (a : Nat) : upsL N cs a = (wL N cs a).map (upN N cs):=rfl
theorem wL_ch (hv : cabsB (N : Int) cs = true) {a : Nat} (ha : a < N) : ∃ r,Ch (upN N cs) (nxN N cs) a (wL N cs a) r ∧ upN N cs r < 0 ∧ r < N ∧ gD (rootsL N cs) a = (r : Int) ∧ (wL N cs a).Nodup ∧ (wL N cs a).length < N ∧ (∀ x ∈ wL N cs a,x < N ∧ 0 ≤ upN N cs x ∧ gD (rootsL N cs) x = (r : Int)):=by
 obtain ⟨w,r,h1,h2,h3,h4,h5,h6,h7,h8⟩:=way_up hv ha
 have hN:=(cabsB_facts hv).2.1
 have e : wL N cs a = w:=chL_eq h1 h2 50 (by omega)
 rw [e]
 exact ⟨r,h1,h2,h3,h4,h5,h6,h7⟩
theorem wL_root {a : Nat} (h : upN N cs a < 0) : wL N cs a = []:=by
 unfold wL
 rw [chL,if_neg (by omega)]
theorem wL_step (hv : cabsB (N : Int) cs = true) {a : Nat} (ha : a < N) (h : 0 ≤ upN N cs a) : wL N cs a = a :: wL N cs (nxN N cs a):=by
 obtain ⟨r,h1,h2,_⟩:=wL_ch hv ha
 have hn:=((upOk_of hv).up a ha h).1
 obtain ⟨r2,g1,g2,_⟩:=wL_ch hv hn
 exact (ch_det h1 (Ch.cons h g1) h2 g2).1
theorem up_inj (hv : cabsB (N : Int) cs = true) {a b : Nat} (h : 0 ≤ upN N cs a) (e : upN N cs a = upN N cs b) : a = b:=up_once2 (sound_of hv) a b h e
theorem mem_ups (hv : cabsB (N : Int) cs = true) {a x : Nat} (hx : 0 ≤ upN N cs x) : upN N cs x ∈ upsL N cs a ↔ x ∈ wL N cs a:=by
 rw [ups_wL,List.mem_map]
 constructor
 ·rintro ⟨y,hy,e⟩
  exact (up_inj hv hx e.symm) ▸ hy
 ·exact fun h => ⟨x,h,rfl⟩
theorem roots_nx (hv : cabsB (N : Int) cs = true) {a : Nat} (ha : a < N) (h : 0 ≤ upN N cs a) : gD (rootsL N cs) (nxN N cs a) = gD (rootsL N cs) a:=by
 obtain ⟨r,h1,h2,_,h4,_⟩:=wL_ch hv ha
 have hn:=((upOk_of hv).up a ha h).1
 obtain ⟨r2,g1,g2,_,g4,_⟩:=wL_ch hv hn
 have e:=(ch_det h1 (Ch.cons h g1) h2 g2).2
 rw [h4,g4,e]
def TJ (N : Nat) (cs : List S83) (k : Int) (b o : Nat) : Prop:=∃ x,x < N ∧ 0 ≤ upN N cs x ∧ upN N cs x = k ∧ ((b = x ∧ o = nxN N cs x) ∨ (b = nxN N cs x ∧ o = x))
theorem TJ.lt (hv : cabsB (N : Int) cs = true) {k : Int} {b o : Nat} (h : TJ N cs k b o) : b < N ∧ o < N:=by
 obtain ⟨x,hx,h0,_,h⟩:=h
 have:=((upOk_of hv).up x hx h0).1
 rcases h with ⟨rfl,rfl⟩ | ⟨rfl,rfl⟩ <;> exact ⟨by assumption,by assumption⟩
theorem TJ.symm {k : Int} {b o : Nat} (h : TJ N cs k b o) : TJ N cs k o b:=by
 obtain ⟨x,hx,h0,h1,h⟩:=h
 exact ⟨x,hx,h0,h1,h.elim (fun h => Or.inr ⟨h.2,h.1⟩) (fun h => Or.inl ⟨h.2,h.1⟩)⟩
theorem TJ.root (hv : cabsB (N : Int) cs = true) {k : Int} {b o : Nat} (h : TJ N cs k b o) : gD (rootsL N cs) b = gD (rootsL N cs) o:=by
 obtain ⟨x,hx,h0,_,h⟩:=h
 have:=roots_nx hv hx h0
 rcases h with ⟨rfl,rfl⟩ | ⟨rfl,rfl⟩
 ·exact this.symm
 ·exact this
theorem TJ.cross (hv : cabsB (N : Int) cs = true) {k : Int} {b o : Nat} (h : TJ N cs k b o) : (∀ j,j ≠ k → (j ∈ upsL N cs b ↔ j ∈ upsL N cs o)) ∧ (k ∈ upsL N cs b ↔ ¬ k ∈ upsL N cs o):=by
 obtain ⟨x,hx,h0,rfl,h⟩:=h
 have hs:=wL_step hv hx h0
 have hn : x ∉ wL N cs (nxN N cs x):=by
  obtain ⟨r,_,_,_,_,hnd,_⟩:=wL_ch hv hx
  rw [hs] at hnd
  exact (List.nodup_cons.1 hnd).1
 have h1 : upN N cs x ∈ upsL N cs x:=(mem_ups hv h0).2 (by rw [hs];exact List.mem_cons_self)
 have h2 : upN N cs x ∉ upsL N cs (nxN N cs x):=fun h => hn ((mem_ups hv h0).1 h)
 have h3 : ∀ j,j ≠ upN N cs x → (j ∈ upsL N cs x ↔ j ∈ upsL N cs (nxN N cs x)):=fun j hj => by
  rw [ups_wL,ups_wL,hs,List.map_cons,List.mem_cons]
  exact ⟨fun h => h.resolve_left hj,Or.inr⟩
 rcases h with ⟨rfl,rfl⟩ | ⟨rfl,rfl⟩
 ·exact ⟨h3,⟨fun _ => h2,fun _ => h1⟩⟩
 ·exact ⟨fun j hj => (h3 j hj).symm,⟨fun h => absurd h h2,fun h => absurd h1 h⟩⟩
theorem ch_up {u : Nat → Int} {nx : Nat → Nat} {t r : Nat} {w : List Nat} (h : Ch u nx t w r) {x : Nat} (hx : x ∈ w) (h0 : 0 ≤ u (nx x)) (hr : u r < 0) : nx x ∈ w:=by
 induction h with
 | nil _ => cases hx
 | @cons t w r h1 hc ih =>
  rcases List.mem_cons.1 hx with rfl | hx
  ·cases hc with
   | nil _ => omega
   | cons _ _ => exact List.mem_cons_of_mem _ List.mem_cons_self
  ·exact List.mem_cons_of_mem _ (ih hx hr)
theorem ch_child {N : Nat} {u : Nat → Int} {nx : Nat → Nat} {c : Nat → Int} (H : UpOk N u nx c) {t r : Nat} {w : List Nat} (h : Ch u nx t w r) : t < N → ∀ x ∈ w,∀ y ∈ w,nx x = nx y → x = y:=by
 induction h with
 | nil _ => exact fun _ x hx => by cases hx
 | @cons t w r h1 hc ih =>
  intro ht x hx y hy e
  obtain ⟨h2,h3⟩:=H.up t ht h1
  obtain ⟨_,_,h4,_⟩:=ch_facts H hc h2
  rcases List.mem_cons.1 hx with e1 | hx2
  ·subst e1
   rcases List.mem_cons.1 hy with e2 | hy2
   ·exact e2.symm
   ·have h5:=h4 y hy2
    have h6:=(H.up y h5.1 h5.2.1).2
    rw [← e] at h6
    omega
  ·rcases List.mem_cons.1 hy with e2 | hy2
   ·subst e2
    have h5:=h4 x hx2
    have h6:=(H.up x h5.1 h5.2.1).2
    rw [e] at h6
    omega
   ·exact ih h2 x hx2 y hy2 e
theorem ch_pred {u : Nat → Int} {nx : Nat → Nat} {t r : Nat} {w : List Nat} (h : Ch u nx t w r) {b : Nat} (hb : b ∈ w ∨ b = r) (hne : b ≠ t) : ∃ x ∈ w,nx x = b:=by
 induction h with
 | nil _ =>
  rcases hb with hb | hb
  ·cases hb
  ·exact absurd hb hne
 | @cons t w r h1 hc ih =>
  by_cases e : b = nx t
  ·exact ⟨t,List.mem_cons_self,e.symm⟩
  ·obtain ⟨x,hx,hxe⟩:=ih (hb.imp (fun h => (List.mem_cons.1 h).resolve_left hne) id) e
   exact ⟨x,List.mem_cons_of_mem _ hx,hxe⟩
def Sep (N : Nat) (cs : List S83) (k : Int) (a b : Nat) : Prop:=¬ (k ∈ upsL N cs a ↔ k ∈ upsL N cs b)
theorem sep_one (hv : cabsB (N : Int) cs = true) {k k2 : Int} {b o o2 t : Nat} (ht : t < N) (h : TJ N cs k b o) (h2 : TJ N cs k2 b o2) (s : Sep N cs k b t) (s2 : Sep N cs k2 b t) : k = k2:=by
 have main : ∀ {k k2 : Int} {x y : Nat},x < N → 0 ≤ upN N cs x → upN N cs x = k → b = x → y < N → 0 ≤ upN N cs y → upN N cs y = k2 → b = nxN N cs y → Sep N cs k b t → Sep N cs k2 b t → False:=by
  intro k k2 x y hx hx0 hxk hbx hy hy0 hyk hby s s2
  subst hbx
  subst hxk
  subst hyk
  have hb1 : upN N cs b ∈ upsL N cs b:=(mem_ups hv hx0).2 (by rw [wL_step hv hx hx0];exact List.mem_cons_self)
  have hb2 : upN N cs b ∉ upsL N cs t:=fun h => s ⟨fun _ => h,fun _ => hb1⟩
  have hy1 : upN N cs y ∉ upsL N cs b:=by
   have hc:=(TJ.cross hv (⟨y,hy,hy0,rfl,Or.inr ⟨rfl,rfl⟩⟩ : TJ N cs (upN N cs y) (nxN N cs y) y)).2
   rw [← hby] at hc
   exact fun h => hc.1 h ((mem_ups hv hy0).2 (by rw [wL_step hv hy hy0];exact List.mem_cons_self))
  have hy2 : upN N cs y ∈ upsL N cs t:=Classical.byContradiction (fun h => s2 ⟨fun h3 => absurd h3 hy1,fun h3 => absurd h3 h⟩)
  obtain ⟨r,hc,hr,_⟩:=wL_ch hv ht
  have:=ch_up hc ((mem_ups hv hy0).1 hy2) (by rw [← hby];exact hx0) hr
  rw [← hby] at this
  exact hb2 ((mem_ups hv hx0).2 this)
 obtain ⟨x,hx,hx0,hxk,hx1⟩:=h
 obtain ⟨y,hy,hy0,hyk,hy1⟩:=h2
 rcases hx1 with ⟨e1,_⟩ | ⟨e1,_⟩ <;> rcases hy1 with ⟨e2,_⟩ | ⟨e2,_⟩
 ·rw [← hxk,← hyk,← e1,← e2]
 ·exact (main hx hx0 hxk e1 hy hy0 hyk e2 s s2).elim
 ·exact (main hy hy0 hyk e2 hx hx0 hxk e1 s2 s).elim
 ·have low : ∀ {k : Int} {x : Nat}, x < N → 0 ≤ upN N cs x → upN N cs x = k → b = nxN N cs x → Sep N cs k b t → x ∈ wL N cs t := by
   intro k x hx hx0 hxk hbx s
   subst hxk
   have hc:=(TJ.cross hv (⟨x,hx,hx0,rfl,Or.inr ⟨rfl,rfl⟩⟩ : TJ N cs (upN N cs x) (nxN N cs x) x)).2
   rw [← hbx] at hc
   have h1 : upN N cs x ∉ upsL N cs b:=fun h => hc.1 h ((mem_ups hv hx0).2 (by rw [wL_step hv hx hx0];exact List.mem_cons_self))
   exact (mem_ups hv hx0).1 (Classical.byContradiction (fun h => s ⟨fun h3 => absurd h3 h1,fun h3 => absurd h3 h⟩))
  obtain ⟨r,hc,hr,_⟩:=wL_ch hv ht
  have:=ch_child (upOk_of hv) hc ht x (low hx hx0 hxk e1 s) y (low hy hy0 hyk e2 s2) (by rw [← e1,← e2])
  rw [← hxk,← hyk,this]
theorem sep_some (hv : cabsB (N : Int) cs = true) {b t : Nat} (hb : b < N) (ht : t < N) (hr : gD (rootsL N cs) b = gD (rootsL N cs) t) (hne : b ≠ t) : ∃ k o,TJ N cs k b o ∧ Sep N cs k b t:=by
 obtain ⟨r,hc,h2,h3,h4,_,_,h7⟩:=wL_ch hv ht
 have child : (b ∈ wL N cs t ∨ b = r) → ∃ k o,TJ N cs k b o ∧ Sep N cs k b t:=fun h => by
  obtain ⟨x,hx,e⟩:=ch_pred hc h hne
  have hx1:=h7 x hx
  have hj : TJ N cs (upN N cs x) b x:=⟨x,hx1.1,hx1.2.1,rfl,Or.inr ⟨e.symm,rfl⟩⟩
  refine ⟨_,x,hj,fun hi => ?_⟩
  have h1:=(mem_ups hv hx1.2.1).2 hx
  exact (hj.cross hv).2.1 (hi.2 h1) ((mem_ups hv hx1.2.1).2 (by rw [wL_step hv hx1.1 hx1.2.1];exact List.mem_cons_self))
 by_cases h0 : 0 ≤ upN N cs b
 ·by_cases hm : b ∈ wL N cs t
  ·exact child (Or.inl hm)
  ·refine ⟨_,nxN N cs b,⟨b,hb,h0,rfl,Or.inl ⟨rfl,rfl⟩⟩,fun hi => hm ((mem_ups hv h0).1 (hi.1 ((mem_ups hv h0).2 ?_)))⟩
   rw [wL_step hv hb h0]
   exact List.mem_cons_self
 ·obtain ⟨r2,hc2,g2,g3,g4,_⟩:=wL_ch hv hb
  rw [wL_root (by omega)] at hc2
  have e : b = r:=by
   cases hc2
   rw [hr,h4] at g4
   omega
  exact child (Or.inr e)
end

-- LIB netlaw
theorem mem_uL {u : Nat → Int} (d : Nat) : ∀ b x,x ∈ uL u d b → ∃ y,b ≤ y ∧ y < b + d ∧ 0 ≤ u y ∧ u y = x:=by
 induction d with
 | zero => intro b x h;cases h
 | succ d ih =>
  intro b x h
  rw [uL] at h
  split at h
  ·rename_i h0
   rcases List.mem_cons.1 h with e | h
   ·exact ⟨b,Nat.le_refl _,by omega,h0,e.symm⟩
   ·obtain ⟨y,h1,h2,h3⟩:=ih (b + 1) x h
    exact ⟨y,by omega,by omega,h3⟩
  ·obtain ⟨y,h1,h2,h3⟩:=ih (b + 1) x h
   exact ⟨y,by omega,by omega,h3⟩
theorem uL_nodup {u : Nat → Int} (hi : ∀ x y,0 ≤ u x → u x = u y → x = y) (d : Nat) : ∀ b,(uL u d b).Nodup:=by
 induction d with
 | zero => exact fun _ => List.Pairwise.nil
 | succ d ih =>
  intro b
  rw [uL]
  split
  ·rename_i h0
   refine List.nodup_cons.2 ⟨fun h => ?_,ih _⟩
   obtain ⟨y,h1,_,_,h3⟩:=mem_uL d _ _ h
   have:=hi b y h0 h3.symm
   omega
  ·exact ih _
section
variable {N : Nat} {cs : List S83}
theorem tree_mem (hv : cabsB (N : Int) cs = true) {k : Int} (h : k ∈ treeX (N : Int) cs) : ∃ x,x < N ∧ 0 ≤ upN N cs x ∧ upN N cs x = k:=by
 unfold treeX at h
 rw [if_pos hv,Int.toNat_natCast] at h
 obtain ⟨y,_,h2,h3,h4⟩:=mem_uL N 0 k ((tree_perm (upN N cs) N cs.length (fun x _ => (upX_lt cs _ _).2)).mem_iff.2 h)
 exact ⟨y,by omega,h3,h4⟩
theorem tree_nodup (hv : cabsB (N : Int) cs = true) : (treeX (N : Int) cs).Nodup:=by
 unfold treeX
 rw [if_pos hv,Int.toNat_natCast]
 exact (tree_perm (upN N cs) N cs.length (fun x _ => (upX_lt cs _ _).2)).nodup_iff.1 (uL_nodup (fun x y h e => up_inj hv h e) N 0)
theorem tj_tree (hv : cabsB (N : Int) cs = true) {k : Int} {b o : Nat} (h : TJ N cs k b o) : k ∈ treeX (N : Int) cs:=by
 obtain ⟨x,hx,h0,rfl,_⟩:=h
 exact treeX_up hv hx h0
theorem tj_pos {k : Int} {b o : Nat} (h : TJ N cs k b o) : 0 ≤ k ∧ k < cs.length:=by
 obtain ⟨x,hx,h0,rfl,_⟩:=h
 exact ⟨h0,(upX_lt cs _ _).2⟩
theorem oth_tj (hv : cabsB (N : Int) cs = true) {k : Int} (hk : k ∈ treeX (N : Int) cs) (b : Nat) : (∃ o : Nat,othX (rd_T83 cs k) (b : Int) = some (o : Int) ∧ TJ N cs k b o) ∨ (othX (rd_T83 cs k) (b : Int) = none ∧ ∀ o : Nat,¬ TJ N cs k b o):=by
 obtain ⟨x,hx,h0,rfl⟩:=tree_mem hv hk
 obtain ⟨K,hK,k1,k2,_,k4,k5,_⟩:=up_hit (sound_of hv) x h0
 have hrd : rd_T83 cs (upN N cs x) = cs[K]:=by rw [k1];exact rdCab_get cs K hK
 rw [hrd]
 by_cases e1 : b = x
 ·subst e1
  exact Or.inl ⟨nxN N cs b,k2,b,hx,h0,rfl,Or.inl ⟨rfl,rfl⟩⟩
 ·by_cases e2 : b = nxN N cs x
  ·subst e2
   refine Or.inl ⟨x,?_,x,hx,h0,rfl,Or.inr ⟨rfl,rfl⟩⟩
   rcases oth_ends k2 with ⟨y1,y2⟩ | ⟨y1,y2⟩
   ·unfold othX
    rw [if_neg (by omega),if_pos y2,← y1]
   ·unfold othX
    rw [if_pos y2,← y1]
  ·refine Or.inr ⟨?_,fun o h => ?_⟩
   ·unfold othX
    rcases oth_ends k2 with ⟨y1,y2⟩ | ⟨y1,y2⟩
    ·rw [if_neg (by omega),if_neg (by omega)]
    ·rw [if_neg (by omega),if_neg (by omega)]
   ·obtain ⟨y,hy,hy0,hye,h⟩:=h
    obtain rfl:=up_inj hv hy0 hye
    rcases h with ⟨h,_⟩ | ⟨h,_⟩
    ·exact e1 h
    ·exact e2 h
theorem tj_oth (hv : cabsB (N : Int) cs = true) {k : Int} {b o : Nat} (h : TJ N cs k b o) : othX (rd_T83 cs k) (b : Int) = some (o : Int):=by
 rcases oth_tj hv (tj_tree hv h) b with ⟨o2,h1,h2⟩ | ⟨_,h2⟩
 ·obtain ⟨x,hx,h0,rfl,h⟩:=h
  obtain ⟨y,hy,hy0,hye,h2⟩:=h2
  obtain rfl:=up_inj hv hy0 hye
  have hne : nxN N cs y ≠ y:=by
   obtain ⟨_,_,_,_,_,_,k5,_⟩:=up_hit (sound_of hv) y h0
   exact k5
  rw [h1]
  rcases h with ⟨e1,e2⟩ | ⟨e1,e2⟩ <;> rcases h2 with ⟨e3,e4⟩ | ⟨e3,e4⟩
  ·rw [e4,e2]
  ·omega
  ·omega
  ·rw [e4,e2]
 ·exact absurd h (h2 o)
theorem sep_neg (k : Int) (hk : k < 0) (hv : cabsB (N : Int) cs = true) {a b : Nat} (ha : a < N) (hb : b < N) : ¬ Sep N cs k a b:=by
 have no : ∀ {c : Nat},c < N → k ∉ upsL N cs c:=by
  intro c hc h
  rw [ups_wL] at h
  obtain ⟨x,hx,e⟩:=List.mem_map.1 h
  obtain ⟨r,_,_,_,_,_,_,h7⟩:=wL_ch hv hc
  have:=(h7 x hx).2.1
  omega
 exact fun h => h ⟨fun h1 => absurd h1 (no ha),fun h1 => absurd h1 (no hb)⟩
theorem sep_self (k : Int) (a : Nat) : ¬ Sep N cs k a a:=fun h => h Iff.rfl
theorem sep_symm {k : Int} {a b : Nat} (h : Sep N cs k a b) : Sep N cs k b a:=fun e => h e.symm
theorem sep_flip (hv : cabsB (N : Int) cs = true) {k : Int} {b o : Nat} (h : TJ N cs k b o) (t : Nat) : Sep N cs k b t ↔ ¬ Sep N cs k o t:=by
 have:=(h.cross hv).2
 unfold Sep
 by_cases h1 : k ∈ upsL N cs b <;> by_cases h2 : k ∈ upsL N cs o <;> by_cases h3 : k ∈ upsL N cs t <;> simp_all
theorem sep_keep (hv : cabsB (N : Int) cs = true) {k j : Int} {b o : Nat} (h : TJ N cs k b o) (hj : j ≠ k) (t : Nat) : Sep N cs j b t ↔ Sep N cs j o t:=by
 have:=(h.cross hv).1 j hj
 unfold Sep
 rw [this]
theorem sep_tri {k : Int} {a b c : Nat} (h : Sep N cs k a b) : Sep N cs k a c ↔ ¬ Sep N cs k c b:=by
 unfold Sep at *
 by_cases h1 : k ∈ upsL N cs a <;> by_cases h2 : k ∈ upsL N cs b <;> by_cases h3 : k ∈ upsL N cs c <;> simp_all
theorem wL_tj (hv : cabsB (N : Int) cs = true) {k : Int} {b o : Nat} (h : TJ N cs k b o) : (k = upN N cs b ∧ 0 ≤ k ∧ (wL N cs b).length = (wL N cs o).length + 1 ∧ ¬ (k = upN N cs o)) ∨ (k = upN N cs o ∧ 0 ≤ k ∧ (wL N cs o).length = (wL N cs b).length + 1 ∧ ¬ (k = upN N cs b)):=by
 have hlt:=h.lt hv
 obtain ⟨x,hx,h0,rfl,h⟩:=h
 have hs:=wL_step hv hx h0
 have hl : (wL N cs x).length = (wL N cs (nxN N cs x)).length + 1:=by rw [hs];rfl
 have hne : ¬ (upN N cs x = upN N cs (nxN N cs x)):=fun e => by
  have:=up_inj hv h0 e
  rw [← this] at hl
  omega
 rcases h with ⟨rfl,rfl⟩ | ⟨rfl,rfl⟩
 ·exact Or.inl ⟨rfl,h0,hl,hne⟩
 ·exact Or.inr ⟨rfl,h0,hl,hne⟩
theorem wL_len (hv : cabsB (N : Int) cs = true) {b : Nat} (hb : b < N) : (wL N cs b).length ≤ 7:=by
 obtain ⟨r,_,_,_,_,_,h6,_⟩:=wL_ch hv hb
 have:=(cabsB_facts hv).2.1
 omega
end
def muN (N : Nat) (cs : List S83) (b : Nat) (y : Int) : Nat:=if y = upN N cs b ∧ 0 ≤ y then 8 - (wL N cs b).length else (wL N cs b).length + 9
def wtN (N : Nat) (cs : List S83) (b : Nat) (y : Int) : Nat:=if y = upN N cs b ∧ 0 ≤ y then 9 ^ (8 - (wL N cs b).length) else 43046721 * ((wL N cs b).length + 1)
theorem mu_lt {N : Nat} {cs : List S83} (hv : cabsB (N : Int) cs = true) {k y : Int} {b o : Nat} (h : TJ N cs k b o) (hne : k ≠ y) : muN N cs o k < muN N cs b y:=by
 have hlt:=h.lt hv
 have l1:=wL_len hv hlt.1
 have l2:=wL_len hv hlt.2
 unfold muN
 rcases wL_tj hv h with ⟨h1,h2,h3,h4⟩ | ⟨h1,h2,h3,h4⟩
 ·rw [if_neg (fun e => h4 e.1),if_neg (fun e => hne (h1.trans e.1.symm))]
  omega
 ·rw [if_pos ⟨h1,h2⟩]
  split <;> omega
def wuN (N : Nat) (cs : List S83) (b : Nat) (y : Int) (l : List Int) : Nat:=if upN N cs b ∈ l ∧ 0 ≤ upN N cs b ∧ upN N cs b ≠ y then 43046721 * (wL N cs b).length else 0
def wlN (N : Nat) (cs : List S83) (b : Nat) (y : Int) (l : List Int) : Nat:=wuN N cs b y l + l.length * 9 ^ (7 - (wL N cs b).length)
theorem wu_mono {N : Nat} {cs : List S83} {k y : Int} {b : Nat} {l : List Int} : wuN N cs b y l ≤ wuN N cs b y (k :: l):=by
 unfold wuN
 split
 ·rename_i h5
  rw [if_pos ⟨List.mem_cons_of_mem _ h5.1,h5.2⟩]
  exact Nat.le_refl _
 ·exact Nat.zero_le _
theorem wl_cons {N : Nat} {cs : List S83} (hv : cabsB (N : Int) cs = true) {k y : Int} {b o : Nat} (h : TJ N cs k b o) (hne : k ≠ y) {l : List Int} (hnd : (k :: l).Nodup) : wtN N cs o k + wlN N cs b y l ≤ wlN N cs b y (k :: l):=by
 have hlt:=h.lt hv
 have hkl:=(List.nodup_cons.1 hnd).1
 have l1:=wL_len hv hlt.1
 have l2:=wL_len hv hlt.2
 unfold wtN wlN
 rw [List.length_cons,Nat.add_mul l.length 1,Nat.one_mul]
 rcases wL_tj hv h with ⟨h1,h2,h3,h4⟩ | ⟨h1,h2,h3,h4⟩
 ·have e1 : wuN N cs b y l = 0:=by unfold wuN;rw [if_neg (fun e => hkl (h1 ▸ e.1))]
  have e2 : wuN N cs b y (k :: l) = 43046721 * (wL N cs b).length:=by unfold wuN;rw [if_pos ⟨by rw [← h1];exact List.mem_cons_self,by omega,by rw [← h1];exact hne⟩]
  rw [if_neg (fun e => h4 e.1),e1,e2,← h3]
  generalize 9 ^ (7 - (wL N cs b).length) = q
  generalize l.length * q = lq
  omega
 ·have e8 : 8 - (wL N cs o).length = 7 - (wL N cs b).length:=by omega
  rw [if_pos ⟨h1,h2⟩,e8]
  have:=wu_mono (N:=N) (cs:=cs) (k:=k) (y:=y) (b:=b) (l:=l)
  generalize 9 ^ (7 - (wL N cs b).length) = q
  generalize l.length * q = lq
  omega
theorem wl_skip {N : Nat} {cs : List S83} {k y : Int} {b : Nat} {l : List Int} : wlN N cs b y l ≤ wlN N cs b y (k :: l):=by
 unfold wlN
 rw [List.length_cons,Nat.add_mul l.length 1,Nat.one_mul]
 have:=wu_mono (N:=N) (cs:=cs) (k:=k) (y:=y) (b:=b) (l:=l)
 generalize 9 ^ (7 - (wL N cs b).length) = q
 generalize l.length * q = lq
 omega
theorem wl_all {N : Nat} {cs : List S83} (hv : cabsB (N : Int) cs = true) {b : Nat} (hb : b < N) (y : Int) {l : List Int} (hl : l.length ≤ 8) : wlN N cs b y l + 1 ≤ wtN N cs b y:=by
 have l1:=wL_len hv hb
 unfold wlN wtN
 have hp : 1 ≤ 9 ^ (7 - (wL N cs b).length):=Nat.one_le_pow _ _ (by omega)
 have hm : l.length * 9 ^ (7 - (wL N cs b).length) ≤ 8 * 9 ^ (7 - (wL N cs b).length):=Nat.mul_le_mul_right _ hl
 by_cases h : y = upN N cs b ∧ 0 ≤ y
 ·have e0 : wuN N cs b y l = 0:=by unfold wuN;rw [if_neg (fun e => e.2.2 h.1.symm)]
  have e : 9 ^ (8 - (wL N cs b).length) = 9 * 9 ^ (7 - (wL N cs b).length):=by rw [show 8 - (wL N cs b).length = (7 - (wL N cs b).length) + 1 from by omega,Nat.pow_succ,Nat.mul_comm]
  rw [if_pos h,e0,e]
  generalize 9 ^ (7 - (wL N cs b).length) = q at *
  omega
 ·have h7 : 9 ^ (7 - (wL N cs b).length) ≤ 9 ^ 7:=Nat.pow_le_pow_right (by omega) (by omega)
  have e7 : (9 : Nat) ^ 7 = 4782969:=by decide
  have h0 : wuN N cs b y l ≤ 43046721 * (wL N cs b).length:=by unfold wuN;split <;> omega
  rw [e7] at h7
  rw [if_neg h]
  generalize 9 ^ (7 - (wL N cs b).length) = q at *
  omega
theorem wt_max {N : Nat} {cs : List S83} (hv : cabsB (N : Int) cs = true) {b : Nat} (hb : b < N) (y : Int) : wtN N cs b y ≤ 400000000:=by
 have l1:=wL_len hv hb
 unfold wtN
 split
 ·have h1 : 9 ^ (8 - (wL N cs b).length) ≤ 9 ^ 8:=Nat.pow_le_pow_right (by omega) (by omega)
  have h2 : (9 : Nat) ^ 8 = 43046721:=by decide
  rw [h2] at h1
  omega
 ·omega

-- LIB netlaw2
def hmN (hs : List Int) (s : Nat) : Nat:=(rd hs s).toNat
theorem takeN_mem (fr rc i : Int) (l : List Int) (s : Int) : s ∈ takeN fr rc i l ↔ s ∈ l ∨ (s = i ∧ i ≠ fr ∧ (rc = i ∨ rc = 15)):=by
 unfold takeN
 split
 ·rename_i h
  rw [List.mem_append,List.mem_singleton]
  exact ⟨fun h1 => h1.imp id (fun e => ⟨e,h.1,h.2⟩),fun h1 => h1.imp id (fun e => e.1)⟩
 ·rename_i h
  exact ⟨Or.inl,fun h1 => h1.elim id (fun e => absurd ⟨e.2.1,e.2.2⟩ h)⟩
theorem takeN_len (fr rc i : Int) (l : List Int) : (takeN fr rc i l).length ≤ l.length + 1:=by unfold takeN;split <;> simp
theorem stN_mem (hs vs : List Int) (b v fr rc : Int) (d : Nat) : ∀ (i : Nat) (l : List Int),(∀ s,s ∈ stN hs vs b v fr rc d (i : Int) l ↔ s ∈ l ∨ ∃ S : Nat,i ≤ S ∧ S < i + d ∧ s = (S : Int) ∧ rd hs S = b ∧ rd vs S = v ∧ (S : Int) ≠ fr ∧ (rc = S ∨ rc = 15)) ∧ (stN hs vs b v fr rc d (i : Int) l).length ≤ l.length + d:=by
 induction d with
 | zero => exact fun i l => ⟨fun s => ⟨Or.inl,fun h => h.elim id (fun ⟨S,h1,h2,_⟩ => by omega)⟩,Nat.le_refl _⟩
 | succ d ih =>
  intro i l
  have hl : (if rd hs (i : Int) = b ∧ rd vs (i : Int) = v then takeN fr rc i l else l).length ≤ l.length + 1:=by
   split
   ·exact takeN_len _ _ _ _
   ·omega
  obtain ⟨h1,h2⟩:=ih (i + 1) (if rd hs (i : Int) = b ∧ rd vs (i : Int) = v then takeN fr rc i l else l)
  rw [stN,show (i : Int) + 1 = ((i + 1 : Nat) : Int) from by omega]
  refine ⟨fun s => (h1 s).trans ⟨fun h => ?_,fun h => ?_⟩,by omega⟩
  ·rcases h with h | ⟨S,a1,a2,a3⟩
   ·split at h
    ·rename_i hc
     rcases (takeN_mem _ _ _ _ _).1 h with h | ⟨e,e2,e3⟩
     ·exact Or.inl h
     ·exact Or.inr ⟨i,Nat.le_refl _,by omega,e,hc.1,hc.2,e2,e3⟩
    ·exact Or.inl h
   ·exact Or.inr ⟨S,by omega,by omega,a3⟩
  ·rcases h with h | ⟨S,a1,a2,a3,a4,a5,a6,a7⟩
   ·refine Or.inl ?_
    split
    ·exact (takeN_mem _ _ _ _ _).2 (Or.inl h)
    ·exact h
   ·by_cases e : S = i
    ·subst e
     refine Or.inl ?_
     rw [if_pos ⟨a4,a5⟩]
     exact (takeN_mem _ _ _ _ _).2 (Or.inr ⟨a3,a6,a7⟩)
    ·exact Or.inr ⟨S,by omega,by omega,a3,a4,a5,a6,a7⟩
structure NV (N : Nat) (cs : List S83) (hs vs : List Int) (F : Nat) (v rc : Int) : Prop where
 hn : netB (N : Int) cs hs vs = true
 hF : F < hs.length
 hv : rd vs F = v
 hr : (0 ≤ rc ∧ rc < hs.length) ∨ rc = 15
def InvT (N : Nat) (cs : List S83) (hs vs : List Int) (T : TabN) : Prop :=
 ∀ b v s x,T b v s = some x → ∃ B S : Nat,b = (B : Int) ∧ s = (S : Int) ∧ B < N ∧ S < hs.length ∧ v = rd vs S ∧ gD (rootsL N cs) B = gD (rootsL N cs) (hmN hs S) ∧ ((x = -1 ∧ B = hmN hs S) ∨ ∃ o,TJ N cs x B o ∧ Sep N cs x B (hmN hs S))
def AtB (N : Nat) (cs : List S83) (h0 b : Nat) (y : Int) : Prop:=gD (rootsL N cs) b = gD (rootsL N cs) h0 ∧ ((y = -1 ∧ b = h0) ∨ ∃ o,TJ N cs y b o ∧ Sep N cs y b h0)
def szN (st : RN) (w : Nat) : Prop:=st.over.length + w < 1000000000000 ∧ st.took.length + 15 * w < 1000000000000 ∧ st.n + w < 1000000000000
structure Base (N : Nat) (cs : List S83) (hs vs : List Int) (F : Nat) (v rc : Int) (w b : Nat) (st st' : RN) : Prop where
 lo : st'.over.length ≤ st.over.length + w
 lt : st'.took.length ≤ st.took.length + 15 * w
 ln : st'.n ≤ st.n + w
 inv : InvT N cs hs vs st'.T
 old : ∀ x y s,st.T x y s ≠ none → st'.T x y s ≠ none
 oth : ∀ x y s,¬ (y = v ∧ s = (F : Int)) → st'.T x y s = st.T x y s
 ov0 : ∀ j ∈ st.over,j ∈ st'.over
 ov1 : ∀ j ∈ st'.over,j ∈ st.over ∨ ∃ e o,TJ N cs j e o ∧ gD (rootsL N cs) e = gD (rootsL N cs) b
 tk0 : ∀ s ∈ st.took,s ∈ st'.took
 tk1 : ∀ s ∈ st'.took,s ∈ st.took ∨ ∃ S : Nat,s = (S : Int) ∧ S < hs.length ∧ S ≠ F ∧ (rc = S ∨ rc = 15) ∧ rd vs S = v ∧ gD (rootsL N cs) (hmN hs S) = gD (rootsL N cs) b
section
variable {N : Nat} {cs : List S83} {hs vs : List Int} {F : Nat} {v rc : Int}
theorem Base.refl {b : Nat} {st : RN} (h : InvT N cs hs vs st.T) : Base N cs hs vs F v rc 0 b st st:=⟨by omega,by omega,by omega,h,fun _ _ _ h => h,fun _ _ _ _ => rfl,fun _ h => h,fun _ h => Or.inl h,fun _ h => h,fun _ h => Or.inl h⟩
theorem Base.trans {w w2 b : Nat} {st st1 st2 : RN} (h : Base N cs hs vs F v rc w b st st1) (g : Base N cs hs vs F v rc w2 b st1 st2) : Base N cs hs vs F v rc (w + w2) b st st2 :=
 ⟨by have:=h.lo;have:=g.lo;omega,by have:=h.lt;have:=g.lt;omega,by have:=h.ln;have:=g.ln;omega,g.inv,fun x y s hx => g.old x y s (h.old x y s hx),fun x y s hx => (g.oth x y s hx).trans (h.oth x y s hx),fun j hj => g.ov0 j (h.ov0 j hj),
  fun j hj => (g.ov1 j hj).elim (fun h1 => h.ov1 j h1) Or.inr,fun j hj => g.tk0 j (h.tk0 j hj),fun j hj => (g.tk1 j hj).elim (fun h1 => h.tk1 j h1) Or.inr⟩
theorem Base.wide {w w2 b : Nat} {st st1 : RN} (h : Base N cs hs vs F v rc w b st st1) (hw : w ≤ w2) : Base N cs hs vs F v rc w2 b st st1 :=
 ⟨by have:=h.lo;omega,by have:=h.lt;omega,by have:=h.ln;omega,h.inv,h.old,h.oth,h.ov0,h.ov1,h.tk0,h.tk1⟩
def Tgt (hs vs : List Int) (v rc : Int) (t : Nat) : Prop:=rc = 15 ∨ ∃ R : Nat,rc = (R : Int) ∧ R < hs.length ∧ rd vs R = v ∧ t = hmN hs R
def OnP (N : Nat) (cs : List S83) (b c t : Nat) : Prop:=∀ j,¬ (Sep N cs j b c ∧ Sep N cs j c t)
def Concl (N : Nat) (cs : List S83) (hs vs : List Int) (F : Nat) (v rc : Int) (b t : Nat) (st' : RN) : Prop :=
 (∀ S : Nat,S < hs.length → hmN hs S = t → rd vs S = v → S ≠ F → (rc = S ∨ rc = 15) → (S : Int) ∈ st'.took) ∧ (∀ j,Sep N cs j b t → j ∈ st'.over) ∧ ∀ c,c < N → gD (rootsL N cs) c = gD (rootsL N cs) b → c ≠ b → OnP N cs b c t → st'.T c v F ≠ none
theorem Concl.grow {w b b2 t : Nat} {st st2 : RN} (h : Concl N cs hs vs F v rc b t st) (g : Base N cs hs vs F v rc w b2 st st2) : Concl N cs hs vs F v rc b t st2 :=
 ⟨fun S a1 a2 a3 a4 a5 => g.tk0 _ (h.1 S a1 a2 a3 a4 a5),fun j hj => g.ov0 j (h.2.1 j hj),fun c a1 a2 a3 a4 => g.old _ _ _ (h.2.2 c a1 a2 a3 a4)⟩
def Narrow (N : Nat) (cs : List S83) (hs vs : List Int) (F : Nat) (v rc : Int) (b : Nat) (P : Nat → Prop) (st st' : RN) : Prop :=
 ∀ R : Nat,rc = (R : Int) → R < hs.length → R ≠ F → rd vs R = v → gD (rootsL N cs) (hmN hs R) = gD (rootsL N cs) b → P (hmN hs R) → (∀ c,c < N → gD (rootsL N cs) c = gD (rootsL N cs) b → OnP N cs b c (hmN hs R) → st.T c v R ≠ none) → ∀ j ∈ st'.over,j ∈ st.over ∨ Sep N cs j b (hmN hs R)
def ComeOK (N : Nat) (cs : List S83) (hs vs : List Int) (F : Nat) (v rc : Int) (f : Nat) : Prop :=
 ∀ (b : Nat) (y : Int) (st : RN),b < N → InvT N cs hs vs st.T → AtB N cs (hmN hs F) b y → muN N cs b y ≤ f → szN st (wtN N cs b y) →
  ∃ st',comeN cs (treeX (N : Int) cs) hs vs v F rc f b y st = some st' ∧ Base N cs hs vs F v rc (wtN N cs b y) b st st' ∧ st'.over.length + 1 ≤ st.over.length + wtN N cs b y ∧ st'.T b v F ≠ none ∧
   (∀ t,t < N → gD (rootsL N cs) t = gD (rootsL N cs) b → ¬ Sep N cs y b t → Tgt hs vs v rc t → Concl N cs hs vs F v rc b t st') ∧ Narrow N cs hs vs F v rc b (fun t => ¬ Sep N cs y b t) st st'
theorem hop_one (hv : cabsB (N : Int) cs = true) {k : Int} {b o t c : Nat} (hk : TJ N cs k b o) (ht : t < N) (hs : Sep N cs k b t) (hc : c < N) (hr : gD (rootsL N cs) c = gD (rootsL N cs) b) (hne : c ≠ b) (hp : OnP N cs b c t) : Sep N cs k b c ∧ OnP N cs o c t:=by
 obtain ⟨k2,o2,h1,h2⟩:=sep_some hv (hk.lt hv).1 hc hr.symm (fun e => hne e.symm)
 have h3 : ¬ Sep N cs k2 c t:=fun h => hp k2 ⟨h2,h⟩
 have h4 : Sep N cs k2 b t:=by
  by_cases h : Sep N cs k2 b t
  ·exact h
  ·have:=sep_tri (c:=t) h2
   exact (h (this.2 (fun h5 => h3 (sep_symm h5)))).elim
 obtain rfl:=sep_one hv ht hk h1 hs h4
 refine ⟨h2,fun j ⟨h5,h6⟩ => ?_⟩
 by_cases e : j = k
 ·subst e
  exact (sep_flip hv hk c).1 h2 h5
 ·exact hp j ⟨(sep_keep hv hk e c).2 h5,h6⟩
theorem onp_out (hv : cabsB (N : Int) cs = true) {k : Int} {b o t c : Nat} (hk : TJ N cs k b o) (hs : Sep N cs k b t) (hp : OnP N cs o c t) : OnP N cs b c t:=by
 rintro j ⟨h1,h2⟩
 by_cases e : j = k
 ·subst e
  exact (sep_tri (c:=c) hs).1 h1 h2
 ·exact hp j ⟨(sep_keep hv hk e c).1 h1,h2⟩
end

-- LIB netlaw3
section
variable {N : Nat} {cs : List S83} {hs vs : List Int} {F : Nat} {v rc : Int}
theorem NV.cab (h : NV N cs hs vs F v rc) : cabsB (N : Int) cs = true:=(netB_facts h.hn).1
theorem NV.home (h : NV N cs hs vs F v rc) {S : Nat} (hS : S < hs.length) : rd hs S = (hmN hs S : Int) ∧ hmN hs S < N:=by
 have:=(netB_more h.hn).2.2.2.1 S hS
 unfold hmN
 exact ⟨by omega,by omega⟩
def szF (st : RN) (w : Nat) : Prop:=st.over.length + w + 1 < 1000000000000 ∧ st.took.length + 15 * w < 1000000000000 ∧ st.n + w < 1000000000000
theorem send_ok (nv : NV N cs hs vs F v rc) {f : Nat} (ih : ComeOK N cs hs vs F v rc f) {k y : Int} {b o : Nat} (hk : TJ N cs k b o) (hne : k ≠ y) (hat : AtB N cs (hmN hs F) b y) (hmu : muN N cs b y ≤ f + 1) {st : RN} (hI : InvT N cs hs vs st.T) (hsz : szF st (wtN N cs o k)) :
  ∃ st',sendN cs (comeN cs (treeX (N : Int) cs) hs vs v F rc f) b k st = some st' ∧ Base N cs hs vs F v rc (wtN N cs o k) b st st' ∧ (∀ t,t < N → gD (rootsL N cs) t = gD (rootsL N cs) b → Sep N cs k b t → Tgt hs vs v rc t → Concl N cs hs vs F v rc b t st') ∧ Narrow N cs hs vs F v rc b (fun t => Sep N cs k b t) st st':=by
 have hv:=nv.cab
 obtain ⟨hbl,hol⟩:=hk.lt hv
 have hhF:=(nv.home nv.hF).2
 have hro:=hk.root hv
 have hat2 : AtB N cs (hmN hs F) o k:=by
  refine ⟨hro.symm.trans hat.1,Or.inr ⟨b,hk.symm,Classical.byContradiction (fun h => ?_)⟩⟩
  have h1:=(sep_flip hv hk (hmN hs F)).2 h
  rcases hat.2 with ⟨_,e⟩ | ⟨o2,h2,h3⟩
  ·rw [e] at h1
   exact sep_self _ _ h1
  ·exact hne (sep_one hv hhF hk h2 h1 h3)
 have hmu2 : muN N cs o k ≤ f:=by
  have:=mu_lt hv hk hne
  omega
 unfold sendN
 rw [if_pos (by have:=hsz.1;omega),tj_oth hv hk]
 have hwt : 1 ≤ wtN N cs o k:=by
  have:=wl_all hv hol k (l:=[]) (by simp)
  omega
 -- the length behind the cable
 have hcm:=ih o k { st with over:=st.over ++ [k] } hol hI hat2 hmu2
 have hl0 : (st.over ++ [k]).length = st.over.length + 1:=by simp
 have hs2 : szN { st with over:=st.over ++ [k] } (wtN N cs o k):=⟨by show (st.over ++ [k]).length + _ < _;have:=hsz.1;omega,by have:=hsz.2.1;show st.took.length + _ < _;omega,by have:=hsz.2.2;show st.n + _ < _;omega⟩
 obtain ⟨st',h1,h2,h3,h4,h5,h6⟩:=hcm hs2
 ·skip
  have hl : (st.over ++ [k]).length = st.over.length + 1:=by simp
  refine ⟨st',h1,⟨?_,h2.lt,h2.ln,h2.inv,h2.old,h2.oth,fun j hj => h2.ov0 j (List.mem_append_left _ hj),fun j hj => ?_,h2.tk0,fun s hs' => (h2.tk1 s hs').imp id (fun ⟨S,a1,a2,a3,a4,a5,a6⟩ => ⟨S,a1,a2,a3,a4,a5,a6.trans hro.symm⟩)⟩,?_,?_⟩
  ·have : st'.over.length + 1 ≤ (st.over ++ [k]).length + wtN N cs o k:=h3
   omega
  ·rcases h2.ov1 j hj with h | ⟨e,o2,a1,a2⟩
   ·rcases List.mem_append.1 h with h | h
    ·exact Or.inl h
    ·rw [List.mem_singleton.1 h]
     exact Or.inr ⟨b,o,hk,rfl⟩
   ·exact Or.inr ⟨e,o2,a1,a2.trans hro.symm⟩
  ·intro t ht hr hs3 htg
   obtain ⟨c1,c2,c3⟩:=h5 t ht (hr.trans hro) ((sep_flip hv hk t).1 hs3) htg
   refine ⟨c1,fun j hj => ?_,fun c hc hrc hcb hp => ?_⟩
   ·by_cases e : j = k
    ·subst e
     exact h2.ov0 _ (List.mem_append_right _ List.mem_cons_self)
    ·exact c2 j ((sep_keep hv hk e t).1 hj)
   ·obtain ⟨g1,g2⟩:=hop_one hv hk ht hs3 hc hrc hcb hp
    by_cases e : c = o
    ·rw [e];exact h4
    ·exact c3 c hc (hrc.trans hro) e g2
  ·intro R hR hRl hRF hRv hRr hs3 hkn j hj
   rcases h6 R hR hRl hRF hRv (hRr.trans hro) ((sep_flip hv hk _).1 hs3) (fun c hc hrc hp => hkn c hc (hrc.trans hro.symm) (onp_out hv hk hs3 hp)) j hj with h | h
   ·rcases List.mem_append.1 h with h | h
    ·exact Or.inl h
    ·rw [List.mem_singleton.1 h]
     exact Or.inr hs3
   ·by_cases e : j = k
    ·rw [e];exact Or.inr hs3
    ·exact Or.inr ((sep_keep hv hk e _).2 h)
theorem flood_ok (nv : NV N cs hs vs F v rc) {f : Nat} (ih : ComeOK N cs hs vs F v rc f) {y : Int} {b : Nat} (hb : b < N) (hat : AtB N cs (hmN hs F) b y) (hmu : muN N cs b y ≤ f + 1) (l : List Int) :
  (∀ k ∈ l,k ∈ treeX (N : Int) cs) → l.Nodup → ∀ st : RN,InvT N cs hs vs st.T → szF st (wlN N cs b y l) →
  ∃ st',floodN cs (comeN cs (treeX (N : Int) cs) hs vs v F rc f) b y l st = some st' ∧ Base N cs hs vs F v rc (wlN N cs b y l) b st st' ∧ (∀ k ∈ l,∀ o,TJ N cs k b o → k ≠ y → ∀ t,t < N → gD (rootsL N cs) t = gD (rootsL N cs) b → Sep N cs k b t → Tgt hs vs v rc t → Concl N cs hs vs F v rc b t st'):=by
 have hv:=nv.cab
 induction l with
 | nil =>
  intro _ _ st hI _
  exact ⟨st,rfl,(Base.refl hI).wide (Nat.zero_le _),fun k hk => by cases hk⟩
 | cons k l ihl =>
  intro htr hnd st hI hsz
  have hnd2:=(List.nodup_cons.1 hnd).2
  have htr2 : ∀ k ∈ l,k ∈ treeX (N : Int) cs:=fun j hj => htr j (List.mem_cons_of_mem _ hj)
  rw [floodN]
  rcases oth_tj hv (htr k List.mem_cons_self) b with ⟨o,h1,h2⟩ | ⟨h1,h2⟩
  ·rw [h1]
   by_cases hky : k = y
   ·rw [if_neg (fun h => h.2 hky)]
    have hw:=wl_skip (N:=N) (cs:=cs) (k:=k) (y:=y) (b:=b) (l:=l)
    obtain ⟨st',g1,g2,g3⟩:=ihl htr2 hnd2 st hI ⟨by have:=hsz.1;omega,by have:=hsz.2.1;omega,by have:=hsz.2.2;omega⟩
    refine ⟨st',g1,g2.wide hw,fun j hj o2 hj2 hjy => ?_⟩
    rcases List.mem_cons.1 hj with e | hj
    ·exact absurd (e.trans hky) hjy
    ·exact g3 j hj o2 hj2 hjy
   ·rw [if_pos ⟨rfl,hky⟩]
    have hw:=wl_cons hv h2 hky hnd
    obtain ⟨st1,s1,s2,s3,_⟩:=send_ok nv ih h2 hky hat hmu hI ⟨by have:=hsz.1;omega,by have:=hsz.2.1;omega,by have:=hsz.2.2;omega⟩
    have l1:=s2.lo
    have l2:=s2.lt
    have l3:=s2.ln
    obtain ⟨st',g1,g2,g3⟩:=ihl htr2 hnd2 st1 s2.inv ⟨by have:=hsz.1;omega,by have:=hsz.2.1;omega,by have:=hsz.2.2;omega⟩
    rw [s1,Option.bind_some]
    refine ⟨st',g1,(s2.trans g2).wide hw,fun j hj o2 hj2 hjy t ht hr hs3 htg => ?_⟩
    rcases List.mem_cons.1 hj with e | hj
    ·subst e
     exact (s3 t ht hr hs3 htg).grow g2
    ·exact g3 j hj o2 hj2 hjy t ht hr hs3 htg
  ·rw [h1,if_neg (fun h => by cases h.1)]
   have hw:=wl_skip (N:=N) (cs:=cs) (k:=k) (y:=y) (b:=b) (l:=l)
   obtain ⟨st',g1,g2,g3⟩:=ihl htr2 hnd2 st hI ⟨by have:=hsz.1;omega,by have:=hsz.2.1;omega,by have:=hsz.2.2;omega⟩
   refine ⟨st',g1,g2.wide hw,fun j hj o2 hj2 hjy => ?_⟩
   rcases List.mem_cons.1 hj with e | hj
   ·rw [e] at hj2
    exact absurd hj2 (h2 o2)
   ·exact g3 j hj o2 hj2 hjy
theorem inv_put (nv : NV N cs hs vs F v rc) {T : TabN} (hI : InvT N cs hs vs T) {b : Nat} (hb : b < N) {y : Int} (hat : AtB N cs (hmN hs F) b y) : InvT N cs hs vs (putN T b v F y):=by
 intro b2 v2 s2 x h
 unfold putN at h
 by_cases hc : b2 = (b : Int) ∧ v2 = v ∧ s2 = (F : Int)
 ·rw [if_pos hc] at h
  obtain rfl:=Option.some.inj h
  exact ⟨b,F,hc.1,hc.2.2,hb,nv.hF,by rw [hc.2.1,nv.hv],hat.1,hat.2⟩
 ·rw [if_neg hc] at h
  exact hI b2 v2 s2 x h
theorem come_ok (nv : NV N cs hs vs F v rc) (f : Nat) : ComeOK N cs hs vs F v rc f:=by
 have hv:=nv.cab
 induction f with
 | zero =>
  intro b y st hb _ _ hmu
  have:=wL_len hv hb
  unfold muN at hmu
  split at hmu <;> omega
 | succ f ih =>
  intro b y st hb hI hat hmu hsz
  have hN8:=(cabsB_facts hv).2.1
  have hlh:=(netB_more nv.hn).2.1
  have hwm:=wt_max hv hb y
  have hI1:=inv_put nv hI hb hat
  have hw1:=wl_all hv hb y (treeX_len (N : Int) cs)
  have hT1F : putN st.T b v F y b v F = some y:=by unfold putN;rw [if_pos ⟨rfl,rfl,rfl⟩]
  have hold : ∀ x z s,st.T x z s ≠ none → putN st.T b v F y x z s ≠ none:=fun x z s h => by
   unfold putN
   split
   ·exact fun h => by cases h
   ·exact h
  have hoth : ∀ x z s,¬ (z = v ∧ s = (F : Int)) → putN st.T b v F y x z s = st.T x z s:=fun x z s h => by
   unfold putN
   rw [if_neg (fun h2 => h h2.2)]
  -- the store alone
  have hB0 : ∀ l : List Int,(∀ s,s ∈ l ↔ s ∈ st.took ∨ ∃ S : Nat,s = (S : Int) ∧ S < hs.length ∧ S ≠ F ∧ (rc = S ∨ rc = 15) ∧ rd vs S = v ∧ hmN hs S = b) → l.length ≤ st.took.length + 15 → Base N cs hs vs F v rc 1 b st { T:=putN st.T b v F y,took:=l,over:=st.over,n:=st.n + 1 }:=fun l hl hll =>
   ⟨by show st.over.length ≤ st.over.length + 1;omega,by show l.length ≤ _;omega,Nat.le_refl _,hI1,hold,hoth,fun _ h => h,fun _ h => Or.inl h,fun s h => (hl s).2 (Or.inl h),fun s h => ((hl s).1 h).imp id (fun ⟨S,a1,a2,a3,a4,a5,a6⟩ => ⟨S,a1,a2,a3,a4,a5,by rw [a6]⟩)⟩
  have self : ∀ st' : RN,st'.T = putN st.T b v F y → (∀ S : Nat,S < hs.length → hmN hs S = b → rd vs S = v → S ≠ F → (rc = S ∨ rc = 15) → (S : Int) ∈ st'.took) → Concl N cs hs vs F v rc b b st':=fun st' hT h => ⟨h,fun j hj => absurd hj (sep_self j b),fun c hc hr hne hp => by
   obtain ⟨k,o,h1,h2⟩:=sep_some hv hb hc hr.symm (fun e => hne e.symm)
   exact absurd ⟨h2,sep_symm h2⟩ (hp k)⟩
  rw [comeN,if_pos ⟨by have:=hsz.2.2;omega,by have:=hsz.2.1;omega,by omega,by omega⟩]
  cases hm : (if rc = 15 then none else putN st.T b v F y b v rc) with
  | some x =>
   have h15 : rc ≠ 15:=fun h => by rw [if_pos h] at hm;cases hm
   rw [if_neg h15] at hm
   obtain ⟨B,R,e1,e2,hB,hR,hvR,hrt,hx⟩:=hI1 _ _ _ _ hm
   obtain rfl : b = B:=by omega
   subst e2
   have hrR : ∀ t,Tgt hs vs v R t → t = hmN hs R:=fun t ht => by
    rcases ht with h | ⟨R2,h1,_,_,h4⟩
    ·exact absurd h h15
    ·have : R2 = R:=by omega
     rw [h4,this]
   simp only []
   by_cases hx1 : x = -1
   ·have hbR : b = hmN hs R := by
     rcases hx with h | ⟨o,h,_⟩
     ·exact h.2
     ·have:=(tj_pos h).1
      omega
    rw [if_pos hx1]
    have hl : ∀ s,s ∈ takeN F R R st.took ↔ s ∈ st.took ∨ ∃ S : Nat,s = (S : Int) ∧ S < hs.length ∧ S ≠ F ∧ ((R : Int) = S ∨ (R : Int) = 15) ∧ rd vs S = v ∧ hmN hs S = b:=fun s => by
     rw [takeN_mem]
     refine or_congr Iff.rfl ⟨fun ⟨a1,a2,a3⟩ => ⟨R,a1,hR,by omega,Or.inl rfl,hvR.symm,hbR.symm⟩,fun ⟨S,a1,a2,a3,a4,a5,a6⟩ => ?_⟩
     have : S = R:=by
      rcases a4 with h | h
      ·omega
      ·exact absurd h h15
     subst this
     exact ⟨a1,by omega,Or.inl rfl⟩
    have hbase:=hB0 _ hl (by have:=takeN_len F R R st.took;omega)
    refine ⟨_,rfl,hbase.wide (by omega),by show st.over.length + 1 ≤ _;omega,(by show putN st.T b v F y b v F ≠ none;rw [hT1F];exact fun h => nomatch h),fun t ht hr hs3 htg => ?_,fun R2 _ _ _ _ _ _ _ j hj => Or.inl hj⟩
    rw [hrR t htg,← hbR]
    exact self _ rfl (fun S a1 a2 a3 a4 a5 => (hl S).2 (Or.inr ⟨S,rfl,a1,a4,a5,a3,a2⟩))
   ·rw [if_neg hx1]
    obtain ⟨o,hk,hsx⟩ : ∃ o,TJ N cs x b o ∧ Sep N cs x b (hmN hs R):=by
     rcases hx with h | h
     ·exact absurd h.1 hx1
     ·exact h
    by_cases hxy : x = y
    ·rw [if_pos hxy]
     have hbase:=hB0 st.took (fun s => ⟨Or.inl,fun h => h.elim id (fun ⟨S,a1,a2,a3,a4,a5,a6⟩ => by
      have : S = R:=by
       rcases a4 with h | h
       ·omega
       ·exact absurd h h15
      rw [this] at a6
      rw [a6] at hsx
      exact absurd hsx (sep_self _ _))⟩) (by omega)
     refine ⟨_,rfl,hbase.wide (by omega),by show st.over.length + 1 ≤ _;omega,(by show putN st.T b v F y b v F ≠ none;rw [hT1F];exact fun h => nomatch h),fun t ht hr hs3 htg => ?_,fun R2 _ _ _ _ _ _ _ j hj => Or.inl hj⟩
     rw [hrR t htg,← hxy] at hs3
     exact absurd hsx hs3
    ·rw [if_neg hxy,if_pos (tj_pos hk)]
     have hw:=wl_cons hv hk hxy (l:=[]) (by simp)
     have hw2:=wl_all hv hb y (l:=[x]) (by simp)
     obtain ⟨st',s1,s2,s3,s4⟩:=send_ok nv ih hk hxy hat hmu (st:={ T:=putN st.T b v F y,took:=st.took,over:=st.over,n:=st.n + 1 }) hI1 ⟨by have:=hsz.1;show st.over.length + _ + 1 < _;omega,by have:=hsz.2.1;show st.took.length + _ < _;omega,by have:=hsz.2.2;show st.n + 1 + _ < _;omega⟩
     have hbase : Base N cs hs vs F v R 1 b st { T:=putN st.T b v F y,took:=st.took,over:=st.over,n:=st.n + 1 } :=
      ⟨by show st.over.length ≤ _;omega,by show st.took.length ≤ _;omega,Nat.le_refl _,hI1,hold,hoth,fun _ h => h,fun _ h => Or.inl h,fun _ h => h,fun _ h => Or.inl h⟩
     have lo:=s2.lo
     refine ⟨st',s1,(hbase.trans s2).wide (by omega),by have h : st'.over.length ≤ st.over.length + wtN N cs o x:=lo;omega,s2.old _ _ _ ((by show putN st.T b v F y b v F ≠ none;rw [hT1F];exact fun h => nomatch h)),fun t ht hr hs3 htg => ?_,fun R2 hR2 hR2l hR2F hR2v hR2r hs3 hkn j hj => ?_⟩
     ·refine s3 t ht hr ?_ htg
      rw [hrR t htg]
      exact hsx
     ·have e : R2 = R:=by omega
      subst e
      refine s4 R2 rfl hR2l hR2F hR2v hR2r hsx (fun c hc hrc hp => ?_) j hj
      show putN st.T b v F y c v R2 ≠ none
      rw [hoth _ _ _ (fun h => hR2F (by omega))]
      exact hkn c hc hrc hp
  | none =>
   simp only []
   obtain ⟨st2,g1,g2,g3⟩:=flood_ok nv ih hb hat hmu (treeX (N : Int) cs) (fun _ h => h) (tree_nodup hv) { T:=putN st.T b v F y,took:=st.took,over:=st.over,n:=st.n + 1 } hI1 ⟨by have:=hsz.1;show st.over.length + _ + 1 < _;omega,by have:=hsz.2.1;show st.took.length + _ < _;omega,by have:=hsz.2.2;show st.n + 1 + _ < _;omega⟩
   rw [g1,Option.bind_some]
   have l2:=g2.lt
   have l2' : st2.took.length ≤ st.took.length + 15 * wlN N cs b y (treeX (N : Int) cs):=l2
   unfold leaveN
   rw [if_pos (by have:=hsz.2.1;omega)]
   obtain ⟨m1,m2⟩:=stN_mem hs vs (b : Int) v (F : Int) rc hs.length 0 st2.took
   have hhm : ∀ S : Nat,S < hs.length → (rd hs S = (b : Int) ↔ hmN hs S = b):=fun S hS => by
    have:=(nv.home hS).1
    omega
   have hbase : Base N cs hs vs F v rc 1 b st { T:=putN st.T b v F y,took:=st.took,over:=st.over,n:=st.n + 1 } :=
    ⟨by show st.over.length ≤ _;omega,by show st.took.length ≤ _;omega,Nat.le_refl _,hI1,hold,hoth,fun _ h => h,fun _ h => Or.inl h,fun _ h => h,fun _ h => Or.inl h⟩
   have hb2:=hbase.trans g2
   have lo:=g2.lo
   have lo' : st2.over.length ≤ st.over.length + wlN N cs b y (treeX (N : Int) cs):=lo
   have ln':=hb2.ln
   have hfin : Base N cs hs vs F v rc (wtN N cs b y) b st { st2 with took:=stN hs vs b v F rc hs.length 0 st2.took } :=
    ⟨by show st2.over.length ≤ _;omega,by show (stN hs vs b v F rc hs.length 0 st2.took).length ≤ _;have : (stN hs vs b v F rc hs.length ((0 : Nat) : Int) st2.took).length ≤ st2.took.length + hs.length:=m2;have e : ((0 : Nat) : Int) = 0:=rfl;rw [e] at this;omega,by show st2.n ≤ _;omega,hb2.inv,hb2.old,hb2.oth,hb2.ov0,hb2.ov1,fun s h => (m1 s).2 (Or.inl (hb2.tk0 s h)),fun s h => by
     rcases (m1 s).1 h with h | ⟨S,a1,a2,a3,a4,a5,a6,a7⟩
     ·exact hb2.tk1 s h
     ·exact Or.inr ⟨S,a3,by omega,by omega,a7,a5,by rw [(hhm S (by omega)).1 a4]⟩⟩
   have hTF : st2.T b v F ≠ none:=g2.old _ _ _ ((by show putN st.T b v F y b v F ≠ none;rw [hT1F];exact fun h => nomatch h))
   refine ⟨_,rfl,hfin,by show st2.over.length + 1 ≤ _;omega,hTF,fun t ht hr hs3 htg => ?_,fun R hR hRl hRF hRv hRr hs3 hkn j hj => ?_⟩
   ·by_cases htb : t = b
    ·subst htb
     refine ⟨fun S a1 a2 a3 a4 a5 => (m1 S).2 (Or.inr ⟨S,Nat.zero_le _,by omega,rfl,(hhm S a1).2 a2,a3,by omega,a5⟩),fun j hj => absurd hj (sep_self j t),fun c hc hrc hne hp => ?_⟩
     obtain ⟨k,o,h1,h2⟩:=sep_some hv hb hc hrc.symm (fun e => hne e.symm)
     exact absurd ⟨h2,sep_symm h2⟩ (hp k)
    ·obtain ⟨k,o,h1,h2⟩:=sep_some hv hb ht hr.symm (fun e => htb e.symm)
     have hky : k ≠ y:=fun e => hs3 (e ▸ h2)
     obtain ⟨c1,c2,c3⟩:=g3 k (tj_tree hv h1) o h1 hky t ht hr h2 htg
     exact ⟨fun S a1 a2 a3 a4 a5 => (m1 S).2 (Or.inl (c1 S a1 a2 a3 a4 a5)),c2,c3⟩
   ·have h1:=hkn b hb rfl (fun j h => sep_self _ _ h.1)
    have h15 : rc ≠ 15:=by omega
    rw [if_neg h15,hR,hoth _ _ _ (fun h => hRF (by omega))] at hm
    exact absurd hm h1
end

-- LIB netsim
def encY (y : Int) : Int:=if y = -1 then -2 else y
def encO : Option Int → Int
 | none => -1
 | some x => encY x
def MkOf (m : List Bool) (n : Nat) (l : List Int) : Prop:=m.length = n ∧ ∀ i : Nat,i < n → (rdOf false m (i : Int) = true ↔ (i : Int) ∈ l)
structure Sim (N : Nat) (cs : List S83) (hs : List Int) (st : RN) (ss : SN) : Prop where
 tl : ss.tabs.length = N * 150
 tb : ∀ b v s : Nat,b < N → v ≤ 9 → s < 15 → rd ss.tabs (atS b v s) = encO (st.T b v s)
 tk : MkOf ss.took hs.length st.took
 ov : MkOf ss.over cs.length st.over
theorem rdB_nat (m : List Bool) (i : Nat) : rdOf false m (i : Int) = m.getD i false:=by simp [rdOf]
theorem mk_set {m : List Bool} {n : Nat} {l l2 : List Int} (h : MkOf m n l) (K : Nat) (h2 : ∀ i : Nat,i < n → ((i : Int) ∈ l2 ↔ (i : Int) ∈ l ∨ i = K)) : MkOf (m.set K true) n l2:=by
 refine ⟨by rw [List.length_set];exact h.1,fun i hi => ?_⟩
 have h3:=h.2 i hi
 rw [rdB_nat] at h3 ⊢
 rw [h2 i hi,← h3,List.getD_eq_getElem?_getD,List.getD_eq_getElem?_getD,List.getElem?_set]
 by_cases e : K = i
 ·subst e
  rw [if_pos rfl,if_pos (by rw [h.1];exact hi)]
  simp
 ·rw [if_neg e]
  exact ⟨Or.inl,fun h4 => h4.elim id (fun h5 => absurd h5.symm e)⟩
theorem mk_same {m : List Bool} {n : Nat} {l l2 : List Int} (h : MkOf m n l) (h2 : ∀ i : Nat,i < n → ((i : Int) ∈ l2 ↔ (i : Int) ∈ l)) : MkOf m n l2:=⟨h.1,fun i hi => (h.2 i hi).trans (h2 i hi).symm⟩
theorem give_mk (hs vs : List Int) (b v fr rc only : Int) (n d : Nat) : ∀ (i : Nat) (m : List Bool) (l l2 : List Int), i + d = n → MkOf m n l →
  (∀ s : Nat,s < n → ((s : Int) ∈ l2 ↔ (s : Int) ∈ l ∨ (i ≤ s ∧ rd hs s = b ∧ rd vs s = v ∧ (s : Int) ≠ fr ∧ (0 ≤ only → (s : Int) = only) ∧ (rc = s ∨ rc = 15)))) → MkOf (giveS hs vs b v fr rc only d (i : Int) m) n l2:=by
 induction d with
 | zero =>
  intro i m l l2 hd hm h
  rw [giveS]
  exact mk_same hm (fun s hs' => (h s hs').trans ⟨fun h2 => h2.elim id (fun h3 => by omega),Or.inl⟩)
 | succ d ih =>
  intro i m l l2 hd hm h
  rw [giveS,show (i : Int) + 1 = ((i + 1 : Nat) : Int) from by omega]
  by_cases c : rd hs (i : Int) ≠ b ∨ rd vs (i : Int) ≠ v ∨ (i : Int) = fr ∨ (0 ≤ only ∧ (i : Int) ≠ only)
  ·rw [if_pos c]
   refine ih (i + 1) m l l2 (by omega) hm (fun s hs' => (h s hs').trans (or_congr Iff.rfl ⟨fun ⟨a1,a2,a3,a4,a5,a6⟩ => ?_,fun ⟨a1,a2⟩ => ⟨by omega,a2⟩⟩))
   by_cases e : s = i
   ·subst e
    rcases c with c | c | c | ⟨c,c2⟩
    ·exact absurd a2 c
    ·exact absurd a3 c
    ·exact absurd c a4
    ·exact absurd (a5 c) c2
   ·exact ⟨by omega,a2,a3,a4,a5,a6⟩
  ·rw [if_neg c]
   have c1 : rd hs (i : Int) = b:=Classical.byContradiction (fun h => c (Or.inl h))
   have c2 : rd vs (i : Int) = v:=Classical.byContradiction (fun h => c (Or.inr (Or.inl h)))
   have c3 : (i : Int) ≠ fr:=fun h => c (Or.inr (Or.inr (Or.inl h)))
   have c4 : 0 ≤ only → (i : Int) = only:=fun h0 => Classical.byContradiction (fun h => c (Or.inr (Or.inr (Or.inr ⟨h0,h⟩))))
   by_cases cr : rc = (i : Int) ∨ rc = 15
   ·rw [if_pos cr,Int.toNat_natCast]
    refine ih (i + 1) (m.set i true) ((i : Int) :: l) l2 (by omega) (mk_set hm i (fun s _ => by rw [List.mem_cons];exact ⟨fun h => h.elim (fun e => Or.inr (by omega)) Or.inl,fun h => h.elim Or.inr (fun e => Or.inl (by omega))⟩)) (fun s hs' => (h s hs').trans ⟨fun h2 => ?_,fun h2 => ?_⟩)
    ·rcases h2 with h2 | ⟨a1,a2⟩
     ·exact Or.inl (List.mem_cons_of_mem _ h2)
     ·by_cases e : s = i
      ·rw [e];exact Or.inl List.mem_cons_self
      ·exact Or.inr ⟨by omega,a2⟩
    ·rcases h2 with h2 | ⟨a1,a2⟩
     ·rcases List.mem_cons.1 h2 with e | h2
      ·have : s = i:=by omega
       subst this
       exact Or.inr ⟨Nat.le_refl _,c1,c2,c3,c4,cr⟩
      ·exact Or.inl h2
     ·exact Or.inr ⟨by omega,a2⟩
   ·rw [if_neg cr]
    refine ih (i + 1) m l l2 (by omega) hm (fun s hs' => (h s hs').trans (or_congr Iff.rfl ⟨fun ⟨a1,a2,a3,a4,a5,a6⟩ => ?_,fun ⟨a1,a2⟩ => ⟨by omega,a2⟩⟩))
    by_cases e : s = i
    ·subst e
     exact absurd a6 cr
    ·exact ⟨by omega,a2,a3,a4,a5,a6⟩
theorem rd_set (T : List Int) (i : Nat) (x : Int) (j : Nat) (hi : i < T.length) : rd (T.set i x) (j : Int) = if j = i then x else rd T (j : Int):=by
 simp only [rd,rdOf,Int.toNat_natCast,List.getD_eq_getElem?_getD,List.getElem?_set]
 by_cases e : i = j
 ·subst e
  simp [hi]
 ·rw [if_neg e,if_neg (fun h => e h.symm)]
section
variable {N : Nat} {cs : List S83} {hs vs : List Int} {F : Nat} {v rc : Int}
theorem sim_put (nv : NV N cs hs vs F v rc) {st : RN} {ss : SN} (h : Sim N cs hs st ss) {b : Nat} (hb : b < N) (y : Int) (m : Nat) : Sim N cs hs { st with T:=putN st.T b v F y,n:=m } { ss with tabs:=ss.tabs.set (atS b v F).toNat (encY y) }:=by
 obtain ⟨_,n2,n3,_,n5⟩:=netB_more nv.hn
 have hvF:=n5 F nv.hF
 rw [nv.hv] at hvF
 obtain ⟨V,rfl⟩ : ∃ V : Nat,v = (V : Int):=⟨v.toNat,by omega⟩
 have hF:=nv.hF
 refine ⟨by show (ss.tabs.set _ _).length = _;rw [List.length_set];exact h.tl,fun b2 v2 s2 hb2 hv2 hs2 => ?_,h.tk,h.ov⟩
 show rd (ss.tabs.set (atS b V F).toNat (encY y)) (atS b2 v2 s2) = encO (putN st.T b V F y b2 v2 s2)
 have e1 : (atS b V F).toNat = (b * 10 + V) * 15 + F:=by unfold atS;omega
 have e2 : atS (b2 : Int) v2 s2 = (((b2 * 10 + v2) * 15 + s2 : Nat) : Int):=by unfold atS;omega
 have hlen:=h.tl
 rw [e1,e2,rd_set _ _ _ _ (by omega)]
 unfold putN
 by_cases c : (b2 * 10 + v2) * 15 + s2 = (b * 10 + V) * 15 + F
 ·rw [if_pos c,if_pos ⟨by omega,by omega,by omega⟩]
  rfl
 ·rw [if_neg c,if_neg (fun h => c (by omega)),← e2]
  exact h.tb b2 v2 s2 hb2 hv2 hs2
theorem in_tabs (nv : NV N cs hs vs F v rc) {T : List Int} (hl : T.length = N * 150) {b : Nat} (hb : b < N) {s : Int} (h0 : 0 ≤ s) (h1 : s < 15) : inS T b v s:=by
 obtain ⟨_,n2,n3,_,n5⟩:=netB_more nv.hn
 have hvF:=n5 F nv.hF
 rw [nv.hv] at hvF
 have hN8:=(cabsB_facts nv.cab).2.1
 unfold inS atS
 exact ⟨by omega,by omega,by omega,by omega,by omega,by omega,by omega⟩
theorem kn_eq (nv : NV N cs hs vs F v rc) {st : RN} {ss : SN} (h : Sim N cs hs st ss) {b : Nat} (hb : b < N) : knS ss.tabs b v rc = encO (if rc = 15 then none else st.T b v rc):=by
 obtain ⟨_,n2,n3,_,n5⟩:=netB_more nv.hn
 have hvF:=n5 F nv.hF
 rw [nv.hv] at hvF
 unfold knS
 by_cases c : rc = 15
 ·rw [if_neg (by omega),if_pos c]
  rfl
 ·have hr : 0 ≤ rc ∧ rc < hs.length:=nv.hr.resolve_right c
  rw [if_pos (by omega),if_neg c]
  obtain ⟨V,hV⟩ : ∃ V : Nat,v = (V : Int):=⟨v.toNat,by omega⟩
  obtain ⟨R,hR⟩ : ∃ R : Nat,rc = (R : Int):=⟨rc.toNat,by omega⟩
  rw [hV,hR]
  exact h.tb b V R hb (by omega) (by omega)
theorem at_next (nv : NV N cs hs vs F v rc) {k y : Int} {b o : Nat} (hk : TJ N cs k b o) (hne : k ≠ y) (hat : AtB N cs (hmN hs F) b y) : AtB N cs (hmN hs F) o k:=by
 have hv:=nv.cab
 refine ⟨(hk.root hv).symm.trans hat.1,Or.inr ⟨b,hk.symm,Classical.byContradiction (fun h => ?_)⟩⟩
 have h1:=(sep_flip hv hk (hmN hs F)).2 h
 rcases hat.2 with ⟨_,e⟩ | ⟨o2,h2,h3⟩
 ·rw [e] at h1
  exact sep_self _ _ h1
 ·exact hne (sep_one hv (nv.home nv.hF).2 hk h2 h1 h3)
def SimOK (N : Nat) (cs : List S83) (hs vs : List Int) (F : Nat) (v rc : Int) (f : Nat) : Prop :=
 ∀ (b : Nat) (y : Int) (st st' : RN) (ss : SN),b < N → InvT N cs hs vs st.T → AtB N cs (hmN hs F) b y → comeN cs (treeX (N : Int) cs) hs vs v F rc f b y st = some st' → Sim N cs hs st ss →
  ∃ ss',comeS cs (treeX (N : Int) cs) hs vs v F rc f b (encY y) ss = some ss' ∧ Sim N cs hs st' ss' ∧ InvT N cs hs vs st'.T
theorem sim_send (nv : NV N cs hs vs F v rc) {f : Nat} (ih : SimOK N cs hs vs F v rc f) {k y : Int} {b o : Nat} (hk : TJ N cs k b o) (hne : k ≠ y) (hat : AtB N cs (hmN hs F) b y) {st st' : RN} {ss : SN} (hI : InvT N cs hs vs st.T) (h : sendN cs (comeN cs (treeX (N : Int) cs) hs vs v F rc f) b k st = some st') (hS : Sim N cs hs st ss) :
  ∃ ss',comeS cs (treeX (N : Int) cs) hs vs v F rc f o k { ss with over:=ss.over.set k.toNat true } = some ss' ∧ Sim N cs hs st' ss' ∧ InvT N cs hs vs st'.T:=by
 have hv:=nv.cab
 obtain ⟨p1,p2⟩:=tj_pos hk
 obtain ⟨K,rfl⟩ : ∃ K : Nat,k = (K : Int):=⟨k.toNat,by omega⟩
 unfold sendN at h
 split at h
 ·rw [tj_oth hv hk] at h
  have hS2 : Sim N cs hs { st with over:=st.over ++ [(K : Int)] } { ss with over:=ss.over.set (K : Int).toNat true }:=by
   refine ⟨hS.tl,hS.tb,hS.tk,?_⟩
   rw [Int.toNat_natCast]
   exact mk_set hS.ov K (fun i _ => by
    show (i : Int) ∈ st.over ++ [(K : Int)] ↔ _
    rw [List.mem_append,List.mem_singleton]
    exact or_congr Iff.rfl ⟨fun h => by omega,fun h => by omega⟩)
  have hek : encY (K : Int) = (K : Int):=by unfold encY;rw [if_neg (by omega)]
  obtain ⟨ss',h1,h2,h3⟩:=ih o K { st with over:=st.over ++ [(K : Int)] } st' _ (hk.lt hv).2 hI (at_next nv hk hne hat) h hS2
  rw [hek] at h1
  exact ⟨ss',h1,h2,h3⟩
 ·cases h
theorem enc_ne {k y : Int} (hk : 0 ≤ k) : k = encY y ↔ k = y:=by
 unfold encY
 split
 ·omega
 ·exact Iff.rfl
theorem sim_flood (nv : NV N cs hs vs F v rc) {f : Nat} (ih : SimOK N cs hs vs F v rc f) {y : Int} {b : Nat} (hat : AtB N cs (hmN hs F) b y) (l : List Int) :
  (∀ k ∈ l,k ∈ treeX (N : Int) cs) → ∀ (st st' : RN) (ss : SN),InvT N cs hs vs st.T → floodN cs (comeN cs (treeX (N : Int) cs) hs vs v F rc f) b y l st = some st' → Sim N cs hs st ss →
  ∃ ss',floodS cs (comeS cs (treeX (N : Int) cs) hs vs v F rc f) b (encY y) (-1) l ss = some ss' ∧ Sim N cs hs st' ss' ∧ InvT N cs hs vs st'.T:=by
 have hv:=nv.cab
 induction l with
 | nil =>
  intro _ st st' ss hI h hS
  obtain rfl:=Option.some.inj h
  exact ⟨ss,rfl,hS,hI⟩
 | cons k l ihl =>
  intro htr st st' ss hI h hS
  have htr2 : ∀ k ∈ l,k ∈ treeX (N : Int) cs:=fun j hj => htr j (List.mem_cons_of_mem _ hj)
  have hkp:=treeX_in (htr k List.mem_cons_self)
  rw [floodN] at h
  rw [floodS]
  rcases oth_tj hv (htr k List.mem_cons_self) b with ⟨o,h1,h2⟩ | ⟨h1,h2⟩
  ·rw [h1] at h ⊢
   by_cases hky : k = y
   ·rw [if_neg (fun h => h.2 hky)] at h
    rw [if_pos (Or.inr (Or.inl ((enc_ne hkp.1).2 hky)))]
    exact ihl htr2 st st' ss hI h hS
   ·rw [if_pos ⟨rfl,hky⟩] at h
    obtain ⟨st1,s1,s2⟩:=Option.bind_eq_some_iff.1 h
    obtain ⟨ss1,g1,g2,g3⟩:=sim_send nv ih h2 hky hat hI s1 hS
    rw [if_neg (fun h => h.elim (fun h => by simp at h;omega) (fun h => h.elim (fun h => hky ((enc_ne hkp.1).1 h)) (fun h => by omega)))]
    have g1' : comeS cs (treeX (N : Int) cs) hs vs v F rc f ((some (o : Int)).getD (-1)) k { ss with over:=ss.over.set k.toNat true } = some ss1:=g1
    rw [g1',Option.bind_some]
    exact ihl htr2 st1 st' ss1 g3 s2 g2
  ·rw [h1] at h ⊢
   rw [if_neg (fun h => by cases h.1)] at h
   rw [if_pos (Or.inl (by decide))]
   exact ihl htr2 st st' ss hI h hS
theorem flood_one {go : Int → Int → SN → Option SN} {b y x : Int} (hx : 0 ≤ x) (l : List Int) : l.Nodup → ∀ ss : SN,floodS cs go b y x l ss = if x ∈ l ∧ ¬ ((othX (rd_T83 cs x) b).getD (-1) < 0 ∨ x = y) then go ((othX (rd_T83 cs x) b).getD (-1)) x { ss with over:=ss.over.set x.toNat true } else some ss:=by
 induction l with
 | nil => intro _ ss;rw [floodS,if_neg (fun h => by cases h.1)]
 | cons k l ihl =>
  intro hnd ss
  obtain ⟨n1,n2⟩:=List.nodup_cons.1 hnd
  rw [floodS]
  by_cases hk : k = x
  ·subst hk
   have hrest : ∀ ss : SN,floodS cs go b y k l ss = some ss:=fun ss => by rw [ihl n2,if_neg (fun h => n1 h.1)]
   by_cases c : (othX (rd_T83 cs k) b).getD (-1) < 0 ∨ k = y
   ·rw [if_pos (c.elim Or.inl (fun h => Or.inr (Or.inl h))),if_neg (fun h => h.2 c)]
    exact hrest ss
   ·rw [if_neg (fun h => c (h.elim Or.inl (fun h => h.elim Or.inr (fun h => absurd rfl h.2)))),if_pos ⟨List.mem_cons_self,c⟩]
    rw [show floodS cs go b y k l = fun ss => some ss from funext hrest]
    cases go ((othX (rd_T83 cs k) b).getD (-1)) k { ss with over:=ss.over.set k.toNat true } <;> rfl
  ·rw [if_pos (Or.inr (Or.inr ⟨hx,hk⟩)),ihl n2]
   have : (x ∈ k :: l ↔ x ∈ l):=by rw [List.mem_cons];exact ⟨fun h => h.resolve_left (fun e => hk e.symm),Or.inr⟩
   simp only [this]
theorem sim_come (nv : NV N cs hs vs F v rc) (f : Nat) : SimOK N cs hs vs F v rc f:=by
 have hv:=nv.cab
 induction f with
 | zero => intro b y st st' ss _ _ _ h;cases h
 | succ f ih =>
  intro b y st st' ss hb hI hat h hS
  obtain ⟨m1,m2,m3,n5⟩:=netB_more nv.hn
  have hI1:=inv_put nv hI hb hat
  have hS1:=sim_put nv hS hb y (st.n + 1)
  have hkn:=kn_eq nv hS1 hb
  have hkn2 : knS (ss.tabs.set (atS b v F).toNat (encY y)) b v rc = encO (if rc = 15 then none else putN st.T b v F y b v rc):=hkn
  obtain ⟨hp1,hp2,hp3,hp4⟩:=comeN_pos h
  unfold comeN at h
  rw [if_pos ⟨hp1,hp2,hp3,hp4⟩] at h
  unfold comeS
  have hin : inS ss.tabs b v F ∧ inS ss.tabs b v (if rc < 15 then rc else 0):=by
   have hF:=nv.hF
   refine ⟨in_tabs nv hS.tl hb (by omega) (by omega),?_⟩
   split
   ·rename_i h15
    rcases nv.hr with hr | hr
    ·exact in_tabs nv hS.tl hb hr.1 (by omega)
    ·omega
   ·exact in_tabs nv hS.tl hb (by omega) (by omega)
  rw [if_pos hin,hkn2]
  cases hm : (if rc = 15 then none else putN st.T b v F y b v rc) with
  | some x =>
   rw [hm] at h
   simp only [] at h
   have h15 : rc ≠ 15:=fun h => by rw [if_pos h] at hm;cases hm
   rw [if_neg h15] at hm
   obtain ⟨B,R,e1,e2,hB,hR,hvR,hrt,hx⟩:=hI1 _ _ _ _ hm
   obtain rfl : b = B:=by omega
   subst e2
   by_cases hx1 : x = -1
   ·have hbR : b = hmN hs R := by
     rcases hx with h | ⟨o,h,_⟩
     ·exact h.2
     ·have:=(tj_pos h).1
      omega
    rw [if_pos hx1] at h
    obtain rfl:=Option.some.inj h
    have hen : encO (some x) = -2:=by show encY x = -2;unfold encY;rw [if_pos hx1]
    rw [hen,if_pos rfl]
    refine ⟨_,rfl,⟨hS1.tl,hS1.tb,?_,hS1.ov⟩,hI1⟩
    refine give_mk hs vs b v F R R hs.length hs.length 0 ss.took st.took _ (by omega) hS.tk (fun s hsl => ?_)
    show (s : Int) ∈ takeN F R R st.took ↔ _
    rw [takeN_mem]
    refine or_congr Iff.rfl ⟨fun ⟨a1,a2,a3⟩ => ?_,fun ⟨a1,a2,a3,a4,a5,a6⟩ => ⟨a5 (by omega),by have:=a5 (by omega);omega,Or.inl rfl⟩⟩
    have e : s = R:=by omega
    subst e
    exact ⟨Nat.zero_le _,by rw [(nv.home hR).1,hbR],hvR.symm,by omega,fun _ => rfl,Or.inl rfl⟩
   ·rw [if_neg hx1] at h
    obtain ⟨o,hk,hsx⟩ : ∃ o,TJ N cs x b o ∧ Sep N cs x b (hmN hs R):=by
     rcases hx with h | h
     ·exact absurd h.1 hx1
     ·exact h
    obtain ⟨x0,xl⟩:=tj_pos hk
    have hen : encO (some x) = x:=by show encY x = x;unfold encY;rw [if_neg hx1]
    rw [hen,if_neg (by omega),flood_one x0 _ (tree_nodup hv)]
    by_cases hxy : x = y
    ·rw [if_pos hxy] at h
     obtain rfl:=Option.some.inj h
     rw [if_neg (fun h => h.2 (Or.inr ((enc_ne x0).2 hxy))),Option.bind_some,if_neg (by omega)]
     exact ⟨_,rfl,hS1,hI1⟩
    ·rw [if_neg hxy,if_pos ⟨x0,xl⟩] at h
     obtain ⟨ss1,g1,g2,g3⟩:=sim_send nv ih hk hxy hat (st:={ st with T:=putN st.T b v F y,n:=st.n + 1 }) hI1 h hS1
     have g1' : comeS cs (treeX (N : Int) cs) hs vs v F R f ((some (o : Int)).getD (-1)) x { tabs:=ss.tabs.set (atS b v F).toNat (encY y),took:=ss.took,over:=ss.over.set x.toNat true } = some ss1:=g1
     rw [tj_oth hv hk,if_pos ⟨tj_tree hv hk,fun h => h.elim (fun h => by simp at h;omega) (fun h => hxy ((enc_ne x0).1 h))⟩,g1',Option.bind_some,if_neg (by omega)]
     exact ⟨ss1,rfl,g2,g3⟩
  | none =>
   rw [hm] at h
   simp only [] at h
   have hen : encO none = -1:=rfl
   rw [hen,if_neg (by decide)]
   obtain ⟨st2,s1,s2⟩:=Option.bind_eq_some_iff.1 h
   obtain ⟨ss2,g1,g2,g3⟩:=sim_flood nv ih hat (treeX (N : Int) cs) (fun _ h => h) _ _ _ hI1 s1 hS1
   have g1' : floodS cs (comeS cs (treeX (N : Int) cs) hs vs v F rc f) b (encY y) (-1) (treeX (N : Int) cs) { tabs:=ss.tabs.set (atS b v F).toNat (encY y),took:=ss.took,over:=ss.over } = some ss2:=g1
   rw [g1',Option.bind_some,if_pos (by decide)]
   unfold leaveN at s2
   split at s2
   ·obtain rfl:=Option.some.inj s2
    refine ⟨_,rfl,⟨g2.tl,g2.tb,?_,g2.ov⟩,g3⟩
    refine give_mk hs vs b v F rc (-1) hs.length hs.length 0 ss2.took st2.took _ (by omega) g2.tk (fun s hsl => ?_)
    refine ((stN_mem hs vs (b : Int) v (F : Int) rc hs.length 0 st2.took).1 s).trans (or_congr Iff.rfl ⟨fun ⟨S,a1,a2,a3,a4,a5,a6,a7⟩ => ?_,fun ⟨a1,a2,a3,a4,a5,a6⟩ => ⟨s,a1,by omega,rfl,a2,a3,a4,a6⟩⟩)
    have e : s = S:=by omega
    subst e
    exact ⟨a1,a4,a5,a6,fun h => by omega,a7⟩
   ·cases s2
end

end Go.Proofs.Ytblcnbnphjnhdaa.PAll

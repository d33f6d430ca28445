/- Proved here: contracts of functions of the given program, or lemmas on them, for the laws of this seat. Written by xprint.py, a program of this session, on the ground of the kit's print; parts by hand: wip/x/ext. -/
import Derived.Test.YtblcnbnphjnhdaaDoorPAllx0
namespace Go.Proofs.YtblcnbnphjnhdaaDoor.PAll
open Go.RowKit Go.Proofs.YtblcnbnphjnhdaaDoorW.PrintWords Go.Proofs.YtblcnbnphjnhdaaDoorW.PrintLast Go.Proofs.YtblcnbnphjnhdaaDoorW.PrintMore
attribute [local go_sem] max2_int min2_int max_two min_two max_three min_three max_four min_four   -- for this text's walks alone
set_option linter.unusedVariables false
set_option linter.unusedSimpArgs false

/-! ### impl_within: function 27 -/
def impl_within.f (a0 : Int) (a1 : Int) (a2 : Int) : Option (Bool):=if a1 ≤ a0 then (some (decide (a0 ≤ a2))) else (some false)
set_option maxHeartbeats 8000000 in
set_option maxRecDepth 100000 in
theorem impl_within.calls (a0 : Int) (a1 : Int) (a2 : Int) (r : Bool) (w : World) (h : impl_within.f a0 a1 a2 = some r) :
  Calls Tryd.prog 27 #[.int .i64 a0,.int .i64 a1,.int .i64 a2] w fun e w' => e = .returned (.bool r) ∧ Drawn0 w w':=by
 have H : (if a1 ≤ a0 then (some (decide (a0 ≤ a2))) else (some false)) = some r:=h
 clear h
 by_cases c4 : a1 ≤ a0
 ·rw [if_pos c4] at H
  have c4b0 : decide (a1 ≤ a0) = true:=decide_eq_true c4
  clear c4
  obtain rfl:=Option.some.inj H
  go_enter Tryd.func27,Tryd.ntmps27
  go_wp2
  go_ret
  exact ⟨by first|rfl|(simp;done)|(simp [*];done),by repeat (first|exact Drawn0.refl _|apply Drawn0.step)⟩
 ·rw [if_neg c4] at H
  have c4b0 : decide (a1 ≤ a0) = false:=decide_eq_false c4
  clear c4
  obtain rfl:=Option.some.inj H
  go_enter Tryd.func27,Tryd.ntmps27
  go_wp2
  go_ret
  exact ⟨by first|rfl|(simp;done)|(simp [*];done),by repeat (first|exact Drawn0.refl _|apply Drawn0.step)⟩

-- LIB preds
def PredB {α : Type} (P : Program) (g : Nat) (lb : Array Value) (enc : α → Value) (p : α → Bool) (w : World) : Prop :=
 ∀ (W : World) (x : α),Below w.heap.size w W → Calls P g (#[enc x] ++ lb) W fun e w' => e = .returned (.bool (p x)) ∧ Below W.heap.size W w'

-- LIB preds
theorem PredB.later {α : Type} {P : Program} {g : Nat} {lb : Array Value} {enc : α → Value} {p : α → Bool} {w W : World} (h : PredB P g lb enc p w) (hb : Below w.heap.size w W) : PredB P g lb enc p W :=
 fun W' x hb' => h W' x (hb.trans (hb'.mono hb.size))

-- LIB preds
def idxL {α : Type} (p : α → Bool) : List α → Nat → Int
 | [],_ => -1
 | x :: xs,k => if p x then (k : Int) else idxL p xs (k + 1)

-- LIB preds
theorem idxL_iff {α : Type} (p : α → Bool) (l : List α) (k : Nat) : 0 ≤ idxL p l k ↔ l.any p = true:=by
 induction l generalizing k with
 | nil => exact ⟨fun h => absurd h (by simp [idxL]),fun h => absurd h (by simp)⟩
 | cons x xs ih =>
  by_cases hp : p x = true
  ·have e : idxL p (x :: xs) k = (k : Int):=if_pos hp
   rw [e]
   exact ⟨fun _ => by simp [hp],fun _ => by omega⟩
  ·have e : idxL p (x :: xs) k = idxL p xs (k + 1):=if_neg hp
   rw [e,ih]
   simp [Bool.eq_false_iff.mpr hp]

-- LIB preds
theorem idxL_any {α : Type} (p : α → Bool) (l : List α) (k : Nat) : decide (0 ≤ idxL p l k) = l.any p:=by
 have h:=idxL_iff p l k
 cases ha : l.any p with
 | true => exact decide_eq_true (h.2 ha)
 | false => exact decide_eq_false (fun h0 => by rw [h.1 h0] at ha;cases ha)

-- LIB preds
theorem idxL_drop {α : Type} [Inhabited α] (p : α → Bool) (l : List α) (k : Nat) (h : k < l.length) : idxL p (l.drop k) k = if p (l.getD k default) then (k : Int) else idxL p (l.drop (k + 1)) (k + 1):=by
 rw [List.drop_eq_getElem_cons h,idxL]
 simp [List.getD_eq_getElem?_getD,h]

-- LIB preds
theorem below_step {w W W' : World} (h : Below w.heap.size w W) (h' : Below W.heap.size W W') : Below w.heap.size w W':=h.trans (h'.mono h.size)

-- LIB preds
theorem rd_getD (l : List Int) (k : Nat) : rd l (k : Int) = l.getD k default:=by simp [rd]

-- LIB preds
theorem blk_new_at {w : World} (o : Obj) (n : Nat) (h : w.heap.size = n) : (w.alloc o).heap[n]? = some o:=h ▸ blk_new w o

-- LIB allcab
theorem rdCab_get (l : List S71) (i : Nat) (h : i < l.length) : rd_T71 l (i : Int) = l[i]:=by simp [rd_T71,List.getD_eq_getElem?_getD,h]

-- LIB allcab
theorem any_not_allc {α : Type} (p : α → Bool) (l : List α) : (!l.any fun x => !p x) = l.all p:=by
 induction l with
 | nil => rfl
 | cons x xs ih => simp only [List.any_cons,List.all_cons,Bool.not_or,Bool.not_not,ih]

-- LIB allcab
def encCab (x : S71) : Value:=.agg #[.int .i64 x.f0,.int .i64 x.f1,.int .i64 x.f2]

-- LIB allcab
set_option maxHeartbeats 4000000 in
set_option maxRecDepth 100000 in
theorem x_IndexFunc_cab (p : S71 → Bool) (g : Nat) (lb : Array Value) (eg : ∀ args w, (callFunc g args).run Tryd.prog w = .ok (.enter g args) w) (A0 : Option Addr) (c0 : Nat) (l0 : List S71) (w : World)
  (hp : PredB Tryd.prog g lb encCab p w) (hr0 : Kd.C k71 w A0 l0.length l0) :
  Calls Tryd.prog 80 #[.slice A0 l0.length c0,.func (.func g) #[] lb] w fun e w' => e = .returned (.int .i64 (idxL p l0 0)) ∧ Below w.heap.size w w':=by
 have hlen:=Kd.C_max hr0
 have HR:=Aside0.mk hr0
 have HP:=Aside0.mk hp
 clear hr0 hp
 have hu:=Tryd.underlying71
 go_enter Tryd.func80,Tryd.ntmps80
 go_wp2
 go_loopg [5,8] l0.length (fun gg _ s8 wr => ∃ kk : Nat,kk ≤ l0.length ∧ l0.length - kk ≤ gg ∧ s8 = .int .i64 kk ∧ Aside0 (Below w.heap.size w wr) ∧ Aside0 (idxL p (l0.drop kk) kk = idxL p l0 0))
 case atStart => exact ⟨0,Nat.zero_le _,by omega,rfl,⟨Below.refl _ w⟩,⟨rfl⟩⟩
 case round =>
  obtain ⟨kk,hkk,hg,rfl,BW,HI⟩:=hrel
  by_cases hlt : kk < l0.length
  ·obtain ⟨ad,e,hx0,hx1,hx2⟩:=at_T71 (Kd.C_below HR.out BW.out) (kk : Int) (by omega) (by omega)
   cases e
   rw [Int.toNat_natCast] at hx0 hx1 hx2
   obtain ⟨y,hy⟩ : ∃ y,y = rd_T71 l0 (kk : Int):=⟨_,rfl⟩
   rw [← hy] at hx0 hx1 hx2
   have hcall:=HP.out wr y BW.out
   unfold encCab at hcall
   have HD : Aside0 (idxL p l0 0 = if p y then (kk : Int) else idxL p (l0.drop (kk + 1)) (kk + 1)):=⟨by rw [← HI.out,List.drop_eq_getElem_cons hlt,idxL,hy,rdCab_get l0 kk hlt]⟩
   clear hy
   cases hq : p y with
   | true =>
    rw [hq] at hcall
    have HQ:=Aside0.mk hq
    clear hq
    go_wp2_with (go_at_fn g;refine hcall.mono ?_;rintro e w' ⟨rfl,hb'⟩)
    go_ret
    exact ⟨by rw [HD.out,HQ.out];rfl,below_step BW.out hb'⟩
   | false =>
    rw [hq] at hcall
    have HQ:=Aside0.mk hq
    clear hq
    go_wp2_with (go_at_fn g;refine hcall.mono ?_;rintro e w' ⟨rfl,hb'⟩)
    go_roundg (l0.length - (kk + 1))
    case measure => omega
    case rel => exact ⟨kk + 1,by omega,by omega,by go_num,⟨below_step BW.out hb'⟩,⟨by rw [HD.out,HQ.out];rfl⟩⟩
  ·have e : kk = l0.length:=by omega
   subst e
   go_wp2
   go_ret
   exact ⟨by rw [← HI.out,List.drop_length];rfl,BW.out⟩

-- LIB allcab
set_option maxHeartbeats 4000000 in
set_option maxRecDepth 100000 in
theorem x_ContainsFunc_cab (p : S71 → Bool) (g : Nat) (lb : Array Value) (eg : ∀ args w, (callFunc g args).run Tryd.prog w = .ok (.enter g args) w) (A0 : Option Addr) (c0 : Nat) (l0 : List S71) (w : World)
  (hp : PredB Tryd.prog g lb encCab p w) (hr0 : Kd.C k71 w A0 l0.length l0) :
  Calls Tryd.prog 62 #[.slice A0 l0.length c0,.func (.func g) #[] lb] w fun e w' => e = .returned (.bool (l0.any p)) ∧ Below w.heap.size w w':=by
 have hcall:=x_IndexFunc_cab p g lb eg A0 c0 l0 w hp hr0
 have HA:=Aside0.mk (idxL_any p l0 0)
 obtain ⟨z,hz⟩ : ∃ z,z = idxL p l0 0:=⟨_,rfl⟩
 rw [← hz] at hcall HA
 clear hp hr0 hz
 go_enter Tryd.func62,Tryd.ntmps62
 go_wp2_with (go_at_call 80;refine hcall.mono ?_;rintro e w' ⟨rfl,hb'⟩)
 go_ret
 exact ⟨by rw [← HA.out];rfl,hb'⟩


-- LIB allcab
set_option maxHeartbeats 4000000 in
set_option maxRecDepth 100000 in
theorem x_all_cab_1 {p : S71 → Bool} {g : Nat} {lb : Array Value} (eg : ∀ args w, (callFunc g args).run Tryd.prog w = .ok (.enter g args) w) {b : Nat} {w : World}
  (hp : PredB Tryd.prog g lb encCab p w) (hb : b < w.heap.size) (hc : w.cell? ⟨b,0,none⟩ = some (.func (.func g) #[] lb)) :
  PredB Tryd.prog 63 #[.pointer (some ⟨b,0,none⟩)] encCab (fun x => !p x) w:=by
 intro W x hB
 have hu:=Tryd.underlying71
 have hB2 : Below W.heap.size W (W.alloc (.cells #[.int .i64 x.f0,.int .i64 x.f1,.int .i64 x.f2] 71)):=(Below.refl _ W).alloc (Nat.le_refl _) _
 have hc':=(hB.cell (p:=⟨b,0,none⟩) hb).trans hc
 have hbW : b < W.heap.size:=Nat.lt_of_lt_of_le hb hB.size
 have hcall:=hp _ x (below_step hB hB2)
 have HB2:=Aside0.mk hB2
 clear hp hc hB hb hB2
 unfold encCab at hcall ⊢
 go_enter Tryd.func63,Tryd.ntmps63
 go_wp2_with (go_at_fn g;refine hcall.mono ?_;rintro e w' ⟨rfl,hb'⟩)
 go_ret
 exact ⟨rfl,below_step HB2.out hb'⟩

-- LIB allcab
set_option maxHeartbeats 4000000 in
set_option maxRecDepth 100000 in
theorem x_all_cab (p : S71 → Bool) (g : Nat) (lb : Array Value) (eg : ∀ args w, (callFunc g args).run Tryd.prog w = .ok (.enter g args) w) (A0 : Option Addr) (c0 : Nat) (l0 : List S71) (w : World)
  (hp : PredB Tryd.prog g lb encCab p w) (hr0 : Kd.C k71 w A0 l0.length l0) :
  Calls Tryd.prog 51 #[.slice A0 l0.length c0,.func (.func g) #[] lb] w fun e w' => e = .returned (.bool (l0.all p)) ∧ Below w.heap.size w w':=by
 have hmf : ∀ (fn : Fn) (first cap : Array Value) (w : World),(Instr.makeFunc fn first cap).run Tryd.prog w = .ok (.func fn first cap) w:=fun _ _ _ _ => rfl
 have hb0 : Below w.heap.size w (w.alloc (.cells #[.func (.func g) #[] lb] 86)):=(Below.refl _ w).alloc (Nat.le_refl _) _
 have hcall:=x_ContainsFunc_cab (fun x => !p x) 63 #[.pointer (some ⟨w.heap.size,0,none⟩)] (enters_of Tryd.func63 (by kernel_rfl) rfl) A0 c0 l0 _ (x_all_cab_1 eg (hp.later hb0) (by simp) (by simp)) (Kd.C_below hr0 hb0)
 have HB0:=Aside0.mk hb0
 clear hp hr0 hb0
 go_enter Tryd.func51,Tryd.ntmps51
 go_wp2_with (go_at_call 62;refine hcall.mono ?_;rintro e w' ⟨rfl,hb'⟩)
 go_ret
 exact ⟨by rw [any_not_allc];rfl,below_step HB0.out hb'⟩

-- LIB cabs
def cabB (n : Int) (x : S71) : Bool:=(decide (0 ≤ x.f0) && decide (x.f0 ≤ wrap64 (n - 1))) && ((decide (0 ≤ x.f1) && decide (x.f1 ≤ wrap64 (n - 1))) && ((x.f0 != x.f1) && (decide (1 ≤ x.f2) && decide (x.f2 ≤ 99))))

-- LIB cabs
def cabsB (n : Int) (l : List S71) : Bool:=(decide (1 ≤ n) && decide (n ≤ 8)) && (decide (l.length ≤ 20) && l.all (cabB n))

-- LIB cabs
theorem cabsB_facts {n : Int} {l : List S71} (h : cabsB n l = true) : 1 ≤ n ∧ n ≤ 8 ∧ l.length ≤ 20 ∧ ∀ x ∈ l,0 ≤ x.f0 ∧ x.f0 < n ∧ 0 ≤ x.f1 ∧ x.f1 < n ∧ x.f0 ≠ x.f1 ∧ 1 ≤ x.f2 ∧ x.f2 ≤ 99:=by
 unfold cabsB at h
 simp only [Bool.and_eq_true,decide_eq_true_eq,List.all_eq_true] at h
 obtain ⟨⟨h1,h2⟩,h3,h4⟩:=h
 refine ⟨h1,h2,h3,fun x hx => ?_⟩
 have:=h4 x hx
 unfold cabB at this
 have e : wrap64 (n - 1) = n - 1:=by unfold wrap64;omega
 rw [e] at this
 simp only [Bool.and_eq_true,decide_eq_true_eq,bne_iff_ne] at this
 omega

-- LIB pbase
theorem wrap_eq {x : Int} (h1 : -9223372036854775808 ≤ x) (h2 : x ≤ 9223372036854775807) : wrap64 x = x:=by unfold wrap64;omega

-- LIB pbase
theorem wrap_succ {i n : Nat} (h : i < n) (hn : n ≤ 9223372036854775807) : wrap64 ((i : Int) + 1) = ((i + 1 : Nat) : Int):=by rw [wrap_eq (by omega) (by omega)];rfl

-- LIB pbase
theorem rd_get (l : List Int) (i : Nat) (h : i < l.length) : rd l (i : Int) = l[i]:=by simp [rd,List.getD_eq_getElem?_getD,h]

-- LIB within
theorem win_is (n a b : Int) : impl_within.f n a b = some (decide (a ≤ n) && decide (n ≤ b)):=by
 unfold impl_within.f
 by_cases h : a ≤ n <;> simp [h]

-- LIB within
theorem x_win (n a b : Int) (W : World) : Calls Tryd.prog 27 #[.int .i64 n,.int .i64 a,.int .i64 b] W fun e w' => e = .returned (.bool (decide (a ≤ n) && decide (n ≤ b))) ∧ Below W.heap.size W w' :=
 (impl_within.calls n a b _ W (win_is n a b)).mono fun e w' ⟨he,hd⟩ => ⟨he,hd.below⟩

/-! ### impl_CablesValid: function 24 (by hand) -/
set_option maxHeartbeats 4000000 in
set_option maxRecDepth 100000 in
theorem x_CablesValid_1 {n : Int} {b : Nat} {w : World} (hb : b < w.heap.size) (hc : w.cell? ⟨b,0,none⟩ = some (.int .i64 n)) :
  PredB Tryd.prog 52 #[.pointer (some ⟨b,0,none⟩)] encCab (cabB n) w:=by
 intro W x hB
 have hu:=Tryd.underlying71
 have HC:=mk_ (fun W' (h : Below W.heap.size W W') => (st_ hB h).cell (p:=⟨b,0,none⟩) hb |>.trans hc)
 have hB0 : Below W.heap.size W (W.alloc (.cells #[.int .i64 x.f0,.int .i64 x.f1,.int .i64 x.f2] 71)):=(Below.refl _ W).alloc (Nat.le_refl _) _
 have hN0:=blk_new W (.cells #[.int .i64 x.f0,.int .i64 x.f1,.int .i64 x.f2] 71)
 have h0:=HC.out _ hB0
 have hbW : b < W.heap.size:=Nat.lt_of_lt_of_le hb hB.size
 have HB0:=mk_ hB0
 have HN0:=mk_ hN0
 have hc':=(hB.cell (p:=⟨b,0,none⟩) hb).trans hc
 clear hc hB hb hB0 hN0
 unfold encCab
 have HZ : Aside0 (cabB n x = ((decide (0 ≤ x.f0) && decide (x.f0 ≤ wrap64 (n - 1))) && ((decide (0 ≤ x.f1) && decide (x.f1 ≤ wrap64 (n - 1))) && ((x.f0 != x.f1) && (decide (1 ≤ x.f2) && decide (x.f2 ≤ 99)))))):=⟨rfl⟩
 generalize cabB n x = z at HZ ⊢
 generalize x.f0 = a1 at *
 generalize x.f1 = a2 at *
 generalize x.f2 = a3 at *
 clear x
 obtain ⟨m,hm⟩ : ∃ m,m = wrap64 (n - 1):=⟨_,rfl⟩
 rw [← hm] at HZ
 have y1 : IntKind.i64.wrap (n - 1) = m:=(i64_w _).trans hm.symm
 have hw1:=fun W => x_win a1 0 m W
 have hw2:=fun W => x_win a2 0 m W
 have hw3:=fun W => x_win a3 1 99 W
 clear hm
 generalize (decide (0 ≤ a1) && decide (a1 ≤ m)) = z1 at HZ hw1
 generalize (decide (0 ≤ a2) && decide (a2 ≤ m)) = z2 at HZ hw2
 generalize (decide (1 ≤ a3) && decide (a3 ≤ 99)) = z3 at HZ hw3
 cases z1 with
 | false =>
  have HZ2 : Aside0 (z = false):=⟨by rw [HZ.out];rfl⟩
  go_enter Tryd.func52,Tryd.ntmps52
  go_wp2_with fail
  refine (hw1 _).mono ?_
  rintro e w1 ⟨rfl,hb1⟩
  go_wp2_with fail
  go_ret
  exact ⟨by rw [HZ2.out];rfl,st_ HB0.out hb1⟩
 | true =>
 cases z2 with
 | false =>
  have HZ2 : Aside0 (z = false):=⟨by rw [HZ.out];rfl⟩
  go_enter Tryd.func52,Tryd.ntmps52
  go_wp2_with fail
  refine (hw1 _).mono ?_
  rintro e w1 ⟨rfl,hb1⟩
  have q1 : w1.cell? ⟨b,0,none⟩ = some (.int .i64 n):=HC.out w1 (st_ HB0.out hb1)
  have c1 : w1.cell? ⟨W.heap.size,1,none⟩ = some (.int .i64 a2):=(bc_ (blk_below HN0.out hb1) 1).trans rfl
  have HB1:=mk_ (st_ HB0.out hb1)
  clear hb1
  go_wp2_with fail
  refine (hw2 _).mono ?_
  rintro e w2 ⟨rfl,hb2⟩
  go_wp2_with fail
  go_ret
  exact ⟨by rw [HZ2.out];rfl,st_ HB1.out hb2⟩
 | true =>
 by_cases hne : a1 = a2
 ·have HZ2 : Aside0 (z = false):=⟨by rw [HZ.out,bne_eq_false_iff_eq.mpr hne];rfl⟩
  have hd : (a1 != a2) = false:=bne_eq_false_iff_eq.mpr hne
  clear hne
  go_enter Tryd.func52,Tryd.ntmps52
  go_wp2_with fail
  refine (hw1 _).mono ?_
  rintro e w1 ⟨rfl,hb1⟩
  have q1 : w1.cell? ⟨b,0,none⟩ = some (.int .i64 n):=HC.out w1 (st_ HB0.out hb1)
  have c1 : w1.cell? ⟨W.heap.size,1,none⟩ = some (.int .i64 a2):=(bc_ (blk_below HN0.out hb1) 1).trans rfl
  have HB1:=mk_ (st_ HB0.out hb1)
  have HN1:=mk_ (blk_below HN0.out hb1)
  clear hb1
  go_wp2_with fail
  refine (hw2 _).mono ?_
  rintro e w2 ⟨rfl,hb2⟩
  have d0 : w2.cell? ⟨W.heap.size,0,none⟩ = some (.int .i64 a1):=(bc_ (blk_below HN1.out hb2) 0).trans rfl
  have d1 : w2.cell? ⟨W.heap.size,1,none⟩ = some (.int .i64 a2):=(bc_ (blk_below HN1.out hb2) 1).trans rfl
  have HB2:=mk_ (st_ HB1.out hb2)
  clear hb2 q1 c1
  go_wp2_with fail
  go_ret
  exact ⟨by rw [HZ2.out];rfl,HB2.out⟩
 ·have HZ2 : Aside0 (z = z3):=⟨by rw [HZ.out,bne_iff_ne.mpr hne];rfl⟩
  have hd : (a1 != a2) = true:=bne_iff_ne.mpr hne
  clear hne
  go_enter Tryd.func52,Tryd.ntmps52
  go_wp2_with fail
  refine (hw1 _).mono ?_
  rintro e w1 ⟨rfl,hb1⟩
  have q1 : w1.cell? ⟨b,0,none⟩ = some (.int .i64 n):=HC.out w1 (st_ HB0.out hb1)
  have c1 : w1.cell? ⟨W.heap.size,1,none⟩ = some (.int .i64 a2):=(bc_ (blk_below HN0.out hb1) 1).trans rfl
  have HB1:=mk_ (st_ HB0.out hb1)
  have HN1:=mk_ (blk_below HN0.out hb1)
  clear hb1
  go_wp2_with fail
  refine (hw2 _).mono ?_
  rintro e w2 ⟨rfl,hb2⟩
  have d0 : w2.cell? ⟨W.heap.size,0,none⟩ = some (.int .i64 a1):=(bc_ (blk_below HN1.out hb2) 0).trans rfl
  have d1 : w2.cell? ⟨W.heap.size,1,none⟩ = some (.int .i64 a2):=(bc_ (blk_below HN1.out hb2) 1).trans rfl
  have d2 : w2.cell? ⟨W.heap.size,2,none⟩ = some (.int .i64 a3):=(bc_ (blk_below HN1.out hb2) 2).trans rfl
  have HB2:=mk_ (st_ HB1.out hb2)
  clear hb2 q1 c1
  go_wp2_with fail
  refine (hw3 _).mono ?_
  rintro e w3 ⟨rfl,hb3⟩
  go_wp2_with fail
  go_ret
  exact ⟨by rw [HZ2.out];rfl,st_ HB2.out hb3⟩
def impl_CablesValid.f (a0 : Int) (l1 : List (S71)) : Option (Bool) :=
 some (cabsB a0 l1)
set_option maxHeartbeats 4000000 in
set_option maxRecDepth 100000 in
theorem impl_CablesValid.calls (a0 : Int) (A1 : Option Addr) (c1 : Nat) (l1 : List (S71)) (r : Bool) (w : World) (hr1 : Kd.C k71 w A1 l1.length l1) (hc1 : l1.length ≤ c1) (h : impl_CablesValid.f a0 l1 = some r) :
  Calls Tryd.prog 24 #[.int .i64 a0,.slice A1 l1.length c1] w fun e w' => e = .returned (.bool r) ∧ Below w.heap.size w w':=by
 obtain rfl:=Option.some.inj h
 have hlen:=Kd.C_max hr1
 have hmf : ∀ (fn : Fn) (first cap : Array Value) (w : World),(Instr.makeFunc fn first cap).run Tryd.prog w = .ok (.func fn first cap) w:=fun _ _ _ _ => rfl
 have hb0 : Below w.heap.size w (w.alloc (.cells #[.int .i64 a0] 3)):=(Below.refl _ w).alloc (Nat.le_refl _) _
 have hp0 : PredB Tryd.prog 52 #[.pointer (some ⟨w.heap.size,0,none⟩)] encCab (cabB a0) (w.alloc (.cells #[.int .i64 a0] 3)):=x_CablesValid_1 (by simp) (by simp)
 have hw0:=x_win a0 1 8 (w.alloc (.cells #[.int .i64 a0] 3))
 have HA : Aside0 (∀ W,Below (w.alloc (.cells #[.int .i64 a0] 3)).heap.size (w.alloc (.cells #[.int .i64 a0] 3)) W → Calls Tryd.prog 51 #[.slice A1 l1.length c1,.func (.func 52) #[] #[.pointer (some ⟨w.heap.size,0,none⟩)]] W fun e w' => e = .returned (.bool (l1.all (cabB a0))) ∧ Below W.heap.size W w'):=⟨fun W hW => x_all_cab (cabB a0) 52 _ (enters_of Tryd.func52 (by kernel_rfl) rfl) A1 c1 l1 W (hp0.later hW) (cb_ hr1 (st_ hb0 hW))⟩
 have HB0:=mk_ hb0
 have HZ : Aside0 (cabsB a0 l1 = ((decide (1 ≤ a0) && decide (a0 ≤ 8)) && (decide (l1.length ≤ 20) && l1.all (cabB a0)))):=⟨rfl⟩
 clear h hr1 hc1 hp0 hb0
 generalize cabsB a0 l1 = z at HZ ⊢
 generalize (decide (1 ≤ a0) && decide (a0 ≤ 8)) = z1 at HZ hw0
 generalize l1.all (cabB a0) = z3 at HZ HA
 cases z1 with
 | false =>
  have HZ2 : Aside0 (z = false):=⟨by rw [HZ.out];rfl⟩
  go_enter Tryd.func24,Tryd.ntmps24
  go_wp2_with fail
  refine hw0.mono ?_
  rintro e w1 ⟨rfl,hb1⟩
  go_wp2_with fail
  go_ret
  exact ⟨by rw [HZ2.out];rfl,st_ HB0.out hb1⟩
 | true =>
  by_cases hl : (l1.length : Int) ≤ 20
  ·have HZ2 : Aside0 (z = z3):=⟨by rw [HZ.out,decide_eq_true (show l1.length ≤ 20 by omega)];rfl⟩
   go_enter Tryd.func24,Tryd.ntmps24
   go_wp2_with fail
   refine hw0.mono ?_
   rintro e w1 ⟨rfl,hb1⟩
   have ha:=HA.out _ hb1
   have HB1:=mk_ (st_ HB0.out hb1)
   clear hb1 hw0
   go_wp2_with fail
   refine ha.mono ?_
   rintro e w2 ⟨rfl,hb2⟩
   go_wp2_with fail
   go_ret
   exact ⟨by rw [HZ2.out];rfl,st_ HB1.out hb2⟩
  ·have HZ2 : Aside0 (z = false):=⟨by rw [HZ.out,decide_eq_false (show ¬ l1.length ≤ 20 by omega)];rfl⟩
   go_enter Tryd.func24,Tryd.ntmps24
   go_wp2_with fail
   refine hw0.mono ?_
   rintro e w1 ⟨rfl,hb1⟩
   clear hw0
   go_wp2_with fail
   go_ret
   exact ⟨by rw [HZ2.out];rfl,st_ HB0.out hb1⟩

/-! ### impl_isNetwork: function 28 -/
def impl_isNetwork.f (a0 : Int) : Option (Bool):=(impl_within.f a0 1 9).bind fun t101 => (some t101)
set_option maxHeartbeats 8000000 in
set_option maxRecDepth 100000 in
theorem impl_isNetwork.calls (a0 : Int) (r : Bool) (w : World) (h : impl_isNetwork.f a0 = some r) :
  Calls Tryd.prog 28 #[.int .i64 a0] w fun e w' => e = .returned (.bool r) ∧ Drawn0 w w':=by
 have H : ((impl_within.f a0 1 9).bind fun t101 => (some t101)) = some r:=h
 clear h
 replace H:=Option.bind_eq_some_iff.mp H
 obtain ⟨t101,A20,H⟩:=H
 replace H : (some t101) = some r:=H
 have A2:=mk_ A20
 clear A20
 obtain rfl:=Option.some.inj H
 go_enter Tryd.func28,Tryd.ntmps28
 go_wp2_with (first|((with_reducible refine gate_callee (f:=27) rfl ?_);refine goesL_ (some 4) rfl rfl Tryd.func27 (by kernel_rfl) rfl #[.int .i64 a0,.int .i64 1,.int .i64 9] rfl qm_ ?_;(with_reducible refine (impl_within.calls a0 1 9 t101 _ A2.out).mono ?_);rintro e w' ⟨rfl,⟨nd,rfl⟩⟩;refine ⟨_,rfl,?_⟩))
 go_ret
 exact ⟨by first|rfl|(simp;done)|(simp [*];done),by repeat (first|exact Drawn0.refl _|apply Drawn0.step)⟩

-- LIB containsint
set_option maxHeartbeats 4000000 in
set_option maxRecDepth 100000 in
theorem x_IndexFunc_int (p : Int → Bool) (g : Nat) (lb : Array Value) (eg : ∀ args w, (callFunc g args).run Tryd.prog w = .ok (.enter g args) w) (A0 : Option Addr) (c0 : Nat) (l0 : List Int) (w : World)
  (hp : PredB Tryd.prog g lb (Value.int .i64) p w) (hr0 : Kd.C (Kd.int .i64) w A0 l0.length l0) :
  Calls Tryd.prog 64 #[.slice A0 l0.length c0,.func (.func g) #[] lb] w fun e w' => e = .returned (.int .i64 (idxL p l0 0)) ∧ Below w.heap.size w w':=by
 have hlen:=Kd.C_max hr0
 have HR:=Aside0.mk hr0
 have HP:=Aside0.mk hp
 clear hr0 hp
 go_enter Tryd.func64,Tryd.ntmps64
 go_wp2
 go_loopg [5,8] l0.length (fun gg _ s8 wr => ∃ kk : Nat,kk ≤ l0.length ∧ l0.length - kk ≤ gg ∧ s8 = .int .i64 kk ∧ Aside0 (Below w.heap.size w wr) ∧ Aside0 (idxL p (l0.drop kk) kk = idxL p l0 0))
 case atStart => exact ⟨0,Nat.zero_le _,by omega,rfl,⟨Below.refl _ w⟩,⟨rfl⟩⟩
 case round =>
  obtain ⟨kk,hkk,hg,rfl,BW,HI⟩:=hrel
  by_cases hlt : kk < l0.length
  ·obtain ⟨ad,e,hx⟩:=Kd.at_int (Kd.C_below HR.out BW.out) (kk : Int) (by omega) (by omega)
   cases e
   rw [Int.toNat_natCast] at hx
   obtain ⟨y,hy⟩ : ∃ y,y = rd l0 (kk : Int):=⟨_,rfl⟩
   rw [← hy] at hx
   have hcall:=HP.out wr y BW.out
   have HD : Aside0 (idxL p l0 0 = if p y then (kk : Int) else idxL p (l0.drop (kk + 1)) (kk + 1)):=⟨by rw [← HI.out,idxL_drop p l0 kk hlt,hy,rd_getD]⟩
   clear hy
   cases hq : p y with
   | true =>
    rw [hq] at hcall
    have HQ:=Aside0.mk hq
    clear hq
    go_wp2_with (go_at_fn g;refine hcall.mono ?_;rintro e w' ⟨rfl,hb'⟩)
    go_ret
    exact ⟨by rw [HD.out,HQ.out];rfl,below_step BW.out hb'⟩
   | false =>
    rw [hq] at hcall
    have HQ:=Aside0.mk hq
    clear hq
    go_wp2_with (go_at_fn g;refine hcall.mono ?_;rintro e w' ⟨rfl,hb'⟩)
    go_roundg (l0.length - (kk + 1))
    case measure => omega
    case rel => exact ⟨kk + 1,by omega,by omega,by go_num,⟨below_step BW.out hb'⟩,⟨by rw [HD.out,HQ.out];rfl⟩⟩
  ·have e : kk = l0.length:=by omega
   subst e
   go_wp2
   go_ret
   exact ⟨by rw [← HI.out,List.drop_length];rfl,BW.out⟩

-- LIB containsint
set_option maxHeartbeats 4000000 in
set_option maxRecDepth 100000 in
theorem x_ContainsFunc_int (p : Int → Bool) (g : Nat) (lb : Array Value) (eg : ∀ args w, (callFunc g args).run Tryd.prog w = .ok (.enter g args) w) (A0 : Option Addr) (c0 : Nat) (l0 : List Int) (w : World)
  (hp : PredB Tryd.prog g lb (Value.int .i64) p w) (hr0 : Kd.C (Kd.int .i64) w A0 l0.length l0) :
  Calls Tryd.prog 53 #[.slice A0 l0.length c0,.func (.func g) #[] lb] w fun e w' => e = .returned (.bool (l0.any p)) ∧ Below w.heap.size w w':=by
 have hcall:=x_IndexFunc_int p g lb eg A0 c0 l0 w hp hr0
 have HA:=Aside0.mk (idxL_any p l0 0)
 obtain ⟨z,hz⟩ : ∃ z,z = idxL p l0 0:=⟨_,rfl⟩
 rw [← hz] at hcall HA
 clear hp hr0 hz
 go_enter Tryd.func53,Tryd.ntmps53
 go_wp2_with (go_at_call 64;refine hcall.mono ?_;rintro e w' ⟨rfl,hb'⟩)
 go_ret
 exact ⟨by rw [← HA.out];rfl,hb'⟩

-- LIB allint
set_option maxHeartbeats 4000000 in
set_option maxRecDepth 100000 in
theorem x_all_int_1 {p : Int → Bool} {g : Nat} {lb : Array Value} (eg : ∀ args w, (callFunc g args).run Tryd.prog w = .ok (.enter g args) w) {b : Nat} {w : World}
  (hp : PredB Tryd.prog g lb (Value.int .i64) p w) (hb : b < w.heap.size) (hc : w.cell? ⟨b,0,none⟩ = some (.func (.func g) #[] lb)) :
  PredB Tryd.prog 54 #[.pointer (some ⟨b,0,none⟩)] (Value.int .i64) (fun x => !p x) w:=by
 intro W x hB
 have hc':=(hB.cell (p:=⟨b,0,none⟩) hb).trans hc
 have hcall:=hp W x hB
 clear hp hc hB hb
 go_enter Tryd.func54,Tryd.ntmps54
 go_wp2_with (go_at_fn g;refine hcall.mono ?_;rintro e w' ⟨rfl,hb'⟩)
 go_ret
 exact ⟨rfl,hb'⟩

-- LIB allint
theorem any_not_all {α : Type} (p : α → Bool) (l : List α) : (!l.any fun x => !p x) = l.all p:=by
 induction l with
 | nil => rfl
 | cons x xs ih => simp only [List.any_cons,List.all_cons,Bool.not_or,Bool.not_not,ih]

-- LIB allint
set_option maxHeartbeats 4000000 in
set_option maxRecDepth 100000 in
theorem x_all_int (p : Int → Bool) (g : Nat) (lb : Array Value) (eg : ∀ args w, (callFunc g args).run Tryd.prog w = .ok (.enter g args) w) (A0 : Option Addr) (c0 : Nat) (l0 : List Int) (w : World)
  (hp : PredB Tryd.prog g lb (Value.int .i64) p w) (hr0 : Kd.C (Kd.int .i64) w A0 l0.length l0) :
  Calls Tryd.prog 25 #[.slice A0 l0.length c0,.func (.func g) #[] lb] w fun e w' => e = .returned (.bool (l0.all p)) ∧ Below w.heap.size w w':=by
 have hmf : ∀ (fn : Fn) (first cap : Array Value) (w : World),(Instr.makeFunc fn first cap).run Tryd.prog w = .ok (.func fn first cap) w:=fun _ _ _ _ => rfl
 have hb0 : Below w.heap.size w (w.alloc (.cells #[.func (.func g) #[] lb] 42)):=(Below.refl _ w).alloc (Nat.le_refl _) _
 have hcall:=x_ContainsFunc_int (fun x => !p x) 54 #[.pointer (some ⟨w.heap.size,0,none⟩)] (enters_of Tryd.func54 (by kernel_rfl) rfl) A0 c0 l0 _ (x_all_int_1 eg (hp.later hb0) (by simp) (by simp)) (Kd.C_below hr0 hb0)
 have HB0:=Aside0.mk hb0
 clear hp hr0 hb0
 go_enter Tryd.func25,Tryd.ntmps25
 go_wp2_with (go_at_call 53;refine hcall.mono ?_;rintro e w' ⟨rfl,hb'⟩)
 go_ret
 exact ⟨by rw [any_not_all];rfl,below_step HB0.out hb'⟩

/-! ### impl_NetValid: function 7 (by hand) -/
/-- A bridge of so many;a network. -/
def brB (n x : Int) : Bool:=decide (0 ≤ x) && decide (x ≤ wrap64 (n - 1))
def vlB (x : Int) : Bool:=decide (1 ≤ x) && decide (x ≤ 9)
def netB (n : Int) (cs : List S71) (hs vs : List Int) : Bool:=cabsB n cs && (decide (hs.length ≤ 15) && (decide (vs.length = hs.length) && (hs.all (brB n) && vs.all vlB)))
set_option maxHeartbeats 4000000 in
set_option maxRecDepth 100000 in
theorem x_NetValid_1 {n : Int} {b : Nat} {w : World} (hb : b < w.heap.size) (hc : w.cell? ⟨b,0,none⟩ = some (.int .i64 n)) :
  PredB Tryd.prog 26 #[.pointer (some ⟨b,0,none⟩)] (Value.int .i64) (brB n) w:=by
 intro W x hB
 have hc':=(hB.cell (p:=⟨b,0,none⟩) hb).trans hc
 have hu:=Tryd.underlying25
 have hw:=x_win x 0 (wrap64 (n - 1)) W
 have HZ : Aside0 (brB n x = (decide (0 ≤ x) && decide (x ≤ wrap64 (n - 1)))):=⟨rfl⟩
 clear hc hB hb
 generalize brB n x = z at HZ ⊢
 generalize (decide (0 ≤ x) && decide (x ≤ wrap64 (n - 1))) = z2 at HZ hw
 obtain ⟨x1,hx1⟩ : ∃ x1,x1 = wrap64 (n - 1):=⟨_,rfl⟩
 rw [← hx1] at hw
 have y1 : IntKind.i64.wrap (n - 1) = x1:=(i64_w _).trans hx1.symm
 clear hx1
 go_enter Tryd.func26,Tryd.ntmps26
 go_wp2_with fail
 refine hw.mono ?_
 rintro e w' ⟨rfl,hb'⟩
 go_wp2_with fail
 go_ret
 exact ⟨by rw [HZ.out];rfl,hb'⟩
theorem isNet_eq (x : Int) : impl_isNetwork.f x = some (vlB x):=by
 unfold impl_isNetwork.f
 rw [win_is]
 rfl
theorem x_isNet (w : World) : PredB Tryd.prog 28 #[] (Value.int .i64) vlB w:=by
 intro W x hB
 exact (impl_isNetwork.calls x _ W (isNet_eq x)).mono fun e w' ⟨he,hd⟩ => ⟨he,hd.below⟩
def impl_NetValid.f (a0_0 : Int) (l0_1 : List (S71)) (l0_2 : List Int) (l0_3 : List Int) : Option (Bool) :=
 some (netB a0_0 l0_1 l0_2 l0_3)
set_option maxHeartbeats 4000000 in
set_option maxRecDepth 100000 in
theorem impl_NetValid.calls (a0_0 : Int) (A0_1 : Option Addr) (c0_1 : Nat) (l0_1 : List (S71)) (A0_2 : Option Addr) (c0_2 : Nat) (l0_2 : List Int) (A0_3 : Option Addr) (c0_3 : Nat) (l0_3 : List Int) (r : Bool) (w : World) (hr0_1 : Kd.C k71 w A0_1 l0_1.length l0_1) (hc0_1 : l0_1.length ≤ c0_1) (hr0_2 : Kd.C (Kd.int .i64) w A0_2 l0_2.length l0_2) (hc0_2 : l0_2.length ≤ c0_2) (hr0_3 : Kd.C (Kd.int .i64) w A0_3 l0_3.length l0_3) (hc0_3 : l0_3.length ≤ c0_3) (h : impl_NetValid.f a0_0 l0_1 l0_2 l0_3 = some r) :
  Calls Tryd.prog 7 #[.agg #[.int .i64 a0_0,.slice A0_1 l0_1.length c0_1,.slice A0_2 l0_2.length c0_2,.slice A0_3 l0_3.length c0_3]] w fun e w' => e = .returned (.bool r) ∧ Below w.heap.size w w':=by
 obtain rfl:=Option.some.inj h
 have hu:=Tryd.underlying25
 have hl2:=Kd.C_max hr0_2
 have hl3:=Kd.C_max hr0_3
 have hmf : ∀ (fn : Fn) (first cap : Array Value) (w : World),(Instr.makeFunc fn first cap).run Tryd.prog w = .ok (.func fn first cap) w:=fun _ _ _ _ => rfl
 have hb0 : Below w.heap.size w (w.alloc (.cells #[.int .i64 a0_0,.slice A0_1 l0_1.length c0_1,.slice A0_2 l0_2.length c0_2,.slice A0_3 l0_3.length c0_3] 25)):=(Below.refl _ w).alloc (Nat.le_refl _) _
 have hn0:=blk_new w (.cells #[.int .i64 a0_0,.slice A0_1 l0_1.length c0_1,.slice A0_2 l0_2.length c0_2,.slice A0_3 l0_3.length c0_3] 25)
 have hsz : w.heap.size < (w.alloc (.cells #[.int .i64 a0_0,.slice A0_1 l0_1.length c0_1,.slice A0_2 l0_2.length c0_2,.slice A0_3 l0_3.length c0_3] 25)).heap.size:=by simp
 obtain ⟨W0,hW0⟩ : ∃ W0,W0 = w.alloc (.cells #[.int .i64 a0_0,.slice A0_1 l0_1.length c0_1,.slice A0_2 l0_2.length c0_2,.slice A0_3 l0_3.length c0_3] 25):=⟨_,rfl⟩
 rw [← hW0] at hb0 hn0 hsz
 have hp0 : PredB Tryd.prog 26 #[.pointer (some ⟨w.heap.size,0,none⟩)] (Value.int .i64) (brB a0_0) W0:=x_NetValid_1 hsz ((bc_ hn0 0).trans rfl)
 have hcv:=impl_CablesValid.calls a0_0 A0_1 c0_1 l0_1 _ W0 (cb_ hr0_1 hb0) hc0_1 rfl
 have HA : Aside0 (∀ W,Below W0.heap.size W0 W → Calls Tryd.prog 25 #[.slice A0_2 l0_2.length c0_2,.func (.func 26) #[] #[.pointer (some ⟨w.heap.size,0,none⟩)]] W fun e w' => e = .returned (.bool (l0_2.all (brB a0_0))) ∧ Below W.heap.size W w'):=⟨fun W hW => x_all_int (brB a0_0) 26 _ (enters_of Tryd.func26 (by kernel_rfl) rfl) A0_2 c0_2 l0_2 W (hp0.later hW) (cb_ hr0_2 (st_ hb0 hW))⟩
 have HV : Aside0 (∀ W,Below W0.heap.size W0 W → Calls Tryd.prog 25 #[.slice A0_3 l0_3.length c0_3,.func (.func 28) #[] #[]] W fun e w' => e = .returned (.bool (l0_3.all vlB)) ∧ Below W.heap.size W w'):=⟨fun W hW => x_all_int vlB 28 #[] (enters_of Tryd.func28 (by kernel_rfl) rfl) A0_3 c0_3 l0_3 W (x_isNet W) (cb_ hr0_3 (st_ hb0 hW))⟩
 have HB0:=mk_ hb0
 have HN0:=mk_ hn0
 have HZ : Aside0 (netB a0_0 l0_1 l0_2 l0_3 = (cabsB a0_0 l0_1 && (decide (l0_2.length ≤ 15) && (decide (l0_3.length = l0_2.length) && (l0_2.all (brB a0_0) && l0_3.all vlB))))):=⟨rfl⟩
 clear h hr0_1 hc0_1 hr0_2 hc0_2 hr0_3 hc0_3 hp0 hb0 hn0 hsz
 generalize netB a0_0 l0_1 l0_2 l0_3 = z at HZ ⊢
 generalize cabsB a0_0 l0_1 = z1 at HZ hcv
 generalize l0_2.all (brB a0_0) = z3 at HZ HA
 generalize l0_3.all vlB = z4 at HZ HV
 subst hW0
 cases z1 with
 | false =>
  have HZ2 : Aside0 (z = false):=⟨by rw [HZ.out];rfl⟩
  go_enter Tryd.func7,Tryd.ntmps7
  go_wp2_with fail
  refine hcv.mono ?_
  rintro e w1 ⟨rfl,hb1⟩
  go_wp2_with fail
  go_ret
  exact ⟨by rw [HZ2.out];rfl,st_ HB0.out hb1⟩
 | true =>
 by_cases h15 : (l0_2.length : Int) ≤ 15
 ·by_cases heq : l0_3.length = l0_2.length
  ·have e1 : ((l0_3.length : Int) == (l0_2.length : Int)) = true:=beq_iff_eq.mpr (by omega)
   have e2 : (l0_3.length == l0_2.length) = true:=beq_iff_eq.mpr heq
   have e3 : decide (l0_3.length = l0_2.length) = true:=decide_eq_true heq
   replace HZ : Aside0 (z = (z3 && z4)):=⟨by rw [HZ.out,decide_eq_true (show l0_2.length ≤ 15 by omega),e3];rfl⟩
   clear heq
   cases z3 with
   | false =>
    have HZ2 : Aside0 (z = false):=⟨by rw [HZ.out];rfl⟩
    go_enter Tryd.func7,Tryd.ntmps7
    go_wp2_with fail
    refine hcv.mono ?_
    rintro e w1 ⟨rfl,hb1⟩
    have ha:=HA.out _ hb1
    have g2 : w1.cell? ⟨w.heap.size,2,none⟩ = some (.slice A0_2 l0_2.length c0_2):=(bc_ (blk_below HN0.out hb1) 2).trans rfl
    have g3 : w1.cell? ⟨w.heap.size,3,none⟩ = some (.slice A0_3 l0_3.length c0_3):=(bc_ (blk_below HN0.out hb1) 3).trans rfl
    have HB1:=mk_ (st_ HB0.out hb1)
    clear hb1 hcv
    go_wp2_with fail
    refine ha.mono ?_
    rintro e w2 ⟨rfl,hb2⟩
    go_wp2_with fail
    go_ret
    exact ⟨by rw [HZ2.out];rfl,st_ HB1.out hb2⟩
   | true =>
    have HZ2 : Aside0 (z = z4):=⟨by rw [HZ.out];rfl⟩
    go_enter Tryd.func7,Tryd.ntmps7
    go_wp2_with fail
    refine hcv.mono ?_
    rintro e w1 ⟨rfl,hb1⟩
    have ha:=HA.out _ hb1
    have g2 : w1.cell? ⟨w.heap.size,2,none⟩ = some (.slice A0_2 l0_2.length c0_2):=(bc_ (blk_below HN0.out hb1) 2).trans rfl
    have g3 : w1.cell? ⟨w.heap.size,3,none⟩ = some (.slice A0_3 l0_3.length c0_3):=(bc_ (blk_below HN0.out hb1) 3).trans rfl
    have HB1:=mk_ hb1
    clear hb1 hcv
    go_wp2_with fail
    refine ha.mono ?_
    rintro e w2 ⟨rfl,hb2⟩
    have HB2:=mk_ (st_ HB1.out hb2)
    have hv:=HV.out _ HB2.out
    have k3 : w2.cell? ⟨w.heap.size,3,none⟩ = some (.slice A0_3 l0_3.length c0_3):=(bc_ (blk_below HN0.out HB2.out) 3).trans rfl
    clear hb2 g2 g3 ha
    go_wp2_with fail
    refine hv.mono ?_
    rintro e w3 ⟨rfl,hb3⟩
    go_wp2_with fail
    go_ret
    exact ⟨by rw [HZ2.out];rfl,st_ HB0.out (st_ HB2.out hb3)⟩
  ·have e1 : ((l0_3.length : Int) == (l0_2.length : Int)) = false:=beq_eq_false_iff_ne.mpr (by omega)
   have e2 : (l0_3.length == l0_2.length) = false:=beq_eq_false_iff_ne.mpr heq
   have e3 : decide (l0_3.length = l0_2.length) = false:=decide_eq_false heq
   have HZ2 : Aside0 (z = false):=⟨by rw [HZ.out,e3];simp⟩
   clear heq
   go_enter Tryd.func7,Tryd.ntmps7
   go_wp2_with fail
   refine hcv.mono ?_
   rintro e w1 ⟨rfl,hb1⟩
   have g2 : w1.cell? ⟨w.heap.size,2,none⟩ = some (.slice A0_2 l0_2.length c0_2):=(bc_ (blk_below HN0.out hb1) 2).trans rfl
   have g3 : w1.cell? ⟨w.heap.size,3,none⟩ = some (.slice A0_3 l0_3.length c0_3):=(bc_ (blk_below HN0.out hb1) 3).trans rfl
   have HB1:=mk_ (st_ HB0.out hb1)
   clear hb1 hcv
   go_wp2_with fail
   go_ret
   exact ⟨by rw [HZ2.out];rfl,HB1.out⟩
 ·have HZ2 : Aside0 (z = false):=⟨by rw [HZ.out,decide_eq_false (show ¬ l0_2.length ≤ 15 by omega)];rfl⟩
  go_enter Tryd.func7,Tryd.ntmps7
  go_wp2_with fail
  refine hcv.mono ?_
  rintro e w1 ⟨rfl,hb1⟩
  have g2 : w1.cell? ⟨w.heap.size,2,none⟩ = some (.slice A0_2 l0_2.length c0_2):=(bc_ (blk_below HN0.out hb1) 2).trans rfl
  have HB1:=mk_ (st_ HB0.out hb1)
  clear hb1 hcv
  go_wp2_with fail
  go_ret
  exact ⟨by rw [HZ2.out];rfl,HB1.out⟩

/-! ### impl_Net_station: function 16 -/
def impl_Net_station.f (a0_0 : Int) (l0_1 : List (S71)) (l0_2 : List Int) (l0_3 : List Int) (a1 : Int) : Option (Bool):=(impl_NetValid.f a0_0 l0_1 l0_2 l0_3).bind fun t103 => (if t103 = true then ((impl_within.f a1 0 (wrap64 ((l0_2.length : Int) - 1))).bind fun t104 => (some t104)) else (some false))
set_option maxHeartbeats 8000000 in
set_option maxRecDepth 100000 in
theorem impl_Net_station.calls (a0_0 : Int) (A0_1 : Option Addr) (c0_1 : Nat) (l0_1 : List (S71)) (A0_2 : Option Addr) (c0_2 : Nat) (l0_2 : List Int) (A0_3 : Option Addr) (c0_3 : Nat) (l0_3 : List Int) (a1 : Int) (r : Bool) (w : World) (hr0_1 : Kd.C k71 w A0_1 l0_1.length l0_1) (hc0_1 : l0_1.length ≤ c0_1) (hr0_2 : Kd.C (Kd.int .i64) w A0_2 l0_2.length l0_2) (hc0_2 : l0_2.length ≤ c0_2) (hr0_3 : Kd.C (Kd.int .i64) w A0_3 l0_3.length l0_3) (hc0_3 : l0_3.length ≤ c0_3) (h : impl_Net_station.f a0_0 l0_1 l0_2 l0_3 a1 = some r) :
  Calls Tryd.prog 16 #[.agg #[.int .i64 a0_0,.slice A0_1 l0_1.length c0_1,.slice A0_2 l0_2.length c0_2,.slice A0_3 l0_3.length c0_3],.int .i64 a1] w fun e w' => e = .returned (.bool r) ∧ Below w.heap.size w w':=by
 have hu25:=Tryd.underlying25
 have HR0_1:=mk_ hr0_1
 have HC0_1:=mk_ hc0_1
 clear hr0_1 hc0_1
 have HR0_2:=mk_ hr0_2
 have HC0_2:=mk_ hc0_2
 clear hr0_2 hc0_2
 have HR0_3:=mk_ hr0_3
 have HC0_3:=mk_ hc0_3
 clear hr0_3 hc0_3
 have HB:=mk_ (Below.refl w.heap.size w)
 have H : ((impl_NetValid.f a0_0 l0_1 l0_2 l0_3).bind fun t103 => (if t103 = true then ((impl_within.f a1 0 (wrap64 ((l0_2.length : Int) - 1))).bind fun t104 => (some t104)) else (some false))) = some r:=h
 clear h
 replace H:=Option.bind_eq_some_iff.mp H
 obtain ⟨t103,A30,H⟩:=H
 replace H : (if t103 = true then ((impl_within.f a1 0 (wrap64 ((l0_2.length : Int) - 1))).bind fun t104 => (some t104)) else (some false)) = some r:=H
 have A3:=mk_ A30
 clear A30
 by_cases c4 : t103 = true
 ·subst c4
  have H1 : ((impl_within.f a1 0 (wrap64 ((l0_2.length : Int) - 1))).bind fun t104 => (some t104)) = some r:=by rw [if_pos rfl] at H;exact H
  clear H
  have H:=H1
  clear H1
  replace H:=Option.bind_eq_some_iff.mp H
  obtain ⟨t104,A50,H⟩:=H
  replace H : (some t104) = some r:=H
  have A5:=mk_ A50
  clear A50
  obtain rfl:=Option.some.inj H
  go_enter Tryd.func16,Tryd.ntmps16
  go_wp2_with (first|((with_reducible refine gate_dst (N:=2) rfl ?_);(try (refine gate_guard (by rfl) ?_;dsimp only));refine box_event ?hg (N:=2) ?hd (cs:=#[.int .i64 a0_0,.slice A0_1 l0_1.length c0_1,.slice A0_2 l0_2.length c0_2,.slice A0_3 l0_3.length c0_3]) (t:=25) ?hr ?_;(case hd => rfl);(case hg => rfl);(case hr => first|(go_simp;done)|(go_simp;rfl));intro gb102 hg w6 hbox hb;have n0_:=mk_ (st_ (qb_ HB) hb);have n1_:=mk_ (hbox);have n2_:=mk_ ((by rw [hg];exact (bz_ (qb_ HB)) : w.heap.size ≤ gb102));have n3_:=mk_ ((by rw [hg];exact (bz_ (qb_ HB)) : w.heap.size ≤ gb102));clear HB;have HB:=n0_;have BK102:=n1_;have GW102:=n2_;have GE102:=n3_;clear n0_ n1_ n2_ n3_ hb hbox hg;have hcz7_0 : w6.cell? ⟨gb102,0,none⟩ = some (.int .i64 a0_0):=(bc_ BK102.out 0).trans rfl;have hcz7_1 : w6.cell? ⟨gb102,1,none⟩ = some (.slice A0_1 l0_1.length c0_1):=(bc_ BK102.out 1).trans rfl;have hcz7_2 : w6.cell? ⟨gb102,2,none⟩ = some (.slice A0_2 l0_2.length c0_2):=(bc_ BK102.out 2).trans rfl;have hcz7_3 : w6.cell? ⟨gb102,3,none⟩ = some (.slice A0_3 l0_3.length c0_3):=(bc_ BK102.out 3).trans rfl;have hfz7_0:=bf_ BK102.out 0;have hfz7_1:=bf_ BK102.out 1;have hfz7_2:=bf_ BK102.out 2;have hfz7_3:=bf_ BK102.out 3)|((with_reducible refine gate_callee (f:=7) rfl ?_);refine goesL_ (some 6) rfl rfl Tryd.func7 (by kernel_rfl) rfl #[.agg #[.int .i64 a0_0,.slice A0_1 l0_1.length c0_1,.slice A0_2 l0_2.length c0_2,.slice A0_3 l0_3.length c0_3]] rfl qm_ ?_;(with_reducible refine (impl_NetValid.calls a0_0 _ _ l0_1 _ _ l0_2 _ _ l0_3 true _ ?side1 ?side2 ?side3 ?side4 ?side5 ?side6 A3.out).mono ?_);(case side1 => exact qn_ HR0_1 HB);(case side2 => exact HC0_1.out);(case side3 => exact qn_ HR0_2 HB);(case side4 => exact HC0_2.out);(case side5 => exact qn_ HR0_3 HB);(case side6 => exact HC0_3.out);rintro e w8 ⟨rfl,hb⟩;refine ⟨_,rfl,?_⟩;have n0_:=mk_ (blk_below (g:=gb102) (o:=.cells #[.int .i64 a0_0,.slice A0_1 l0_1.length c0_1,.slice A0_2 l0_2.length c0_2,.slice A0_3 l0_3.length c0_3] 25 (0,0)) (qk_ BK102) hb);have n1_:=mk_ (st_ (qc_ HB GE102) hb);clear BK102 HB;have BK102:=n0_;have HB:=n1_;clear n0_ n1_;(try clear hb);(try clear hb2);(try clear hk);(try clear hi);have hcz9_0 : w8.cell? ⟨gb102,0,none⟩ = some (.int .i64 a0_0):=(bc_ BK102.out 0).trans rfl;have hcz9_1 : w8.cell? ⟨gb102,1,none⟩ = some (.slice A0_1 l0_1.length c0_1):=(bc_ BK102.out 1).trans rfl;have hcz9_2 : w8.cell? ⟨gb102,2,none⟩ = some (.slice A0_2 l0_2.length c0_2):=(bc_ BK102.out 2).trans rfl;have hcz9_3 : w8.cell? ⟨gb102,3,none⟩ = some (.slice A0_3 l0_3.length c0_3):=(bc_ BK102.out 3).trans rfl;have hfz9_0:=bf_ BK102.out 0;have hfz9_1:=bf_ BK102.out 1;have hfz9_2:=bf_ BK102.out 2;have hfz9_3:=bf_ BK102.out 3)|(go_at_call 27;(with_reducible refine (impl_within.calls a1 0 (wrap64 ((l0_2.length : Int) - 1)) t104 _ A5.out).mono ?_);rintro e w' ⟨rfl,⟨nd,rfl⟩⟩))
  go_ret
  exact ⟨qe_,u0_ HB GE102⟩
 ·replace c4:=Bool.eq_false_iff.mpr c4
  subst c4
  have H1 : (some false) = some r:=by rw [if_neg (show ¬ (false = true) by decide)] at H;exact H
  clear H
  have H:=H1
  clear H1
  obtain rfl:=Option.some.inj H
  go_enter Tryd.func16,Tryd.ntmps16
  go_wp2_with (first|((with_reducible refine gate_dst (N:=2) rfl ?_);(try (refine gate_guard (by rfl) ?_;dsimp only));refine box_event ?hg (N:=2) ?hd (cs:=#[.int .i64 a0_0,.slice A0_1 l0_1.length c0_1,.slice A0_2 l0_2.length c0_2,.slice A0_3 l0_3.length c0_3]) (t:=25) ?hr ?_;(case hd => rfl);(case hg => rfl);(case hr => first|(go_simp;done)|(go_simp;rfl));intro gb102 hg w10 hbox hb;have n0_:=mk_ (st_ (qb_ HB) hb);have n1_:=mk_ (hbox);have n2_:=mk_ ((by rw [hg];exact (bz_ (qb_ HB)) : w.heap.size ≤ gb102));have n3_:=mk_ ((by rw [hg];exact (bz_ (qb_ HB)) : w.heap.size ≤ gb102));clear HB;have HB:=n0_;have BK102:=n1_;have GW102:=n2_;have GE102:=n3_;clear n0_ n1_ n2_ n3_ hb hbox hg;have hcz11_0 : w10.cell? ⟨gb102,0,none⟩ = some (.int .i64 a0_0):=(bc_ BK102.out 0).trans rfl;have hcz11_1 : w10.cell? ⟨gb102,1,none⟩ = some (.slice A0_1 l0_1.length c0_1):=(bc_ BK102.out 1).trans rfl;have hcz11_2 : w10.cell? ⟨gb102,2,none⟩ = some (.slice A0_2 l0_2.length c0_2):=(bc_ BK102.out 2).trans rfl;have hcz11_3 : w10.cell? ⟨gb102,3,none⟩ = some (.slice A0_3 l0_3.length c0_3):=(bc_ BK102.out 3).trans rfl;have hfz11_0:=bf_ BK102.out 0;have hfz11_1:=bf_ BK102.out 1;have hfz11_2:=bf_ BK102.out 2;have hfz11_3:=bf_ BK102.out 3)|((with_reducible refine gate_callee (f:=7) rfl ?_);refine goesL_ (some 6) rfl rfl Tryd.func7 (by kernel_rfl) rfl #[.agg #[.int .i64 a0_0,.slice A0_1 l0_1.length c0_1,.slice A0_2 l0_2.length c0_2,.slice A0_3 l0_3.length c0_3]] rfl qm_ ?_;(with_reducible refine (impl_NetValid.calls a0_0 _ _ l0_1 _ _ l0_2 _ _ l0_3 false _ ?side1 ?side2 ?side3 ?side4 ?side5 ?side6 A3.out).mono ?_);(case side1 => exact qn_ HR0_1 HB);(case side2 => exact HC0_1.out);(case side3 => exact qn_ HR0_2 HB);(case side4 => exact HC0_2.out);(case side5 => exact qn_ HR0_3 HB);(case side6 => exact HC0_3.out);rintro e w12 ⟨rfl,hb⟩;refine ⟨_,rfl,?_⟩;have n0_:=mk_ (blk_below (g:=gb102) (o:=.cells #[.int .i64 a0_0,.slice A0_1 l0_1.length c0_1,.slice A0_2 l0_2.length c0_2,.slice A0_3 l0_3.length c0_3] 25 (0,0)) (qk_ BK102) hb);have n1_:=mk_ (st_ (qc_ HB GE102) hb);clear BK102 HB;have BK102:=n0_;have HB:=n1_;clear n0_ n1_;(try clear hb);(try clear hb2);(try clear hk);(try clear hi)))
  go_ret
  exact ⟨qe_,u0_ HB GE102⟩

-- LIB rootsof
def relaxR (o : List Int) (c : S71) : List Int:=(o.set c.f0.toNat (mn (rd o c.f0) (rd o c.f1))).set c.f1.toNat (mn (rd o c.f0) (rd o c.f1))

-- LIB rootsof
def fillL : Nat → List Int → List Int
 | 0,l => l
 | k + 1,l => (fillL k l).set k (k : Int)

-- LIB rootsof
def passR (cs : List S71) : Nat → List Int → List Int
 | 0,l => l
 | k + 1,l => cs.foldl relaxR (passR cs k l)

-- LIB rootsof
def rootsL (N : Nat) (cs : List S71) : List Int:=passR cs N (fillL N (List.replicate N 0))

-- LIB rootsof
theorem foldl_len (cs : List S71) : ∀ l,(cs.foldl relaxR l).length = l.length:=by
 induction cs with
 | nil => exact fun _ => rfl
 | cons c cs ih => intro l;rw [List.foldl_cons,ih];unfold relaxR;simp

-- LIB rootsof
theorem fillL_len (k : Nat) (l : List Int) : (fillL k l).length = l.length:=by
 induction k with
 | zero => rfl
 | succ k ih => rw [fillL,List.length_set,ih]

-- LIB rootsof
theorem passR_len (cs : List S71) (k : Nat) (l : List Int) : (passR cs k l).length = l.length:=by
 induction k with
 | zero => rfl
 | succ k ih => rw [passR,foldl_len,ih]

-- LIB rootsof
set_option maxHeartbeats 8000000 in
set_option maxRecDepth 100000 in
theorem x_rootsOf (N : Nat) (A1 : Option Addr) (c1 : Nat) (l1 : List S71) (w : World) (hN : 1 ≤ N ∧ N ≤ 8) (hl : l1.length ≤ 20) (hcs : ∀ x ∈ l1, 0 ≤ x.f0 ∧ x.f0 < N ∧ 0 ≤ x.f1 ∧ x.f1 < N ∧ x.f0 ≠ x.f1) (hr1 : Kd.C k71 w A1 l1.length l1) :
  Calls Tryd.prog 35 #[.int .i64 (N : Int),.slice A1 l1.length c1] w fun e w' => ∃ v0_ : Value,e = .returned (v0_) ∧ Kd.R (Kd.int .i64) 3 w' w.heap.size (fun _ => True) v0_ (rootsL N l1) ∧ Below w.heap.size w w':=by
 have hu:=Tryd.underlying71
 have HR:=Aside0.mk hr1
 have HCS:=Aside0.mk hcs
 have HZ : Aside0 (rootsL N l1 = passR l1 N (fillL N (List.replicate N 0))):=⟨rfl⟩
 generalize rootsL N l1 = z at HZ ⊢
 clear hr1 hcs
 obtain ⟨hN1,hN8⟩:=hN
 go_enter Tryd.func35,Tryd.ntmps35
 go_wp2_with (first | ((with_reducible refine gate_dst (N:=11) rfl ?_);refine Kd.R_make (Kd.int .i64) (w0:=w) w.heap.size 3 rfl (N:=11) rfl 23 _ _ rfl (N : Int) rfl rfl Tryd.underlying23 (.int .i64 0) 8 (by kernel_rfl) rfl (by decide) (by omega) 0 (ok:=fun _ => True) (okp:=fun _ => True) rfl (fun _ hk => hk) trivial (by omega) (by rw [Int.toNat_natCast];omega) (Below.refl _ _) (Nat.le_refl _) ?_;intro v1 w1 ho hb hg hnew;rw [Int.toNat_natCast] at ho;obtain ⟨go,co,ev,hgo,hgl,_⟩:=Kd.R_form ho (by simp;omega);rw [List.length_replicate] at ev;subst ev;have HO1:=Aside0.mk ho;have HB1:=Aside0.mk hb;clear ho hb hg hnew))
 go_loopg [6,14] N (fun gg _ s14 wr => ∃ kk : Nat,kk ≤ N ∧ N - kk ≤ gg ∧ s14 = .int .i64 kk ∧ Aside0 (Kd.R (Kd.int .i64) 3 wr w.heap.size (fun _ => True) (.slice (some ⟨go,0,none⟩) N co) (fillL kk (List.replicate N 0))) ∧ Aside0 (Below w.heap.size w wr))
 case atStart => exact ⟨0,Nat.zero_le _,by omega,rfl,HO1,HB1⟩
 case round =>
  clear HO1 HB1
  obtain ⟨kk,hkk,hgg,rfl,HO,BW⟩:=hrel
  by_cases hlt : kk < N
  ·obtain ⟨hx,hf⟩:=Kd.R_celln 0 HO.out (kk : Int) (by omega) (by omega)
   have HP:=Kd.R_putg HO.out (kk : Int) (kk : Int)
   have hp1:=Aside0.mk HP.1
   have hb1:=Aside0.mk (below_set BW.out hgo (j:=(kk : Int).toNat) (v:=.int .i64 (kk : Int)))
   rw [Int.toNat_natCast] at hx hf hp1 hb1
   have p1 : ((kk : Int) < (N : Int)) = True:=eq_true (by omega)
   have p0 : (0 ≤ (kk : Int)) = True:=eq_true (by omega)
   clear HP
   go_wp2
   go_roundg (N - (kk + 1))
   case measure => omega
   case rel => exact ⟨kk + 1,by omega,by omega,by go_num,hp1,hb1⟩
  ·have e : kk = N:=by omega
   subst e
   have HK:=Aside0.mk HO.out
   have HBK:=Aside0.mk BW.out
   clear hlt hkk hgg HO BW
   go_wp2
   obtain ⟨wo,rfl⟩ : ∃ wo : World,wo = wr:=⟨_,rfl⟩
   go_loopg [8,9,23,27] kk (fun gg _ _ s23 _ wr => ∃ ii : Nat,ii ≤ kk ∧ kk - ii ≤ gg ∧ s23 = .int .i64 ii ∧ Aside0 (Kd.R (Kd.int .i64) 3 wr w.heap.size (fun _ => True) (.slice (some ⟨go,0,none⟩) kk co) (passR l1 ii (fillL kk (List.replicate kk 0)))) ∧ Aside0 (Below w.heap.size w wr))
   case atStart => exact ⟨0,Nat.zero_le _,by omega,rfl,HK,HBK⟩
   case round =>
    clear HK HBK
    obtain ⟨ii,hii,hgg,rfl,HO,BW⟩:=hrel
    by_cases hlt : ii < kk
    ·have p1 : ((ii : Int) < (kk : Int)) = True:=eq_true (by omega)
     have HO0:=HO
     have HB0:=BW
     have HL0 : Aside0 ((passR l1 ii (fillL kk (List.replicate kk 0))).length = kk):=⟨by rw [passR_len,fillL_len,List.length_replicate]⟩
     have HP0 : Aside0 (passR l1 (ii + 1) (fillL kk (List.replicate kk 0)) = l1.foldl relaxR (passR l1 ii (fillL kk (List.replicate kk 0)))):=⟨rfl⟩
     generalize passR l1 ii (fillL kk (List.replicate kk 0)) = L0 at HO0 HL0 HP0
     clear HO BW
     go_wp2
     obtain ⟨wo2,rfl⟩ : ∃ wo2 : World,wo2 = wr:=⟨_,rfl⟩
     go_loopg [8,9,27] l1.length (fun gg _ _ s27 wr => ∃ jj : Nat,jj ≤ l1.length ∧ l1.length - jj ≤ gg ∧ s27 = .int .i64 jj ∧ Aside0 (Kd.R (Kd.int .i64) 3 wr w.heap.size (fun _ => True) (.slice (some ⟨go,0,none⟩) kk co) ((l1.take jj).foldl relaxR L0)) ∧ Aside0 (Below w.heap.size w wr))
     case atStart => exact ⟨0,Nat.zero_le _,by omega,rfl,HO0,HB0⟩
     case round =>
      clear HO0 HB0
      obtain ⟨jj,hjj,hgg2,rfl,HO,BW⟩:=hrel
      by_cases hlt2 : jj < l1.length
      ·obtain ⟨ad,e,hx0,hx1,hx2⟩:=at_T71 (Kd.C_below HR.out BW.out) (jj : Int) (by omega) (by omega)
       cases e
       rw [Int.toNat_natCast] at hx0 hx1 hx2
       rw [rdCab_get l1 jj hlt2] at hx0 hx1 hx2
       obtain ⟨g1,g2,g3,g4,g5⟩:=HCS.out l1[jj] (List.getElem_mem hlt2)
       have HF : Aside0 ((l1.take (jj + 1)).foldl relaxR L0 = relaxR ((l1.take jj).foldl relaxR L0) l1[jj]):=⟨by rw [List.take_succ_eq_append_getElem hlt2,List.foldl_append];rfl⟩
       have HL1 : Aside0 (((l1.take jj).foldl relaxR L0).length = kk):=⟨by rw [foldl_len,HL0.out]⟩
       generalize l1[jj] = cc at hx0 hx1 hx2 g1 g2 g3 g4 g5 HF
       obtain ⟨A,B,C⟩:=cc
       simp only [] at hx0 hx1 hx2 g1 g2 g3 g4 g5
       generalize (l1.take jj).foldl relaxR L0 = L1 at HO HF HL1
       have p1 : ((jj : Int) < (l1.length : Int)) = True:=eq_true (by omega)
       have hsz : w.heap.size ≤ wr.heap.size:=BW.out.size
       go_wp2
       have HOa:=Kd.R_below HO.out (below_alloc (Below.refl _ wr) (.cells #[.int .i64 A,.int .i64 B,.int .i64 C] 71))
       have HBa:=Aside0.mk (below_alloc BW.out (.cells #[.int .i64 A,.int .i64 B,.int .i64 C] 71))
       have HNa:=blk_new wr (.cells #[.int .i64 A,.int .i64 B,.int .i64 C] 71)
       have hgs:=Aside0.mk hsz
       generalize wr.alloc (.cells #[.int .i64 A,.int .i64 B,.int .i64 C] 71) = W1 at HOa HBa HNa ⊢
       generalize wr.heap.size = gc at HNa hgs ⊢
       have k0 : W1.cell? ⟨gc,0,none⟩ = some (.int .i64 A):=(blk_cell HNa 0).trans rfl
       have k1 : W1.cell? ⟨gc,1,none⟩ = some (.int .i64 B):=(blk_cell HNa 1).trans rfl
       obtain ⟨ha,fa⟩:=Kd.R_celln 0 HOa A g1 g2
       obtain ⟨hb,fb⟩:=Kd.R_celln 0 HOa B g3 g4
       have q1 : (0 ≤ A) = True:=eq_true g1
       have q2 : (A < (kk : Int)) = True:=eq_true g2
       have q3 : (0 ≤ B) = True:=eq_true g3
       have q4 : (B < (kk : Int)) = True:=eq_true g4
       have HOA:=Aside0.mk HOa
       clear HOa HO BW hsz
       have HM : Aside0 (relaxR L1 ⟨A,B,C⟩ = (L1.set A.toNat (mn (rdOf 0 L1 A) (rdOf 0 L1 B))).set B.toNat (mn (rdOf 0 L1 A) (rdOf 0 L1 B))):=⟨rfl⟩
       have n1 : (A.toNat = B.toNat) = False:=eq_false (by omega)
       have n2 : (B.toNat = A.toNat) = False:=eq_false (by omega)
       have HN:=Aside0.mk HNa
       have hgne : gc ≠ go:=by
        intro e
        rw [e] at HNa
        exact Kd.R_ne HOA.out HNa (by decide) (by simp [Value.ownBlock])
       have n3 : (gc = go) = False:=eq_false hgne
       have n4 : (go = gc) = False:=eq_false (Ne.symm hgne)
       clear g5 HNa hgne
       have hmn : mn (rdOf 0 L1 A) (rdOf 0 L1 B) = if rdOf 0 L1 A ≤ rdOf 0 L1 B then rdOf 0 L1 A else rdOf 0 L1 B:=by
        show (if rdOf 0 L1 B < rdOf 0 L1 A then rdOf 0 L1 B else rdOf 0 L1 A) = _
        split <;> split <;> omega
       rw [hmn] at HM
       clear hmn
       generalize rdOf 0 L1 A = ra at *
       generalize rdOf 0 L1 B = rb at *
       go_quiet (fail)
       go_wp2
       all_goals (first | ((have hm : ra ≤ rb:=by assumption);rw [if_pos hm] at HM;clear hm) | ((have hm : rb < ra:=by assumption);rw [if_neg (by omega)] at HM;clear hm))
       all_goals
        have k0' : (W1.drewN nq).cell? ⟨gc,0,none⟩ = some (.int .i64 A):=k0
        have k1' : (W1.drewN nq).cell? ⟨gc,1,none⟩ = some (.int .i64 B):=k1
        have ha' : (W1.drewN nq).cell? ⟨go,A.toNat,none⟩ = some (.int .i64 ra):=ha
        have hb' : (W1.drewN nq).cell? ⟨go,B.toNat,none⟩ = some (.int .i64 rb):=hb
        have fa' : (W1.drewN nq).frozen? ⟨go,A.toNat,none⟩ = false:=fa
        have fb' : (W1.drewN nq).frozen? ⟨go,B.toNat,none⟩ = false:=fb
        have HO2:=Aside0.mk (Kd.R_below HOA.out (pw_below_drewN (Below.refl _ W1) nq))
        have HB2:=Aside0.mk (below_step HBa.out (pw_below_drewN (Below.refl _ W1) nq))
        clear k0 k1 ha hb fa fb HOA HBa
        generalize W1.drewN nq = W2 at *
        go_region
       ·have HO3:=Aside0.mk (Kd.R_drew (Kd.R_putg (Kd.R_putg HO2.out A rb).1 B rb).1)
        have HB3:=Aside0.mk (below_drew1 (below_set (below_set HB2.out hgo (j:=A.toNat) (v:=.int .i64 rb)) hgo (j:=B.toNat) (v:=.int .i64 rb)))
        rw [← HM.out,← HF.out] at HO3
        clear HO2 HB2 k0' k1' ha' hb' fa' fb'
        go_wp2
        go_roundg (l1.length - (jj + 1))
        case measure => omega
        case rel => exact ⟨jj + 1,by omega,by omega,by go_num,HO3,HB3⟩
       ·have HO3:=Aside0.mk (Kd.R_drew (Kd.R_putg (Kd.R_putg HO2.out A ra).1 B ra).1)
        have HB3:=Aside0.mk (below_drew1 (below_set (below_set HB2.out hgo (j:=A.toNat) (v:=.int .i64 ra)) hgo (j:=B.toNat) (v:=.int .i64 ra)))
        rw [← HM.out,← HF.out] at HO3
        clear HO2 HB2 k0' k1' ha' hb' fa' fb'
        go_wp2
        go_roundg (l1.length - (jj + 1))
        case measure => omega
        case rel => exact ⟨jj + 1,by omega,by omega,by go_num,HO3,HB3⟩
      ·have e : jj = l1.length:=by omega
       subst e
       rw [List.take_length,← HP0.out] at HO
       go_wp2
       go_roundg (kk - (ii + 1))
       case measure => omega
       case rel => exact ⟨ii + 1,by omega,by omega,by go_num,HO,BW⟩
    ·have e : ii = kk:=by omega
     subst e
     go_wp2
     go_ret
     exact ⟨_,rfl,by rw [HZ.out];exact HO.out,BW.out⟩

/-! ### impl_rootsOf: function 35 (by hand) -/
def impl_rootsOf.f (a0 : Int) (l1 : List (S71)) : Option (List Int) :=
 if cabsB a0 l1 = true then some (rootsL a0.toNat l1) else none
set_option maxHeartbeats 4000000 in
set_option maxRecDepth 100000 in
theorem impl_rootsOf.calls (a0 : Int) (A1 : Option Addr) (c1 : Nat) (l1 : List (S71)) (r : List Int) (w : World) (hr1 : Kd.C k71 w A1 l1.length l1) (hc1 : l1.length ≤ c1) (h : impl_rootsOf.f a0 l1 = some r) :
  Calls Tryd.prog 35 #[.int .i64 a0,.slice A1 l1.length c1] w fun e w' => ∃ v0_ : Value,e = .returned (v0_) ∧ Kd.R (Kd.int .i64) 3 w' w.heap.size (fun _ => True) v0_ r ∧ Below w.heap.size w w':=by
 unfold impl_rootsOf.f at h
 cases hv : cabsB a0 l1 with
 | false => rw [hv,if_neg (by decide)] at h;cases h
 | true =>
  rw [hv,if_pos rfl] at h
  obtain rfl:=Option.some.inj h
  obtain ⟨f1,f2,f3,f4⟩:=cabsB_facts hv
  obtain ⟨N,hN⟩ : ∃ N : Nat,a0 = (N : Int):=⟨a0.toNat,by omega⟩
  subst hN
  rw [Int.toNat_natCast]
  exact x_rootsOf N A1 c1 l1 w (by omega) f3 (fun x hx => by have:=f4 x hx;omega) hr1

/-! ### bits_Mul64: function 86 -/
def bits_Mul64.f (a0 : Int) (a1 : Int) : Option (Int × Int):=some (IntKind.u64.wrap ((IntKind.u64.wrap ((IntKind.u64.wrap ((a0 / 4294967296) * (a1 / 4294967296))) + ((IntKind.u64.wrap ((IntKind.u64.wrap ((a0 / 4294967296) * (Go.bits .and .u64 a1 4294967295))) + ((IntKind.u64.wrap ((Go.bits .and .u64 a0 4294967295) * (Go.bits .and .u64 a1 4294967295))) / 4294967296))) / 4294967296))) + ((IntKind.u64.wrap ((Go.bits .and .u64 (IntKind.u64.wrap ((IntKind.u64.wrap ((a0 / 4294967296) * (Go.bits .and .u64 a1 4294967295))) + ((IntKind.u64.wrap ((Go.bits .and .u64 a0 4294967295) * (Go.bits .and .u64 a1 4294967295))) / 4294967296))) 4294967295) + (IntKind.u64.wrap ((Go.bits .and .u64 a0 4294967295) * (a1 / 4294967296))))) / 4294967296)),IntKind.u64.wrap (a0 * a1))
set_option maxHeartbeats 8000000 in
set_option maxRecDepth 100000 in
theorem bits_Mul64.calls (a0 : Int) (a1 : Int) (r1 : Int) (r2 : Int) (w : World) (h : bits_Mul64.f a0 a1 = some (r1,r2)) :
  Calls Tryd.prog 86 #[.int .u64 a0,.int .u64 a1] w fun e w' => e = .returned (.tuple #[.int .u64 r1,.int .u64 r2]) ∧ Drawn0 w w':=by
 have H : (some (IntKind.u64.wrap ((IntKind.u64.wrap ((IntKind.u64.wrap ((a0 / 4294967296) * (a1 / 4294967296))) + ((IntKind.u64.wrap ((IntKind.u64.wrap ((a0 / 4294967296) * (Go.bits .and .u64 a1 4294967295))) + ((IntKind.u64.wrap ((Go.bits .and .u64 a0 4294967295) * (Go.bits .and .u64 a1 4294967295))) / 4294967296))) / 4294967296))) + ((IntKind.u64.wrap ((Go.bits .and .u64 (IntKind.u64.wrap ((IntKind.u64.wrap ((a0 / 4294967296) * (Go.bits .and .u64 a1 4294967295))) + ((IntKind.u64.wrap ((Go.bits .and .u64 a0 4294967295) * (Go.bits .and .u64 a1 4294967295))) / 4294967296))) 4294967295) + (IntKind.u64.wrap ((Go.bits .and .u64 a0 4294967295) * (a1 / 4294967296))))) / 4294967296)),IntKind.u64.wrap (a0 * a1))) = some (r1,r2):=h
 clear h
 simp only [Option.some.injEq,Prod.mk.injEq] at H
 obtain ⟨rfl,rfl⟩:=H
 go_enter Tryd.func86,Tryd.ntmps86
 go_wp2
 go_ret2
 exact ⟨by first|rfl|(simp;done)|(simp [*];done),by repeat (first|exact Drawn0.refl _|apply Drawn0.step)⟩

/-! ### bits_Mul: function 67 -/
def bits_Mul.f (a0 : Int) (a1 : Int) : Option (Int × Int):=(bits_Mul64.f a0 a1).bind fun bt105 => (some (bt105.1,bt105.2))
set_option maxHeartbeats 8000000 in
set_option maxRecDepth 100000 in
theorem bits_Mul.calls (a0 : Int) (a1 : Int) (r1 : Int) (r2 : Int) (w : World) (h : bits_Mul.f a0 a1 = some (r1,r2)) :
  Calls Tryd.prog 67 #[.int .u64 a0,.int .u64 a1] w fun e w' => e = .returned (.tuple #[.int .u64 r1,.int .u64 r2]) ∧ Drawn0 w w':=by
 have H : ((bits_Mul64.f a0 a1).bind fun bt105 => (some (bt105.1,bt105.2))) = some (r1,r2):=h
 clear h
 replace H:=Option.bind_eq_some_iff.mp H
 obtain ⟨⟨t105,t106⟩,A30,H⟩:=H
 replace H : (some (t105,t106)) = some (r1,r2):=H
 have A3:=mk_ A30
 clear A30
 simp only [Option.some.injEq,Prod.mk.injEq] at H
 obtain ⟨rfl,rfl⟩:=H
 go_enter Tryd.func67,Tryd.ntmps67
 go_wp2_with (first|((with_reducible refine gate_callee (f:=86) rfl ?_);refine goesL_ (some 25) rfl rfl Tryd.func86 (by kernel_rfl) rfl #[.int .u64 a0,.int .u64 a1] rfl qm_ ?_;(with_reducible refine (bits_Mul64.calls a0 a1 t105 t106 _ A3.out).mono ?_);rintro e w' ⟨rfl,⟨nd,rfl⟩⟩;refine ⟨_,rfl,?_⟩))
 go_ret2
 exact ⟨by first|rfl|(simp;done)|(simp [*];done),by repeat (first|exact Drawn0.refl _|apply Drawn0.step)⟩

/-! ### slices_Repeat_int_int: function 58 (by hand) -/
theorem R_fills {g cap : Nat} {base : Nat} {ok : Nat → Prop} {n : Nat} (v : Int) (m : Nat) : ∀ (o : Nat) (W : World) (xs : List Int),Kd.R (Kd.int .i64) 3 W base ok (.slice (some ⟨g,0,none⟩) n cap) xs → o + m ≤ n → xs.take o = List.replicate o v →
  ∃ ys,Kd.R (Kd.int .i64) 3 (W.setCells g o (List.replicate m (.int .i64 v))) base ok (.slice (some ⟨g,0,none⟩) n cap) ys ∧ ys.take (o + m) = List.replicate (o + m) v:=by
 induction m with
 | zero => exact fun o W xs h _ he => ⟨xs,h,he⟩
 | succ m ih =>
  intro o W xs h hm he
  have hn:=(rr_ h).1
  have h1:=(Kd.R_putg h (o : Int) v).1
  rw [Int.toNat_natCast] at h1
  obtain ⟨ys,h2,h3⟩:=ih (o + 1) _ _ h1 (by omega) (by
   rw [List.take_add_one,List.take_set_of_le (Nat.le_refl o),he,List.getElem?_set_self (by omega),List.replicate_succ']
   rfl)
  exact ⟨ys,h2,by rw [show o + (m + 1) = o + 1 + m by omega];exact h3⟩
theorem below_fills {w0 : World} {g : Nat} (hg : w0.heap.size ≤ g) (vs : List Value) : ∀ (o : Nat) (W : World),Below w0.heap.size w0 W → Below w0.heap.size w0 (W.setCells g o vs):=by
 induction vs with
 | nil => exact fun _ _ h => h
 | cons v vs ih => exact fun o W h => ih (o + 1) _ (bs_ h hg)
/-- 'copy' of a row's first n cells behind themselves. -/
theorem copy_fills {g cap n : Nat} {base : Nat} {ok : Nat → Prop} {W : World} {xs : List Int} (v : Int) (o m c1 c2 : Nat) (h : Kd.R (Kd.int .i64) 3 W base ok (.slice (some ⟨g,0,none⟩) n cap) xs) (he : xs.take o = List.replicate o v) (hm : m = Nat.min o (n - o)) (ho : o ≤ n) :
  ∀ ty,(Builtin.copy_ #[23,23] ty #[.slice (some ⟨g,o,none⟩) (n - o) c1,.slice (some ⟨g,0,none⟩) o c2]).run Tryd.prog W = .ok (.int .i64 m) (W.setCells g o (List.replicate m (.int .i64 v))):=by
 intro ty
 have hn:=(rr_ h).1
 have hmo : m ≤ o ∧ m ≤ n - o:=by rw [hm];exact ⟨Nat.min_le_left _ _,Nat.min_le_right _ _⟩
 have hval : ∀ j,j < o → rdOf 0 xs (j : Int) = v:=fun j hj => by
  have:=congrArg (fun t => t[j]?) he
  simp only [List.getElem?_take,if_pos hj,List.getElem?_replicate] at this
  simp [rdOf,List.getD_eq_getElem?_getD,this]
 have e:=run_copy_cells (P:=Tryd.prog) W 23 23 ty 3 g o (n - o) c1 ⟨g,0,none⟩ o c2 (List.replicate m (.int .i64 v)) Tryd.underlying23 (by kernel_rfl) (by rw [List.length_replicate];exact hm)
  (fun j u hj => by
   rw [List.getElem?_replicate] at hj
   split at hj
   ·rename_i hjm
    have hc:=(Kd.R_celln 0 h (j : Int) (by omega) (by omega)).1
    rw [Int.toNat_natCast,hval j (by omega)] at hc
    have e2 : (⟨g,0,none⟩ : Addr).add j = ⟨g,j,none⟩:=by simp [Addr.add];exact fun h => h.symm
    rw [e2,hc]
    exact hj
   ·cases hj)
  (fun j hj => by
   rw [List.length_replicate] at hj
   have hc:=(Kd.R_celln 0 h ((o + j : Nat) : Int) (by omega) (by omega)).1
   rw [Int.toNat_natCast] at hc
   rw [hc];rfl)
  (fun j hj => by
   rw [List.length_replicate] at hj
   have hc:=(Kd.R_celln 0 h ((o + j : Nat) : Int) (by omega) (by omega)).2
   rw [Int.toNat_natCast] at hc
   exact hc)
  (fun u hu => by rw [List.eq_of_mem_replicate hu];rfl)
 rw [List.length_replicate] at e
 exact e
theorem step_copy_run {P : Program} {ops : Array Oper} {o : Oper} {a : Act} {w : World} {K : Act → World → Prop} {Q : Exit → Act → World → Prop} {E : Prop}
  (hg : o.guard = none) (d x : Operand) (dT sT : TypeId) (hop : o.op = Op.call { callee:=Callee.builtin Builtin.copy,args:=#[d,x],argTypes:=#[dT,sT] })
  (v u : Value) (hd : a.eval d = v) (hx : a.eval x = u) {v' : Value} {w' : World} (hr : (Builtin.copy_ #[dT,sT] o.type #[v,u]).run P w = .ok v' w') (hK : K (a.put o.dst v') w') :
  if Region.wanted o (yielded ops a.tmps) = true then Oper.wp P o a w K Q else E:=by
 have hw : Region.wanted o (yielded ops a.tmps) = true:=by simp [Region.wanted,hg]
 rw [if_pos hw]
 unfold Oper.wp
 simp [execOp,hop,resolve,invoke,builtin,hd,hx,hr,Result.andThen]
 exact hK
/-- The first copy: of one number. -/
theorem first_copy {g cap n c0 : Nat} {base : Nat} {ok : Nat → Prop} {W : World} {xs : List Int} {v : Int} {ad : Addr} (h : Kd.R (Kd.int .i64) 3 W base ok (.slice (some ⟨g,0,none⟩) n cap) xs) (hn1 : 1 ≤ n) (hs : Kd.C (Kd.int .i64) W (some ad) 1 [v]) :
  ∀ ty,(Builtin.copy_ #[23,23] ty #[.slice (some ⟨g,0,none⟩) n cap,.slice (some ad) 1 c0]).run Tryd.prog W = .ok (.int .i64 1) (W.setCells g 0 [.int .i64 v]):=by
 intro ty
 obtain ⟨ad',e,hx⟩:=Kd.at_int hs (0 : Int) (by omega) (by omega)
 obtain rfl:=Option.some.inj e
 have hc:=Kd.R_celln 0 h (0 : Int) (by omega) (by omega)
 exact run_copy_cells (P:=Tryd.prog) W 23 23 ty 3 g 0 n cap ad 1 c0 [.int .i64 v] Tryd.underlying23 (by kernel_rfl) (by have : Nat.min 1 n = 1:=Nat.min_eq_left hn1;rw [this];rfl)
  (fun j u hj => by
   match j,hj with
   | 0,hj => exact hx.trans hj
   | j + 1,hj => simp at hj)
  (fun j hj => by
   obtain rfl : j = 0:=by simp at hj;exact hj
   rw [show (⟨g,0 + 0,none⟩ : Addr) = ⟨g,(0 : Int).toNat,none⟩ from rfl,hc.1];rfl)
  (fun j hj => by
   obtain rfl : j = 0:=by simp at hj;exact hj
   exact hc.2)
  (fun u hu => by rw [List.mem_singleton.1 hu];rfl)
def slices_Repeat_int_int.f (l0 : List Int) (a1 : Int) : Option (List Int) :=
 match l0 with
 | [v] => if 1 ≤ a1 ∧ a1 ≤ 20 then some (List.replicate a1.toNat v) else none
 | _ => none
set_option maxHeartbeats 4000000 in
set_option maxRecDepth 100000 in
theorem slices_Repeat_int_int.calls (A0 : Option Addr) (c0 : Nat) (l0 : List Int) (a1 : Int) (r : List Int) (w : World) (hr0 : Kd.C (Kd.int .i64) w A0 l0.length l0) (hc0 : l0.length ≤ c0) (h : slices_Repeat_int_int.f l0 a1 = some r) :
  Calls Tryd.prog 58 #[.slice A0 l0.length c0,.int .i64 a1] w fun e w' => ∃ v0_ : Value,e = .returned (v0_) ∧ Kd.R (Kd.int .i64) 3 w' w.heap.size (fun _ => True) v0_ r ∧ Below w.heap.size w w':=by
 unfold slices_Repeat_int_int.f at h
 match l0,h,hr0,hc0 with
 | [],h,_,_ => cases h
 | _ :: _ :: _,h,_,_ => cases h
 | [v],h,hr0,hc0 =>
  simp only [] at h
  by_cases hc : 1 ≤ a1 ∧ a1 ≤ 20
  ·rw [if_pos hc] at h
   obtain rfl:=Option.some.inj h
   clear h
   obtain ⟨N,hN⟩ : ∃ N : Nat,a1 = (N : Int):=⟨a1.toNat,by omega⟩
   subst hN
   rw [Int.toNat_natCast]
   obtain ⟨ad,e,hx⟩:=Kd.at_int hr0 (0 : Int) (by omega) (by simp)
   subst e
   have hN1 : 1 ≤ N:=by omega
   have hN20 : N ≤ 20:=by omega
   have hmul : bits_Mul.f 1 (N : Int) = some (0,(N : Int)):=by
    have : N = 1 ∨ N = 2 ∨ N = 3 ∨ N = 4 ∨ N = 5 ∨ N = 6 ∨ N = 7 ∨ N = 8 ∨ N = 9 ∨ N = 10 ∨ N = 11 ∨ N = 12 ∨ N = 13 ∨ N = 14 ∨ N = 15 ∨ N = 16 ∨ N = 17 ∨ N = 18 ∨ N = 19 ∨ N = 20:=by omega
    rcases this with rfl|rfl|rfl|rfl|rfl|rfl|rfl|rfl|rfl|rfl|rfl|rfl|rfl|rfl|rfl|rfl|rfl|rfl|rfl|rfl <;> decide
   have HM : Aside0 (∀ W,Calls Tryd.prog 67 #[.int .u64 1,.int .u64 (N : Int)] W fun e w' => e = .returned (.tuple #[.int .u64 0,.int .u64 (N : Int)]) ∧ Drawn0 W w'):=⟨fun W => bits_Mul.calls 1 (N : Int) 0 (N : Int) W hmul⟩
   have HX:=mk_ hx
   have HR:=mk_ hr0
   simp only [List.length_cons,List.length_nil,Nat.zero_add] at HR
   have hw1 : IntKind.u64.wrap 1 = 1:=rfl
   have hwN : IntKind.u64.wrap (N : Int) = (N : Int):=by
    have : IntKind.u64.wrap (N : Int) = (N : Int) % 18446744073709551616:=by simp [IntKind.wrap,IntKind.bits,IntKind.signed]
    rw [this];omega
   have hiN : IntKind.i64.wrap (N : Int) = (N : Int):=by rw [i64_w];exact (by unfold wrap64;omega)
   have p0 : ((N : Int) < 0) = False:=eq_false (by omega)
   have p1 : ((9223372036854775807 : Int) < (N : Int)) = False:=eq_false (by omega)
   clear hmul hr0 hx hc
   simp only [List.length_cons,List.length_nil,Nat.zero_add] at hc0 ⊢
   go_enter Tryd.func58,Tryd.ntmps58
   go_wp2_with (first|(go_at_call 67;refine (HM.out w).mono ?_;rintro e w1 ⟨rfl,hd1⟩;have HD:=mk_ hd1.below;clear hd1)|((with_reducible refine gate_dst (N:=30) rfl ?_);refine Kd.R_make (Kd.int .i64) (w0:=w) w.heap.size 3 rfl (N:=30) rfl 23 _ _ rfl (N : Int) rfl rfl Tryd.underlying23 (.int .i64 0) 8 (by kernel_rfl) rfl (by decide) (by omega) 0 (ok:=fun _ => True) (okp:=fun _ => True) rfl (fun _ hk => hk) trivial (by omega) (by rw [Int.toNat_natCast];omega) HD.out HD.out.size ?_;intro v1 w2 ho hb hg hnew;rw [Int.toNat_natCast] at ho;obtain ⟨go,co,ev,hgo,hgl,_⟩:=Kd.R_form ho (by simp;omega);rw [List.length_replicate] at ev;subst ev;have hcp:=first_copy (n:=N) (cap:=co) (c0:=c0) ho hN1 (cb_ HR.out hb);obtain ⟨ys,hy1,hy2⟩:=R_fills v 1 0 w2 (List.replicate N 0) ho (by omega) rfl;have HY:=mk_ hy1;have HT:=mk_ hy2;have HB:=mk_ (below_fills hgo [.int .i64 v] 0 w2 hb);clear ho hb hg hnew hgl hy1 hy2 HD HX)|(simp only [hcp]))
   clear hcp
   go_loopg [8] N (fun gg s8 wr => ∃ (m : Nat) (L : List Int),s8 = .int .i64 m ∧ 1 ≤ m ∧ m ≤ N ∧ N - m ≤ gg ∧ Aside0 (Kd.R (Kd.int .i64) 3 wr w.heap.size (fun _ => True) (.slice (some ⟨go,0,none⟩) N co) L) ∧ Aside0 (L.take m = List.replicate m v) ∧ Aside0 (Below w.heap.size w wr))
   case atStart => exact ⟨1,ys,by go_num,by omega,by omega,by omega,HY,HT,HB⟩
   case round =>
    clear HY HT HB
    obtain ⟨m,L,rfl,hm1,hmQ_,hgg,HO,HT,BW⟩:=hrel
    by_cases hlt : m < N
    ·have hcc:=(rr_ HO.out).2.1
     obtain ⟨q,hq,hq1,hq2⟩ : ∃ q : Nat,q = Nat.min m (N - m) ∧ q ≤ N - m ∧ 1 ≤ q:=⟨_,rfl,Nat.min_le_right _ _,Nat.le_min.2 ⟨hm1,by omega⟩⟩
     have hcp:=copy_fills (W:=wr.drew) v m q (co - m) co (rd_ HO.out) HT.out hq hmQ_
     obtain ⟨ys2,hy1,hy2⟩:=R_fills v q m wr.drew L (rd_ HO.out) (by omega) HT.out
     have HY2:=mk_ hy1
     have HT2:=mk_ hy2
     have HB2:=mk_ (below_fills hgo (List.replicate q (.int .i64 v)) m wr.drew (bd_ BW.out))
     have p2 : ((m : Int) < (N : Int)) = True:=eq_true (by omega)
     clear hy1 hy2 hq
     have hcm : (co = m) = False:=eq_false (by omega)
     have hmco : m ≤ co:=by omega
     have hmco2 : (m : Int) ≤ (co : Int):=by omega
     have hmq : IntKind.i64.wrap ((m : Int) + (q : Int)) = ((m + q : Nat) : Int):=by rw [i64_w];exact (by unfold wrap64;omega)
     go_wp2
     go_region_law (refine step_copy_run rfl (.tmp 41) (.tmp 44) 23 23 rfl (.slice (some ⟨go,m,none⟩) (N - m) (co - m)) (.slice (some ⟨go,0,none⟩) m co) (by simp [Act.eval,Act.put]) (by simp [Act.eval,Act.put]) (hcp _) ?_)
     all_goals
      try go_simp
      go_wp2
      go_roundg (N - (m + q))
      case measure => omega
      case rel => exact ⟨m + q,ys2,by go_num,by omega,by omega,by omega,HY2,HT2,HB2⟩
    ·obtain rfl : m = N:=by omega
     have hL:=(rr_ HO.out).1
     have p2 : ((m : Int) < (m : Int)) = False:=eq_false (by omega)
     have hLe : L = List.replicate m v:=by rw [← HT.out,List.take_of_length_le (by omega)]
     subst hLe
     clear HT hL
     go_wp2
     go_ret
     exact ⟨_,rfl,HO.out,BW.out⟩
  ·rw [if_neg hc] at h
   cases h

/-! ### impl_costsOf: function 38 -/
mutual
def impl_costsOf.l0 : Nat → Int → List (S71) → List Int → List Int → Int → Int → Option (List Int)
 | 0,_,_,_,_,_,_ => none
 | k + 1,x0,x1,x5,x15,x16,x17 => if x17 < x16 then (if 0 ≤ x17 then (if x17 < (x15.length : Int) then (if x17 = (rd x15 x17) then (if x17 < (x5.length : Int) then (impl_costsOf.l0 k x0 x1 (x5.set (x17 : Int).toNat 0) x15 x16 (wrap64 (x17 + 1))) else (none)) else (impl_costsOf.l0 k x0 x1 x5 x15 x16 (wrap64 (x17 + 1)))) else (none)) else (none)) else (impl_costsOf.l1 k x1 x5 x0 0)
def impl_costsOf.l1 : Nat → List (S71) → List Int → Int → Int → Option (List Int)
 | 0,_,_,_,_ => none
 | k + 1,x1,x5,x29,x30 => if x30 < x29 then (impl_costsOf.l2 k x1 x5 x29 x30 x1 (x1.length : Int) 0) else (some x5)
def impl_costsOf.l2 : Nat → List (S71) → List Int → Int → Int → List (S71) → Int → Int → Option (List Int)
 | 0,_,_,_,_,_,_,_ => none
 | k + 1,x1,x5,x29,x30,x32,x33,x34 => if x34 < x33 then (if 0 ≤ x34 then (if x34 < (x32.length : Int) then (if 0 ≤ ((rd_T71 x32 x34).f0) then (if ((rd_T71 x32 x34).f0) < (x5.length : Int) then (if 0 ≤ ((rd_T71 x32 x34).f1) then (if ((rd_T71 x32 x34).f1) < (x5.length : Int) then ((some (x5.set (((rd_T71 x32 x34).f0) : Int).toNat (mn (rd x5 ((rd_T71 x32 x34).f0)) (wrap64 ((rd x5 ((rd_T71 x32 x34).f1)) + ((rd_T71 x32 x34).f2)))) : List Int)).bind fun y122 => (impl_costsOf.l2 k x1 (y122.set (((rd_T71 x32 x34).f1) : Int).toNat (mn (rd y122 ((rd_T71 x32 x34).f1)) (wrap64 ((rd y122 ((rd_T71 x32 x34).f0)) + ((rd_T71 x32 x34).f2))))) x29 x30 x32 x33 (wrap64 (x34 + 1)))) else (none)) else (none)) else (none)) else (none)) else (none)) else (none)) else (impl_costsOf.l1 k x1 x5 x29 (wrap64 (x30 + 1)))
end
def impl_costsOf.f (k : Nat) (a0 : Int) (l1 : List (S71)) : Option (List Int):=(slices_Repeat_int_int.f (([1073741824] : List Int)) a0).bind fun t110 => ((impl_rootsOf.f a0 l1).bind fun t113 => (impl_costsOf.l0 k a0 l1 t110 t113 (t113.length : Int) 0))
theorem impl_costsOf.mono_l : ∀ k,(∀ y0 y1 y2 y3 y4 y5,LeO (impl_costsOf.l0 k y0 y1 y2 y3 y4 y5) (impl_costsOf.l0 (k + 1) y0 y1 y2 y3 y4 y5)) ∧ (∀ y0 y1 y2 y3,LeO (impl_costsOf.l1 k y0 y1 y2 y3) (impl_costsOf.l1 (k + 1) y0 y1 y2 y3)) ∧ (∀ y0 y1 y2 y3 y4 y5 y6,LeO (impl_costsOf.l2 k y0 y1 y2 y3 y4 y5 y6) (impl_costsOf.l2 (k + 1) y0 y1 y2 y3 y4 y5 y6))
 | 0 => ⟨fun _ _ _ _ _ _ r h => by simp [impl_costsOf.l0] at h,fun _ _ _ _ r h => by simp [impl_costsOf.l1] at h,fun _ _ _ _ _ _ _ r h => by simp [impl_costsOf.l2] at h⟩
 | k + 1 => by
  obtain ⟨ih0,ih1,ih2⟩:=impl_costsOf.mono_l k
  refine ⟨?_,?_,?_⟩
  ·intro y0 y1 y2 y3 y4 y5
   unfold impl_costsOf.l0
   repeat' first
   | (with_reducible exact ih0 _ _ _ _ _ _)
   | (with_reducible exact ih1 _ _ _ _)
   | (with_reducible exact ih2 _ _ _ _ _ _ _)
   | (with_reducible exact LeO.refl _)
   | (with_reducible exact LeO.none _)
   | (with_reducible refine LeO.ite ?_ ?_)
   | (with_reducible refine LeO.bind ?_ (fun _ => ?_))
   | exact ih0 _ _ _ _ _ _
   | exact ih1 _ _ _ _
   | exact ih2 _ _ _ _ _ _ _
   | exact LeO.none _
   | refine LeO.ite ?_ ?_
   | refine LeO.bind ?_ (fun _ => ?_)
  ·intro y0 y1 y2 y3
   unfold impl_costsOf.l1
   repeat' first
   | (with_reducible exact ih0 _ _ _ _ _ _)
   | (with_reducible exact ih1 _ _ _ _)
   | (with_reducible exact ih2 _ _ _ _ _ _ _)
   | (with_reducible exact LeO.refl _)
   | (with_reducible exact LeO.none _)
   | (with_reducible refine LeO.ite ?_ ?_)
   | (with_reducible refine LeO.bind ?_ (fun _ => ?_))
   | exact ih0 _ _ _ _ _ _
   | exact ih1 _ _ _ _
   | exact ih2 _ _ _ _ _ _ _
   | exact LeO.none _
   | refine LeO.ite ?_ ?_
   | refine LeO.bind ?_ (fun _ => ?_)
  ·intro y0 y1 y2 y3 y4 y5 y6
   unfold impl_costsOf.l2
   repeat' first
   | (with_reducible exact ih0 _ _ _ _ _ _)
   | (with_reducible exact ih1 _ _ _ _)
   | (with_reducible exact ih2 _ _ _ _ _ _ _)
   | (with_reducible exact LeO.refl _)
   | (with_reducible exact LeO.none _)
   | (with_reducible refine LeO.ite ?_ ?_)
   | (with_reducible refine LeO.bind ?_ (fun _ => ?_))
   | exact ih0 _ _ _ _ _ _
   | exact ih1 _ _ _ _
   | exact ih2 _ _ _ _ _ _ _
   | exact LeO.none _
   | refine LeO.ite ?_ ?_
   | refine LeO.bind ?_ (fun _ => ?_)
theorem impl_costsOf.mono : ∀ a0 a1 k,LeO (impl_costsOf.f k a0 a1) (impl_costsOf.f (k + 1) a0 a1):=by
 intro a0 a1 k
 obtain ⟨ih0,ih1,ih2⟩:=impl_costsOf.mono_l k
 unfold impl_costsOf.f
 repeat' first
   | (with_reducible exact ih0 _ _ _ _ _ _)
   | (with_reducible exact ih1 _ _ _ _)
   | (with_reducible exact ih2 _ _ _ _ _ _ _)
   | (with_reducible exact LeO.refl _)
   | (with_reducible exact LeO.none _)
   | (with_reducible refine LeO.ite ?_ ?_)
   | (with_reducible refine LeO.bind ?_ (fun _ => ?_))
   | exact ih0 _ _ _ _ _ _
   | exact ih1 _ _ _ _
   | exact ih2 _ _ _ _ _ _ _
   | exact LeO.none _
   | refine LeO.ite ?_ ?_
   | refine LeO.bind ?_ (fun _ => ?_)
def impl_costsOf.T13 : Bool × List (List Nat × List Nat):=(true,[([],[]),([],[]),([1],[1]),([],[]),([],[]),([4],[4]),([3,5],[3,5]),([6],[6]),([],[]),([],[]),([9],[9]),([8,10],[8,10]),([11],[11]),([],[]),([13],[13]),([12,14],[12,14]),([7,15],[7,15]),([0,2,0,1,2,3,4,5,6,7,8,9,10,11,12,13,14,15,16],[0,2]),([17,16,0,1,2,3,4,5,6,7,8,9,10,11,12,13,14,15,16],[16,17])])
def impl_costsOf.B13 : List Nat:=[0,0,2,0,0,16,56,120,0,0,512,1792,3840,0,8192,32512,65528,131071,262143]
theorem impl_costsOf.tab13 : rtab .any (opsOf Tryd.f38 13) = impl_costsOf.T13:=by kernel_rfl
theorem impl_costsOf.bits13 : waitsOk impl_costsOf.T13.2 impl_costsOf.B13 = true:=by kernel_rfl
def impl_costsOf.T14 : Bool × List (List Nat × List Nat):=(true,[([],[]),([],[]),([1],[1]),([],[]),([],[]),([4],[4]),([3,5],[3,5]),([6],[6]),([],[]),([],[]),([9],[9]),([8,10],[8,10]),([11],[11]),([],[]),([13],[13]),([12,14],[12,14]),([7,15],[7,15]),([0,2,0,1,2,3,4,5,6,7,8,9,10,11,12,13,14,15,16],[0,2]),([17,16,0,1,2,3,4,5,6,7,8,9,10,11,12,13,14,15,16],[16,17])])
def impl_costsOf.B14 : List Nat:=[0,0,2,0,0,16,56,120,0,0,512,1792,3840,0,8192,32512,65528,131071,262143]
theorem impl_costsOf.tab14 : rtab .any (opsOf Tryd.f38 14) = impl_costsOf.T14:=by kernel_rfl
theorem impl_costsOf.bits14 : waitsOk impl_costsOf.T14.2 impl_costsOf.B14 = true:=by kernel_rfl
set_option maxHeartbeats 8000000 in
set_option maxRecDepth 100000 in
theorem impl_costsOf.calls (k : Nat) (a0 : Int) (A1 : Option Addr) (c1 : Nat) (l1 : List (S71)) (r : List Int) (w : World) (hr1 : Kd.C k71 w A1 l1.length l1) (hc1 : l1.length ≤ c1) (h : impl_costsOf.f k a0 l1 = some r) :
  Calls Tryd.prog 38 #[.int .i64 a0,.slice A1 l1.length c1] w fun e w' => ∃ v0_ : Value,e = .returned (v0_) ∧ Kd.R (Kd.int .i64) 3 w' w.heap.size (fun _ => True) v0_ r ∧ Below w.heap.size w w':=by
 have hu71:=Tryd.underlying71
 have HR1:=mk_ hr1
 have HC1:=mk_ hc1
 clear hr1 hc1
 have HB:=mk_ (Below.refl w.heap.size w)
 have H : ((slices_Repeat_int_int.f (([1073741824] : List Int)) a0).bind fun t110 => ((impl_rootsOf.f a0 l1).bind fun t113 => (impl_costsOf.l0 k a0 l1 t110 t113 (t113.length : Int) 0))) = some r:=h
 clear h
 obtain ⟨y107,hy107⟩ : ∃ y_ : List Int,y_ = (([1073741824] : List Int)):=⟨_,rfl⟩
 replace H : ((slices_Repeat_int_int.f y107 a0).bind fun t110 => ((impl_rootsOf.f a0 l1).bind fun t113 => (impl_costsOf.l0 k a0 l1 t110 t113 (t113.length : Int) 0))) = some r:=by first|(rw [hy107];with_reducible exact H)|(have H2_:=(Option.bind_some _ _).symm.trans H;rw [hy107];with_reducible exact H2_)|(have H2_:=(Option.bind_some _ _).symm.trans H;with_reducible exact H2_)|with_reducible exact H|(rw [hy107];exact H)|exact H
 have Ny107:=mk_ hy107
 clear hy107
 replace H:=Option.bind_eq_some_iff.mp H
 obtain ⟨t110,A30,H⟩:=H
 replace H : ((impl_rootsOf.f a0 l1).bind fun t113 => (impl_costsOf.l0 k a0 l1 t110 t113 (t113.length : Int) 0)) = some r:=H
 have A3:=mk_ A30
 clear A30
 replace H:=Option.bind_eq_some_iff.mp H
 obtain ⟨t113,A40,H⟩:=H
 replace H : (impl_costsOf.l0 k a0 l1 t110 t113 (t113.length : Int) 0) = some r:=H
 have A4:=mk_ A40
 clear A40
 have H':=mk_ H
 clear H
 go_enter Tryd.func38,Tryd.ntmps38
 go_wp2_with (first|((with_reducible refine gate_dst (N:=10) rfl ?_);refine Kd.R_lit (Kd.int .i64) _ 3 ?hg (N:=10) ?hd (xs:=([1073741824] : List Int)) (inner:=[.int .i64 1073741824]) (ok:=fun _ => True) (okp:=fun _ => True) ?hr ?hp (fun _ hk => hk) trivial (Below.refl _ _) (Nat.le_refl _) (by simp) ?_;(case hd => rfl);(case hg => rfl);(case hr => first|(go_simp;done)|(go_simp;rfl));(case hp => exact (Reps.one (show Kd.M (Kd.int .i64) _ _ _ 1073741824 [.int .i64 1073741824] from rfl) (Reps.none _ _)));intro v108 w5 ho6 hb hg_ hnew_;clear hg_ hnew_;(first|rw [← Ny107.out] at ho6|(simp only [Int.reduceToNat] at ho6;rw [← Ny107.out] at ho6));have n0_:=mk_ (Kd.R_lower ho6 (bz_ (qb_ HB)));have n1_:=mk_ (st_ (qb_ HB) hb);clear HB;have HO109:=n0_;have HB:=n1_;clear n0_ n1_ hb ho6;obtain ⟨Ao7,co7,eo7⟩:=Kd.R_slice HO109.out;subst eo7)|((with_reducible refine gate_callee (f:=58) rfl ?_);refine goesL_ (some 12) rfl rfl Tryd.func58 (by kernel_rfl) rfl #[.slice Ao7 y107.length co7,.int .i64 a0] rfl qm_ ?_;(with_reducible refine (slices_Repeat_int_int.calls _ _ y107 a0 t110 _ ?side1 ?side2 A3.out).mono ?_);(case side1 => repeat (first|exact (rr_ HO109.out).2.2|(with_reducible refine ca_ ?_ _)|(with_reducible refine cn_ ?_ _)|(with_reducible refine cd_ ?_)));(case side2 => exact (rr_ HO109.out).2.1);rintro e w8 ⟨v111,rfl,ho0,hb⟩;refine ⟨_,rfl,?_⟩;have n0_:=mk_ (re_ (qr_ HO109) (Kd.R_base ho0) hb);have n1_:=mk_ (Kd.R_lower (Kd.R_new' ho0 (Kd.R_lt (qr_ HO109))) (bz_ (qb_ HB)));have n2_:=mk_ (st_ (qb_ HB) hb);clear HO109 HB;have HO109:=n0_;have HO112:=n1_;have HB:=n2_;clear n0_ n1_ n2_;(try clear hb);(try clear hb2);(try clear hk);(try clear hi);(try clear ho0))|((with_reducible refine gate_callee (f:=35) rfl ?_);refine goesL_ (some 15) rfl rfl Tryd.func35 (by kernel_rfl) rfl #[.int .i64 a0,.slice A1 l1.length c1] rfl qm_ ?_;(with_reducible refine (impl_rootsOf.calls a0 _ _ l1 t113 _ ?side1 ?side2 A4.out).mono ?_);(case side1 => exact qn_ HR1 HB);(case side2 => exact HC1.out);rintro e w9 ⟨v114,rfl,ho0,hb⟩;refine ⟨_,rfl,?_⟩;have n0_:=mk_ (re_ (qr_ HO109) (Kd.R_base ho0) hb);have n1_:=mk_ (re_ (qr_ HO112) (Kd.R_base ho0) hb);have n2_:=mk_ (Kd.R_lower (Kd.R_new' (Kd.R_new' ho0 (Kd.R_lt (qr_ HO109))) (Kd.R_lt (qr_ HO112))) (bz_ (qb_ HB)));have n3_:=mk_ (st_ (qb_ HB) hb);clear HO109 HO112 HB;have HO109:=n0_;have HO112:=n1_;have HO115:=n2_;have HB:=n3_;clear n0_ n1_ n2_ n3_;(try clear hb);(try clear hb2);(try clear hk);(try clear hi);(try clear ho0);obtain ⟨Ao10,co10,eo10⟩:=Kd.R_slice HO115.out;subst eo10))
 go_loopg [17] k (fun kq v17 w' => ∃ (x5_1 : List Int) (x17_1 : Int),v17 = .int .i64 x17_1 ∧ Aside0 (impl_costsOf.l0 kq a0 l1 x5_1 t113 (t113.length : Int) x17_1 = some r) ∧ Aside0 (kq ≤ k) ∧ Aside0 (Kd.R (Kd.int .i64) 3 w' w.heap.size (fun k_ => some k_ ≠ ((.slice Ao10 t113.length co10) : Value).ownBlock) v111 x5_1) ∧ Aside0 (Kd.R (Kd.int .i64) 3 w' w.heap.size (fun k_ => some k_ ≠ (v111 : Value).ownBlock) (.slice Ao10 t113.length co10) t113) ∧ Aside0 (Below w.heap.size w w'))
 case atStart => exact ⟨(t110),(0),qf_,H',⟨Nat.le_refl _⟩,⟨by (with_reducible repeat (first|apply ra_|apply rn_|apply rd_));exact rm_ HO112.out (λ_ h=>h.2)⟩,⟨by (with_reducible repeat (first|apply ra_|apply rn_|apply rd_));exact rm_ HO115.out (λ_ h=>h.2)⟩,⟨u1_ HB⟩⟩
 case round =>
  clear H'
  try clear c1
  try clear p2
  try clear c3
  try clear c5
  obtain ⟨x5_1,x17_1,rfl,HA,HK1,HO_5,HO_15,HB⟩:=hrel
  cases gk with
  | zero => exact absurd HA.out (by simp [impl_costsOf.l0])
  | succ k1 =>
   have H:=HA.out
   clear HA
   simp only [impl_costsOf.l0] at H
   by_cases c11 : x17_1 < (t113.length : Int)
   ·rw [if_pos c11] at H
    have c11b0 : decide (x17_1 < (t113.length : Int)) = true:=decide_eq_true c11
    clear c11
    by_cases c12 : 0 ≤ x17_1
    ·rw [if_pos c12] at H
     have c12b0 : decide (0 ≤ x17_1) = true:=decide_eq_true c12
     clear c12
     by_cases c13 : x17_1 < (t113.length : Int)
     ·rw [if_pos c13] at H
      have c13b0 : decide (x17_1 < (t113.length : Int)) = true:=decide_eq_true c13
      clear c13
      by_cases c14 : x17_1 = (rd t113 x17_1)
      ·rw [if_pos c14] at H
       have c14b0 : (x17_1 == (rd t113 x17_1)) = true:=beq_iff_eq.mpr c14
       have c14b1 : (x17_1 != (rd t113 x17_1)) = false:=bne_eq_false_iff_eq.mpr c14
       clear c14
       by_cases c15 : x17_1 < (x5_1.length : Int)
       ·rw [if_pos c15] at H
        have c15b0 : decide (x17_1 < (x5_1.length : Int)) = true:=decide_eq_true c15
        clear c15
        obtain ⟨y117,hy117⟩ : ∃ y_ : List Int,y_ = (x5_1.set (x17_1 : Int).toNat 0):=⟨_,rfl⟩
        replace H : (impl_costsOf.l0 k1 a0 l1 y117 t113 (t113.length : Int) (wrap64 (x17_1 + 1))) = some r:=by first|(rw [hy117];with_reducible exact H)|(have H2_:=(Option.bind_some _ _).symm.trans H;rw [hy117];with_reducible exact H2_)|(have H2_:=(Option.bind_some _ _).symm.trans H;with_reducible exact H2_)|with_reducible exact H|(rw [hy117];exact H)|exact H
        have Ny117:=mk_ hy117
        clear hy117
        have H':=mk_ H
        clear H
        have p116 : 0 ≤ (x17_1 : Int):=od_ qa_
        have q116 : x17_1 < (t113.length : Int):=od_ qa_
        obtain ⟨ad116,e116,hx116_0⟩:=Kd.at_int (rr_ HO_15.out).2.2 x17_1 p116 q116
        cases e116
        replace p116:=eq_true p116
        replace q116:=eq_true q116
        have p16 : 0 ≤ (x17_1 : Int):=od_ qa_
        have q16 : (x17_1 : Int) < ((x5_1.length : Int) : Int):=od_ qa_
        obtain ⟨go16,co16,eo16,gb16,gl16,cl16,HG16⟩:=Kd.R_form HO_5.out (by omega)
        (first|cases eo16|(injection eo16 with ea_ en_ ec_;(first|subst ea_|(injection ea_ with ea_;subst ea_));subst ec_;clear en_))
        have GB16:=mk_ gb16
        have GG16:=mk_ HG16
        clear gb16 gl16 HG16
        obtain ⟨hx16_0,hf16_0⟩:=Kd.R_celln 0 HO_5.out (x17_1 : Int) p16 q16
        replace p16:=eq_true p16
        replace q16:=eq_true q16
        have HP17:=Kd.R_putg HO_5.out (x17_1 : Int) 0
        go_wp2_with (first|((with_reducible refine gate_store (t:=3) (p:=27) rfl ?_);refine store_event (t:=3) (p:=27) (v:=?vo_w18) (w1:=(wr.setCell ⟨go16,(x17_1 : Int).toNat,none⟩ (.int .i64 0))) ?hg ?ho ?hn ?hr ?_;(case ho => rfl);(case hg => rfl);(case hn => rfl);(case hr => first|(go_simp;done)|(go_simp;rfl));intro w18 hw;have hg : wr.grownBy w18 (some go16):=(by rw [hw];exact HP17.2);have hp_ : Kd.R (Kd.int .i64) 3 w18 w.heap.size (fun k_ => some k_ ≠ (.slice (some ad116) t113.length co10 : Value).ownBlock) (.slice (some ⟨go16,0,none⟩) x5_1.length co16) y117:=(by rw [hw,Ny117.out];exact HP17.1);clear HP17;have n0_:=mk_ (hp_);have n1_:=mk_ (Kd.R_after (v:=(.slice (some ⟨go16,0,none⟩) x5_1.length co16)) (v1:=(.slice (some ⟨go16,0,none⟩) x5_1.length co16)) (ok:=(fun _ => True)) (by (with_reducible repeat (first|apply ra_|apply rn_|apply rd_));exact rm_ HO_15.out (fun _ hk => ⟨trivial,hk⟩)) hg (.inl rfl));have n2_:=mk_ ((by rw [hw];exact bs_ (HB.out) GB16.out : Below w.heap.size w w18));clear HO_5 HO_15 HB;have HO_5:=n0_;have HO_15:=n1_;have HB:=n2_;clear n0_ n1_ n2_ hg hw hp_))
        go_roundg k1
        case measure => have:=HK1.out;omega
        case rel => exact ⟨(y117),(wrap64 (x17_1 + 1)),qf_,H',⟨by have:=HK1.out;omega⟩,⟨qr_ HO_5⟩,⟨by (with_reducible repeat (first|apply ra_|apply rn_|apply rd_));exact rm_ HO_15.out (λ_ h=>h.2)⟩,⟨u1_ HB⟩⟩
       ·rw [if_neg c15] at H
        exact absurd H (by simp)
      ·rw [if_neg c14] at H
       have c14b0 : (x17_1 == (rd t113 x17_1)) = false:=beq_eq_false_iff_ne.mpr c14
       have c14b1 : (x17_1 != (rd t113 x17_1)) = true:=bne_iff_ne.mpr c14
       have H':=mk_ H
       clear H
       have p116 : 0 ≤ (x17_1 : Int):=od_ qa_
       have q116 : x17_1 < (t113.length : Int):=od_ qa_
       obtain ⟨ad116,e116,hx116_0⟩:=Kd.at_int (rr_ HO_15.out).2.2 x17_1 p116 q116
       cases e116
       replace p116:=eq_true p116
       replace q116:=eq_true q116
       go_wp2
       go_roundg k1
       case measure => have:=HK1.out;omega
       case rel => exact ⟨(x5_1),(wrap64 (x17_1 + 1)),qf_,H',⟨by have:=HK1.out;omega⟩,⟨qr_ HO_5⟩,⟨qr_ HO_15⟩,⟨u1_ HB⟩⟩
     ·rw [if_neg c13] at H
      exact absurd H (by simp)
    ·rw [if_neg c12] at H
     exact absurd H (by simp)
   ·rw [if_neg c11] at H
    have c11b0 : decide (x17_1 < (t113.length : Int)) = false:=decide_eq_false c11
    clear c11
    have H':=mk_ H
    clear H
    go_wp2
    go_loopg [30] k1 (fun kq v30 w' => ∃ (x5_2 : List Int) (x30_2 : Int),v30 = .int .i64 x30_2 ∧ Aside0 (impl_costsOf.l1 kq l1 x5_2 a0 x30_2 = some r) ∧ Aside0 (kq ≤ k1) ∧ Aside0 (Kd.R (Kd.int .i64) 3 w' w.heap.size (fun _ => True) v111 x5_2) ∧ Aside0 (Below w.heap.size w w'))
    case atStart => exact ⟨(x5_1),(0),qf_,H',⟨Nat.le_refl _⟩,⟨by (with_reducible repeat (first|apply ra_|apply rn_|apply rd_));exact rm_ HO_5.out (λ_ _=>trivial)⟩,⟨u1_ HB⟩⟩
    case round =>
     clear H'
     try clear c1
     try clear p1
     try clear q1
     try clear hx1
     try clear p2
     try clear c3
     try clear c5
     try clear p6
     try clear c11
     try clear c11b0
     try clear p11
     try clear q11
     try clear hx11
     try clear c12
     try clear c12b0
     try clear c13
     try clear c13b0
     try clear c14
     try clear c14b0
     try clear c14b1
     try clear c15
     try clear c15b0
     try clear p16
     try clear q16
     try clear hx16
     try clear hf16
     try clear hx116_0
     try clear hx16_0
     try clear p116
     try clear p16
     try clear p2
     try clear q116
     try clear q16
     obtain ⟨x5_2,x30_2,rfl,HA,HK2,HO_5,HB⟩:=hrel
     cases gk with
     | zero => exact absurd HA.out (by simp [impl_costsOf.l1])
     | succ k2 =>
      have H:=HA.out
      clear HA
      simp only [impl_costsOf.l1] at H
      by_cases c19 : x30_2 < a0
      ·rw [if_pos c19] at H
       have c19b0 : decide (x30_2 < a0) = true:=decide_eq_true c19
       clear c19
       have H':=mk_ H
       clear H
       go_wp2
       go_loopg [34] k2 (fun kq v34 w' => ∃ (x5_3 : List Int) (x34_3 : Int),v34 = .int .i64 x34_3 ∧ Aside0 (impl_costsOf.l2 kq l1 x5_3 a0 x30_2 l1 (l1.length : Int) x34_3 = some r) ∧ Aside0 (kq ≤ k2) ∧ Aside0 (Kd.R (Kd.int .i64) 3 w' w.heap.size (fun _ => True) v111 x5_3) ∧ Aside0 (Below w.heap.size w w'))
       case atStart => exact ⟨(x5_2),(0),qf_,H',⟨Nat.le_refl _⟩,⟨qr_ HO_5⟩,⟨u1_ HB⟩⟩
       case round =>
        clear H'
        try clear c1
        try clear p1
        try clear q1
        try clear hx1
        try clear p2
        try clear c3
        try clear c5
        try clear p6
        try clear c11
        try clear c11b0
        try clear p11
        try clear q11
        try clear hx11
        try clear c12
        try clear c12b0
        try clear c13
        try clear c13b0
        try clear c14
        try clear c14b0
        try clear c14b1
        try clear c15
        try clear c15b0
        try clear p16
        try clear q16
        try clear hx16
        try clear hf16
        try clear c19
        try clear c19b0
        try clear hx116_0
        try clear hx16_0
        try clear p1
        try clear p11
        try clear p116
        try clear p16
        try clear p2
        try clear p6
        try clear q1
        try clear q11
        try clear q116
        try clear q16
        obtain ⟨x5_3,x34_3,rfl,HA,HK3,HO_5,HB⟩:=hrel
        cases gk with
        | zero => exact absurd HA.out (by simp [impl_costsOf.l2])
        | succ k3 =>
         have H:=HA.out
         clear HA
         simp only [impl_costsOf.l2] at H
         by_cases c20 : x34_3 < (l1.length : Int)
         ·rw [if_pos c20] at H
          have c20b0 : decide (x34_3 < (l1.length : Int)) = true:=decide_eq_true c20
          clear c20
          by_cases c21 : 0 ≤ x34_3
          ·rw [if_pos c21] at H
           have c21b0 : decide (0 ≤ x34_3) = true:=decide_eq_true c21
           clear c21
           by_cases c22 : x34_3 < (l1.length : Int)
           ·rw [if_pos c22] at H
            have c22b0 : decide (x34_3 < (l1.length : Int)) = true:=decide_eq_true c22
            clear c22
            by_cases c23 : 0 ≤ ((rd_T71 l1 x34_3).f0)
            ·rw [if_pos c23] at H
             have c23b0 : decide (0 ≤ ((rd_T71 l1 x34_3).f0)) = true:=decide_eq_true c23
             clear c23
             by_cases c24 : ((rd_T71 l1 x34_3).f0) < (x5_3.length : Int)
             ·rw [if_pos c24] at H
              have c24b0 : decide (((rd_T71 l1 x34_3).f0) < (x5_3.length : Int)) = true:=decide_eq_true c24
              clear c24
              by_cases c25 : 0 ≤ ((rd_T71 l1 x34_3).f1)
              ·rw [if_pos c25] at H
               have c25b0 : decide (0 ≤ ((rd_T71 l1 x34_3).f1)) = true:=decide_eq_true c25
               clear c25
               by_cases c26 : ((rd_T71 l1 x34_3).f1) < (x5_3.length : Int)
               ·rw [if_pos c26] at H
                have c26b0 : decide (((rd_T71 l1 x34_3).f1) < (x5_3.length : Int)) = true:=decide_eq_true c26
                clear c26
                obtain ⟨ji27,hji27⟩ : ∃ j_ : Int,(mn (rd x5_3 ((rd_T71 l1 x34_3).f0)) (wrap64 ((rd x5_3 ((rd_T71 l1 x34_3).f1)) + ((rd_T71 l1 x34_3).f2)))) = j_:=⟨_,rfl⟩
                replace H : ((some (x5_3.set (((rd_T71 l1 x34_3).f0) : Int).toNat (ji27) : List Int)).bind fun y122 => (impl_costsOf.l2 k3 l1 (y122.set (((rd_T71 l1 x34_3).f1) : Int).toNat (mn (rd y122 ((rd_T71 l1 x34_3).f1)) (wrap64 ((rd y122 ((rd_T71 l1 x34_3).f0)) + ((rd_T71 l1 x34_3).f2))))) a0 x30_2 l1 (l1.length : Int) (wrap64 (x34_3 + 1)))) = some r:=by first|(rw [hji27] at H;exact H)|(simp only [hji27] at H ⊢;exact H)
                have hji27_ : (if (wrap64 ((rd x5_3 ((rd_T71 l1 x34_3).f1)) + ((rd_T71 l1 x34_3).f2))) < (rd x5_3 ((rd_T71 l1 x34_3).f0)) then (wrap64 ((rd x5_3 ((rd_T71 l1 x34_3).f1)) + ((rd_T71 l1 x34_3).f2))) else (rd x5_3 ((rd_T71 l1 x34_3).f0))) = ji27:=hji27
                obtain ⟨y122,hy122⟩ : ∃ y_ : List Int,y_ = (x5_3.set (((rd_T71 l1 x34_3).f0) : Int).toNat (ji27)):=⟨_,rfl⟩
                replace H : (impl_costsOf.l2 k3 l1 (y122.set (((rd_T71 l1 x34_3).f1) : Int).toNat (mn (rd y122 ((rd_T71 l1 x34_3).f1)) (wrap64 ((rd y122 ((rd_T71 l1 x34_3).f0)) + ((rd_T71 l1 x34_3).f2))))) a0 x30_2 l1 (l1.length : Int) (wrap64 (x34_3 + 1))) = some r:=by first|(rw [hy122];with_reducible exact H)|(have H2_:=(Option.bind_some _ _).symm.trans H;rw [hy122];with_reducible exact H2_)|(have H2_:=(Option.bind_some _ _).symm.trans H;with_reducible exact H2_)|with_reducible exact H|(rw [hy122];exact H)|exact H
                have Ny122:=mk_ hy122
                clear hy122
                obtain ⟨ji29,hji29⟩ : ∃ j_ : Int,(mn (rd y122 ((rd_T71 l1 x34_3).f1)) (wrap64 ((rd y122 ((rd_T71 l1 x34_3).f0)) + ((rd_T71 l1 x34_3).f2)))) = j_:=⟨_,rfl⟩
                replace H : (impl_costsOf.l2 k3 l1 (y122.set (((rd_T71 l1 x34_3).f1) : Int).toNat (ji29)) a0 x30_2 l1 (l1.length : Int) (wrap64 (x34_3 + 1))) = some r:=by first|(rw [hji29] at H;exact H)|(simp only [hji29] at H ⊢;exact H)
                have hji29_ : (if (wrap64 ((rd y122 ((rd_T71 l1 x34_3).f0)) + ((rd_T71 l1 x34_3).f2))) < (rd y122 ((rd_T71 l1 x34_3).f1)) then (wrap64 ((rd y122 ((rd_T71 l1 x34_3).f0)) + ((rd_T71 l1 x34_3).f2))) else (rd y122 ((rd_T71 l1 x34_3).f1))) = ji29:=hji29
                obtain ⟨y125,hy125⟩ : ∃ y_ : List Int,y_ = (y122.set (((rd_T71 l1 x34_3).f1) : Int).toNat (ji29)):=⟨_,rfl⟩
                replace H : (impl_costsOf.l2 k3 l1 y125 a0 x30_2 l1 (l1.length : Int) (wrap64 (x34_3 + 1))) = some r:=by first|(rw [hy125];with_reducible exact H)|(have H2_:=(Option.bind_some _ _).symm.trans H;rw [hy125];with_reducible exact H2_)|(have H2_:=(Option.bind_some _ _).symm.trans H;with_reducible exact H2_)|with_reducible exact H|(rw [hy125];exact H)|exact H
                have Ny125:=mk_ hy125
                clear hy125
                have H':=mk_ H
                clear H
                have p118 : 0 ≤ (x34_3 : Int):=od_ qa_
                have q118 : x34_3 < (l1.length : Int):=od_ qa_
                obtain ⟨ad118,e118,hx118_0,hx118_1,hx118_2⟩:=at_T71 HR1.out x34_3 p118 q118
                cases e118
                replace hx118_0:=(HB.out.cell (wl_ w _ hx118_0)).trans hx118_0
                replace hx118_1:=(HB.out.cell (wl_ w _ hx118_1)).trans hx118_1
                replace hx118_2:=(HB.out.cell (wl_ w _ hx118_2)).trans hx118_2
                replace p118:=eq_true p118
                replace q118:=eq_true q118
                try go_wp2_with (first|((with_reducible refine gate_dst (N:=9) rfl ?_);refine box_event ?hg (N:=9) ?hd (cs:=#[.int .i64 0,.int .i64 0,.int .i64 0]) (t:=71) ?hr ?_;(case hd => rfl);(case hg => rfl);(case hr => first|(go_simp;done)|(go_simp;rfl));intro gb119 hg w31 hbox hb;have n0_:=mk_ (rb_ (qr_ HO_5) hb);have n1_:=mk_ (st_ (qb_ HB) hb);have n2_:=mk_ (hbox);have n3_:=mk_ ((by rw [hg];exact (bz_ (qb_ HB)) : w.heap.size ≤ gb119));have n4_:=mk_ ((by rw [hg];exact (bz_ (qb_ HB)) : w.heap.size ≤ gb119));clear HO_5 HB;have HO_5:=n0_;have HB:=n1_;have BK119:=n2_;have GW119:=n3_;have GE119:=n4_;clear n0_ n1_ n2_ n3_ n4_ hb hbox hg;have hcz32_0 : w31.cell? ⟨gb119,0,none⟩ = some (.int .i64 0):=(bc_ BK119.out 0).trans rfl;have hcz32_1 : w31.cell? ⟨gb119,1,none⟩ = some (.int .i64 0):=(bc_ BK119.out 1).trans rfl;have hcz32_2 : w31.cell? ⟨gb119,2,none⟩ = some (.int .i64 0):=(bc_ BK119.out 2).trans rfl;have hfz32_0:=bf_ BK119.out 0;have hfz32_1:=bf_ BK119.out 1;have hfz32_2:=bf_ BK119.out 2))
                have n0_ : Aside0 (Kd.R (Kd.int .i64) 3 (((w31.setCell ⟨gb119,0,none⟩ (.int .i64 ((rd_T71 l1 x34_3).f0))).setCell ⟨gb119,1,none⟩ (.int .i64 ((rd_T71 l1 x34_3).f1))).setCell ⟨gb119,2,none⟩ (.int .i64 ((rd_T71 l1 x34_3).f2))) w.heap.size (fun _ => True) v111 x5_3):=⟨by (with_reducible repeat (first|apply ra_|apply rn_|apply rd_));exact rm_ (rf_ (p:=⟨gb119,2,none⟩) (rf_ (p:=⟨gb119,1,none⟩) (rf_ (p:=⟨gb119,0,none⟩) (rt_ HO_5.out BK119.out (by decide)) (λ_ h=>h.2) (.int .i64 ((rd_T71 l1 x34_3).f0))) (λ_ h=>h.2) (.int .i64 ((rd_T71 l1 x34_3).f1))) (λ_ h=>h.2) (.int .i64 ((rd_T71 l1 x34_3).f2))) (λ_ _=>trivial)⟩
                have n1_ : Aside0 ((((w31.setCell ⟨gb119,0,none⟩ (.int .i64 ((rd_T71 l1 x34_3).f0))).setCell ⟨gb119,1,none⟩ (.int .i64 ((rd_T71 l1 x34_3).f1))).setCell ⟨gb119,2,none⟩ (.int .i64 ((rd_T71 l1 x34_3).f2))).heap[gb119]? = some (.cells #[.int .i64 ((rd_T71 l1 x34_3).f0),.int .i64 ((rd_T71 l1 x34_3).f1),.int .i64 ((rd_T71 l1 x34_3).f2)] 71 (0,0))):=⟨by (with_reducible repeat (first|apply kn_|apply kd_|apply ka_));refine blk_put (cs:=#[.int .i64 ((rd_T71 l1 x34_3).f0),.int .i64 ((rd_T71 l1 x34_3).f1),.int .i64 0]) ?_ 2 _ rfl;(with_reducible repeat (first|apply kn_|apply kd_|apply ka_));refine blk_put (cs:=#[.int .i64 ((rd_T71 l1 x34_3).f0),.int .i64 0,.int .i64 0]) ?_ 1 _ rfl;(with_reducible repeat (first|apply kn_|apply kd_|apply ka_));refine blk_put (cs:=#[.int .i64 0,.int .i64 0,.int .i64 0]) ?_ 0 _ rfl;(with_reducible repeat (first|apply kn_|apply kd_|apply ka_));exact BK119.out⟩
                have n2_ : Aside0 (Below w.heap.size w (((w31.setCell ⟨gb119,0,none⟩ (.int .i64 ((rd_T71 l1 x34_3).f0))).setCell ⟨gb119,1,none⟩ (.int .i64 ((rd_T71 l1 x34_3).f1))).setCell ⟨gb119,2,none⟩ (.int .i64 ((rd_T71 l1 x34_3).f2)))):=⟨u0_ HB GE119⟩
                (try clear HO_5)
                (try clear BK119)
                (try clear HB)
                generalize (((w31.setCell ⟨gb119,0,none⟩ (.int .i64 ((rd_T71 l1 x34_3).f0))).setCell ⟨gb119,1,none⟩ (.int .i64 ((rd_T71 l1 x34_3).f1))).setCell ⟨gb119,2,none⟩ (.int .i64 ((rd_T71 l1 x34_3).f2))) = w33 at n0_ n1_ n2_ ⊢
                have HO_5:=n0_
                have BK119:=n1_
                have HB:=n2_
                clear n0_ n1_ n2_
                have n0_:=mk_ (rd_ HO_5.out)
                have n1_:=mk_ (kd_ BK119.out)
                have n2_:=mk_ (bd_ HB.out)
                clear HO_5
                clear BK119
                clear HB
                have HO_5:=n0_
                have BK119:=n1_
                have HB:=n2_
                clear n0_ n1_ n2_
                obtain ⟨Ao35,co35,eo35⟩:=Kd.R_slice HO_5.out
                (first|subst eo35|(injection eo35 with f1_ f2_ f3_;have f4_:=f1_.symm;have f5_:=f3_.symm;clear f1_ f2_ f3_;subst f4_;subst f5_))
                have p120 : 0 ≤ (((rd_T71 l1 x34_3).f0) : Int):=od_ qa_
                have q120 : ((rd_T71 l1 x34_3).f0) < (x5_3.length : Int):=od_ qa_
                obtain ⟨ad120,e120,hx120_0⟩:=Kd.at_int (rr_ HO_5.out).2.2 ((rd_T71 l1 x34_3).f0) p120 q120
                cases e120
                replace p120:=eq_true p120
                replace q120:=eq_true q120
                have p121 : 0 ≤ (((rd_T71 l1 x34_3).f1) : Int):=od_ qa_
                have q121 : ((rd_T71 l1 x34_3).f1) < (x5_3.length : Int):=od_ qa_
                obtain ⟨ad121,e121,hx121_0⟩:=Kd.at_int (rr_ HO_5.out).2.2 ((rd_T71 l1 x34_3).f1) p121 q121
                obtain rfl : ad120 = ad121:=(by injection e121)
                replace p121:=eq_true p121
                replace q121:=eq_true q121
                have p28 : 0 ≤ (((rd_T71 l1 x34_3).f0) : Int):=od_ qa_
                have q28 : (((rd_T71 l1 x34_3).f0) : Int) < ((x5_3.length : Int) : Int):=od_ qa_
                obtain ⟨go28,co28,eo28,gb28,gl28,cl28,HG28⟩:=Kd.R_form HO_5.out (by omega)
                (first|cases eo28|(injection eo28 with ea_ en_ ec_;(first|subst ea_|(injection ea_ with ea_;subst ea_));subst ec_;clear en_))
                have GB28:=mk_ gb28
                have GG28:=mk_ HG28
                clear gb28 gl28 HG28
                (first|simp only [add_plain] at hx120_0|skip)
                (first|simp only [add_plain] at hx121_0|skip)
                obtain ⟨hx28_0,hf28_0⟩:=Kd.R_celln 0 HO_5.out (((rd_T71 l1 x34_3).f0) : Int) p28 q28
                replace p28:=eq_true p28
                replace q28:=eq_true q28
                have HP36:=Kd.R_putn HO_5.out (((rd_T71 l1 x34_3).f0) : Int) ji27
                rw [← Ny122.out] at HP36
                have HQ36:=mk_ HP36
                clear HP36
                refine start_ (n:=19) (S:=fun w' => w'.cell? ⟨gb119,0,none⟩ = some (.int .i64 ((rd_T71 l1 x34_3).f0)) ∧ w'.cell? ⟨gb119,1,none⟩ = some (.int .i64 ((rd_T71 l1 x34_3).f1)) ∧ w'.cell? ⟨gb119,2,none⟩ = some (.int .i64 ((rd_T71 l1 x34_3).f2)) ∧ w'.cell? ⟨go28,(((rd_T71 l1 x34_3).f0)).toNat,none⟩ = some (.int .i64 (rd x5_3 ((rd_T71 l1 x34_3).f0))) ∧ w'.cell? ⟨go28,(((rd_T71 l1 x34_3).f1)).toNat,none⟩ = some (.int .i64 (rd x5_3 ((rd_T71 l1 x34_3).f1)))) (ds:=[18]) #[false,false,false,false,false,false,false,false,false,false,false,false,false,false,false,false,false,false,false] (by kernel_rfl) rfl rfl ⟨(bc_ BK119.out 0).trans rfl,(bc_ BK119.out 1).trans rfl,(bc_ BK119.out 2).trans rfl,hx120_0,hx121_0⟩ (fun hHeld => ?_);refine with_tabW impl_costsOf.tab13 impl_costsOf.bits13 (fun HT_ HW_ => ?_)
                generalize w33.drew = w34 at HO_5 BK119 HB GG28 HQ36 hf28_0 hx120_0 hx121_0 hx28_0 hHeld ⊢
                refine pu_ (i:=0) (N:=some 38) 19 1 ?_
                refine pu_ (i:=1) (N:=some 39) 19 3 ?_
                refine pu_ (i:=3) (N:=some 41) 19 11 ?_
                refine pu_ (i:=4) (N:=some 42) 19 27 ?_
                refine pu_ (i:=8) (N:=some 46) 19 283 ?_
                refine pu_ (i:=9) (N:=some 47) 19 795 ?_
                refine pu_ (i:=13) (N:=some 51) 19 8987 ?_
                refine ta5_ (i:=2) (N:=some 40) 19 8991 hHeld ?_
                refine ta5_ (i:=5) (N:=some 43) 19 9023 hHeld ?_
                refine pu_ (i:=6) (N:=some 44) 19 9087 ?_
                refine ta5_ (i:=7) (N:=some 45) 19 9215 hHeld ?_
                refine ta5_ (i:=10) (N:=some 48) 19 10239 hHeld ?_
                refine pu_ (i:=11) (N:=some 49) 19 12287 ?_
                refine ta5_ (i:=12) (N:=some 50) 19 16383 hHeld ?_
                refine ta5_ (i:=14) (N:=some 52) 19 32767 hHeld ?_
                refine pu_ (i:=15) (N:=some 53) 19 65535 ?_
                refine pu_ (i:=16) (N:=some 54) 19 131071 ?_
                refine pu_ (i:=17) (N:=some 55) 19 262143 ?_
                refine last_ (i:=18) (N:=none) #[true,true,true,true,true,true,true,true,true,true,true,true,true,true,true,true,true,true,true] rfl rfl (one_of HT_.out (by kernel_rfl)) (by decide) (fun K hK => ?_)
                refine skip_ (w1:=?_) (by rfl) rfl ?_ ?_
                rotate_left
                ·go_simp
                 rfl
                refine hK.out _ _ ?_
                clear hK K
                refine done_ (done_of HT_.out (by kernel_rfl)) ?_
                try go_wp2
                have n0_ : Aside0 (Kd.R (Kd.int .i64) 3 (w34.setCell ⟨go28,(((rd_T71 l1 x34_3).f0) : Int).toNat,none⟩ (.int .i64 ji27)) w.heap.size (fun _ => True) (.slice (some ⟨go28,0,none⟩) x5_3.length co35) y122):=⟨qr_ HQ36⟩
                have n1_ : Aside0 ((w34.setCell ⟨go28,(((rd_T71 l1 x34_3).f0) : Int).toNat,none⟩ (.int .i64 ji27)).heap[gb119]? = some (.cells #[.int .i64 ((rd_T71 l1 x34_3).f0),.int .i64 ((rd_T71 l1 x34_3).f1),.int .i64 ((rd_T71 l1 x34_3).f2)] 71 (0,0))):=⟨by (with_reducible repeat (first|apply kn_|apply kd_|apply ka_));refine blk_far ?_ (by have h_:=Kd.R_ne HO_5.out BK119.out (by decide);intro e_;exact h_ (by rw [e_];rfl)) _;(with_reducible repeat (first|apply kn_|apply kd_|apply ka_));exact BK119.out⟩
                have n2_ : Aside0 (Below w.heap.size w (w34.setCell ⟨go28,(((rd_T71 l1 x34_3).f0) : Int).toNat,none⟩ (.int .i64 ji27))):=⟨u2_ HB GB28 GE119⟩
                (try clear HO_5)
                (try clear BK119)
                (try clear HB)
                generalize (w34.setCell ⟨go28,(((rd_T71 l1 x34_3).f0) : Int).toNat,none⟩ (.int .i64 ji27)) = w37 at n0_ n1_ n2_ ⊢
                have HO_5:=n0_
                have BK119:=n1_
                have HB:=n2_
                clear n0_ n1_ n2_
                have n0_:=mk_ (rd_ HO_5.out)
                have n1_:=mk_ (kd_ BK119.out)
                have n2_:=mk_ (bd_ HB.out)
                clear HO_5
                clear BK119
                clear HB
                have HO_5:=n0_
                have BK119:=n1_
                have HB:=n2_
                clear n0_ n1_ n2_
                have p123 : 0 ≤ (((rd_T71 l1 x34_3).f1) : Int):=od_ qa_
                have q123 : ((rd_T71 l1 x34_3).f1) < (y122.length : Int):=(by have h_ : (((rd_T71 l1 x34_3).f1) : Int) < ((x5_3.length : Int) : Int):=od_ qa_;first|(have e_:=(rr_ HO_5.out).1;omega)|simpa only [Ny122.out,List.length_set] using h_)
                have ql123 : ((((rd_T71 l1 x34_3).f1) : Int) < ((x5_3.length : Int) : Int)) = True:=eq_true (od_ qa_)
                obtain ⟨ad123,e123,hx123_0⟩:=Kd.at_int (rr_ HO_5.out).2.2 ((rd_T71 l1 x34_3).f1) p123 q123
                obtain rfl : (⟨go28,0,none⟩ : Addr) = ad123:=(by injection e123)
                (first|simp only [add_plain] at hx123_0|simp only [add_at] at hx123_0|simp only [Addr.add,Nat.zero_add] at hx123_0|skip)
                replace p123:=eq_true p123
                replace q123:=eq_true q123
                have p124 : 0 ≤ (((rd_T71 l1 x34_3).f0) : Int):=od_ qa_
                have q124 : ((rd_T71 l1 x34_3).f0) < (y122.length : Int):=(by have h_ : (((rd_T71 l1 x34_3).f0) : Int) < ((x5_3.length : Int) : Int):=od_ qa_;first|(have e_:=(rr_ HO_5.out).1;omega)|simpa only [Ny122.out,List.length_set] using h_)
                have ql124 : ((((rd_T71 l1 x34_3).f0) : Int) < ((x5_3.length : Int) : Int)) = True:=eq_true (od_ qa_)
                obtain ⟨ad124,e124,hx124_0⟩:=Kd.at_int (rr_ HO_5.out).2.2 ((rd_T71 l1 x34_3).f0) p124 q124
                obtain rfl : (⟨go28,0,none⟩ : Addr) = ad124:=(by injection e124)
                (first|simp only [add_plain] at hx124_0|simp only [add_at] at hx124_0|simp only [Addr.add,Nat.zero_add] at hx124_0|skip)
                replace p124:=eq_true p124
                replace q124:=eq_true q124
                have p30 : 0 ≤ (((rd_T71 l1 x34_3).f1) : Int):=od_ qa_
                have q30 : (((rd_T71 l1 x34_3).f1) : Int) < ((x5_3.length : Int) : Int):=od_ qa_
                obtain ⟨hx30_0,hf30_0⟩:=Kd.R_celln 0 HO_5.out (((rd_T71 l1 x34_3).f1) : Int) p30 q30
                replace p30:=eq_true p30
                replace q30:=eq_true q30
                have HP39:=Kd.R_putn HO_5.out (((rd_T71 l1 x34_3).f1) : Int) ji29
                rw [← Ny125.out] at HP39
                have HQ39:=mk_ HP39
                clear HP39
                refine start_ (n:=19) (S:=fun w' => w'.cell? ⟨gb119,0,none⟩ = some (.int .i64 ((rd_T71 l1 x34_3).f0)) ∧ w'.cell? ⟨gb119,1,none⟩ = some (.int .i64 ((rd_T71 l1 x34_3).f1)) ∧ w'.cell? ⟨gb119,2,none⟩ = some (.int .i64 ((rd_T71 l1 x34_3).f2)) ∧ w'.cell? ⟨go28,(((rd_T71 l1 x34_3).f1)).toNat,none⟩ = some (.int .i64 (rd y122 ((rd_T71 l1 x34_3).f1))) ∧ w'.cell? ⟨go28,(((rd_T71 l1 x34_3).f0)).toNat,none⟩ = some (.int .i64 (rd y122 ((rd_T71 l1 x34_3).f0)))) (ds:=[18]) #[false,false,false,false,false,false,false,false,false,false,false,false,false,false,false,false,false,false,false] (by kernel_rfl) rfl rfl ⟨(bc_ BK119.out 0).trans rfl,(bc_ BK119.out 1).trans rfl,(bc_ BK119.out 2).trans rfl,hx123_0,hx124_0⟩ (fun hHeld => ?_);refine with_tabW impl_costsOf.tab14 impl_costsOf.bits14 (fun HT_ HW_ => ?_)
                generalize w37.drew = w38 at HO_5 BK119 HB HQ36 HQ39 hf30_0 hx123_0 hx124_0 hx30_0 hHeld ⊢
                refine pu_ (i:=0) (N:=some 56) 19 1 ?_
                refine pu_ (i:=1) (N:=some 57) 19 3 ?_
                refine pu_ (i:=3) (N:=some 59) 19 11 ?_
                refine pu_ (i:=4) (N:=some 60) 19 27 ?_
                refine pu_ (i:=8) (N:=some 64) 19 283 ?_
                refine pu_ (i:=9) (N:=some 65) 19 795 ?_
                refine pu_ (i:=13) (N:=some 69) 19 8987 ?_
                refine ta5_ (i:=2) (N:=some 58) 19 8991 hHeld ?_
                refine ta5_ (i:=5) (N:=some 61) 19 9023 hHeld ?_
                refine pu_ (i:=6) (N:=some 62) 19 9087 ?_
                refine ta5_ (i:=7) (N:=some 63) 19 9215 hHeld ?_
                refine ta5_ (i:=10) (N:=some 66) 19 10239 hHeld ?_
                refine pu_ (i:=11) (N:=some 67) 19 12287 ?_
                refine ta5_ (i:=12) (N:=some 68) 19 16383 hHeld ?_
                refine ta5_ (i:=14) (N:=some 70) 19 32767 hHeld ?_
                refine pu_ (i:=15) (N:=some 71) 19 65535 ?_
                refine pu_ (i:=16) (N:=some 72) 19 131071 ?_
                refine pu_ (i:=17) (N:=some 73) 19 262143 ?_
                refine last_ (i:=18) (N:=none) #[true,true,true,true,true,true,true,true,true,true,true,true,true,true,true,true,true,true,true] rfl rfl (one_of HT_.out (by kernel_rfl)) (by decide) (fun K hK => ?_)
                refine skip_ (w1:=?_) (by rfl) rfl ?_ ?_
                rotate_left
                ·go_simp
                 rfl
                refine hK.out _ _ ?_
                clear hK K
                refine done_ (done_of HT_.out (by kernel_rfl)) ?_
                try go_wp2
                go_roundg k3
                case measure => have:=HK1.out;have:=HK2.out;have:=HK3.out;omega
                case rel => exact ⟨(y125),(wrap64 (x34_3 + 1)),qf_,H',⟨by have:=HK1.out;have:=HK2.out;have:=HK3.out;omega⟩,⟨qr_ HQ39⟩,⟨u2_ HB GB28 GE119⟩⟩
               ·rw [if_neg c26] at H
                exact absurd H (by simp)
              ·rw [if_neg c25] at H
               exact absurd H (by simp)
             ·rw [if_neg c24] at H
              exact absurd H (by simp)
            ·rw [if_neg c23] at H
             exact absurd H (by simp)
           ·rw [if_neg c22] at H
            exact absurd H (by simp)
          ·rw [if_neg c21] at H
           exact absurd H (by simp)
         ·rw [if_neg c20] at H
          have c20b0 : decide (x34_3 < (l1.length : Int)) = false:=decide_eq_false c20
          clear c20
          have H':=mk_ H
          clear H
          go_wp2
          go_roundg k3
          case measure => have:=HK1.out;have:=HK2.out;have:=HK3.out;omega
          case rel => exact ⟨(x5_3),(wrap64 (x30_2 + 1)),qf_,H',⟨by have:=HK1.out;have:=HK2.out;have:=HK3.out;omega⟩,⟨qr_ HO_5⟩,⟨u1_ HB⟩⟩
      ·rw [if_neg c19] at H
       have c19b0 : decide (x30_2 < a0) = false:=decide_eq_false c19
       clear c19
       obtain rfl:=Option.some.inj H
       go_wp2
       go_ret
       exact ⟨_,qe_,qr_ HO_5,u1_ HB⟩

end Go.Proofs.YtblcnbnphjnhdaaDoor.PAll

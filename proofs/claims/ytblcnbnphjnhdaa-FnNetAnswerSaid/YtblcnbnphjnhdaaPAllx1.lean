/- Proved here: contracts of functions of the given program, or lemmas on them, for the laws of this seat. Written by xprint.py, a program of this session, on the ground of the kit's print; parts by hand: wip/x/ext. -/
import Derived.Test.YtblcnbnphjnhdaaPAllx0
namespace Go.Proofs.Ytblcnbnphjnhdaa.PAll
open Go.RowKit Go.Proofs.YtblcnbnphjnhdaaW.PrintWords Go.Proofs.YtblcnbnphjnhdaaW.PrintLast Go.Proofs.YtblcnbnphjnhdaaW.PrintMore
attribute [local go_sem] max2_int min2_int max_two min_two max_three min_three max_four min_four   -- for this text's walks alone
set_option linter.unusedVariables false
set_option linter.unusedSimpArgs false
/-! ### impl_within: function 66 -/
def impl_within.f (a0 : Int) (a1 : Int) (a2 : Int) : Option (Bool):=if a1 ≤ a0 then (some (decide (a0 ≤ a2))) else (some false)
set_option maxHeartbeats 8000000 in
set_option maxRecDepth 100000 in
theorem impl_within.calls (a0 : Int) (a1 : Int) (a2 : Int) (r : Bool) (w : World) (h : impl_within.f a0 a1 a2 = some r) :
  Calls Try.prog 66 #[.int .i64 a0,.int .i64 a1,.int .i64 a2] w fun e w' => e = .returned (.bool r) ∧ Drawn0 w w':=by
 have H : (if a1 ≤ a0 then (some (decide (a0 ≤ a2))) else (some false)) = some r:=h
 clear h
 by_cases c4 : a1 ≤ a0
 ·rw [if_pos c4] at H
  have c4b0 : decide (a1 ≤ a0) = true:=decide_eq_true c4
  clear c4
  obtain rfl:=Option.some.inj H
  go_enter Try.func66,Try.ntmps66
  go_wp2
  go_ret
  exact ⟨by first|rfl|(simp;done)|(simp [*];done),by repeat (first|exact Drawn0.refl _|apply Drawn0.step)⟩
 ·rw [if_neg c4] at H
  have c4b0 : decide (a1 ≤ a0) = false:=decide_eq_false c4
  clear c4
  obtain rfl:=Option.some.inj H
  go_enter Try.func66,Try.ntmps66
  go_wp2
  go_ret
  exact ⟨by first|rfl|(simp;done)|(simp [*];done),by repeat (first|exact Drawn0.refl _|apply Drawn0.step)⟩
def PredB {α : Type} (P : Program) (g : Nat) (lb : Array Value) (enc : α → Value) (p : α → Bool) (w : World) : Prop :=
 ∀ (W : World) (x : α),Below w.heap.size w W → Calls P g (#[enc x] ++ lb) W fun e w' => e = .returned (.bool (p x)) ∧ Below W.heap.size W w'
theorem PredB.later {α : Type} {P : Program} {g : Nat} {lb : Array Value} {enc : α → Value} {p : α → Bool} {w W : World} (h : PredB P g lb enc p w) (hb : Below w.heap.size w W) : PredB P g lb enc p W :=
 fun W' x hb' => h W' x (hb.trans (hb'.mono hb.size))
def idxL {α : Type} (p : α → Bool) : List α → Nat → Int
 | [],_ => -1
 | x :: xs,k => if p x then (k : Int) else idxL p xs (k + 1)
theorem idxL_iff {α : Type} (p : α → Bool) (l : List α) (k : Nat) : 0 ≤ idxL p l k ↔ l.any p = true:=by
 induction l generalizing k with
 | nil => exact ⟨fun h => absurd h (by simp [idxL]),fun h => absurd h (by simp)⟩
 | cons x xs ih =>
  by_cases hp : p x = true
  ·have e : idxL p (x :: xs) k = (k : Int):=if_pos hp
   rw [e]
   exact ⟨fun _ => by simp [hp],fun _ => by omega⟩
  ·have e : idxL p (x :: xs) k = idxL p xs (k + 1):=if_neg hp
   rw [e,ih]
   simp [Bool.eq_false_iff.mpr hp]
theorem idxL_any {α : Type} (p : α → Bool) (l : List α) (k : Nat) : decide (0 ≤ idxL p l k) = l.any p:=by
 have h:=idxL_iff p l k
 cases ha : l.any p with
 | true => exact decide_eq_true (h.2 ha)
 | false => exact decide_eq_false (fun h0 => by rw [h.1 h0] at ha;cases ha)
theorem idxL_drop {α : Type} [Inhabited α] (p : α → Bool) (l : List α) (k : Nat) (h : k < l.length) : idxL p (l.drop k) k = if p (l.getD k default) then (k : Int) else idxL p (l.drop (k + 1)) (k + 1):=by
 rw [List.drop_eq_getElem_cons h,idxL]
 simp [List.getD_eq_getElem?_getD,h]
theorem below_step {w W W' : World} (h : Below w.heap.size w W) (h' : Below W.heap.size W W') : Below w.heap.size w W':=h.trans (h'.mono h.size)
theorem rd_getD (l : List Int) (k : Nat) : rd l (k : Int) = l.getD k default:=by simp [rd]
theorem blk_new_at {w : World} (o : Obj) (n : Nat) (h : w.heap.size = n) : (w.alloc o).heap[n]? = some o:=h ▸ blk_new w o
theorem rdCab_get (l : List S83) (i : Nat) (h : i < l.length) : rd_T83 l (i : Int) = l[i]:=by simp [rd_T83,List.getD_eq_getElem?_getD,h]
theorem any_not_allc {α : Type} (p : α → Bool) (l : List α) : (!l.any fun x => !p x) = l.all p:=by
 induction l with
 | nil => rfl
 | cons x xs ih => simp only [List.any_cons,List.all_cons,Bool.not_or,Bool.not_not,ih]
def encCab (x : S83) : Value:=.agg #[.int .i64 x.f0,.int .i64 x.f1,.int .i64 x.f2]
set_option maxHeartbeats 4000000 in
set_option maxRecDepth 100000 in
theorem x_IndexFunc_cab (p : S83 → Bool) (g : Nat) (lb : Array Value) (eg : ∀ args w, (callFunc g args).run Try.prog w = .ok (.enter g args) w) (A0 : Option Addr) (c0 : Nat) (l0 : List S83) (w : World)
  (hp : PredB Try.prog g lb encCab p w) (hr0 : Kd.C k83 w A0 l0.length l0) :
  Calls Try.prog 120 #[.slice A0 l0.length c0,.func (.func g) #[] lb] w fun e w' => e = .returned (.int .i64 (idxL p l0 0)) ∧ Below w.heap.size w w':=by
 have hlen:=Kd.C_max hr0
 have HR:=mk_ hr0
 have HP:=mk_ hp
 clear hr0 hp
 have hu:=Try.underlying83
 go_enter Try.func120,Try.ntmps120
 go_wp2
 go_loopg [5,8] l0.length (fun gg _ s8 wr => ∃ kk : Nat,kk ≤ l0.length ∧ l0.length - kk ≤ gg ∧ s8 = .int .i64 kk ∧ Aside0 (Below w.heap.size w wr) ∧ Aside0 (idxL p (l0.drop kk) kk = idxL p l0 0))
 case atStart => exact ⟨0,Nat.zero_le _,by omega,rfl,⟨Below.refl _ w⟩,⟨rfl⟩⟩
 case round =>
  obtain ⟨kk,hkk,hg,rfl,BW,HI⟩:=hrel
  by_cases hlt : kk < l0.length
  ·obtain ⟨ad,e,hx0,hx1,hx2⟩:=at_T83 (cb_ HR.out BW.out) (kk : Int) (by omega) (by omega)
   cases e
   rw [Int.toNat_natCast] at hx0 hx1 hx2
   obtain ⟨y,hy⟩ : ∃ y,y = rd_T83 l0 (kk : Int):=⟨_,rfl⟩
   rw [← hy] at hx0 hx1 hx2
   have hcall:=HP.out wr y BW.out
   unfold encCab at hcall
   have HD : Aside0 (idxL p l0 0 = if p y then (kk : Int) else idxL p (l0.drop (kk + 1)) (kk + 1)):=⟨by rw [← HI.out,List.drop_eq_getElem_cons hlt,idxL,hy,rdCab_get l0 kk hlt]⟩
   clear hy
   cases hq : p y with
   | true =>
    rw [hq] at hcall
    have HQ:=mk_ hq
    clear hq
    go_wp2_with (go_at_fn g;refine hcall.mono ?_;rintro e w' ⟨rfl,hb'⟩)
    go_ret
    exact ⟨by rw [HD.out,HQ.out];rfl,st_ BW.out hb'⟩
   | false =>
    rw [hq] at hcall
    have HQ:=mk_ hq
    clear hq
    go_wp2_with (go_at_fn g;refine hcall.mono ?_;rintro e w' ⟨rfl,hb'⟩)
    go_roundg (l0.length - (kk + 1))
    case measure => omega
    case rel => exact ⟨kk + 1,by omega,by omega,by go_num,⟨st_ BW.out hb'⟩,⟨by rw [HD.out,HQ.out];rfl⟩⟩
  ·have e : kk = l0.length:=by omega
   subst e
   go_wp2
   go_ret
   exact ⟨by rw [← HI.out,List.drop_length];rfl,BW.out⟩
set_option maxHeartbeats 4000000 in
set_option maxRecDepth 100000 in
theorem x_ContainsFunc_cab (p : S83 → Bool) (g : Nat) (lb : Array Value) (eg : ∀ args w, (callFunc g args).run Try.prog w = .ok (.enter g args) w) (A0 : Option Addr) (c0 : Nat) (l0 : List S83) (w : World)
  (hp : PredB Try.prog g lb encCab p w) (hr0 : Kd.C k83 w A0 l0.length l0) :
  Calls Try.prog 109 #[.slice A0 l0.length c0,.func (.func g) #[] lb] w fun e w' => e = .returned (.bool (l0.any p)) ∧ Below w.heap.size w w':=by
 have hcall:=x_IndexFunc_cab p g lb eg A0 c0 l0 w hp hr0
 have HA:=mk_ (idxL_any p l0 0)
 obtain ⟨z,hz⟩ : ∃ z,z = idxL p l0 0:=⟨_,rfl⟩
 rw [← hz] at hcall HA
 clear hp hr0 hz
 go_enter Try.func109,Try.ntmps109
 go_wp2_with (go_at_call 120;refine hcall.mono ?_;rintro e w' ⟨rfl,hb'⟩)
 go_ret
 exact ⟨by rw [← HA.out];rfl,hb'⟩
set_option maxHeartbeats 4000000 in
set_option maxRecDepth 100000 in
theorem x_all_cab_1 {p : S83 → Bool} {g : Nat} {lb : Array Value} (eg : ∀ args w, (callFunc g args).run Try.prog w = .ok (.enter g args) w) {b : Nat} {w : World}
  (hp : PredB Try.prog g lb encCab p w) (hb : b < w.heap.size) (hc : w.cell? ⟨b,0,none⟩ = some (.func (.func g) #[] lb)) :
  PredB Try.prog 110 #[.pointer (some ⟨b,0,none⟩)] encCab (fun x => !p x) w:=by
 intro W x hB
 have hu:=Try.underlying83
 have hB2 : Below W.heap.size W (W.alloc (.cells #[.int .i64 x.f0,.int .i64 x.f1,.int .i64 x.f2] 83)):=(Below.refl _ W).alloc (Nat.le_refl _) _
 have hc':=(hB.cell (p:=⟨b,0,none⟩) hb).trans hc
 have hbW : b < W.heap.size:=Nat.lt_of_lt_of_le hb hB.size
 have hcall:=hp _ x (st_ hB hB2)
 have HB2:=mk_ hB2
 clear hp hc hB hb hB2
 unfold encCab at hcall ⊢
 go_enter Try.func110,Try.ntmps110
 go_wp2_with (go_at_fn g;refine hcall.mono ?_;rintro e w' ⟨rfl,hb'⟩)
 go_ret
 exact ⟨rfl,st_ HB2.out hb'⟩
set_option maxHeartbeats 4000000 in
set_option maxRecDepth 100000 in
theorem x_all_cab (p : S83 → Bool) (g : Nat) (lb : Array Value) (eg : ∀ args w, (callFunc g args).run Try.prog w = .ok (.enter g args) w) (A0 : Option Addr) (c0 : Nat) (l0 : List S83) (w : World)
  (hp : PredB Try.prog g lb encCab p w) (hr0 : Kd.C k83 w A0 l0.length l0) :
  Calls Try.prog 91 #[.slice A0 l0.length c0,.func (.func g) #[] lb] w fun e w' => e = .returned (.bool (l0.all p)) ∧ Below w.heap.size w w':=by
 have hmf : ∀ (fn : Fn) (first cap : Array Value) (w : World),(Instr.makeFunc fn first cap).run Try.prog w = .ok (.func fn first cap) w:=fun _ _ _ _ => rfl
 have hb0 : Below w.heap.size w (w.alloc (.cells #[.func (.func g) #[] lb] 120)):=(Below.refl _ w).alloc (Nat.le_refl _) _
 have hcall:=x_ContainsFunc_cab (fun x => !p x) 110 #[.pointer (some ⟨w.heap.size,0,none⟩)] (enters_of Try.func110 (by kernel_rfl) rfl) A0 c0 l0 _ (x_all_cab_1 eg (hp.later hb0) (by simp) (by simp)) (cb_ hr0 hb0)
 have HB0:=mk_ hb0
 clear hp hr0 hb0
 go_enter Try.func91,Try.ntmps91
 go_wp2_with (go_at_call 109;refine hcall.mono ?_;rintro e w' ⟨rfl,hb'⟩)
 go_ret
 exact ⟨by rw [any_not_allc];rfl,st_ HB0.out hb'⟩
def cabB (n : Int) (x : S83) : Bool:=(decide (0 ≤ x.f0) && decide (x.f0 ≤ wrap64 (n - 1))) && ((decide (0 ≤ x.f1) && decide (x.f1 ≤ wrap64 (n - 1))) && ((x.f0 != x.f1) && (decide (1 ≤ x.f2) && decide (x.f2 ≤ 99))))
def cabsB (n : Int) (l : List S83) : Bool:=(decide (1 ≤ n) && decide (n ≤ 8)) && (decide (l.length ≤ 20) && l.all (cabB n))
theorem cabsB_facts {n : Int} {l : List S83} (h : cabsB n l = true) : 1 ≤ n ∧ n ≤ 8 ∧ l.length ≤ 20 ∧ ∀ x ∈ l,0 ≤ x.f0 ∧ x.f0 < n ∧ 0 ≤ x.f1 ∧ x.f1 < n ∧ x.f0 ≠ x.f1 ∧ 1 ≤ x.f2 ∧ x.f2 ≤ 99:=by
 unfold cabsB at h
 simp only [Bool.and_eq_true,decide_eq_true_eq,List.all_eq_true] at h
 obtain ⟨⟨h1,h2⟩,h3,h4⟩:=h
 refine ⟨h1,h2,h3,fun x hx => ?_⟩
 have:=h4 x hx
 unfold cabB at this
 have e : wrap64 (n - 1) = n - 1:=by unfold wrap64;omega
 rw [e] at this
 simp only [Bool.and_eq_true,decide_eq_true_eq,bne_iff_ne] at this
 omega
theorem wrap_eq {x : Int} (h1 : -9223372036854775808 ≤ x) (h2 : x ≤ 9223372036854775807) : wrap64 x = x:=by unfold wrap64;omega
theorem wrap_succ {i n : Nat} (h : i < n) (hn : n ≤ 9223372036854775807) : wrap64 ((i : Int) + 1) = ((i + 1 : Nat) : Int):=by rw [wrap_eq (by omega) (by omega)];rfl
theorem rd_get (l : List Int) (i : Nat) (h : i < l.length) : rd l (i : Int) = l[i]:=by simp [rd,List.getD_eq_getElem?_getD,h]
theorem win_is (n a b : Int) : impl_within.f n a b = some (decide (a ≤ n) && decide (n ≤ b)):=by
 unfold impl_within.f
 by_cases h : a ≤ n <;> simp [h]
theorem x_win (n a b : Int) (W : World) : Calls Try.prog 66 #[.int .i64 n,.int .i64 a,.int .i64 b] W fun e w' => e = .returned (.bool (decide (a ≤ n) && decide (n ≤ b))) ∧ Below W.heap.size W w' :=
 (impl_within.calls n a b _ W (win_is n a b)).mono fun e w' ⟨he,hd⟩ => ⟨he,hd.below⟩
/-! ### impl_CablesValid: function 63 (by hand) -/
set_option maxHeartbeats 4000000 in
set_option maxRecDepth 100000 in
theorem x_CablesValid_1 {n : Int} {b : Nat} {w : World} (hb : b < w.heap.size) (hc : w.cell? ⟨b,0,none⟩ = some (.int .i64 n)) :
  PredB Try.prog 92 #[.pointer (some ⟨b,0,none⟩)] encCab (cabB n) w:=by
 intro W x hB
 have hu:=Try.underlying83
 have HC:=mk_ (fun W' (h : Below W.heap.size W W') => (st_ hB h).cell (p:=⟨b,0,none⟩) hb |>.trans hc)
 have hB0 : Below W.heap.size W (W.alloc (.cells #[.int .i64 x.f0,.int .i64 x.f1,.int .i64 x.f2] 83)):=(Below.refl _ W).alloc (Nat.le_refl _) _
 have hN0:=blk_new W (.cells #[.int .i64 x.f0,.int .i64 x.f1,.int .i64 x.f2] 83)
 have h0:=HC.out _ hB0
 have hbW : b < W.heap.size:=Nat.lt_of_lt_of_le hb hB.size
 have HB0:=mk_ hB0
 have HN0:=mk_ hN0
 have hc':=(hB.cell (p:=⟨b,0,none⟩) hb).trans hc
 clear hc hB hb hB0 hN0
 unfold encCab
 have HZ : Aside0 (cabB n x = ((decide (0 ≤ x.f0) && decide (x.f0 ≤ wrap64 (n - 1))) && ((decide (0 ≤ x.f1) && decide (x.f1 ≤ wrap64 (n - 1))) && ((x.f0 != x.f1) && (decide (1 ≤ x.f2) && decide (x.f2 ≤ 99)))))):=⟨rfl⟩
 generalize cabB n x = z at HZ ⊢
 generalize x.f0 = a1 at *
 generalize x.f1 = a2 at *
 generalize x.f2 = a3 at *
 clear x
 obtain ⟨m,hm⟩ : ∃ m,m = wrap64 (n - 1):=⟨_,rfl⟩
 rw [← hm] at HZ
 have y1 : IntKind.i64.wrap (n - 1) = m:=(i64_w _).trans hm.symm
 have hw1:=fun W => x_win a1 0 m W
 have hw2:=fun W => x_win a2 0 m W
 have hw3:=fun W => x_win a3 1 99 W
 clear hm
 generalize (decide (0 ≤ a1) && decide (a1 ≤ m)) = z1 at HZ hw1
 generalize (decide (0 ≤ a2) && decide (a2 ≤ m)) = z2 at HZ hw2
 generalize (decide (1 ≤ a3) && decide (a3 ≤ 99)) = z3 at HZ hw3
 cases z1 with
 | false =>
  have HZ2 : Aside0 (z = false):=⟨by rw [HZ.out];rfl⟩
  go_enter Try.func92,Try.ntmps92
  go_wp2_with fail
  refine (hw1 _).mono ?_
  rintro e w1 ⟨rfl,hb1⟩
  go_wp2_with fail
  go_ret
  exact ⟨by rw [HZ2.out];rfl,st_ HB0.out hb1⟩
 | true =>
 cases z2 with
 | false =>
  have HZ2 : Aside0 (z = false):=⟨by rw [HZ.out];rfl⟩
  go_enter Try.func92,Try.ntmps92
  go_wp2_with fail
  refine (hw1 _).mono ?_
  rintro e w1 ⟨rfl,hb1⟩
  have q1 : w1.cell? ⟨b,0,none⟩ = some (.int .i64 n):=HC.out w1 (st_ HB0.out hb1)
  have c1 : w1.cell? ⟨W.heap.size,1,none⟩ = some (.int .i64 a2):=(bc_ (blk_below HN0.out hb1) 1).trans rfl
  have HB1:=mk_ (st_ HB0.out hb1)
  clear hb1
  go_wp2_with fail
  refine (hw2 _).mono ?_
  rintro e w2 ⟨rfl,hb2⟩
  go_wp2_with fail
  go_ret
  exact ⟨by rw [HZ2.out];rfl,st_ HB1.out hb2⟩
 | true =>
 by_cases hne : a1 = a2
 ·have HZ2 : Aside0 (z = false):=⟨by rw [HZ.out,bne_eq_false_iff_eq.mpr hne];rfl⟩
  have hd : (a1 != a2) = false:=bne_eq_false_iff_eq.mpr hne
  clear hne
  go_enter Try.func92,Try.ntmps92
  go_wp2_with fail
  refine (hw1 _).mono ?_
  rintro e w1 ⟨rfl,hb1⟩
  have q1 : w1.cell? ⟨b,0,none⟩ = some (.int .i64 n):=HC.out w1 (st_ HB0.out hb1)
  have c1 : w1.cell? ⟨W.heap.size,1,none⟩ = some (.int .i64 a2):=(bc_ (blk_below HN0.out hb1) 1).trans rfl
  have HB1:=mk_ (st_ HB0.out hb1)
  have HN1:=mk_ (blk_below HN0.out hb1)
  clear hb1
  go_wp2_with fail
  refine (hw2 _).mono ?_
  rintro e w2 ⟨rfl,hb2⟩
  have d0 : w2.cell? ⟨W.heap.size,0,none⟩ = some (.int .i64 a1):=(bc_ (blk_below HN1.out hb2) 0).trans rfl
  have d1 : w2.cell? ⟨W.heap.size,1,none⟩ = some (.int .i64 a2):=(bc_ (blk_below HN1.out hb2) 1).trans rfl
  have HB2:=mk_ (st_ HB1.out hb2)
  clear hb2 q1 c1
  go_wp2_with fail
  go_ret
  exact ⟨by rw [HZ2.out];rfl,HB2.out⟩
 ·have HZ2 : Aside0 (z = z3):=⟨by rw [HZ.out,bne_iff_ne.mpr hne];rfl⟩
  have hd : (a1 != a2) = true:=bne_iff_ne.mpr hne
  clear hne
  go_enter Try.func92,Try.ntmps92
  go_wp2_with fail
  refine (hw1 _).mono ?_
  rintro e w1 ⟨rfl,hb1⟩
  have q1 : w1.cell? ⟨b,0,none⟩ = some (.int .i64 n):=HC.out w1 (st_ HB0.out hb1)
  have c1 : w1.cell? ⟨W.heap.size,1,none⟩ = some (.int .i64 a2):=(bc_ (blk_below HN0.out hb1) 1).trans rfl
  have HB1:=mk_ (st_ HB0.out hb1)
  have HN1:=mk_ (blk_below HN0.out hb1)
  clear hb1
  go_wp2_with fail
  refine (hw2 _).mono ?_
  rintro e w2 ⟨rfl,hb2⟩
  have d0 : w2.cell? ⟨W.heap.size,0,none⟩ = some (.int .i64 a1):=(bc_ (blk_below HN1.out hb2) 0).trans rfl
  have d1 : w2.cell? ⟨W.heap.size,1,none⟩ = some (.int .i64 a2):=(bc_ (blk_below HN1.out hb2) 1).trans rfl
  have d2 : w2.cell? ⟨W.heap.size,2,none⟩ = some (.int .i64 a3):=(bc_ (blk_below HN1.out hb2) 2).trans rfl
  have HB2:=mk_ (st_ HB1.out hb2)
  clear hb2 q1 c1
  go_wp2_with fail
  refine (hw3 _).mono ?_
  rintro e w3 ⟨rfl,hb3⟩
  go_wp2_with fail
  go_ret
  exact ⟨by rw [HZ2.out];rfl,st_ HB2.out hb3⟩
def impl_CablesValid.f (a0 : Int) (l1 : List (S83)) : Option (Bool) :=
 some (cabsB a0 l1)
set_option maxHeartbeats 4000000 in
set_option maxRecDepth 100000 in
theorem impl_CablesValid.calls (a0 : Int) (A1 : Option Addr) (c1 : Nat) (l1 : List (S83)) (r : Bool) (w : World) (hr1 : Kd.C k83 w A1 l1.length l1) (hc1 : l1.length ≤ c1) (h : impl_CablesValid.f a0 l1 = some r) :
  Calls Try.prog 63 #[.int .i64 a0,.slice A1 l1.length c1] w fun e w' => e = .returned (.bool r) ∧ Below w.heap.size w w':=by
 obtain rfl:=Option.some.inj h
 have hlen:=Kd.C_max hr1
 have hmf : ∀ (fn : Fn) (first cap : Array Value) (w : World),(Instr.makeFunc fn first cap).run Try.prog w = .ok (.func fn first cap) w:=fun _ _ _ _ => rfl
 have hb0 : Below w.heap.size w (w.alloc (.cells #[.int .i64 a0] 3)):=(Below.refl _ w).alloc (Nat.le_refl _) _
 have hp0 : PredB Try.prog 92 #[.pointer (some ⟨w.heap.size,0,none⟩)] encCab (cabB a0) (w.alloc (.cells #[.int .i64 a0] 3)):=x_CablesValid_1 (by simp) (by simp)
 have hw0:=x_win a0 1 8 (w.alloc (.cells #[.int .i64 a0] 3))
 have HA : Aside0 (∀ W,Below (w.alloc (.cells #[.int .i64 a0] 3)).heap.size (w.alloc (.cells #[.int .i64 a0] 3)) W → Calls Try.prog 91 #[.slice A1 l1.length c1,.func (.func 92) #[] #[.pointer (some ⟨w.heap.size,0,none⟩)]] W fun e w' => e = .returned (.bool (l1.all (cabB a0))) ∧ Below W.heap.size W w'):=⟨fun W hW => x_all_cab (cabB a0) 92 _ (enters_of Try.func92 (by kernel_rfl) rfl) A1 c1 l1 W (hp0.later hW) (cb_ hr1 (st_ hb0 hW))⟩
 have HB0:=mk_ hb0
 have HZ : Aside0 (cabsB a0 l1 = ((decide (1 ≤ a0) && decide (a0 ≤ 8)) && (decide (l1.length ≤ 20) && l1.all (cabB a0)))):=⟨rfl⟩
 clear h hr1 hc1 hp0 hb0
 generalize cabsB a0 l1 = z at HZ ⊢
 generalize (decide (1 ≤ a0) && decide (a0 ≤ 8)) = z1 at HZ hw0
 generalize l1.all (cabB a0) = z3 at HZ HA
 cases z1 with
 | false =>
  have HZ2 : Aside0 (z = false):=⟨by rw [HZ.out];rfl⟩
  go_enter Try.func63,Try.ntmps63
  go_wp2_with fail
  refine hw0.mono ?_
  rintro e w1 ⟨rfl,hb1⟩
  go_wp2_with fail
  go_ret
  exact ⟨by rw [HZ2.out];rfl,st_ HB0.out hb1⟩
 | true =>
  by_cases hl : (l1.length : Int) ≤ 20
  ·have HZ2 : Aside0 (z = z3):=⟨by rw [HZ.out,decide_eq_true (show l1.length ≤ 20 by omega)];rfl⟩
   go_enter Try.func63,Try.ntmps63
   go_wp2_with fail
   refine hw0.mono ?_
   rintro e w1 ⟨rfl,hb1⟩
   have ha:=HA.out _ hb1
   have HB1:=mk_ (st_ HB0.out hb1)
   clear hb1 hw0
   go_wp2_with fail
   refine ha.mono ?_
   rintro e w2 ⟨rfl,hb2⟩
   go_wp2_with fail
   go_ret
   exact ⟨by rw [HZ2.out];rfl,st_ HB1.out hb2⟩
  ·have HZ2 : Aside0 (z = false):=⟨by rw [HZ.out,decide_eq_false (show ¬ l1.length ≤ 20 by omega)];rfl⟩
   go_enter Try.func63,Try.ntmps63
   go_wp2_with fail
   refine hw0.mono ?_
   rintro e w1 ⟨rfl,hb1⟩
   clear hw0
   go_wp2_with fail
   go_ret
   exact ⟨by rw [HZ2.out];rfl,st_ HB0.out hb1⟩
/-! ### impl_isNetwork: function 67 -/
def impl_isNetwork.f (a0 : Int) : Option (Bool):=(impl_within.f a0 1 9).bind fun t101 => (some t101)
set_option maxHeartbeats 8000000 in
set_option maxRecDepth 100000 in
theorem impl_isNetwork.calls (a0 : Int) (r : Bool) (w : World) (h : impl_isNetwork.f a0 = some r) :
  Calls Try.prog 67 #[.int .i64 a0] w fun e w' => e = .returned (.bool r) ∧ Drawn0 w w':=by
 have H : ((impl_within.f a0 1 9).bind fun t101 => (some t101)) = some r:=h
 clear h
 replace H:=Option.bind_eq_some_iff.mp H
 obtain ⟨t101,A20,H⟩:=H
 replace H : (some t101) = some r:=H
 have A2:=mk_ A20
 clear A20
 obtain rfl:=Option.some.inj H
 go_enter Try.func67,Try.ntmps67
 go_wp2_with (first|((with_reducible refine gate_callee (f:=66) rfl ?_);refine goesL_ (some 4) rfl rfl Try.func66 (by kernel_rfl) rfl #[.int .i64 a0,.int .i64 1,.int .i64 9] rfl qm_ ?_;(with_reducible refine (impl_within.calls a0 1 9 t101 _ A2.out).mono ?_);rintro e w' ⟨rfl,⟨nd,rfl⟩⟩;refine ⟨_,rfl,?_⟩))
 go_ret
 exact ⟨by first|rfl|(simp;done)|(simp [*];done),by repeat (first|exact Drawn0.refl _|apply Drawn0.step)⟩
set_option maxHeartbeats 4000000 in
set_option maxRecDepth 100000 in
theorem x_IndexFunc_int (p : Int → Bool) (g : Nat) (lb : Array Value) (eg : ∀ args w, (callFunc g args).run Try.prog w = .ok (.enter g args) w) (A0 : Option Addr) (c0 : Nat) (l0 : List Int) (w : World)
  (hp : PredB Try.prog g lb (Value.int .i64) p w) (hr0 : Kd.C (Kd.int .i64) w A0 l0.length l0) :
  Calls Try.prog 111 #[.slice A0 l0.length c0,.func (.func g) #[] lb] w fun e w' => e = .returned (.int .i64 (idxL p l0 0)) ∧ Below w.heap.size w w':=by
 have hlen:=Kd.C_max hr0
 have HR:=mk_ hr0
 have HP:=mk_ hp
 clear hr0 hp
 go_enter Try.func111,Try.ntmps111
 go_wp2
 go_loopg [5,8] l0.length (fun gg _ s8 wr => ∃ kk : Nat,kk ≤ l0.length ∧ l0.length - kk ≤ gg ∧ s8 = .int .i64 kk ∧ Aside0 (Below w.heap.size w wr) ∧ Aside0 (idxL p (l0.drop kk) kk = idxL p l0 0))
 case atStart => exact ⟨0,Nat.zero_le _,by omega,rfl,⟨Below.refl _ w⟩,⟨rfl⟩⟩
 case round =>
  obtain ⟨kk,hkk,hg,rfl,BW,HI⟩:=hrel
  by_cases hlt : kk < l0.length
  ·obtain ⟨ad,e,hx⟩:=Kd.at_int (cb_ HR.out BW.out) (kk : Int) (by omega) (by omega)
   cases e
   rw [Int.toNat_natCast] at hx
   obtain ⟨y,hy⟩ : ∃ y,y = rd l0 (kk : Int):=⟨_,rfl⟩
   rw [← hy] at hx
   have hcall:=HP.out wr y BW.out
   have HD : Aside0 (idxL p l0 0 = if p y then (kk : Int) else idxL p (l0.drop (kk + 1)) (kk + 1)):=⟨by rw [← HI.out,idxL_drop p l0 kk hlt,hy,rd_getD]⟩
   clear hy
   cases hq : p y with
   | true =>
    rw [hq] at hcall
    have HQ:=mk_ hq
    clear hq
    go_wp2_with (go_at_fn g;refine hcall.mono ?_;rintro e w' ⟨rfl,hb'⟩)
    go_ret
    exact ⟨by rw [HD.out,HQ.out];rfl,st_ BW.out hb'⟩
   | false =>
    rw [hq] at hcall
    have HQ:=mk_ hq
    clear hq
    go_wp2_with (go_at_fn g;refine hcall.mono ?_;rintro e w' ⟨rfl,hb'⟩)
    go_roundg (l0.length - (kk + 1))
    case measure => omega
    case rel => exact ⟨kk + 1,by omega,by omega,by go_num,⟨st_ BW.out hb'⟩,⟨by rw [HD.out,HQ.out];rfl⟩⟩
  ·have e : kk = l0.length:=by omega
   subst e
   go_wp2
   go_ret
   exact ⟨by rw [← HI.out,List.drop_length];rfl,BW.out⟩
set_option maxHeartbeats 4000000 in
set_option maxRecDepth 100000 in
theorem x_ContainsFunc_int (p : Int → Bool) (g : Nat) (lb : Array Value) (eg : ∀ args w, (callFunc g args).run Try.prog w = .ok (.enter g args) w) (A0 : Option Addr) (c0 : Nat) (l0 : List Int) (w : World)
  (hp : PredB Try.prog g lb (Value.int .i64) p w) (hr0 : Kd.C (Kd.int .i64) w A0 l0.length l0) :
  Calls Try.prog 93 #[.slice A0 l0.length c0,.func (.func g) #[] lb] w fun e w' => e = .returned (.bool (l0.any p)) ∧ Below w.heap.size w w':=by
 have hcall:=x_IndexFunc_int p g lb eg A0 c0 l0 w hp hr0
 have HA:=mk_ (idxL_any p l0 0)
 obtain ⟨z,hz⟩ : ∃ z,z = idxL p l0 0:=⟨_,rfl⟩
 rw [← hz] at hcall HA
 clear hp hr0 hz
 go_enter Try.func93,Try.ntmps93
 go_wp2_with (go_at_call 111;refine hcall.mono ?_;rintro e w' ⟨rfl,hb'⟩)
 go_ret
 exact ⟨by rw [← HA.out];rfl,hb'⟩
set_option maxHeartbeats 4000000 in
set_option maxRecDepth 100000 in
theorem x_all_int_1 {p : Int → Bool} {g : Nat} {lb : Array Value} (eg : ∀ args w, (callFunc g args).run Try.prog w = .ok (.enter g args) w) {b : Nat} {w : World}
  (hp : PredB Try.prog g lb (Value.int .i64) p w) (hb : b < w.heap.size) (hc : w.cell? ⟨b,0,none⟩ = some (.func (.func g) #[] lb)) :
  PredB Try.prog 94 #[.pointer (some ⟨b,0,none⟩)] (Value.int .i64) (fun x => !p x) w:=by
 intro W x hB
 have hc':=(hB.cell (p:=⟨b,0,none⟩) hb).trans hc
 have hcall:=hp W x hB
 clear hp hc hB hb
 go_enter Try.func94,Try.ntmps94
 go_wp2_with (go_at_fn g;refine hcall.mono ?_;rintro e w' ⟨rfl,hb'⟩)
 go_ret
 exact ⟨rfl,hb'⟩
theorem any_not_all {α : Type} (p : α → Bool) (l : List α) : (!l.any fun x => !p x) = l.all p:=by
 induction l with
 | nil => rfl
 | cons x xs ih => simp only [List.any_cons,List.all_cons,Bool.not_or,Bool.not_not,ih]
set_option maxHeartbeats 4000000 in
set_option maxRecDepth 100000 in
theorem x_all_int (p : Int → Bool) (g : Nat) (lb : Array Value) (eg : ∀ args w, (callFunc g args).run Try.prog w = .ok (.enter g args) w) (A0 : Option Addr) (c0 : Nat) (l0 : List Int) (w : World)
  (hp : PredB Try.prog g lb (Value.int .i64) p w) (hr0 : Kd.C (Kd.int .i64) w A0 l0.length l0) :
  Calls Try.prog 64 #[.slice A0 l0.length c0,.func (.func g) #[] lb] w fun e w' => e = .returned (.bool (l0.all p)) ∧ Below w.heap.size w w':=by
 have hmf : ∀ (fn : Fn) (first cap : Array Value) (w : World),(Instr.makeFunc fn first cap).run Try.prog w = .ok (.func fn first cap) w:=fun _ _ _ _ => rfl
 have hb0 : Below w.heap.size w (w.alloc (.cells #[.func (.func g) #[] lb] 64)):=(Below.refl _ w).alloc (Nat.le_refl _) _
 have hcall:=x_ContainsFunc_int (fun x => !p x) 94 #[.pointer (some ⟨w.heap.size,0,none⟩)] (enters_of Try.func94 (by kernel_rfl) rfl) A0 c0 l0 _ (x_all_int_1 eg (hp.later hb0) (by simp) (by simp)) (cb_ hr0 hb0)
 have HB0:=mk_ hb0
 clear hp hr0 hb0
 go_enter Try.func64,Try.ntmps64
 go_wp2_with (go_at_call 93;refine hcall.mono ?_;rintro e w' ⟨rfl,hb'⟩)
 go_ret
 exact ⟨by rw [any_not_all];rfl,st_ HB0.out hb'⟩
/-! ### impl_NetValid: function 31 (by hand) -/
/-- A bridge of so many;a network. -/
def brB (n x : Int) : Bool:=decide (0 ≤ x) && decide (x ≤ wrap64 (n - 1))
def vlB (x : Int) : Bool:=decide (1 ≤ x) && decide (x ≤ 9)
def netB (n : Int) (cs : List S83) (hs vs : List Int) : Bool:=cabsB n cs && (decide (hs.length ≤ 15) && (decide (vs.length = hs.length) && (hs.all (brB n) && vs.all vlB)))
set_option maxHeartbeats 4000000 in
set_option maxRecDepth 100000 in
theorem x_NetValid_1 {n : Int} {b : Nat} {w : World} (hb : b < w.heap.size) (hc : w.cell? ⟨b,0,none⟩ = some (.int .i64 n)) :
  PredB Try.prog 65 #[.pointer (some ⟨b,0,none⟩)] (Value.int .i64) (brB n) w:=by
 intro W x hB
 have hc':=(hB.cell (p:=⟨b,0,none⟩) hb).trans hc
 have hu:=Try.underlying26
 have hw:=x_win x 0 (wrap64 (n - 1)) W
 have HZ : Aside0 (brB n x = (decide (0 ≤ x) && decide (x ≤ wrap64 (n - 1)))):=⟨rfl⟩
 clear hc hB hb
 generalize brB n x = z at HZ ⊢
 generalize (decide (0 ≤ x) && decide (x ≤ wrap64 (n - 1))) = z2 at HZ hw
 obtain ⟨x1,hx1⟩ : ∃ x1,x1 = wrap64 (n - 1):=⟨_,rfl⟩
 rw [← hx1] at hw
 have y1 : IntKind.i64.wrap (n - 1) = x1:=(i64_w _).trans hx1.symm
 clear hx1
 go_enter Try.func65,Try.ntmps65
 go_wp2_with fail
 refine hw.mono ?_
 rintro e w' ⟨rfl,hb'⟩
 go_wp2_with fail
 go_ret
 exact ⟨by rw [HZ.out];rfl,hb'⟩
theorem isNet_eq (x : Int) : impl_isNetwork.f x = some (vlB x):=by
 unfold impl_isNetwork.f
 rw [win_is]
 rfl
theorem x_isNet (w : World) : PredB Try.prog 67 #[] (Value.int .i64) vlB w:=by
 intro W x hB
 exact (impl_isNetwork.calls x _ W (isNet_eq x)).mono fun e w' ⟨he,hd⟩ => ⟨he,hd.below⟩
def impl_NetValid.f (a0_0 : Int) (l0_1 : List (S83)) (l0_2 : List Int) (l0_3 : List Int) : Option (Bool) :=
 some (netB a0_0 l0_1 l0_2 l0_3)
set_option maxHeartbeats 4000000 in
set_option maxRecDepth 100000 in
theorem impl_NetValid.calls (a0_0 : Int) (A0_1 : Option Addr) (c0_1 : Nat) (l0_1 : List (S83)) (A0_2 : Option Addr) (c0_2 : Nat) (l0_2 : List Int) (A0_3 : Option Addr) (c0_3 : Nat) (l0_3 : List Int) (r : Bool) (w : World) (hr0_1 : Kd.C k83 w A0_1 l0_1.length l0_1) (hc0_1 : l0_1.length ≤ c0_1) (hr0_2 : Kd.C (Kd.int .i64) w A0_2 l0_2.length l0_2) (hc0_2 : l0_2.length ≤ c0_2) (hr0_3 : Kd.C (Kd.int .i64) w A0_3 l0_3.length l0_3) (hc0_3 : l0_3.length ≤ c0_3) (h : impl_NetValid.f a0_0 l0_1 l0_2 l0_3 = some r) :
  Calls Try.prog 31 #[.agg #[.int .i64 a0_0,.slice A0_1 l0_1.length c0_1,.slice A0_2 l0_2.length c0_2,.slice A0_3 l0_3.length c0_3]] w fun e w' => e = .returned (.bool r) ∧ Below w.heap.size w w':=by
 obtain rfl:=Option.some.inj h
 have hu:=Try.underlying26
 have hl2:=Kd.C_max hr0_2
 have hl3:=Kd.C_max hr0_3
 have hmf : ∀ (fn : Fn) (first cap : Array Value) (w : World),(Instr.makeFunc fn first cap).run Try.prog w = .ok (.func fn first cap) w:=fun _ _ _ _ => rfl
 have hb0 : Below w.heap.size w (w.alloc (.cells #[.int .i64 a0_0,.slice A0_1 l0_1.length c0_1,.slice A0_2 l0_2.length c0_2,.slice A0_3 l0_3.length c0_3] 26)):=(Below.refl _ w).alloc (Nat.le_refl _) _
 have hn0:=blk_new w (.cells #[.int .i64 a0_0,.slice A0_1 l0_1.length c0_1,.slice A0_2 l0_2.length c0_2,.slice A0_3 l0_3.length c0_3] 26)
 have hsz : w.heap.size < (w.alloc (.cells #[.int .i64 a0_0,.slice A0_1 l0_1.length c0_1,.slice A0_2 l0_2.length c0_2,.slice A0_3 l0_3.length c0_3] 26)).heap.size:=by simp
 obtain ⟨W0,hW0⟩ : ∃ W0,W0 = w.alloc (.cells #[.int .i64 a0_0,.slice A0_1 l0_1.length c0_1,.slice A0_2 l0_2.length c0_2,.slice A0_3 l0_3.length c0_3] 26):=⟨_,rfl⟩
 rw [← hW0] at hb0 hn0 hsz
 have hp0 : PredB Try.prog 65 #[.pointer (some ⟨w.heap.size,0,none⟩)] (Value.int .i64) (brB a0_0) W0:=x_NetValid_1 hsz ((bc_ hn0 0).trans rfl)
 have hcv:=impl_CablesValid.calls a0_0 A0_1 c0_1 l0_1 _ W0 (cb_ hr0_1 hb0) hc0_1 rfl
 have HA : Aside0 (∀ W,Below W0.heap.size W0 W → Calls Try.prog 64 #[.slice A0_2 l0_2.length c0_2,.func (.func 65) #[] #[.pointer (some ⟨w.heap.size,0,none⟩)]] W fun e w' => e = .returned (.bool (l0_2.all (brB a0_0))) ∧ Below W.heap.size W w'):=⟨fun W hW => x_all_int (brB a0_0) 65 _ (enters_of Try.func65 (by kernel_rfl) rfl) A0_2 c0_2 l0_2 W (hp0.later hW) (cb_ hr0_2 (st_ hb0 hW))⟩
 have HV : Aside0 (∀ W,Below W0.heap.size W0 W → Calls Try.prog 64 #[.slice A0_3 l0_3.length c0_3,.func (.func 67) #[] #[]] W fun e w' => e = .returned (.bool (l0_3.all vlB)) ∧ Below W.heap.size W w'):=⟨fun W hW => x_all_int vlB 67 #[] (enters_of Try.func67 (by kernel_rfl) rfl) A0_3 c0_3 l0_3 W (x_isNet W) (cb_ hr0_3 (st_ hb0 hW))⟩
 have HB0:=mk_ hb0
 have HN0:=mk_ hn0
 have HZ : Aside0 (netB a0_0 l0_1 l0_2 l0_3 = (cabsB a0_0 l0_1 && (decide (l0_2.length ≤ 15) && (decide (l0_3.length = l0_2.length) && (l0_2.all (brB a0_0) && l0_3.all vlB))))):=⟨rfl⟩
 clear h hr0_1 hc0_1 hr0_2 hc0_2 hr0_3 hc0_3 hp0 hb0 hn0 hsz
 generalize netB a0_0 l0_1 l0_2 l0_3 = z at HZ ⊢
 generalize cabsB a0_0 l0_1 = z1 at HZ hcv
 generalize l0_2.all (brB a0_0) = z3 at HZ HA
 generalize l0_3.all vlB = z4 at HZ HV
 subst hW0
 cases z1 with
 | false =>
  have HZ2 : Aside0 (z = false):=⟨by rw [HZ.out];rfl⟩
  go_enter Try.func31,Try.ntmps31
  go_wp2_with fail
  refine hcv.mono ?_
  rintro e w1 ⟨rfl,hb1⟩
  go_wp2_with fail
  go_ret
  exact ⟨by rw [HZ2.out];rfl,st_ HB0.out hb1⟩
 | true =>
 by_cases h15 : (l0_2.length : Int) ≤ 15
 ·by_cases heq : l0_3.length = l0_2.length
  ·have e1 : ((l0_3.length : Int) == (l0_2.length : Int)) = true:=beq_iff_eq.mpr (by omega)
   have e2 : (l0_3.length == l0_2.length) = true:=beq_iff_eq.mpr heq
   have e3 : decide (l0_3.length = l0_2.length) = true:=decide_eq_true heq
   replace HZ : Aside0 (z = (z3 && z4)):=⟨by rw [HZ.out,decide_eq_true (show l0_2.length ≤ 15 by omega),e3];rfl⟩
   clear heq
   cases z3 with
   | false =>
    have HZ2 : Aside0 (z = false):=⟨by rw [HZ.out];rfl⟩
    go_enter Try.func31,Try.ntmps31
    go_wp2_with fail
    refine hcv.mono ?_
    rintro e w1 ⟨rfl,hb1⟩
    have ha:=HA.out _ hb1
    have g2 : w1.cell? ⟨w.heap.size,2,none⟩ = some (.slice A0_2 l0_2.length c0_2):=(bc_ (blk_below HN0.out hb1) 2).trans rfl
    have g3 : w1.cell? ⟨w.heap.size,3,none⟩ = some (.slice A0_3 l0_3.length c0_3):=(bc_ (blk_below HN0.out hb1) 3).trans rfl
    have HB1:=mk_ (st_ HB0.out hb1)
    clear hb1 hcv
    go_wp2_with fail
    refine ha.mono ?_
    rintro e w2 ⟨rfl,hb2⟩
    go_wp2_with fail
    go_ret
    exact ⟨by rw [HZ2.out];rfl,st_ HB1.out hb2⟩
   | true =>
    have HZ2 : Aside0 (z = z4):=⟨by rw [HZ.out];rfl⟩
    go_enter Try.func31,Try.ntmps31
    go_wp2_with fail
    refine hcv.mono ?_
    rintro e w1 ⟨rfl,hb1⟩
    have ha:=HA.out _ hb1
    have g2 : w1.cell? ⟨w.heap.size,2,none⟩ = some (.slice A0_2 l0_2.length c0_2):=(bc_ (blk_below HN0.out hb1) 2).trans rfl
    have g3 : w1.cell? ⟨w.heap.size,3,none⟩ = some (.slice A0_3 l0_3.length c0_3):=(bc_ (blk_below HN0.out hb1) 3).trans rfl
    have HB1:=mk_ hb1
    clear hb1 hcv
    go_wp2_with fail
    refine ha.mono ?_
    rintro e w2 ⟨rfl,hb2⟩
    have HB2:=mk_ (st_ HB1.out hb2)
    have hv:=HV.out _ HB2.out
    have k3 : w2.cell? ⟨w.heap.size,3,none⟩ = some (.slice A0_3 l0_3.length c0_3):=(bc_ (blk_below HN0.out HB2.out) 3).trans rfl
    clear hb2 g2 g3 ha
    go_wp2_with fail
    refine hv.mono ?_
    rintro e w3 ⟨rfl,hb3⟩
    go_wp2_with fail
    go_ret
    exact ⟨by rw [HZ2.out];rfl,st_ HB0.out (st_ HB2.out hb3)⟩
  ·have e1 : ((l0_3.length : Int) == (l0_2.length : Int)) = false:=beq_eq_false_iff_ne.mpr (by omega)
   have e2 : (l0_3.length == l0_2.length) = false:=beq_eq_false_iff_ne.mpr heq
   have e3 : decide (l0_3.length = l0_2.length) = false:=decide_eq_false heq
   have HZ2 : Aside0 (z = false):=⟨by rw [HZ.out,e3];simp⟩
   clear heq
   go_enter Try.func31,Try.ntmps31
   go_wp2_with fail
   refine hcv.mono ?_
   rintro e w1 ⟨rfl,hb1⟩
   have g2 : w1.cell? ⟨w.heap.size,2,none⟩ = some (.slice A0_2 l0_2.length c0_2):=(bc_ (blk_below HN0.out hb1) 2).trans rfl
   have g3 : w1.cell? ⟨w.heap.size,3,none⟩ = some (.slice A0_3 l0_3.length c0_3):=(bc_ (blk_below HN0.out hb1) 3).trans rfl
   have HB1:=mk_ (st_ HB0.out hb1)
   clear hb1 hcv
   go_wp2_with fail
   go_ret
   exact ⟨by rw [HZ2.out];rfl,HB1.out⟩
 ·have HZ2 : Aside0 (z = false):=⟨by rw [HZ.out,decide_eq_false (show ¬ l0_2.length ≤ 15 by omega)];rfl⟩
  go_enter Try.func31,Try.ntmps31
  go_wp2_with fail
  refine hcv.mono ?_
  rintro e w1 ⟨rfl,hb1⟩
  have g2 : w1.cell? ⟨w.heap.size,2,none⟩ = some (.slice A0_2 l0_2.length c0_2):=(bc_ (blk_below HN0.out hb1) 2).trans rfl
  have HB1:=mk_ (st_ HB0.out hb1)
  clear hb1 hcv
  go_wp2_with fail
  go_ret
  exact ⟨by rw [HZ2.out];rfl,HB1.out⟩
/-! ### impl_Net_station: function 34 -/
def impl_Net_station.f (a0_0 : Int) (l0_1 : List (S83)) (l0_2 : List Int) (l0_3 : List Int) (a1 : Int) : Option (Bool):=(impl_NetValid.f a0_0 l0_1 l0_2 l0_3).bind fun t103 => (if t103 = true then ((impl_within.f a1 0 (wrap64 ((l0_2.length : Int) - 1))).bind fun t104 => (some t104)) else (some false))
set_option maxHeartbeats 8000000 in
set_option maxRecDepth 100000 in
theorem impl_Net_station.calls (a0_0 : Int) (A0_1 : Option Addr) (c0_1 : Nat) (l0_1 : List (S83)) (A0_2 : Option Addr) (c0_2 : Nat) (l0_2 : List Int) (A0_3 : Option Addr) (c0_3 : Nat) (l0_3 : List Int) (a1 : Int) (r : Bool) (w : World) (hr0_1 : Kd.C k83 w A0_1 l0_1.length l0_1) (hc0_1 : l0_1.length ≤ c0_1) (hr0_2 : Kd.C (Kd.int .i64) w A0_2 l0_2.length l0_2) (hc0_2 : l0_2.length ≤ c0_2) (hr0_3 : Kd.C (Kd.int .i64) w A0_3 l0_3.length l0_3) (hc0_3 : l0_3.length ≤ c0_3) (h : impl_Net_station.f a0_0 l0_1 l0_2 l0_3 a1 = some r) :
  Calls Try.prog 34 #[.agg #[.int .i64 a0_0,.slice A0_1 l0_1.length c0_1,.slice A0_2 l0_2.length c0_2,.slice A0_3 l0_3.length c0_3],.int .i64 a1] w fun e w' => e = .returned (.bool r) ∧ Below w.heap.size w w':=by
 have hu26:=Try.underlying26
 have HR0_1:=mk_ hr0_1
 have HC0_1:=mk_ hc0_1
 clear hr0_1 hc0_1
 have HR0_2:=mk_ hr0_2
 have HC0_2:=mk_ hc0_2
 clear hr0_2 hc0_2
 have HR0_3:=mk_ hr0_3
 have HC0_3:=mk_ hc0_3
 clear hr0_3 hc0_3
 have HB:=mk_ (Below.refl w.heap.size w)
 have H : ((impl_NetValid.f a0_0 l0_1 l0_2 l0_3).bind fun t103 => (if t103 = true then ((impl_within.f a1 0 (wrap64 ((l0_2.length : Int) - 1))).bind fun t104 => (some t104)) else (some false))) = some r:=h
 clear h
 replace H:=Option.bind_eq_some_iff.mp H
 obtain ⟨t103,A30,H⟩:=H
 replace H : (if t103 = true then ((impl_within.f a1 0 (wrap64 ((l0_2.length : Int) - 1))).bind fun t104 => (some t104)) else (some false)) = some r:=H
 have A3:=mk_ A30
 clear A30
 by_cases c4 : t103 = true
 ·subst c4
  have H1 : ((impl_within.f a1 0 (wrap64 ((l0_2.length : Int) - 1))).bind fun t104 => (some t104)) = some r:=by rw [if_pos rfl] at H;exact H
  clear H
  have H:=H1
  clear H1
  replace H:=Option.bind_eq_some_iff.mp H
  obtain ⟨t104,A50,H⟩:=H
  replace H : (some t104) = some r:=H
  have A5:=mk_ A50
  clear A50
  obtain rfl:=Option.some.inj H
  go_enter Try.func34,Try.ntmps34
  go_wp2_with (first|((with_reducible refine gate_dst (N:=2) rfl ?_);(try (refine gate_guard (by rfl) ?_;dsimp only));refine box_event ?hg (N:=2) ?hd (cs:=#[.int .i64 a0_0,.slice A0_1 l0_1.length c0_1,.slice A0_2 l0_2.length c0_2,.slice A0_3 l0_3.length c0_3]) (t:=26) ?hr ?_;(case hd => rfl);(case hg => rfl);(case hr => first|(go_simp;done)|(go_simp;rfl));intro gb102 hg w6 hbox hb;have n0_:=mk_ (st_ (qb_ HB) hb);have n1_:=mk_ (hbox);have n2_:=mk_ ((by rw [hg];exact (bz_ (qb_ HB)) : w.heap.size ≤ gb102));have n3_:=mk_ ((by rw [hg];exact (bz_ (qb_ HB)) : w.heap.size ≤ gb102));clear HB;have HB:=n0_;have BK102:=n1_;have GW102:=n2_;have GE102:=n3_;clear n0_ n1_ n2_ n3_ hb hbox hg;have hcz7_0 : w6.cell? ⟨gb102,0,none⟩ = some (.int .i64 a0_0):=(bc_ BK102.out 0).trans rfl;have hcz7_1 : w6.cell? ⟨gb102,1,none⟩ = some (.slice A0_1 l0_1.length c0_1):=(bc_ BK102.out 1).trans rfl;have hcz7_2 : w6.cell? ⟨gb102,2,none⟩ = some (.slice A0_2 l0_2.length c0_2):=(bc_ BK102.out 2).trans rfl;have hcz7_3 : w6.cell? ⟨gb102,3,none⟩ = some (.slice A0_3 l0_3.length c0_3):=(bc_ BK102.out 3).trans rfl;have hfz7_0:=bf_ BK102.out 0;have hfz7_1:=bf_ BK102.out 1;have hfz7_2:=bf_ BK102.out 2;have hfz7_3:=bf_ BK102.out 3)|((with_reducible refine gate_callee (f:=31) rfl ?_);refine goesL_ (some 6) rfl rfl Try.func31 (by kernel_rfl) rfl #[.agg #[.int .i64 a0_0,.slice A0_1 l0_1.length c0_1,.slice A0_2 l0_2.length c0_2,.slice A0_3 l0_3.length c0_3]] rfl qm_ ?_;(with_reducible refine (impl_NetValid.calls a0_0 _ _ l0_1 _ _ l0_2 _ _ l0_3 true _ ?side1 ?side2 ?side3 ?side4 ?side5 ?side6 A3.out).mono ?_);(case side1 => exact qn_ HR0_1 HB);(case side2 => exact HC0_1.out);(case side3 => exact qn_ HR0_2 HB);(case side4 => exact HC0_2.out);(case side5 => exact qn_ HR0_3 HB);(case side6 => exact HC0_3.out);rintro e w8 ⟨rfl,hb⟩;refine ⟨_,rfl,?_⟩;have n0_:=mk_ (blk_below (g:=gb102) (o:=.cells #[.int .i64 a0_0,.slice A0_1 l0_1.length c0_1,.slice A0_2 l0_2.length c0_2,.slice A0_3 l0_3.length c0_3] 26 (0,0)) (qk_ BK102) hb);have n1_:=mk_ (st_ (qc_ HB GE102) hb);clear BK102 HB;have BK102:=n0_;have HB:=n1_;clear n0_ n1_;(try clear hb);(try clear hb2);(try clear hk);(try clear hi);have hcz9_0 : w8.cell? ⟨gb102,0,none⟩ = some (.int .i64 a0_0):=(bc_ BK102.out 0).trans rfl;have hcz9_1 : w8.cell? ⟨gb102,1,none⟩ = some (.slice A0_1 l0_1.length c0_1):=(bc_ BK102.out 1).trans rfl;have hcz9_2 : w8.cell? ⟨gb102,2,none⟩ = some (.slice A0_2 l0_2.length c0_2):=(bc_ BK102.out 2).trans rfl;have hcz9_3 : w8.cell? ⟨gb102,3,none⟩ = some (.slice A0_3 l0_3.length c0_3):=(bc_ BK102.out 3).trans rfl;have hfz9_0:=bf_ BK102.out 0;have hfz9_1:=bf_ BK102.out 1;have hfz9_2:=bf_ BK102.out 2;have hfz9_3:=bf_ BK102.out 3)|(go_at_call 66;(with_reducible refine (impl_within.calls a1 0 (wrap64 ((l0_2.length : Int) - 1)) t104 _ A5.out).mono ?_);rintro e w' ⟨rfl,⟨nd,rfl⟩⟩))
  go_ret
  exact ⟨qe_,u0_ HB GE102⟩
 ·replace c4:=Bool.eq_false_iff.mpr c4
  subst c4
  have H1 : (some false) = some r:=by rw [if_neg (show ¬ (false = true) by decide)] at H;exact H
  clear H
  have H:=H1
  clear H1
  obtain rfl:=Option.some.inj H
  go_enter Try.func34,Try.ntmps34
  go_wp2_with (first|((with_reducible refine gate_dst (N:=2) rfl ?_);(try (refine gate_guard (by rfl) ?_;dsimp only));refine box_event ?hg (N:=2) ?hd (cs:=#[.int .i64 a0_0,.slice A0_1 l0_1.length c0_1,.slice A0_2 l0_2.length c0_2,.slice A0_3 l0_3.length c0_3]) (t:=26) ?hr ?_;(case hd => rfl);(case hg => rfl);(case hr => first|(go_simp;done)|(go_simp;rfl));intro gb102 hg w10 hbox hb;have n0_:=mk_ (st_ (qb_ HB) hb);have n1_:=mk_ (hbox);have n2_:=mk_ ((by rw [hg];exact (bz_ (qb_ HB)) : w.heap.size ≤ gb102));have n3_:=mk_ ((by rw [hg];exact (bz_ (qb_ HB)) : w.heap.size ≤ gb102));clear HB;have HB:=n0_;have BK102:=n1_;have GW102:=n2_;have GE102:=n3_;clear n0_ n1_ n2_ n3_ hb hbox hg;have hcz11_0 : w10.cell? ⟨gb102,0,none⟩ = some (.int .i64 a0_0):=(bc_ BK102.out 0).trans rfl;have hcz11_1 : w10.cell? ⟨gb102,1,none⟩ = some (.slice A0_1 l0_1.length c0_1):=(bc_ BK102.out 1).trans rfl;have hcz11_2 : w10.cell? ⟨gb102,2,none⟩ = some (.slice A0_2 l0_2.length c0_2):=(bc_ BK102.out 2).trans rfl;have hcz11_3 : w10.cell? ⟨gb102,3,none⟩ = some (.slice A0_3 l0_3.length c0_3):=(bc_ BK102.out 3).trans rfl;have hfz11_0:=bf_ BK102.out 0;have hfz11_1:=bf_ BK102.out 1;have hfz11_2:=bf_ BK102.out 2;have hfz11_3:=bf_ BK102.out 3)|((with_reducible refine gate_callee (f:=31) rfl ?_);refine goesL_ (some 6) rfl rfl Try.func31 (by kernel_rfl) rfl #[.agg #[.int .i64 a0_0,.slice A0_1 l0_1.length c0_1,.slice A0_2 l0_2.length c0_2,.slice A0_3 l0_3.length c0_3]] rfl qm_ ?_;(with_reducible refine (impl_NetValid.calls a0_0 _ _ l0_1 _ _ l0_2 _ _ l0_3 false _ ?side1 ?side2 ?side3 ?side4 ?side5 ?side6 A3.out).mono ?_);(case side1 => exact qn_ HR0_1 HB);(case side2 => exact HC0_1.out);(case side3 => exact qn_ HR0_2 HB);(case side4 => exact HC0_2.out);(case side5 => exact qn_ HR0_3 HB);(case side6 => exact HC0_3.out);rintro e w12 ⟨rfl,hb⟩;refine ⟨_,rfl,?_⟩;have n0_:=mk_ (blk_below (g:=gb102) (o:=.cells #[.int .i64 a0_0,.slice A0_1 l0_1.length c0_1,.slice A0_2 l0_2.length c0_2,.slice A0_3 l0_3.length c0_3] 26 (0,0)) (qk_ BK102) hb);have n1_:=mk_ (st_ (qc_ HB GE102) hb);clear BK102 HB;have BK102:=n0_;have HB:=n1_;clear n0_ n1_;(try clear hb);(try clear hb2);(try clear hk);(try clear hi)))
  go_ret
  exact ⟨qe_,u0_ HB GE102⟩
/-- A state of type 94 at block g of W;what its slices lead to came in by w0. -/
def IsS94 (w0 W : World) (g : Nat) (f0 : List Int) (f1 : Int) : Prop:=∃ A0 c0,W.heap[g]? = some (.cells #[.slice A0 f0.length c0,.int .i64 f1] 94 (0,0)) ∧ w0.heap.size ≤ g ∧ Kd.C (Kd.int .u8) w0 A0 f0.length f0
theorem IsS94.grown {w0 W : World} {g : Nat} {f0 : List Int} {f1 : Int} {W1 : World} {row : Option Nat} (h : IsS94 w0 W g f0 f1) (hw : W.grownBy W1 row) (hne : some g ≠ row) : IsS94 w0 W1 g f0 f1:=by
 obtain ⟨A0,c0,hb,hg,hr0⟩:=h
 exact ⟨A0,c0,blk_grown hb hw hne,hg,hr0⟩
theorem IsS94.own_neN {w0 W : World} {g : Nat} {f0 : List Int} {f1 : Int} {α : Type} {d : Kd α} {e : Nat} {base : Nat} {ok : Nat → Prop} {v : Value} {xs : List α} (h : IsS94 w0 W g f0 f1) (ho : Kd.N d e W base ok v xs) (ht : e ≠ 94) : some g ≠ v.ownBlock:=by
 obtain ⟨A0,c0,hb,hg,hr0⟩:=h
 exact Kd.N_ne ho hb ht
theorem IsS94.fresh {w0 W : World} {g : Nat} {f0 : List Int} {f1 : Int} (h : IsS94 w0 W g f0 f1) : ∀ k,W.heap.size ≤ k → k ≠ g:=by
 obtain ⟨A0,c0,hb,hg,hr0⟩:=h
 exact Kd.freshB hb
theorem IsS94.kept {w0 W : World} {g : Nat} {f0 : List Int} {f1 : Int} {W1 : World} {S : Nat → Prop} (h : IsS94 w0 W g f0 f1) (hk : Kept W W1 S) (hne : ¬ S g) : IsS94 w0 W1 g f0 f1:=by
 obtain ⟨A0,c0,hb,hg,hr0⟩:=h
 exact ⟨A0,c0,blk_kept hb hk hne,hg,hr0⟩
theorem IsS94.below {w0 W : World} {g : Nat} {f0 : List Int} {f1 : Int} {W1 : World} (h : IsS94 w0 W g f0 f1) (hw : Below W.heap.size W W1) : IsS94 w0 W1 g f0 f1:=h.grown (grown_of_below hw none) (by simp)
theorem IsS94.alloc {w0 W : World} {g : Nat} {f0 : List Int} {f1 : Int} (h : IsS94 w0 W g f0 f1) (o : Obj) : IsS94 w0 (W.alloc o) g f0 f1:=h.below (ba_ (Below.refl _ _) o)
theorem IsS94.drewN {w0 W : World} {g : Nat} {f0 : List Int} {f1 : Int} (h : IsS94 w0 W g f0 f1) (m : Nat) : IsS94 w0 (W.drewN m) g f0 f1:=h
theorem IsS94.drew {w0 W : World} {g : Nat} {f0 : List Int} {f1 : Int} (h : IsS94 w0 W g f0 f1) : IsS94 w0 W.drew g f0 f1:=h
theorem IsS94.at_ {w0 W : World} {g : Nat} {f0 : List Int} {f1 : Int} {w' : World} {m : Nat} (hq : W.drewN m = w') (h : IsS94 w0 W g f0 f1) : IsS94 w0 w' g f0 f1:=by subst hq;exact IsS94.drewN h m
theorem IsS94.apart {w0 W : World} {g : Nat} {f0 : List Int} {f1 : Int} {α : Type} {d : Kd α} {e : Nat} {base : Nat} {ok : Nat → Prop} {v : Value} {xs : List α} (h : IsS94 w0 W g f0 f1) (ho : d.R e W base ok v xs) (ht : ∀ q,q ∈ e :: d.E → q ≠ 94) : d.R e W base (fun k => ok k ∧ k ≠ g) v xs:=by
 obtain ⟨A0,c0,hb,hg,hr0⟩:=h
 exact rt_ ho hb ht
theorem IsS94.own_ne {w0 W : World} {g : Nat} {f0 : List Int} {f1 : Int} {α : Type} {d : Kd α} {e : Nat} {base : Nat} {ok : Nat → Prop} {v : Value} {xs : List α} (h : IsS94 w0 W g f0 f1) (ho : d.R e W base ok v xs) (ht : e ≠ 94) : some g ≠ v.ownBlock:=by
 obtain ⟨A0,c0,hb,hg,hr0⟩:=h
 exact Kd.R_ne ho hb ht
theorem IsS94.apartQ {w0 W : World} {g : Nat} {f0 : List Int} {f1 : Int} {α : Type} {d : Kd α} {e : Nat} {base : Nat} {ok : Nat → Prop} {v : Value} {xs : List α} (h : IsS94 w0 W g f0 f1) (ho : d.Q e W base ok v xs) (ht : ∀ q,q ∈ e :: d.E → q ≠ 94) : d.Q e W base (fun k => ok k ∧ k ≠ g) v xs:=by
 obtain ⟨A0,c0,hb,hg,hr0⟩:=h
 exact Kd.Q_types ho hb ht
theorem IsS94.own_neQ {w0 W : World} {g : Nat} {f0 : List Int} {f1 : Int} {α : Type} {d : Kd α} {e : Nat} {base : Nat} {ok : Nat → Prop} {v : Value} {xs : List α} (h : IsS94 w0 W g f0 f1) (ho : d.Q e W base ok v xs) (ht : e ≠ 94) : some g ≠ v.ownBlock:=by
 obtain ⟨A0,c0,hb,hg,hr0⟩:=h
 exact Kd.Q_ne ho hb ht
theorem IsS94.apartS {w0 W : World} {g : Nat} {f0 : List Int} {f1 : Int} {α : Type} {d : Kd α} {e : Nat} {base : Nat} {ok : Nat → Prop} {v : Value} {xs : List α} (h : IsS94 w0 W g f0 f1) (ho : d.S e W base ok v xs) (ht : ∀ q,q ∈ e :: d.E → q ≠ 94) : d.S e W base (fun k => ok k ∧ k ≠ g) v xs:=by
 obtain ⟨A0,c0,hb,hg,hr0⟩:=h
 exact Kd.S_types ho hb ht
theorem IsS94.own_neS {w0 W : World} {g : Nat} {f0 : List Int} {f1 : Int} {α : Type} {d : Kd α} {e : Nat} {base : Nat} {ok : Nat → Prop} {v : Value} {xs : List α} (h : IsS94 w0 W g f0 f1) (ho : d.S e W base ok v xs) (ht : e ≠ 94) : some g ≠ v.ownBlock:=by
 obtain ⟨A0,c0,hb,hg,hr0⟩:=h
 exact Kd.S_ne ho hb ht
theorem IsS94.lt {w0 W : World} {g : Nat} {f0 : List Int} {f1 : Int} (h : IsS94 w0 W g f0 f1) : g < W.heap.size:=by
 obtain ⟨A0,c0,hb,hg,hr0⟩:=h
 exact blk_lt hb
theorem IsS94.ge {w0 W : World} {g : Nat} {f0 : List Int} {f1 : Int} (h : IsS94 w0 W g f0 f1) : w0.heap.size ≤ g:=by
 obtain ⟨A0,c0,hb,hg,hr0⟩:=h
 exact hg
theorem IsS94.ne_blk {w0 W : World} {g : Nat} {f0 : List Int} {f1 : Int} {a : Nat} {cs : Array Value} {t : TypeId} {fr : Nat × Nat} (h : IsS94 w0 W g f0 f1) (hb2 : W.heap[a]? = some (.cells cs t fr)) (ht : t ≠ 94) : g ≠ a:=by
 obtain ⟨A0,c0,hb,hg,hr0⟩:=h
 rintro rfl
 rw [hb] at hb2
 injection hb2 with hb2
 injection hb2 with _ ht2
 exact ht ht2.symm
theorem IsS94.far {w0 W : World} {g : Nat} {f0 : List Int} {f1 : Int} {p : Addr} (h : IsS94 w0 W g f0 f1) (hne : g ≠ p.block) (u : Value) : IsS94 w0 (W.setCell p u) g f0 f1:=by
 obtain ⟨A0,c0,hb,hg,hr0⟩:=h
 exact ⟨A0,c0,blk_far hb hne u,hg,hr0⟩
theorem cellS94_0 {W : World} {g : Nat} {A0 : Option Addr} {c0 : Nat} {f0 : List Int} {f1 : Int} (h : W.heap[g]? = some (.cells #[.slice A0 f0.length c0,.int .i64 f1] 94 (0,0))) : W.cell? ⟨g,0,none⟩ = some (.slice A0 f0.length c0):=(bc_ h 0).trans rfl
theorem cellS94_1 {W : World} {g : Nat} {A0 : Option Addr} {c0 : Nat} {f0 : List Int} {f1 : Int} (h : W.heap[g]? = some (.cells #[.slice A0 f0.length c0,.int .i64 f1] 94 (0,0))) : W.cell? ⟨g,1,none⟩ = some (.int .i64 f1):=(bc_ h 1).trans rfl
theorem IsS94.set_1 {w0 W : World} {g : Nat} {f0 : List Int} {f1 : Int} (h : IsS94 w0 W g f0 f1) (x : Int) : IsS94 w0 (W.setCell ⟨g,1,none⟩ (.int .i64 x)) g f0 x:=by
 obtain ⟨A0,c0,hb,hg,hr0⟩:=h
 exact ⟨A0,c0,by simpa using blk_set hb 1 (.int .i64 x),hg,hr0⟩
theorem IsS94.new (w0 W : World) (A0 : Option Addr) (c0 : Nat) (f0 : List Int) (f1 : Int) (hB : Below w0.heap.size w0 W) (hr0 : Kd.C (Kd.int .u8) w0 A0 f0.length f0) : IsS94 w0 (W.alloc (.cells #[.slice A0 f0.length c0,.int .i64 f1] 94)) W.heap.size f0 f1:=⟨A0,c0,by simpa using heap_alloc_new W _,hB.size,hr0⟩
/-! ### spec_l21Open: function 28 -/
def spec_l21Open.f (l0 : List Int) : Option (List Int × Int):=if (l0.length : Int) > 2000 then (if 2000 ≤ (l0.length : Int) then (some (l0.take 2000,0)) else (none)) else (some (l0,0))
set_option maxHeartbeats 8000000 in
set_option maxRecDepth 100000 in
theorem spec_l21Open.calls (A0 : Option Addr) (c0 : Nat) (l0 : List Int) (r1 : List Int) (r2 : Int) (w0 w : World) (hB : Below w0.heap.size w0 w) (hr0 : Kd.C (Kd.int .u8) w0 A0 l0.length l0) (hc0 : l0.length ≤ c0) (h : spec_l21Open.f l0 = some (r1,r2)) :
  Calls Try.prog 28 #[.slice A0 l0.length c0] w fun e w' => ∃ g_ : Nat,e = .returned (.pointer (some ⟨g_,0,none⟩)) ∧ IsS94 w0 w' g_ r1 r2 ∧ Below w0.heap.size w0 w' ∧ Below w.heap.size w w':=by
 have hu94:=Try.underlying94
 have HR0:=mk_ hr0
 have HC0:=mk_ hc0
 clear hr0 hc0
 have HBW:=mk_ (Below.refl w.heap.size w)
 have HW0:=mk_ hB.size
 have HB:=mk_ hB
 clear hB
 have H : (if (l0.length : Int) > 2000 then (if 2000 ≤ (l0.length : Int) then (some (l0.take 2000,0)) else (none)) else (some (l0,0))) = some (r1,r2):=h
 clear h
 by_cases c2 : (l0.length : Int) > 2000
 ·rw [if_pos c2] at H
  have c2b0 : decide (2000 < (l0.length : Int)) = true:=decide_eq_true c2
  have c2b1 : decide (2000 < l0.length) = true:=decide_eq_true (by omega)
  clear c2
  by_cases c3 : 2000 ≤ (l0.length : Int)
  ·rw [if_pos c3] at H
   have c3b0:=eq_true c3
   have c3b1 : decide (2000 ≤ (l0.length : Int)) = true:=decide_eq_true c3
   clear c3
   simp only [Option.some.injEq,Prod.mk.injEq] at H
   obtain ⟨rfl,rfl⟩:=H
   obtain ⟨i04,hi04,_,hsz4,_⟩:=info_parts info5
   obtain ⟨hcut4,hA4,hC4⟩:=print_take_of (P:=Try.prog) (Value.int .u8) 0 22 5 .i64 Try.underlying22 hi04 hsz4 A0 c0 l0 2000 (by omega) (od_ qa_) HC0.out
   have HR105:=mk_ (Kd.C_of_reads (h1:=fun _ => rfl) (hA4 _ (Kd.reads_of_C HR0.out)))
   have HC105:=mk_ hC4
   clear hA4 hC4 hi04 hsz4
   go_enter Try.func28,Try.ntmps28
   go_wp2_with (first|((with_reducible refine gate_dst (N:=10) rfl ?_);refine box_event ?hg (N:=10) ?hd (cs:=#[.slice A0 (l0.take 2000).length c0,.int .i64 0]) (t:=94) ?hr ?_;(case hd => rfl);(case hg => rfl);(case hr => first|(go_simp;done)|(go_simp;rfl));intro gb106 hg w5 hbox hb;have n0_:=mk_ (st_ HBW.out hb);have n1_:=mk_ (st_ (qb_ HB) hb);have n2_:=mk_ (hbox);have n3_:=mk_ ((by rw [hg];exact (bz_ (u1_ HBW)) : w.heap.size ≤ gb106));have n4_:=mk_ ((Nat.le_trans HW0.out (by rw [hg];exact (bz_ (u1_ HBW)) : w.heap.size ≤ gb106) : w0.heap.size ≤ gb106));clear HBW HB;have HBW:=n0_;have HB:=n1_;have BK106:=n2_;have GW106:=n3_;have GE106:=n4_;clear n0_ n1_ n2_ n3_ n4_ hb hbox hg))
   go_ret
   exact ⟨_,rfl,(show IsS94 w0 _ gb106 (l0.take 2000) 0 from ⟨_,_,qk_ BK106,GE106.out,HR105.out⟩),u0_ HB GE106,u0_ HBW GW106⟩
  ·rw [if_neg c3] at H
   exact absurd H (by simp)
 ·rw [if_neg c2] at H
  have c2b0 : decide (2000 < (l0.length : Int)) = false:=decide_eq_false c2
  have c2b1 : decide (2000 < l0.length) = false:=decide_eq_false (by omega)
  clear c2
  simp only [Option.some.injEq,Prod.mk.injEq] at H
  obtain ⟨rfl,rfl⟩:=H
  go_enter Try.func28,Try.ntmps28
  go_wp2_with (first|((with_reducible refine gate_dst (N:=10) rfl ?_);refine box_event ?hg (N:=10) ?hd (cs:=#[.slice A0 l0.length c0,.int .i64 0]) (t:=94) ?hr ?_;(case hd => rfl);(case hg => rfl);(case hr => first|(go_simp;done)|(go_simp;rfl));intro gb107 hg w6 hbox hb;have n0_:=mk_ (st_ HBW.out hb);have n1_:=mk_ (st_ (qb_ HB) hb);have n2_:=mk_ (hbox);have n3_:=mk_ ((by rw [hg];exact (bz_ (u1_ HBW)) : w.heap.size ≤ gb107));have n4_:=mk_ ((Nat.le_trans HW0.out (by rw [hg];exact (bz_ (u1_ HBW)) : w.heap.size ≤ gb107) : w0.heap.size ≤ gb107));clear HBW HB;have HBW:=n0_;have HB:=n1_;have BK107:=n2_;have GW107:=n3_;have GE107:=n4_;clear n0_ n1_ n2_ n3_ n4_ hb hbox hg))
  go_ret
  exact ⟨_,rfl,(show IsS94 w0 _ gb107 l0 0 from ⟨_,_,qk_ BK107,GE107.out,HR0.out⟩),u0_ HB GE107,u0_ HBW GW107⟩
/-! ### spec_l21Rd_pick: function 62 -/
def spec_l21Rd_pick.j0 : Nat → Int → Bool → List Int → Int → Option (Int × Int)
 | 0,_,_,_,_ => none
 | k + 1,x1,x24,x1000,x1001 => if x24 = true then (some (0,x1001)) else (if (wrap64 (x1001 - 1)) < (x1000.length : Int) then (if 0 ≤ (wrap64 (x1001 - 1)) then (if x1 = 0 then (none) else (some (Int.tmod (wrap64 (rd x1000 (wrap64 (x1001 - 1)))) x1,x1001))) else (none)) else (if (x1000.length : Int) = 0 then (none) else (if 0 ≤ (Int.tmod (wrap64 (x1001 - 1)) (x1000.length : Int)) then (if (Int.tmod (wrap64 (x1001 - 1)) (x1000.length : Int)) < (x1000.length : Int) then (if 0 ≤ (Int.tmod (wrap64 ((wrap64 ((wrap64 (x1001 - 1)) * 7)) + 3)) (x1000.length : Int)) then (if (Int.tmod (wrap64 ((wrap64 ((wrap64 (x1001 - 1)) * 7)) + 3)) (x1000.length : Int)) < (x1000.length : Int) then (if x1 = 0 then (none) else (some (Int.tmod (Go.bits .xor .i64 (wrap64 ((wrap64 ((wrap64 ((wrap64 ((wrap64 (rd x1000 (Int.tmod (wrap64 (x1001 - 1)) (x1000.length : Int)))) * 131)) + (wrap64 ((wrap64 (rd x1000 (Int.tmod (wrap64 ((wrap64 ((wrap64 (x1001 - 1)) * 7)) + 3)) (x1000.length : Int)))) * 1117)))) + (wrap64 ((wrap64 (x1001 - 1)) * 29)))) + (wrap64 ((wrap64 (Int.tdiv (wrap64 (x1001 - 1)) (x1000.length : Int))) * 53)))) (wrap64 (Int.tdiv (wrap64 ((wrap64 ((wrap64 ((wrap64 ((wrap64 (rd x1000 (Int.tmod (wrap64 (x1001 - 1)) (x1000.length : Int)))) * 131)) + (wrap64 ((wrap64 (rd x1000 (Int.tmod (wrap64 ((wrap64 ((wrap64 (x1001 - 1)) * 7)) + 3)) (x1000.length : Int)))) * 1117)))) + (wrap64 ((wrap64 (x1001 - 1)) * 29)))) + (wrap64 ((wrap64 (Int.tdiv (wrap64 (x1001 - 1)) (x1000.length : Int))) * 53)))) 64))) x1,x1001))) else (none)) else (none)) else (none)) else (none))))
def spec_l21Rd_pick.f (k : Nat) (s0_0 : List Int) (s0_1 : Int) (a1 : Int) : Option (Int × Int):=if a1 < 1 then (spec_l21Rd_pick.j0 k a1 true s0_0 (wrap64 (s0_1 + 1))) else (spec_l21Rd_pick.j0 k a1 ((s0_0.length : Int) == 0) s0_0 (wrap64 (s0_1 + 1)))
theorem spec_l21Rd_pick.mono_l : ∀ k,(∀ y0 y1 y2 y3,LeO (spec_l21Rd_pick.j0 k y0 y1 y2 y3) (spec_l21Rd_pick.j0 (k + 1) y0 y1 y2 y3))
 | 0 => fun _ _ _ _ r h => by simp [spec_l21Rd_pick.j0] at h
 | k + 1 => by
  have ih0:=spec_l21Rd_pick.mono_l k
  ·intro y0 y1 y2 y3
   unfold spec_l21Rd_pick.j0
   repeat' first
   | (with_reducible exact ih0 _ _ _ _)
   | (with_reducible exact LeO.refl _)
   | (with_reducible exact LeO.none _)
   | (with_reducible refine LeO.ite ?_ ?_)
   | (with_reducible refine LeO.bind ?_ (fun _ => ?_))
   | exact ih0 _ _ _ _
   | exact LeO.none _
   | refine LeO.ite ?_ ?_
   | refine LeO.bind ?_ (fun _ => ?_)
theorem spec_l21Rd_pick.mono : ∀ a0 a1 a2 k,LeO (spec_l21Rd_pick.f k a0 a1 a2) (spec_l21Rd_pick.f (k + 1) a0 a1 a2):=by
 intro a0 a1 a2 k
 have ih0:=spec_l21Rd_pick.mono_l k
 unfold spec_l21Rd_pick.f
 repeat' first
   | (with_reducible exact ih0 _ _ _ _)
   | (with_reducible exact LeO.refl _)
   | (with_reducible exact LeO.none _)
   | (with_reducible refine LeO.ite ?_ ?_)
   | (with_reducible refine LeO.bind ?_ (fun _ => ?_))
   | exact ih0 _ _ _ _
   | exact LeO.none _
   | refine LeO.ite ?_ ?_
   | refine LeO.bind ?_ (fun _ => ?_)
set_option maxHeartbeats 8000000 in
set_option maxRecDepth 100000 in
theorem spec_l21Rd_pick.calls (k : Nat) (g : Nat) (s0_0 : List Int) (s0_1 : Int) (a1 : Int) (r1 : Int) (r2 : Int) (w0 w : World) (hI : IsS94 w0 w g s0_0 s0_1) (hB : Below w0.heap.size w0 w) (h : spec_l21Rd_pick.f k s0_0 s0_1 a1 = some (r1,r2)) :
  Calls Try.prog 62 #[.pointer (some ⟨g,0,none⟩),.int .i64 a1] w fun e w' => e = .returned (.int .i64 r1) ∧ IsS94 w0 w' g s0_0 r2 ∧ Below w0.heap.size w0 w' ∧ KeepBut w w' g none:=by
 have HI0:=mk_ hI
 have HK:=mk_ (KeepBut.refl w g none)
 have HL:=mk_ hB.size
 clear hI
 have HW0:=mk_ hB.size
 have HB:=mk_ hB
 clear hB
 have H : (if a1 < 1 then (spec_l21Rd_pick.j0 k a1 true s0_0 (wrap64 (s0_1 + 1))) else (spec_l21Rd_pick.j0 k a1 ((s0_0.length : Int) == 0) s0_0 (wrap64 (s0_1 + 1)))) = some (r1,r2):=h
 clear h
 have HC3:=mk_ H
 clear H
 obtain ⟨ASz4_0,cSz4_0,HGz4,hgz4,HSz4_0⟩:=HI0.out
 have hcz4_0:=cellS94_0 HGz4
 have hcz4_1:=cellS94_1 HGz4
 have hfz4_1:=bf_ HGz4 1
 clear HGz4 hgz4
 go_enter Try.func62,Try.ntmps62
 go_upto_region 2 with (fail)
 repeat (go_quiet (fail);go_upto_region 2 with (fail))
 go_cut [24] (fun v24 wc => ∃ (kq : Nat) (x24_2 : Bool),v24 = .bool x24_2 ∧ Aside0 (spec_l21Rd_pick.j0 kq a1 x24_2 s0_0 (wrap64 (s0_1 + 1)) = some (r1,r2)) ∧ Aside0 (kq ≤ k) ∧ Aside0 (IsS94 w0 wc g s0_0 (wrap64 (s0_1 + 1))) ∧ Aside0 (KeepBut w wc g none) ∧ Aside0 (Below w0.heap.size w0 wc))
 case first =>
  have H:=HC3.out
  clear HC3
  by_cases c5 : a1 < 1
  ·rw [if_pos c5] at H
   have c5b0 : decide (a1 < 1) = true:=decide_eq_true c5
   clear c5
   (first|rw [c5b0]|(simp only [i64_w,i32_w];rw [c5b0])|skip)
   have H':=mk_ H
   clear H
   go_wp2
   repeat (go_quiet (fail);try go_wp2)
   go_meet
   case rel => exact ⟨_,(true),qf_,H',⟨by first|omega|exact Nat.le_refl _⟩,⟨u2_ HI0⟩,⟨u3_ HK⟩,⟨u4_ HB HI0⟩⟩
  ·rw [if_neg c5] at H
   have c5b0 : decide (a1 < 1) = false:=decide_eq_false c5
   clear c5
   (first|rw [c5b0]|(simp only [i64_w,i32_w];rw [c5b0])|skip)
   have H':=mk_ H
   clear H
   obtain ⟨ASz6_0,cSz6_0,HGz6,hgz6,HSz6_0⟩:=HI0.out
   have hcz6_0:=cellS94_0 HGz6
   have hcz6_1:=cellS94_1 HGz6
   have hfz6_1:=bf_ HGz6 1
   clear HGz6 hgz6
   go_wp2
   repeat (go_quiet (fail);try go_wp2)
   go_meet
   case rel => exact ⟨_,(((s0_0.length : Int) == 0)),qf_,H',⟨by first|omega|exact Nat.le_refl _⟩,⟨u2_ HI0⟩,⟨u3_ HK⟩,⟨u4_ HB HI0⟩⟩
 case rest =>
  clear HC3
  try clear p2
  try clear c5
  try clear c5b0
  try clear c6
  try clear p6
  try clear hcz4_0
  try clear hcz4_1
  try clear hcz6_0
  try clear hcz6_1
  try clear hfz4_1
  try clear hfz6_1
  obtain ⟨kq,x24_2,rfl,HA,HJ2,HI0,HK,HB⟩:=hcut
  cases kq with
  | zero => exact absurd HA.out (by simp [spec_l21Rd_pick.j0])
  | succ kj2 =>
   have H:=HA.out
   clear HA
   simp only [spec_l21Rd_pick.j0] at H
   by_cases c7 : x24_2 = true
   ·subst c7
    have H1 : (some (0,(wrap64 (s0_1 + 1)))) = some (r1,r2):=by rw [if_pos rfl] at H;exact H
    clear H
    have H:=H1
    clear H1
    simp only [Option.some.injEq,Prod.mk.injEq] at H
    obtain ⟨rfl,rfl⟩:=H
    go_wp2
    repeat (go_quiet (fail);try go_wp2)
    go_ret
    exact ⟨qe_,u2_ HI0,u4_ HB HI0,u3_ HK⟩
   ·replace c7:=Bool.eq_false_iff.mpr c7
    subst c7
    have H1 : (if (wrap64 ((wrap64 (s0_1 + 1)) - 1)) < (s0_0.length : Int) then (if 0 ≤ (wrap64 ((wrap64 (s0_1 + 1)) - 1)) then (if a1 = 0 then (none) else (some (Int.tmod (wrap64 (rd s0_0 (wrap64 ((wrap64 (s0_1 + 1)) - 1)))) a1,(wrap64 (s0_1 + 1))))) else (none)) else (if (s0_0.length : Int) = 0 then (none) else (if 0 ≤ (Int.tmod (wrap64 ((wrap64 (s0_1 + 1)) - 1)) (s0_0.length : Int)) then (if (Int.tmod (wrap64 ((wrap64 (s0_1 + 1)) - 1)) (s0_0.length : Int)) < (s0_0.length : Int) then (if 0 ≤ (Int.tmod (wrap64 ((wrap64 ((wrap64 ((wrap64 (s0_1 + 1)) - 1)) * 7)) + 3)) (s0_0.length : Int)) then (if (Int.tmod (wrap64 ((wrap64 ((wrap64 ((wrap64 (s0_1 + 1)) - 1)) * 7)) + 3)) (s0_0.length : Int)) < (s0_0.length : Int) then (if a1 = 0 then (none) else (some (Int.tmod (Go.bits .xor .i64 (wrap64 ((wrap64 ((wrap64 ((wrap64 ((wrap64 (rd s0_0 (Int.tmod (wrap64 ((wrap64 (s0_1 + 1)) - 1)) (s0_0.length : Int)))) * 131)) + (wrap64 ((wrap64 (rd s0_0 (Int.tmod (wrap64 ((wrap64 ((wrap64 ((wrap64 (s0_1 + 1)) - 1)) * 7)) + 3)) (s0_0.length : Int)))) * 1117)))) + (wrap64 ((wrap64 ((wrap64 (s0_1 + 1)) - 1)) * 29)))) + (wrap64 ((wrap64 (Int.tdiv (wrap64 ((wrap64 (s0_1 + 1)) - 1)) (s0_0.length : Int))) * 53)))) (wrap64 (Int.tdiv (wrap64 ((wrap64 ((wrap64 ((wrap64 ((wrap64 (rd s0_0 (Int.tmod (wrap64 ((wrap64 (s0_1 + 1)) - 1)) (s0_0.length : Int)))) * 131)) + (wrap64 ((wrap64 (rd s0_0 (Int.tmod (wrap64 ((wrap64 ((wrap64 ((wrap64 (s0_1 + 1)) - 1)) * 7)) + 3)) (s0_0.length : Int)))) * 1117)))) + (wrap64 ((wrap64 ((wrap64 (s0_1 + 1)) - 1)) * 29)))) + (wrap64 ((wrap64 (Int.tdiv (wrap64 ((wrap64 (s0_1 + 1)) - 1)) (s0_0.length : Int))) * 53)))) 64))) a1,(wrap64 (s0_1 + 1))))) else (none)) else (none)) else (none)) else (none)))) = some (r1,r2):=by rw [if_neg (show ¬ (false = true) by decide)] at H;exact H
    clear H
    have H:=H1
    clear H1
    by_cases c8 : (wrap64 ((wrap64 (s0_1 + 1)) - 1)) < (s0_0.length : Int)
    ·rw [if_pos c8] at H
     have c8b0 : decide ((wrap64 ((wrap64 (s0_1 + 1)) - 1)) < (s0_0.length : Int)) = true:=decide_eq_true c8
     clear c8
     obtain ⟨ji9,hji9⟩ : ∃ j_ : Int,(wrap64 ((wrap64 (s0_1 + 1)) - 1)) = j_:=⟨_,rfl⟩
     replace H : (if 0 ≤ (ji9) then (if a1 = 0 then (none) else (some (Int.tmod (wrap64 (rd s0_0 (ji9))) a1,(wrap64 (s0_1 + 1))))) else (none)) = some (r1,r2):=by first|(rw [hji9] at H;exact H)|(simp only [hji9] at H ⊢;exact H)
     (try rw [hji9] at c8b0)
     have hji9w : (IntKind.i64.wrap ((wrap64 (s0_1 + 1)) - 1)) = ji9:=(i64_w _).trans hji9
     by_cases c10 : 0 ≤ (ji9)
     ·rw [if_pos c10] at H
      have c10b0 : decide (0 ≤ (ji9)) = true:=decide_eq_true c10
      clear c10
      by_cases c11 : a1 = 0
      ·rw [if_pos c11] at H
       exact absurd H (by simp)
      ·rw [if_neg c11] at H
       have c11b0 : (a1 == 0) = false:=beq_eq_false_iff_ne.mpr c11
       have c11b1 : (a1 != 0) = true:=bne_iff_ne.mpr c11
       simp only [Option.some.injEq,Prod.mk.injEq] at H
       obtain ⟨rfl,rfl⟩:=H
       obtain ⟨ASz12_0,cSz12_0,HGz12,hgz12,HSz12_0⟩:=HI0.out
       have hcz12_0:=cellS94_0 HGz12
       have hcz12_1:=cellS94_1 HGz12
       have hfz12_1:=bf_ HGz12 1
       clear HGz12 hgz12
       have p108 : 0 ≤ ((ji9) : Int):=od_ qa_
       have q108 : (ji9) < (s0_0.length : Int):=od_ qa_
       obtain ⟨ad108,e108,hx108_0⟩:=Kd.at_int HSz12_0 (ji9) p108 q108
       cases e108
       replace hx108_0:=pw_cell_below HB.out hx108_0
       replace p108:=eq_true p108
       replace q108:=eq_true q108
       go_wp2
       repeat (go_quiet (fail);try go_wp2)
       go_ret
       exact ⟨by first|rfl|(simp [errW_none,errW_some] <;> rfl)|(simp only [← hji9];first|rfl|(simp [errW_none,errW_some] <;> rfl))|(simp [*,errW_none,errW_some] <;> rfl),u2_ HI0,u4_ HB HI0,u3_ HK⟩
     ·rw [if_neg c10] at H
      exact absurd H (by simp)
    ·rw [if_neg c8] at H
     have c8b0 : decide ((wrap64 ((wrap64 (s0_1 + 1)) - 1)) < (s0_0.length : Int)) = false:=decide_eq_false c8
     clear c8
     by_cases c13 : (s0_0.length : Int) = 0
     ·rw [if_pos c13] at H
      exact absurd H (by simp)
     ·rw [if_neg c13] at H
      have c13b0 : ((s0_0.length : Int) == 0) = false:=beq_eq_false_iff_ne.mpr c13
      have c13b1 : ((s0_0.length : Int) != 0) = true:=bne_iff_ne.mpr c13
      have c13b2 : ¬ (s0_0 = []):=fun h_ => c13 (by rw [h_];rfl)
      obtain ⟨ji14,hji14⟩ : ∃ j_ : Int,(Int.tmod (wrap64 ((wrap64 (s0_1 + 1)) - 1)) (s0_0.length : Int)) = j_:=⟨_,rfl⟩
      replace H : (if 0 ≤ (ji14) then (if (ji14) < (s0_0.length : Int) then (if 0 ≤ (Int.tmod (wrap64 ((wrap64 ((wrap64 ((wrap64 (s0_1 + 1)) - 1)) * 7)) + 3)) (s0_0.length : Int)) then (if (Int.tmod (wrap64 ((wrap64 ((wrap64 ((wrap64 (s0_1 + 1)) - 1)) * 7)) + 3)) (s0_0.length : Int)) < (s0_0.length : Int) then (if a1 = 0 then (none) else (some (Int.tmod (Go.bits .xor .i64 (wrap64 ((wrap64 ((wrap64 ((wrap64 ((wrap64 (rd s0_0 (ji14))) * 131)) + (wrap64 ((wrap64 (rd s0_0 (Int.tmod (wrap64 ((wrap64 ((wrap64 ((wrap64 (s0_1 + 1)) - 1)) * 7)) + 3)) (s0_0.length : Int)))) * 1117)))) + (wrap64 ((wrap64 ((wrap64 (s0_1 + 1)) - 1)) * 29)))) + (wrap64 ((wrap64 (Int.tdiv (wrap64 ((wrap64 (s0_1 + 1)) - 1)) (s0_0.length : Int))) * 53)))) (wrap64 (Int.tdiv (wrap64 ((wrap64 ((wrap64 ((wrap64 ((wrap64 (rd s0_0 (ji14))) * 131)) + (wrap64 ((wrap64 (rd s0_0 (Int.tmod (wrap64 ((wrap64 ((wrap64 ((wrap64 (s0_1 + 1)) - 1)) * 7)) + 3)) (s0_0.length : Int)))) * 1117)))) + (wrap64 ((wrap64 ((wrap64 (s0_1 + 1)) - 1)) * 29)))) + (wrap64 ((wrap64 (Int.tdiv (wrap64 ((wrap64 (s0_1 + 1)) - 1)) (s0_0.length : Int))) * 53)))) 64))) a1,(wrap64 (s0_1 + 1))))) else (none)) else (none)) else (none)) else (none)) = some (r1,r2):=by first|(rw [hji14] at H;exact H)|(simp only [hji14] at H ⊢;exact H)
      by_cases c15 : 0 ≤ (ji14)
      ·rw [if_pos c15] at H
       have c15b0 : decide (0 ≤ (ji14)) = true:=decide_eq_true c15
       clear c15
       by_cases c16 : (ji14) < (s0_0.length : Int)
       ·rw [if_pos c16] at H
        have c16b0 : decide ((ji14) < (s0_0.length : Int)) = true:=decide_eq_true c16
        clear c16
        obtain ⟨ji17,hji17⟩ : ∃ j_ : Int,(Int.tmod (wrap64 ((wrap64 ((wrap64 ((wrap64 (s0_1 + 1)) - 1)) * 7)) + 3)) (s0_0.length : Int)) = j_:=⟨_,rfl⟩
        replace H : (if 0 ≤ (ji17) then (if (ji17) < (s0_0.length : Int) then (if a1 = 0 then (none) else (some (Int.tmod (Go.bits .xor .i64 (wrap64 ((wrap64 ((wrap64 ((wrap64 ((wrap64 (rd s0_0 (ji14))) * 131)) + (wrap64 ((wrap64 (rd s0_0 (ji17))) * 1117)))) + (wrap64 ((wrap64 ((wrap64 (s0_1 + 1)) - 1)) * 29)))) + (wrap64 ((wrap64 (Int.tdiv (wrap64 ((wrap64 (s0_1 + 1)) - 1)) (s0_0.length : Int))) * 53)))) (wrap64 (Int.tdiv (wrap64 ((wrap64 ((wrap64 ((wrap64 ((wrap64 (rd s0_0 (ji14))) * 131)) + (wrap64 ((wrap64 (rd s0_0 (ji17))) * 1117)))) + (wrap64 ((wrap64 ((wrap64 (s0_1 + 1)) - 1)) * 29)))) + (wrap64 ((wrap64 (Int.tdiv (wrap64 ((wrap64 (s0_1 + 1)) - 1)) (s0_0.length : Int))) * 53)))) 64))) a1,(wrap64 (s0_1 + 1))))) else (none)) else (none)) = some (r1,r2):=by first|(rw [hji17] at H;exact H)|(simp only [hji17] at H ⊢;exact H)
        by_cases c18 : 0 ≤ (ji17)
        ·rw [if_pos c18] at H
         have c18b0 : decide (0 ≤ (ji17)) = true:=decide_eq_true c18
         clear c18
         by_cases c19 : (ji17) < (s0_0.length : Int)
         ·rw [if_pos c19] at H
          have c19b0 : decide ((ji17) < (s0_0.length : Int)) = true:=decide_eq_true c19
          clear c19
          by_cases c20 : a1 = 0
          ·rw [if_pos c20] at H
           exact absurd H (by simp)
          ·rw [if_neg c20] at H
           have c20b0 : (a1 == 0) = false:=beq_eq_false_iff_ne.mpr c20
           have c20b1 : (a1 != 0) = true:=bne_iff_ne.mpr c20
           simp only [Option.some.injEq,Prod.mk.injEq] at H
           obtain ⟨rfl,rfl⟩:=H
           obtain ⟨ASz21_0,cSz21_0,HGz21,hgz21,HSz21_0⟩:=HI0.out
           have hcz21_0:=cellS94_0 HGz21
           have hcz21_1:=cellS94_1 HGz21
           have hfz21_1:=bf_ HGz21 1
           clear HGz21 hgz21
           have p109 : 0 ≤ ((ji14) : Int):=od_ qa_
           have q109 : (ji14) < (s0_0.length : Int):=od_ qa_
           obtain ⟨ad109,e109,hx109_0⟩:=Kd.at_int HSz21_0 (ji14) p109 q109
           cases e109
           replace hx109_0:=pw_cell_below HB.out hx109_0
           replace p109:=eq_true p109
           replace q109:=eq_true q109
           have p110 : 0 ≤ ((ji17) : Int):=od_ qa_
           have q110 : (ji17) < (s0_0.length : Int):=od_ qa_
           obtain ⟨ad110,e110,hx110_0⟩:=Kd.at_int HSz21_0 (ji17) p110 q110
           obtain rfl : ad109 = ad110:=(by injection e110)
           replace hx110_0:=pw_cell_below HB.out hx110_0
           replace p110:=eq_true p110
           replace q110:=eq_true q110
           go_wp2
           repeat (go_quiet (fail);try go_wp2)
           go_ret
           exact ⟨by first|rfl|(simp [errW_none,errW_some] <;> rfl)|(simp only [← hji14,← hji17];first|rfl|(simp [errW_none,errW_some] <;> rfl))|(simp [*,errW_none,errW_some] <;> rfl),u2_ HI0,u4_ HB HI0,u3_ HK⟩
         ·rw [if_neg c19] at H
          exact absurd H (by simp)
        ·rw [if_neg c18] at H
         exact absurd H (by simp)
       ·rw [if_neg c16] at H
        exact absurd H (by simp)
      ·rw [if_neg c15] at H
       exact absurd H (by simp)
/-! ### spec_l21Rd_num: function 61 -/
def spec_l21Rd_num.f (k : Nat) (s0_0 : List Int) (s0_1 : Int) (l1 : List Int) : Option (Int × Int):=(spec_l21Rd_pick.f k s0_0 s0_1 (l1.length : Int)).bind fun bt111 => (if 0 ≤ bt111.1 then (if bt111.1 < (l1.length : Int) then (some (rd l1 bt111.1,bt111.2)) else (none)) else (none))
theorem spec_l21Rd_num.mono : ∀ a0 a1 a2 k,LeO (spec_l21Rd_num.f k a0 a1 a2) (spec_l21Rd_num.f (k + 1) a0 a1 a2):=by
 intro a0 a1 a2 k
 unfold spec_l21Rd_num.f
 repeat' first
   | (with_reducible exact spec_l21Rd_pick.mono _ _ _ _)
   | (with_reducible exact LeO.refl _)
   | (with_reducible exact LeO.none _)
   | (with_reducible refine LeO.ite ?_ ?_)
   | (with_reducible refine LeO.bind ?_ (fun _ => ?_))
   | exact spec_l21Rd_pick.mono _ _ _ _
   | exact LeO.none _
   | refine LeO.ite ?_ ?_
   | refine LeO.bind ?_ (fun _ => ?_)
set_option maxHeartbeats 8000000 in
set_option maxRecDepth 100000 in
theorem spec_l21Rd_num.calls (k : Nat) (g : Nat) (s0_0 : List Int) (s0_1 : Int) (A1 : Option Addr) (c1 : Nat) (l1 : List Int) (r1 : Int) (r2 : Int) (w0 w : World) (hI : IsS94 w0 w g s0_0 s0_1) (hB : Below w0.heap.size w0 w) (hr1 : Kd.C (Kd.int .i64) w A1 l1.length l1) (hc1 : l1.length ≤ c1) (hf1 : ∀ ad,A1 = some ad → 0 < l1.length → ad.block ≠ g) (h : spec_l21Rd_num.f k s0_0 s0_1 l1 = some (r1,r2)) :
  Calls Try.prog 61 #[.pointer (some ⟨g,0,none⟩),.slice A1 l1.length c1] w fun e w' => e = .returned (.int .i64 r1) ∧ IsS94 w0 w' g s0_0 r2 ∧ Below w0.heap.size w0 w' ∧ KeepBut w w' g none:=by
 have HR1:=mk_ hr1
 have HC1:=mk_ hc1
 clear hr1 hc1
 have HI0:=mk_ hI
 have HK:=mk_ (KeepBut.refl w g none)
 have HL:=mk_ hB.size
 clear hI
 have HW0:=mk_ hB.size
 have HB:=mk_ hB
 clear hB
 have H : ((spec_l21Rd_pick.f k s0_0 s0_1 (l1.length : Int)).bind fun bt111 => (if 0 ≤ bt111.1 then (if bt111.1 < (l1.length : Int) then (some (rd l1 bt111.1,bt111.2)) else (none)) else (none))) = some (r1,r2):=h
 clear h
 replace H:=Option.bind_eq_some_iff.mp H
 obtain ⟨⟨t111,t112⟩,A30,H⟩:=H
 replace H : (if 0 ≤ t111 then (if t111 < (l1.length : Int) then (some (rd l1 t111,t112)) else (none)) else (none)) = some (r1,r2):=H
 have A3:=mk_ A30
 clear A30
 by_cases c4 : 0 ≤ t111
 ·rw [if_pos c4] at H
  have c4b0 : decide (0 ≤ t111) = true:=decide_eq_true c4
  clear c4
  by_cases c5 : t111 < (l1.length : Int)
  ·rw [if_pos c5] at H
   have c5b0 : decide (t111 < (l1.length : Int)) = true:=decide_eq_true c5
   clear c5
   simp only [Option.some.injEq,Prod.mk.injEq] at H
   obtain ⟨rfl,rfl⟩:=H
   go_enter Try.func61,Try.ntmps61
   go_wp2_with (first|((with_reducible refine gate_callee (f:=62) rfl ?_);refine goesL_ (some 9) rfl rfl Try.func62 (by kernel_rfl) rfl #[.pointer (some ⟨g,0,none⟩),.int .i64 (l1.length : Int)] rfl qm_ ?_;(with_reducible refine (spec_l21Rd_pick.calls k g s0_0 s0_1 (l1.length : Int) t111 t112 w0 _ ?side1 ?side2 A3.out).mono ?_);(case side1 => exact u2_ HI0);(case side2 => exact u4_ HB HI0);rintro e w6 ⟨rfl,hi,hb,hk⟩;refine ⟨_,rfl,?_⟩;have n0_:=mk_ (KeepBut.trans (u3_ HK) hk (.inl rfl));have n1_:=mk_ (hb);have n2_:=mk_ (hi);clear HK HB HI0;have HK:=n0_;have HB:=n1_;have HI0:=n2_;clear n0_ n1_ n2_;(try clear hb);(try clear hb2);(try clear hk);(try clear hi);have p113 : 0 ≤ (t111 : Int):=od_ qa_;have q113 : t111 < (l1.length : Int):=od_ qa_;obtain ⟨ad113,e113,hx113_0⟩:=Kd.at_int HR1.out t111 p113 q113;cases e113;replace hx113_0:=keep_cell HK.out hx113_0 (by first|(rw [add_block];exact hf1 _ rfl (by omega))|exact hf1 _ rfl (by omega)|exact hf1 ad113 rfl (by omega));replace p113:=eq_true p113;replace q113:=eq_true q113))
   go_ret
   exact ⟨qe_,u2_ HI0,u4_ HB HI0,u3_ HK⟩
  ·rw [if_neg c5] at H
   exact absurd H (by simp)
 ·rw [if_neg c4] at H
  exact absurd H (by simp)
/-! ### spec_l7Cables: function 60 -/
mutual
def spec_l7Cables.l0 : Nat → Int → List (S83) → Int → List Int → Int → Option (Int × (List (S83)) × Int)
 | 0,_,_,_,_,_ => none
 | k + 1,x4,x5,x6,x1000,x1001 => if x6 > 0 then (spec_l7Cables.j1 k x4 x5 x6 (decide (x4 > 1)) x1000 x1001) else (spec_l7Cables.j1 k x4 x5 x6 false x1000 x1001)
def spec_l7Cables.j1 : Nat → Int → List (S83) → Int → Bool → List Int → Int → Option (Int × (List (S83)) × Int)
 | 0,_,_,_,_,_,_ => none
 | k + 1,x4,x5,x6,x20,x1000,x1001 => if x20 = true then ((spec_l21Rd_pick.f k x1000 x1001 x4).bind fun bt127 => ((spec_l21Rd_pick.f k x1000 bt127.2 (wrap64 (x4 - 1))).bind fun bt129 => (if x4 = 0 then (none) else ((spec_l21Rd_num.f k x1000 bt129.2 (([1,1,2,5,10,99] : List Int))).bind fun bt134 => (if x5.length < 5864062014805 then (spec_l7Cables.l0 k x4 (x5 ++ [(⟨bt127.1,Int.tmod (wrap64 ((wrap64 (bt127.1 + 1)) + bt129.1)) x4,bt134.1⟩ : S83)]) (wrap64 (x6 - 1)) x1000 bt134.2) else (none)))))) else (some (x4,x5,x1001))
end
def spec_l7Cables.f (k : Nat) (s0_0 : List Int) (s0_1 : Int) : Option (Int × (List (S83)) × Int):=(spec_l21Rd_num.f k s0_0 s0_1 (([4,6,3,8,2,1,5] : List Int))).bind fun bt117 => ((spec_l21Rd_num.f k s0_0 bt117.2 (([5,8,12,3,0,20] : List Int))).bind fun bt125 => (spec_l7Cables.l0 k bt117.1 (([] : List (S83))) bt125.1 s0_0 bt125.2))
theorem spec_l7Cables.mono_l : ∀ k,(∀ y0 y1 y2 y3 y4,LeO (spec_l7Cables.l0 k y0 y1 y2 y3 y4) (spec_l7Cables.l0 (k + 1) y0 y1 y2 y3 y4)) ∧ (∀ y0 y1 y2 y3 y4 y5,LeO (spec_l7Cables.j1 k y0 y1 y2 y3 y4 y5) (spec_l7Cables.j1 (k + 1) y0 y1 y2 y3 y4 y5))
 | 0 => ⟨fun _ _ _ _ _ r h => by simp [spec_l7Cables.l0] at h,fun _ _ _ _ _ _ r h => by simp [spec_l7Cables.j1] at h⟩
 | k + 1 => by
  obtain ⟨ih0,ih1⟩:=spec_l7Cables.mono_l k
  refine ⟨?_,?_⟩
  ·intro y0 y1 y2 y3 y4
   unfold spec_l7Cables.l0
   repeat' first
   | (with_reducible exact ih0 _ _ _ _ _)
   | (with_reducible exact ih1 _ _ _ _ _ _)
   | (with_reducible exact spec_l21Rd_num.mono _ _ _ _)
   | (with_reducible exact spec_l21Rd_pick.mono _ _ _ _)
   | (with_reducible exact LeO.refl _)
   | (with_reducible exact LeO.none _)
   | (with_reducible refine LeO.ite ?_ ?_)
   | (with_reducible refine LeO.bind ?_ (fun _ => ?_))
   | exact ih0 _ _ _ _ _
   | exact ih1 _ _ _ _ _ _
   | exact spec_l21Rd_num.mono _ _ _ _
   | exact spec_l21Rd_pick.mono _ _ _ _
   | exact LeO.none _
   | refine LeO.ite ?_ ?_
   | refine LeO.bind ?_ (fun _ => ?_)
  ·intro y0 y1 y2 y3 y4 y5
   unfold spec_l7Cables.j1
   repeat' first
   | (with_reducible exact ih0 _ _ _ _ _)
   | (with_reducible exact ih1 _ _ _ _ _ _)
   | (with_reducible exact spec_l21Rd_num.mono _ _ _ _)
   | (with_reducible exact spec_l21Rd_pick.mono _ _ _ _)
   | (with_reducible exact LeO.refl _)
   | (with_reducible exact LeO.none _)
   | (with_reducible refine LeO.ite ?_ ?_)
   | (with_reducible refine LeO.bind ?_ (fun _ => ?_))
   | exact ih0 _ _ _ _ _
   | exact ih1 _ _ _ _ _ _
   | exact spec_l21Rd_num.mono _ _ _ _
   | exact spec_l21Rd_pick.mono _ _ _ _
   | exact LeO.none _
   | refine LeO.ite ?_ ?_
   | refine LeO.bind ?_ (fun _ => ?_)
theorem spec_l7Cables.mono : ∀ a0 a1 k,LeO (spec_l7Cables.f k a0 a1) (spec_l7Cables.f (k + 1) a0 a1):=by
 intro a0 a1 k
 obtain ⟨ih0,ih1⟩:=spec_l7Cables.mono_l k
 unfold spec_l7Cables.f
 repeat' first
   | (with_reducible exact ih0 _ _ _ _ _)
   | (with_reducible exact ih1 _ _ _ _ _ _)
   | (with_reducible exact spec_l21Rd_num.mono _ _ _ _)
   | (with_reducible exact spec_l21Rd_pick.mono _ _ _ _)
   | (with_reducible exact LeO.refl _)
   | (with_reducible exact LeO.none _)
   | (with_reducible refine LeO.ite ?_ ?_)
   | (with_reducible refine LeO.bind ?_ (fun _ => ?_))
   | exact ih0 _ _ _ _ _
   | exact ih1 _ _ _ _ _ _
   | exact spec_l21Rd_num.mono _ _ _ _
   | exact spec_l21Rd_pick.mono _ _ _ _
   | exact LeO.none _
   | refine LeO.ite ?_ ?_
   | refine LeO.bind ?_ (fun _ => ?_)
def spec_l7Cables.T7 : Bool × List (List Nat × List Nat):=(true,[([],[]),([],[]),([],[]),([2],[2]),([],[]),([],[]),([5],[5]),([4,6],[4,6]),([3,7],[3,7]),([],[]),([8,9],[8,9]),([],[]),([],[]),([11,12,7],[11,12]),([1,10,13],[1,10,13]),([14],[14]),([0,15,13],[0,15]),([16,16,0,1,2,3,4,5,6,7,8,9,10,11,12,13,14,15,16],[0,16])])
def spec_l7Cables.B7 : List Nat:=[0,0,0,4,0,0,32,112,252,0,1020,0,0,6384,16382,32766,65535,131071]
theorem spec_l7Cables.tab7 : rtab .any (opsOf Try.f60 7) = spec_l7Cables.T7:=by kernel_rfl
theorem spec_l7Cables.bits7 : waitsOk spec_l7Cables.T7.2 spec_l7Cables.B7 = true:=by kernel_rfl
set_option maxHeartbeats 8000000 in
set_option maxRecDepth 100000 in
theorem spec_l7Cables.calls (k : Nat) (g : Nat) (s0_0 : List Int) (s0_1 : Int) (r1 : Int) (r2 : List (S83)) (r3 : Int) (w0 w : World) (hI : IsS94 w0 w g s0_0 s0_1) (hB : Below w0.heap.size w0 w) (h : spec_l7Cables.f k s0_0 s0_1 = some (r1,r2,r3)) :
  Calls Try.prog 60 #[.pointer (some ⟨g,0,none⟩)] w fun e w' => ∃ v1_ : Value,e = .returned (.tuple #[.int .i64 r1,v1_]) ∧ Kd.R k83 83 w' w.heap.size (fun _ => True) v1_ r2 ∧ IsS94 w0 w' g s0_0 r3 ∧ Below w0.heap.size w0 w' ∧ KeepBut w w' g none:=by
 have hu83:=Try.underlying83
 have HI0:=mk_ hI
 have HK:=mk_ (KeepBut.refl w g none)
 have HL:=mk_ hB.size
 clear hI
 have HW0:=mk_ hB.size
 have HB:=mk_ hB
 clear hB
 have H : ((spec_l21Rd_num.f k s0_0 s0_1 (([4,6,3,8,2,1,5] : List Int))).bind fun bt117 => ((spec_l21Rd_num.f k s0_0 bt117.2 (([5,8,12,3,0,20] : List Int))).bind fun bt125 => (spec_l7Cables.l0 k bt117.1 (([] : List (S83))) bt125.1 s0_0 bt125.2))) = some (r1,r2,r3):=h
 clear h
 obtain ⟨y114,hy114⟩ : ∃ y_ : List Int,y_ = (([4,6,3,8,2,1,5] : List Int)):=⟨_,rfl⟩
 replace H : ((spec_l21Rd_num.f k s0_0 s0_1 y114).bind fun bt117 => ((spec_l21Rd_num.f k s0_0 bt117.2 (([5,8,12,3,0,20] : List Int))).bind fun bt125 => (spec_l7Cables.l0 k bt117.1 (([] : List (S83))) bt125.1 s0_0 bt125.2))) = some (r1,r2,r3):=by first|(rw [hy114];with_reducible exact H)|(have H2_:=(Option.bind_some _ _).symm.trans H;rw [hy114];with_reducible exact H2_)|(have H2_:=(Option.bind_some _ _).symm.trans H;with_reducible exact H2_)|with_reducible exact H|(rw [hy114];exact H)|exact H
 have Ny114:=mk_ hy114
 clear hy114
 replace H:=Option.bind_eq_some_iff.mp H
 obtain ⟨⟨t117,t118⟩,A20,H⟩:=H
 replace H : ((spec_l21Rd_num.f k s0_0 t118 (([5,8,12,3,0,20] : List Int))).bind fun bt125 => (spec_l7Cables.l0 k t117 (([] : List (S83))) bt125.1 s0_0 bt125.2)) = some (r1,r2,r3):=H
 have A2:=mk_ A20
 clear A20
 obtain ⟨y119,hy119⟩ : ∃ y_ : List (S83),y_ = (([] : List (S83))):=⟨_,rfl⟩
 replace H : ((spec_l21Rd_num.f k s0_0 t118 (([5,8,12,3,0,20] : List Int))).bind fun bt125 => (spec_l7Cables.l0 k t117 y119 bt125.1 s0_0 bt125.2)) = some (r1,r2,r3):=by first|(rw [hy119];with_reducible exact H)|(have H2_:=(Option.bind_some _ _).symm.trans H;rw [hy119];with_reducible exact H2_)|(have H2_:=(Option.bind_some _ _).symm.trans H;with_reducible exact H2_)|with_reducible exact H|(rw [hy119];exact H)|exact H
 have Ny119:=mk_ hy119
 clear hy119
 obtain ⟨y122,hy122⟩ : ∃ y_ : List Int,y_ = (([5,8,12,3,0,20] : List Int)):=⟨_,rfl⟩
 replace H : ((spec_l21Rd_num.f k s0_0 t118 y122).bind fun bt125 => (spec_l7Cables.l0 k t117 y119 bt125.1 s0_0 bt125.2)) = some (r1,r2,r3):=by first|(rw [hy122];with_reducible exact H)|(have H2_:=(Option.bind_some _ _).symm.trans H;rw [hy122];with_reducible exact H2_)|(have H2_:=(Option.bind_some _ _).symm.trans H;with_reducible exact H2_)|with_reducible exact H|(rw [hy122];exact H)|exact H
 have Ny122:=mk_ hy122
 clear hy122
 replace H:=Option.bind_eq_some_iff.mp H
 obtain ⟨⟨t125,t126⟩,A30,H⟩:=H
 replace H : (spec_l7Cables.l0 k t117 y119 t125 s0_0 t126) = some (r1,r2,r3):=H
 have A3:=mk_ A30
 clear A30
 have H':=mk_ H
 clear H
 go_enter Try.func60,Try.ntmps60
 go_wp2_with (first|((with_reducible refine gate_dst (N:=9) rfl ?_);refine Kd.R_lit (Kd.int .i64) _ 3 ?hg (N:=9) ?hd (xs:=([4,6,3,8,2,1,5] : List Int)) (inner:=[.int .i64 4,.int .i64 6,.int .i64 3,.int .i64 8,.int .i64 2,.int .i64 1,.int .i64 5]) (ok:=fun _ => True) (okp:=fun _ => True) ?hr ?hp (fun _ hk => hk) trivial (Below.refl _ _) (Nat.le_refl _) (by simp) ?_;(case hd => rfl);(case hg => rfl);(case hr => first|(go_simp;done)|(go_simp;rfl));(case hp => exact (Reps.one (show Kd.M (Kd.int .i64) _ _ _ 4 [.int .i64 4] from rfl) (Reps.one (show Kd.M (Kd.int .i64) _ _ _ 6 [.int .i64 6] from rfl) (Reps.one (show Kd.M (Kd.int .i64) _ _ _ 3 [.int .i64 3] from rfl) (Reps.one (show Kd.M (Kd.int .i64) _ _ _ 8 [.int .i64 8] from rfl) (Reps.one (show Kd.M (Kd.int .i64) _ _ _ 2 [.int .i64 2] from rfl) (Reps.one (show Kd.M (Kd.int .i64) _ _ _ 1 [.int .i64 1] from rfl) (Reps.one (show Kd.M (Kd.int .i64) _ _ _ 5 [.int .i64 5] from rfl) (Reps.none _ _)))))))));intro v115 w4 ho5 hb hg_ hnew_;clear hg_ hnew_;(first|rw [← Ny114.out] at ho5|(simp only [Int.reduceToNat] at ho5;rw [← Ny114.out] at ho5));have n0_:=mk_ (Kd.R_lower ho5 (keep_size (w:=w) (g:=g) (row:=none) (u3_ HK)));have n1_:=mk_ (IsS94.below (u2_ HI0) hb);have n2_:=mk_ (KeepBut.trans (u3_ HK) (KeepBut.of_below hb g none) (.inl rfl));have n3_:=mk_ (st_ (u4_ HB HI0) hb);clear HI0 HK HB;have HO116:=n0_;have HI0:=n1_;have HK:=n2_;have HB:=n3_;clear n0_ n1_ n2_ n3_ hb ho5;obtain ⟨Ao6,co6,eo6⟩:=Kd.R_slice HO116.out;subst eo6)|((with_reducible refine gate_callee (f:=61) rfl ?_);refine goesL_ (some 10) rfl rfl Try.func61 (by kernel_rfl) rfl #[.pointer (some ⟨g,0,none⟩),.slice Ao6 y114.length co6] rfl qm_ ?_;(with_reducible refine (spec_l21Rd_num.calls k g s0_0 s0_1 _ _ y114 t117 t118 w0 _ ?side1 ?side2 ?side3 ?side4 ?side5 A2.out).mono ?_);(case side1 => exact u2_ HI0);(case side2 => exact u4_ HB HI0);(case side3 => repeat (first|exact (rr_ HO116.out).2.2|(with_reducible refine ca_ ?_ _)|(with_reducible refine cn_ ?_ _)|(with_reducible refine cd_ ?_)));(case side4 => exact (rr_ HO116.out).2.1);(case side5 => exact far_slice (IsS94.own_ne HI0.out HO116.out (by decide)));rintro e w7 ⟨rfl,hi,hb,hk⟩;refine ⟨_,rfl,?_⟩;have n0_:=mk_ (rm_ (Kd.R_keep (IsS94.apart (show IsS94 w0 _ g s0_0 s0_1 from u2_ HI0) (qr_ HO116) (by decide)) hk (fun _ h => h.2)) (fun _ h => h.1));have n1_:=mk_ (KeepBut.trans (u3_ HK) hk (.inl rfl));have n2_:=mk_ (hb);have n3_:=mk_ (hi);clear HO116 HK HB HI0;have HO116:=n0_;have HK:=n1_;have HB:=n2_;have HI0:=n3_;clear n0_ n1_ n2_ n3_;(try clear hb);(try clear hb2);(try clear hk);(try clear hi))|((with_reducible refine gate_dst (N:=11) rfl ?_);refine Kd.R_lit k83 _ 83 ?hg (N:=11) ?hd (xs:=([] : List (S83))) (inner:=[]) (ok:=fun _ => True) (okp:=fun _ => True) ?hr ?hp (fun _ hk => hk) trivial (Below.refl _ _) (Nat.le_refl _) (by simp) ?_;(case hd => rfl);(case hg => rfl);(case hr => first|(go_simp;done)|(go_simp;rfl));(case hp => exact (Reps.none _ _));intro v120 w8 ho9 hb hg_ hnew_;clear hg_ hnew_;(first|rw [← Ny119.out] at ho9|(simp only [Int.reduceToNat] at ho9;rw [← Ny119.out] at ho9));have n0_:=mk_ (rb_ (qr_ HO116) hb);have n1_:=mk_ (Kd.R_lower ho9 (keep_size (w:=w) (g:=g) (row:=none) (u3_ HK)));have n2_:=mk_ (IsS94.below (u2_ HI0) hb);have n3_:=mk_ (KeepBut.trans (u3_ HK) (KeepBut.of_below hb g none) (.inl rfl));have n4_:=mk_ (st_ (u4_ HB HI0) hb);clear HO116 HI0 HK HB;have HO116:=n0_;have HO121:=n1_;have HI0:=n2_;have HK:=n3_;have HB:=n4_;clear n0_ n1_ n2_ n3_ n4_ hb ho9)|((with_reducible refine gate_dst (N:=13) rfl ?_);refine Kd.R_lit (Kd.int .i64) _ 3 ?hg (N:=13) ?hd (xs:=([5,8,12,3,0,20] : List Int)) (inner:=[.int .i64 5,.int .i64 8,.int .i64 12,.int .i64 3,.int .i64 0,.int .i64 20]) (ok:=fun _ => True) (okp:=fun _ => True) ?hr ?hp (fun _ hk => hk) trivial (Below.refl _ _) (Nat.le_refl _) (by simp) ?_;(case hd => rfl);(case hg => rfl);(case hr => first|(go_simp;done)|(go_simp;rfl));(case hp => exact (Reps.one (show Kd.M (Kd.int .i64) _ _ _ 5 [.int .i64 5] from rfl) (Reps.one (show Kd.M (Kd.int .i64) _ _ _ 8 [.int .i64 8] from rfl) (Reps.one (show Kd.M (Kd.int .i64) _ _ _ 12 [.int .i64 12] from rfl) (Reps.one (show Kd.M (Kd.int .i64) _ _ _ 3 [.int .i64 3] from rfl) (Reps.one (show Kd.M (Kd.int .i64) _ _ _ 0 [.int .i64 0] from rfl) (Reps.one (show Kd.M (Kd.int .i64) _ _ _ 20 [.int .i64 20] from rfl) (Reps.none _ _))))))));intro v123 w10 ho11 hb hg_ hnew_;clear hg_ hnew_;(first|rw [← Ny122.out] at ho11|(simp only [Int.reduceToNat] at ho11;rw [← Ny122.out] at ho11));have n0_:=mk_ (re_ (qr_ HO116) (Kd.R_base ho11) hb);have n1_:=mk_ (rb_ (qr_ HO121) hb);have n2_:=mk_ (Kd.R_lower (Kd.R_new' ho11 (Kd.R_lt (qr_ HO116))) (keep_size (w:=w) (g:=g) (row:=none) (u3_ HK)));have n3_:=mk_ (IsS94.below (u2_ HI0) hb);have n4_:=mk_ (KeepBut.trans (u3_ HK) (KeepBut.of_below hb g none) (.inl rfl));have n5_:=mk_ (st_ (u4_ HB HI0) hb);clear HO116 HO121 HI0 HK HB;have HO116:=n0_;have HO121:=n1_;have HO124:=n2_;have HI0:=n3_;have HK:=n4_;have HB:=n5_;clear n0_ n1_ n2_ n3_ n4_ n5_ hb ho11;obtain ⟨Ao12,co12,eo12⟩:=Kd.R_slice HO124.out;subst eo12)|((with_reducible refine gate_callee (f:=61) rfl ?_);refine goesL_ (some 14) rfl rfl Try.func61 (by kernel_rfl) rfl #[.pointer (some ⟨g,0,none⟩),.slice Ao12 y122.length co12] rfl qm_ ?_;(with_reducible refine (spec_l21Rd_num.calls k g s0_0 t118 _ _ y122 t125 t126 w0 _ ?side1 ?side2 ?side3 ?side4 ?side5 A3.out).mono ?_);(case side1 => exact u2_ HI0);(case side2 => exact u4_ HB HI0);(case side3 => repeat (first|exact (rr_ HO124.out).2.2|(with_reducible refine ca_ ?_ _)|(with_reducible refine cn_ ?_ _)|(with_reducible refine cd_ ?_)));(case side4 => exact (rr_ HO124.out).2.1);(case side5 => exact far_slice (IsS94.own_ne HI0.out HO124.out (by decide)));rintro e w13 ⟨rfl,hi,hb,hk⟩;refine ⟨_,rfl,?_⟩;have n0_:=mk_ (rm_ (Kd.R_keep (IsS94.apart (show IsS94 w0 _ g s0_0 t118 from u2_ HI0) (qr_ HO116) (by decide)) hk (fun _ h => h.2)) (fun _ h => h.1));have n1_:=mk_ (rm_ (Kd.R_keep (IsS94.apart (show IsS94 w0 _ g s0_0 t118 from u2_ HI0) (qr_ HO121) (by decide)) hk (fun _ h => h.2)) (fun _ h => h.1));have n2_:=mk_ (rm_ (Kd.R_keep (IsS94.apart (show IsS94 w0 _ g s0_0 t118 from u2_ HI0) (qr_ HO124) (by decide)) hk (fun _ h => h.2)) (fun _ h => h.1));have n3_:=mk_ (KeepBut.trans (u3_ HK) hk (.inl rfl));have n4_:=mk_ (hb);have n5_:=mk_ (hi);clear HO116 HO121 HO124 HK HB HI0;have HO116:=n0_;have HO121:=n1_;have HO124:=n2_;have HK:=n3_;have HB:=n4_;have HI0:=n5_;clear n0_ n1_ n2_ n3_ n4_ n5_;(try clear hb);(try clear hb2);(try clear hk);(try clear hi)))
 go_loopg [5,6] k (fun kq v5 v6 w' => ∃ (x5_1 : List (S83)) (x6_1 : Int) (x1001_1 : Int),v6 = .int .i64 x6_1 ∧ Aside0 (spec_l7Cables.l0 kq t117 x5_1 x6_1 s0_0 x1001_1 = some (r1,r2,r3)) ∧ Aside0 (kq ≤ k) ∧ Aside0 (Kd.R k83 83 w' w.heap.size (fun _ => True) v5 x5_1) ∧ Aside0 (IsS94 w0 w' g s0_0 x1001_1) ∧ Aside0 (KeepBut w w' g none) ∧ Aside0 (Below w0.heap.size w0 w'))
 case atStart => exact ⟨(y119),(t125),(t126),qf_,H',⟨Nat.le_refl _⟩,⟨qr_ HO121⟩,⟨u2_ HI0⟩,⟨u3_ HK⟩,⟨u4_ HB HI0⟩⟩
 case round =>
  clear H'
  try clear p2
  try clear c6
  obtain ⟨x5_1,x6_1,x1001_1,rfl,HA,HK1,HO_5,HI0,HK,HB⟩:=hrel
  cases gk with
  | zero => exact absurd HA.out (by simp [spec_l7Cables.l0])
  | succ k1 =>
   have H:=HA.out
   clear HA
   simp only [spec_l7Cables.l0] at H
   have HC14:=mk_ H
   clear H
   go_upto_region 4 with (fail)
   go_cut [20] (fun v20 wc => ∃ (kq : Nat) (x20_13 : Bool),v20 = .bool x20_13 ∧ Aside0 (spec_l7Cables.j1 kq t117 x5_1 x6_1 x20_13 s0_0 x1001_1 = some (r1,r2,r3)) ∧ Aside0 (kq ≤ k1) ∧ Aside0 (Kd.R k83 83 wc w.heap.size (fun _ => True) u5 x5_1) ∧ Aside0 (IsS94 w0 wc g s0_0 x1001_1) ∧ Aside0 (KeepBut w wc g none) ∧ Aside0 (Below w0.heap.size w0 wc))
   case first =>
    have H:=HC14.out
    clear HC14
    by_cases c15 : x6_1 > 0
    ·rw [if_pos c15] at H
     have c15b0 : decide (0 < x6_1) = true:=decide_eq_true c15
     clear c15
     (first|rw [c15b0]|(simp only [i64_w,i32_w];rw [c15b0])|skip)
     have H':=mk_ H
     clear H
     go_wp2
     go_meet
     case rel => exact ⟨_,(decide (t117 > 1)),qf_,H',⟨by have:=HK1.out;first|omega|exact Nat.le_refl _⟩,⟨qr_ HO_5⟩,⟨u2_ HI0⟩,⟨u3_ HK⟩,⟨u4_ HB HI0⟩⟩
    ·rw [if_neg c15] at H
     have c15b0 : decide (0 < x6_1) = false:=decide_eq_false c15
     clear c15
     (first|rw [c15b0]|(simp only [i64_w,i32_w];rw [c15b0])|skip)
     have H':=mk_ H
     clear H
     go_wp2
     go_meet
     case rel => exact ⟨_,(false),qf_,H',⟨by have:=HK1.out;first|omega|exact Nat.le_refl _⟩,⟨qr_ HO_5⟩,⟨u2_ HI0⟩,⟨u3_ HK⟩,⟨u4_ HB HI0⟩⟩
   case rest =>
    clear HC14
    try clear c1
    try clear p2
    try clear c6
    try clear c15
    try clear c15b0
    try clear p2
    obtain ⟨kq,x20_13,rfl,HA,HJ13,HO_5,HI0,HK,HB⟩:=hcut
    cases kq with
    | zero => exact absurd HA.out (by simp [spec_l7Cables.j1])
    | succ kj13 =>
     have H:=HA.out
     clear HA
     simp only [spec_l7Cables.j1] at H
     by_cases c16 : x20_13 = true
     ·subst c16
      have H1 : ((spec_l21Rd_pick.f kj13 s0_0 x1001_1 t117).bind fun bt127 => ((spec_l21Rd_pick.f kj13 s0_0 bt127.2 (wrap64 (t117 - 1))).bind fun bt129 => (if t117 = 0 then (none) else ((spec_l21Rd_num.f kj13 s0_0 bt129.2 (([1,1,2,5,10,99] : List Int))).bind fun bt134 => (if x5_1.length < 5864062014805 then (spec_l7Cables.l0 kj13 t117 (x5_1 ++ [(⟨bt127.1,Int.tmod (wrap64 ((wrap64 (bt127.1 + 1)) + bt129.1)) t117,bt134.1⟩ : S83)]) (wrap64 (x6_1 - 1)) s0_0 bt134.2) else (none)))))) = some (r1,r2,r3):=by rw [if_pos rfl] at H;exact H
      clear H
      have H:=H1
      clear H1
      replace H:=Option.bind_eq_some_iff.mp H
      obtain ⟨⟨t127,t128⟩,A170,H⟩:=H
      replace H : ((spec_l21Rd_pick.f kj13 s0_0 t128 (wrap64 (t117 - 1))).bind fun bt129 => (if t117 = 0 then (none) else ((spec_l21Rd_num.f kj13 s0_0 bt129.2 (([1,1,2,5,10,99] : List Int))).bind fun bt134 => (if x5_1.length < 5864062014805 then (spec_l7Cables.l0 kj13 t117 (x5_1 ++ [(⟨t127,Int.tmod (wrap64 ((wrap64 (t127 + 1)) + bt129.1)) t117,bt134.1⟩ : S83)]) (wrap64 (x6_1 - 1)) s0_0 bt134.2) else (none))))) = some (r1,r2,r3):=H
      have A17:=mk_ A170
      clear A170
      replace H:=Option.bind_eq_some_iff.mp H
      obtain ⟨⟨t129,t130⟩,A180,H⟩:=H
      replace H : (if t117 = 0 then (none) else ((spec_l21Rd_num.f kj13 s0_0 t130 (([1,1,2,5,10,99] : List Int))).bind fun bt134 => (if x5_1.length < 5864062014805 then (spec_l7Cables.l0 kj13 t117 (x5_1 ++ [(⟨t127,Int.tmod (wrap64 ((wrap64 (t127 + 1)) + t129)) t117,bt134.1⟩ : S83)]) (wrap64 (x6_1 - 1)) s0_0 bt134.2) else (none)))) = some (r1,r2,r3):=H
      have A18:=mk_ A180
      clear A180
      by_cases c19 : t117 = 0
      ·rw [if_pos c19] at H
       exact absurd H (by simp)
      ·rw [if_neg c19] at H
       have c19b0 : (t117 == 0) = false:=beq_eq_false_iff_ne.mpr c19
       have c19b1 : (t117 != 0) = true:=bne_iff_ne.mpr c19
       obtain ⟨y131,hy131⟩ : ∃ y_ : List Int,y_ = (([1,1,2,5,10,99] : List Int)):=⟨_,rfl⟩
       replace H : ((spec_l21Rd_num.f kj13 s0_0 t130 y131).bind fun bt134 => (if x5_1.length < 5864062014805 then (spec_l7Cables.l0 kj13 t117 (x5_1 ++ [(⟨t127,Int.tmod (wrap64 ((wrap64 (t127 + 1)) + t129)) t117,bt134.1⟩ : S83)]) (wrap64 (x6_1 - 1)) s0_0 bt134.2) else (none))) = some (r1,r2,r3):=by first|(rw [hy131];with_reducible exact H)|(have H2_:=(Option.bind_some _ _).symm.trans H;rw [hy131];with_reducible exact H2_)|(have H2_:=(Option.bind_some _ _).symm.trans H;with_reducible exact H2_)|with_reducible exact H|(rw [hy131];exact H)|exact H
       have Ny131:=mk_ hy131
       clear hy131
       replace H:=Option.bind_eq_some_iff.mp H
       obtain ⟨⟨t134,t135⟩,A200,H⟩:=H
       replace H : (if x5_1.length < 5864062014805 then (spec_l7Cables.l0 kj13 t117 (x5_1 ++ [(⟨t127,Int.tmod (wrap64 ((wrap64 (t127 + 1)) + t129)) t117,t134⟩ : S83)]) (wrap64 (x6_1 - 1)) s0_0 t135) else (none)) = some (r1,r2,r3):=H
       have A20:=mk_ A200
       clear A200
       by_cases c21 : x5_1.length < 5864062014805
       ·rw [if_pos c21] at H
        have LMc21:=mk_ c21
        clear c21
        obtain ⟨y136,hy136⟩ : ∃ y_ : List (S83),y_ = (x5_1 ++ [(⟨t127,Int.tmod (wrap64 ((wrap64 (t127 + 1)) + t129)) t117,t134⟩ : S83)]):=⟨_,rfl⟩
        replace H : (spec_l7Cables.l0 kj13 t117 y136 (wrap64 (x6_1 - 1)) s0_0 t135) = some (r1,r2,r3):=by first|(rw [hy136];with_reducible exact H)|(have H2_:=(Option.bind_some _ _).symm.trans H;rw [hy136];with_reducible exact H2_)|(have H2_:=(Option.bind_some _ _).symm.trans H;with_reducible exact H2_)|with_reducible exact H|(rw [hy136];exact H)|exact H
        have Ny136:=mk_ hy136
        clear hy136
        have H':=mk_ H
        clear H
        try go_wp2_with (first|((with_reducible refine gate_callee (f:=62) rfl ?_);refine goesL_ (some 25) rfl rfl Try.func62 (by kernel_rfl) rfl #[.pointer (some ⟨g,0,none⟩),.int .i64 t117] rfl qm_ ?_;(with_reducible refine (spec_l21Rd_pick.calls kj13 g s0_0 x1001_1 t117 t127 t128 w0 _ ?side1 ?side2 A17.out).mono ?_);(case side1 => exact u2_ HI0);(case side2 => exact u4_ HB HI0);rintro e w22 ⟨rfl,hi,hb,hk⟩;refine ⟨_,rfl,?_⟩;have n0_:=mk_ (rm_ (Kd.R_keep (IsS94.apart (show IsS94 w0 _ g s0_0 x1001_1 from u2_ HI0) (qr_ HO_5) (by decide)) hk (fun _ h => h.2)) (fun _ h => h.1));have n1_:=mk_ (KeepBut.trans (u3_ HK) hk (.inl rfl));have n2_:=mk_ (hb);have n3_:=mk_ (hi);clear HO_5 HK HB HI0;have HO_5:=n0_;have HK:=n1_;have HB:=n2_;have HI0:=n3_;clear n0_ n1_ n2_ n3_;(try clear hb);(try clear hb2);(try clear hk);(try clear hi);obtain ⟨Ao23,co23,eo23⟩:=Kd.R_slice HO_5.out;subst eo23))
        have n0_:=mk_ (rd_ HO_5.out)
        have n1_:=mk_ (IsS94.drew HI0.out)
        have n2_:=mk_ (keep_drew HK.out)
        have n3_:=mk_ (bd_ HB.out)
        clear HO_5
        clear HI0
        clear HK
        clear HB
        have HO_5:=n0_
        have HI0:=n1_
        have HK:=n2_
        have HB:=n3_
        clear n0_ n1_ n2_ n3_
        refine start_ (n:=18) (S:=fun w' => True) (ds:=[]) #[false,false,false,false,false,false,false,false,false,false,false,false,false,false,false,false,false,false] (by kernel_rfl) rfl rfl trivial (fun hHeld => ?_);refine with_tabW spec_l7Cables.tab7 spec_l7Cables.bits7 (fun HT_ HW_ => ?_)
        generalize w22.drew = w24 at HO_5 HI0 HK HB hHeld ⊢
        refine pu_ (i:=0) (N:=some 26) 18 1 ?_
        refine pu_ (i:=1) (N:=some 27) 18 3 ?_
        refine pu_ (i:=2) (N:=some 28) 18 7 ?_
        refine pu_ (i:=3) (N:=some 29) 18 15 ?_
        refine pu_ (i:=4) (N:=some 30) 18 31 ?_
        refine pu_ (i:=5) (N:=some 31) 18 63 ?_
        refine pu_ (i:=6) (N:=some 32) 18 127 ?_
        refine pu_ (i:=9) (N:=some 35) 18 639 ?_
        refine pu_ (i:=11) (N:=some 37) 18 2687 ?_
        refine join_ (σ:=Value) 5 #[true,true,true,true,true,true,true,true,true,true,true,true,true,false,false,false,false,false] (fun s_ => [(33,.int .i64 t129),(38,s_),(34,.int .i64 (wrap64 ((wrap64 (t127 + 1)) + t129))),(36,.int .i64 (Int.tmod (wrap64 ((wrap64 (t127 + 1)) + t129)) t117))]) (fun s_ w' => (Kd.R (Kd.int .i64) 3 w' w.heap.size (fun _ => True) s_ y131) ∧ (Kd.R k83 83 w' w.heap.size (fun _ => True) (.slice Ao23 x5_1.length co23) x5_1) ∧ (IsS94 w0 w' g s0_0 t130) ∧ (KeepBut w w' g none) ∧ (Below w0.heap.size w0 w')) ?_ ?_
        rotate_left
        ·intro hCont
         refine two_ (i:=7) (j:=12) (Ni:=some 33) (Nj:=some 38) #[true,true,true,true,true,true,true,true,false,true,false,true,false,false,false,false,false,false] #[true,true,true,true,true,true,true,false,false,true,false,true,true,false,false,false,false,false] rfl rfl rfl rfl (two_of HT_.out (by kernel_rfl)) (by decide) (by decide) (fun K hK => ?_) (fun K hK => ?_)
         ·skip
          refine goes_ Try.func62 (by kernel_rfl) rfl #[.pointer (some ⟨g,0,none⟩),.int .i64 (wrap64 (t117 - 1))] (by rfl) rfl rfl qm_ ?_
          with_reducible refine (spec_l21Rd_pick.calls kj13 g s0_0 t128 (wrap64 (t117 - 1)) t129 t130 w0 _ ?side1 ?side2 A18.out).mono ?_
          (case side1 => exact u2_ HI0)
          (case side2 => exact u4_ HB HI0)
          rintro e w25 ⟨rfl,hi,hb,hk⟩
          refine ⟨_,rfl,?_⟩
          have n0_:=mk_ (rm_ (Kd.R_keep (IsS94.apart (show IsS94 w0 _ g s0_0 t128 from u2_ HI0) (qr_ HO_5) (by decide)) hk (fun _ h => h.2)) (fun _ h => h.1))
          have n1_:=mk_ (KeepBut.trans (u3_ HK) hk (.inl rfl))
          have n2_:=mk_ (hb)
          have n3_:=mk_ (hi)
          clear HO_5
          clear HK
          clear HB
          clear HI0
          have HO_5:=n0_
          have HK:=n1_
          have HB:=n2_
          have HI0:=n3_
          clear n0_ n1_ n2_ n3_
          (try clear hb)
          (try clear hb2)
          (try clear hk)
          (try clear hi)
          refine hK.out _ _ trivial (fun hHeld => ?_)
          clear hK K
          refine norm_ (a':=?_) ?_ ?_
          rotate_left
          ·show Act.put _ (some 33) _ = _
           simp only [Act.put,sx_,sy_,sz_,i64_w,i32_w]
           rfl
          refine pu_ (i:=8) (N:=some 34) 18 3071 ?_
          refine pu_ (i:=10) (N:=some 36) 18 4095 ?_
          refine on_ (i:=12) (N:=some 38) 18 8191 (fun K hK => ?_)
          refine Kd.R_lit_step (Kd.int .i64) _ 3 ?hg (N:=38) ?hd (xs:=([1,1,2,5,10,99] : List Int)) (inner:=[.int .i64 1,.int .i64 1,.int .i64 2,.int .i64 5,.int .i64 10,.int .i64 99]) (ok:=fun _ => True) (okp:=fun _ => True) ?hr ?hp (fun _ hk => hk) trivial (Below.refl _ _) (Nat.le_refl _) (by simp) ?_;(case hd => rfl);(case hg => rfl);(case hr => first|(go_simp;done)|(go_simp;rfl));(case hp => exact (Reps.one (show Kd.M (Kd.int .i64) _ _ _ 1 [.int .i64 1] from rfl) (Reps.one (show Kd.M (Kd.int .i64) _ _ _ 1 [.int .i64 1] from rfl) (Reps.one (show Kd.M (Kd.int .i64) _ _ _ 2 [.int .i64 2] from rfl) (Reps.one (show Kd.M (Kd.int .i64) _ _ _ 5 [.int .i64 5] from rfl) (Reps.one (show Kd.M (Kd.int .i64) _ _ _ 10 [.int .i64 10] from rfl) (Reps.one (show Kd.M (Kd.int .i64) _ _ _ 99 [.int .i64 99] from rfl) (Reps.none _ _))))))))
          intro v132 w26 ho27 hb hg_ hnew_
          clear hg_ hnew_
          (first|rw [← Ny131.out] at ho27|(simp only [Int.reduceToNat] at ho27;rw [← Ny131.out] at ho27))
          have n0_:=mk_ (rb_ (qr_ HO_5) hb)
          have n1_:=mk_ (Kd.R_lower ho27 (keep_size (w:=w) (g:=g) (row:=none) (u3_ HK)))
          have n2_:=mk_ (IsS94.below (u2_ HI0) hb)
          have n3_:=mk_ (KeepBut.trans (u3_ HK) (KeepBut.of_below hb g none) (.inl rfl))
          have n4_:=mk_ (st_ (u4_ HB HI0) hb)
          clear HO_5
          clear HI0
          clear HK
          clear HB
          have HO_5:=n0_
          have HO133:=n1_
          have HI0:=n2_
          have HK:=n3_
          have HB:=n4_
          clear n0_ n1_ n2_ n3_ n4_
          clear hb ho27
          refine hK.out _ _ trivial (fun hHeld => ?_)
          clear hK K
          refine norm_ (a':=?_) ?_ ?_
          rotate_left
          ·show Act.put _ (some 38) _ = _
           simp only [Act.put,sx_,sy_,sz_,i64_w,i32_w]
           rfl
          exact norm_ (by simp only [putAll,Act.put,sx_,sy_,sz_]) (hCont (v132) _ ⟨(qr_ HO133),(qr_ HO_5),(u2_ HI0),(u3_ HK),(u4_ HB HI0)⟩)
         ·skip
          refine Kd.R_lit_step (Kd.int .i64) _ 3 ?hg (N:=38) ?hd (xs:=([1,1,2,5,10,99] : List Int)) (inner:=[.int .i64 1,.int .i64 1,.int .i64 2,.int .i64 5,.int .i64 10,.int .i64 99]) (ok:=fun _ => True) (okp:=fun _ => True) ?hr ?hp (fun _ hk => hk) trivial (Below.refl _ _) (Nat.le_refl _) (by simp) ?_;(case hd => rfl);(case hg => rfl);(case hr => first|(go_simp;done)|(go_simp;rfl));(case hp => exact (Reps.one (show Kd.M (Kd.int .i64) _ _ _ 1 [.int .i64 1] from rfl) (Reps.one (show Kd.M (Kd.int .i64) _ _ _ 1 [.int .i64 1] from rfl) (Reps.one (show Kd.M (Kd.int .i64) _ _ _ 2 [.int .i64 2] from rfl) (Reps.one (show Kd.M (Kd.int .i64) _ _ _ 5 [.int .i64 5] from rfl) (Reps.one (show Kd.M (Kd.int .i64) _ _ _ 10 [.int .i64 10] from rfl) (Reps.one (show Kd.M (Kd.int .i64) _ _ _ 99 [.int .i64 99] from rfl) (Reps.none _ _))))))))
          intro v132 w25 ho26 hb hg_ hnew_
          clear hg_ hnew_
          (first|rw [← Ny131.out] at ho26|(simp only [Int.reduceToNat] at ho26;rw [← Ny131.out] at ho26))
          have n0_:=mk_ (rb_ (qr_ HO_5) hb)
          have n1_:=mk_ (Kd.R_lower ho26 (keep_size (w:=w) (g:=g) (row:=none) (u3_ HK)))
          have n2_:=mk_ (IsS94.below (u2_ HI0) hb)
          have n3_:=mk_ (KeepBut.trans (u3_ HK) (KeepBut.of_below hb g none) (.inl rfl))
          have n4_:=mk_ (st_ (u4_ HB HI0) hb)
          clear HO_5
          clear HI0
          clear HK
          clear HB
          have HO_5:=n0_
          have HO133:=n1_
          have HI0:=n2_
          have HK:=n3_
          have HB:=n4_
          clear n0_ n1_ n2_ n3_ n4_
          clear hb ho26
          refine hK.out _ _ trivial (fun hHeld => ?_)
          clear hK K
          refine norm_ (a':=?_) ?_ ?_
          rotate_left
          ·show Act.put _ (some 38) _ = _
           simp only [Act.put,sx_,sy_,sz_,i64_w,i32_w]
           rfl
          refine on_ (i:=7) (N:=some 33) 18 6911 (fun K hK => ?_)
          refine goes_ Try.func62 (by kernel_rfl) rfl #[.pointer (some ⟨g,0,none⟩),.int .i64 (wrap64 (t117 - 1))] (by rfl) rfl rfl qm_ ?_
          with_reducible refine (spec_l21Rd_pick.calls kj13 g s0_0 t128 (wrap64 (t117 - 1)) t129 t130 w0 _ ?side1 ?side2 A18.out).mono ?_
          (case side1 => exact u2_ HI0)
          (case side2 => exact u4_ HB HI0)
          rintro e w27 ⟨rfl,hi,hb,hk⟩
          refine ⟨_,rfl,?_⟩
          have n0_:=mk_ (rm_ (Kd.R_keep (IsS94.apart (show IsS94 w0 _ g s0_0 t128 from u2_ HI0) (qr_ HO_5) (by decide)) hk (fun _ h => h.2)) (fun _ h => h.1))
          have n1_:=mk_ (rm_ (Kd.R_keep (IsS94.apart (show IsS94 w0 _ g s0_0 t128 from u2_ HI0) (qr_ HO133) (by decide)) hk (fun _ h => h.2)) (fun _ h => h.1))
          have n2_:=mk_ (KeepBut.trans (u3_ HK) hk (.inl rfl))
          have n3_:=mk_ (hb)
          have n4_:=mk_ (hi)
          clear HO_5
          clear HO133
          clear HK
          clear HB
          clear HI0
          have HO_5:=n0_
          have HO133:=n1_
          have HK:=n2_
          have HB:=n3_
          have HI0:=n4_
          clear n0_ n1_ n2_ n3_ n4_
          (try clear hb)
          (try clear hb2)
          (try clear hk)
          (try clear hi)
          refine hK.out _ _ trivial (fun hHeld => ?_)
          clear hK K
          refine norm_ (a':=?_) ?_ ?_
          rotate_left
          ·show Act.put _ (some 33) _ = _
           simp only [Act.put,sx_,sy_,sz_,i64_w,i32_w]
           rfl
          refine pu_ (i:=8) (N:=some 34) 18 7167 ?_
          refine pu_ (i:=10) (N:=some 36) 18 8191 ?_
          exact norm_ (by simp only [putAll,Act.put,sx_,sy_,sz_]) (hCont (v132) _ ⟨(qr_ HO133),(qr_ HO_5),(u2_ HI0),(u3_ HK),(u4_ HB HI0)⟩)
        rintro v132 w28 ⟨h0_,h1_,h2_,h3_,h4_⟩
        have n0_ : Aside0 (Kd.R (Kd.int .i64) 3 w28 w.heap.size (fun _ => True) v132 y131):=⟨h0_⟩
        have n1_ : Aside0 (Kd.R k83 83 w28 w.heap.size (fun _ => True) (.slice Ao23 x5_1.length co23) x5_1):=⟨h1_⟩
        have n2_ : Aside0 (IsS94 w0 w28 g s0_0 t130):=⟨h2_⟩
        have n3_ : Aside0 (KeepBut w w28 g none):=⟨h3_⟩
        have n4_ : Aside0 (Below w0.heap.size w0 w28):=⟨h4_⟩
        clear HO_5
        clear HI0
        clear HK
        clear HB
        clear h0_ h1_ h2_ h3_ h4_
        have HO133:=n0_
        have HO_5:=n1_
        have HI0:=n2_
        have HK:=n3_
        have HB:=n4_
        clear n0_ n1_ n2_ n3_ n4_
        have hHeld:=trivial
        obtain ⟨Ao29,co29,eo29⟩:=Kd.R_slice HO133.out
        (first|subst eo29|(injection eo29 with f1_ f2_ f3_;have f4_:=f1_.symm;have f5_:=f3_.symm;clear f1_ f2_ f3_;subst f4_;subst f5_))
        refine norm_ (a':=?_) ?_ ?_
        rotate_left
        ·simp only [putAll,Act.put,sx_,sy_,sz_]
         rfl
        refine on_ (i:=13) (N:=some 39) 18 16383 (fun K hK => ?_)
        refine goes_ Try.func61 (by kernel_rfl) rfl #[.pointer (some ⟨g,0,none⟩),.slice Ao29 y131.length co29] (by rfl) rfl rfl qm_ ?_
        with_reducible refine (spec_l21Rd_num.calls kj13 g s0_0 t130 _ _ y131 t134 t135 w0 _ ?side1 ?side2 ?side3 ?side4 ?side5 A20.out).mono ?_
        (case side1 => exact u2_ HI0)
        (case side2 => exact u4_ HB HI0)
        (case side3 => repeat (first|exact (rr_ HO133.out).2.2|(with_reducible refine ca_ ?_ _)|(with_reducible refine cn_ ?_ _)|(with_reducible refine cd_ ?_)))
        (case side4 => exact (rr_ HO133.out).2.1)
        (case side5 => exact far_slice (IsS94.own_ne HI0.out HO133.out (by decide)))
        rintro e w30 ⟨rfl,hi,hb,hk⟩
        refine ⟨_,rfl,?_⟩
        have n0_:=mk_ (rm_ (Kd.R_keep (IsS94.apart (show IsS94 w0 _ g s0_0 t130 from u2_ HI0) (qr_ HO_5) (by decide)) hk (fun _ h => h.2)) (fun _ h => h.1))
        have n1_:=mk_ (rm_ (Kd.R_keep (IsS94.apart (show IsS94 w0 _ g s0_0 t130 from u2_ HI0) (qr_ HO133) (by decide)) hk (fun _ h => h.2)) (fun _ h => h.1))
        have n2_:=mk_ (KeepBut.trans (u3_ HK) hk (.inl rfl))
        have n3_:=mk_ (hb)
        have n4_:=mk_ (hi)
        clear HO_5
        clear HO133
        clear HK
        clear HB
        clear HI0
        have HO_5:=n0_
        have HO133:=n1_
        have HK:=n2_
        have HB:=n3_
        have HI0:=n4_
        clear n0_ n1_ n2_ n3_ n4_
        (try clear hb)
        (try clear hb2)
        (try clear hk)
        (try clear hi)
        refine hK.out _ _ trivial (fun hHeld => ?_)
        clear hK K
        refine norm_ (a':=?_) ?_ ?_
        rotate_left
        ·show Act.put _ (some 39) _ = _
         simp only [Act.put,sx_,sy_,sz_,i64_w,i32_w]
         rfl
        refine pu_ (i:=14) (N:=some 40) 18 32767 ?_
        refine on_ (i:=15) (N:=some 41) 18 65535 (fun K hK => ?_)
        refine value_ (w1:=?_) (v:=?_) (by rfl) rfl ?_ ?_
        rotate_left 2
        ·go_simp
         constructor
         ·rfl
         ·rfl
        refine hK.out _ _ trivial (fun hHeld => ?_)
        clear hK K
        refine norm_ (a':=?_) ?_ ?_
        rotate_left
        ·show Act.put _ (some 41) _ = _
         simp only [Act.put,sx_,sy_,sz_,i64_w,i32_w]
         rfl
        refine on_ (i:=16) (N:=some 42) 18 131071 (fun K hK => ?_)
        refine Kd.R_append_step k83 w.heap.size (by rfl) (.tmp 26) (.tmp 41) 23 83 (.agg #[(.int .i64 0),(.int .i64 0),(.int .i64 0)]) 24 rfl Try.underlying23 info83 rfl (by decide) (by omega) (.slice Ao23 x5_1.length co23) x5_1 (⟨t127,Int.tmod (wrap64 ((wrap64 (t127 + 1)) + t129)) t117,t134⟩ : S83) [.int .i64 t127,.int .i64 (Int.tmod (wrap64 ((wrap64 (t127 + 1)) + t129)) t117),.int .i64 t134] (fun _ => True) (fun _ => False) rfl rfl ?aP (fun _ hk => hk.elim) ?aF ?aO (Below.refl _ _) ?aS ?aL ?_
        (case aP => exact k83_mkM _ _ _ (⟨t127,Int.tmod (wrap64 ((wrap64 (t127 + 1)) + t129)) t117,t134⟩ : S83))
        (case aF => exact (fun _ _ => trivial))
        (case aO => exact (qr_ HO_5))
        (case aS => exact (keep_size (w:=w) (g:=g) (row:=none) (u3_ HK)))
        (case aL => have:=LMc21.out;omega)
        intro v137 w31 ho hb hg hat
        rw [← Ny136.out] at ho
        have n0_:=mk_ (IsS94.grown (u2_ HI0) hg (IsS94.own_ne HI0.out HO_5.out (by decide)))
        have n1_:=mk_ (Kd.R_over' (qr_ HO133) (Kd.R_typed (qr_ HO_5)) (by decide) hg)
        have n2_:=mk_ (below_weaken (u4_ HB HI0) HL.out hb)
        have n3_:=mk_ (KeepBut.trans (u3_ HK) (KeepBut.of_grown hg g) (Kd.R_base2 HO_5.out))
        have n4_:=mk_ (ho)
        clear HI0
        clear HO133
        clear HB
        clear HK
        clear HO_5
        have HI0:=n0_
        have HO133:=n1_
        have HB:=n2_
        have HK:=n3_
        have HO138:=n4_
        clear n0_ n1_ n2_ n3_ n4_
        clear ho hb hg hat
        refine hK.out _ _ trivial (fun hHeld => ?_)
        clear hK K
        refine norm_ (a':=?_) ?_ ?_
        rotate_left
        ·show Act.put _ (some 42) _ = _
         simp only [Act.put,sx_,sy_,sz_,i64_w,i32_w]
         rfl
        refine pu_ (i:=17) (N:=some 5) 18 262143 ?_
        refine done_ (done_of HT_.out (by kernel_rfl)) ?_
        try go_wp2
        go_roundg kj13
        case measure => have:=HK1.out;have:=HJ13.out;omega
        case rel => exact ⟨(y136),(wrap64 (x6_1 - 1)),(t135),qf_,H',⟨by have:=HK1.out;have:=HJ13.out;omega⟩,⟨qr_ HO138⟩,⟨u2_ HI0⟩,⟨u3_ HK⟩,⟨u4_ HB HI0⟩⟩
       ·rw [if_neg c21] at H
        exact absurd H (by simp)
     ·replace c16:=Bool.eq_false_iff.mpr c16
      subst c16
      have H1 : (some (t117,x5_1,x1001_1)) = some (r1,r2,r3):=by rw [if_neg (show ¬ (false = true) by decide)] at H;exact H
      clear H
      have H:=H1
      clear H1
      simp only [Option.some.injEq,Prod.mk.injEq] at H
      obtain ⟨rfl,rfl,rfl⟩:=H
      go_wp2
      go_ret2
      exact ⟨_,qe_,qr_ HO_5,u2_ HI0,u4_ HB HI0,u3_ HK⟩
end Go.Proofs.Ytblcnbnphjnhdaa.PAll

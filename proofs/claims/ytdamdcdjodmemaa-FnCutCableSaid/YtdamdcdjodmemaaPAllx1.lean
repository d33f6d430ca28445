/- Proved here: contracts of functions of the given program, or lemmas on them, for the laws of this seat. Written by xprint.py, a program of this session, on the ground of the kit's print; parts by hand: wip/x/ext. -/
import Derived.Test.YtdamdcdjodmemaaPAllx0
namespace Go.Proofs.Ytdamdcdjodmemaa.PAll
open Go.RowKit Go.Proofs.YtdamdcdjodmemaaW.PrintWords Go.Proofs.YtdamdcdjodmemaaW.PrintLast Go.Proofs.YtdamdcdjodmemaaW.PrintMore
attribute [local go_sem] max2_int min2_int max_two min_two max_three min_three max_four min_four   -- for this text's walks alone
set_option linter.unusedVariables false
set_option linter.unusedSimpArgs false

/-! ### impl_within: function 48 -/
def impl_within.f (a0 : Int) (a1 : Int) (a2 : Int) : Option (Bool):=if a1 ≤ a0 then (some (decide (a0 ≤ a2))) else (some false)
set_option maxHeartbeats 8000000 in
set_option maxRecDepth 100000 in
theorem impl_within.calls (a0 : Int) (a1 : Int) (a2 : Int) (r : Bool) (w : World) (h : impl_within.f a0 a1 a2 = some r) :
  Calls Try.prog 48 #[.int .i64 a0,.int .i64 a1,.int .i64 a2] w fun e w' => e = .returned (.bool r) ∧ Drawn0 w w':=by
 have H : (if a1 ≤ a0 then (some (decide (a0 ≤ a2))) else (some false)) = some r:=h
 clear h
 by_cases c4 : a1 ≤ a0
 ·rw [if_pos c4] at H
  have c4b0 : decide (a1 ≤ a0) = true:=decide_eq_true c4
  clear c4
  obtain rfl:=Option.some.inj H
  go_enter Try.func48,Try.ntmps48
  go_wp2
  go_ret
  exact ⟨by first|rfl|(simp;done)|(simp [*];done),by repeat (first|exact Drawn0.refl _|apply Drawn0.step)⟩
 ·rw [if_neg c4] at H
  have c4b0 : decide (a1 ≤ a0) = false:=decide_eq_false c4
  clear c4
  obtain rfl:=Option.some.inj H
  go_enter Try.func48,Try.ntmps48
  go_wp2
  go_ret
  exact ⟨by first|rfl|(simp;done)|(simp [*];done),by repeat (first|exact Drawn0.refl _|apply Drawn0.step)⟩

-- LIB preds
/-- What is asked of a function value that answers a bool: at every x, in every world in which all that lay in w lies as it lay, it answers p x and turns nothing that lies there. -/
def PredB {α : Type} (P : Program) (g : Nat) (lb : Array Value) (enc : α → Value) (p : α → Bool) (w : World) : Prop :=
  ∀ (W : World) (x : α),Below w.heap.size w W → Calls P g (#[enc x] ++ lb) W fun e w' => e = .returned (.bool (p x)) ∧ Below W.heap.size W w'
theorem PredB.later {α : Type} {P : Program} {g : Nat} {lb : Array Value} {enc : α → Value} {p : α → Bool} {w W : World} (h : PredB P g lb enc p w) (hb : Below w.heap.size w W) : PredB P g lb enc p W :=
  fun W' x hb' => h W' x (hb.trans (hb'.mono hb.size))
/-- The place of the first x of which p holds, from k on; -1. -/
def idxL {α : Type} (p : α → Bool) : List α → Nat → Int
  | [],_ => -1
  | x :: xs,k => if p x then (k : Int) else idxL p xs (k + 1)
theorem idxL_iff {α : Type} (p : α → Bool) (l : List α) (k : Nat) : 0 ≤ idxL p l k ↔ l.any p = true:=by
  induction l generalizing k with
  | nil => exact ⟨fun h => absurd h (by simp [idxL]),fun h => absurd h (by simp)⟩
  | cons x xs ih =>
    by_cases hp : p x = true
    · have e : idxL p (x :: xs) k = (k : Int):=if_pos hp
      rw [e]
      exact ⟨fun _ => by simp [hp],fun _ => by omega⟩
    · have e : idxL p (x :: xs) k = idxL p xs (k + 1):=if_neg hp
      rw [e,ih]
      simp [Bool.eq_false_iff.mpr hp]
theorem idxL_any {α : Type} (p : α → Bool) (l : List α) (k : Nat) : decide (0 ≤ idxL p l k) = l.any p:=by
  have h:=idxL_iff p l k
  cases ha : l.any p with
  | true => exact decide_eq_true (h.2 ha)
  | false => exact decide_eq_false (fun h0 => by rw [h.1 h0] at ha;cases ha)
theorem idxL_drop {α : Type} [Inhabited α] (p : α → Bool) (l : List α) (k : Nat) (h : k < l.length) : idxL p (l.drop k) k = if p (l.getD k default) then (k : Int) else idxL p (l.drop (k + 1)) (k + 1):=by
  rw [List.drop_eq_getElem_cons h,idxL]
  simp [List.getD_eq_getElem?_getD,h]
theorem below_step {w W W' : World} (h : Below w.heap.size w W) (h' : Below W.heap.size W W') : Below w.heap.size w W':=h.trans (h'.mono h.size)
theorem rd_getD (l : List Int) (k : Nat) : rd l (k : Int) = l.getD k default:=by simp [rd]

-- LIB allcab
theorem rdCab_get (l : List S51) (i : Nat) (h : i < l.length) : rd_T51 l (i : Int) = l[i]:=by simp [rd_T51,List.getD_eq_getElem?_getD,h]
theorem any_not_allc {α : Type} (p : α → Bool) (l : List α) : (!l.any fun x => !p x) = l.all p:=by
  induction l with
  | nil => rfl
  | cons x xs ih => simp only [List.any_cons,List.all_cons,Bool.not_or,Bool.not_not,ih]
def encCab (x : S51) : Value:=.agg #[.int .i64 x.f0,.int .i64 x.f1,.int .i64 x.f2]
set_option maxHeartbeats 4000000 in
set_option maxRecDepth 100000 in
theorem x_IndexFunc_cab (p : S51 → Bool) (g : Nat) (lb : Array Value) (eg : ∀ args w,(callFunc g args).run Try.prog w = .ok (.enter g args) w) (A0 : Option Addr) (c0 : Nat) (l0 : List S51) (w : World)
    (hp : PredB Try.prog g lb encCab p w) (hr0 : Kd.C k51 w A0 l0.length l0) :
    Calls Try.prog 104 #[.slice A0 l0.length c0,.func (.func g) #[] lb] w fun e w' => e = .returned (.int .i64 (idxL p l0 0)) ∧ Below w.heap.size w w':=by
  have hlen:=Kd.C_max hr0
  have HR:=Aside0.mk hr0
  have HP:=Aside0.mk hp
  clear hr0 hp
  have hu:=Try.underlying51
  go_enter Try.func104,Try.ntmps104
  go_wp2
  go_loopg [5,8] l0.length (fun gg _ s8 wr => ∃ kk : Nat,kk ≤ l0.length ∧ l0.length - kk ≤ gg ∧ s8 = .int .i64 kk ∧ Aside0 (Below w.heap.size w wr) ∧ Aside0 (idxL p (l0.drop kk) kk = idxL p l0 0))
  case atStart => exact ⟨0,Nat.zero_le _,by omega,rfl,⟨Below.refl _ w⟩,⟨rfl⟩⟩
  case round =>
    obtain ⟨kk,hkk,hg,rfl,BW,HI⟩:=hrel
    by_cases hlt : kk < l0.length
    · obtain ⟨ad,e,hx0,hx1,hx2⟩:=at_T51 (Kd.C_below HR.out BW.out) (kk : Int) (by omega) (by omega)
      cases e
      rw [Int.toNat_natCast] at hx0 hx1 hx2
      obtain ⟨y,hy⟩ : ∃ y,y = rd_T51 l0 (kk : Int):=⟨_,rfl⟩
      rw [← hy] at hx0 hx1 hx2
      have hcall:=HP.out wr y BW.out
      unfold encCab at hcall
      have HD : Aside0 (idxL p l0 0 = if p y then (kk : Int) else idxL p (l0.drop (kk + 1)) (kk + 1)):=⟨by rw [← HI.out,List.drop_eq_getElem_cons hlt,idxL,hy,rdCab_get l0 kk hlt]⟩
      clear hy
      cases hq : p y with
      | true =>
        rw [hq] at hcall
        have HQ:=Aside0.mk hq
        clear hq
        go_wp2_with (go_at_fn g;refine hcall.mono ?_;rintro e w' ⟨rfl,hb'⟩)
        go_ret
        exact ⟨by rw [HD.out,HQ.out];rfl,below_step BW.out hb'⟩
      | false =>
        rw [hq] at hcall
        have HQ:=Aside0.mk hq
        clear hq
        go_wp2_with (go_at_fn g;refine hcall.mono ?_;rintro e w' ⟨rfl,hb'⟩)
        go_roundg (l0.length - (kk + 1))
        case measure => omega
        case rel => exact ⟨kk + 1,by omega,by omega,by go_num,⟨below_step BW.out hb'⟩,⟨by rw [HD.out,HQ.out];rfl⟩⟩
    · have e : kk = l0.length:=by omega
      subst e
      go_wp2
      go_ret
      exact ⟨by rw [← HI.out,List.drop_length];rfl,BW.out⟩
set_option maxHeartbeats 4000000 in
set_option maxRecDepth 100000 in
theorem x_ContainsFunc_cab (p : S51 → Bool) (g : Nat) (lb : Array Value) (eg : ∀ args w,(callFunc g args).run Try.prog w = .ok (.enter g args) w) (A0 : Option Addr) (c0 : Nat) (l0 : List S51) (w : World)
    (hp : PredB Try.prog g lb encCab p w) (hr0 : Kd.C k51 w A0 l0.length l0) :
    Calls Try.prog 89 #[.slice A0 l0.length c0,.func (.func g) #[] lb] w fun e w' => e = .returned (.bool (l0.any p)) ∧ Below w.heap.size w w':=by
  have hcall:=x_IndexFunc_cab p g lb eg A0 c0 l0 w hp hr0
  have HA:=Aside0.mk (idxL_any p l0 0)
  obtain ⟨z,hz⟩ : ∃ z,z = idxL p l0 0:=⟨_,rfl⟩
  rw [← hz] at hcall HA
  clear hp hr0 hz
  go_enter Try.func89,Try.ntmps89
  go_wp2_with (go_at_call 104;refine hcall.mono ?_;rintro e w' ⟨rfl,hb'⟩)
  go_ret
  exact ⟨by rw [← HA.out];rfl,hb'⟩

set_option maxHeartbeats 4000000 in
set_option maxRecDepth 100000 in
theorem x_all_cab_1 {p : S51 → Bool} {g : Nat} {lb : Array Value} (eg : ∀ args w,(callFunc g args).run Try.prog w = .ok (.enter g args) w) {b : Nat} {w : World}
    (hp : PredB Try.prog g lb encCab p w) (hb : b < w.heap.size) (hc : w.cell? ⟨b,0,none⟩ = some (.func (.func g) #[] lb)) :
    PredB Try.prog 90 #[.pointer (some ⟨b,0,none⟩)] encCab (fun x => !p x) w:=by
  intro W x hB
  have hu:=Try.underlying51
  have hB2 : Below W.heap.size W (W.alloc (.cells #[.int .i64 x.f0,.int .i64 x.f1,.int .i64 x.f2] 51)):=(Below.refl _ W).alloc (Nat.le_refl _) _
  have hc':=(hB.cell (p:=⟨b,0,none⟩) hb).trans hc
  have hbW : b < W.heap.size:=Nat.lt_of_lt_of_le hb hB.size
  have hcall:=hp _ x (below_step hB hB2)
  have HB2:=Aside0.mk hB2
  clear hp hc hB hb hB2
  unfold encCab at hcall ⊢
  go_enter Try.func90,Try.ntmps90
  go_wp2_with (go_at_fn g;refine hcall.mono ?_;rintro e w' ⟨rfl,hb'⟩)
  go_ret
  exact ⟨rfl,below_step HB2.out hb'⟩
set_option maxHeartbeats 4000000 in
set_option maxRecDepth 100000 in
theorem x_all_cab (p : S51 → Bool) (g : Nat) (lb : Array Value) (eg : ∀ args w,(callFunc g args).run Try.prog w = .ok (.enter g args) w) (A0 : Option Addr) (c0 : Nat) (l0 : List S51) (w : World)
    (hp : PredB Try.prog g lb encCab p w) (hr0 : Kd.C k51 w A0 l0.length l0) :
    Calls Try.prog 72 #[.slice A0 l0.length c0,.func (.func g) #[] lb] w fun e w' => e = .returned (.bool (l0.all p)) ∧ Below w.heap.size w w':=by
  have hmf : ∀ (fn : Fn) (first cap : Array Value) (w : World),(Instr.makeFunc fn first cap).run Try.prog w = .ok (.func fn first cap) w:=fun _ _ _ _ => rfl
  have hb0 : Below w.heap.size w (w.alloc (.cells #[.func (.func g) #[] lb] 81)):=(Below.refl _ w).alloc (Nat.le_refl _) _
  have hcall:=x_ContainsFunc_cab (fun x => !p x) 90 #[.pointer (some ⟨w.heap.size,0,none⟩)] (enters_of Try.func90 (by kernel_rfl) rfl) A0 c0 l0 _ (x_all_cab_1 eg (hp.later hb0) (by simp) (by simp)) (Kd.C_below hr0 hb0)
  have HB0:=Aside0.mk hb0
  clear hp hr0 hb0
  go_enter Try.func72,Try.ntmps72
  go_wp2_with (go_at_call 89;refine hcall.mono ?_;rintro e w' ⟨rfl,hb'⟩)
  go_ret
  exact ⟨by rw [any_not_allc];rfl,below_step HB0.out hb'⟩

-- LIB cabs
/-- A cable between two of so many bridges. -/
def cabB (n : Int) (x : S51) : Bool:=(decide (0 ≤ x.f0) && decide (x.f0 ≤ wrap64 (n - 1))) && ((decide (0 ≤ x.f1) && decide (x.f1 ≤ wrap64 (n - 1))) && ((x.f0 != x.f1) && (decide (1 ≤ x.f2) && decide (x.f2 ≤ 99))))
def cabsB (n : Int) (l : List S51) : Bool:=(decide (1 ≤ n) && decide (n ≤ 8)) && (decide (l.length ≤ 20) && l.all (cabB n))
/-- What is told of valid cables. -/
theorem cabsB_facts {n : Int} {l : List S51} (h : cabsB n l = true) : 1 ≤ n ∧ n ≤ 8 ∧ l.length ≤ 20 ∧ ∀ x ∈ l,0 ≤ x.f0 ∧ x.f0 < n ∧ 0 ≤ x.f1 ∧ x.f1 < n ∧ x.f0 ≠ x.f1 ∧ 1 ≤ x.f2 ∧ x.f2 ≤ 99:=by
  unfold cabsB at h
  simp only [Bool.and_eq_true,decide_eq_true_eq,List.all_eq_true] at h
  obtain ⟨⟨h1,h2⟩,h3,h4⟩:=h
  refine ⟨h1,h2,h3,fun x hx => ?_⟩
  have:=h4 x hx
  unfold cabB at this
  have e : wrap64 (n - 1) = n - 1:=by unfold wrap64;omega
  rw [e] at this
  simp only [Bool.and_eq_true,decide_eq_true_eq,bne_iff_ne] at this
  omega

-- LIB pbase
theorem wrap_eq {x : Int} (h1 : -9223372036854775808 ≤ x) (h2 : x ≤ 9223372036854775807) : wrap64 x = x:=by unfold wrap64;omega
theorem wrap_succ {i n : Nat} (h : i < n) (hn : n ≤ 9223372036854775807) : wrap64 ((i : Int) + 1) = ((i + 1 : Nat) : Int):=by rw [wrap_eq (by omega) (by omega)];rfl
theorem rd_get (l : List Int) (i : Nat) (h : i < l.length) : rd l (i : Int) = l[i]:=by simp [rd,List.getD_eq_getElem?_getD,h]

-- LIB within
theorem win_is (n a b : Int) : impl_within.f n a b = some (decide (a ≤ n) && decide (n ≤ b)):=by
  unfold impl_within.f
  by_cases h : a ≤ n <;> simp [h]
theorem x_win (n a b : Int) (W : World) : Calls Try.prog 48 #[.int .i64 n,.int .i64 a,.int .i64 b] W fun e w' => e = .returned (.bool (decide (a ≤ n) && decide (n ≤ b))) ∧ Below W.heap.size W w' :=
  (impl_within.calls n a b _ W (win_is n a b)).mono fun e w' ⟨he,hd⟩ => ⟨he,hd.below⟩

/-! ### impl_CablesValid: function 45 (by hand) -/
set_option maxHeartbeats 4000000 in
set_option maxRecDepth 100000 in
theorem x_CablesValid_1 {n : Int} {b : Nat} {w : World} (hb : b < w.heap.size) (hc : w.cell? ⟨b,0,none⟩ = some (.int .i64 n)) :
  PredB Try.prog 73 #[.pointer (some ⟨b,0,none⟩)] encCab (cabB n) w:=by
 intro W x hB
 have hu:=Try.underlying51
 have HC:=mk_ (fun W' (h : Below W.heap.size W W') => (st_ hB h).cell (p:=⟨b,0,none⟩) hb |>.trans hc)
 have hB0 : Below W.heap.size W (W.alloc (.cells #[.int .i64 x.f0,.int .i64 x.f1,.int .i64 x.f2] 51)):=(Below.refl _ W).alloc (Nat.le_refl _) _
 have hN0:=blk_new W (.cells #[.int .i64 x.f0,.int .i64 x.f1,.int .i64 x.f2] 51)
 have h0:=HC.out _ hB0
 have hbW : b < W.heap.size:=Nat.lt_of_lt_of_le hb hB.size
 have HB0:=mk_ hB0
 have HN0:=mk_ hN0
 have hc':=(hB.cell (p:=⟨b,0,none⟩) hb).trans hc
 clear hc hB hb hB0 hN0
 unfold encCab
 have HZ : Aside0 (cabB n x = ((decide (0 ≤ x.f0) && decide (x.f0 ≤ wrap64 (n - 1))) && ((decide (0 ≤ x.f1) && decide (x.f1 ≤ wrap64 (n - 1))) && ((x.f0 != x.f1) && (decide (1 ≤ x.f2) && decide (x.f2 ≤ 99)))))):=⟨rfl⟩
 generalize cabB n x = z at HZ ⊢
 generalize x.f0 = a1 at *
 generalize x.f1 = a2 at *
 generalize x.f2 = a3 at *
 clear x
 obtain ⟨m,hm⟩ : ∃ m,m = wrap64 (n - 1):=⟨_,rfl⟩
 rw [← hm] at HZ
 have y1 : IntKind.i64.wrap (n - 1) = m:=(i64_w _).trans hm.symm
 have hw1:=fun W => x_win a1 0 m W
 have hw2:=fun W => x_win a2 0 m W
 have hw3:=fun W => x_win a3 1 99 W
 clear hm
 generalize (decide (0 ≤ a1) && decide (a1 ≤ m)) = z1 at HZ hw1
 generalize (decide (0 ≤ a2) && decide (a2 ≤ m)) = z2 at HZ hw2
 generalize (decide (1 ≤ a3) && decide (a3 ≤ 99)) = z3 at HZ hw3
 cases z1 with
 | false =>
  have HZ2 : Aside0 (z = false):=⟨by rw [HZ.out];rfl⟩
  go_enter Try.func73,Try.ntmps73
  go_wp2_with fail
  refine (hw1 _).mono ?_
  rintro e w1 ⟨rfl,hb1⟩
  go_wp2_with fail
  go_ret
  exact ⟨by rw [HZ2.out];rfl,st_ HB0.out hb1⟩
 | true =>
 cases z2 with
 | false =>
  have HZ2 : Aside0 (z = false):=⟨by rw [HZ.out];rfl⟩
  go_enter Try.func73,Try.ntmps73
  go_wp2_with fail
  refine (hw1 _).mono ?_
  rintro e w1 ⟨rfl,hb1⟩
  have q1 : w1.cell? ⟨b,0,none⟩ = some (.int .i64 n):=HC.out w1 (st_ HB0.out hb1)
  have c1 : w1.cell? ⟨W.heap.size,1,none⟩ = some (.int .i64 a2):=(bc_ (blk_below HN0.out hb1) 1).trans rfl
  have HB1:=mk_ (st_ HB0.out hb1)
  clear hb1
  go_wp2_with fail
  refine (hw2 _).mono ?_
  rintro e w2 ⟨rfl,hb2⟩
  go_wp2_with fail
  go_ret
  exact ⟨by rw [HZ2.out];rfl,st_ HB1.out hb2⟩
 | true =>
 by_cases hne : a1 = a2
 ·have HZ2 : Aside0 (z = false):=⟨by rw [HZ.out,bne_eq_false_iff_eq.mpr hne];rfl⟩
  have hd : (a1 != a2) = false:=bne_eq_false_iff_eq.mpr hne
  clear hne
  go_enter Try.func73,Try.ntmps73
  go_wp2_with fail
  refine (hw1 _).mono ?_
  rintro e w1 ⟨rfl,hb1⟩
  have q1 : w1.cell? ⟨b,0,none⟩ = some (.int .i64 n):=HC.out w1 (st_ HB0.out hb1)
  have c1 : w1.cell? ⟨W.heap.size,1,none⟩ = some (.int .i64 a2):=(bc_ (blk_below HN0.out hb1) 1).trans rfl
  have HB1:=mk_ (st_ HB0.out hb1)
  have HN1:=mk_ (blk_below HN0.out hb1)
  clear hb1
  go_wp2_with fail
  refine (hw2 _).mono ?_
  rintro e w2 ⟨rfl,hb2⟩
  have d0 : w2.cell? ⟨W.heap.size,0,none⟩ = some (.int .i64 a1):=(bc_ (blk_below HN1.out hb2) 0).trans rfl
  have d1 : w2.cell? ⟨W.heap.size,1,none⟩ = some (.int .i64 a2):=(bc_ (blk_below HN1.out hb2) 1).trans rfl
  have HB2:=mk_ (st_ HB1.out hb2)
  clear hb2 q1 c1
  go_wp2_with fail
  go_ret
  exact ⟨by rw [HZ2.out];rfl,HB2.out⟩
 ·have HZ2 : Aside0 (z = z3):=⟨by rw [HZ.out,bne_iff_ne.mpr hne];rfl⟩
  have hd : (a1 != a2) = true:=bne_iff_ne.mpr hne
  clear hne
  go_enter Try.func73,Try.ntmps73
  go_wp2_with fail
  refine (hw1 _).mono ?_
  rintro e w1 ⟨rfl,hb1⟩
  have q1 : w1.cell? ⟨b,0,none⟩ = some (.int .i64 n):=HC.out w1 (st_ HB0.out hb1)
  have c1 : w1.cell? ⟨W.heap.size,1,none⟩ = some (.int .i64 a2):=(bc_ (blk_below HN0.out hb1) 1).trans rfl
  have HB1:=mk_ (st_ HB0.out hb1)
  have HN1:=mk_ (blk_below HN0.out hb1)
  clear hb1
  go_wp2_with fail
  refine (hw2 _).mono ?_
  rintro e w2 ⟨rfl,hb2⟩
  have d0 : w2.cell? ⟨W.heap.size,0,none⟩ = some (.int .i64 a1):=(bc_ (blk_below HN1.out hb2) 0).trans rfl
  have d1 : w2.cell? ⟨W.heap.size,1,none⟩ = some (.int .i64 a2):=(bc_ (blk_below HN1.out hb2) 1).trans rfl
  have d2 : w2.cell? ⟨W.heap.size,2,none⟩ = some (.int .i64 a3):=(bc_ (blk_below HN1.out hb2) 2).trans rfl
  have HB2:=mk_ (st_ HB1.out hb2)
  clear hb2 q1 c1
  go_wp2_with fail
  refine (hw3 _).mono ?_
  rintro e w3 ⟨rfl,hb3⟩
  go_wp2_with fail
  go_ret
  exact ⟨by rw [HZ2.out];rfl,st_ HB2.out hb3⟩
def impl_CablesValid.f (a0 : Int) (l1 : List (S51)) : Option (Bool) :=
 some (cabsB a0 l1)
set_option maxHeartbeats 4000000 in
set_option maxRecDepth 100000 in
theorem impl_CablesValid.calls (a0 : Int) (A1 : Option Addr) (c1 : Nat) (l1 : List (S51)) (r : Bool) (w : World) (hr1 : Kd.C k51 w A1 l1.length l1) (hc1 : l1.length ≤ c1) (h : impl_CablesValid.f a0 l1 = some r) :
  Calls Try.prog 45 #[.int .i64 a0,.slice A1 l1.length c1] w fun e w' => e = .returned (.bool r) ∧ Below w.heap.size w w':=by
 obtain rfl:=Option.some.inj h
 have hlen:=Kd.C_max hr1
 have hmf : ∀ (fn : Fn) (first cap : Array Value) (w : World),(Instr.makeFunc fn first cap).run Try.prog w = .ok (.func fn first cap) w:=fun _ _ _ _ => rfl
 have hb0 : Below w.heap.size w (w.alloc (.cells #[.int .i64 a0] 3)):=(Below.refl _ w).alloc (Nat.le_refl _) _
 have hp0 : PredB Try.prog 73 #[.pointer (some ⟨w.heap.size,0,none⟩)] encCab (cabB a0) (w.alloc (.cells #[.int .i64 a0] 3)):=x_CablesValid_1 (by simp) (by simp)
 have hw0:=x_win a0 1 8 (w.alloc (.cells #[.int .i64 a0] 3))
 have HA : Aside0 (∀ W,Below (w.alloc (.cells #[.int .i64 a0] 3)).heap.size (w.alloc (.cells #[.int .i64 a0] 3)) W → Calls Try.prog 72 #[.slice A1 l1.length c1,.func (.func 73) #[] #[.pointer (some ⟨w.heap.size,0,none⟩)]] W fun e w' => e = .returned (.bool (l1.all (cabB a0))) ∧ Below W.heap.size W w'):=⟨fun W hW => x_all_cab (cabB a0) 73 _ (enters_of Try.func73 (by kernel_rfl) rfl) A1 c1 l1 W (hp0.later hW) (cb_ hr1 (st_ hb0 hW))⟩
 have HB0:=mk_ hb0
 have HZ : Aside0 (cabsB a0 l1 = ((decide (1 ≤ a0) && decide (a0 ≤ 8)) && (decide (l1.length ≤ 20) && l1.all (cabB a0)))):=⟨rfl⟩
 clear h hr1 hc1 hp0 hb0
 generalize cabsB a0 l1 = z at HZ ⊢
 generalize (decide (1 ≤ a0) && decide (a0 ≤ 8)) = z1 at HZ hw0
 generalize l1.all (cabB a0) = z3 at HZ HA
 cases z1 with
 | false =>
  have HZ2 : Aside0 (z = false):=⟨by rw [HZ.out];rfl⟩
  go_enter Try.func45,Try.ntmps45
  go_wp2_with fail
  refine hw0.mono ?_
  rintro e w1 ⟨rfl,hb1⟩
  go_wp2_with fail
  go_ret
  exact ⟨by rw [HZ2.out];rfl,st_ HB0.out hb1⟩
 | true =>
  by_cases hl : (l1.length : Int) ≤ 20
  ·have HZ2 : Aside0 (z = z3):=⟨by rw [HZ.out,decide_eq_true (show l1.length ≤ 20 by omega)];rfl⟩
   go_enter Try.func45,Try.ntmps45
   go_wp2_with fail
   refine hw0.mono ?_
   rintro e w1 ⟨rfl,hb1⟩
   have ha:=HA.out _ hb1
   have HB1:=mk_ (st_ HB0.out hb1)
   clear hb1 hw0
   go_wp2_with fail
   refine ha.mono ?_
   rintro e w2 ⟨rfl,hb2⟩
   go_wp2_with fail
   go_ret
   exact ⟨by rw [HZ2.out];rfl,st_ HB1.out hb2⟩
  ·have HZ2 : Aside0 (z = false):=⟨by rw [HZ.out,decide_eq_false (show ¬ l1.length ≤ 20 by omega)];rfl⟩
   go_enter Try.func45,Try.ntmps45
   go_wp2_with fail
   refine hw0.mono ?_
   rintro e w1 ⟨rfl,hb1⟩
   clear hw0
   go_wp2_with fail
   go_ret
   exact ⟨by rw [HZ2.out];rfl,st_ HB0.out hb1⟩

/-! ### impl_isNetwork: function 49 -/
def impl_isNetwork.f (a0 : Int) : Option (Bool):=(impl_within.f a0 1 9).bind fun t101 => (some t101)
set_option maxHeartbeats 8000000 in
set_option maxRecDepth 100000 in
theorem impl_isNetwork.calls (a0 : Int) (r : Bool) (w : World) (h : impl_isNetwork.f a0 = some r) :
  Calls Try.prog 49 #[.int .i64 a0] w fun e w' => e = .returned (.bool r) ∧ Drawn0 w w':=by
 have H : ((impl_within.f a0 1 9).bind fun t101 => (some t101)) = some r:=h
 clear h
 replace H:=Option.bind_eq_some_iff.mp H
 obtain ⟨t101,A20,H⟩:=H
 replace H : (some t101) = some r:=H
 have A2:=mk_ A20
 clear A20
 obtain rfl:=Option.some.inj H
 go_enter Try.func49,Try.ntmps49
 go_wp2_with (first|((with_reducible refine gate_callee (f:=48) rfl ?_);refine goesL_ (some 4) rfl rfl Try.func48 (by kernel_rfl) rfl #[.int .i64 a0,.int .i64 1,.int .i64 9] rfl qm_ ?_;(with_reducible refine (impl_within.calls a0 1 9 t101 _ A2.out).mono ?_);rintro e w' ⟨rfl,⟨nd,rfl⟩⟩;refine ⟨_,rfl,?_⟩))
 go_ret
 exact ⟨by first|rfl|(simp;done)|(simp [*];done),by repeat (first|exact Drawn0.refl _|apply Drawn0.step)⟩

-- LIB containsint
set_option maxHeartbeats 4000000 in
set_option maxRecDepth 100000 in
theorem x_IndexFunc_int (p : Int → Bool) (g : Nat) (lb : Array Value) (eg : ∀ args w,(callFunc g args).run Try.prog w = .ok (.enter g args) w) (A0 : Option Addr) (c0 : Nat) (l0 : List Int) (w : World)
    (hp : PredB Try.prog g lb (Value.int .i64) p w) (hr0 : Kd.C (Kd.int .i64) w A0 l0.length l0) :
    Calls Try.prog 91 #[.slice A0 l0.length c0,.func (.func g) #[] lb] w fun e w' => e = .returned (.int .i64 (idxL p l0 0)) ∧ Below w.heap.size w w':=by
  have hlen:=Kd.C_max hr0
  have HR:=Aside0.mk hr0
  have HP:=Aside0.mk hp
  clear hr0 hp
  go_enter Try.func91,Try.ntmps91
  go_wp2
  go_loopg [5,8] l0.length (fun gg _ s8 wr => ∃ kk : Nat,kk ≤ l0.length ∧ l0.length - kk ≤ gg ∧ s8 = .int .i64 kk ∧ Aside0 (Below w.heap.size w wr) ∧ Aside0 (idxL p (l0.drop kk) kk = idxL p l0 0))
  case atStart => exact ⟨0,Nat.zero_le _,by omega,rfl,⟨Below.refl _ w⟩,⟨rfl⟩⟩
  case round =>
    obtain ⟨kk,hkk,hg,rfl,BW,HI⟩:=hrel
    by_cases hlt : kk < l0.length
    · obtain ⟨ad,e,hx⟩:=Kd.at_int (Kd.C_below HR.out BW.out) (kk : Int) (by omega) (by omega)
      cases e
      rw [Int.toNat_natCast] at hx
      obtain ⟨y,hy⟩ : ∃ y,y = rd l0 (kk : Int):=⟨_,rfl⟩
      rw [← hy] at hx
      have hcall:=HP.out wr y BW.out
      have HD : Aside0 (idxL p l0 0 = if p y then (kk : Int) else idxL p (l0.drop (kk + 1)) (kk + 1)):=⟨by rw [← HI.out,idxL_drop p l0 kk hlt,hy,rd_getD]⟩
      clear hy
      cases hq : p y with
      | true =>
        rw [hq] at hcall
        have HQ:=Aside0.mk hq
        clear hq
        go_wp2_with (go_at_fn g;refine hcall.mono ?_;rintro e w' ⟨rfl,hb'⟩)
        go_ret
        exact ⟨by rw [HD.out,HQ.out];rfl,below_step BW.out hb'⟩
      | false =>
        rw [hq] at hcall
        have HQ:=Aside0.mk hq
        clear hq
        go_wp2_with (go_at_fn g;refine hcall.mono ?_;rintro e w' ⟨rfl,hb'⟩)
        go_roundg (l0.length - (kk + 1))
        case measure => omega
        case rel => exact ⟨kk + 1,by omega,by omega,by go_num,⟨below_step BW.out hb'⟩,⟨by rw [HD.out,HQ.out];rfl⟩⟩
    · have e : kk = l0.length:=by omega
      subst e
      go_wp2
      go_ret
      exact ⟨by rw [← HI.out,List.drop_length];rfl,BW.out⟩
set_option maxHeartbeats 4000000 in
set_option maxRecDepth 100000 in
theorem x_ContainsFunc_int (p : Int → Bool) (g : Nat) (lb : Array Value) (eg : ∀ args w,(callFunc g args).run Try.prog w = .ok (.enter g args) w) (A0 : Option Addr) (c0 : Nat) (l0 : List Int) (w : World)
    (hp : PredB Try.prog g lb (Value.int .i64) p w) (hr0 : Kd.C (Kd.int .i64) w A0 l0.length l0) :
    Calls Try.prog 74 #[.slice A0 l0.length c0,.func (.func g) #[] lb] w fun e w' => e = .returned (.bool (l0.any p)) ∧ Below w.heap.size w w':=by
  have hcall:=x_IndexFunc_int p g lb eg A0 c0 l0 w hp hr0
  have HA:=Aside0.mk (idxL_any p l0 0)
  obtain ⟨z,hz⟩ : ∃ z,z = idxL p l0 0:=⟨_,rfl⟩
  rw [← hz] at hcall HA
  clear hp hr0 hz
  go_enter Try.func74,Try.ntmps74
  go_wp2_with (go_at_call 91;refine hcall.mono ?_;rintro e w' ⟨rfl,hb'⟩)
  go_ret
  exact ⟨by rw [← HA.out];rfl,hb'⟩

-- LIB allint
set_option maxHeartbeats 4000000 in
set_option maxRecDepth 100000 in
theorem x_all_int_1 {p : Int → Bool} {g : Nat} {lb : Array Value} (eg : ∀ args w,(callFunc g args).run Try.prog w = .ok (.enter g args) w) {b : Nat} {w : World}
    (hp : PredB Try.prog g lb (Value.int .i64) p w) (hb : b < w.heap.size) (hc : w.cell? ⟨b,0,none⟩ = some (.func (.func g) #[] lb)) :
    PredB Try.prog 75 #[.pointer (some ⟨b,0,none⟩)] (Value.int .i64) (fun x => !p x) w:=by
  intro W x hB
  have hc':=(hB.cell (p:=⟨b,0,none⟩) hb).trans hc
  have hcall:=hp W x hB
  clear hp hc hB hb
  go_enter Try.func75,Try.ntmps75
  go_wp2_with (go_at_fn g;refine hcall.mono ?_;rintro e w' ⟨rfl,hb'⟩)
  go_ret
  exact ⟨rfl,hb'⟩
theorem any_not_all {α : Type} (p : α → Bool) (l : List α) : (!l.any fun x => !p x) = l.all p:=by
  induction l with
  | nil => rfl
  | cons x xs ih => simp only [List.any_cons,List.all_cons,Bool.not_or,Bool.not_not,ih]
set_option maxHeartbeats 4000000 in
set_option maxRecDepth 100000 in
theorem x_all_int (p : Int → Bool) (g : Nat) (lb : Array Value) (eg : ∀ args w,(callFunc g args).run Try.prog w = .ok (.enter g args) w) (A0 : Option Addr) (c0 : Nat) (l0 : List Int) (w : World)
    (hp : PredB Try.prog g lb (Value.int .i64) p w) (hr0 : Kd.C (Kd.int .i64) w A0 l0.length l0) :
    Calls Try.prog 46 #[.slice A0 l0.length c0,.func (.func g) #[] lb] w fun e w' => e = .returned (.bool (l0.all p)) ∧ Below w.heap.size w w':=by
  have hmf : ∀ (fn : Fn) (first cap : Array Value) (w : World),(Instr.makeFunc fn first cap).run Try.prog w = .ok (.func fn first cap) w:=fun _ _ _ _ => rfl
  have hb0 : Below w.heap.size w (w.alloc (.cells #[.func (.func g) #[] lb] 56)):=(Below.refl _ w).alloc (Nat.le_refl _) _
  have hcall:=x_ContainsFunc_int (fun x => !p x) 75 #[.pointer (some ⟨w.heap.size,0,none⟩)] (enters_of Try.func75 (by kernel_rfl) rfl) A0 c0 l0 _ (x_all_int_1 eg (hp.later hb0) (by simp) (by simp)) (Kd.C_below hr0 hb0)
  have HB0:=Aside0.mk hb0
  clear hp hr0 hb0
  go_enter Try.func46,Try.ntmps46
  go_wp2_with (go_at_call 74;refine hcall.mono ?_;rintro e w' ⟨rfl,hb'⟩)
  go_ret
  exact ⟨by rw [any_not_all];rfl,below_step HB0.out hb'⟩

/-! ### impl_NetValid: function 15 (by hand) -/
/-- A bridge of so many;a network. -/
def brB (n x : Int) : Bool:=decide (0 ≤ x) && decide (x ≤ wrap64 (n - 1))
def vlB (x : Int) : Bool:=decide (1 ≤ x) && decide (x ≤ 9)
def netB (n : Int) (cs : List S51) (hs vs : List Int) : Bool:=cabsB n cs && (decide (hs.length ≤ 15) && (decide (vs.length = hs.length) && (hs.all (brB n) && vs.all vlB)))
set_option maxHeartbeats 4000000 in
set_option maxRecDepth 100000 in
theorem x_NetValid_1 {n : Int} {b : Nat} {w : World} (hb : b < w.heap.size) (hc : w.cell? ⟨b,0,none⟩ = some (.int .i64 n)) :
  PredB Try.prog 47 #[.pointer (some ⟨b,0,none⟩)] (Value.int .i64) (brB n) w:=by
 intro W x hB
 have hc':=(hB.cell (p:=⟨b,0,none⟩) hb).trans hc
 have hu:=Try.underlying30
 have hw:=x_win x 0 (wrap64 (n - 1)) W
 have HZ : Aside0 (brB n x = (decide (0 ≤ x) && decide (x ≤ wrap64 (n - 1)))):=⟨rfl⟩
 clear hc hB hb
 generalize brB n x = z at HZ ⊢
 generalize (decide (0 ≤ x) && decide (x ≤ wrap64 (n - 1))) = z2 at HZ hw
 obtain ⟨x1,hx1⟩ : ∃ x1,x1 = wrap64 (n - 1):=⟨_,rfl⟩
 rw [← hx1] at hw
 have y1 : IntKind.i64.wrap (n - 1) = x1:=(i64_w _).trans hx1.symm
 clear hx1
 go_enter Try.func47,Try.ntmps47
 go_wp2_with fail
 refine hw.mono ?_
 rintro e w' ⟨rfl,hb'⟩
 go_wp2_with fail
 go_ret
 exact ⟨by rw [HZ.out];rfl,hb'⟩
theorem isNet_eq (x : Int) : impl_isNetwork.f x = some (vlB x):=by
 unfold impl_isNetwork.f
 rw [win_is]
 rfl
theorem x_isNet (w : World) : PredB Try.prog 49 #[] (Value.int .i64) vlB w:=by
 intro W x hB
 exact (impl_isNetwork.calls x _ W (isNet_eq x)).mono fun e w' ⟨he,hd⟩ => ⟨he,hd.below⟩
def impl_NetValid.f (a0_0 : Int) (l0_1 : List (S51)) (l0_2 : List Int) (l0_3 : List Int) : Option (Bool) :=
 some (netB a0_0 l0_1 l0_2 l0_3)
set_option maxHeartbeats 4000000 in
set_option maxRecDepth 100000 in
theorem impl_NetValid.calls (a0_0 : Int) (A0_1 : Option Addr) (c0_1 : Nat) (l0_1 : List (S51)) (A0_2 : Option Addr) (c0_2 : Nat) (l0_2 : List Int) (A0_3 : Option Addr) (c0_3 : Nat) (l0_3 : List Int) (r : Bool) (w : World) (hr0_1 : Kd.C k51 w A0_1 l0_1.length l0_1) (hc0_1 : l0_1.length ≤ c0_1) (hr0_2 : Kd.C (Kd.int .i64) w A0_2 l0_2.length l0_2) (hc0_2 : l0_2.length ≤ c0_2) (hr0_3 : Kd.C (Kd.int .i64) w A0_3 l0_3.length l0_3) (hc0_3 : l0_3.length ≤ c0_3) (h : impl_NetValid.f a0_0 l0_1 l0_2 l0_3 = some r) :
  Calls Try.prog 15 #[.agg #[.int .i64 a0_0,.slice A0_1 l0_1.length c0_1,.slice A0_2 l0_2.length c0_2,.slice A0_3 l0_3.length c0_3]] w fun e w' => e = .returned (.bool r) ∧ Below w.heap.size w w':=by
 obtain rfl:=Option.some.inj h
 have hu:=Try.underlying30
 have hl2:=Kd.C_max hr0_2
 have hl3:=Kd.C_max hr0_3
 have hmf : ∀ (fn : Fn) (first cap : Array Value) (w : World),(Instr.makeFunc fn first cap).run Try.prog w = .ok (.func fn first cap) w:=fun _ _ _ _ => rfl
 have hb0 : Below w.heap.size w (w.alloc (.cells #[.int .i64 a0_0,.slice A0_1 l0_1.length c0_1,.slice A0_2 l0_2.length c0_2,.slice A0_3 l0_3.length c0_3] 30)):=(Below.refl _ w).alloc (Nat.le_refl _) _
 have hn0:=blk_new w (.cells #[.int .i64 a0_0,.slice A0_1 l0_1.length c0_1,.slice A0_2 l0_2.length c0_2,.slice A0_3 l0_3.length c0_3] 30)
 have hsz : w.heap.size < (w.alloc (.cells #[.int .i64 a0_0,.slice A0_1 l0_1.length c0_1,.slice A0_2 l0_2.length c0_2,.slice A0_3 l0_3.length c0_3] 30)).heap.size:=by simp
 obtain ⟨W0,hW0⟩ : ∃ W0,W0 = w.alloc (.cells #[.int .i64 a0_0,.slice A0_1 l0_1.length c0_1,.slice A0_2 l0_2.length c0_2,.slice A0_3 l0_3.length c0_3] 30):=⟨_,rfl⟩
 rw [← hW0] at hb0 hn0 hsz
 have hp0 : PredB Try.prog 47 #[.pointer (some ⟨w.heap.size,0,none⟩)] (Value.int .i64) (brB a0_0) W0:=x_NetValid_1 hsz ((bc_ hn0 0).trans rfl)
 have hcv:=impl_CablesValid.calls a0_0 A0_1 c0_1 l0_1 _ W0 (cb_ hr0_1 hb0) hc0_1 rfl
 have HA : Aside0 (∀ W,Below W0.heap.size W0 W → Calls Try.prog 46 #[.slice A0_2 l0_2.length c0_2,.func (.func 47) #[] #[.pointer (some ⟨w.heap.size,0,none⟩)]] W fun e w' => e = .returned (.bool (l0_2.all (brB a0_0))) ∧ Below W.heap.size W w'):=⟨fun W hW => x_all_int (brB a0_0) 47 _ (enters_of Try.func47 (by kernel_rfl) rfl) A0_2 c0_2 l0_2 W (hp0.later hW) (cb_ hr0_2 (st_ hb0 hW))⟩
 have HV : Aside0 (∀ W,Below W0.heap.size W0 W → Calls Try.prog 46 #[.slice A0_3 l0_3.length c0_3,.func (.func 49) #[] #[]] W fun e w' => e = .returned (.bool (l0_3.all vlB)) ∧ Below W.heap.size W w'):=⟨fun W hW => x_all_int vlB 49 #[] (enters_of Try.func49 (by kernel_rfl) rfl) A0_3 c0_3 l0_3 W (x_isNet W) (cb_ hr0_3 (st_ hb0 hW))⟩
 have HB0:=mk_ hb0
 have HN0:=mk_ hn0
 have HZ : Aside0 (netB a0_0 l0_1 l0_2 l0_3 = (cabsB a0_0 l0_1 && (decide (l0_2.length ≤ 15) && (decide (l0_3.length = l0_2.length) && (l0_2.all (brB a0_0) && l0_3.all vlB))))):=⟨rfl⟩
 clear h hr0_1 hc0_1 hr0_2 hc0_2 hr0_3 hc0_3 hp0 hb0 hn0 hsz
 generalize netB a0_0 l0_1 l0_2 l0_3 = z at HZ ⊢
 generalize cabsB a0_0 l0_1 = z1 at HZ hcv
 generalize l0_2.all (brB a0_0) = z3 at HZ HA
 generalize l0_3.all vlB = z4 at HZ HV
 subst hW0
 cases z1 with
 | false =>
  have HZ2 : Aside0 (z = false):=⟨by rw [HZ.out];rfl⟩
  go_enter Try.func15,Try.ntmps15
  go_wp2_with fail
  refine hcv.mono ?_
  rintro e w1 ⟨rfl,hb1⟩
  go_wp2_with fail
  go_ret
  exact ⟨by rw [HZ2.out];rfl,st_ HB0.out hb1⟩
 | true =>
 by_cases h15 : (l0_2.length : Int) ≤ 15
 ·by_cases heq : l0_3.length = l0_2.length
  ·have e1 : ((l0_3.length : Int) == (l0_2.length : Int)) = true:=beq_iff_eq.mpr (by omega)
   have e2 : (l0_3.length == l0_2.length) = true:=beq_iff_eq.mpr heq
   have e3 : decide (l0_3.length = l0_2.length) = true:=decide_eq_true heq
   replace HZ : Aside0 (z = (z3 && z4)):=⟨by rw [HZ.out,decide_eq_true (show l0_2.length ≤ 15 by omega),e3];rfl⟩
   clear heq
   cases z3 with
   | false =>
    have HZ2 : Aside0 (z = false):=⟨by rw [HZ.out];rfl⟩
    go_enter Try.func15,Try.ntmps15
    go_wp2_with fail
    refine hcv.mono ?_
    rintro e w1 ⟨rfl,hb1⟩
    have ha:=HA.out _ hb1
    have g2 : w1.cell? ⟨w.heap.size,2,none⟩ = some (.slice A0_2 l0_2.length c0_2):=(bc_ (blk_below HN0.out hb1) 2).trans rfl
    have g3 : w1.cell? ⟨w.heap.size,3,none⟩ = some (.slice A0_3 l0_3.length c0_3):=(bc_ (blk_below HN0.out hb1) 3).trans rfl
    have HB1:=mk_ (st_ HB0.out hb1)
    clear hb1 hcv
    go_wp2_with fail
    refine ha.mono ?_
    rintro e w2 ⟨rfl,hb2⟩
    go_wp2_with fail
    go_ret
    exact ⟨by rw [HZ2.out];rfl,st_ HB1.out hb2⟩
   | true =>
    have HZ2 : Aside0 (z = z4):=⟨by rw [HZ.out];rfl⟩
    go_enter Try.func15,Try.ntmps15
    go_wp2_with fail
    refine hcv.mono ?_
    rintro e w1 ⟨rfl,hb1⟩
    have ha:=HA.out _ hb1
    have g2 : w1.cell? ⟨w.heap.size,2,none⟩ = some (.slice A0_2 l0_2.length c0_2):=(bc_ (blk_below HN0.out hb1) 2).trans rfl
    have g3 : w1.cell? ⟨w.heap.size,3,none⟩ = some (.slice A0_3 l0_3.length c0_3):=(bc_ (blk_below HN0.out hb1) 3).trans rfl
    have HB1:=mk_ hb1
    clear hb1 hcv
    go_wp2_with fail
    refine ha.mono ?_
    rintro e w2 ⟨rfl,hb2⟩
    have HB2:=mk_ (st_ HB1.out hb2)
    have hv:=HV.out _ HB2.out
    have k3 : w2.cell? ⟨w.heap.size,3,none⟩ = some (.slice A0_3 l0_3.length c0_3):=(bc_ (blk_below HN0.out HB2.out) 3).trans rfl
    clear hb2 g2 g3 ha
    go_wp2_with fail
    refine hv.mono ?_
    rintro e w3 ⟨rfl,hb3⟩
    go_wp2_with fail
    go_ret
    exact ⟨by rw [HZ2.out];rfl,st_ HB0.out (st_ HB2.out hb3)⟩
  ·have e1 : ((l0_3.length : Int) == (l0_2.length : Int)) = false:=beq_eq_false_iff_ne.mpr (by omega)
   have e2 : (l0_3.length == l0_2.length) = false:=beq_eq_false_iff_ne.mpr heq
   have e3 : decide (l0_3.length = l0_2.length) = false:=decide_eq_false heq
   have HZ2 : Aside0 (z = false):=⟨by rw [HZ.out,e3];simp⟩
   clear heq
   go_enter Try.func15,Try.ntmps15
   go_wp2_with fail
   refine hcv.mono ?_
   rintro e w1 ⟨rfl,hb1⟩
   have g2 : w1.cell? ⟨w.heap.size,2,none⟩ = some (.slice A0_2 l0_2.length c0_2):=(bc_ (blk_below HN0.out hb1) 2).trans rfl
   have g3 : w1.cell? ⟨w.heap.size,3,none⟩ = some (.slice A0_3 l0_3.length c0_3):=(bc_ (blk_below HN0.out hb1) 3).trans rfl
   have HB1:=mk_ (st_ HB0.out hb1)
   clear hb1 hcv
   go_wp2_with fail
   go_ret
   exact ⟨by rw [HZ2.out];rfl,HB1.out⟩
 ·have HZ2 : Aside0 (z = false):=⟨by rw [HZ.out,decide_eq_false (show ¬ l0_2.length ≤ 15 by omega)];rfl⟩
  go_enter Try.func15,Try.ntmps15
  go_wp2_with fail
  refine hcv.mono ?_
  rintro e w1 ⟨rfl,hb1⟩
  have g2 : w1.cell? ⟨w.heap.size,2,none⟩ = some (.slice A0_2 l0_2.length c0_2):=(bc_ (blk_below HN0.out hb1) 2).trans rfl
  have HB1:=mk_ (st_ HB0.out hb1)
  clear hb1 hcv
  go_wp2_with fail
  go_ret
  exact ⟨by rw [HZ2.out];rfl,HB1.out⟩

/-! ### impl_Net_station: function 54 -/
def impl_Net_station.f (a0_0 : Int) (l0_1 : List (S51)) (l0_2 : List Int) (l0_3 : List Int) (a1 : Int) : Option (Bool):=(impl_NetValid.f a0_0 l0_1 l0_2 l0_3).bind fun t103 => (if t103 = true then ((impl_within.f a1 0 (wrap64 ((l0_2.length : Int) - 1))).bind fun t104 => (some t104)) else (some false))
set_option maxHeartbeats 8000000 in
set_option maxRecDepth 100000 in
theorem impl_Net_station.calls (a0_0 : Int) (A0_1 : Option Addr) (c0_1 : Nat) (l0_1 : List (S51)) (A0_2 : Option Addr) (c0_2 : Nat) (l0_2 : List Int) (A0_3 : Option Addr) (c0_3 : Nat) (l0_3 : List Int) (a1 : Int) (r : Bool) (w : World) (hr0_1 : Kd.C k51 w A0_1 l0_1.length l0_1) (hc0_1 : l0_1.length ≤ c0_1) (hr0_2 : Kd.C (Kd.int .i64) w A0_2 l0_2.length l0_2) (hc0_2 : l0_2.length ≤ c0_2) (hr0_3 : Kd.C (Kd.int .i64) w A0_3 l0_3.length l0_3) (hc0_3 : l0_3.length ≤ c0_3) (h : impl_Net_station.f a0_0 l0_1 l0_2 l0_3 a1 = some r) :
  Calls Try.prog 54 #[.agg #[.int .i64 a0_0,.slice A0_1 l0_1.length c0_1,.slice A0_2 l0_2.length c0_2,.slice A0_3 l0_3.length c0_3],.int .i64 a1] w fun e w' => e = .returned (.bool r) ∧ Below w.heap.size w w':=by
 have hu30:=Try.underlying30
 have HR0_1:=mk_ hr0_1
 have HC0_1:=mk_ hc0_1
 clear hr0_1 hc0_1
 have HR0_2:=mk_ hr0_2
 have HC0_2:=mk_ hc0_2
 clear hr0_2 hc0_2
 have HR0_3:=mk_ hr0_3
 have HC0_3:=mk_ hc0_3
 clear hr0_3 hc0_3
 have HB:=mk_ (Below.refl w.heap.size w)
 have H : ((impl_NetValid.f a0_0 l0_1 l0_2 l0_3).bind fun t103 => (if t103 = true then ((impl_within.f a1 0 (wrap64 ((l0_2.length : Int) - 1))).bind fun t104 => (some t104)) else (some false))) = some r:=h
 clear h
 replace H:=Option.bind_eq_some_iff.mp H
 obtain ⟨t103,A30,H⟩:=H
 replace H : (if t103 = true then ((impl_within.f a1 0 (wrap64 ((l0_2.length : Int) - 1))).bind fun t104 => (some t104)) else (some false)) = some r:=H
 have A3:=mk_ A30
 clear A30
 by_cases c4 : t103 = true
 ·subst c4
  have H1 : ((impl_within.f a1 0 (wrap64 ((l0_2.length : Int) - 1))).bind fun t104 => (some t104)) = some r:=by rw [if_pos rfl] at H;exact H
  clear H
  have H:=H1
  clear H1
  replace H:=Option.bind_eq_some_iff.mp H
  obtain ⟨t104,A50,H⟩:=H
  replace H : (some t104) = some r:=H
  have A5:=mk_ A50
  clear A50
  obtain rfl:=Option.some.inj H
  go_enter Try.func54,Try.ntmps54
  go_wp2_with (first|((with_reducible refine gate_dst (N:=2) rfl ?_);(try (refine gate_guard (by rfl) ?_;dsimp only));refine box_event ?hg (N:=2) ?hd (cs:=#[.int .i64 a0_0,.slice A0_1 l0_1.length c0_1,.slice A0_2 l0_2.length c0_2,.slice A0_3 l0_3.length c0_3]) (t:=30) ?hr ?_;(case hd => rfl);(case hg => rfl);(case hr => first|(go_simp;done)|(go_simp;rfl));intro gb102 hg w6 hbox hb;have n0_:=mk_ (st_ (qb_ HB) hb);have n1_:=mk_ (hbox);have n2_:=mk_ ((by rw [hg];exact (bz_ (qb_ HB)) : w.heap.size ≤ gb102));have n3_:=mk_ ((by rw [hg];exact (bz_ (qb_ HB)) : w.heap.size ≤ gb102));clear HB;have HB:=n0_;have BK102:=n1_;have GW102:=n2_;have GE102:=n3_;clear n0_ n1_ n2_ n3_;clear hb hbox hg;have hcz7_0 : w6.cell? ⟨gb102,0,none⟩ = some (.int .i64 a0_0):=(bc_ BK102.out 0).trans rfl;have hcz7_1 : w6.cell? ⟨gb102,1,none⟩ = some (.slice A0_1 l0_1.length c0_1):=(bc_ BK102.out 1).trans rfl;have hcz7_2 : w6.cell? ⟨gb102,2,none⟩ = some (.slice A0_2 l0_2.length c0_2):=(bc_ BK102.out 2).trans rfl;have hcz7_3 : w6.cell? ⟨gb102,3,none⟩ = some (.slice A0_3 l0_3.length c0_3):=(bc_ BK102.out 3).trans rfl;have hfz7_0:=bf_ BK102.out 0;have hfz7_1:=bf_ BK102.out 1;have hfz7_2:=bf_ BK102.out 2;have hfz7_3:=bf_ BK102.out 3)|((with_reducible refine gate_callee (f:=15) rfl ?_);refine goesL_ (some 6) rfl rfl Try.func15 (by kernel_rfl) rfl #[.agg #[.int .i64 a0_0,.slice A0_1 l0_1.length c0_1,.slice A0_2 l0_2.length c0_2,.slice A0_3 l0_3.length c0_3]] rfl qm_ ?_;(with_reducible refine (impl_NetValid.calls a0_0 _ _ l0_1 _ _ l0_2 _ _ l0_3 true _ ?side1 ?side2 ?side3 ?side4 ?side5 ?side6 A3.out).mono ?_);(case side1 => repeat (first|exact (cb_ HR0_1.out HB.out)|(with_reducible refine ca_ ?_ _)|(with_reducible refine cn_ ?_ _)|(with_reducible refine cd_ ?_)));(case side2 => exact HC0_1.out);(case side3 => repeat (first|exact (cb_ HR0_2.out HB.out)|(with_reducible refine ca_ ?_ _)|(with_reducible refine cn_ ?_ _)|(with_reducible refine cd_ ?_)));(case side4 => exact HC0_2.out);(case side5 => repeat (first|exact (cb_ HR0_3.out HB.out)|(with_reducible refine ca_ ?_ _)|(with_reducible refine cn_ ?_ _)|(with_reducible refine cd_ ?_)));(case side6 => exact HC0_3.out);rintro e w8 ⟨rfl,hb⟩;refine ⟨_,rfl,?_⟩;have n0_:=mk_ (blk_below (g:=gb102) (o:=.cells #[.int .i64 a0_0,.slice A0_1 l0_1.length c0_1,.slice A0_2 l0_2.length c0_2,.slice A0_3 l0_3.length c0_3] 30 (0,0)) (qk_ BK102) hb);have n1_:=mk_ (st_ (qc_ HB GE102) hb);clear BK102;clear HB;have BK102:=n0_;have HB:=n1_;clear n0_ n1_;(try clear hb);(try clear hb2);(try clear hk);(try clear hi);have hcz9_0 : w8.cell? ⟨gb102,0,none⟩ = some (.int .i64 a0_0):=(bc_ BK102.out 0).trans rfl;have hcz9_1 : w8.cell? ⟨gb102,1,none⟩ = some (.slice A0_1 l0_1.length c0_1):=(bc_ BK102.out 1).trans rfl;have hcz9_2 : w8.cell? ⟨gb102,2,none⟩ = some (.slice A0_2 l0_2.length c0_2):=(bc_ BK102.out 2).trans rfl;have hcz9_3 : w8.cell? ⟨gb102,3,none⟩ = some (.slice A0_3 l0_3.length c0_3):=(bc_ BK102.out 3).trans rfl;have hfz9_0:=bf_ BK102.out 0;have hfz9_1:=bf_ BK102.out 1;have hfz9_2:=bf_ BK102.out 2;have hfz9_3:=bf_ BK102.out 3)|(go_at_call 48;(with_reducible refine (impl_within.calls a1 0 (wrap64 ((l0_2.length : Int) - 1)) t104 _ A5.out).mono ?_);rintro e w' ⟨rfl,⟨nd,rfl⟩⟩))
  go_ret
  exact ⟨by first|rfl|(simp [errW_none,errW_some] <;> rfl)|(simp [*,errW_none,errW_some] <;> rfl),by repeat (first|(with_reducible first|exact HB.out|apply ba_|apply bn_|apply bd_|refine bs_ ?_ GE102.out)|exact HB.out)⟩
 ·replace c4:=Bool.eq_false_iff.mpr c4
  subst c4
  have H1 : (some false) = some r:=by rw [if_neg (show ¬ (false = true) by decide)] at H;exact H
  clear H
  have H:=H1
  clear H1
  obtain rfl:=Option.some.inj H
  go_enter Try.func54,Try.ntmps54
  go_wp2_with (first|((with_reducible refine gate_dst (N:=2) rfl ?_);(try (refine gate_guard (by rfl) ?_;dsimp only));refine box_event ?hg (N:=2) ?hd (cs:=#[.int .i64 a0_0,.slice A0_1 l0_1.length c0_1,.slice A0_2 l0_2.length c0_2,.slice A0_3 l0_3.length c0_3]) (t:=30) ?hr ?_;(case hd => rfl);(case hg => rfl);(case hr => first|(go_simp;done)|(go_simp;rfl));intro gb102 hg w10 hbox hb;have n0_:=mk_ (st_ (qb_ HB) hb);have n1_:=mk_ (hbox);have n2_:=mk_ ((by rw [hg];exact (bz_ (qb_ HB)) : w.heap.size ≤ gb102));have n3_:=mk_ ((by rw [hg];exact (bz_ (qb_ HB)) : w.heap.size ≤ gb102));clear HB;have HB:=n0_;have BK102:=n1_;have GW102:=n2_;have GE102:=n3_;clear n0_ n1_ n2_ n3_;clear hb hbox hg;have hcz11_0 : w10.cell? ⟨gb102,0,none⟩ = some (.int .i64 a0_0):=(bc_ BK102.out 0).trans rfl;have hcz11_1 : w10.cell? ⟨gb102,1,none⟩ = some (.slice A0_1 l0_1.length c0_1):=(bc_ BK102.out 1).trans rfl;have hcz11_2 : w10.cell? ⟨gb102,2,none⟩ = some (.slice A0_2 l0_2.length c0_2):=(bc_ BK102.out 2).trans rfl;have hcz11_3 : w10.cell? ⟨gb102,3,none⟩ = some (.slice A0_3 l0_3.length c0_3):=(bc_ BK102.out 3).trans rfl;have hfz11_0:=bf_ BK102.out 0;have hfz11_1:=bf_ BK102.out 1;have hfz11_2:=bf_ BK102.out 2;have hfz11_3:=bf_ BK102.out 3)|((with_reducible refine gate_callee (f:=15) rfl ?_);refine goesL_ (some 6) rfl rfl Try.func15 (by kernel_rfl) rfl #[.agg #[.int .i64 a0_0,.slice A0_1 l0_1.length c0_1,.slice A0_2 l0_2.length c0_2,.slice A0_3 l0_3.length c0_3]] rfl qm_ ?_;(with_reducible refine (impl_NetValid.calls a0_0 _ _ l0_1 _ _ l0_2 _ _ l0_3 false _ ?side1 ?side2 ?side3 ?side4 ?side5 ?side6 A3.out).mono ?_);(case side1 => repeat (first|exact (cb_ HR0_1.out HB.out)|(with_reducible refine ca_ ?_ _)|(with_reducible refine cn_ ?_ _)|(with_reducible refine cd_ ?_)));(case side2 => exact HC0_1.out);(case side3 => repeat (first|exact (cb_ HR0_2.out HB.out)|(with_reducible refine ca_ ?_ _)|(with_reducible refine cn_ ?_ _)|(with_reducible refine cd_ ?_)));(case side4 => exact HC0_2.out);(case side5 => repeat (first|exact (cb_ HR0_3.out HB.out)|(with_reducible refine ca_ ?_ _)|(with_reducible refine cn_ ?_ _)|(with_reducible refine cd_ ?_)));(case side6 => exact HC0_3.out);rintro e w12 ⟨rfl,hb⟩;refine ⟨_,rfl,?_⟩;have n0_:=mk_ (blk_below (g:=gb102) (o:=.cells #[.int .i64 a0_0,.slice A0_1 l0_1.length c0_1,.slice A0_2 l0_2.length c0_2,.slice A0_3 l0_3.length c0_3] 30 (0,0)) (qk_ BK102) hb);have n1_:=mk_ (st_ (qc_ HB GE102) hb);clear BK102;clear HB;have BK102:=n0_;have HB:=n1_;clear n0_ n1_;(try clear hb);(try clear hb2);(try clear hk);(try clear hi)))
  go_ret
  exact ⟨by first|rfl|(simp [errW_none,errW_some] <;> rfl)|(simp [*,errW_none,errW_some] <;> rfl),by repeat (first|(with_reducible first|exact HB.out|apply ba_|apply bn_|apply bd_|refine bs_ ?_ GE102.out)|exact HB.out)⟩

-- LIB rootsof
/-- A cable makes the roots of its bridges one. -/
def relaxR (o : List Int) (c : S51) : List Int:=(o.set c.f0.toNat (mn (rd o c.f0) (rd o c.f1))).set c.f1.toNat (mn (rd o c.f0) (rd o c.f1))
/-- The first numbers of a row are those of their places. -/
def fillL : Nat → List Int → List Int
  | 0,l => l
  | k + 1,l => (fillL k l).set k (k : Int)
def passR (cs : List S51) : Nat → List Int → List Int
  | 0,l => l
  | k + 1,l => cs.foldl relaxR (passR cs k l)
def rootsL (N : Nat) (cs : List S51) : List Int:=passR cs N (fillL N (List.replicate N 0))
theorem foldl_len (cs : List S51) : ∀ l,(cs.foldl relaxR l).length = l.length:=by
  induction cs with
  | nil => exact fun _ => rfl
  | cons c cs ih => intro l;rw [List.foldl_cons,ih];unfold relaxR;simp
theorem fillL_len (k : Nat) (l : List Int) : (fillL k l).length = l.length:=by
  induction k with
  | zero => rfl
  | succ k ih => rw [fillL,List.length_set,ih]
theorem passR_len (cs : List S51) (k : Nat) (l : List Int) : (passR cs k l).length = l.length:=by
  induction k with
  | zero => rfl
  | succ k ih => rw [passR,foldl_len,ih]
set_option maxHeartbeats 8000000 in
set_option maxRecDepth 100000 in
theorem x_rootsOf (N : Nat) (A1 : Option Addr) (c1 : Nat) (l1 : List S51) (w : World) (hN : 1 ≤ N ∧ N ≤ 8) (hl : l1.length ≤ 20) (hcs : ∀ x ∈ l1,0 ≤ x.f0 ∧ x.f0 < N ∧ 0 ≤ x.f1 ∧ x.f1 < N ∧ x.f0 ≠ x.f1) (hr1 : Kd.C k51 w A1 l1.length l1) :
    Calls Try.prog 55 #[.int .i64 (N : Int),.slice A1 l1.length c1] w fun e w' => ∃ v0_ : Value,e = .returned (v0_) ∧ Kd.R (Kd.int .i64) 3 w' w.heap.size (fun _ => True) v0_ (rootsL N l1) ∧ Below w.heap.size w w':=by
  have hu:=Try.underlying51
  have HR:=Aside0.mk hr1
  have HCS:=Aside0.mk hcs
  have HZ : Aside0 (rootsL N l1 = passR l1 N (fillL N (List.replicate N 0))):=⟨rfl⟩
  generalize rootsL N l1 = z at HZ ⊢
  clear hr1 hcs
  obtain ⟨hN1,hN8⟩:=hN
  go_enter Try.func55,Try.ntmps55
  go_wp2_with (first | ((with_reducible refine gate_dst (N:=11) rfl ?_);refine Kd.R_make (Kd.int .i64) (w0:=w) w.heap.size 3 rfl (N:=11) rfl 23 _ _ rfl (N : Int) rfl rfl Try.underlying23 (.int .i64 0) 8 (by kernel_rfl) rfl (by decide) (by omega) 0 (ok:=fun _ => True) (okp:=fun _ => True) rfl (fun _ hk => hk) trivial (by omega) (by rw [Int.toNat_natCast];omega) (Below.refl _ _) (Nat.le_refl _) ?_;intro v1 w1 ho hb hg hnew;rw [Int.toNat_natCast] at ho;obtain ⟨go,co,ev,hgo,hgl,_⟩:=Kd.R_form ho (by simp;omega);rw [List.length_replicate] at ev;subst ev;have HO1:=Aside0.mk ho;have HB1:=Aside0.mk hb;clear ho hb hg hnew))
  go_loopg [6,14] N (fun gg _ s14 wr => ∃ kk : Nat,kk ≤ N ∧ N - kk ≤ gg ∧ s14 = .int .i64 kk ∧ Aside0 (Kd.R (Kd.int .i64) 3 wr w.heap.size (fun _ => True) (.slice (some ⟨go,0,none⟩) N co) (fillL kk (List.replicate N 0))) ∧ Aside0 (Below w.heap.size w wr))
  case atStart => exact ⟨0,Nat.zero_le _,by omega,rfl,HO1,HB1⟩
  case round =>
    clear HO1 HB1
    obtain ⟨kk,hkk,hgg,rfl,HO,BW⟩:=hrel
    by_cases hlt : kk < N
    · obtain ⟨hx,hf⟩:=Kd.R_celln 0 HO.out (kk : Int) (by omega) (by omega)
      have HP:=Kd.R_putg HO.out (kk : Int) (kk : Int)
      have hp1:=Aside0.mk HP.1
      have hb1:=Aside0.mk (below_set BW.out hgo (j:=(kk : Int).toNat) (v:=.int .i64 (kk : Int)))
      rw [Int.toNat_natCast] at hx hf hp1 hb1
      have p1 : ((kk : Int) < (N : Int)) = True:=eq_true (by omega)
      have p0 : (0 ≤ (kk : Int)) = True:=eq_true (by omega)
      clear HP
      go_wp2
      go_roundg (N - (kk + 1))
      case measure => omega
      case rel => exact ⟨kk + 1,by omega,by omega,by go_num,hp1,hb1⟩
    · have e : kk = N:=by omega
      subst e
      have HK:=Aside0.mk HO.out
      have HBK:=Aside0.mk BW.out
      clear hlt hkk hgg HO BW
      go_wp2
      obtain ⟨wo,rfl⟩ : ∃ wo : World,wo = wr:=⟨_,rfl⟩
      go_loopg [8,9,23,27] kk (fun gg _ _ s23 _ wr => ∃ ii : Nat,ii ≤ kk ∧ kk - ii ≤ gg ∧ s23 = .int .i64 ii ∧ Aside0 (Kd.R (Kd.int .i64) 3 wr w.heap.size (fun _ => True) (.slice (some ⟨go,0,none⟩) kk co) (passR l1 ii (fillL kk (List.replicate kk 0)))) ∧ Aside0 (Below w.heap.size w wr))
      case atStart => exact ⟨0,Nat.zero_le _,by omega,rfl,HK,HBK⟩
      case round =>
        clear HK HBK
        obtain ⟨ii,hii,hgg,rfl,HO,BW⟩:=hrel
        by_cases hlt : ii < kk
        · have p1 : ((ii : Int) < (kk : Int)) = True:=eq_true (by omega)
          have HO0:=HO
          have HB0:=BW
          have HL0 : Aside0 ((passR l1 ii (fillL kk (List.replicate kk 0))).length = kk):=⟨by rw [passR_len,fillL_len,List.length_replicate]⟩
          have HP0 : Aside0 (passR l1 (ii + 1) (fillL kk (List.replicate kk 0)) = l1.foldl relaxR (passR l1 ii (fillL kk (List.replicate kk 0)))):=⟨rfl⟩
          generalize passR l1 ii (fillL kk (List.replicate kk 0)) = L0 at HO0 HL0 HP0
          clear HO BW
          go_wp2
          obtain ⟨wo2,rfl⟩ : ∃ wo2 : World,wo2 = wr:=⟨_,rfl⟩
          go_loopg [8,9,27] l1.length (fun gg _ _ s27 wr => ∃ jj : Nat,jj ≤ l1.length ∧ l1.length - jj ≤ gg ∧ s27 = .int .i64 jj ∧ Aside0 (Kd.R (Kd.int .i64) 3 wr w.heap.size (fun _ => True) (.slice (some ⟨go,0,none⟩) kk co) ((l1.take jj).foldl relaxR L0)) ∧ Aside0 (Below w.heap.size w wr))
          case atStart => exact ⟨0,Nat.zero_le _,by omega,rfl,HO0,HB0⟩
          case round =>
            clear HO0 HB0
            obtain ⟨jj,hjj,hgg2,rfl,HO,BW⟩:=hrel
            by_cases hlt2 : jj < l1.length
            · obtain ⟨ad,e,hx0,hx1,hx2⟩:=at_T51 (Kd.C_below HR.out BW.out) (jj : Int) (by omega) (by omega)
              cases e
              rw [Int.toNat_natCast] at hx0 hx1 hx2
              rw [rdCab_get l1 jj hlt2] at hx0 hx1 hx2
              obtain ⟨g1,g2,g3,g4,g5⟩:=HCS.out l1[jj] (List.getElem_mem hlt2)
              have HF : Aside0 ((l1.take (jj + 1)).foldl relaxR L0 = relaxR ((l1.take jj).foldl relaxR L0) l1[jj]):=⟨by rw [List.take_succ_eq_append_getElem hlt2,List.foldl_append];rfl⟩
              have HL1 : Aside0 (((l1.take jj).foldl relaxR L0).length = kk):=⟨by rw [foldl_len,HL0.out]⟩
              generalize l1[jj] = cc at hx0 hx1 hx2 g1 g2 g3 g4 g5 HF
              obtain ⟨A,B,C⟩:=cc
              simp only [] at hx0 hx1 hx2 g1 g2 g3 g4 g5
              generalize (l1.take jj).foldl relaxR L0 = L1 at HO HF HL1
              have p1 : ((jj : Int) < (l1.length : Int)) = True:=eq_true (by omega)
              have hsz : w.heap.size ≤ wr.heap.size:=BW.out.size
              go_wp2
              have HOa:=Kd.R_below HO.out (below_alloc (Below.refl _ wr) (.cells #[.int .i64 A,.int .i64 B,.int .i64 C] 51))
              have HBa:=Aside0.mk (below_alloc BW.out (.cells #[.int .i64 A,.int .i64 B,.int .i64 C] 51))
              have HNa:=blk_new wr (.cells #[.int .i64 A,.int .i64 B,.int .i64 C] 51)
              have hgs:=Aside0.mk hsz
              generalize wr.alloc (.cells #[.int .i64 A,.int .i64 B,.int .i64 C] 51) = W1 at HOa HBa HNa ⊢
              generalize wr.heap.size = gc at HNa hgs ⊢
              have k0 : W1.cell? ⟨gc,0,none⟩ = some (.int .i64 A):=(blk_cell HNa 0).trans rfl
              have k1 : W1.cell? ⟨gc,1,none⟩ = some (.int .i64 B):=(blk_cell HNa 1).trans rfl
              obtain ⟨ha,fa⟩:=Kd.R_celln 0 HOa A g1 g2
              obtain ⟨hb,fb⟩:=Kd.R_celln 0 HOa B g3 g4
              have q1 : (0 ≤ A) = True:=eq_true g1
              have q2 : (A < (kk : Int)) = True:=eq_true g2
              have q3 : (0 ≤ B) = True:=eq_true g3
              have q4 : (B < (kk : Int)) = True:=eq_true g4
              have HOA:=Aside0.mk HOa
              clear HOa HO BW hsz
              have HM : Aside0 (relaxR L1 ⟨A,B,C⟩ = (L1.set A.toNat (mn (rdOf 0 L1 A) (rdOf 0 L1 B))).set B.toNat (mn (rdOf 0 L1 A) (rdOf 0 L1 B))):=⟨rfl⟩
              have n1 : (A.toNat = B.toNat) = False:=eq_false (by omega)
              have n2 : (B.toNat = A.toNat) = False:=eq_false (by omega)
              have HN:=Aside0.mk HNa
              have hgne : gc ≠ go:=by
                intro e
                rw [e] at HNa
                exact Kd.R_ne HOA.out HNa (by decide) (by simp [Value.ownBlock])
              have n3 : (gc = go) = False:=eq_false hgne
              have n4 : (go = gc) = False:=eq_false (Ne.symm hgne)
              clear g5 HNa hgne
              have hmn : mn (rdOf 0 L1 A) (rdOf 0 L1 B) = if rdOf 0 L1 A ≤ rdOf 0 L1 B then rdOf 0 L1 A else rdOf 0 L1 B:=by
                show (if rdOf 0 L1 B < rdOf 0 L1 A then rdOf 0 L1 B else rdOf 0 L1 A) = _
                split <;> split <;> omega
              rw [hmn] at HM
              clear hmn
              generalize rdOf 0 L1 A = ra at *
              generalize rdOf 0 L1 B = rb at *
              go_quiet (fail)
              go_wp2
              all_goals (first | ((have hm : ra ≤ rb:=by assumption);rw [if_pos hm] at HM;clear hm) | ((have hm : rb < ra:=by assumption);rw [if_neg (by omega)] at HM;clear hm))
              all_goals
                have k0' : (W1.drewN nq).cell? ⟨gc,0,none⟩ = some (.int .i64 A):=k0
                have k1' : (W1.drewN nq).cell? ⟨gc,1,none⟩ = some (.int .i64 B):=k1
                have ha' : (W1.drewN nq).cell? ⟨go,A.toNat,none⟩ = some (.int .i64 ra):=ha
                have hb' : (W1.drewN nq).cell? ⟨go,B.toNat,none⟩ = some (.int .i64 rb):=hb
                have fa' : (W1.drewN nq).frozen? ⟨go,A.toNat,none⟩ = false:=fa
                have fb' : (W1.drewN nq).frozen? ⟨go,B.toNat,none⟩ = false:=fb
                have HO2:=Aside0.mk (Kd.R_below HOA.out (pw_below_drewN (Below.refl _ W1) nq))
                have HB2:=Aside0.mk (below_step HBa.out (pw_below_drewN (Below.refl _ W1) nq))
                clear k0 k1 ha hb fa fb HOA HBa
                generalize W1.drewN nq = W2 at *
                go_region
              · have HO3:=Aside0.mk (Kd.R_drew (Kd.R_putg (Kd.R_putg HO2.out A rb).1 B rb).1)
                have HB3:=Aside0.mk (below_drew1 (below_set (below_set HB2.out hgo (j:=A.toNat) (v:=.int .i64 rb)) hgo (j:=B.toNat) (v:=.int .i64 rb)))
                rw [← HM.out,← HF.out] at HO3
                clear HO2 HB2 k0' k1' ha' hb' fa' fb'
                go_wp2
                go_roundg (l1.length - (jj + 1))
                case measure => omega
                case rel => exact ⟨jj + 1,by omega,by omega,by go_num,HO3,HB3⟩
              · have HO3:=Aside0.mk (Kd.R_drew (Kd.R_putg (Kd.R_putg HO2.out A ra).1 B ra).1)
                have HB3:=Aside0.mk (below_drew1 (below_set (below_set HB2.out hgo (j:=A.toNat) (v:=.int .i64 ra)) hgo (j:=B.toNat) (v:=.int .i64 ra)))
                rw [← HM.out,← HF.out] at HO3
                clear HO2 HB2 k0' k1' ha' hb' fa' fb'
                go_wp2
                go_roundg (l1.length - (jj + 1))
                case measure => omega
                case rel => exact ⟨jj + 1,by omega,by omega,by go_num,HO3,HB3⟩
            · have e : jj = l1.length:=by omega
              subst e
              rw [List.take_length,← HP0.out] at HO
              go_wp2
              go_roundg (kk - (ii + 1))
              case measure => omega
              case rel => exact ⟨ii + 1,by omega,by omega,by go_num,HO,BW⟩
        · have e : ii = kk:=by omega
          subst e
          go_wp2
          go_ret
          exact ⟨_,rfl,by rw [HZ.out];exact HO.out,BW.out⟩

/-! ### impl_rootsOf: function 55 (by hand) -/
def impl_rootsOf.f (a0 : Int) (l1 : List (S51)) : Option (List Int) :=
 if cabsB a0 l1 = true then some (rootsL a0.toNat l1) else none
set_option maxHeartbeats 4000000 in
set_option maxRecDepth 100000 in
theorem impl_rootsOf.calls (a0 : Int) (A1 : Option Addr) (c1 : Nat) (l1 : List (S51)) (r : List Int) (w : World) (hr1 : Kd.C k51 w A1 l1.length l1) (hc1 : l1.length ≤ c1) (h : impl_rootsOf.f a0 l1 = some r) :
  Calls Try.prog 55 #[.int .i64 a0,.slice A1 l1.length c1] w fun e w' => ∃ v0_ : Value,e = .returned (v0_) ∧ Kd.R (Kd.int .i64) 3 w' w.heap.size (fun _ => True) v0_ r ∧ Below w.heap.size w w':=by
 unfold impl_rootsOf.f at h
 cases hv : cabsB a0 l1 with
 | false => rw [hv,if_neg (by decide)] at h;cases h
 | true =>
  rw [hv,if_pos rfl] at h
  obtain rfl:=Option.some.inj h
  obtain ⟨f1,f2,f3,f4⟩:=cabsB_facts hv
  obtain ⟨N,hN⟩ : ∃ N : Nat,a0 = (N : Int):=⟨a0.toNat,by omega⟩
  subst hN
  rw [Int.toNat_natCast]
  exact x_rootsOf N A1 c1 l1 w (by omega) f3 (fun x hx => by have:=f4 x hx;omega) hr1

/-! ### impl_MatesOf: function 18 -/
def impl_MatesOf.l0 : Nat → Int → List Int → List Int → List Int → Int → Int → Int → List (S51) → List Int → List Int → Option (List Int)
 | 0,_,_,_,_,_,_,_,_,_,_ => none
 | k + 1,x1,x5,x6,x19,x20,x21,x106000,x106001,x106002,x106003 => if x21 < x20 then (if 0 ≤ x21 then (if x21 < (x19.length : Int) then (if x21 = x1 then (impl_MatesOf.l0 k x1 x5 x6 x19 x20 (wrap64 (x21 + 1)) x106000 x106001 x106002 x106003) else (if x21 < (x106003.length : Int) then (if 0 ≤ x1 then (if x1 < (x106003.length : Int) then (if (rd x106003 x21) = (rd x106003 x1) then (if 0 ≤ (rd x19 x21) then (if (rd x19 x21) < (x5.length : Int) then (if x1 < (x106002.length : Int) then (if 0 ≤ (rd x106002 x1) then (if (rd x106002 x1) < (x5.length : Int) then (if (rd x5 (rd x19 x21)) = (rd x5 (rd x106002 x1)) then (if x6.length < 17592186044416 then (impl_MatesOf.l0 k x1 x5 (x6 ++ [x21]) x19 x20 (wrap64 (x21 + 1)) x106000 x106001 x106002 x106003) else (none)) else (impl_MatesOf.l0 k x1 x5 x6 x19 x20 (wrap64 (x21 + 1)) x106000 x106001 x106002 x106003)) else (none)) else (none)) else (none)) else (none)) else (none)) else (impl_MatesOf.l0 k x1 x5 x6 x19 x20 (wrap64 (x21 + 1)) x106000 x106001 x106002 x106003)) else (none)) else (none)) else (none))) else (none)) else (none)) else (some x6)
def impl_MatesOf.f (k : Nat) (a0_0 : Int) (l0_1 : List (S51)) (l0_2 : List Int) (l0_3 : List Int) (a1 : Int) : Option (List Int):=(impl_Net_station.f a0_0 l0_1 l0_2 l0_3 a1).bind fun t106 => (if t106 = true then ((impl_rootsOf.f a0_0 l0_1).bind fun t107 => (impl_MatesOf.l0 k a1 t107 ([] : List Int) l0_2 (l0_2.length : Int) 0 a0_0 l0_1 l0_2 l0_3)) else (some ([] : List Int)))
theorem impl_MatesOf.mono_l : ∀ k,(∀ y0 y1 y2 y3 y4 y5 y6 y7 y8 y9,LeO (impl_MatesOf.l0 k y0 y1 y2 y3 y4 y5 y6 y7 y8 y9) (impl_MatesOf.l0 (k + 1) y0 y1 y2 y3 y4 y5 y6 y7 y8 y9))
 | 0 => fun _ _ _ _ _ _ _ _ _ _ r h => by simp [impl_MatesOf.l0] at h
 | k + 1 => by
  have ih0:=impl_MatesOf.mono_l k
  ·intro y0 y1 y2 y3 y4 y5 y6 y7 y8 y9
   unfold impl_MatesOf.l0
   repeat' first
   | (with_reducible exact ih0 _ _ _ _ _ _ _ _ _ _)
   | (with_reducible exact LeO.refl _)
   | (with_reducible exact LeO.none _)
   | (with_reducible refine LeO.ite ?_ ?_)
   | (with_reducible refine LeO.bind ?_ (fun _ => ?_))
   | exact ih0 _ _ _ _ _ _ _ _ _ _
   | exact LeO.none _
   | refine LeO.ite ?_ ?_
   | refine LeO.bind ?_ (fun _ => ?_)
theorem impl_MatesOf.mono : ∀ a0 a1 a2 a3 a4 k,LeO (impl_MatesOf.f k a0 a1 a2 a3 a4) (impl_MatesOf.f (k + 1) a0 a1 a2 a3 a4):=by
 intro a0 a1 a2 a3 a4 k
 have ih0:=impl_MatesOf.mono_l k
 unfold impl_MatesOf.f
 repeat' first
   | (with_reducible exact ih0 _ _ _ _ _ _ _ _ _ _)
   | (with_reducible exact LeO.refl _)
   | (with_reducible exact LeO.none _)
   | (with_reducible refine LeO.ite ?_ ?_)
   | (with_reducible refine LeO.bind ?_ (fun _ => ?_))
   | exact ih0 _ _ _ _ _ _ _ _ _ _
   | exact LeO.none _
   | refine LeO.ite ?_ ?_
   | refine LeO.bind ?_ (fun _ => ?_)
set_option maxHeartbeats 8000000 in
set_option maxRecDepth 100000 in
theorem impl_MatesOf.calls (k : Nat) (a0_0 : Int) (A0_1 : Option Addr) (c0_1 : Nat) (l0_1 : List (S51)) (A0_2 : Option Addr) (c0_2 : Nat) (l0_2 : List Int) (A0_3 : Option Addr) (c0_3 : Nat) (l0_3 : List Int) (a1 : Int) (r : List Int) (w : World) (hr0_1 : Kd.C k51 w A0_1 l0_1.length l0_1) (hc0_1 : l0_1.length ≤ c0_1) (hr0_2 : Kd.C (Kd.int .i64) w A0_2 l0_2.length l0_2) (hc0_2 : l0_2.length ≤ c0_2) (hr0_3 : Kd.C (Kd.int .i64) w A0_3 l0_3.length l0_3) (hc0_3 : l0_3.length ≤ c0_3) (h : impl_MatesOf.f k a0_0 l0_1 l0_2 l0_3 a1 = some r) :
  Calls Try.prog 18 #[.agg #[.int .i64 a0_0,.slice A0_1 l0_1.length c0_1,.slice A0_2 l0_2.length c0_2,.slice A0_3 l0_3.length c0_3],.int .i64 a1] w fun e w' => ∃ v0_ : Value,e = .returned (v0_) ∧ Kd.R (Kd.int .i64) 3 w' w.heap.size (fun _ => True) v0_ r ∧ Below w.heap.size w w':=by
 have hu30:=Try.underlying30
 have HR0_1:=mk_ hr0_1
 have HC0_1:=mk_ hc0_1
 clear hr0_1 hc0_1
 have HR0_2:=mk_ hr0_2
 have HC0_2:=mk_ hc0_2
 clear hr0_2 hc0_2
 have HR0_3:=mk_ hr0_3
 have HC0_3:=mk_ hc0_3
 clear hr0_3 hc0_3
 have HB:=mk_ (Below.refl w.heap.size w)
 have H : ((impl_Net_station.f a0_0 l0_1 l0_2 l0_3 a1).bind fun t106 => (if t106 = true then ((impl_rootsOf.f a0_0 l0_1).bind fun t107 => (impl_MatesOf.l0 k a1 t107 ([] : List Int) l0_2 (l0_2.length : Int) 0 a0_0 l0_1 l0_2 l0_3)) else (some ([] : List Int)))) = some r:=h
 clear h
 replace H:=Option.bind_eq_some_iff.mp H
 obtain ⟨t106,A30,H⟩:=H
 replace H : (if t106 = true then ((impl_rootsOf.f a0_0 l0_1).bind fun t107 => (impl_MatesOf.l0 k a1 t107 ([] : List Int) l0_2 (l0_2.length : Int) 0 a0_0 l0_1 l0_2 l0_3)) else (some ([] : List Int))) = some r:=H
 have A3:=mk_ A30
 clear A30
 by_cases c4 : t106 = true
 ·subst c4
  have H1 : ((impl_rootsOf.f a0_0 l0_1).bind fun t107 => (impl_MatesOf.l0 k a1 t107 ([] : List Int) l0_2 (l0_2.length : Int) 0 a0_0 l0_1 l0_2 l0_3)) = some r:=by rw [if_pos rfl] at H;exact H
  clear H
  have H:=H1
  clear H1
  replace H:=Option.bind_eq_some_iff.mp H
  obtain ⟨t107,A50,H⟩:=H
  replace H : (impl_MatesOf.l0 k a1 t107 ([] : List Int) l0_2 (l0_2.length : Int) 0 a0_0 l0_1 l0_2 l0_3) = some r:=H
  have A5:=mk_ A50
  clear A50
  have H':=mk_ H
  clear H
  go_enter Try.func18,Try.ntmps18
  go_wp2_with (first|((with_reducible refine gate_dst (N:=2) rfl ?_);refine box_event ?hg (N:=2) ?hd (cs:=#[.int .i64 a0_0,.slice A0_1 l0_1.length c0_1,.slice A0_2 l0_2.length c0_2,.slice A0_3 l0_3.length c0_3]) (t:=30) ?hr ?_;(case hd => rfl);(case hg => rfl);(case hr => first|(go_simp;done)|(go_simp;rfl));intro gb105 hg w6 hbox hb;have n0_:=mk_ (st_ (qb_ HB) hb);have n1_:=mk_ (hbox);have n2_:=mk_ ((by rw [hg];exact (bz_ (qb_ HB)) : w.heap.size ≤ gb105));have n3_:=mk_ ((by rw [hg];exact (bz_ (qb_ HB)) : w.heap.size ≤ gb105));clear HB;have HB:=n0_;have BK105:=n1_;have GW105:=n2_;have GE105:=n3_;clear n0_ n1_ n2_ n3_;clear hb hbox hg;have hcz7_0 : w6.cell? ⟨gb105,0,none⟩ = some (.int .i64 a0_0):=(bc_ BK105.out 0).trans rfl;have hcz7_1 : w6.cell? ⟨gb105,1,none⟩ = some (.slice A0_1 l0_1.length c0_1):=(bc_ BK105.out 1).trans rfl;have hcz7_2 : w6.cell? ⟨gb105,2,none⟩ = some (.slice A0_2 l0_2.length c0_2):=(bc_ BK105.out 2).trans rfl;have hcz7_3 : w6.cell? ⟨gb105,3,none⟩ = some (.slice A0_3 l0_3.length c0_3):=(bc_ BK105.out 3).trans rfl;have hfz7_0:=bf_ BK105.out 0;have hfz7_1:=bf_ BK105.out 1;have hfz7_2:=bf_ BK105.out 2;have hfz7_3:=bf_ BK105.out 3)|(go_at_call 54;(with_reducible refine (impl_Net_station.calls a0_0 _ _ l0_1 _ _ l0_2 _ _ l0_3 a1 true _ ?side1 ?side2 ?side3 ?side4 ?side5 ?side6 A3.out).mono ?_);(case side1 => repeat (first|exact (cb_ HR0_1.out HB.out)|(with_reducible refine ca_ ?_ _)|(with_reducible refine cn_ ?_ _)|(with_reducible refine cd_ ?_)));(case side2 => exact HC0_1.out);(case side3 => repeat (first|exact (cb_ HR0_2.out HB.out)|(with_reducible refine ca_ ?_ _)|(with_reducible refine cn_ ?_ _)|(with_reducible refine cd_ ?_)));(case side4 => exact HC0_2.out);(case side5 => repeat (first|exact (cb_ HR0_3.out HB.out)|(with_reducible refine ca_ ?_ _)|(with_reducible refine cn_ ?_ _)|(with_reducible refine cd_ ?_)));(case side6 => exact HC0_3.out);rintro e w8 ⟨rfl,hb⟩;have n0_:=mk_ (blk_below (g:=gb105) (o:=.cells #[.int .i64 a0_0,.slice A0_1 l0_1.length c0_1,.slice A0_2 l0_2.length c0_2,.slice A0_3 l0_3.length c0_3] 30 (0,0)) (qk_ BK105) hb);have n1_:=mk_ (st_ (qc_ HB GE105) hb);clear BK105;clear HB;have BK105:=n0_;have HB:=n1_;clear n0_ n1_;(try clear hb);(try clear hb2);(try clear hk);(try clear hi);have hcz9_0 : w8.cell? ⟨gb105,0,none⟩ = some (.int .i64 a0_0):=(bc_ BK105.out 0).trans rfl;have hcz9_1 : w8.cell? ⟨gb105,1,none⟩ = some (.slice A0_1 l0_1.length c0_1):=(bc_ BK105.out 1).trans rfl;have hcz9_2 : w8.cell? ⟨gb105,2,none⟩ = some (.slice A0_2 l0_2.length c0_2):=(bc_ BK105.out 2).trans rfl;have hcz9_3 : w8.cell? ⟨gb105,3,none⟩ = some (.slice A0_3 l0_3.length c0_3):=(bc_ BK105.out 3).trans rfl;have hfz9_0:=bf_ BK105.out 0;have hfz9_1:=bf_ BK105.out 1;have hfz9_2:=bf_ BK105.out 2;have hfz9_3:=bf_ BK105.out 3)|(go_at_call 55;(with_reducible refine (impl_rootsOf.calls a0_0 _ _ l0_1 t107 _ ?side1 ?side2 A5.out).mono ?_);(case side1 => repeat (first|exact (cb_ HR0_1.out HB.out)|(with_reducible refine ca_ ?_ _)|(with_reducible refine cn_ ?_ _)|(with_reducible refine cd_ ?_)));(case side2 => exact HC0_1.out);rintro e w10 ⟨v108,rfl,ho0,hb⟩;have n0_:=mk_ (Kd.R_lower ho0 (bz_ (qc_ HB GE105)));have n1_:=mk_ (blk_below (g:=gb105) (o:=.cells #[.int .i64 a0_0,.slice A0_1 l0_1.length c0_1,.slice A0_2 l0_2.length c0_2,.slice A0_3 l0_3.length c0_3] 30 (0,0)) (qk_ BK105) hb);have n2_:=mk_ (st_ (qc_ HB GE105) hb);clear BK105;clear HB;have HO109:=n0_;have BK105:=n1_;have HB:=n2_;clear n0_ n1_ n2_;(try clear hb);(try clear hb2);(try clear hk);(try clear hi);(try clear ho0);have hcz11_0 : w10.cell? ⟨gb105,0,none⟩ = some (.int .i64 a0_0):=(bc_ BK105.out 0).trans rfl;have hcz11_1 : w10.cell? ⟨gb105,1,none⟩ = some (.slice A0_1 l0_1.length c0_1):=(bc_ BK105.out 1).trans rfl;have hcz11_2 : w10.cell? ⟨gb105,2,none⟩ = some (.slice A0_2 l0_2.length c0_2):=(bc_ BK105.out 2).trans rfl;have hcz11_3 : w10.cell? ⟨gb105,3,none⟩ = some (.slice A0_3 l0_3.length c0_3):=(bc_ BK105.out 3).trans rfl;have hfz11_0:=bf_ BK105.out 0;have hfz11_1:=bf_ BK105.out 1;have hfz11_2:=bf_ BK105.out 2;have hfz11_3:=bf_ BK105.out 3))
  repeat (go_quiet (first|((with_reducible refine gate_dst (N:=2) rfl ?_);refine box_event ?hg (N:=2) ?hd (cs:=#[.int .i64 a0_0,.slice A0_1 l0_1.length c0_1,.slice A0_2 l0_2.length c0_2,.slice A0_3 l0_3.length c0_3]) (t:=30) ?hr ?_;(case hd => rfl);(case hg => rfl);(case hr => first|(go_simp;done)|(go_simp;rfl));intro gb105 hg w6 hbox hb;have n0_:=mk_ (st_ (qb_ HB) hb);have n1_:=mk_ (hbox);have n2_:=mk_ ((by rw [hg];exact (bz_ (qb_ HB)) : w.heap.size ≤ gb105));have n3_:=mk_ ((by rw [hg];exact (bz_ (qb_ HB)) : w.heap.size ≤ gb105));clear HB;have HB:=n0_;have BK105:=n1_;have GW105:=n2_;have GE105:=n3_;clear n0_ n1_ n2_ n3_;clear hb hbox hg;have hcz7_0 : w6.cell? ⟨gb105,0,none⟩ = some (.int .i64 a0_0):=(bc_ BK105.out 0).trans rfl;have hcz7_1 : w6.cell? ⟨gb105,1,none⟩ = some (.slice A0_1 l0_1.length c0_1):=(bc_ BK105.out 1).trans rfl;have hcz7_2 : w6.cell? ⟨gb105,2,none⟩ = some (.slice A0_2 l0_2.length c0_2):=(bc_ BK105.out 2).trans rfl;have hcz7_3 : w6.cell? ⟨gb105,3,none⟩ = some (.slice A0_3 l0_3.length c0_3):=(bc_ BK105.out 3).trans rfl;have hfz7_0:=bf_ BK105.out 0;have hfz7_1:=bf_ BK105.out 1;have hfz7_2:=bf_ BK105.out 2;have hfz7_3:=bf_ BK105.out 3)|(go_at_call 54;(with_reducible refine (impl_Net_station.calls a0_0 _ _ l0_1 _ _ l0_2 _ _ l0_3 a1 true _ ?side1 ?side2 ?side3 ?side4 ?side5 ?side6 A3.out).mono ?_);(case side1 => repeat (first|exact (cb_ HR0_1.out HB.out)|(with_reducible refine ca_ ?_ _)|(with_reducible refine cn_ ?_ _)|(with_reducible refine cd_ ?_)));(case side2 => exact HC0_1.out);(case side3 => repeat (first|exact (cb_ HR0_2.out HB.out)|(with_reducible refine ca_ ?_ _)|(with_reducible refine cn_ ?_ _)|(with_reducible refine cd_ ?_)));(case side4 => exact HC0_2.out);(case side5 => repeat (first|exact (cb_ HR0_3.out HB.out)|(with_reducible refine ca_ ?_ _)|(with_reducible refine cn_ ?_ _)|(with_reducible refine cd_ ?_)));(case side6 => exact HC0_3.out);rintro e w8 ⟨rfl,hb⟩;have n0_:=mk_ (blk_below (g:=gb105) (o:=.cells #[.int .i64 a0_0,.slice A0_1 l0_1.length c0_1,.slice A0_2 l0_2.length c0_2,.slice A0_3 l0_3.length c0_3] 30 (0,0)) (qk_ BK105) hb);have n1_:=mk_ (st_ (qc_ HB GE105) hb);clear BK105;clear HB;have BK105:=n0_;have HB:=n1_;clear n0_ n1_;(try clear hb);(try clear hb2);(try clear hk);(try clear hi);have hcz9_0 : w8.cell? ⟨gb105,0,none⟩ = some (.int .i64 a0_0):=(bc_ BK105.out 0).trans rfl;have hcz9_1 : w8.cell? ⟨gb105,1,none⟩ = some (.slice A0_1 l0_1.length c0_1):=(bc_ BK105.out 1).trans rfl;have hcz9_2 : w8.cell? ⟨gb105,2,none⟩ = some (.slice A0_2 l0_2.length c0_2):=(bc_ BK105.out 2).trans rfl;have hcz9_3 : w8.cell? ⟨gb105,3,none⟩ = some (.slice A0_3 l0_3.length c0_3):=(bc_ BK105.out 3).trans rfl;have hfz9_0:=bf_ BK105.out 0;have hfz9_1:=bf_ BK105.out 1;have hfz9_2:=bf_ BK105.out 2;have hfz9_3:=bf_ BK105.out 3)|(go_at_call 55;(with_reducible refine (impl_rootsOf.calls a0_0 _ _ l0_1 t107 _ ?side1 ?side2 A5.out).mono ?_);(case side1 => repeat (first|exact (cb_ HR0_1.out HB.out)|(with_reducible refine ca_ ?_ _)|(with_reducible refine cn_ ?_ _)|(with_reducible refine cd_ ?_)));(case side2 => exact HC0_1.out);rintro e w10 ⟨v108,rfl,ho0,hb⟩;have n0_:=mk_ (Kd.R_lower ho0 (bz_ (qc_ HB GE105)));have n1_:=mk_ (blk_below (g:=gb105) (o:=.cells #[.int .i64 a0_0,.slice A0_1 l0_1.length c0_1,.slice A0_2 l0_2.length c0_2,.slice A0_3 l0_3.length c0_3] 30 (0,0)) (qk_ BK105) hb);have n2_:=mk_ (st_ (qc_ HB GE105) hb);clear BK105;clear HB;have HO109:=n0_;have BK105:=n1_;have HB:=n2_;clear n0_ n1_ n2_;(try clear hb);(try clear hb2);(try clear hk);(try clear hi);(try clear ho0);have hcz11_0 : w10.cell? ⟨gb105,0,none⟩ = some (.int .i64 a0_0):=(bc_ BK105.out 0).trans rfl;have hcz11_1 : w10.cell? ⟨gb105,1,none⟩ = some (.slice A0_1 l0_1.length c0_1):=(bc_ BK105.out 1).trans rfl;have hcz11_2 : w10.cell? ⟨gb105,2,none⟩ = some (.slice A0_2 l0_2.length c0_2):=(bc_ BK105.out 2).trans rfl;have hcz11_3 : w10.cell? ⟨gb105,3,none⟩ = some (.slice A0_3 l0_3.length c0_3):=(bc_ BK105.out 3).trans rfl;have hfz11_0:=bf_ BK105.out 0;have hfz11_1:=bf_ BK105.out 1;have hfz11_2:=bf_ BK105.out 2;have hfz11_3:=bf_ BK105.out 3));try go_wp2_with (first|((with_reducible refine gate_dst (N:=2) rfl ?_);refine box_event ?hg (N:=2) ?hd (cs:=#[.int .i64 a0_0,.slice A0_1 l0_1.length c0_1,.slice A0_2 l0_2.length c0_2,.slice A0_3 l0_3.length c0_3]) (t:=30) ?hr ?_;(case hd => rfl);(case hg => rfl);(case hr => first|(go_simp;done)|(go_simp;rfl));intro gb105 hg w6 hbox hb;have n0_:=mk_ (st_ (qb_ HB) hb);have n1_:=mk_ (hbox);have n2_:=mk_ ((by rw [hg];exact (bz_ (qb_ HB)) : w.heap.size ≤ gb105));have n3_:=mk_ ((by rw [hg];exact (bz_ (qb_ HB)) : w.heap.size ≤ gb105));clear HB;have HB:=n0_;have BK105:=n1_;have GW105:=n2_;have GE105:=n3_;clear n0_ n1_ n2_ n3_;clear hb hbox hg;have hcz7_0 : w6.cell? ⟨gb105,0,none⟩ = some (.int .i64 a0_0):=(bc_ BK105.out 0).trans rfl;have hcz7_1 : w6.cell? ⟨gb105,1,none⟩ = some (.slice A0_1 l0_1.length c0_1):=(bc_ BK105.out 1).trans rfl;have hcz7_2 : w6.cell? ⟨gb105,2,none⟩ = some (.slice A0_2 l0_2.length c0_2):=(bc_ BK105.out 2).trans rfl;have hcz7_3 : w6.cell? ⟨gb105,3,none⟩ = some (.slice A0_3 l0_3.length c0_3):=(bc_ BK105.out 3).trans rfl;have hfz7_0:=bf_ BK105.out 0;have hfz7_1:=bf_ BK105.out 1;have hfz7_2:=bf_ BK105.out 2;have hfz7_3:=bf_ BK105.out 3)|(go_at_call 54;(with_reducible refine (impl_Net_station.calls a0_0 _ _ l0_1 _ _ l0_2 _ _ l0_3 a1 true _ ?side1 ?side2 ?side3 ?side4 ?side5 ?side6 A3.out).mono ?_);(case side1 => repeat (first|exact (cb_ HR0_1.out HB.out)|(with_reducible refine ca_ ?_ _)|(with_reducible refine cn_ ?_ _)|(with_reducible refine cd_ ?_)));(case side2 => exact HC0_1.out);(case side3 => repeat (first|exact (cb_ HR0_2.out HB.out)|(with_reducible refine ca_ ?_ _)|(with_reducible refine cn_ ?_ _)|(with_reducible refine cd_ ?_)));(case side4 => exact HC0_2.out);(case side5 => repeat (first|exact (cb_ HR0_3.out HB.out)|(with_reducible refine ca_ ?_ _)|(with_reducible refine cn_ ?_ _)|(with_reducible refine cd_ ?_)));(case side6 => exact HC0_3.out);rintro e w8 ⟨rfl,hb⟩;have n0_:=mk_ (blk_below (g:=gb105) (o:=.cells #[.int .i64 a0_0,.slice A0_1 l0_1.length c0_1,.slice A0_2 l0_2.length c0_2,.slice A0_3 l0_3.length c0_3] 30 (0,0)) (qk_ BK105) hb);have n1_:=mk_ (st_ (qc_ HB GE105) hb);clear BK105;clear HB;have BK105:=n0_;have HB:=n1_;clear n0_ n1_;(try clear hb);(try clear hb2);(try clear hk);(try clear hi);have hcz9_0 : w8.cell? ⟨gb105,0,none⟩ = some (.int .i64 a0_0):=(bc_ BK105.out 0).trans rfl;have hcz9_1 : w8.cell? ⟨gb105,1,none⟩ = some (.slice A0_1 l0_1.length c0_1):=(bc_ BK105.out 1).trans rfl;have hcz9_2 : w8.cell? ⟨gb105,2,none⟩ = some (.slice A0_2 l0_2.length c0_2):=(bc_ BK105.out 2).trans rfl;have hcz9_3 : w8.cell? ⟨gb105,3,none⟩ = some (.slice A0_3 l0_3.length c0_3):=(bc_ BK105.out 3).trans rfl;have hfz9_0:=bf_ BK105.out 0;have hfz9_1:=bf_ BK105.out 1;have hfz9_2:=bf_ BK105.out 2;have hfz9_3:=bf_ BK105.out 3)|(go_at_call 55;(with_reducible refine (impl_rootsOf.calls a0_0 _ _ l0_1 t107 _ ?side1 ?side2 A5.out).mono ?_);(case side1 => repeat (first|exact (cb_ HR0_1.out HB.out)|(with_reducible refine ca_ ?_ _)|(with_reducible refine cn_ ?_ _)|(with_reducible refine cd_ ?_)));(case side2 => exact HC0_1.out);rintro e w10 ⟨v108,rfl,ho0,hb⟩;have n0_:=mk_ (Kd.R_lower ho0 (bz_ (qc_ HB GE105)));have n1_:=mk_ (blk_below (g:=gb105) (o:=.cells #[.int .i64 a0_0,.slice A0_1 l0_1.length c0_1,.slice A0_2 l0_2.length c0_2,.slice A0_3 l0_3.length c0_3] 30 (0,0)) (qk_ BK105) hb);have n2_:=mk_ (st_ (qc_ HB GE105) hb);clear BK105;clear HB;have HO109:=n0_;have BK105:=n1_;have HB:=n2_;clear n0_ n1_ n2_;(try clear hb);(try clear hb2);(try clear hk);(try clear hi);(try clear ho0);have hcz11_0 : w10.cell? ⟨gb105,0,none⟩ = some (.int .i64 a0_0):=(bc_ BK105.out 0).trans rfl;have hcz11_1 : w10.cell? ⟨gb105,1,none⟩ = some (.slice A0_1 l0_1.length c0_1):=(bc_ BK105.out 1).trans rfl;have hcz11_2 : w10.cell? ⟨gb105,2,none⟩ = some (.slice A0_2 l0_2.length c0_2):=(bc_ BK105.out 2).trans rfl;have hcz11_3 : w10.cell? ⟨gb105,3,none⟩ = some (.slice A0_3 l0_3.length c0_3):=(bc_ BK105.out 3).trans rfl;have hfz11_0:=bf_ BK105.out 0;have hfz11_1:=bf_ BK105.out 1;have hfz11_2:=bf_ BK105.out 2;have hfz11_3:=bf_ BK105.out 3)))
  go_loopg [6,21] k (fun kq v6 v21 w' => ∃ (x6_1 : List Int) (x21_1 : Int),v21 = .int .i64 x21_1 ∧ Aside0 (impl_MatesOf.l0 kq a1 t107 x6_1 l0_2 (l0_2.length : Int) x21_1 a0_0 l0_1 l0_2 l0_3 = some r) ∧ Aside0 (kq ≤ k) ∧ Aside0 (Kd.R (Kd.int .i64) 3 w' w.heap.size (fun k_ => some k_ ≠ (v6 : Value).ownBlock) v108 t107) ∧ Aside0 (Kd.R (Kd.int .i64) 3 w' w.heap.size (fun k_ => some k_ ≠ (v108 : Value).ownBlock) v6 x6_1) ∧ Aside0 (w'.heap[gb105]? = some (.cells #[.int .i64 a0_0,(.slice A0_1 l0_1.length c0_1),(.slice A0_2 l0_2.length c0_2),(.slice A0_3 l0_3.length c0_3)] 30 (0,0))) ∧ Aside0 (Below w.heap.size w w'))
  case atStart => exact ⟨(([] : List Int)),(0),(by first|rfl|(simp;done)|(simp [*];done)),H',⟨Nat.le_refl _⟩,⟨by (with_reducible repeat (first|apply ra_|apply rn_|apply rd_));exact rm_ HO109.out (fun _ hk => (by simp [Value.ownBlock]))⟩,⟨by first|exact Kd.R_nil _ _ _ _ _|exact Kd.N_nil _ _ _ _ _|exact Kd.V_nil _ _ _ _ _|exact Kd.Q_nil _ _ _ _ _|exact Kd.S_nil _ _ _ _ _⟩,⟨by (with_reducible repeat (first|refine kn_ ?_ _|refine kd_ ?_|refine ka_ ?_ _));exact BK105.out⟩,⟨by repeat (first|(with_reducible first|exact HB.out|apply ba_|apply bn_|apply bd_|refine bs_ ?_ GE105.out)|exact HB.out)⟩⟩
  case round =>
   clear H'
   try clear c1
   try clear p2
   try clear c4
   try clear hcz11_0
   try clear hcz11_1
   try clear hcz11_2
   try clear hcz11_3
   try clear hcz7_0
   try clear hcz7_1
   try clear hcz7_2
   try clear hcz7_3
   try clear hcz9_0
   try clear hcz9_1
   try clear hcz9_2
   try clear hcz9_3
   try clear hfz11_0
   try clear hfz11_1
   try clear hfz11_2
   try clear hfz11_3
   try clear hfz7_0
   try clear hfz7_1
   try clear hfz7_2
   try clear hfz7_3
   try clear hfz9_0
   try clear hfz9_1
   try clear hfz9_2
   try clear hfz9_3
   obtain ⟨x6_1,x21_1,rfl,HA,HK1,HO_5,HO_6,BK105,HB⟩:=hrel
   cases gk with
   | zero => exact absurd HA.out (by simp [impl_MatesOf.l0])
   | succ k1 =>
    have H:=HA.out
    clear HA
    simp only [impl_MatesOf.l0] at H
    by_cases c12 : x21_1 < (l0_2.length : Int)
    ·rw [if_pos c12] at H
     have c12b0 : decide (x21_1 < (l0_2.length : Int)) = true:=decide_eq_true c12
     clear c12
     by_cases c13 : 0 ≤ x21_1
     ·rw [if_pos c13] at H
      have c13b0 : decide (0 ≤ x21_1) = true:=decide_eq_true c13
      clear c13
      by_cases c14 : x21_1 < (l0_2.length : Int)
      ·rw [if_pos c14] at H
       have c14b0 : decide (x21_1 < (l0_2.length : Int)) = true:=decide_eq_true c14
       clear c14
       by_cases c15 : x21_1 = a1
       ·rw [if_pos c15] at H
        have c15b0 : (x21_1 == a1) = true:=beq_iff_eq.mpr c15
        have c15b1 : (x21_1 != a1) = false:=bne_eq_false_iff_eq.mpr c15
        clear c15
        have H':=mk_ H
        clear H
        have p110 : 0 ≤ (x21_1 : Int):=od_ qa_
        have q110 : x21_1 < (l0_2.length : Int):=od_ qa_
        obtain ⟨ad110,e110,hx110_0⟩:=Kd.at_int HR0_2.out x21_1 p110 q110
        cases e110
        replace hx110_0:=(HB.out.cell (wl_ w _ hx110_0)).trans hx110_0
        replace p110:=eq_true p110
        replace q110:=eq_true q110
        go_wp2
        repeat (go_quiet (fail);try go_wp2)
        go_roundg k1
        case measure => have:=HK1.out;omega
        case rel => exact ⟨(x6_1),(wrap64 (x21_1 + 1)),(by first|rfl|(simp;done)|(simp [*];done)),H',⟨by have:=HK1.out;omega⟩,⟨by (with_reducible repeat (first|apply ra_|apply rn_|apply rd_));exact HO_5.out⟩,⟨by (with_reducible repeat (first|apply ra_|apply rn_|apply rd_));exact HO_6.out⟩,⟨by (with_reducible repeat (first|refine kn_ ?_ _|refine kd_ ?_|refine ka_ ?_ _));exact BK105.out⟩,⟨by repeat (first|(with_reducible first|exact HB.out|apply ba_|apply bn_|apply bd_|refine bs_ ?_ GE105.out)|exact HB.out)⟩⟩
       ·rw [if_neg c15] at H
        have c15b0 : (x21_1 == a1) = false:=beq_eq_false_iff_ne.mpr c15
        have c15b1 : (x21_1 != a1) = true:=bne_iff_ne.mpr c15
        by_cases c16 : x21_1 < (l0_3.length : Int)
        ·rw [if_pos c16] at H
         have c16b0 : decide (x21_1 < (l0_3.length : Int)) = true:=decide_eq_true c16
         clear c16
         by_cases c17 : 0 ≤ a1
         ·rw [if_pos c17] at H
          have c17b0 : decide (0 ≤ a1) = true:=decide_eq_true c17
          clear c17
          by_cases c18 : a1 < (l0_3.length : Int)
          ·rw [if_pos c18] at H
           have c18b0 : decide (a1 < (l0_3.length : Int)) = true:=decide_eq_true c18
           clear c18
           by_cases c19 : (rd l0_3 x21_1) = (rd l0_3 a1)
           ·rw [if_pos c19] at H
            have c19b0 : ((rd l0_3 x21_1) == (rd l0_3 a1)) = true:=beq_iff_eq.mpr c19
            have c19b1 : ((rd l0_3 x21_1) != (rd l0_3 a1)) = false:=bne_eq_false_iff_eq.mpr c19
            clear c19
            by_cases c20 : 0 ≤ (rd l0_2 x21_1)
            ·rw [if_pos c20] at H
             have c20b0 : decide (0 ≤ (rd l0_2 x21_1)) = true:=decide_eq_true c20
             clear c20
             by_cases c21 : (rd l0_2 x21_1) < (t107.length : Int)
             ·rw [if_pos c21] at H
              have c21b0 : decide ((rd l0_2 x21_1) < (t107.length : Int)) = true:=decide_eq_true c21
              clear c21
              by_cases c22 : a1 < (l0_2.length : Int)
              ·rw [if_pos c22] at H
               have c22b0 : decide (a1 < (l0_2.length : Int)) = true:=decide_eq_true c22
               clear c22
               by_cases c23 : 0 ≤ (rd l0_2 a1)
               ·rw [if_pos c23] at H
                have c23b0 : decide (0 ≤ (rd l0_2 a1)) = true:=decide_eq_true c23
                clear c23
                by_cases c24 : (rd l0_2 a1) < (t107.length : Int)
                ·rw [if_pos c24] at H
                 have c24b0 : decide ((rd l0_2 a1) < (t107.length : Int)) = true:=decide_eq_true c24
                 clear c24
                 by_cases c25 : (rd t107 (rd l0_2 x21_1)) = (rd t107 (rd l0_2 a1))
                 ·rw [if_pos c25] at H
                  have c25b0 : ((rd t107 (rd l0_2 x21_1)) == (rd t107 (rd l0_2 a1))) = true:=beq_iff_eq.mpr c25
                  have c25b1 : ((rd t107 (rd l0_2 x21_1)) != (rd t107 (rd l0_2 a1))) = false:=bne_eq_false_iff_eq.mpr c25
                  clear c25
                  by_cases c26 : x6_1.length < 17592186044416
                  ·rw [if_pos c26] at H
                   have LMc26:=mk_ c26
                   clear c26
                   obtain ⟨y116,hy116⟩ : ∃ y_ : List Int,y_ = (x6_1 ++ [x21_1]):=⟨_,rfl⟩
                   replace H : (impl_MatesOf.l0 k1 a1 t107 y116 l0_2 (l0_2.length : Int) (wrap64 (x21_1 + 1)) a0_0 l0_1 l0_2 l0_3) = some r:=by first|(rw [hy116];with_reducible exact H)|(have H2_:=(Option.bind_some _ _).symm.trans H;rw [hy116];with_reducible exact H2_)|(have H2_:=(Option.bind_some _ _).symm.trans H;with_reducible exact H2_)|with_reducible exact H|(rw [hy116];exact H)|exact H
                   have Ny116:=mk_ hy116
                   clear hy116
                   have H':=mk_ H
                   clear H
                   have p110 : 0 ≤ (x21_1 : Int):=od_ qa_
                   have q110 : x21_1 < (l0_2.length : Int):=od_ qa_
                   obtain ⟨ad110,e110,hx110_0⟩:=Kd.at_int HR0_2.out x21_1 p110 q110
                   cases e110
                   replace hx110_0:=(HB.out.cell (wl_ w _ hx110_0)).trans hx110_0
                   replace p110:=eq_true p110
                   replace q110:=eq_true q110
                   have hcz27_0 : wr.cell? ⟨gb105,0,none⟩ = some (.int .i64 a0_0):=(bc_ BK105.out 0).trans rfl
                   have hcz27_1 : wr.cell? ⟨gb105,1,none⟩ = some (.slice A0_1 l0_1.length c0_1):=(bc_ BK105.out 1).trans rfl
                   have hcz27_2 : wr.cell? ⟨gb105,2,none⟩ = some (.slice (some ad110) l0_2.length c0_2):=(bc_ BK105.out 2).trans rfl
                   have hcz27_3 : wr.cell? ⟨gb105,3,none⟩ = some (.slice A0_3 l0_3.length c0_3):=(bc_ BK105.out 3).trans rfl
                   have hfz27_0:=bf_ BK105.out 0
                   have hfz27_1:=bf_ BK105.out 1
                   have hfz27_2:=bf_ BK105.out 2
                   have hfz27_3:=bf_ BK105.out 3
                   have p111 : 0 ≤ (x21_1 : Int):=od_ qa_
                   have q111 : x21_1 < (l0_3.length : Int):=od_ qa_
                   obtain ⟨ad111,e111,hx111_0⟩:=Kd.at_int HR0_3.out x21_1 p111 q111
                   cases e111
                   replace hx111_0:=(HB.out.cell (wl_ w _ hx111_0)).trans hx111_0
                   replace p111:=eq_true p111
                   replace q111:=eq_true q111
                   have p112 : 0 ≤ (a1 : Int):=od_ qa_
                   have q112 : a1 < (l0_3.length : Int):=od_ qa_
                   obtain ⟨ad112,e112,hx112_0⟩:=Kd.at_int HR0_3.out a1 p112 q112
                   obtain rfl : ad111 = ad112:=(by injection e112)
                   replace hx112_0:=(HB.out.cell (wl_ w _ hx112_0)).trans hx112_0
                   replace p112:=eq_true p112
                   replace q112:=eq_true q112
                   obtain ⟨Ao28,co28,eo28⟩:=Kd.R_slice HO_5.out
                   subst eo28
                   have p113 : 0 ≤ ((rd l0_2 x21_1) : Int):=od_ qa_
                   have q113 : (rd l0_2 x21_1) < (t107.length : Int):=od_ qa_
                   obtain ⟨ad113,e113,hx113_0⟩:=Kd.at_int (rr_ HO_5.out).2.2 (rd l0_2 x21_1) p113 q113
                   cases e113
                   replace p113:=eq_true p113
                   replace q113:=eq_true q113
                   have p114 : 0 ≤ (a1 : Int):=od_ qa_
                   have q114 : a1 < (l0_2.length : Int):=od_ qa_
                   obtain ⟨ad114,e114,hx114_0⟩:=Kd.at_int HR0_2.out a1 p114 q114
                   obtain rfl : ad110 = ad114:=(by injection e114)
                   replace hx114_0:=(HB.out.cell (wl_ w _ hx114_0)).trans hx114_0
                   replace p114:=eq_true p114
                   replace q114:=eq_true q114
                   have p115 : 0 ≤ ((rd l0_2 a1) : Int):=od_ qa_
                   have q115 : (rd l0_2 a1) < (t107.length : Int):=od_ qa_
                   obtain ⟨ad115,e115,hx115_0⟩:=Kd.at_int (rr_ HO_5.out).2.2 (rd l0_2 a1) p115 q115
                   obtain rfl : ad113 = ad115:=(by injection e115)
                   replace p115:=eq_true p115
                   replace q115:=eq_true q115
                   go_wp2_with (first|((with_reducible refine gate_builtin (b:=.append) (xs:=#[.tmp 57,.tmp 59]) rfl ?_);at_builtin;refine Kd.R_append (Kd.int .i64) (w0:=w) w.heap.size rfl (.tmp 57) (.tmp 59) 23 3 (.int .i64 0) 8 rfl Try.underlying23 info3 rfl (by decide) (by omega) u6 x6_1 x21_1 [.int .i64 x21_1] (fun k_ => some k_ ≠ (.slice (some ad113) t107.length co28 : Value).ownBlock) (fun _ => False) rfl rfl ?aP (fun _ hk => hk.elim) ?aF ?aO ?aB ?aS ?aL ?_;(case aP => exact rfl);(case aB => exact (qc_ HB GE105));(case aF => exact (fun k_ hk => Kd.fresh' (Kd.R_lt (qr_ HO_5)) k_ hk));(case aO => exact (qr_ HO_6));(case aS => exact (bz_ (qc_ HB GE105)));(case aL => have:=LMc26.out;omega);intro v117 w29 ho hb hg hat;rw [← Ny116.out] at ho;have n0_:=mk_ (Kd.R_after (ok:=(fun _ => True)) (by (with_reducible repeat (first|apply ra_|apply rn_|apply rd_));exact rm_ HO_5.out (fun _ hk => ⟨trivial,hk⟩)) hg hat);have n1_:=mk_ (blk_grown (g:=gb105) (o:=.cells #[.int .i64 a0_0,.slice A0_1 l0_1.length c0_1,.slice (some ad110) l0_2.length c0_2,.slice (some ad111) l0_3.length c0_3] 30 (0,0)) (qk_ BK105) hg (Kd.R_ne HO_6.out BK105.out (by decide)));have n2_:=mk_ (hb);have n3_:=mk_ (ho);clear HO_5;clear BK105;clear HB;clear HO_6;have HO_5:=n0_;have BK105:=n1_;have HB:=n2_;have HO118:=n3_;clear n0_ n1_ n2_ n3_;clear ho hb hg hat))
                   repeat (go_quiet (first|((with_reducible refine gate_builtin (b:=.append) (xs:=#[.tmp 57,.tmp 59]) rfl ?_);at_builtin;refine Kd.R_append (Kd.int .i64) (w0:=w) w.heap.size rfl (.tmp 57) (.tmp 59) 23 3 (.int .i64 0) 8 rfl Try.underlying23 info3 rfl (by decide) (by omega) u6 x6_1 x21_1 [.int .i64 x21_1] (fun k_ => some k_ ≠ (.slice (some ad113) t107.length co28 : Value).ownBlock) (fun _ => False) rfl rfl ?aP (fun _ hk => hk.elim) ?aF ?aO ?aB ?aS ?aL ?_;(case aP => exact rfl);(case aB => exact (qc_ HB GE105));(case aF => exact (fun k_ hk => Kd.fresh' (Kd.R_lt (qr_ HO_5)) k_ hk));(case aO => exact (qr_ HO_6));(case aS => exact (bz_ (qc_ HB GE105)));(case aL => have:=LMc26.out;omega);intro v117 w29 ho hb hg hat;rw [← Ny116.out] at ho;have n0_:=mk_ (Kd.R_after (ok:=(fun _ => True)) (by (with_reducible repeat (first|apply ra_|apply rn_|apply rd_));exact rm_ HO_5.out (fun _ hk => ⟨trivial,hk⟩)) hg hat);have n1_:=mk_ (blk_grown (g:=gb105) (o:=.cells #[.int .i64 a0_0,.slice A0_1 l0_1.length c0_1,.slice (some ad110) l0_2.length c0_2,.slice (some ad111) l0_3.length c0_3] 30 (0,0)) (qk_ BK105) hg (Kd.R_ne HO_6.out BK105.out (by decide)));have n2_:=mk_ (hb);have n3_:=mk_ (ho);clear HO_5;clear BK105;clear HB;clear HO_6;have HO_5:=n0_;have BK105:=n1_;have HB:=n2_;have HO118:=n3_;clear n0_ n1_ n2_ n3_;clear ho hb hg hat));try go_wp2_with (first|((with_reducible refine gate_builtin (b:=.append) (xs:=#[.tmp 57,.tmp 59]) rfl ?_);at_builtin;refine Kd.R_append (Kd.int .i64) (w0:=w) w.heap.size rfl (.tmp 57) (.tmp 59) 23 3 (.int .i64 0) 8 rfl Try.underlying23 info3 rfl (by decide) (by omega) u6 x6_1 x21_1 [.int .i64 x21_1] (fun k_ => some k_ ≠ (.slice (some ad113) t107.length co28 : Value).ownBlock) (fun _ => False) rfl rfl ?aP (fun _ hk => hk.elim) ?aF ?aO ?aB ?aS ?aL ?_;(case aP => exact rfl);(case aB => exact (qc_ HB GE105));(case aF => exact (fun k_ hk => Kd.fresh' (Kd.R_lt (qr_ HO_5)) k_ hk));(case aO => exact (qr_ HO_6));(case aS => exact (bz_ (qc_ HB GE105)));(case aL => have:=LMc26.out;omega);intro v117 w29 ho hb hg hat;rw [← Ny116.out] at ho;have n0_:=mk_ (Kd.R_after (ok:=(fun _ => True)) (by (with_reducible repeat (first|apply ra_|apply rn_|apply rd_));exact rm_ HO_5.out (fun _ hk => ⟨trivial,hk⟩)) hg hat);have n1_:=mk_ (blk_grown (g:=gb105) (o:=.cells #[.int .i64 a0_0,.slice A0_1 l0_1.length c0_1,.slice (some ad110) l0_2.length c0_2,.slice (some ad111) l0_3.length c0_3] 30 (0,0)) (qk_ BK105) hg (Kd.R_ne HO_6.out BK105.out (by decide)));have n2_:=mk_ (hb);have n3_:=mk_ (ho);clear HO_5;clear BK105;clear HB;clear HO_6;have HO_5:=n0_;have BK105:=n1_;have HB:=n2_;have HO118:=n3_;clear n0_ n1_ n2_ n3_;clear ho hb hg hat)))
                   go_roundg k1
                   case measure => have:=HK1.out;omega
                   case rel => exact ⟨(y116),(wrap64 (x21_1 + 1)),(by first|rfl|(simp;done)|(simp [*];done)),H',⟨by have:=HK1.out;omega⟩,⟨by (with_reducible repeat (first|apply ra_|apply rn_|apply rd_));exact rm_ HO_5.out (fun _ hk => hk.2)⟩,⟨by (with_reducible repeat (first|apply ra_|apply rn_|apply rd_));exact HO118.out⟩,⟨by (with_reducible repeat (first|refine kn_ ?_ _|refine kd_ ?_|refine ka_ ?_ _));exact BK105.out⟩,⟨by repeat (first|(with_reducible first|exact HB.out|apply ba_|apply bn_|apply bd_|refine bs_ ?_ GE105.out)|exact HB.out)⟩⟩
                  ·rw [if_neg c26] at H
                   exact absurd H (by simp)
                 ·rw [if_neg c25] at H
                  have c25b0 : ((rd t107 (rd l0_2 x21_1)) == (rd t107 (rd l0_2 a1))) = false:=beq_eq_false_iff_ne.mpr c25
                  have c25b1 : ((rd t107 (rd l0_2 x21_1)) != (rd t107 (rd l0_2 a1))) = true:=bne_iff_ne.mpr c25
                  have H':=mk_ H
                  clear H
                  have p110 : 0 ≤ (x21_1 : Int):=od_ qa_
                  have q110 : x21_1 < (l0_2.length : Int):=od_ qa_
                  obtain ⟨ad110,e110,hx110_0⟩:=Kd.at_int HR0_2.out x21_1 p110 q110
                  cases e110
                  replace hx110_0:=(HB.out.cell (wl_ w _ hx110_0)).trans hx110_0
                  replace p110:=eq_true p110
                  replace q110:=eq_true q110
                  have hcz30_0 : wr.cell? ⟨gb105,0,none⟩ = some (.int .i64 a0_0):=(bc_ BK105.out 0).trans rfl
                  have hcz30_1 : wr.cell? ⟨gb105,1,none⟩ = some (.slice A0_1 l0_1.length c0_1):=(bc_ BK105.out 1).trans rfl
                  have hcz30_2 : wr.cell? ⟨gb105,2,none⟩ = some (.slice (some ad110) l0_2.length c0_2):=(bc_ BK105.out 2).trans rfl
                  have hcz30_3 : wr.cell? ⟨gb105,3,none⟩ = some (.slice A0_3 l0_3.length c0_3):=(bc_ BK105.out 3).trans rfl
                  have hfz30_0:=bf_ BK105.out 0
                  have hfz30_1:=bf_ BK105.out 1
                  have hfz30_2:=bf_ BK105.out 2
                  have hfz30_3:=bf_ BK105.out 3
                  have p111 : 0 ≤ (x21_1 : Int):=od_ qa_
                  have q111 : x21_1 < (l0_3.length : Int):=od_ qa_
                  obtain ⟨ad111,e111,hx111_0⟩:=Kd.at_int HR0_3.out x21_1 p111 q111
                  cases e111
                  replace hx111_0:=(HB.out.cell (wl_ w _ hx111_0)).trans hx111_0
                  replace p111:=eq_true p111
                  replace q111:=eq_true q111
                  have p112 : 0 ≤ (a1 : Int):=od_ qa_
                  have q112 : a1 < (l0_3.length : Int):=od_ qa_
                  obtain ⟨ad112,e112,hx112_0⟩:=Kd.at_int HR0_3.out a1 p112 q112
                  obtain rfl : ad111 = ad112:=(by injection e112)
                  replace hx112_0:=(HB.out.cell (wl_ w _ hx112_0)).trans hx112_0
                  replace p112:=eq_true p112
                  replace q112:=eq_true q112
                  obtain ⟨Ao31,co31,eo31⟩:=Kd.R_slice HO_5.out
                  subst eo31
                  have p113 : 0 ≤ ((rd l0_2 x21_1) : Int):=od_ qa_
                  have q113 : (rd l0_2 x21_1) < (t107.length : Int):=od_ qa_
                  obtain ⟨ad113,e113,hx113_0⟩:=Kd.at_int (rr_ HO_5.out).2.2 (rd l0_2 x21_1) p113 q113
                  cases e113
                  replace p113:=eq_true p113
                  replace q113:=eq_true q113
                  have p114 : 0 ≤ (a1 : Int):=od_ qa_
                  have q114 : a1 < (l0_2.length : Int):=od_ qa_
                  obtain ⟨ad114,e114,hx114_0⟩:=Kd.at_int HR0_2.out a1 p114 q114
                  obtain rfl : ad110 = ad114:=(by injection e114)
                  replace hx114_0:=(HB.out.cell (wl_ w _ hx114_0)).trans hx114_0
                  replace p114:=eq_true p114
                  replace q114:=eq_true q114
                  have p115 : 0 ≤ ((rd l0_2 a1) : Int):=od_ qa_
                  have q115 : (rd l0_2 a1) < (t107.length : Int):=od_ qa_
                  obtain ⟨ad115,e115,hx115_0⟩:=Kd.at_int (rr_ HO_5.out).2.2 (rd l0_2 a1) p115 q115
                  obtain rfl : ad113 = ad115:=(by injection e115)
                  replace p115:=eq_true p115
                  replace q115:=eq_true q115
                  go_wp2
                  repeat (go_quiet (fail);try go_wp2)
                  go_roundg k1
                  case measure => have:=HK1.out;omega
                  case rel => exact ⟨(x6_1),(wrap64 (x21_1 + 1)),(by first|rfl|(simp;done)|(simp [*];done)),H',⟨by have:=HK1.out;omega⟩,⟨by (with_reducible repeat (first|apply ra_|apply rn_|apply rd_));exact HO_5.out⟩,⟨by (with_reducible repeat (first|apply ra_|apply rn_|apply rd_));exact HO_6.out⟩,⟨by (with_reducible repeat (first|refine kn_ ?_ _|refine kd_ ?_|refine ka_ ?_ _));exact BK105.out⟩,⟨by repeat (first|(with_reducible first|exact HB.out|apply ba_|apply bn_|apply bd_|refine bs_ ?_ GE105.out)|exact HB.out)⟩⟩
                ·rw [if_neg c24] at H
                 exact absurd H (by simp)
               ·rw [if_neg c23] at H
                exact absurd H (by simp)
              ·rw [if_neg c22] at H
               exact absurd H (by simp)
             ·rw [if_neg c21] at H
              exact absurd H (by simp)
            ·rw [if_neg c20] at H
             exact absurd H (by simp)
           ·rw [if_neg c19] at H
            have c19b0 : ((rd l0_3 x21_1) == (rd l0_3 a1)) = false:=beq_eq_false_iff_ne.mpr c19
            have c19b1 : ((rd l0_3 x21_1) != (rd l0_3 a1)) = true:=bne_iff_ne.mpr c19
            have H':=mk_ H
            clear H
            have p110 : 0 ≤ (x21_1 : Int):=od_ qa_
            have q110 : x21_1 < (l0_2.length : Int):=od_ qa_
            obtain ⟨ad110,e110,hx110_0⟩:=Kd.at_int HR0_2.out x21_1 p110 q110
            cases e110
            replace hx110_0:=(HB.out.cell (wl_ w _ hx110_0)).trans hx110_0
            replace p110:=eq_true p110
            replace q110:=eq_true q110
            have hcz32_0 : wr.cell? ⟨gb105,0,none⟩ = some (.int .i64 a0_0):=(bc_ BK105.out 0).trans rfl
            have hcz32_1 : wr.cell? ⟨gb105,1,none⟩ = some (.slice A0_1 l0_1.length c0_1):=(bc_ BK105.out 1).trans rfl
            have hcz32_2 : wr.cell? ⟨gb105,2,none⟩ = some (.slice (some ad110) l0_2.length c0_2):=(bc_ BK105.out 2).trans rfl
            have hcz32_3 : wr.cell? ⟨gb105,3,none⟩ = some (.slice A0_3 l0_3.length c0_3):=(bc_ BK105.out 3).trans rfl
            have hfz32_0:=bf_ BK105.out 0
            have hfz32_1:=bf_ BK105.out 1
            have hfz32_2:=bf_ BK105.out 2
            have hfz32_3:=bf_ BK105.out 3
            have p111 : 0 ≤ (x21_1 : Int):=od_ qa_
            have q111 : x21_1 < (l0_3.length : Int):=od_ qa_
            obtain ⟨ad111,e111,hx111_0⟩:=Kd.at_int HR0_3.out x21_1 p111 q111
            cases e111
            replace hx111_0:=(HB.out.cell (wl_ w _ hx111_0)).trans hx111_0
            replace p111:=eq_true p111
            replace q111:=eq_true q111
            have p112 : 0 ≤ (a1 : Int):=od_ qa_
            have q112 : a1 < (l0_3.length : Int):=od_ qa_
            obtain ⟨ad112,e112,hx112_0⟩:=Kd.at_int HR0_3.out a1 p112 q112
            obtain rfl : ad111 = ad112:=(by injection e112)
            replace hx112_0:=(HB.out.cell (wl_ w _ hx112_0)).trans hx112_0
            replace p112:=eq_true p112
            replace q112:=eq_true q112
            go_wp2
            repeat (go_quiet (fail);try go_wp2)
            go_roundg k1
            case measure => have:=HK1.out;omega
            case rel => exact ⟨(x6_1),(wrap64 (x21_1 + 1)),(by first|rfl|(simp;done)|(simp [*];done)),H',⟨by have:=HK1.out;omega⟩,⟨by (with_reducible repeat (first|apply ra_|apply rn_|apply rd_));exact HO_5.out⟩,⟨by (with_reducible repeat (first|apply ra_|apply rn_|apply rd_));exact HO_6.out⟩,⟨by (with_reducible repeat (first|refine kn_ ?_ _|refine kd_ ?_|refine ka_ ?_ _));exact BK105.out⟩,⟨by repeat (first|(with_reducible first|exact HB.out|apply ba_|apply bn_|apply bd_|refine bs_ ?_ GE105.out)|exact HB.out)⟩⟩
          ·rw [if_neg c18] at H
           exact absurd H (by simp)
         ·rw [if_neg c17] at H
          exact absurd H (by simp)
        ·rw [if_neg c16] at H
         exact absurd H (by simp)
      ·rw [if_neg c14] at H
       exact absurd H (by simp)
     ·rw [if_neg c13] at H
      exact absurd H (by simp)
    ·rw [if_neg c12] at H
     have c12b0 : decide (x21_1 < (l0_2.length : Int)) = false:=decide_eq_false c12
     clear c12
     obtain rfl:=Option.some.inj H
     go_wp2
     repeat (go_quiet (fail);try go_wp2)
     go_ret
     exact ⟨_,by first|rfl|(simp [errW_none,errW_some] <;> rfl)|(simp [*,errW_none,errW_some] <;> rfl),by (with_reducible repeat (first|apply ra_|apply rn_|apply rd_));exact rm_ HO_6.out (fun _ hk => trivial),by repeat (first|(with_reducible first|exact HB.out|apply ba_|apply bn_|apply bd_|refine bs_ ?_ GE105.out)|exact HB.out)⟩
 ·replace c4:=Bool.eq_false_iff.mpr c4
  subst c4
  have H1 : (some ([] : List Int)) = some r:=by rw [if_neg (show ¬ (false = true) by decide)] at H;exact H
  clear H
  have H:=H1
  clear H1
  obtain rfl:=Option.some.inj H
  go_enter Try.func18,Try.ntmps18
  go_wp2_with (first|((with_reducible refine gate_dst (N:=2) rfl ?_);refine box_event ?hg (N:=2) ?hd (cs:=#[.int .i64 a0_0,.slice A0_1 l0_1.length c0_1,.slice A0_2 l0_2.length c0_2,.slice A0_3 l0_3.length c0_3]) (t:=30) ?hr ?_;(case hd => rfl);(case hg => rfl);(case hr => first|(go_simp;done)|(go_simp;rfl));intro gb105 hg w33 hbox hb;have n0_:=mk_ (st_ (qb_ HB) hb);have n1_:=mk_ (hbox);have n2_:=mk_ ((by rw [hg];exact (bz_ (qb_ HB)) : w.heap.size ≤ gb105));have n3_:=mk_ ((by rw [hg];exact (bz_ (qb_ HB)) : w.heap.size ≤ gb105));clear HB;have HB:=n0_;have BK105:=n1_;have GW105:=n2_;have GE105:=n3_;clear n0_ n1_ n2_ n3_;clear hb hbox hg;have hcz34_0 : w33.cell? ⟨gb105,0,none⟩ = some (.int .i64 a0_0):=(bc_ BK105.out 0).trans rfl;have hcz34_1 : w33.cell? ⟨gb105,1,none⟩ = some (.slice A0_1 l0_1.length c0_1):=(bc_ BK105.out 1).trans rfl;have hcz34_2 : w33.cell? ⟨gb105,2,none⟩ = some (.slice A0_2 l0_2.length c0_2):=(bc_ BK105.out 2).trans rfl;have hcz34_3 : w33.cell? ⟨gb105,3,none⟩ = some (.slice A0_3 l0_3.length c0_3):=(bc_ BK105.out 3).trans rfl;have hfz34_0:=bf_ BK105.out 0;have hfz34_1:=bf_ BK105.out 1;have hfz34_2:=bf_ BK105.out 2;have hfz34_3:=bf_ BK105.out 3)|(go_at_call 54;(with_reducible refine (impl_Net_station.calls a0_0 _ _ l0_1 _ _ l0_2 _ _ l0_3 a1 false _ ?side1 ?side2 ?side3 ?side4 ?side5 ?side6 A3.out).mono ?_);(case side1 => repeat (first|exact (cb_ HR0_1.out HB.out)|(with_reducible refine ca_ ?_ _)|(with_reducible refine cn_ ?_ _)|(with_reducible refine cd_ ?_)));(case side2 => exact HC0_1.out);(case side3 => repeat (first|exact (cb_ HR0_2.out HB.out)|(with_reducible refine ca_ ?_ _)|(with_reducible refine cn_ ?_ _)|(with_reducible refine cd_ ?_)));(case side4 => exact HC0_2.out);(case side5 => repeat (first|exact (cb_ HR0_3.out HB.out)|(with_reducible refine ca_ ?_ _)|(with_reducible refine cn_ ?_ _)|(with_reducible refine cd_ ?_)));(case side6 => exact HC0_3.out);rintro e w35 ⟨rfl,hb⟩;have n0_:=mk_ (blk_below (g:=gb105) (o:=.cells #[.int .i64 a0_0,.slice A0_1 l0_1.length c0_1,.slice A0_2 l0_2.length c0_2,.slice A0_3 l0_3.length c0_3] 30 (0,0)) (qk_ BK105) hb);have n1_:=mk_ (st_ (qc_ HB GE105) hb);clear BK105;clear HB;have BK105:=n0_;have HB:=n1_;clear n0_ n1_;(try clear hb);(try clear hb2);(try clear hk);(try clear hi)))
  repeat (go_quiet (first|((with_reducible refine gate_dst (N:=2) rfl ?_);refine box_event ?hg (N:=2) ?hd (cs:=#[.int .i64 a0_0,.slice A0_1 l0_1.length c0_1,.slice A0_2 l0_2.length c0_2,.slice A0_3 l0_3.length c0_3]) (t:=30) ?hr ?_;(case hd => rfl);(case hg => rfl);(case hr => first|(go_simp;done)|(go_simp;rfl));intro gb105 hg w33 hbox hb;have n0_:=mk_ (st_ (qb_ HB) hb);have n1_:=mk_ (hbox);have n2_:=mk_ ((by rw [hg];exact (bz_ (qb_ HB)) : w.heap.size ≤ gb105));have n3_:=mk_ ((by rw [hg];exact (bz_ (qb_ HB)) : w.heap.size ≤ gb105));clear HB;have HB:=n0_;have BK105:=n1_;have GW105:=n2_;have GE105:=n3_;clear n0_ n1_ n2_ n3_;clear hb hbox hg;have hcz34_0 : w33.cell? ⟨gb105,0,none⟩ = some (.int .i64 a0_0):=(bc_ BK105.out 0).trans rfl;have hcz34_1 : w33.cell? ⟨gb105,1,none⟩ = some (.slice A0_1 l0_1.length c0_1):=(bc_ BK105.out 1).trans rfl;have hcz34_2 : w33.cell? ⟨gb105,2,none⟩ = some (.slice A0_2 l0_2.length c0_2):=(bc_ BK105.out 2).trans rfl;have hcz34_3 : w33.cell? ⟨gb105,3,none⟩ = some (.slice A0_3 l0_3.length c0_3):=(bc_ BK105.out 3).trans rfl;have hfz34_0:=bf_ BK105.out 0;have hfz34_1:=bf_ BK105.out 1;have hfz34_2:=bf_ BK105.out 2;have hfz34_3:=bf_ BK105.out 3)|(go_at_call 54;(with_reducible refine (impl_Net_station.calls a0_0 _ _ l0_1 _ _ l0_2 _ _ l0_3 a1 false _ ?side1 ?side2 ?side3 ?side4 ?side5 ?side6 A3.out).mono ?_);(case side1 => repeat (first|exact (cb_ HR0_1.out HB.out)|(with_reducible refine ca_ ?_ _)|(with_reducible refine cn_ ?_ _)|(with_reducible refine cd_ ?_)));(case side2 => exact HC0_1.out);(case side3 => repeat (first|exact (cb_ HR0_2.out HB.out)|(with_reducible refine ca_ ?_ _)|(with_reducible refine cn_ ?_ _)|(with_reducible refine cd_ ?_)));(case side4 => exact HC0_2.out);(case side5 => repeat (first|exact (cb_ HR0_3.out HB.out)|(with_reducible refine ca_ ?_ _)|(with_reducible refine cn_ ?_ _)|(with_reducible refine cd_ ?_)));(case side6 => exact HC0_3.out);rintro e w35 ⟨rfl,hb⟩;have n0_:=mk_ (blk_below (g:=gb105) (o:=.cells #[.int .i64 a0_0,.slice A0_1 l0_1.length c0_1,.slice A0_2 l0_2.length c0_2,.slice A0_3 l0_3.length c0_3] 30 (0,0)) (qk_ BK105) hb);have n1_:=mk_ (st_ (qc_ HB GE105) hb);clear BK105;clear HB;have BK105:=n0_;have HB:=n1_;clear n0_ n1_;(try clear hb);(try clear hb2);(try clear hk);(try clear hi)));try go_wp2_with (first|((with_reducible refine gate_dst (N:=2) rfl ?_);refine box_event ?hg (N:=2) ?hd (cs:=#[.int .i64 a0_0,.slice A0_1 l0_1.length c0_1,.slice A0_2 l0_2.length c0_2,.slice A0_3 l0_3.length c0_3]) (t:=30) ?hr ?_;(case hd => rfl);(case hg => rfl);(case hr => first|(go_simp;done)|(go_simp;rfl));intro gb105 hg w33 hbox hb;have n0_:=mk_ (st_ (qb_ HB) hb);have n1_:=mk_ (hbox);have n2_:=mk_ ((by rw [hg];exact (bz_ (qb_ HB)) : w.heap.size ≤ gb105));have n3_:=mk_ ((by rw [hg];exact (bz_ (qb_ HB)) : w.heap.size ≤ gb105));clear HB;have HB:=n0_;have BK105:=n1_;have GW105:=n2_;have GE105:=n3_;clear n0_ n1_ n2_ n3_;clear hb hbox hg;have hcz34_0 : w33.cell? ⟨gb105,0,none⟩ = some (.int .i64 a0_0):=(bc_ BK105.out 0).trans rfl;have hcz34_1 : w33.cell? ⟨gb105,1,none⟩ = some (.slice A0_1 l0_1.length c0_1):=(bc_ BK105.out 1).trans rfl;have hcz34_2 : w33.cell? ⟨gb105,2,none⟩ = some (.slice A0_2 l0_2.length c0_2):=(bc_ BK105.out 2).trans rfl;have hcz34_3 : w33.cell? ⟨gb105,3,none⟩ = some (.slice A0_3 l0_3.length c0_3):=(bc_ BK105.out 3).trans rfl;have hfz34_0:=bf_ BK105.out 0;have hfz34_1:=bf_ BK105.out 1;have hfz34_2:=bf_ BK105.out 2;have hfz34_3:=bf_ BK105.out 3)|(go_at_call 54;(with_reducible refine (impl_Net_station.calls a0_0 _ _ l0_1 _ _ l0_2 _ _ l0_3 a1 false _ ?side1 ?side2 ?side3 ?side4 ?side5 ?side6 A3.out).mono ?_);(case side1 => repeat (first|exact (cb_ HR0_1.out HB.out)|(with_reducible refine ca_ ?_ _)|(with_reducible refine cn_ ?_ _)|(with_reducible refine cd_ ?_)));(case side2 => exact HC0_1.out);(case side3 => repeat (first|exact (cb_ HR0_2.out HB.out)|(with_reducible refine ca_ ?_ _)|(with_reducible refine cn_ ?_ _)|(with_reducible refine cd_ ?_)));(case side4 => exact HC0_2.out);(case side5 => repeat (first|exact (cb_ HR0_3.out HB.out)|(with_reducible refine ca_ ?_ _)|(with_reducible refine cn_ ?_ _)|(with_reducible refine cd_ ?_)));(case side6 => exact HC0_3.out);rintro e w35 ⟨rfl,hb⟩;have n0_:=mk_ (blk_below (g:=gb105) (o:=.cells #[.int .i64 a0_0,.slice A0_1 l0_1.length c0_1,.slice A0_2 l0_2.length c0_2,.slice A0_3 l0_3.length c0_3] 30 (0,0)) (qk_ BK105) hb);have n1_:=mk_ (st_ (qc_ HB GE105) hb);clear BK105;clear HB;have BK105:=n0_;have HB:=n1_;clear n0_ n1_;(try clear hb);(try clear hb2);(try clear hk);(try clear hi))))
  go_ret
  exact ⟨_,by first|rfl|(simp [errW_none,errW_some] <;> rfl)|(simp [*,errW_none,errW_some] <;> rfl),by first|exact Kd.R_nil _ _ _ _ _|exact Kd.N_nil _ _ _ _ _|exact Kd.V_nil _ _ _ _ _|exact Kd.Q_nil _ _ _ _ _|exact Kd.S_nil _ _ _ _ _,by repeat (first|(with_reducible first|exact HB.out|apply ba_|apply bn_|apply bd_|refine bs_ ?_ GE105.out)|exact HB.out)⟩

/-! ### laws_wnInts: function 19 -/
def laws_wnInts.l0 : Nat → List Int → List Int → Int → Int → Option (Bool)
 | 0,_,_,_,_ => none
 | k + 1,x1,x12,x13,x14 => if x14 < x13 then (if 0 ≤ x14 then (if x14 < (x12.length : Int) then (if x14 < (x1.length : Int) then (if (rd x1 x14) = (rd x12 x14) then (laws_wnInts.l0 k x1 x12 x13 (wrap64 (x14 + 1))) else (some false)) else (none)) else (none)) else (none)) else (some true)
def laws_wnInts.f (k : Nat) (l0 : List Int) (l1 : List Int) : Option (Bool):=if (l0.length : Int) = (l1.length : Int) then (laws_wnInts.l0 k l1 l0 (l0.length : Int) 0) else (some false)
theorem laws_wnInts.mono_l : ∀ k,(∀ y0 y1 y2 y3,LeO (laws_wnInts.l0 k y0 y1 y2 y3) (laws_wnInts.l0 (k + 1) y0 y1 y2 y3))
 | 0 => fun _ _ _ _ r h => by simp [laws_wnInts.l0] at h
 | k + 1 => by
  have ih0:=laws_wnInts.mono_l k
  ·intro y0 y1 y2 y3
   unfold laws_wnInts.l0
   repeat' first
   | (with_reducible exact ih0 _ _ _ _)
   | (with_reducible exact LeO.refl _)
   | (with_reducible exact LeO.none _)
   | (with_reducible refine LeO.ite ?_ ?_)
   | (with_reducible refine LeO.bind ?_ (fun _ => ?_))
   | exact ih0 _ _ _ _
   | exact LeO.none _
   | refine LeO.ite ?_ ?_
   | refine LeO.bind ?_ (fun _ => ?_)
theorem laws_wnInts.mono : ∀ a0 a1 k,LeO (laws_wnInts.f k a0 a1) (laws_wnInts.f (k + 1) a0 a1):=by
 intro a0 a1 k
 have ih0:=laws_wnInts.mono_l k
 unfold laws_wnInts.f
 repeat' first
   | (with_reducible exact ih0 _ _ _ _)
   | (with_reducible exact LeO.refl _)
   | (with_reducible exact LeO.none _)
   | (with_reducible refine LeO.ite ?_ ?_)
   | (with_reducible refine LeO.bind ?_ (fun _ => ?_))
   | exact ih0 _ _ _ _
   | exact LeO.none _
   | refine LeO.ite ?_ ?_
   | refine LeO.bind ?_ (fun _ => ?_)
set_option maxHeartbeats 8000000 in
set_option maxRecDepth 100000 in
theorem laws_wnInts.calls (k : Nat) (A0 : Option Addr) (c0 : Nat) (l0 : List Int) (A1 : Option Addr) (c1 : Nat) (l1 : List Int) (r : Bool) (w : World) (hr0 : Kd.C (Kd.int .i64) w A0 l0.length l0) (hc0 : l0.length ≤ c0) (hr1 : Kd.C (Kd.int .i64) w A1 l1.length l1) (hc1 : l1.length ≤ c1) (h : laws_wnInts.f k l0 l1 = some r) :
  Calls Try.prog 19 #[.slice A0 l0.length c0,.slice A1 l1.length c1] w fun e w' => e = .returned (.bool r) ∧ Drawn0 w w':=by
 have HR0:=mk_ hr0
 have HC0:=mk_ hc0
 clear hr0 hc0
 have HR1:=mk_ hr1
 have HC1:=mk_ hc1
 clear hr1 hc1
 have H : (if (l0.length : Int) = (l1.length : Int) then (laws_wnInts.l0 k l1 l0 (l0.length : Int) 0) else (some false)) = some r:=h
 clear h
 by_cases c3 : (l0.length : Int) = (l1.length : Int)
 ·rw [if_pos c3] at H
  have c3b0 : ((l0.length : Int) == (l1.length : Int)) = true:=beq_iff_eq.mpr c3
  have c3b1 : ((l0.length : Int) != (l1.length : Int)) = false:=bne_eq_false_iff_eq.mpr c3
  have c3b2 : (l0.length == l1.length) = true:=by first|simpa using c3|(simp at c3 ⊢;omega)
  clear c3
  have H':=mk_ H
  clear H
  go_enter Try.func19,Try.ntmps19
  go_wp2
  go_loopg [14] k (fun kq v14 w' => ∃ (x14_1 : Int),v14 = .int .i64 x14_1 ∧ Aside0 (laws_wnInts.l0 kq l1 l0 (l0.length : Int) x14_1 = some r) ∧ Aside0 (kq ≤ k) ∧ Drawn0 w w')
  case atStart => exact ⟨(0),(by first|rfl|(simp;done)|(simp [*];done)),H',⟨Nat.le_refl _⟩,by repeat (first|exact Drawn0.refl _|apply Drawn0.step)⟩
  case round =>
   clear H'
   try clear c1
   try clear p2
   try clear c3
   try clear c3b0
   try clear c3b1
   try clear c3b2
   obtain ⟨x14_1,rfl,HA,HK1,⟨m1,rfl⟩⟩:=hrel
   cases gk with
   | zero => exact absurd HA.out (by simp [laws_wnInts.l0])
   | succ k1 =>
    have H:=HA.out
    clear HA
    simp only [laws_wnInts.l0] at H
    by_cases c4 : x14_1 < (l0.length : Int)
    ·rw [if_pos c4] at H
     have c4b0 : decide (x14_1 < (l0.length : Int)) = true:=decide_eq_true c4
     clear c4
     by_cases c5 : 0 ≤ x14_1
     ·rw [if_pos c5] at H
      have c5b0 : decide (0 ≤ x14_1) = true:=decide_eq_true c5
      clear c5
      by_cases c6 : x14_1 < (l0.length : Int)
      ·rw [if_pos c6] at H
       have c6b0 : decide (x14_1 < (l0.length : Int)) = true:=decide_eq_true c6
       clear c6
       by_cases c7 : x14_1 < (l1.length : Int)
       ·rw [if_pos c7] at H
        have c7b0 : decide (x14_1 < (l1.length : Int)) = true:=decide_eq_true c7
        clear c7
        by_cases c8 : (rd l1 x14_1) = (rd l0 x14_1)
        ·rw [if_pos c8] at H
         have c8b0 : ((rd l1 x14_1) == (rd l0 x14_1)) = true:=beq_iff_eq.mpr c8
         have c8b1 : ((rd l1 x14_1) != (rd l0 x14_1)) = false:=bne_eq_false_iff_eq.mpr c8
         clear c8
         have H':=mk_ H
         clear H
         have p119 : 0 ≤ (x14_1 : Int):=od_ qa_
         have q119 : x14_1 < (l0.length : Int):=od_ qa_
         obtain ⟨ad119,e119,hx119_0⟩:=Kd.at_int HR0.out x14_1 p119 q119
         cases e119
         replace p119:=eq_true p119
         replace q119:=eq_true q119
         have p120 : 0 ≤ (x14_1 : Int):=od_ qa_
         have q120 : x14_1 < (l1.length : Int):=od_ qa_
         obtain ⟨ad120,e120,hx120_0⟩:=Kd.at_int HR1.out x14_1 p120 q120
         cases e120
         replace p120:=eq_true p120
         replace q120:=eq_true q120
         go_wp2
         go_roundg k1
         case measure => have:=HK1.out;omega
         case rel => exact ⟨(wrap64 (x14_1 + 1)),(by first|rfl|(simp;done)|(simp [*];done)),H',⟨by have:=HK1.out;omega⟩,by repeat (first|exact Drawn0.refl _|apply Drawn0.step)⟩
        ·rw [if_neg c8] at H
         have c8b0 : ((rd l1 x14_1) == (rd l0 x14_1)) = false:=beq_eq_false_iff_ne.mpr c8
         have c8b1 : ((rd l1 x14_1) != (rd l0 x14_1)) = true:=bne_iff_ne.mpr c8
         obtain rfl:=Option.some.inj H
         have p119 : 0 ≤ (x14_1 : Int):=od_ qa_
         have q119 : x14_1 < (l0.length : Int):=od_ qa_
         obtain ⟨ad119,e119,hx119_0⟩:=Kd.at_int HR0.out x14_1 p119 q119
         cases e119
         replace p119:=eq_true p119
         replace q119:=eq_true q119
         have p120 : 0 ≤ (x14_1 : Int):=od_ qa_
         have q120 : x14_1 < (l1.length : Int):=od_ qa_
         obtain ⟨ad120,e120,hx120_0⟩:=Kd.at_int HR1.out x14_1 p120 q120
         cases e120
         replace p120:=eq_true p120
         replace q120:=eq_true q120
         go_wp2
         go_ret
         exact ⟨by first|rfl|(simp;done)|(simp [*];done),by repeat (first|exact Drawn0.refl _|apply Drawn0.step)⟩
       ·rw [if_neg c7] at H
        exact absurd H (by simp)
      ·rw [if_neg c6] at H
       exact absurd H (by simp)
     ·rw [if_neg c5] at H
      exact absurd H (by simp)
    ·rw [if_neg c4] at H
     have c4b0 : decide (x14_1 < (l0.length : Int)) = false:=decide_eq_false c4
     clear c4
     obtain rfl:=Option.some.inj H
     go_wp2
     go_ret
     exact ⟨by first|rfl|(simp;done)|(simp [*];done),by repeat (first|exact Drawn0.refl _|apply Drawn0.step)⟩
 ·rw [if_neg c3] at H
  have c3b0 : ((l0.length : Int) == (l1.length : Int)) = false:=beq_eq_false_iff_ne.mpr c3
  have c3b1 : ((l0.length : Int) != (l1.length : Int)) = true:=bne_iff_ne.mpr c3
  have c3b2 : (l0.length == l1.length) = false:=by first|simpa using c3|(simp at c3 ⊢;omega)
  obtain rfl:=Option.some.inj H
  go_enter Try.func19,Try.ntmps19
  go_wp2
  go_ret
  exact ⟨by first|rfl|(simp;done)|(simp [*];done),by repeat (first|exact Drawn0.refl _|apply Drawn0.step)⟩

/-! ### laws_wnHas: function 21 -/
def laws_wnHas.l0 : Nat → Int → List Int → Int → Int → Option (Bool)
 | 0,_,_,_,_ => none
 | k + 1,x1,x7,x8,x9 => if x9 < x8 then (if 0 ≤ x9 then (if x9 < (x7.length : Int) then (if (rd x7 x9) = x1 then (some true) else (laws_wnHas.l0 k x1 x7 x8 (wrap64 (x9 + 1)))) else (none)) else (none)) else (some false)
def laws_wnHas.f (k : Nat) (l0 : List Int) (a1 : Int) : Option (Bool):=laws_wnHas.l0 k a1 l0 (l0.length : Int) 0
theorem laws_wnHas.mono_l : ∀ k,(∀ y0 y1 y2 y3,LeO (laws_wnHas.l0 k y0 y1 y2 y3) (laws_wnHas.l0 (k + 1) y0 y1 y2 y3))
 | 0 => fun _ _ _ _ r h => by simp [laws_wnHas.l0] at h
 | k + 1 => by
  have ih0:=laws_wnHas.mono_l k
  ·intro y0 y1 y2 y3
   unfold laws_wnHas.l0
   repeat' first
   | (with_reducible exact ih0 _ _ _ _)
   | (with_reducible exact LeO.refl _)
   | (with_reducible exact LeO.none _)
   | (with_reducible refine LeO.ite ?_ ?_)
   | (with_reducible refine LeO.bind ?_ (fun _ => ?_))
   | exact ih0 _ _ _ _
   | exact LeO.none _
   | refine LeO.ite ?_ ?_
   | refine LeO.bind ?_ (fun _ => ?_)
theorem laws_wnHas.mono : ∀ a0 a1 k,LeO (laws_wnHas.f k a0 a1) (laws_wnHas.f (k + 1) a0 a1):=by
 intro a0 a1 k
 have ih0:=laws_wnHas.mono_l k
 unfold laws_wnHas.f
 repeat' first
   | (with_reducible exact ih0 _ _ _ _)
   | (with_reducible exact LeO.refl _)
   | (with_reducible exact LeO.none _)
   | (with_reducible refine LeO.ite ?_ ?_)
   | (with_reducible refine LeO.bind ?_ (fun _ => ?_))
   | exact ih0 _ _ _ _
   | exact LeO.none _
   | refine LeO.ite ?_ ?_
   | refine LeO.bind ?_ (fun _ => ?_)
set_option maxHeartbeats 8000000 in
set_option maxRecDepth 100000 in
theorem laws_wnHas.calls (k : Nat) (A0 : Option Addr) (c0 : Nat) (l0 : List Int) (a1 : Int) (r : Bool) (w : World) (hr0 : Kd.C (Kd.int .i64) w A0 l0.length l0) (hc0 : l0.length ≤ c0) (h : laws_wnHas.f k l0 a1 = some r) :
  Calls Try.prog 21 #[.slice A0 l0.length c0,.int .i64 a1] w fun e w' => e = .returned (.bool r) ∧ Drawn0 w w':=by
 have HR0:=mk_ hr0
 have HC0:=mk_ hc0
 clear hr0 hc0
 have H : (laws_wnHas.l0 k a1 l0 (l0.length : Int) 0) = some r:=h
 clear h
 have H':=mk_ H
 clear H
 go_enter Try.func21,Try.ntmps21
 go_wp2
 go_loopg [9] k (fun kq v9 w' => ∃ (x9_1 : Int),v9 = .int .i64 x9_1 ∧ Aside0 (laws_wnHas.l0 kq a1 l0 (l0.length : Int) x9_1 = some r) ∧ Aside0 (kq ≤ k) ∧ Drawn0 w w')
 case atStart => exact ⟨(0),(by first|rfl|(simp;done)|(simp [*];done)),H',⟨Nat.le_refl _⟩,by repeat (first|exact Drawn0.refl _|apply Drawn0.step)⟩
 case round =>
  clear H'
  try clear c2
  try clear p2
  obtain ⟨x9_1,rfl,HA,HK1,⟨m1,rfl⟩⟩:=hrel
  cases gk with
  | zero => exact absurd HA.out (by simp [laws_wnHas.l0])
  | succ k1 =>
   have H:=HA.out
   clear HA
   simp only [laws_wnHas.l0] at H
   by_cases c3 : x9_1 < (l0.length : Int)
   ·rw [if_pos c3] at H
    have c3b0 : decide (x9_1 < (l0.length : Int)) = true:=decide_eq_true c3
    clear c3
    by_cases c4 : 0 ≤ x9_1
    ·rw [if_pos c4] at H
     have c4b0 : decide (0 ≤ x9_1) = true:=decide_eq_true c4
     clear c4
     by_cases c5 : x9_1 < (l0.length : Int)
     ·rw [if_pos c5] at H
      have c5b0 : decide (x9_1 < (l0.length : Int)) = true:=decide_eq_true c5
      clear c5
      by_cases c6 : (rd l0 x9_1) = a1
      ·rw [if_pos c6] at H
       have c6b0 : ((rd l0 x9_1) == a1) = true:=beq_iff_eq.mpr c6
       have c6b1 : ((rd l0 x9_1) != a1) = false:=bne_eq_false_iff_eq.mpr c6
       clear c6
       obtain rfl:=Option.some.inj H
       have p121 : 0 ≤ (x9_1 : Int):=od_ qa_
       have q121 : x9_1 < (l0.length : Int):=od_ qa_
       obtain ⟨ad121,e121,hx121_0⟩:=Kd.at_int HR0.out x9_1 p121 q121
       cases e121
       replace p121:=eq_true p121
       replace q121:=eq_true q121
       go_wp2
       go_ret
       exact ⟨by first|rfl|(simp;done)|(simp [*];done),by repeat (first|exact Drawn0.refl _|apply Drawn0.step)⟩
      ·rw [if_neg c6] at H
       have c6b0 : ((rd l0 x9_1) == a1) = false:=beq_eq_false_iff_ne.mpr c6
       have c6b1 : ((rd l0 x9_1) != a1) = true:=bne_iff_ne.mpr c6
       have H':=mk_ H
       clear H
       have p121 : 0 ≤ (x9_1 : Int):=od_ qa_
       have q121 : x9_1 < (l0.length : Int):=od_ qa_
       obtain ⟨ad121,e121,hx121_0⟩:=Kd.at_int HR0.out x9_1 p121 q121
       cases e121
       replace p121:=eq_true p121
       replace q121:=eq_true q121
       go_wp2
       go_roundg k1
       case measure => have:=HK1.out;omega
       case rel => exact ⟨(wrap64 (x9_1 + 1)),(by first|rfl|(simp;done)|(simp [*];done)),H',⟨by have:=HK1.out;omega⟩,by repeat (first|exact Drawn0.refl _|apply Drawn0.step)⟩
     ·rw [if_neg c5] at H
      exact absurd H (by simp)
    ·rw [if_neg c4] at H
     exact absurd H (by simp)
   ·rw [if_neg c3] at H
    have c3b0 : decide (x9_1 < (l0.length : Int)) = false:=decide_eq_false c3
    clear c3
    obtain rfl:=Option.some.inj H
    go_wp2
    go_ret
    exact ⟨by first|rfl|(simp;done)|(simp [*];done),by repeat (first|exact Drawn0.refl _|apply Drawn0.step)⟩

end Go.Proofs.Ytdamdcdjodmemaa.PAll

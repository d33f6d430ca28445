/- Proved here: contracts of functions of the given program, or lemmas on them, for the laws of this seat. Written by xprint.py, a program of this session, on the ground of the kit's print; parts by hand: wip/x/ext. -/
import Derived.Test.YtfbicfnokibobaaProg
import Derived.Below
import Derived.Deep.Draws
import Derived.Deep.AppendLies
import Derived.Maps.AppendAt
import Derived.OwnWalk
import Derived.Laws.BytesArg
import Derived.Laws.MakeOwn
import Derived.Laws.OwnMore
import Derived.Deep.OwnRows
import Derived.Tactics
import Derived.Lib.ConvBytes
import Derived.Laws.Slices
import Derived.WalkKit
import Derived.KernelRfl
import Derived.RowKit3
import Derived.Deep.LoopGhost
import Derived.Deep.QuietTactic
import Derived.BigQuiet
import Derived.WideLaws
import Derived.Deep.DeepCutAuto
import Derived.Deep.CutBlock
import Derived.Deep.RegionHeld3
import Derived.Laws.Rows
import Derived.Lib.AppendStr
import Derived.ArgAppend
import Derived.Laws.IdiomCopy
import Derived.OrdersHeld
import Derived.Laws.BitsLemmas
import Derived.RowKit
import Derived.Shelf.Abstract
import Derived.Deep.RegionLaw
import Derived.StillTailTactics
import Derived.Deep.Slices
import Derived.WalkSpells
import Derived.Test.YtfbicfnokibobaaWWords
import Derived.Test.YtfbicfnokibobaaWLast
import Derived.Test.YtfbicfnokibobaaWTab
import Derived.Test.YtfbicfnokibobaaWQPut
import Derived.Test.YtfbicfnokibobaaWApart
import Derived.Test.YtfbicfnokibobaaWArr
import Derived.Test.YtfbicfnokibobaaWZeros
import Derived.Test.YtfbicfnokibobaaWFoot
import Derived.Test.YtfbicfnokibobaaWKept
import Derived.Test.YtfbicfnokibobaaWShare
import Derived.Test.YtfbicfnokibobaaWN
import Derived.Test.YtfbicfnokibobaaWRepsOne
import Derived.Test.YtfbicfnokibobaaWNEv
import Derived.Test.YtfbicfnokibobaaWMore
namespace Go.Proofs.Ytfbicfnokibobaa.PAll
open Go.RowKit Go.Proofs.YtfbicfnokibobaaW.PrintWords Go.Proofs.YtfbicfnokibobaaW.PrintLast Go.Proofs.YtfbicfnokibobaaW.PrintMore
attribute [local go_sem] max2_int min2_int max_two min_two max_three min_three max_four min_four   -- for this text's walks alone
set_option linter.unusedVariables false
set_option linter.unusedSimpArgs false



def errW : Option Int → Value
  | none => .nilIface
  | some c => .iface 0 (.int .i64 c)
theorem errW_none : errW none = .nilIface:=rfl
theorem errW_some (c : Int) : errW (some c) = .iface 0 (.int .i64 c):=rfl

theorem info3 : (Try.prog.info? 3).map (fun i => (i.zero,i.size,i.bytes)) = some (some (.int .i64 0),1,8):=by kernel_rfl
theorem info4 : (Try.prog.info? 4).map (fun i => (i.zero,i.size,i.bytes)) = some (some (.bool false),1,1):=by kernel_rfl
theorem info5 : (Try.prog.info? 5).map (fun i => (i.zero,i.size,i.bytes)) = some (some (.int .u8 0),1,1):=by kernel_rfl
theorem info35 : (Try.prog.info? 35).map (fun i => (i.zero,i.size,i.bytes)) = some (some (.agg #[(.int .i64 0),(.int .i64 0)]),2,16):=by kernel_rfl
-- the values' own types
/-! #### struct type 35 -/
structure S35 where
  f0 : Int
  f1 : Int
def z35 : S35:=⟨(0 : Int),(0 : Int)⟩
def k35 : Kd S35:=Kd.iso (Kd.pair (Kd.int .i64) (Kd.int .i64)) (fun x : S35 => (x.f0,x.f1))
theorem k35_open {w : World} {x : S35} {cs : List Value} (h : k35.K w x cs) : cs = [.int .i64 x.f0,.int .i64 x.f1]:=by
  obtain ⟨_,_,rfl,rfl,rfl⟩:=h
  exact rfl
theorem k35_openM {w : World} {base : Nat} {ok : Nat → Prop} {x : S35} {cs : List Value} (h : k35.M w base ok x cs) : cs = [.int .i64 x.f0,.int .i64 x.f1]:=by
  obtain ⟨_,_,rfl,rfl,rfl⟩:=h
  exact rfl
theorem k35_mk (w : World) (x : S35)  : k35.K w x [.int .i64 x.f0,.int .i64 x.f1]:=⟨[.int .i64 x.f0],[.int .i64 x.f1],rfl,rfl,rfl⟩
theorem k35_mkM (w : World) (base : Nat) (ok : Nat → Prop) (x : S35)  : k35.M w base ok x [.int .i64 x.f0,.int .i64 x.f1]:=⟨[.int .i64 x.f0],[.int .i64 x.f1],rfl,rfl,rfl⟩
def rd_T35 (xs : List S35) (i : Int) : S35:=xs.getD i.toNat z35
theorem at_T35 {w : World} {A : Option Addr} {n : Nat} {xs : List S35} (h : Kd.C k35 w A n xs) (i : Int) (h0 : 0 ≤ i) (h1 : i < n) : ∃ ad ,A = some ad ∧ w.cell? (ad.add (i.toNat * 2)) = some (.int .i64 (rd_T35 xs i).f0) ∧ w.cell? ⟨(ad.add (i.toNat * 2)).block,(ad.add (i.toNat * 2)).off + 1,none⟩ = some (.int .i64 (rd_T35 xs i).f1):=by
  obtain ⟨ad,c,e,_,hK,hc0⟩:=Kd.C_get h z35 i h0 h1
  have hc : ∀ j u,c[j]? = some u → w.cell? (ad.add (i.toNat * 2 + j)) = some u:=hc0
  obtain rfl:=k35_open hK
  exact ⟨ad,e,hc 0 _ rfl,by rw [← add_field _ _ 1 (by omega)];exact hc 1 _ rfl⟩

def rd_L3 (xs : List (List S35)) (i : Int) : (List S35):=xs.getD i.toNat ([] : List S35)
theorem at_L3 {w : World} {A : Option Addr} {n : Nat} {xs : List (List S35)} (h : Kd.C (Kd.slice 35 k35) w A n xs) (i : Int) (h0 : 0 ≤ i) (h1 : i < n) : ∃ ad A0 c0,A = some ad ∧ w.cell? (ad.add i.toNat) = some (.slice A0 (rd_L3 xs i).length c0) ∧ (rd_L3 xs i).length ≤ c0 ∧ k35.C w A0 (rd_L3 xs i).length (rd_L3 xs i):=by
  obtain ⟨ad,c,e,_,hK,hc0⟩:=Kd.C_get h ([] : List S35) i h0 h1
  have hc : ∀ j u,c[j]? = some u → w.cell? (ad.add (i.toNat * 1 + j)) = some u:=hc0
  obtain ⟨A0,c0,rfl,l0,g0⟩:=hK
  exact ⟨ad,A0,c0,e,by have hq:=hc 0 _ rfl;rwa [Nat.mul_one,Nat.add_zero] at hq,l0,g0⟩

def rd_L5 (xs : List (List Bool)) (i : Int) : (List Bool):=xs.getD i.toNat ([] : List Bool)
theorem at_L5 {w : World} {A : Option Addr} {n : Nat} {xs : List (List Bool)} (h : Kd.C (Kd.slice 4 Kd.bool) w A n xs) (i : Int) (h0 : 0 ≤ i) (h1 : i < n) : ∃ ad A0 c0,A = some ad ∧ w.cell? (ad.add i.toNat) = some (.slice A0 (rd_L5 xs i).length c0) ∧ (rd_L5 xs i).length ≤ c0 ∧ Kd.bool.C w A0 (rd_L5 xs i).length (rd_L5 xs i):=by
  obtain ⟨ad,c,e,_,hK,hc0⟩:=Kd.C_get h ([] : List Bool) i h0 h1
  have hc : ∀ j u,c[j]? = some u → w.cell? (ad.add (i.toNat * 1 + j)) = some u:=hc0
  obtain ⟨A0,c0,rfl,l0,g0⟩:=hK
  exact ⟨ad,A0,c0,e,by have hq:=hc 0 _ rfl;rwa [Nat.mul_one,Nat.add_zero] at hq,l0,g0⟩

-- short names, so that a claim stays below its bound
abbrev mk_ := @Aside0.mk
abbrev bn_ := @pw_below_drewN
abbrev bd_ := @below_drew1
abbrev ba_ := @below_alloc
abbrev ra_ := @Kd.R_alloc
abbrev rn_ := @Kd.R_drewN
abbrev rd_ := @Kd.R_drew
abbrev bf_ := @blk_frozen
abbrev bc_ := @blk_cell
abbrev bs_ := @below_set
abbrev od_ := @of_decide_eq_true
abbrev wl_ := @World.block_lt_of_cell?
abbrev ca_ := @Kd.C_alloc
abbrev cn_ := @Kd.C_drewN
abbrev cd_ := @Kd.C_drew
abbrev kn_ := @blk_drewN
abbrev kd_ := @blk_drew
abbrev ka_ := @blk_alloc
abbrev st_ := @below_step
abbrev rb_ := @Kd.R_below
abbrev rr_ := @Kd.R_reads'
abbrev bz_ := @below_size
abbrev re_ := @Kd.R_elder'
abbrev cb_ := @Kd.C_below
abbrev rm_ := @Kd.R_mono
abbrev rt_ := @Kd.R_types
abbrev rf_ := @Kd.R_far
theorem qr_ {p q : Prop} (h : Aside0 p) (e : p → q := by intro h;(with_reducible repeat (first|apply ra_|apply rn_|apply rd_));exact h) : q := e h.out
theorem qk_ {p q : Prop} (h : Aside0 p) (e : p → q := by intro h;(with_reducible repeat (first|refine kn_ ?_ _|refine kd_ ?_|refine ka_ ?_ _));exact h) : q := e h.out
theorem qb_ {p q : Prop} (h : Aside0 p) (e : p → q := by intro h;repeat (first|(with_reducible first|exact h|apply ba_|apply bn_|apply bd_)|exact h)) : q := e h.out
theorem qc_ {p q r : Prop} (h : Aside0 p) (g : Aside0 r) (e : p → r → q := by intro h g;repeat (first|(with_reducible first|exact h|apply ba_|apply bn_|apply bd_|refine bs_ ?_ g)|exact h)) : q := e h.out g.out
theorem qd_ {p q r s : Prop} (h : Aside0 p) (g : Aside0 r) (f : Aside0 s) (e : p → r → s → q := by intro h g f;repeat (first|(with_reducible first|exact h|apply ba_|apply bn_|apply bd_|refine bs_ ?_ g|refine bs_ ?_ f)|exact h)) : q := e h.out g.out f.out
theorem qm_ {p : Prop} (h : p := by (try simp only [List.map_toArray,List.map_cons,List.map_nil]);first|done|rfl|(simp only [List.length_drop,List.length_take];rfl)) : p := h
theorem qn_ {p q r : Prop} (h : Aside0 p) (g : Aside0 r) (e : p → r → q := by intro h g;repeat (first|exact (cb_ h g)|(with_reducible refine ca_ ?_ _)|(with_reducible refine cn_ ?_ _)|(with_reducible refine cd_ ?_))) : q := e h.out g.out
theorem qf_ {p : Prop} (h : p := by first|rfl|(simp;done)|(simp [*];done)) : p := h
theorem qe_ {p : Prop} (h : p := by first|rfl|(simp [errW_none,errW_some] <;> rfl)|(simp [*,errW_none,errW_some] <;> rfl)) : p := h
theorem qa_ {p : Prop} (h : p := by first|(with_reducible assumption)|assumption) : p := h
theorem sx_ {α : Type _} (l : List α) (i : Nat) (a : α) : l.toArray.setIfInBounds i a = (l.set i a).toArray := List.setIfInBounds_toArray l i a
theorem sy_ {α : Type _} (l : List α) (x a : α) : (x :: l).set 0 a = a :: l := List.set_cons_zero
theorem sz_ {α : Type _} (l : List α) (x a : α) (i : Nat) : (x :: l).set (i + 1) a = x :: l.set i a := List.set_cons_succ
theorem u0_ {p q : Prop} (h : Aside0 p) (e : p → q := by intro h ;repeat (first|(with_reducible first|exact h|apply IsS72.alloc|apply IsS72.drewN|apply IsS72.drew|apply IsS72.set_1)|exact h)) : q := e h.out
theorem u1_ {p q : Prop} (h : Aside0 p) (e : p → q := by intro h ;repeat (first|(with_reducible first|exact h|apply KeepBut.set_|apply keep_drewN|apply keep_drew|apply keep_alloc)|exact h)) : q := e h.out
theorem u2_ {p q r0 : Prop} (h : Aside0 p) (g0 : Aside0 r0) (e : p → r0 → q := by intro h g0;repeat (first|(with_reducible first|exact h|apply ba_|apply bn_|apply bd_|refine bs_ ?_ (IsS72.ge g0))|exact h)) : q := e h.out g0.out
theorem u3_ {p q : Prop} (h : Aside0 p) (e : p → q := by intro h ;repeat (first|(with_reducible first|exact h|apply ba_|apply bn_|apply bd_)|exact h)) : q := e h.out
theorem u4_ {p q r0 : Prop} (h : Aside0 p) (g0 : Aside0 r0) (e : p → r0 → q := by intro h g0;repeat (first|(with_reducible first|exact h|apply ba_|apply bn_|apply bd_|refine bs_ ?_ g0)|exact h)) : q := e h.out g0.out
end Go.Proofs.Ytfbicfnokibobaa.PAll

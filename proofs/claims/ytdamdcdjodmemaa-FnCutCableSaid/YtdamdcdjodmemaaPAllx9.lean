/- Proved here: contracts of functions of the given program, or lemmas on them, for the laws of this seat. Written by xprint.py, a program of this session, on the ground of the kit's print; parts by hand: wip/x/ext. -/
import Derived.Test.YtdamdcdjodmemaaPAllx0
import Derived.Test.YtdamdcdjodmemaaPAllx1
import Derived.Test.YtdamdcdjodmemaaPAllx5
import Derived.Test.YtdamdcdjodmemaaPAllx8
namespace Go.Proofs.Ytdamdcdjodmemaa.PAll
open Go.RowKit Go.Proofs.YtdamdcdjodmemaaW.PrintWords Go.Proofs.YtdamdcdjodmemaaW.PrintLast Go.Proofs.YtdamdcdjodmemaaW.PrintMore
attribute [local go_sem] max2_int min2_int max_two min_two max_three min_three max_four min_four   -- for this text's walks alone
set_option linter.unusedVariables false
set_option linter.unusedSimpArgs false

-- LIB pdraw19k
theorem drawCut_ok {l : List Int} (h : ∀ x ∈ l,(Lit.int .u8 x).wf = true) : ∃ n cs hs vs s,cs.length ≤ 20 ∧ hs.length ≤ 15 ∧ vs.length ≤ 15 ∧ ∀ k,100 < k → spec_DrawCutCable.f k l = some (n,cs,hs,vs,s):=by
  obtain ⟨b,hbo,hb⟩:=open_ok l h
  obtain ⟨n,cs,hs,vs,p,q1,q2,q3,q4,q5,q6,q7,q8⟩:=l19_ok hb (p:=0) (by omega) (by omega)
  obtain ⟨r1,_,_,_,e1⟩:=pick_ok hb (wrap64 ((cs.length : Int) + 2)) (show 0 ≤ p by omega) (by omega)
  obtain ⟨r2,_,_,_,e2⟩:=pick_ok hb 9 (show 0 ≤ p + 1 by omega) (by omega)
  refine ⟨n,cs,hs,vs,wrap64 (r1 - (wrap64 (Int.tdiv r2 8))),q1,q2,q3,fun k hk => ?_⟩
  unfold spec_DrawCutCable.f
  rw [hbo,Option.bind_some]
  simp only []
  rw [q8 k (by omega),Option.bind_some]
  simp only []
  rw [e1 k (by omega),Option.bind_some]
  simp only []
  rw [e2 k (by omega),Option.bind_some]

-- LIB hasl
/-- A number is in a list. -/
def hasL (l : List Int) (x : Int) : Bool:=l.any fun y => decide (y = x)
theorem hasL_cons (y : Int) (l : List Int) (x : Int) : hasL (y :: l) x = (decide (y = x) || hasL l x):=rfl
theorem hasL_iff (l : List Int) (x : Int) : hasL l x = true ↔ x ∈ l:=by
  unfold hasL
  rw [List.any_eq_true]
  constructor
  · rintro ⟨y,h,e⟩
    rw [← of_decide_eq_true e];exact h
  · intro h
    exact ⟨x,h,decide_eq_true rfl⟩

-- LIB pwnhasl
theorem wnHas_at (l : List Int) (x : Int) (hl : l.length ≤ 9223372036854775807) (d : Nat) : ∀ (k i : Nat),i + d = l.length → d < k → laws_wnHas.l0 k x l l.length (i : Int) = some (hasL (l.drop i) x):=by
  induction d with
  | zero =>
    intro k i h1 hk
    obtain ⟨k,rfl⟩ : ∃ m,k = m + 1:=⟨k - 1,by omega⟩
    simp only [laws_wnHas.l0]
    rw [if_neg (by omega),List.drop_of_length_le (by omega)]
    rfl
  | succ d ih =>
    intro k i h1 hk
    obtain ⟨k,rfl⟩ : ∃ m,k = m + 1:=⟨k - 1,by omega⟩
    simp only [laws_wnHas.l0]
    rw [if_pos (by omega),if_pos (by omega),if_pos (by omega),rd_get l i (by omega),wrap_succ (show i < l.length by omega) (by omega),ih k (i + 1) (by omega) (by omega),List.drop_eq_getElem_cons (show i < l.length by omega),hasL_cons]
    by_cases c : l[i] = x
    · rw [if_pos c,decide_eq_true c,Bool.true_or]
    · rw [if_neg c,decide_eq_false c,Bool.false_or]
theorem wnHas_eq (l : List Int) (x : Int) (hl : l.length ≤ 9223372036854775807) (k : Nat) (hk : l.length < k) : laws_wnHas.f k l x = some (hasL l x):=wnHas_at l x hl l.length k 0 (by omega) hk

-- LIB pwnints
theorem wnInts_at (a b : List Int) (hl : a.length = b.length) (hm : a.length ≤ 9223372036854775807) (d : Nat) : ∀ (k i : Nat),i + d = a.length → d < k → laws_wnInts.l0 k b a a.length (i : Int) = some (decide (a.drop i = b.drop i)):=by
  induction d with
  | zero =>
    intro k i h1 hk
    obtain ⟨k,rfl⟩ : ∃ m,k = m + 1:=⟨k - 1,by omega⟩
    simp only [laws_wnInts.l0]
    rw [if_neg (by omega),List.drop_of_length_le (by omega),List.drop_of_length_le (by omega)]
    simp
  | succ d ih =>
    intro k i h1 hk
    obtain ⟨k,rfl⟩ : ∃ m,k = m + 1:=⟨k - 1,by omega⟩
    simp only [laws_wnInts.l0]
    rw [if_pos (by omega),if_pos (by omega),if_pos (by omega),if_pos (by omega),rd_get a i (by omega),rd_get b i (by omega),List.drop_eq_getElem_cons (show i < a.length by omega),List.drop_eq_getElem_cons (show i < b.length by omega),wrap_succ (show i < a.length by omega) (by omega),ih k (i + 1) (by omega) (by omega)]
    by_cases c : b[i] = a[i]
    · rw [if_pos c,c];congr 1;rw [decide_eq_decide];exact ⟨fun h => by rw [h],fun h => (List.cons.inj h).2⟩
    · rw [if_neg c,decide_eq_false (fun h => c (List.cons.inj h).1.symm)]
theorem wnInts_eq (a b : List Int) (hm : a.length ≤ 9223372036854775807) (k : Nat) (hk : a.length < k) : laws_wnInts.f k a b = some (decide (a = b)):=by
  unfold laws_wnInts.f
  by_cases c : a.length = b.length
  · rw [if_pos (by omega)]
    exact wnInts_at a b c hm a.length k 0 (by omega) hk
  · rw [if_neg (by omega),decide_eq_false (fun h => c (by rw [h]))]

end Go.Proofs.Ytdamdcdjodmemaa.PAll

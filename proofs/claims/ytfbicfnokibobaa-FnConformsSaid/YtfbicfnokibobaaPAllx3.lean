/- Proved here: contracts of functions of the given program, or lemmas on them, for the laws of this seat. Written by xprint.py, a program of this session, on the ground of the kit's print; parts by hand: wip/x/ext. -/
import Derived.Test.YtfbicfnokibobaaPAllx0
import Derived.Test.YtfbicfnokibobaaPAllx1
import Derived.Test.YtfbicfnokibobaaPAllx2
namespace Go.Proofs.Ytfbicfnokibobaa.PAll
open Go.RowKit Go.Proofs.YtfbicfnokibobaaW.PrintWords Go.Proofs.YtfbicfnokibobaaW.PrintLast Go.Proofs.YtfbicfnokibobaaW.PrintMore
attribute [local go_sem] max2_int min2_int max_two min_two max_three min_three max_four min_four   -- for this text's walks alone
set_option linter.unusedVariables false
set_option linter.unusedSimpArgs false

-- LIB p14
theorem l1InP_eq (n a b : Int) : spec_l1In.f n a b = some (decide (a ≤ n) && decide (n ≤ b)):=by
  unfold spec_l1In.f
  by_cases h : n ≥ a
  · rw [if_pos h,decide_eq_true (show a ≤ n from h),Bool.true_and]
  · rw [if_neg h,decide_eq_false (show ¬ a ≤ n from h),Bool.false_and]
theorem spulses_at (l : List S35) (hl : l.length ≤ 9223372036854775807) (d : Nat) : ∀ (k i : Nat),1 ≤ i → i + d = l.length → d < k → spec_PulsesValid.l0 k l (i : Int) = some ((l.drop i).all pulseB && nondec (l.drop (i - 1)) && decide (l.length ≤ 60)):=by
  induction d with
  | zero =>
    intro k i h1 h2 hk
    obtain ⟨k,rfl⟩ : ∃ m,k = m + 1:=⟨k - 1,by omega⟩
    simp only [spec_PulsesValid.l0]
    have e1 : l.drop i = []:=by rw [show i = l.length by omega,List.drop_length]
    have e2 : l.drop (i - 1 + 1) = []:=by rw [show i - 1 + 1 = l.length by omega,List.drop_length]
    have e3 : ((l.length : Int) ≤ 60) = (l.length ≤ 60):=by apply propext;omega
    rw [if_neg (by omega),e1,List.drop_eq_getElem_cons (show i - 1 < l.length by omega),e2]
    simp [nondec,e3]
  | succ d ih =>
    intro k i h1 h2 hk
    obtain ⟨k,rfl⟩ : ∃ m,k = m + 1:=⟨k - 1,by omega⟩
    have e1 : wrap64 ((i : Int) - 1) = ((i - 1 : Nat) : Int):=by unfold wrap64;omega
    have ih':=ih k (i + 1) (by omega) (by omega) (by omega)
    simp only [spec_PulsesValid.l0]
    rw [e1,wrap_succ (show i < l.length by omega) (by omega),if_pos (by omega),if_pos (by omega),if_pos (show (i : Int) > 0 by omega),if_pos (by omega),if_pos (by omega),ih',l1InP_eq,l1InP_eq]
    rw [rdP_get l i (by omega),rdP_get l (i - 1) (by omega),List.drop_eq_getElem_cons (show i - 1 < l.length by omega),show i - 1 + 1 = i by omega,List.drop_eq_getElem_cons (show i < l.length by omega),nondec,show i + 1 - 1 = i by omega,List.drop_eq_getElem_cons (show i < l.length by omega)]
    simp only [Option.bind_some,List.all_cons]
    have hp : pulseB l[i] = ((decide (0 ≤ l[i].f0) && decide (l[i].f0 ≤ 2000)) && (decide (1 ≤ l[i].f1) && decide (l[i].f1 ≤ 50))):=rfl
    rw [hp]
    cases c1 : (decide (0 ≤ l[i].f0) && decide (l[i].f0 ≤ 2000)) with
    | false => rw [if_neg (by decide)];simp
    | true =>
      rw [if_pos rfl]
      cases c2 : (decide (1 ≤ l[i].f1) && decide (l[i].f1 ≤ 50)) with
      | false => rw [if_neg (by decide)];simp
      | true =>
        rw [if_pos rfl]
        by_cases c : l[i - 1].f0 > l[i].f0
        · rw [if_pos c,decide_eq_false (show ¬ l[i - 1].f0 ≤ l[i].f0 by omega)];simp
        · rw [if_neg c,decide_eq_true (show l[i - 1].f0 ≤ l[i].f0 by omega)];simp
theorem spulses_eq (l : List S35) (hl : l.length ≤ 9223372036854775807) (k : Nat) (hk : l.length < k) : spec_PulsesValid.f k l = some (pvB l):=by
  unfold spec_PulsesValid.f pvB
  obtain ⟨k,rfl⟩ : ∃ m,k = m + 1:=⟨k - 1,by omega⟩
  simp only [spec_PulsesValid.l0]
  match l,hl,hk with
  | [],_,_ => rfl
  | x :: t,hl,hk =>
    have h1:=spulses_at (x :: t) hl t.length k 1 (by omega) (by simp;omega) (by simp at hk;omega)
    have hx : rd_T35 (x :: t) 0 = x:=rfl
    rw [if_pos (by simp only [List.length_cons];omega),if_pos (by omega),l1InP_eq,l1InP_eq,hx]
    simp only [Option.bind_some,List.all_cons]
    have hp : pulseB x = ((decide (0 ≤ x.f0) && decide (x.f0 ≤ 2000)) && (decide (1 ≤ x.f1) && decide (x.f1 ≤ 50))):=rfl
    rw [hp]
    cases c1 : (decide (0 ≤ x.f0) && decide (x.f0 ≤ 2000)) with
    | false => rw [if_neg (by decide)];simp
    | true =>
      rw [if_pos rfl]
      cases c2 : (decide (1 ≤ x.f1) && decide (x.f1 ≤ 50)) with
      | false => rw [if_neg (by decide)];simp
      | true =>
        rw [if_pos rfl,if_neg (by decide),wrap_eq (by decide) (by decide)]
        refine Eq.trans h1 ?_
        simp only [List.drop_succ_cons,List.drop_zero,Nat.sub_self,Bool.true_and]
theorem sfits_eq (r b : Int) (l : List S35) (hl : l.length ≤ 9223372036854775807) (k : Nat) (hk : l.length < k) : spec_l14Fits.f k r b l = some (fitsB r b l):=by
  unfold spec_l14Fits.f fitsB
  rw [l1InP_eq,l1InP_eq,spulses_eq l hl k hk]
  simp only [Option.bind_some]
  cases (decide (1 ≤ r) && decide (r ≤ 20)) <;> cases (decide (1 ≤ b) && decide (b ≤ 100)) <;> cases pvB l <;> rfl
theorem spol_at (r b : Int) (l : List S35) (hl : l.length ≤ 100000) (d : Nat) : ∀ (k i : Nat) (out : List Bool) (T a : Int),i + d = l.length → d < k → out.length ≤ i → spec_PolicePulses.l0 k r b l out T a (i : Int) = some (out ++ polL r b T a (l.drop i)):=by
  induction d with
  | zero =>
    intro k i out T a h2 hk ho
    obtain ⟨k,rfl⟩ : ∃ m,k = m + 1:=⟨k - 1,by omega⟩
    simp only [spec_PolicePulses.l0]
    rw [if_neg (by omega),show i = l.length by omega,List.drop_length]
    simp [polL]
  | succ d ih =>
    intro k i out T a h2 hk ho
    obtain ⟨k,rfl⟩ : ∃ m,k = m + 1:=⟨k - 1,by omega⟩
    simp only [spec_PolicePulses.l0]
    have hu : mn b (wrap64 (T + wrap64 (r * wrap64 (l[i].f0 - a)))) = untilT r b T a l[i].f0:=rfl
    rw [if_pos (by omega),if_pos (by omega),rdP_get l i (by omega),wrap_succ (show i < l.length by omega) (by omega),List.drop_eq_getElem_cons (show i < l.length by omega),polL,hu]
    have hok : takeOk r b T a l[i].f0 l[i].f1 = decide (l[i].f1 ≤ untilT r b T a l[i].f0):=rfl
    have hT : takeT r b T a l[i].f0 l[i].f1 = if l[i].f1 ≤ untilT r b T a l[i].f0 then wrap64 (untilT r b T a l[i].f0 - l[i].f1) else untilT r b T a l[i].f0:=rfl
    rw [hok,hT]
    by_cases c : l[i].f1 ≤ untilT r b T a l[i].f0
    · rw [if_pos c,if_pos (by omega),ih k (i + 1) _ _ _ (by omega) (by omega) (by simp;omega),if_pos c]
      simp
    · rw [if_neg c,if_pos (by omega),ih k (i + 1) _ _ _ (by omega) (by omega) (by simp;omega),if_neg c]
      simp
theorem spol_eq (r b : Int) (l : List S35) (hl : l.length ≤ 9223372036854775807) (k : Nat) (hk : l.length < k) : spec_PolicePulses.f k r b l = some (polF r b l):=by
  unfold spec_PolicePulses.f polF
  rw [Option.bind_some,sfits_eq r b l (by omega) k hk,Option.bind_some]
  cases hf : fitsB r b l with
  | false => rw [if_neg (by decide),if_neg (by decide)]
  | true =>
    obtain ⟨_,f2,_⟩:=fitsB_facts hf
    rw [if_pos rfl,if_pos rfl]
    exact (spol_at r b l (by omega) l.length k 0 [] b 0 (by omega) (by omega) (by simp)).trans (by rw [List.drop_zero,List.nil_append])
theorem polL_len (r b : Int) (l : List S35) : ∀ T a,(polL r b T a l).length = l.length:=by
  induction l with
  | nil => intro T a;rfl
  | cons p l ih => intro T a;simp [polL,ih]
theorem sconf_at (r b : Int) (l : List S35) (hl : l.length ≤ 100000) (k0 : Nat) (hk0 : l.length < k0) (o : List Bool) (ho : o.length ≤ 100000) (d : Nat) : ∀ (k i : Nat),i + d = o.length → l.length + d + 1 < k → spec_Conforms.l0 k r b l o (i : Int) = some ((o.drop i).all id && fitsB r b l):=by
  induction d with
  | zero =>
    intro k i h2 hk
    obtain ⟨k,rfl⟩ : ∃ m,k = m + 1:=⟨k - 1,by omega⟩
    simp only [spec_Conforms.l0]
    rw [if_neg (by omega),show i = o.length by omega,List.drop_length,sfits_eq r b l (by omega) k (by omega)]
    simp
  | succ d ih =>
    intro k i h2 hk
    obtain ⟨k,rfl⟩ : ∃ m,k = m + 1:=⟨k - 1,by omega⟩
    have r1 : rdOf false o (i : Int) = o[i]:=by simp [rdOf,List.getD_eq_getElem?_getD,show i < o.length by omega]
    simp only [spec_Conforms.l0]
    rw [if_pos (by omega),if_pos (by omega),r1,wrap_succ (show i < o.length by omega) (by omega),List.drop_eq_getElem_cons (show i < o.length by omega),List.all_cons]
    cases hc : o[i] with
    | false => rw [if_neg (by decide)];simp
    | true => rw [if_pos rfl,ih k (i + 1) (by omega) (by omega)];simp
theorem sconf_eq (r b : Int) (l : List S35) (hl : l.length ≤ 9223372036854775807) (k : Nat) (hk : 2 * l.length + 1 < k) : spec_Conforms.f k r b l = some (confF r b l):=by
  unfold spec_Conforms.f confF
  rw [spol_eq r b l (by omega) k (by omega),Option.bind_some]
  have hlen : (polF r b l).length ≤ l.length:=by unfold polF;split <;> simp [polL_len]
  cases hf : fitsB r b l with
  | false =>
    have e : polF r b l = []:=by unfold polF;rw [hf,if_neg (by decide)]
    obtain ⟨k,rfl⟩ : ∃ m,k = m + 1:=⟨k - 1,by omega⟩
    rw [e]
    simp only [spec_Conforms.l0]
    rw [if_neg (by simp),sfits_eq r b l (by omega) k (by omega),Option.bind_some,hf]
    rfl
  | true =>
  obtain ⟨_,f2,_⟩:=fitsB_facts hf
  rw [← hf]
  exact (sconf_at r b l (by omega) k (by omega) (polF r b l) (by omega) (polF r b l).length k 0 (by omega) (by omega)).trans (by rw [List.drop_zero,Bool.and_comm])
theorem iconf_eq (r b : Int) (l : List S35) : impl_Conforms.f r b l = some (confF r b l):=rfl

-- LIB p14mono
theorem untilT_fit {r b T a t : Int} (h1 : 1 ≤ r ∧ r ≤ 20) (h2 : 1 ≤ b ∧ b ≤ 100) (h3 : 0 ≤ T ∧ T ≤ 100) (h4 : 0 ≤ a) (h5 : a ≤ t) (h6 : t ≤ 100000) : untilT r b T a t = mn b (T + r * (t - a)) ∧ 0 ≤ r * (t - a) ∧ r * (t - a) ≤ 2000000:=by
  have e1 : wrap64 (t - a) = t - a:=wrap_eq (by omega) (by omega)
  have g1 : 0 ≤ r * (t - a):=Int.mul_nonneg (by omega) (by omega)
  have g2 : r * (t - a) ≤ 20 * 100000:=Int.mul_le_mul (by omega) (by omega) (by omega) (by omega)
  refine ⟨?_,g1,by omega⟩
  unfold untilT
  rw [e1,wrap_eq (x:=r * (t - a)) (by omega) (by omega),wrap_eq (by omega) (by omega)]
theorem mn_eq (a b : Int) : mn a b = if b < a then b else a:=rfl
/-- The frames of a list that are right at or behind a time. -/
def fromB (a : Int) : List S35 → Bool
  | [] => true
  | p :: l => (decide (a ≤ p.f0) && pulseB p) && fromB p.f0 l
theorem fromB_of (l : List S35) : ∀ a,l.all pulseB = true → nondec l = true → (∀ p ∈ l.head?,a ≤ p.f0) → fromB a l = true:=by
  induction l with
  | nil => intro _ _ _ _;rfl
  | cons p l ih =>
    intro a h1 h2 h3
    rw [List.all_cons,Bool.and_eq_true] at h1
    have h4 : nondec l = true ∧ ∀ q ∈ l.head?,p.f0 ≤ q.f0:=by
      match l,h2 with
      | [],_ => exact ⟨rfl,by simp⟩
      | q :: t,h2 =>
        rw [nondec,Bool.and_eq_true] at h2
        exact ⟨h2.2,by simpa using h2.1⟩
    have h5 : a ≤ p.f0:=h3 p (by simp)
    rw [fromB,decide_eq_true h5,h1.1,ih p.f0 h1.2 h4.1 h4.2]
    rfl
theorem pv_from {l : List S35} (h : pvB l = true) : fromB 0 l = true:=by
  unfold pvB at h
  rw [Bool.and_eq_true,Bool.and_eq_true] at h
  refine fromB_of l 0 h.1.1 h.1.2 ?_
  intro p hp
  have hm : p ∈ l:=List.mem_of_mem_head? hp
  have:=List.all_eq_true.1 h.1.1 p hm
  unfold pulseB at this
  simp at this
  omega
theorem fromB_cons {a : Int} {p : S35} {l : List S35} (h : fromB a (p :: l) = true) : a ≤ p.f0 ∧ 0 ≤ p.f0 ∧ p.f0 ≤ 2000 ∧ 1 ≤ p.f1 ∧ p.f1 ≤ 50 ∧ fromB p.f0 l = true:=by
  rw [fromB,pulseB,Bool.and_eq_true] at h
  obtain ⟨h1,h2⟩:=h
  simp at h1
  exact ⟨by omega,by omega,by omega,by omega,by omega,h2⟩

-- LIB p14iv
/-- From a time on with a sum, no part of the list passes what may come. -/
def ivF (r b a : Int) : Int → List S35 → Bool
  | _,[] => true
  | acc,p :: l => decide (acc + p.f1 ≤ b + r * (p.f0 - a)) && ivF r b a (acc + p.f1) l
def kpF (r b : Int) : List S35 → Bool
  | [] => true
  | p :: l => ivF r b p.f0 0 (p :: l) && kpF r b l
theorem mul_part (r t a c : Int) : r * (t - a) = r * (t - c) + r * (c - a):=by
  rw [← Int.mul_add]
  congr 1
  omega
theorem iv_min (r b T a c s : Int) (l : List S35) : ∀ acc : Int,(ivF r T a (acc + s) l && ivF r b c (acc + s) l) = ivF r (mn b (T + r * (c - a)) - s) c acc l:=by
  induction l with
  | nil => exact fun _ => rfl
  | cons p l ih =>
    intro acc
    rw [ivF,ivF,ivF,← ih (acc + p.f1),mul_part r p.f0 a c,show acc + s + p.f1 = acc + p.f1 + s by omega]
    generalize r * (p.f0 - c) = y
    generalize r * (c - a) = z
    have e : decide (acc + p.f1 ≤ mn b (T + z) - s + y) = (decide (acc + p.f1 + s ≤ T + (y + z)) && decide (acc + p.f1 + s ≤ b + y)):=by
      rw [mn_eq,Bool.eq_iff_iff,Bool.and_eq_true,decide_eq_true_eq,decide_eq_true_eq,decide_eq_true_eq]
      split <;> omega
    rw [e]
    cases decide (acc + p.f1 + s ≤ T + (y + z)) <;> cases decide (acc + p.f1 + s ≤ b + y) <;> cases ivF r T a (acc + p.f1 + s) l <;> cases ivF r b c (acc + p.f1 + s) l <;> rfl
/-- What a shaper lets through is what keeps to the bound from each frame on. -/
theorem pol_iv {r b : Int} (hr : 1 ≤ r ∧ r ≤ 20) (hb : 1 ≤ b ∧ b ≤ 100) (l : List S35) : ∀ T a : Int,0 ≤ T → T ≤ b → 0 ≤ a → fromB a l = true → (polL r b T a l).all id = (ivF r T a 0 l && kpF r b l):=by
  induction l with
  | nil => exact fun _ _ _ _ _ _ => rfl
  | cons p l ih =>
    intro T a h1 h2 h3 hf
    obtain ⟨f1,f2,f3,f4,f5,f6⟩:=fromB_cons hf
    obtain ⟨u1,u2,u3⟩:=untilT_fit (r:=r) (b:=b) (T:=T) (a:=a) (t:=p.f0) hr hb (by omega) h3 f1 (by omega)
    have hm:=iv_min r b T a p.f0 p.f1 l 0
    have hz : r * (p.f0 - p.f0) = 0:=by rw [Int.sub_self,Int.mul_zero]
    rw [polL,List.all_cons,kpF,ivF,ivF,hz]
    unfold takeOk takeT
    rw [u1]
    rw [Int.zero_add] at hm ⊢
    generalize hq : mn b (T + r * (p.f0 - a)) = q at *
    have hq1 : q ≤ b ∧ q ≤ T + r * (p.f0 - a) ∧ (q = b ∨ q = T + r * (p.f0 - a)):=by
      rw [mn_eq] at hq;split at hq <;> omega
    by_cases c : p.f1 ≤ q
    · rw [if_pos c,wrap_eq (x:=q - p.f1) (by omega) (by omega),ih (q - p.f1) p.f0 (by omega) (by omega) f2 f6,← hm,decide_eq_true c,decide_eq_true (show p.f1 ≤ T + r * (p.f0 - a) by omega),decide_eq_true (show p.f1 ≤ b + 0 by omega)]
      cases ivF r T a p.f1 l <;> cases ivF r b p.f0 p.f1 l <;> cases kpF r b l <;> rfl
    · rw [decide_eq_false c]
      have : decide (p.f1 ≤ T + r * (p.f0 - a)) = false ∨ decide (p.f1 ≤ b + 0) = false:=by
        rcases hq1.2.2 with h | h
        · exact Or.inr (decide_eq_false (by omega))
        · exact Or.inl (decide_eq_false (by omega))
      rcases this with h | h
      · rw [h];simp
      · rw [h];cases decide (p.f1 ≤ T + r * (p.f0 - a)) <;> cases ivF r T a p.f1 l <;> simp
theorem iv_from {r b : Int} (hr : 1 ≤ r) (a a' : Int) (h : a' ≤ a) (l : List S35) : ∀ acc,ivF r b a acc l = true → ivF r b a' acc l = true:=by
  induction l with
  | nil => exact fun _ h => h
  | cons p l ih =>
    intro acc hi
    rw [ivF,Bool.and_eq_true,decide_eq_true_eq] at hi ⊢
    refine ⟨?_,ih _ hi.2⟩
    have:=mul_part r p.f0 a' a
    have : 0 ≤ r * (a - a'):=Int.mul_nonneg (by omega) (by omega)
    omega
/-- Frames conform where no part of them passes the bound. -/
theorem conf_iv (r b : Int) (l : List S35) (hf : fitsB r b l = true) : confF r b l = kpF r b l:=by
  obtain ⟨f1,f2,f3,f4,f5,f6⟩:=fitsB_facts hf
  unfold confF polF
  rw [hf,if_pos rfl,Bool.true_and,pol_iv ⟨f3,f4⟩ ⟨f5,f6⟩ l b 0 (by omega) (by omega) (by omega) (pv_from f1)]
  cases hk : kpF r b l with
  | false => rw [Bool.and_false]
  | true =>
    rw [Bool.and_true]
    match l,hk,f1 with
    | [],_,_ => rfl
    | p :: t,hk,f1 =>
      rw [kpF,Bool.and_eq_true] at hk
      obtain ⟨_,g2,_⟩:=fromB_cons (pv_from f1)
      exact iv_from f3 p.f0 0 g2 (p :: t) 0 hk.1

-- LIB shdef
/-- When a frame of a size that comes at a time goes on, and what is left of the tokens then. -/
def shAt (r b T a pa ps : Int) : Int × Int :=
  let t1:=mx pa a
  let T1:=untilT r b T a t1
  if 0 < wrap64 (ps - T1) then
    let t2:=wrap64 (t1 + wrap64 (Int.tdiv (wrap64 (wrap64 (wrap64 (ps - T1) + r) - 1)) r))
    (wrap64 (untilT r b T1 t1 t2 - ps),t2)
  else (wrap64 (T1 - ps),t1)
/-- The times at which frames go on; none where one is too great. -/
def shL (r b : Int) : Int → Int → List S35 → Option (List Int)
  | _,_,[] => some []
  | T,a,p :: l => if b < p.f1 then none else (shL r b (shAt r b T a p.f0 p.f1).1 (shAt r b T a p.f0 p.f1).2 l).map fun o => (shAt r b T a p.f0 p.f1).2 :: o
def shF (r b : Int) (l : List S35) : List Int:=if fitsB r b l = true then (shL r b b 0 l).getD [] else []

-- LIB p14shape
theorem ssh_l2 {r b : Int} (hr : 1 ≤ r ∧ r ≤ 20) (hb : 1 ≤ b ∧ b ≤ 100) (l : List S35) (hl : l.length ≤ 1000) (i : Nat) (hi : i < l.length) (hs : 1 ≤ l[i].f1 ∧ l[i].f1 ≤ b) (out : List Int) (ho : out.length ≤ 1000) (k : Nat) (m : Nat) : ∀ (x t : Int), 0 ≤ x → x ≤ b → 0 ≤ t → t + m ≤ 100000 → l[i].f1 ≤ x + r * m → (m = 0 ∨ x + r * ((m : Int) - 1) < l[i].f1) →
    spec_ShapePulses.l2 (k + m + 1) r b l out x (i : Int) t = spec_ShapePulses.l1 k r b l (out ++ [t + m]) (wrap64 (mn b (x + r * m) - l[i].f1)) (t + m) ((i + 1 : Nat) : Int):=by
  induction m with
  | zero =>
    intro x t h0 h1 h2 h3 h4 h5
    rw [show k + 0 + 1 = k + 1 by omega]
    simp only [spec_ShapePulses.l2]
    have h6 : r * ((0 : Nat) : Int) = 0:=by simp
    rw [h6] at h4 ⊢
    have e : mn b (x + 0) = x:=by rw [mn_eq];split <;> omega
    rw [if_pos (by omega),if_pos (by omega),rdP_get l i hi,if_neg (by omega),if_pos (by omega),wrap_succ hi (by omega),e,show t + ((0 : Nat) : Int) = t by omega]
  | succ m ih =>
    intro x t h0 h1 h2 h3 h4 h5
    obtain ⟨q,hq⟩ : ∃ q,q = k + m + 1:=⟨_,rfl⟩
    rw [← hq] at ih
    rw [show k + (m + 1) + 1 = q + 1 by omega]
    simp only [spec_ShapePulses.l2]
    have hm : 0 ≤ r * (m : Int):=Int.mul_nonneg (by omega) (by omega)
    have e : r * ((m + 1 : Nat) : Int) = r + r * (m : Int):=by rw [Int.natCast_add,Int.mul_add];simp;omega
    have e2 : r * (((m + 1 : Nat) : Int) - 1) = r * (m : Int):=by congr 1;omega
    have e3 : r * ((m : Int) - 1) = r * (m : Int) - r:=by rw [Int.mul_sub];simp
    rw [e] at h4 ⊢
    rw [e2] at h5
    rw [e3] at ih
    have h5' : x + r * (m : Int) < l[i].f1 := by rcases h5 with h | h; · omega
                                                 · exact h
    generalize r * (m : Int) = z at *
    rw [if_pos (by omega),if_pos (by omega),rdP_get l i hi,if_pos (by omega),wrap_eq (x:=x + r) (by omega) (by omega),wrap_eq (x:=t + 1) (by omega) (by omega)]
    have hx : mn b (x + r) = if x + r < b then x + r else b:=mn_eq b (x + r)
    rw [ih _ (t + 1) (by rw [hx];split <;> omega) (by rw [hx];split <;> omega) (by omega) (by omega) (by rw [hx];split <;> omega) (by
      by_cases hz : m = 0
      · exact Or.inl hz
      · right;rw [hx];split <;> omega)]
    have e5 : mn b (mn b (x + r) + z) = mn b (x + (r + z)):=by rw [mn_eq,mn_eq,mn_eq];split <;> split <;> split <;> omega
    rw [e5,show t + 1 + (m : Int) = t + ((m + 1 : Nat) : Int) by omega]
/-- A frame of a size that comes at a time, and when it goes on: at the first time at which there are as many tokens. -/
theorem cdiv {n r : Int} (hr : 1 ≤ r) (hr2 : r ≤ 20) (hn : 0 ≤ n) (hn2 : n ≤ 1000) : n ≤ r * Int.tdiv (n + r - 1) r ∧ r * (Int.tdiv (n + r - 1) r - 1) < n ∧ 0 ≤ Int.tdiv (n + r - 1) r ∧ Int.tdiv (n + r - 1) r ≤ 1000:=by
  rw [Int.tdiv_eq_ediv_of_nonneg (by omega)]
  have h1:=Int.mul_ediv_add_emod (n + r - 1) r
  have h2:=Int.emod_nonneg (n + r - 1) (show r ≠ 0 by omega)
  have h3:=Int.emod_lt_of_pos (n + r - 1) (show 0 < r by omega)
  have h0 : 0 ≤ (n + r - 1) / r:=Int.ediv_nonneg (by omega) (by omega)
  have h5 : (n + r - 1) / r ≤ n:=by
    apply Int.le_of_lt_add_one
    apply Int.ediv_lt_of_lt_mul (by omega)
    have : n + 1 ≤ (n + 1) * r:=by
      have:=Int.mul_le_mul_of_nonneg_left hr (show 0 ≤ n + 1 by omega)
      omega
    have : (n + 1) * r = n * r + r:=by rw [Int.add_mul];omega
    have : n ≤ n * r:=by
      have:=Int.mul_le_mul_of_nonneg_left hr hn
      omega
    omega
  have h6 : r * ((n + r - 1) / r - 1) = r * ((n + r - 1) / r) - r:=by rw [Int.mul_sub];omega
  rw [h6]
  generalize r * ((n + r - 1) / r) = z at *
  omega
theorem mx_eq (a b : Int) : mx a b = if a < b then b else a:=rfl
theorem mul_mono {r : Int} (hr : 1 ≤ r) {x y : Int} (h : x ≤ y) : r * x ≤ r * y:=Int.mul_le_mul_of_nonneg_left h (by omega)
/-- What a step of the shaper is: the time, and what is left. -/
structure ShOk (r b T a pa ps T' t : Int) : Prop where
  pa_le : pa ≤ t
  a_le : a ≤ t
  lim : t ≤ mx pa a + 100
  left : T' = mn b (T + r * (t - a)) - ps
  pos : 0 ≤ T'
  most : T' ≤ b
  first : t = mx pa a ∨ pa < t ∧ a < t ∧ mn b (T + r * (t - 1 - a)) < ps
theorem shAt_ok {r b T a pa ps : Int} (hr : 1 ≤ r ∧ r ≤ 20) (hb : 1 ≤ b ∧ b ≤ 100) (hT : 0 ≤ T ∧ T ≤ b) (ha : 0 ≤ a ∧ a ≤ 10000) (hp : 0 ≤ pa ∧ pa ≤ 2000) (hs : 1 ≤ ps ∧ ps ≤ b) : ShOk r b T a pa ps (shAt r b T a pa ps).1 (shAt r b T a pa ps).2:=by
  have hm:=mx_eq pa a
  have h1 : pa ≤ mx pa a ∧ a ≤ mx pa a ∧ mx pa a ≤ 10000:=by rw [hm];split <;> omega
  unfold shAt
  generalize hM : mx pa a = t1 at *
  obtain ⟨u1,u2,u3⟩:=untilT_fit (r:=r) (b:=b) (T:=T) (a:=a) (t:=t1) hr hb (by omega) ha.1 h1.2.1 (by omega)
  have hT1 : 0 ≤ untilT r b T a t1 ∧ untilT r b T a t1 ≤ b:=by rw [u1,mn_eq];split <;> omega
  simp only []
  by_cases c : untilT r b T a t1 < ps
  · rw [if_pos (by rw [wrap_eq (by omega) (by omega)];omega)]
    obtain ⟨q1,q2,q3,q4⟩:=cdiv (n:=ps - untilT r b T a t1) (r:=r) hr.1 hr.2 (by omega) (by omega)
    rw [wrap_eq (x:=ps - untilT r b T a t1) (by omega) (by omega),wrap_eq (x:=ps - untilT r b T a t1 + r) (by omega) (by omega),wrap_eq (x:=ps - untilT r b T a t1 + r - 1) (by omega) (by omega)]
    generalize Int.tdiv (ps - untilT r b T a t1 + r - 1) r = m at *
    have hm1 : 1 ≤ m:=by
      by_cases h : m = 0
      · subst h;simp at q1;omega
      · omega
    have hm2 : m ≤ 100:=by
      by_cases h : m ≤ 100
      · exact h
      · have:=mul_mono hr.1 (show (100 : Int) ≤ m - 1 by omega)
        have : 100 ≤ r * 100:=by omega
        omega
    rw [wrap_eq (x:=m) (by omega) (by omega),wrap_eq (x:=t1 + m) (by omega) (by omega)]
    obtain ⟨v1,v2,v3⟩:=untilT_fit (r:=r) (b:=b) (T:=untilT r b T a t1) (a:=t1) (t:=t1 + m) hr hb (by omega) (by omega) (by omega) (by omega)
    have e1 : t1 + m - t1 = m:=by omega
    rw [e1] at v1 v2 v3
    have e2 : r * (t1 + m - a) = r * (t1 - a) + r * m:=by rw [← Int.mul_add];congr 1;omega
    have e3 : r * (t1 + m - 1 - a) = r * (t1 - a) + r * (m - 1):=by rw [← Int.mul_add];congr 1;omega
    have e4 : untilT r b (untilT r b T a t1) t1 (t1 + m) = mn b (T + r * (t1 + m - a)):=by
      rw [v1,u1,e2]
      rw [mn_eq,mn_eq,mn_eq]
      generalize r * m = z at *
      generalize r * (t1 - a) = y at *
      split <;> split <;> split <;> omega
    have e5 : ps ≤ mn b (T + r * (t1 + m - a)) ∧ mn b (T + r * (t1 + m - a)) ≤ b:=by
      rw [← e4,v1,mn_eq]
      generalize r * m = z at *
      split <;> omega
    rw [e4,wrap_eq (by omega) (by omega)]
    refine ⟨by omega,by omega,by omega,rfl,by omega,by omega,Or.inr ⟨by omega,by omega,?_⟩⟩
    show mn b (T + r * (t1 + m - 1 - a)) < ps
    rw [e3]
    rw [u1,mn_eq] at q2 c
    rw [mn_eq]
    generalize r * (m - 1) = z at *
    generalize r * (t1 - a) = y at *
    split at c <;> split <;> omega
  · rw [if_neg (by rw [wrap_eq (by omega) (by omega)];omega),wrap_eq (by omega) (by omega)]
    refine ⟨by omega,by omega,by omega,?_,by omega,by omega,Or.inl hM.symm⟩
    rw [u1]
/-- A run of the shaper over frames. -/
inductive ShP (r b : Int) : Int → Int → List S35 → List Int → Prop where
  | nil (T a : Int) : ShP r b T a [] []
  | cons (T a T' t : Int) (p : S35) (l : List S35) (o : List Int) (hT : 0 ≤ T ∧ T ≤ b) (ha : 0 ≤ a ∧ a ≤ 10000) (hp : 0 ≤ p.f0 ∧ p.f0 ≤ 2000) (hs : 1 ≤ p.f1 ∧ p.f1 ≤ b) (ht : t ≤ 10000) (h : ShOk r b T a p.f0 p.f1 T' t) (e : shAt r b T a p.f0 p.f1 = (T',t)) (h2 : ShP r b T' t l o) : ShP r b T a (p :: l) (t :: o)
theorem shL_P {r b : Int} (hr : 1 ≤ r ∧ r ≤ 20) (hb : 1 ≤ b ∧ b ≤ 100) (l : List S35) : ∀ (T a : Int) (c : Nat) (o : List Int),0 ≤ T → T ≤ b → 0 ≤ a → a ≤ 2000 + 100 * c → c + l.length ≤ 60 → l.all pulseB = true → shL r b T a l = some o → ShP r b T a l o:=by
  induction l with
  | nil =>
    intro T a c o _ _ _ _ _ _ h
    rw [shL] at h
    cases h
    exact .nil _ _
  | cons p l ih =>
    intro T a c o h0 h1 h2 h3 h4 h5 h
    rw [List.all_cons,Bool.and_eq_true] at h5
    have hp:=h5.1
    unfold pulseB at hp
    simp at hp
    rw [shL] at h
    by_cases cb : b < p.f1
    · rw [if_pos cb] at h;cases h
    rw [if_neg cb] at h
    simp only [List.length_cons] at h4
    have hok:=shAt_ok (pa:=p.f0) (ps:=p.f1) hr hb ⟨h0,h1⟩ ⟨h2,by omega⟩ (by omega) (by omega)
    have hm:=mx_eq p.f0 a
    have hlim:=hok.lim
    have hle:=hok.a_le
    have ht : (shAt r b T a p.f0 p.f1).2 ≤ 2000 + 100 * ((c + 1 : Nat) : Int):=by rw [hm] at hlim;split at hlim <;> omega
    obtain ⟨o2,ho2,rfl⟩:=Option.map_eq_some_iff.1 h
    exact .cons T a _ _ p l o2 ⟨h0,h1⟩ ⟨h2,by omega⟩ (by omega) (by omega) (by omega) hok rfl (ih _ _ (c + 1) o2 hok.pos hok.most (by omega) ht (by omega) h5.2 ho2)
/-- Frames at other times. -/
def atT : List S35 → List Int → List S35
  | p :: l,t :: ts => ⟨t,p.f1⟩ :: atT l ts
  | _,_ => []
theorem ShP.len {r b T a : Int} {l : List S35} {o : List Int} (h : ShP r b T a l o) : o.length = l.length:=by
  induction h with
  | nil => rfl
  | cons => simp_all
theorem ShP.at {r b T a : Int} {l : List S35} {o : List Int} (h : ShP r b T a l o) : ∀ i (h1 : i < l.length) (h2 : i < o.length),l[i].f0 ≤ o[i]:=by
  induction h with
  | nil => intro i h1;simp at h1
  | cons T a T' t p l o _ _ _ _ _ hok _ _ ih =>
    intro i h1 h2
    cases i with
    | zero => exact hok.pa_le
    | succ i => simpa using ih i (by simpa using h1) (by simpa using h2)
theorem fit_of (r b T a t : Int) (hr : 1 ≤ r ∧ r ≤ 20) (hb : 1 ≤ b ∧ b ≤ 100) (hT : 0 ≤ T ∧ T ≤ b) (ha : 0 ≤ a) (h : a ≤ t) (ht : t ≤ 10000) : untilT r b T a t = mn b (T + r * (t - a)) ∧ mn b (T + r * (t - a)) ≤ b:=by
  obtain ⟨u,_,_⟩:=untilT_fit (r:=r) (b:=b) (T:=T) (a:=a) (t:=t) hr hb (by omega) ha h (by omega)
  refine ⟨u,?_⟩
  rw [mn_eq];split <;> omega
/-- Frames conform just if all go on as they come. -/
theorem ShP.own {r b : Int} (hr : 1 ≤ r ∧ r ≤ 20) (hb : 1 ≤ b ∧ b ≤ 100) {T a : Int} {l : List S35} {o : List Int} (h : ShP r b T a l o) : fromB a l = true → (polL r b T a l).all id = decide (o = l.map (·.f0)):=by
  induction h with
  | nil => intro _;rfl
  | cons T a T' t p l o hT ha hp hs ht hok _ h2 ih =>
    intro hf
    obtain ⟨f1,f2,f3,f4,f5,f6⟩:=fromB_cons hf
    obtain ⟨u,u2⟩:=fit_of r b T a p.f0 hr hb hT ha.1 f1 (by omega)
    have e1:=hok.left
    have e3:=hok.pos
    have e4:=hok.pa_le
    have hm:=mx_eq p.f0 a
    rw [polL,List.all_cons]
    unfold takeOk takeT
    rw [u,List.map_cons]
    by_cases c : t = p.f0
    · subst c
      have hi:=ih f6
      rw [if_pos (by omega),wrap_eq (by omega) (by omega),← e1,hi,decide_eq_true (by omega)]
      simp
    · have hc : mn b (T + r * (p.f0 - a)) < p.f1 := by
        rcases hok.first with e | ⟨g1,g2,g3⟩
        · rw [hm] at e;split at e <;> omega
        · have:=mul_mono hr.1 (show p.f0 - a ≤ t - 1 - a by omega)
          rw [mn_eq] at g3 ⊢
          split at g3 <;> split <;> omega
      rw [decide_eq_false (by omega),decide_eq_false (fun e => c (List.cons.inj e).1)]
      rfl
theorem ShP.from {r b : Int} {T a : Int} {l : List S35} {o : List Int} (h : ShP r b T a l o) (hb : b ≤ 50 ∨ ∀ p ∈ l,p.f1 ≤ 50) : (∀ t ∈ o,t ≤ 2000) → (atT l o).all pulseB = true ∧ nondec (atT l o) = true:=by
  induction h with
  | nil => intro _;exact ⟨rfl,rfl⟩
  | cons T a T' t p l o hT ha hp hs ht hok _ h2 ih =>
    intro hl
    obtain ⟨i1, i2⟩ := ih (by rcases hb with h | h; · exact Or.inl h
                              · exact Or.inr fun q hq => h q (List.mem_cons_of_mem _ hq)) (fun x hx => hl x (List.mem_cons_of_mem _ hx))
    have h5 : p.f1 ≤ 50:=by
      rcases hb with h | h
      · omega
      · exact h p List.mem_cons_self
    have h6:=hl t List.mem_cons_self
    have h7:=hok.a_le
    rw [atT]
    refine ⟨?_,?_⟩
    · rw [List.all_cons,i1]
      unfold pulseB
      simp
      omega
    · cases h2 with
      | nil => rfl
      | cons _ _ _ t2 p2 l2 o2 _ _ _ _ _ hok2 =>
        rw [atT] at i2 ⊢
        rw [nondec,i2,Bool.and_true]
        exact decide_eq_true hok2.a_le

-- LIB pdraw
/-- What a draw reads: at most 2000 bytes. -/
def Bytes (b : List Int) : Prop:=b.length ≤ 2000 ∧ ∀ x ∈ b,0 ≤ x ∧ x ≤ 255
theorem bits_xor_nonneg (a b : Int) (h1 : 0 ≤ a) (h2 : a < 4611686018427387904) (h3 : 0 ≤ b) (h4 : b < 4611686018427387904) : 0 ≤ Go.bits .xor .i64 a b:=by
  obtain ⟨A,rfl⟩:=Int.eq_ofNat_of_zero_le h1
  obtain ⟨B,rfl⟩:=Int.eq_ofNat_of_zero_le h3
  have hx : A ^^^ B < 2 ^ 62:=Nat.xor_lt_two_pow (by omega) (by omega)
  have eA : (BitVec.ofInt 64 (A : Int)).toNat = A:=by rw [BitVec.ofInt_natCast,BitVec.toNat_ofNat];exact Nat.mod_eq_of_lt (by omega)
  have eB : (BitVec.ofInt 64 (B : Int)).toNat = B:=by rw [BitVec.ofInt_natCast,BitVec.toNat_ofNat];exact Nat.mod_eq_of_lt (by omega)
  show 0 ≤ IntKind.i64.wrap ((BitVec.ofInt 64 (A : Int) ^^^ BitVec.ofInt 64 (B : Int)).toNat : Int)
  rw [BitVec.toNat_xor,eA,eB,IntKind.wrap_i64]
  omega
theorem open_ok (l : List Int) (h : ∀ x ∈ l,(Lit.int .u8 x).wf = true) : ∃ b,spec_l21Open.f l = some (b,0) ∧ Bytes b:=by
  have hb : ∀ x ∈ l,0 ≤ x ∧ x ≤ 255:=by
    intro x hx
    have h':=h x hx
    simp [Lit.wf,IntKind.min,IntKind.max,IntKind.signed,IntKind.bits] at h'
    omega
  unfold spec_l21Open.f
  by_cases hl : (l.length : Int) > 2000
  · rw [if_pos hl,if_pos (by omega)]
    exact ⟨_,rfl,by rw [List.length_take];omega,fun x hx => hb x (List.mem_of_mem_take hx)⟩
  · rw [if_neg hl]
    exact ⟨_,rfl,by omega,hb⟩
theorem rd_mem {b : List Int} {i : Int} (h0 : 0 ≤ i) (h1 : i < b.length) : rd b i ∈ b:=by
  obtain ⟨j,rfl⟩:=Int.eq_ofNat_of_zero_le h0
  rw [rd_get b j (by omega)]
  exact List.getElem_mem _
theorem tmod_range {a n : Int} (h0 : 0 ≤ a) (h1 : 1 ≤ n) : 0 ≤ Int.tmod a n ∧ Int.tmod a n < n:=by
  rw [Int.tmod_eq_emod_of_nonneg h0]
  exact ⟨Int.emod_nonneg _ (by omega),Int.emod_lt_of_pos _ (by omega)⟩
/-- A draw of a number below n. -/
theorem pick_ok {b : List Int} (hb : Bytes b) {p : Int} (n : Int) (h0 : 0 ≤ p) (h1 : p ≤ 1099511627776) :
    ∃ r,0 ≤ r ∧ (1 ≤ n → r < n) ∧ (n < 1 → r = 0) ∧ ∀ k,1 ≤ k → spec_l21Rd_pick.f k b p n = some (r,p + 1):=by
  have e1 : wrap64 (p + 1) = p + 1:=wrap_eq (by omega) (by omega)
  have e2 : wrap64 (p + 1 - 1) = p:=by rw [wrap_eq (by omega) (by omega)];omega
  by_cases hn : n < 1
  · refine ⟨0,by omega,fun h => by omega,fun _ => rfl,fun k hk => ?_⟩
    obtain ⟨k,rfl⟩ : ∃ m,k = m + 1:=⟨k - 1,by omega⟩
    unfold spec_l21Rd_pick.f
    simp only [spec_l21Rd_pick.j0]
    rw [if_pos hn,if_pos trivial,e1]
  by_cases hl : b.length = 0
  · refine ⟨0,by omega,fun h => by omega,fun _ => rfl,fun k hk => ?_⟩
    obtain ⟨k,rfl⟩ : ∃ m,k = m + 1:=⟨k - 1,by omega⟩
    unfold spec_l21Rd_pick.f
    simp only [spec_l21Rd_pick.j0]
    rw [if_neg hn,if_pos (by simp [hl]),e1]
  obtain ⟨hb1,hb2⟩:=hb
  have hl0 : ((b.length : Int) == 0) = false:=beq_eq_false_iff_ne.2 (by omega)
  by_cases hp : p < b.length
  · have hv:=hb2 _ (rd_mem h0 hp)
    have ht:=tmod_range hv.1 (show 1 ≤ n by omega)
    refine ⟨Int.tmod (rd b p) n,ht.1,fun _ => ht.2,fun h => by omega,fun k hk => ?_⟩
    obtain ⟨k,rfl⟩ : ∃ m,k = m + 1:=⟨k - 1,by omega⟩
    unfold spec_l21Rd_pick.f
    simp only [spec_l21Rd_pick.j0]
    rw [if_neg hn,hl0,if_neg (by decide),e1,e2,if_pos hp,if_pos h0,if_neg (by omega),wrap_eq (by omega) (by omega)]
  · have hi1:=tmod_range h0 (show (1 : Int) ≤ b.length by omega)
    have hi2:=tmod_range (show 0 ≤ p * 7 + 3 by omega) (show (1 : Int) ≤ b.length by omega)
    have e3 : wrap64 (wrap64 (p * 7) + 3) = p * 7 + 3:=by rw [wrap_eq (x:=p * 7) (by omega) (by omega),wrap_eq (by omega) (by omega)]
    have hv1:=hb2 _ (rd_mem hi1.1 hi1.2)
    have hv2:=hb2 _ (rd_mem hi2.1 hi2.2)
    have hd : Int.tdiv p b.length = p / b.length:=Int.tdiv_eq_ediv_of_nonneg h0
    have hd0 : 0 ≤ p / (b.length : Int):=Int.ediv_nonneg h0 (by omega)
    have hd1 : p / (b.length : Int) ≤ p:=Int.ediv_le_self _ h0
    generalize hx1 : rd b (Int.tmod p b.length) = v1 at hv1
    generalize hx2 : rd b (Int.tmod (p * 7 + 3) b.length) = v2 at hv2
    generalize hx3 : p / (b.length : Int) = q at hd hd0 hd1
    have e4 : wrap64 (wrap64 (wrap64 (wrap64 (wrap64 v1 * 131) + wrap64 (wrap64 v2 * 1117)) + wrap64 (p * 29)) + wrap64 (wrap64 q * 53)) = v1 * 131 + v2 * 1117 + p * 29 + q * 53:=by
      rw [wrap_eq (x:=v1) (by omega) (by omega),wrap_eq (x:=v2) (by omega) (by omega),wrap_eq (x:=q) (by omega) (by omega),wrap_eq (x:=v1 * 131) (by omega) (by omega),wrap_eq (x:=v2 * 1117) (by omega) (by omega),wrap_eq (x:=p * 29) (by omega) (by omega),wrap_eq (x:=q * 53) (by omega) (by omega),wrap_eq (x:=v1 * 131 + v2 * 1117) (by omega) (by omega),wrap_eq (x:=v1 * 131 + v2 * 1117 + p * 29) (by omega) (by omega),wrap_eq (by omega) (by omega)]
    have hX : 0 ≤ v1 * 131 + v2 * 1117 + p * 29 + q * 53 ∧ v1 * 131 + v2 * 1117 + p * 29 + q * 53 ≤ 4000000000000000:=by omega
    generalize v1 * 131 + v2 * 1117 + p * 29 + q * 53 = X at e4 hX
    have hY : Int.tdiv X 64 = X / 64:=Int.tdiv_eq_ediv_of_nonneg hX.1
    have e5 : wrap64 (X / 64) = X / 64:=wrap_eq (by omega) (by omega)
    have hZ:=bits_xor_nonneg X (X / 64) hX.1 (by omega) (by omega) (by omega)
    have ht:=tmod_range hZ (show 1 ≤ n by omega)
    refine ⟨Int.tmod (Go.bits .xor .i64 X (X / 64)) n,ht.1,fun _ => ht.2,fun h => by omega,fun k hk => ?_⟩
    obtain ⟨k,rfl⟩ : ∃ m,k = m + 1:=⟨k - 1,by omega⟩
    unfold spec_l21Rd_pick.f
    simp only [spec_l21Rd_pick.j0]
    rw [if_neg hn,hl0,if_neg (by decide),e1,e2,e3,if_neg hp,if_neg (by omega),if_pos hi1.1,if_pos hi1.2,if_pos hi2.1,if_pos hi2.2,if_neg (by omega),hx1,hx2,hd,e4,hY,e5]
/-- A draw of one of a list's numbers. -/
theorem num_ok {b : List Int} (hb : Bytes b) {p : Int} (l : List Int) (h0 : 0 ≤ p) (h1 : p ≤ 1099511627776) (hl : 0 < l.length) :
    ∃ x,x ∈ l ∧ ∀ k,1 ≤ k → spec_l21Rd_num.f k b p l = some (x,p + 1):=by
  obtain ⟨r,hr0,hr1,_,hr⟩:=pick_ok hb (l.length : Int) h0 h1
  have hr2:=hr1 (by omega)
  refine ⟨rd l r,rd_mem hr0 hr2,fun k hk => ?_⟩
  unfold spec_l21Rd_num.f
  rw [hr k hk,Option.bind_some]
  simp only []
  rw [if_pos hr0,if_pos hr2]

-- LIB pdraw14
theorem l14_at {b : List Int} (hb : Bytes b) (rate burst : Int) (d : Nat) : ∀ (i : Int) (p at_ : Int) (x : List S35), i = d → d ≤ 30 → 0 ≤ p → p + 3 * (d : Int) ≤ 1000000000 → x.length + d ≤ 60 →
    ∃ r1 r2 l p',l.length ≤ 61 ∧ p ≤ p' ∧ p' ≤ p + 3 * d + 2 ∧ ∀ k,d + 1 < k → spec_l14Draw.l0 k rate burst x at_ i b p = some (r1,r2,l,p'):=by
  induction d with
  | zero =>
    intro i p at_ x hi _ h0 h1 hx
    obtain ⟨r,hr0,_,_,hr⟩:=pick_ok hb 75 h0 (by omega)
    obtain ⟨n1,_,hn1⟩:=num_ok hb [0,21] (show 0 ≤ p + 1 by omega) (by omega) (by simp)
    obtain ⟨n2,_,hn2⟩:=num_ok hb [0,101] (show 0 ≤ p + 1 by omega) (by omega) (by simp)
    obtain ⟨n3,_,hn3⟩:=num_ok hb [0,51] (show 0 ≤ p + 1 by omega) (by omega) (by simp)
    have go : ∀ {r1 r2 : Int} {l : List S35} {p' : Int}, l.length ≤ 61 → p ≤ p' → p' ≤ p + 2 → (∀ k, 1 ≤ k → (if r = 0 then ((spec_l21Rd_num.f k b (p + 1) (([0, 21] : List Int))).bind fun bt211 => (some (bt211.1, burst, x, bt211.2))) else (if r = 1 then ((spec_l21Rd_num.f k b (p + 1) (([0, 101] : List Int))).bind fun bt216 => (some (rate, bt216.1, x, bt216.2))) else (if r = 2 then (if x.length < 8796093022208 then (some (rate, burst, (x ++ [(⟨0, 1⟩ : S35)]), p + 1)) else (none)) else (if r = 3 then ((spec_l21Rd_num.f k b (p + 1) (([0, 51] : List Int))).bind fun bt224 => (if x.length < 8796093022208 then (some (rate, burst, (x ++ [(⟨at_, bt224.1⟩ : S35)]), bt224.2)) else (none))) else (if r = 4 then (if x.length < 8796093022208 then (some (rate, burst, (x ++ [(⟨2001, 1⟩ : S35)]), p + 1)) else (none)) else (some (rate, burst, x, p + 1))))))) = some (r1, r2, l, p')) →
        ∃ r1 r2 l p',l.length ≤ 61 ∧ p ≤ p' ∧ p' ≤ p + 3 * ((0 : Nat) : Int) + 2 ∧ ∀ k,0 + 1 < k → spec_l14Draw.l0 k rate burst x at_ i b p = some (r1,r2,l,p'):=by
      intro r1 r2 l p' a1 a2 a3 a4
      refine ⟨r1,r2,l,p',a1,a2,by omega,fun k hk => ?_⟩
      obtain ⟨k,rfl⟩ : ∃ m,k = m + 1:=⟨k - 1,by omega⟩
      simp only [spec_l14Draw.l0]
      rw [if_neg (by omega),hr k (by omega),Option.bind_some]
      exact a4 k (by omega)
    have hx1 : x.length < 8796093022208:=by omega
    by_cases c0 : r = 0
    · exact go (l:=x) (by omega) (show p ≤ p + 1 + 1 by omega) (by omega) (fun k hk => by rw [if_pos c0,hn1 k hk,Option.bind_some])
    by_cases c1 : r = 1
    · exact go (l:=x) (by omega) (show p ≤ p + 1 + 1 by omega) (by omega) (fun k hk => by rw [if_neg c0,if_pos c1,hn2 k hk,Option.bind_some])
    by_cases c2 : r = 2
    · exact go (l:=x ++ [⟨0,1⟩]) (by simp;omega) (show p ≤ p + 1 by omega) (by omega) (fun k hk => by rw [if_neg c0,if_neg c1,if_pos c2,if_pos hx1])
    by_cases c3 : r = 3
    · exact go (l:=x ++ [⟨at_,n3⟩]) (by simp;omega) (show p ≤ p + 1 + 1 by omega) (by omega) (fun k hk => by rw [if_neg c0,if_neg c1,if_neg c2,if_pos c3,hn3 k hk,Option.bind_some,if_pos hx1])
    by_cases c4 : r = 4
    · exact go (l:=x ++ [⟨2001,1⟩]) (by simp;omega) (show p ≤ p + 1 by omega) (by omega) (fun k hk => by rw [if_neg c0,if_neg c1,if_neg c2,if_neg c3,if_pos c4,if_pos hx1])
    · exact go (l:=x) (by omega) (show p ≤ p + 1 by omega) (by omega) (fun k hk => by rw [if_neg c0,if_neg c1,if_neg c2,if_neg c3,if_neg c4])
  | succ d ih =>
    intro i p at_ x hi hd h0 h1 hx
    obtain ⟨n,hn,hnum⟩:=num_ok hb [5,10,50] h0 (by omega) (by simp)
    obtain ⟨r,hr0,_,_,hr⟩:=pick_ok hb n (show 0 ≤ p + 1 by omega) (by omega)
    obtain ⟨m,hm,hmum⟩:=num_ok hb [0,1,2,0,7,30] (show 0 ≤ p + 1 + 1 by omega) (by omega) (by simp)
    obtain ⟨r1,r2,l,p',h2,h3,h4,h5⟩:=ih (wrap64 (i - 1)) (p + 1 + 1 + 1) (wrap64 (at_ + m)) (x ++ [⟨at_,wrap64 (1 + r)⟩]) (by rw [wrap_eq (by omega) (by omega)];omega) (by omega) (by omega) (by omega) (by simp;omega)
    refine ⟨r1,r2,l,p',h2,by omega,by omega,fun k hk => ?_⟩
    obtain ⟨k,rfl⟩ : ∃ m,k = m + 1:=⟨k - 1,by omega⟩
    simp only [spec_l14Draw.l0]
    rw [if_pos (by omega),hnum k (by omega),Option.bind_some]
    simp only []
    rw [hr k (by omega),Option.bind_some]
    simp only []
    rw [if_pos (by omega),hmum k (by omega),Option.bind_some]
    simp only []
    rw [h5 k (by omega)]
theorem l14_ok {b : List Int} (hb : Bytes b) : ∃ r1 r2 l p',l.length ≤ 61 ∧ 0 ≤ p' ∧ p' ≤ 1000 ∧ ∀ k,40 < k → spec_l14Draw.f k b 0 = some (r1,r2,l,p'):=by
  obtain ⟨a,_,ha⟩:=num_ok hb [1,2,5,20,3] (show (0 : Int) ≤ 0 by omega) (by omega) (by simp)
  obtain ⟨c,_,hc⟩:=num_ok hb [10,5,50,100,1,20] (show (0 : Int) ≤ 0 + 1 by omega) (by omega) (by simp)
  obtain ⟨r,hr0,_,_,hr⟩:=pick_ok hb 5 (show (0 : Int) ≤ 0 + 1 + 1 by omega) (by omega)
  obtain ⟨n,hn,hnum⟩:=num_ok hb [5,9,2,0,20] (show (0 : Int) ≤ 0 + 1 + 1 + 1 by omega) (by omega) (by simp)
  have hn2 : 0 ≤ n ∧ n ≤ 20:=by simp at hn;omega
  obtain ⟨r1,r2,l,p',h2,h3,h4,h5⟩:=l14_at hb a c n.toNat n (0 + 1 + 1 + 1 + 1) r [] (by omega) (by omega) (by omega) (by omega) (by simp;omega)
  refine ⟨r1,r2,l,p',h2,by omega,by omega,fun k hk => ?_⟩
  unfold spec_l14Draw.f
  rw [ha k (by omega),Option.bind_some]
  simp only []
  rw [hc k (by omega),Option.bind_some]
  simp only []
  rw [hr k (by omega),Option.bind_some]
  simp only []
  rw [hnum k (by omega),Option.bind_some]
  simp only []
  exact h5 k (by omega)

-- LIB p14ssh
theorem ssh_l1 {r b : Int} (hr : 1 ≤ r ∧ r ≤ 20) (hb : 1 ≤ b ∧ b ≤ 100) (l : List S35) (hl : l.length ≤ 1000) {T a : Int} {l' : List S35} {o : List Int} (h : ShP r b T a l' o) : ∀ (i : Nat) (out : List Int) (k : Nat),l.drop i = l' → out.length + l'.length ≤ 1000 → 110 * l'.length < k → spec_ShapePulses.l1 k r b l out T a (i : Int) = some (out ++ o):=by
  induction h with
  | nil T a =>
    intro i out k h1 h2 h3
    obtain ⟨k,rfl⟩ : ∃ m,k = m + 1:=⟨k - 1,by omega⟩
    simp only [spec_ShapePulses.l1]
    have h4 : l.length ≤ i:=by simpa using h1
    rw [if_neg (by omega),List.append_nil]
  | cons T a T' t p l' o hT ha hp hs ht hok _ h2 ih =>
    intro i out k h1 h3 h4
    have hi : i < l.length:=by
      rcases Nat.lt_or_ge i l.length with h | h
      · exact h
      · rw [List.drop_of_length_le h] at h1;cases h1
    have h5:=List.drop_eq_getElem_cons hi
    rw [h1] at h5
    obtain ⟨e1,e2⟩:=List.cons.inj h5
    obtain ⟨q,rfl⟩ : ∃ q,k = q + 1:=⟨k - 1,by omega⟩
    simp only [spec_ShapePulses.l1]
    simp only [List.length_cons] at h3 h4
    rw [if_pos (by omega),if_pos (by omega),rdP_get l i hi,← e1]
    have hm : mx a p.f0 = mx p.f0 a:=by rw [mx_eq,mx_eq];split <;> split <;> omega
    rw [hm]
    have hM:=mx_eq p.f0 a
    have h6 : p.f0 ≤ mx p.f0 a ∧ a ≤ mx p.f0 a ∧ mx p.f0 a ≤ 10000:=by rw [hM];split <;> omega
    have hlim:=hok.lim
    have hfirst:=hok.first
    have hle : mx p.f0 a ≤ t:=by have:=hok.pa_le;have:=hok.a_le;rw [hM];split <;> omega
    generalize mx p.f0 a = t1 at *
    obtain ⟨u,u2⟩:=fit_of r b T a t1 hr hb hT ha.1 h6.2.1 h6.2.2
    have u' : mn b (wrap64 (T + wrap64 (r * wrap64 (t1 - a)))) = mn b (T + r * (t1 - a)):=u
    have hz : 0 ≤ r * (t1 - a):=Int.mul_nonneg (by omega) (by omega)
    obtain ⟨m,hm2⟩:=Int.eq_ofNat_of_zero_le (show 0 ≤ t - t1 by omega)
    have et : t1 + (m : Int) = t:=by omega
    have a1:=hok.left
    have a2:=hok.pos
    have a3:=hok.most
    have e5 : r * (t - a) = r * (t1 - a) + r * (m : Int):=by rw [← Int.mul_add];congr 1;omega
    have e6 : r * (t - 1 - a) = r * (t1 - a) + r * ((m : Int) - 1):=by rw [← Int.mul_add];congr 1;omega
    have hz2 : 0 ≤ r * (m : Int):=Int.mul_nonneg (by omega) (by omega)
    have e7 : mn b (mn b (T + r * (t1 - a)) + r * (m : Int)) = mn b (T + r * (t - a)):=by
      rw [e5,mn_eq,mn_eq,mn_eq]
      generalize r * (m : Int) = z at *
      generalize r * (t1 - a) = y at *
      split <;> split <;> split <;> omega
    have c1 : p.f1 ≤ mn b (T + r * (t1 - a)) + r * (m : Int):=by
      rw [mn_eq] at e7 a1
      rw [e5] at a1
      rw [mn_eq]
      generalize r * (m : Int) = z at *
      generalize r * (t1 - a) = y at *
      split at a1 <;> split <;> omega
    have c2 : m = 0 ∨ mn b (T + r * (t1 - a)) + r * ((m : Int) - 1) < p.f1:=by
      by_cases hm0 : m = 0
      · exact Or.inl hm0
      · right
        rcases hfirst with e | ⟨_,_,g3⟩
        · omega
        · rw [e6,mn_eq] at g3
          rw [mn_eq]
          generalize r * ((m : Int) - 1) = z at *
          generalize r * (t1 - a) = y at *
          split at g3 <;> split <;> omega
    rw [u']
    obtain ⟨k,rfl⟩ : ∃ k,q = k + m + 1:=⟨q - m - 1,by omega⟩
    have hx : 0 ≤ mn b (T + r * (t1 - a)):=by rw [mn_eq];split <;> omega
    have key:=ssh_l2 hr hb l hl i hi (by rw [← e1];exact hs) out (by omega) k m (mn b (T + r * (t1 - a))) t1 hx u2 (by omega) (by omega) (by rw [← e1];exact c1) (by rw [← e1];exact c2)
    rw [key,← e1,et,e7,wrap_eq (by omega) (by omega),← a1,ih (i + 1) (out ++ [t]) k e2.symm (by simp;omega) (by omega),List.append_assoc]
    rfl
theorem shL_big {r b : Int} (l : List S35) : ∀ (T a : Int),l.any (fun p => decide (b < p.f1)) = true → shL r b T a l = none:=by
  induction l with
  | nil => intro _ _ h;simp at h
  | cons p l ih =>
    intro T a h
    rw [shL]
    by_cases c : b < p.f1
    · rw [if_pos c]
    · rw [if_neg c]
      rw [List.any_cons,decide_eq_false c,Bool.false_or] at h
      rw [ih _ _ h];rfl
theorem shL_small {r b : Int} (l : List S35) : ∀ (T a : Int),l.any (fun p => decide (b < p.f1)) = false → ∃ o,shL r b T a l = some o:=by
  induction l with
  | nil => intro _ _ _;exact ⟨[],rfl⟩
  | cons p l ih =>
    intro T a h
    rw [List.any_cons,Bool.or_eq_false_iff] at h
    obtain ⟨o,ho⟩:=ih (shAt r b T a p.f0 p.f1).1 (shAt r b T a p.f0 p.f1).2 h.2
    rw [shL,if_neg (by simpa using h.1),ho]
    exact ⟨_,rfl⟩
theorem ssh_l0 (r b : Int) (l : List S35) (hl : l.length ≤ 9223372036854775807) (k : Nat) (d : Nat) : ∀ (i : Nat),i + d = l.length → spec_ShapePulses.l0 (k + d + 1) r b l [] (i : Int) = if (l.drop i).any (fun p => decide (b < p.f1)) = true then some [] else ((spec_l14Fits.f k r b l).bind fun t399 => (if t399 = true then (spec_ShapePulses.l1 k r b l [] b 0 0) else (some []))):=by
  induction d with
  | zero =>
    intro i h
    simp only [spec_ShapePulses.l0]
    rw [if_neg (by omega),List.drop_of_length_le (by omega),if_neg (by simp)]
  | succ d ih =>
    intro i h
    obtain ⟨q,hq⟩ : ∃ q,q = k + d + 1:=⟨_,rfl⟩
    rw [← hq] at ih
    rw [show k + (d + 1) + 1 = q + 1 by omega]
    simp only [spec_ShapePulses.l0]
    rw [if_pos (by omega),if_pos (by omega),rdP_get l i (by omega),List.drop_eq_getElem_cons (show i < l.length by omega),List.any_cons,wrap_succ (show i < l.length by omega) (by omega),ih (i + 1) (by omega)]
    by_cases c : l[i].f1 > b
    · rw [if_pos c,decide_eq_true (show b < l[i].f1 from c),Bool.true_or,if_pos rfl]
    · rw [if_neg c,decide_eq_false (show ¬ b < l[i].f1 from c),Bool.false_or]
/-- What shaping answers where it answers something. -/
theorem shF_P {r b : Int} {l : List S35} {o : List Int} (hf : fitsB r b l = true) (h : shL r b b 0 l = some o) : ShP r b b 0 l o:=by
  obtain ⟨f1,f2,f3,f4,f5,f6⟩:=fitsB_facts hf
  have hp : l.all pulseB = true:=by
    unfold pvB at f1
    simp only [Bool.and_eq_true] at f1
    exact f1.1.1
  exact shL_P ⟨f3,f4⟩ ⟨f5,f6⟩ l b 0 0 o (by omega) (by omega) (by omega) (by omega) (by omega) hp h
theorem ssh_eq (r b : Int) (l : List S35) (hl : l.length ≤ 9223372036854775807) (k : Nat) (hk : 2 * l.length + 10000 < k) : spec_ShapePulses.f k r b l = some (shF r b l):=by
  unfold spec_ShapePulses.f
  obtain ⟨q,rfl⟩ : ∃ q,k = q + l.length + 1:=⟨k - l.length - 1,by omega⟩
  have h0:=ssh_l0 r b l hl q l.length 0 (by omega)
  rw [List.drop_zero] at h0
  refine Eq.trans h0 ?_
  rw [sfits_eq r b l hl q (by omega),Option.bind_some]
  unfold shF
  cases hbig : l.any (fun p => decide (b < p.f1)) with
  | true => rw [if_pos rfl,shL_big l b 0 hbig];simp
  | false =>
    rw [if_neg (by decide)]
    cases hf : fitsB r b l with
    | false => rw [if_neg (by decide),if_neg (by decide)]
    | true =>
      obtain ⟨o,ho⟩:=shL_small (r:=r) l b 0 hbig
      obtain ⟨f1,f2,f3,f4,f5,f6⟩:=fitsB_facts hf
      rw [if_pos rfl,if_pos rfl,ho]
      exact (ssh_l1 ⟨f3,f4⟩ ⟨f5,f6⟩ l (by omega) (shF_P hf ho) 0 [] q (by rfl) (by simp;omega) (by omega))
/-- What shaping answers, in one of two ways. -/
theorem shF_cases (r b : Int) (l : List S35) : shF r b l = [] ∨ fitsB r b l = true ∧ ShP r b b 0 l (shF r b l):=by
  unfold shF
  cases hf : fitsB r b l with
  | false => exact Or.inl (if_neg (by decide))
  | true =>
    rw [if_pos rfl]
    cases h : shL r b b 0 l with
    | none => exact Or.inl rfl
    | some o => exact Or.inr ⟨rfl,shF_P hf h⟩

-- LIB pdraw14c
theorem drawConf_at (r b : Int) (o : List Int) (ho : o.length ≤ 1000) (d : Nat) : ∀ (i : Nat) (l : List S35),i + d = o.length → o.length ≤ l.length → ∃ l2,l2.length = l.length ∧ ∀ k,d < k → spec_DrawConforms.l0 k r b l o (i : Int) = some (r,b,l2):=by
  induction d with
  | zero =>
    intro i l h1 h2
    refine ⟨l,rfl,fun k hk => ?_⟩
    obtain ⟨k,rfl⟩ : ∃ m,k = m + 1:=⟨k - 1,by omega⟩
    simp only [spec_DrawConforms.l0]
    rw [if_neg (by omega)]
  | succ d ih =>
    intro i l h1 h2
    obtain ⟨l2,e1,e2⟩:=ih (i + 1) (l.set (i : Int).toNat ⟨mn (rd o (i : Int)) 2000,(rd_T35 l (i : Int)).f1⟩) (by omega) (by rw [List.length_set];exact h2)
    refine ⟨l2,by rw [e1,List.length_set],fun k hk => ?_⟩
    obtain ⟨k,rfl⟩ : ∃ m,k = m + 1:=⟨k - 1,by omega⟩
    simp only [spec_DrawConforms.l0]
    rw [if_pos (by omega),if_pos (by omega),if_pos (by omega),wrap_succ (show i < o.length by omega) (by omega)]
    exact e2 k (by omega)
theorem drawConf_one (r b : Int) (l : List S35) (hl : l.length ≤ 61) : ∃ l2,l2.length = l.length ∧ ∀ k,20000 < k → spec_DrawConforms.l0 k r b l (shF r b l) 0 = some (r,b,l2):=by
  have hlen : (shF r b l).length ≤ l.length:=by
    rcases shF_cases r b l with e | ⟨_,e⟩
    · rw [e];simp
    · rw [e.len];exact Nat.le_refl _
  obtain ⟨l2,e1,e2⟩:=drawConf_at r b (shF r b l) (by omega) (shF r b l).length 0 l (by omega) hlen
  exact ⟨l2,e1,fun k hk => e2 k (by omega)⟩
theorem drawConf_ok {l0 : List Int} (h : ∀ x ∈ l0,(Lit.int .u8 x).wf = true) : ∃ r b l,l.length ≤ 61 ∧ (∀ k,20000 < k → spec_DrawConforms.f k l0 = some (r,b,l)):=by
  obtain ⟨b,hb,hB⟩:=open_ok l0 h
  obtain ⟨r1,r2,l,p',h1,h2,h3,h4⟩:=l14_ok hB
  obtain ⟨r,hr0,_,_,hr⟩:=pick_ok hB 2 h2 (by omega)
  obtain ⟨l2,e1,e2⟩:=drawConf_one r1 r2 l h1
  by_cases c : r = 0
  · refine ⟨r1,r2,l2,by omega,fun k hk => ?_⟩
    unfold spec_DrawConforms.f
    rw [hb,Option.bind_some]
    simp only []
    rw [h4 k (by omega),Option.bind_some]
    simp only []
    rw [hr k (by omega),Option.bind_some]
    simp only []
    rw [if_pos c,ssh_eq r1 r2 l (by omega) k (by omega),Option.bind_some]
    exact e2 k hk
  · refine ⟨r1,r2,l,h1,fun k hk => ?_⟩
    unfold spec_DrawConforms.f
    rw [hb,Option.bind_some]
    simp only []
    rw [h4 k (by omega),Option.bind_some]
    simp only []
    rw [hr k (by omega),Option.bind_some]
    simp only []
    rw [if_neg c]

end Go.Proofs.Ytfbicfnokibobaa.PAll

/- FnExactNetText: for all arguments the program's NetText returns what the reference's returns, and leaves its argument as it was. No condition. -/
import Derived.Test.YtdamdcdjodmemaaDoorPAllx1
import Derived.Test.YtdamdcdjodmemaaDoorPAllx2
import Derived.Test.YtdamdcdjodmemaaDoorPAllx3
namespace Go.Proofs.YtdamdcdjodmemaaDoor.Pure
open Go.RowKit Go.Proofs.YtdamdcdjodmemaaDoor.PAll Go.Proofs.YtdamdcdjodmemaaDoorW.PrintWords Go.Proofs.YtdamdcdjodmemaaDoorW.PrintLast Go.Proofs.YtdamdcdjodmemaaDoorW.PrintMore

/-- A number below 100, in digits. -/
def dig2 (k : Nat) : ByteArray := ⟨(if k < 10 then [UInt8.ofNat (48 + k)] else [UInt8.ofNat (48 + k / 10), UInt8.ofNat (48 + k % 10)]).toArray⟩
theorem dig2_eq (k : Nat) (h : k < 100) : digB (k : Int) = dig2 k := by
  unfold digB dig2
  rw [Int.toNat_natCast]
  unfold Lib.decDigits
  by_cases c : k < 10
  · rw [dif_pos c, if_pos c]
  · rw [dif_neg c, if_neg c]
    unfold Lib.decDigits
    rw [dif_pos (by omega)]
    rfl
theorem sdec5 : ∀ i : Fin 100, spec_l21Dec.f 5 ((i.val : Nat) : Int) = some (dig2 i.val) := by decide +kernel
theorem sdec (n : Int) (h0 : 0 ≤ n) (h1 : n < 100) (k : Nat) (hk : 5 ≤ k) : spec_l21Dec.f k n = some (digB n) := by
  obtain ⟨m, hm⟩ : ∃ m : Nat, n = (m : Int) := ⟨n.toNat, by omega⟩
  subst hm
  rw [dig2_eq m (by omega)]
  obtain ⟨d, rfl⟩ : ∃ d, k = 5 + d := ⟨k - 5, by omega⟩
  clear hk
  induction d with
  | zero => exact sdec5 ⟨m, by omega⟩
  | succ d ih => exact spec_l21Dec.mono _ _ _ ih
theorem line_go (k : Nat) (x : ByteArray) (l : List Int) (i : Nat) (hi : i < l.length) (hl : l.length ≤ 3) (hx : x.size ≤ 1000000) (h : 0 ≤ l[i] ∧ l[i] < 100) (hk : 5 ≤ k) :
    spec_l20Line.l0 (k + 1) x l (i : Int) = spec_l20Line.l0 k ((x ++ (⟨#[32]⟩ : ByteArray)) ++ digB l[i]) l ((i + 1 : Nat) : Int) := by
  have hz := dig_size l[i] h.1 h.2
  have hw : wrap64 ((i : Int) + 1) = ((i + 1 : Nat) : Int) := by rw [wrap_eq (by omega) (by omega)]; omega
  have hs : (x ++ (⟨#[32]⟩ : ByteArray)).size = x.size + 1 := by rw [ByteArray.size_append]; rfl
  rw [spec_l20Line.l0, if_pos (by omega), if_pos (by omega), if_pos (by omega), rdInt_nt l i hi, sdec _ h.1 h.2 k hk, Option.bind_some, if_pos (by omega), hw]
theorem line_end (k : Nat) (x : ByteArray) (l : List Int) : spec_l20Line.l0 (k + 1) x l (l.length : Int) = some x := by
  rw [spec_l20Line.l0, if_neg (by omega)]
theorem line1 (w : ByteArray) (hw : w.size ≤ 1000) (a : Int) (ha : 0 ≤ a ∧ a < 100) (k : Nat) (hk : 9 ≤ k) : spec_l20Line.f k w [a] = some ((w ++ (⟨#[32]⟩ : ByteArray)) ++ digB a) := by
  obtain ⟨k, rfl⟩ : ∃ m, k = m + 2 := ⟨k - 2, by omega⟩
  unfold spec_l20Line.f
  exact (line_go (k + 1) w [a] 0 (by simp) (by simp) (by omega) ha (by omega)).trans (line_end k _ [a])
theorem line_size (x : ByteArray) (a : Int) (ha : 0 ≤ a ∧ a < 100) : ((x ++ (⟨#[32]⟩ : ByteArray)) ++ digB a).size ≤ x.size + 3 := by
  have := dig_size a ha.1 ha.2
  rw [ByteArray.size_append, ByteArray.size_append]
  show x.size + 1 + (digB a).size ≤ x.size + 3
  omega
theorem line2 (w : ByteArray) (hw : w.size ≤ 1000) (a b : Int) (ha : 0 ≤ a ∧ a < 100) (hb : 0 ≤ b ∧ b < 100) (k : Nat) (hk : 9 ≤ k) : spec_l20Line.f k w [a, b] = some ((((w ++ (⟨#[32]⟩ : ByteArray)) ++ digB a) ++ (⟨#[32]⟩ : ByteArray)) ++ digB b) := by
  obtain ⟨k, rfl⟩ : ∃ m, k = m + 3 := ⟨k - 3, by omega⟩
  unfold spec_l20Line.f
  have h1 := line_size w a ha
  exact ((line_go (k + 2) w [a, b] 0 (by simp) (by simp) (by omega) ha (by omega)).trans (line_go (k + 1) _ [a, b] 1 (by simp) (by simp) (by show ((w ++ (⟨#[32]⟩ : ByteArray)) ++ digB a).size ≤ _; omega) hb (by omega))).trans (line_end k _ [a, b])
theorem line3 (w : ByteArray) (hw : w.size ≤ 1000) (a b c : Int) (ha : 0 ≤ a ∧ a < 100) (hb : 0 ≤ b ∧ b < 100) (hc : 0 ≤ c ∧ c < 100) (k : Nat) (hk : 9 ≤ k) : spec_l20Line.f k w [a, b, c] = some ((((((w ++ (⟨#[32]⟩ : ByteArray)) ++ digB a) ++ (⟨#[32]⟩ : ByteArray)) ++ digB b) ++ (⟨#[32]⟩ : ByteArray)) ++ digB c) := by
  obtain ⟨k, rfl⟩ : ∃ m, k = m + 4 := ⟨k - 4, by omega⟩
  unfold spec_l20Line.f
  have h1 := line_size w a ha
  have h2 := line_size ((w ++ (⟨#[32]⟩ : ByteArray)) ++ digB a) b hb
  exact (((line_go (k + 3) w [a, b, c] 0 (by simp) (by simp) (by omega) ha (by omega)).trans (line_go (k + 2) _ [a, b, c] 1 (by simp) (by simp) (by show ((w ++ (⟨#[32]⟩ : ByteArray)) ++ digB a).size ≤ _; omega) hb (by omega))).trans (line_go (k + 1) _ [a, b, c] 2 (by simp) (by simp) (by show ((((w ++ (⟨#[32]⟩ : ByteArray)) ++ digB a) ++ (⟨#[32]⟩ : ByteArray)) ++ digB b).size ≤ _; omega) hc (by omega))).trans (line_end k _ [a, b, c])
theorem dl (a b : ByteArray) : (a ++ b).data.toList = a.data.toList ++ b.data.toList := by rw [ByteArray.data_append, Array.toList_append]
theorem of_dl {x : ByteArray} {l : List UInt8} (h : x.data.toList = l) : x = ⟨l.toArray⟩ := by
  subst h
  cases x
  rfl
theorem size_dl (x : ByteArray) : x.size = x.data.toList.length := by rw [Array.length_toList]; rfl
theorem snt1 (n : Int) (cs : List S39) (hs vs : List Int) (hv : vs.length = hs.length) (hh : ∀ x ∈ hs, 0 ≤ x ∧ x < 100) (hw : ∀ x ∈ vs, 0 ≤ x ∧ x < 100) (hl : hs.length ≤ 15) (T : List UInt8) (hT : T.length ≤ 1000) (d : Nat) :
    ∀ (k i : Nat) (x : ByteArray), i + d = hs.length → x.data.toList = T ++ staT ((hs.zip vs).take i) → d + 10 ≤ k → spec_NetText.l1 k x (i : Int) n cs hs vs = some ⟨(T ++ staT (hs.zip vs)).toArray⟩ := by
  induction d with
  | zero =>
    intro k i x hi hx hk
    obtain ⟨k, rfl⟩ : ∃ m, k = m + 1 := ⟨k - 1, by omega⟩
    rw [spec_NetText.l1, if_neg (by omega)]
    rw [List.take_of_length_le (by rw [List.length_zip]; omega)] at hx
    rw [of_dl hx]
  | succ d ih =>
    intro k i x hi hx hk
    obtain ⟨k, rfl⟩ : ∃ m, k = m + 1 := ⟨k - 1, by omega⟩
    have hlt : i < hs.length := by omega
    have hlt3 : i < vs.length := by omega
    have ga := hh hs[i] (List.getElem_mem hlt)
    have gb := hw vs[i] (List.getElem_mem hlt3)
    have hst := staT_take hs vs i hlt hv
    have hL : (staT ((hs.zip vs).take i)).length ≤ 600 := by
      have := flatMap_le (fun p : Int × Int => (staLn p.1 p.2).data.toList) 30 ((hs.zip vs).take i) (fun x hx => by
        have hm := List.mem_of_mem_take hx
        obtain ⟨a1, a2⟩ := hh x.1 (List.of_mem_zip hm).1
        obtain ⟨a3, a4⟩ := hw x.2 (List.of_mem_zip hm).2
        exact sta_size _ _ a1 a2 a3 a4)
      have hl : ((hs.zip vs).take i).length ≤ 15 := by rw [List.length_take]; omega
      unfold staT
      omega
    have hxs : x.size ≤ 1600 := by rw [size_dl, hx, List.length_append]; omega
    have hln : (((((⟨#[115, 116, 97, 116, 105, 111, 110]⟩ : ByteArray) ++ (⟨#[32]⟩ : ByteArray)) ++ digB hs[i]) ++ (⟨#[32]⟩ : ByteArray)) ++ digB vs[i]) ++ (⟨#[10]⟩ : ByteArray) = staLn hs[i] vs[i] := rfl
    have hsz := sta_size hs[i] vs[i] ga.1 ga.2 gb.1 gb.2
    rw [← hln, ByteArray.size_append] at hsz
    have h1 : (⟨#[10]⟩ : ByteArray).size = 1 := rfl
    rw [spec_NetText.l1, if_pos (by omega), if_pos (by omega), if_pos (by omega), rdInt_nt hs i hlt, rdInt_nt vs i hlt3, line2 _ (by decide) _ _ ga gb k (by omega), Option.bind_some, if_pos (by omega), if_pos (by rw [ByteArray.size_append]; omega), wrap_eq (by omega) (by omega)]
    refine ih k (i + 1) _ (by omega) ?_ (by omega)
    rw [ByteArray.append_assoc, hln, dl, hx, hst, List.append_assoc]
theorem snt0 (n : Int) (cs : List S39) (hs vs : List Int) (hcs : ∀ x ∈ cs, 0 ≤ x.f0 ∧ x.f0 < 100 ∧ 0 ≤ x.f1 ∧ x.f1 < 100 ∧ 0 ≤ x.f2 ∧ x.f2 < 100) (hcl : cs.length ≤ 20) (hv : vs.length = hs.length) (hh : ∀ x ∈ hs, 0 ≤ x ∧ x < 100) (hw : ∀ x ∈ vs, 0 ≤ x ∧ x < 100) (hl : hs.length ≤ 15) (T : List UInt8) (hT : T.length ≤ 30) (d : Nat) :
    ∀ (k i : Nat) (x : ByteArray), i + d = cs.length → x.data.toList = T ++ cabT (cs.take i) → d + hs.length + 11 ≤ k → spec_NetText.l0 k x (i : Int) n cs hs vs = some ⟨((T ++ cabT cs) ++ staT (hs.zip vs)).toArray⟩ := by
  have hL : ∀ i, (cabT (cs.take i)).length ≤ 600 := fun i => by
    have := flatMap_le (fun c : S39 => (cabLn c.f0 c.f1 c.f2).data.toList) 30 (cs.take i) (fun x hx => by
      obtain ⟨a1, a2, a3, a4, a5, a6⟩ := hcs x (List.mem_of_mem_take hx)
      exact cab_size _ _ _ a1 a2 a3 a4 a5 a6)
    have hl : (cs.take i).length ≤ 20 := by rw [List.length_take]; omega
    unfold cabT
    omega
  induction d with
  | zero =>
    intro k i x hi hx hk
    obtain ⟨k, rfl⟩ : ∃ m, k = m + 1 := ⟨k - 1, by omega⟩
    have e : cs.take i = cs := List.take_of_length_le (by omega)
    have h6 := hL i
    rw [e] at hx h6
    rw [spec_NetText.l0, if_neg (by omega)]
    exact snt1 n cs hs vs hv hh hw hl (T ++ cabT cs) (by rw [List.length_append]; omega) hs.length k 0 x (by omega) (by rw [hx]; simp [staT]) (by omega)
  | succ d ih =>
    intro k i x hi hx hk
    obtain ⟨k, rfl⟩ : ∃ m, k = m + 1 := ⟨k - 1, by omega⟩
    have hlt : i < cs.length := by omega
    obtain ⟨g1, g2, g3, g4, g5, g6⟩ := hcs cs[i] (List.getElem_mem hlt)
    have hst := cabT_take cs i hlt
    have h6 := hL i
    have hxs : x.size ≤ 1600 := by rw [size_dl, hx, List.length_append]; omega
    have hln : (((((((⟨#[99, 97, 98, 108, 101]⟩ : ByteArray) ++ (⟨#[32]⟩ : ByteArray)) ++ digB cs[i].f0) ++ (⟨#[32]⟩ : ByteArray)) ++ digB cs[i].f1) ++ (⟨#[32]⟩ : ByteArray)) ++ digB cs[i].f2) ++ (⟨#[10]⟩ : ByteArray) = cabLn cs[i].f0 cs[i].f1 cs[i].f2 := rfl
    have hsz := cab_size cs[i].f0 cs[i].f1 cs[i].f2 g1 g2 g3 g4 g5 g6
    rw [← hln, ByteArray.size_append] at hsz
    have h1 : (⟨#[10]⟩ : ByteArray).size = 1 := rfl
    rw [spec_NetText.l0, if_pos (by omega), if_pos (by omega), rdCab_get cs i hlt, line3 _ (by decide) _ _ _ ⟨g1, g2⟩ ⟨g3, g4⟩ ⟨g5, g6⟩ k (by omega), Option.bind_some, if_pos (by omega), if_pos (by rw [ByteArray.size_append]; omega), wrap_eq (by omega) (by omega)]
    refine ih k (i + 1) _ (by omega) ?_ (by omega)
    rw [ByteArray.append_assoc, hln, dl, hx, hst, List.append_assoc]
theorem netB_small {n : Int} {cs : List S39} {hs vs : List Int} (hv : netB n cs hs vs = true) : (0 ≤ n ∧ n < 100) ∧ cs.length ≤ 20 ∧ (∀ x ∈ cs, 0 ≤ x.f0 ∧ x.f0 < 100 ∧ 0 ≤ x.f1 ∧ x.f1 < 100 ∧ 0 ≤ x.f2 ∧ x.f2 < 100) ∧ hs.length ≤ 15 ∧ vs.length = hs.length ∧ (∀ x ∈ hs, 0 ≤ x ∧ x < 100) ∧ (∀ x ∈ vs, 0 ≤ x ∧ x < 100) := by
  unfold netB at hv
  simp only [Bool.and_eq_true, decide_eq_true_eq, List.all_eq_true] at hv
  obtain ⟨hcv, hl2, hl3, hh, hw⟩ := hv
  obtain ⟨f1, f2, f3, f4⟩ := cabsB_facts hcv
  refine ⟨by omega, f3, fun x hx => by have := f4 x hx; omega, hl2, hl3, ?_, ?_⟩
  · intro x hx
    have := hh x hx
    unfold brB at this
    simp only [Bool.and_eq_true, decide_eq_true_eq] at this
    have e : wrap64 (n - 1) = n - 1 := by unfold wrap64; omega
    rw [e] at this
    omega
  · intro x hx
    have := hw x hx
    unfold vlB at this
    simp only [Bool.and_eq_true, decide_eq_true_eq] at this
    omega
theorem snt_eq (n : Int) (cs : List S39) (hs vs : List Int) (hl : cs.length + hs.length + vs.length ≤ 1048576) (k : Nat) (hk : cs.length + hs.length + vs.length + 100 < k) : spec_NetText.f k n cs hs vs = impl_NetText.f n cs hs vs := by
  unfold spec_NetText.f impl_NetText.f
  rw [snet_eq n _ hs vs (by omega) (by omega) (by omega) _ (by omega), Option.bind_some]
  by_cases c : netB n cs hs vs = true
  · obtain ⟨gn, hcl, hcs, hl2, hv, hh, hw⟩ := netB_small c
    have hz := head_size n gn.1 gn.2
    have hln : (((⟨#[98, 114, 105, 100, 103, 101, 115]⟩ : ByteArray) ++ (⟨#[32]⟩ : ByteArray)) ++ digB n) ++ (⟨#[10]⟩ : ByteArray) = headB n := rfl
    have h1 : (⟨#[10]⟩ : ByteArray).size = 1 := rfl
    have hz2 := hz
    rw [← hln, ByteArray.size_append] at hz2
    rw [if_pos c, if_pos c, line1 _ (by decide) _ gn _ (by omega), Option.bind_some, if_pos (by omega), hln]
    exact snt0 n cs hs vs hcs hcl hv hh hw hl2 (headB n).data.toList (by rw [← size_dl]; exact hz) cs.length k 0 (headB n) (by omega) (by simp [cabT]) (by omega)
  · rw [if_neg c, if_neg c]
theorem FnExactNetText : laws_FnExactNetText.Pure := by
  intro n cs hs vs _ h1 h2 h3
  obtain ⟨m, hm, hm2⟩ := szNet_eq n cs hs vs h1.1 h2.1 h3.1
  refine ⟨cs.length + hs.length + vs.length + 200, ?_⟩
  unfold laws_FnExactNetText.f
  rw [hm, Option.bind_some]
  by_cases c : m < 0
  · rw [if_pos c]
  obtain ⟨hl, _, _⟩ := hm2 c
  have hc := cvC_len cs
  rw [if_neg c, toNet_eq n cs hs vs hl _ (by omega), Option.bind_some]
  simp only []
  rw [snt_eq n _ hs vs (by omega) _ (by omega)]
  obtain ⟨t, ht⟩ : ∃ t, impl_NetText.f n (cvC cs) hs vs = some t := by
    unfold impl_NetText.f
    split
    · exact ⟨_, rfl⟩
    · exact ⟨_, rfl⟩
  rw [ht, Option.bind_some, Option.bind_some]
  simp only []
  rw [ht, Option.bind_some, if_pos rfl, Option.bind_some]
  simp only []
  rw [eqNet_eq n _ hs vs (by omega) _ (by omega), Option.bind_some, if_pos rfl]

end Go.Proofs.YtdamdcdjodmemaaDoor.Pure

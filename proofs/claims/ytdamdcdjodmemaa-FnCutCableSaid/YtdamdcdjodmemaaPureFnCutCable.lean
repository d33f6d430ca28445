/- FnCutCable: at every draw the program's CutCable answers as the reference's; without a cable no station has a mate that it had not, and where the cable is not of the tree each has the same. No condition. -/
import Derived.Test.YtdamdcdjodmemaaPAllx1
import Derived.Test.YtdamdcdjodmemaaPAllx3
import Derived.Test.YtdamdcdjodmemaaPAllx4
import Derived.Test.YtdamdcdjodmemaaPAllx7
import Derived.Test.YtdamdcdjodmemaaPAllx8
import Derived.Test.YtdamdcdjodmemaaPAllx9
namespace Go.Proofs.Ytdamdcdjodmemaa.Pure
open Go.RowKit Go.Proofs.Ytdamdcdjodmemaa.PAll Go.Proofs.YtdamdcdjodmemaaW.PrintWords Go.Proofs.YtdamdcdjodmemaaW.PrintLast Go.Proofs.YtdamdcdjodmemaaW.PrintMore

/-- A network's cables without one. -/
theorem icut_eq (n : Int) (cs : List S51) (hs vs : List Int) (x : Int) (k : Nat) (hk : 1 < k) : impl_CutCable.f k n cs hs vs x = some (if netB n cs hs vs = true ∧ 0 ≤ x ∧ x < cs.length then (n, cs.eraseIdx x.toNat, hs, vs, true) else (0, [], [], [], false)) := by
  obtain ⟨k, rfl⟩ : ∃ m, k = m + 1 := ⟨k - 1, by omega⟩
  unfold impl_CutCable.f
  rw [inet_eq, Option.bind_some]
  cases hv : netB n cs hs vs with
  | false =>
    rw [if_neg (by decide), if_neg (fun h => by cases h.1)]
    simp only [impl_CutCable.j0]
    rw [if_pos trivial]
  | true =>
    obtain ⟨q1, q2, q3, q4⟩ := netB_facts hv
    obtain ⟨p1, p2, p3, p4⟩ := cabsB_facts q1
    rw [if_pos rfl, win_is, Option.bind_some, wrap_eq (x := (cs.length : Int) - 1) (by omega) (by omega)]
    simp only [impl_CutCable.j0]
    by_cases c : 0 ≤ x ∧ x < cs.length
    · have e : wrap64 (x + 1) = x + 1 := wrap_eq (by omega) (by omega)
      rw [decide_eq_true c.1, decide_eq_true (show x ≤ (cs.length : Int) - 1 by omega), if_neg (by decide), if_pos ⟨trivial, c⟩]
      unfold impl_Net_clone.f impl_Cable_79.f slices_Clone_int_int.f
      rw [if_pos (by omega), Option.bind_some, if_pos (by omega), Option.bind_some, if_pos (by omega), Option.bind_some, Option.bind_some]
      unfold impl_Cable_60.f
      simp only []
      rw [if_pos ⟨c.1, e, c.2, by omega⟩, Option.bind_some]
    · rw [if_pos (by simp only [Bool.not_eq_true', Bool.and_eq_false_iff, decide_eq_false_iff_not]; omega), if_neg (fun h => c h.2)]
theorem scut_l0 (n : Int) (cs : List S51) (hs vs : List Int) (X : Nat) (hX : X < cs.length) (hl : cs.length ≤ 1000) (h0 : List Int) (v0 : List Int) (m : Int) (d : Nat) : ∀ (k i : Nat), i + d = cs.length → d < k →
    spec_CutCable.l0 k (X : Int) (i : Int) n cs hs vs m ((cs.take i).eraseIdx X) h0 v0 = some (m, cs.eraseIdx X, h0, v0, true) := by
  induction d with
  | zero =>
    intro k i h1 hk
    obtain ⟨k, rfl⟩ : ∃ m, k = m + 1 := ⟨k - 1, by omega⟩
    simp only [spec_CutCable.l0]
    rw [if_neg (by omega), List.take_of_length_le (by omega)]
  | succ d ih =>
    intro k i h1 hk
    obtain ⟨k, rfl⟩ : ∃ m, k = m + 1 := ⟨k - 1, by omega⟩
    have hi : i < cs.length := by omega
    have ih' := ih k (i + 1) (by omega) (by omega)
    rw [List.take_succ_eq_append_getElem hi] at ih'
    simp only [spec_CutCable.l0]
    rw [if_pos (by omega), wrap_succ hi (by omega), rdCab_get cs i hi]
    have hlen := List.length_eraseIdx_le (cs.take i) X
    rw [List.length_take] at hlen
    by_cases c : (i : Int) = (X : Int)
    · rw [if_pos c]
      obtain rfl : i = X := by omega
      rw [List.eraseIdx_append_of_length_le (by rw [List.length_take]; omega), show i - (cs.take i).length = 0 by rw [List.length_take]; omega] at ih'
      rw [List.eraseIdx_of_length_le (by rw [List.length_take]; omega)]
      simpa using ih'
    · rw [if_neg c, if_pos (by omega), if_pos (by omega)]
      by_cases c2 : X < i
      · rw [List.eraseIdx_append_of_lt_length (by rw [List.length_take]; omega)] at ih'
        exact ih'
      · rw [List.eraseIdx_of_length_le (by rw [List.length_append, List.length_take]; simp; omega)] at ih'
        rw [List.eraseIdx_of_length_le (by rw [List.length_take]; omega)]
        exact ih'
theorem scut_eq (n : Int) (cs : List S51) (hs vs : List Int) (x : Int) (hl : cs.length + hs.length + vs.length ≤ 1000) (k : Nat) (hk : cs.length + hs.length + vs.length + 100 < k) : spec_CutCable.f k n cs hs vs x = some (if netB n cs hs vs = true ∧ 0 ≤ x ∧ x < cs.length then (n, cs.eraseIdx x.toNat, hs, vs, true) else (0, [], [], [], false)) := by
  obtain ⟨k, rfl⟩ : ∃ m, k = m + 1 := ⟨k - 1, by omega⟩
  unfold spec_CutCable.f
  rw [snet_eq n cs hs vs (by omega) (by omega) (by omega) _ (by omega), Option.bind_some]
  cases hv : netB n cs hs vs with
  | false =>
    rw [if_neg (by decide), if_neg (fun h => by cases h.1)]
    simp only [spec_CutCable.j0]
    rw [if_pos trivial]
  | true =>
    rw [if_pos rfl, l1In_is, Option.bind_some, wrap_eq (x := (cs.length : Int) - 1) (by omega) (by omega)]
    simp only [spec_CutCable.j0]
    by_cases c : 0 ≤ x ∧ x < cs.length
    · rw [decide_eq_true c.1, decide_eq_true (show x ≤ (cs.length : Int) - 1 by omega), if_neg (by decide), if_pos ⟨trivial, c⟩, Option.bind_some, if_pos (by simp; omega), Option.bind_some, if_pos (by simp; omega), List.nil_append, List.nil_append]
      obtain ⟨X, rfl⟩ := Int.eq_ofNat_of_zero_le c.1
      exact scut_l0 n cs hs vs X (by omega) (by omega) hs vs n cs.length k 0 (by omega) (by omega)
    · rw [if_pos (by simp only [Bool.not_eq_true', Bool.and_eq_false_iff, decide_eq_false_iff_not]; omega), if_neg (fun h => c h.2)]
theorem cut_sub {N : Nat} {cs ds : List S51} (hv : cabsB (N : Int) cs = true) (hd : cabsB (N : Int) ds = true) (hsub : ∀ c ∈ ds, c ∈ cs) {a b : Nat} (ha : a < N) (hb : b < N) (h : gD (rootsL N ds) a = gD (rootsL N ds) b) : gD (rootsL N cs) a = gD (rootsL N cs) b := by
  have hc := cabOk_of hv
  have hcd := cabOk_of hd
  have r1 := rootsL_len N cs
  have r2 := rootsL_len N ds
  rw [gD_get _ _ (by omega), gD_get _ _ (by omega)] at h ⊢
  have hm := (roots_join hcd ha hb).1 h
  refine (roots_join hc ha hb).2 ?_
  exact jnB_least hcd ha (P := memB (jnB cs N a)) (fun c hx => jnB_closed hc ha c (hsub c hx)) (jnB_self hc ha) hm
theorem cut_same {N : Nat} {cs ds : List S51} (hv : cabsB (N : Int) cs = true) (hd : cabsB (N : Int) ds = true) {k : Nat} (hk : ∀ i (h : i < cs.length), i ≠ k → cs[i] ∈ ds) (ht : (k : Int) ∉ treeX (N : Int) cs) {a b : Nat} (ha : a < N) (hb : b < N) (h : gD (rootsL N cs) a = gD (rootsL N cs) b) : gD (rootsL N ds) a = gD (rootsL N ds) b := by
  have hso := sound_of hv
  have hcd := cabOk_of hd
  have r2 := rootsL_len N ds
  obtain ⟨w, r, q1, q2, q3, q4, q5, q6, q7, q8⟩ := way_up hv ha
  obtain ⟨v, s, g1, g2, g3, g4, g5, g6, g7, g8⟩ := way_up hv hb
  obtain rfl : r = s := by omega
  have hstep : ∀ y, y < N → ∀ x, x < N → 0 ≤ upN N cs x → (memB (jnB ds N y) x ↔ memB (jnB ds N y) (nxN N cs x)) := by
    intro y hy x hx h0
    obtain ⟨K, hK, k1, k2, _⟩ := up_hit hso x h0
    have hne : K ≠ k := fun e => ht (by have := treeX_up hv hx h0; rw [k1, e] at this; exact this)
    have hc := jnB_closed hcd hy _ (hk K hK hne)
    rcases oth_ends k2 with ⟨y1, y2⟩ | ⟨y1, y2⟩
    · rw [← y1, ← y2, Int.toNat_natCast, Int.toNat_natCast] at hc; exact hc
    · rw [← y1, ← y2, Int.toNat_natCast, Int.toNat_natCast] at hc; exact hc.symm
  have h1 := (ch_join q1 (P := memB (jnB ds N a)) (fun x hx => hstep a ha x (q7 x hx).1 (q7 x hx).2.1)).1 (jnB_self hcd ha)
  have h2 := (ch_join g1 (P := memB (jnB ds N b)) (fun x hx => hstep b hb x (g7 x hx).1 (g7 x hx).2.1)).1 (jnB_self hcd hb)
  rw [gD_get _ _ (by omega), gD_get _ _ (by omega)]
  exact (roots_join hcd ha hb).2 (jnB_trans hcd ha q3 h1 (jnB_symm hcd hb q3 h2))
theorem mate_rd {N : Nat} {cs : List S51} {hs vs : List Int} (h : netB (N : Int) cs hs vs = true) {s : Int} (h0 : 0 ≤ s) (h1 : s < hs.length) : ∃ A : Nat, A < N ∧ rd hs s = (A : Int) := by
  obtain ⟨q1, q2, q3, q4⟩ := netB_facts h
  obtain ⟨S, rfl⟩ := Int.eq_ofNat_of_zero_le h0
  have hS : S < hs.length := by omega
  have g := q4 _ (List.getElem_mem hS)
  exact ⟨(hs[S]).toNat, by omega, by rw [rd_get hs S hS]; omega⟩
theorem cut_mates {N : Nat} {cs ds : List S51} {hs vs : List Int} (hv : netB (N : Int) cs hs vs = true) (hd : netB (N : Int) ds hs vs = true) (hsub : ∀ c ∈ ds, c ∈ cs) (s : Int) : (∀ o, o ∈ matesX (N : Int) ds hs vs s → o ∈ matesX (N : Int) cs hs vs s) ∧ ∀ k : Nat, (∀ i (h : i < cs.length), i ≠ k → cs[i] ∈ ds) → (k : Int) ∉ treeX (N : Int) cs → matesX (N : Int) cs hs vs s = matesX (N : Int) ds hs vs s := by
  unfold matesX
  by_cases c : 0 ≤ s ∧ s < hs.length
  · rw [if_pos ⟨hd, c⟩, if_pos ⟨hv, c⟩]
    obtain ⟨A, hA, eA⟩ := mate_rd hv c.1 c.2
    obtain ⟨q1, _⟩ := netB_facts hv
    obtain ⟨g1, _⟩ := netB_facts hd
    have key : ∀ o : Int, 0 ≤ o → o < hs.length → (mateB (N : Int) ds hs vs s o = true → mateB (N : Int) cs hs vs s o = true) ∧ ∀ k : Nat, (∀ i (h : i < cs.length), i ≠ k → cs[i] ∈ ds) → (k : Int) ∉ treeX (N : Int) cs → mateB (N : Int) cs hs vs s o = mateB (N : Int) ds hs vs s o := by
      intro o o0 o1
      obtain ⟨B, hB, eB⟩ := mate_rd hv o0 o1
      unfold mateB
      rw [eA, eB, Int.toNat_natCast, rd_gD, rd_gD, rd_gD, rd_gD]
      refine ⟨fun h => ?_, fun k hk ht => ?_⟩
      · simp only [Bool.and_eq_true, decide_eq_true_eq] at h ⊢
        exact ⟨h.1, h.2.1, cut_sub q1 g1 hsub hB hA h.2.2⟩
      · have : gD (rootsL N cs) B = gD (rootsL N cs) A ↔ gD (rootsL N ds) B = gD (rootsL N ds) A := ⟨cut_same q1 g1 hk ht hB hA, cut_sub q1 g1 hsub hB hA⟩
        rw [decide_eq_decide.2 this]
    refine ⟨fun o ho => ?_, fun k hk ht => ?_⟩
    · obtain ⟨h1, h2, h3⟩ := (filM_mem _ _ _ _).1 ho
      exact (filM_mem _ _ _ _).2 ⟨h1, h2, (key o h1 (by omega)).1 h3⟩
    · exact filM_congr _ _ _ _ (fun o h1 h2 => (key o h1 (by omega)).2 k hk ht)
  · rw [if_neg (fun h => c h.2), if_neg (fun h => c h.2)]
    exact ⟨fun o h => h, fun _ _ _ => rfl⟩
theorem cut_l1 {N : Nat} {cs ds : List S51} {hs vs : List Int} {K : Nat} (sl : Int) (s : Int) (hsub : ∀ o, o ∈ matesX (N : Int) ds hs vs s → o ∈ matesX (N : Int) cs hs vs s) (hsame : (K : Int) ∉ treeX (N : Int) cs → matesX (N : Int) cs hs vs s = matesX (N : Int) ds hs vs s) (d : Nat) : ∀ (k i : Nat), i + d = (matesX (N : Int) ds hs vs s).length → d + 500 < k →
    laws_FnCutCable.l1 k (K : Int) (matesX (N : Int) cs hs vs s) (matesX (N : Int) ds hs vs s) sl s (matesX (N : Int) ds hs vs s) (matesX (N : Int) ds hs vs s).length (i : Int) (N : Int) cs hs vs (N : Int) ds hs vs = laws_FnCutCable.l0 (k - d - 1) (K : Int) sl (wrap64 (s + 1)) (N : Int) cs hs vs (N : Int) ds hs vs := by
  have m1 := matesX_len (N : Int) cs hs vs s
  have m2 := matesX_len (N : Int) ds hs vs s
  have ht := treeX_len (N : Int) cs
  induction d with
  | zero =>
    intro k i h1 hk
    obtain ⟨k, rfl⟩ : ∃ m, k = m + 1 := ⟨k - 1, by omega⟩
    simp only [laws_FnCutCable.l1]
    rw [if_neg (by omega), itree_eq (N : Int) cs k (by omega), Option.bind_some, wnHas_eq _ _ (by omega) k (by omega), Option.bind_some]
    cases c : hasL (treeX (N : Int) cs) (K : Int) with
    | true => rw [if_pos rfl]; rfl
    | false =>
      have hn : (K : Int) ∉ treeX (N : Int) cs := fun h => by rw [(hasL_iff _ _).2 h] at c; cases c
      rw [if_neg (by decide), wnInts_eq _ _ (by omega) k (by omega), Option.bind_some, if_pos (decide_eq_true (hsame hn))]; rfl
  | succ d ih =>
    intro k i h1 hk
    obtain ⟨k, rfl⟩ : ∃ m, k = m + 1 := ⟨k - 1, by omega⟩
    have hi : i < (matesX (N : Int) ds hs vs s).length := by omega
    simp only [laws_FnCutCable.l1]
    rw [if_pos (by omega), if_pos (by omega), if_pos (by omega), rd_get _ i hi, wnHas_eq _ _ (by omega) k (by omega), Option.bind_some, (hasL_iff _ _).2 (hsub _ (List.getElem_mem hi)), if_pos rfl, wrap_succ hi (by omega), ih k (i + 1) (by omega) (by omega)]
    congr 1
    omega
theorem cut_l0 {N : Nat} {cs ds : List S51} {hs vs : List Int} {K : Nat} (hv : netB (N : Int) cs hs vs = true) (hd : netB (N : Int) ds hs vs = true) (hl : ds.length + 1 = cs.length) (hsub : ∀ c ∈ ds, c ∈ cs) (hK : ∀ i (h : i < cs.length), i ≠ K → cs[i] ∈ ds) (d : Nat) : ∀ (k i : Nat), i + d = hs.length → d * 20 + 1000 < k →
    laws_FnCutCable.l0 k (K : Int) hs.length (i : Int) (N : Int) cs hs vs (N : Int) ds hs vs = some true := by
  obtain ⟨q1, q2, q3, q4⟩ := netB_facts hv
  obtain ⟨p1, p2, p3, p4⟩ := cabsB_facts q1
  induction d with
  | zero =>
    intro k i h1 hk
    obtain ⟨k, rfl⟩ : ∃ m, k = m + 1 := ⟨k - 1, by omega⟩
    simp only [laws_FnCutCable.l0]
    rw [if_neg (by omega), inet_eq, Option.bind_some, hd, if_pos rfl, wrap_eq (by omega) (by omega)]
    congr 1
    rw [beq_iff_eq]
    omega
  | succ d ih =>
    intro k i h1 hk
    obtain ⟨k, rfl⟩ : ∃ m, k = m + 1 := ⟨k - 1, by omega⟩
    have hi : i < hs.length := by omega
    obtain ⟨c1, c2⟩ := cut_mates hv hd hsub (i : Int)
    have m2 := matesX_len (N : Int) ds hs vs (i : Int)
    simp only [laws_FnCutCable.l0]
    rw [if_pos (by omega), imates_eq (N : Int) cs hs vs (i : Int) k (by omega), Option.bind_some, imates_eq (N : Int) ds hs vs (i : Int) k (by omega), Option.bind_some]
    have e := cut_l1 (N := N) (cs := cs) (ds := ds) (hs := hs) (vs := vs) (K := K) hs.length (i : Int) c1 (c2 K hK) _ k 0 (Nat.zero_add _) (by omega)
    refine e.trans ?_
    rw [wrap_succ hi (by omega)]
    exact ih _ (i + 1) (by omega) (by omega)
theorem FnCutCable : laws_FnCutCable.Pure := by
  intro l0 _ _ hw
  obtain ⟨n, cs, hs, vs, x, q1, q2, q3, hd⟩ := drawCut_ok hw
  refine ⟨4001, ?_⟩
  unfold laws_FnCutCable.f
  by_cases c : (l0.length : Int) > 1048576
  · rw [if_pos c]
  rw [if_neg c, hd _ (by omega), Option.bind_some]
  simp only []
  rw [icut_eq n cs hs vs x _ (by omega), Option.bind_some, scut_eq n cs hs vs x (by omega) _ (by omega), Option.bind_some]
  by_cases e : netB n cs hs vs = true ∧ 0 ≤ x ∧ x < cs.length
  · rw [if_pos e]
    simp only []
    rw [if_neg (by decide), if_pos trivial]
    simp only [laws_FnCutCable.j0]
    rw [if_neg (by decide)]
    obtain ⟨g1, g2, g3, g4⟩ := netB_facts e.1
    obtain ⟨p1, p2, p3, p4⟩ := cabsB_facts g1
    obtain ⟨N, rfl⟩ : ∃ N : Nat, n = (N : Int) := ⟨n.toNat, by omega⟩
    obtain ⟨K, rfl⟩ := Int.eq_ofNat_of_zero_le e.2.1
    rw [Int.toNat_natCast]
    have hl : (cs.eraseIdx K).length + 1 = cs.length := by rw [List.length_eraseIdx_of_lt (by omega)]; omega
    have hsub : ∀ c ∈ cs.eraseIdx K, c ∈ cs := fun c hc => List.mem_of_mem_eraseIdx hc
    have hdv : cabsB (N : Int) (cs.eraseIdx K) = true := cabsB_of p1 p2 (by omega) (fun c hc => p4 c (hsub c hc))
    have hdn : netB (N : Int) (cs.eraseIdx K) hs vs = true := by
      have h := e.1
      unfold netB at h ⊢
      rw [g1] at h
      rw [hdv]
      exact h
    have hK : ∀ i (h : i < cs.length), i ≠ K → cs[i] ∈ cs.eraseIdx K := fun i h hne => List.mem_eraseIdx_iff_getElem.2 ⟨i, h, hne, rfl⟩
    exact cut_l0 e.1 hdn hl hsub hK hs.length 4000 0 (by omega) (by omega)
  · rw [if_neg e]
    simp only []
    rw [if_neg (by decide), if_pos trivial]
    simp only [laws_FnCutCable.j0]
    rfl

end Go.Proofs.Ytdamdcdjodmemaa.Pure

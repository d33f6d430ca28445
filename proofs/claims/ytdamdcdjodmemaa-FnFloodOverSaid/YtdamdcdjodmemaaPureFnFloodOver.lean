/- FnFloodOver: at every draw the program's FloodOver returns what the reference's returns; it is the same for each mate, its cables ascend and are cables of the tree. No condition. -/
import Derived.Test.YtdamdcdjodmemaaPAllx1
import Derived.Test.YtdamdcdjodmemaaPAllx4
import Derived.Test.YtdamdcdjodmemaaPAllx6
import Derived.Test.YtdamdcdjodmemaaPAllx7
import Derived.Test.YtdamdcdjodmemaaPAllx8
namespace Go.Proofs.Ytdamdcdjodmemaa.Pure
open Go.RowKit Go.Proofs.Ytdamdcdjodmemaa.PAll Go.Proofs.YtdamdcdjodmemaaW.PrintWords Go.Proofs.YtdamdcdjodmemaaW.PrintLast Go.Proofs.YtdamdcdjodmemaaW.PrintMore

theorem upS_hit (cs : List S51) (o : List Int) (b : Int) (d : Nat) : ∀ (i : Nat) (best at_ : Int), (upS cs o b d i best at_).1 = best ∨ ∃ q, othX (rd_T51 cs (upS cs o b d i best at_).1) b = some q ∧ rd o q + (rd_T51 cs (upS cs o b d i best at_).1).f2 = rd o b := by
  induction d with
  | zero => exact fun _ _ _ => Or.inl rfl
  | succ d ih =>
    intro i best at_
    rw [upS]
    cases e : othX (rd_T51 cs (i : Int)) b with
    | none => exact ih (i + 1) best at_
    | some q =>
      simp only []
      by_cases c : rd o q + (rd_T51 cs (i : Int)).f2 = rd o b ∧ (best < 0 ∨ q < at_)
      · rw [if_pos c]
        rcases ih (i + 1) (i : Int) q with h | h
        · exact Or.inr ⟨q, by rw [h]; exact e, by rw [h]; exact c.1⟩
        · exact Or.inr h
      · rw [if_neg c]; exact ih (i + 1) best at_
theorem up_once {N : Nat} {cs : List S51} (hs : SoundC cs N) (b b2 : Nat) (hne : b ≠ b2) (h0 : 0 ≤ upN N cs b) : upN N cs b ≠ upN N cs b2 := by
  intro e
  have hlt := (upX_lt cs (costsN N cs) (b : Int)).2
  have e1 : (upX cs (costsN N cs) (b : Int)).1 = upN N cs b := rfl
  have e2 : (upX cs (costsN N cs) (b2 : Int)).1 = upN N cs b2 := rfl
  rcases upS_hit cs (costsN N cs) (b : Int) cs.length 0 (-1) (-1) with h | ⟨q, h1, h2⟩
  · have : upN N cs b = -1 := h
    omega
  rcases upS_hit cs (costsN N cs) (b2 : Int) cs.length 0 (-1) (-1) with h | ⟨q2, h3, h4⟩
  · have : upN N cs b2 = -1 := h
    omega
  have k1 : (upS cs (costsN N cs) (b : Int) cs.length 0 (-1) (-1)).1 = upN N cs b := rfl
  have k2 : (upS cs (costsN N cs) (b2 : Int) cs.length 0 (-1) (-1)).1 = upN N cs b := e.symm
  rw [k1] at h1 h2
  rw [k2] at h3 h4
  obtain ⟨K, hK⟩ := Int.eq_ofNat_of_zero_le h0
  have hKl : K < cs.length := by omega
  have hok := hs _ (List.getElem_mem hKl)
  rw [hK, rdCab_get cs K hKl] at h1 h2 h3 h4
  have x1 : (b : Int) = cs[K].f0 ∧ q = cs[K].f1 ∨ (b : Int) = cs[K].f1 ∧ q = cs[K].f0 := by
    unfold othX at h1
    split at h1
    · rename_i w; injection h1 with h1; exact Or.inl ⟨w, h1.symm⟩
    · split at h1
      · rename_i w; injection h1 with h1; exact Or.inr ⟨w, h1.symm⟩
      · cases h1
  have x2 : (b2 : Int) = cs[K].f0 ∧ q2 = cs[K].f1 ∨ (b2 : Int) = cs[K].f1 ∧ q2 = cs[K].f0 := by
    unfold othX at h3
    split at h3
    · rename_i w; injection h3 with h3; exact Or.inl ⟨w, h3.symm⟩
    · split at h3
      · rename_i w; injection h3 with h3; exact Or.inr ⟨w, h3.symm⟩
      · cases h3
  rcases x1 with ⟨y1, y2⟩ | ⟨y1, y2⟩ <;> rcases x2 with ⟨z1, z2⟩ | ⟨z1, z2⟩
  · omega
  · rw [y1, y2] at h2; rw [z1, z2] at h4; omega
  · rw [y1, y2] at h2; rw [z1, z2] at h4; omega
  · omega
theorem uL_mem (u : Nat → Int) (d : Nat) : ∀ b x, x ∈ uL u d b → ∃ c, b ≤ c ∧ c < b + d ∧ u c = x := by
  induction d with
  | zero => intro b x h; cases h
  | succ d ih =>
    intro b x h
    rw [uL] at h
    split at h
    · rcases List.mem_cons.1 h with e | h
      · exact ⟨b, by omega, by omega, e.symm⟩
      · obtain ⟨c, c1, c2, c3⟩ := ih _ _ h; exact ⟨c, by omega, by omega, c3⟩
    · obtain ⟨c, c1, c2, c3⟩ := ih _ _ h; exact ⟨c, by omega, by omega, c3⟩
theorem uL_nodup (u : Nat → Int) (h : ∀ b c, b ≠ c → 0 ≤ u b → u b ≠ u c) (d : Nat) : ∀ b, (uL u d b).Nodup := by
  induction d with
  | zero => exact fun _ => List.Pairwise.nil
  | succ d ih =>
    intro b
    rw [uL]
    split
    · rename_i c0
      refine List.Pairwise.cons (fun x hx => ?_) (ih (b + 1))
      obtain ⟨c, c1, c2, c3⟩ := uL_mem u d (b + 1) x hx
      rw [← c3]
      exact h b c (by omega) c0
    · exact ih (b + 1)
theorem le_lt {l : List Int} (h1 : l.Pairwise (· ≤ ·)) (h2 : l.Nodup) : l.Pairwise (· < ·) := by
  rw [List.pairwise_iff_getElem] at h1 ⊢
  intro i j hi hj hij
  have a := h1 i j hi hj hij
  have b : l[i] ≠ l[j] := (List.pairwise_iff_getElem.1 h2) i j hi hj hij
  omega
theorem treeX_asc (n : Int) (cs : List S51) : (treeX n cs).Pairwise (· < ·) := by
  unfold treeX
  split
  · rename_i hv
    obtain ⟨f1, f2, f3, _⟩ := cabsB_facts hv
    obtain ⟨N, hN⟩ : ∃ N : Nat, n = (N : Int) := ⟨n.toNat, by omega⟩
    subst hN
    rw [Int.toNat_natCast]
    have hp := tree_perm (upN N cs) N cs.length (fun x _ => (upX_lt cs _ _).2)
    exact le_lt (tI_sorted _ _ _ _) (hp.nodup_iff.1 (uL_nodup _ (fun b c hne h0 => up_once (sound_of hv) b c hne h0) N 0))
  · exact List.Pairwise.nil
theorem flood_l1 (n : Int) (cs : List S51) (hs vs : List Int) (s : Int) (d : Nat) : ∀ (k i : Nat), i + d = (floodX n cs hs vs s).length → d + 100 < k → laws_FnFloodOver.l1 k (floodX n cs hs vs s) (treeX n cs) (floodX n cs hs vs s) (floodX n cs hs vs s).length (i : Int) = some true := by
  have hx := floodX_len n cs hs vs s
  have ht := treeX_len n cs
  have hasc : (floodX n cs hs vs s).Pairwise (· < ·) := by
    unfold floodX
    split
    · exact (treeX_asc n cs).filter _
    · exact List.Pairwise.nil
  have hsub : ∀ x, x ∈ floodX n cs hs vs s → x ∈ treeX n cs := by
    intro x h
    unfold floodX at h
    split at h
    · exact (List.mem_filter.1 h).1
    · cases h
  induction d with
  | zero =>
    intro k i h1 hk
    obtain ⟨k, rfl⟩ : ∃ m, k = m + 1 := ⟨k - 1, by omega⟩
    simp only [laws_FnFloodOver.l1]
    rw [if_neg (by omega)]
  | succ d ih =>
    intro k i h1 hk
    obtain ⟨k, rfl⟩ : ∃ m, k = m + 1 := ⟨k - 1, by omega⟩
    have hi : i < (floodX n cs hs vs s).length := by omega
    have hh : hasL (treeX n cs) (floodX n cs hs vs s)[i] = true := (hasL_iff _ _).2 (hsub _ (List.getElem_mem hi))
    have ih' := ih k (i + 1) (by omega) (by omega)
    simp only [laws_FnFloodOver.l1]
    rw [if_pos (by omega), if_pos (by omega), if_pos (by omega), rd_get _ i hi, wnHas_eq _ _ (by omega) k (by omega), Option.bind_some, hh, wrap_succ hi (by omega)]
    by_cases c0 : (i : Int) > 0
    · obtain ⟨j, rfl⟩ : ∃ j, i = j + 1 := ⟨i - 1, by omega⟩
      have e1 : wrap64 (((j + 1 : Nat) : Int) - 1) = (j : Int) := by rw [wrap_eq (by omega) (by omega)]; omega
      have hlt := (List.pairwise_iff_getElem.1 hasc) j (j + 1) (by omega) hi (by omega)
      rw [if_pos c0, e1, if_pos (by omega), if_pos (by omega), rd_get _ j (by omega), if_neg (by omega), if_pos rfl, ih']
    · rw [if_neg c0, if_pos rfl, ih']
theorem flood_mate {n : Int} {cs : List S51} {hs vs : List Int} {s o : Int} (h : o ∈ matesX n cs hs vs s) : floodX n cs hs vs o = floodX n cs hs vs s := by
  unfold matesX at h
  by_cases c : netB n cs hs vs = true ∧ 0 ≤ s ∧ s < hs.length
  · rw [if_pos c] at h
    obtain ⟨h1, h2, h3⟩ := (filM_mem _ _ _ _).1 h
    unfold mateB at h3
    simp only [Bool.and_eq_true, decide_eq_true_eq] at h3
    unfold floodX
    rw [if_pos c, if_pos ⟨c.1, h1, by omega⟩]
    unfold floodB
    rw [h3.2.2]
  · rw [if_neg c] at h; cases h
theorem flood_l0 (n : Int) (cs : List S51) (hs vs : List Int) (s : Int) (d : Nat) : ∀ (k i : Nat), i + d = (matesX n cs hs vs s).length → d + 1000 < k → laws_FnFloodOver.l0 k (floodX n cs hs vs s) (matesX n cs hs vs s) (matesX n cs hs vs s).length (i : Int) n cs hs vs = some true := by
  have hm := matesX_len n cs hs vs s
  have hx := floodX_len n cs hs vs s
  induction d with
  | zero =>
    intro k i h1 hk
    obtain ⟨k, rfl⟩ : ∃ m, k = m + 1 := ⟨k - 1, by omega⟩
    simp only [laws_FnFloodOver.l0]
    rw [if_neg (by omega), itree_eq n cs k (by omega), Option.bind_some]
    exact flood_l1 n cs hs vs s (floodX n cs hs vs s).length k 0 (by omega) (by omega)
  | succ d ih =>
    intro k i h1 hk
    obtain ⟨k, rfl⟩ : ∃ m, k = m + 1 := ⟨k - 1, by omega⟩
    have hi : i < (matesX n cs hs vs s).length := by omega
    simp only [laws_FnFloodOver.l0]
    rw [if_pos (by omega), if_pos (by omega), if_pos (by omega), rd_get _ i hi, iflood_eq n cs hs vs _ k (by omega), Option.bind_some, flood_mate (List.getElem_mem hi), wnInts_eq _ _ (by omega) k (by omega), Option.bind_some, if_pos (by simp), wrap_succ hi (by omega)]
    exact ih k (i + 1) (by omega) (by omega)
theorem FnFloodOver : laws_FnFloodOver.Pure := by
  intro l0 _ _ hw
  obtain ⟨n, cs, hs, vs, s, q1, q2, q3, hd⟩ := drawMates_ok hw
  have hdf : ∀ k, 100 < k → spec_DrawFloodOver.f k l0 = some (n, cs, hs, vs, s) := fun k hk => by unfold spec_DrawFloodOver.f; rw [hd k hk, Option.bind_some]
  refine ⟨4001, ?_⟩
  unfold laws_FnFloodOver.f
  by_cases c : (l0.length : Int) > 1048576
  · rw [if_pos c]
  have hm := matesX_len n cs hs vs s
  have hx := floodX_len n cs hs vs s
  rw [if_neg c, hdf _ (by omega), Option.bind_some]
  simp only []
  rw [iflood_eq n cs hs vs s _ (by omega), Option.bind_some, sflood_eq n cs hs vs s (by omega) _ (by omega), Option.bind_some, wnInts_eq _ _ (by omega) _ (by omega), Option.bind_some, if_pos (by simp), imates_eq n cs hs vs s _ (by omega), Option.bind_some]
  exact flood_l0 n cs hs vs s (matesX n cs hs vs s).length 4001 0 (by omega) (by omega)

end Go.Proofs.Ytdamdcdjodmemaa.Pure

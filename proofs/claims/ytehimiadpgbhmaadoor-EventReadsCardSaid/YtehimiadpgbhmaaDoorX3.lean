/-
  Fr: plain laws. Own work.
-/
import Derived.Test.YtehimiadpgbhmaaDoorX2
namespace Go.Proofs.YtehimiadpgbhmaaDoor
open Go.AM
set_option maxRecDepth 100000

theorem right_below {n : Nat} (hn : n ≤ 64) {R : Rl} (hR : R.n = (n : Int)) (h : Below' n R) : rightL R = R := by
  refine rightL_of _ ?_
  unfold checkI
  have hg : ∀ i, i < 64 → good R i = true := fun i hi => (good_iff R i (by omega)).2 fun b hb ⟨h1, h2⟩ => by have := h i b h1; omega
  rw [if_neg (by omega), if_pos hg]

open Classical in
/-- The pairs of from-reads that are found by row i, column j. -/
noncomputable def frP (n : Nat) (F O : Rl) (i j : Nat) : Rl := Rl.gen (n : Int) fun a b => decide (∃ z, (z < i ∨ (z = i ∧ a < j)) ∧ F.has z a = true ∧ O.has z b = true ∧ a ≠ b)
noncomputable def frL (n : Nat) (F O : Rl) : Rl := frP n F O n 0
theorem frP_n (n : Nat) (F O : Rl) (i j : Nat) : (frP n F O i j).n = (n : Int) := by unfold frP; exact Rl.n_gen _ _
theorem frP_has {n : Nat} {F O : Rl} {i j a b : Nat} (ha : a < 64) (hb : b < 64) : (frP n F O i j).has a b = true ↔ ∃ z, (z < i ∨ (z = i ∧ a < j)) ∧ F.has z a = true ∧ O.has z b = true ∧ a ≠ b := by
  unfold frP; rw [Rl.has_gen]; simp [ha, hb]
theorem frP_0 (n : Nat) (F O : Rl) : frP n F O 0 0 = Rl.void (n : Int) := by
  apply Rl.ext_has
  · rw [frP_n]; rfl
  · intro a b ha hb
    rw [Bool.eq_iff_iff, frP_has ha hb, Rl.has, Rl.row_void]
    simp
theorem frP_yes {n : Nat} {F O : Rl} {i j : Nat} (hj : j < 64) (h : F.has i j = true) : (frP n F O i j).setRow j ((frP n F O i j).row j ||| (O.row i &&& ~~~(1#64 <<< j))) = frP n F O i (j + 1) := by
  apply Rl.ext_has
  · rw [Rl.n_setRow, frP_n, frP_n]
  · intro a b ha hb
    rw [Bool.eq_iff_iff, frP_has ha hb, Rl.has_setRow]
    by_cases e : j = a
    · subst e
      rw [if_pos ⟨rfl, hj⟩, BitVec.getLsbD_or, Bool.or_eq_true, BitVec.getLsbD_and, Bool.and_eq_true, BitVec.getLsbD_not, one_shl_get _ _ hj]
      have e1 : ((frP n F O i j).row j).getLsbD b = (frP n F O i j).has j b := rfl
      have e2 : (O.row i).getLsbD b = O.has i b := rfl
      rw [e1, e2, frP_has ha hb]
      constructor
      · rintro (⟨z, h1, h2⟩ | ⟨h1, h2⟩)
        · exact ⟨z, by omega, h2⟩
        · refine ⟨i, .inr ⟨rfl, by omega⟩, h, h1, ?_⟩
          simp at h2; omega
      · rintro ⟨z, h1, h2, h3, h4⟩
        by_cases hz : z = i
        · subst hz
          right
          refine ⟨h3, ?_⟩
          simp [hb]; omega
        · left
          exact ⟨z, by omega, h2, h3, h4⟩
    · rw [if_neg (by omega)]
      rw [frP_has ha hb]
      constructor
      · rintro ⟨z, h1, h2⟩; exact ⟨z, by omega, h2⟩
      · rintro ⟨z, h1, h2⟩; exact ⟨z, by omega, h2⟩
theorem frP_no {n : Nat} {F O : Rl} {i j : Nat} (h : F.has i j = false) : frP n F O i j = frP n F O i (j + 1) := by
  apply Rl.ext_has
  · rw [frP_n, frP_n]
  · intro a b ha hb
    rw [Bool.eq_iff_iff, frP_has ha hb, frP_has ha hb]
    constructor
    · rintro ⟨z, h1, h2⟩; exact ⟨z, by omega, h2⟩
    · rintro ⟨z, h1, h2, h3⟩
      by_cases hz : z = i ∧ a = j
      · rw [hz.1, hz.2, h] at h2; cases h2
      · exact ⟨z, by omega, h2, h3⟩
theorem frP_row {n : Nat} {F O : Rl} {i : Nat} (hF : Below' n F) : frP n F O i n = frP n F O (i + 1) 0 := by
  apply Rl.ext_has
  · rw [frP_n, frP_n]
  · intro a b ha hb
    rw [Bool.eq_iff_iff, frP_has ha hb, frP_has ha hb]
    constructor
    · rintro ⟨z, h1, h2⟩; exact ⟨z, by omega, h2⟩
    · rintro ⟨z, h1, h2, h3⟩
      have := hF z a h2
      exact ⟨z, by omega, h2, h3⟩

theorem onL_has {n : Nat} (hn : n ≤ 64) (a b : Nat) (ha : a < 64) (hb : b < 64) : (onL (n : Int) 18446744073709551615#64).has a b = true ↔ a < n ∧ a = b := by
  unfold onL
  rw [if_neg (by omega), Rl.has, Rl.row_by, if_pos ha]
  have h1 : (18446744073709551615#64).getLsbD a = true := by
    rw [show (18446744073709551615#64) = BitVec.allOnes 64 from by decide, BitVec.getLsbD_allOnes, decide_eq_true ha]
  rw [h1]
  by_cases c : (a : Int) < n
  · rw [if_pos ⟨c, rfl⟩, one_shl_get _ _ ha]
    simp; omega
  · rw [if_neg (by omega), BitVec.getLsbD_zero]
    simp; omega
theorem onL_below {n : Nat} (hn : n ≤ 64) : Below' n (onL (n : Int) 18446744073709551615#64) := fun a b h => by
  have h2 := Rl.has_lt _ h
  have := (onL_has hn a b h2.1 h2.2).1 h
  omega

/-- What the code says is what is found. -/
theorem fr_eq {n : Nat} (hn : n ≤ 64) {F O : Rl} (hF : F.n = (n : Int)) (hFb : Below' n F) (hO : O.n = (n : Int)) (hOb : Below' n O) :
    opL (fun a b => a &&& ~~~b) (composeL (invF (rightL F).n (edgesL (rightL F))) O) (onL F.n 18446744073709551615#64) = frL n F O := by
  have hFr := right_below hn hF hFb
  have hOr := right_below hn hO hOb
  have hIh := inverse_has F
  have hIn : (invF (rightL F).n (edgesL (rightL F))).n = (n : Int) := by rw [invF_n, hFr, hF]
  rw [hFr] at hIh hIn ⊢
  generalize invF F.n (edgesL F) = I at hIh hIn
  have hIb : Below' n I := fun a b h => by rw [hIh] at h; have := hFb b a h; omega
  have hIr := right_below hn hIn hIb
  have hCh := compose_has I O
  have h2 : twoL I O = (I, O) := by unfold twoL; rw [hIr, hOr, if_pos (by rw [hIn, hO])]
  have hCn : (composeL I O).n = (n : Int) := by unfold composeL; rw [cmpF_n, h2]; exact hIn
  rw [h2] at hCh
  have hCb : Below' n (composeL I O) := fun a b h => by
    rw [hCh] at h
    obtain ⟨c, _, hc⟩ := List.any_eq_true.1 h
    have hc := Bool.and_eq_true_iff.1 hc
    exact ⟨(hIb _ _ hc.1).1, (hOb _ _ hc.2).2⟩
  have hCr := right_below hn hCn hCb
  generalize composeL I O = C at *
  have hNb := onL_below hn
  have hNn : (onL (n : Int) 18446744073709551615#64).n = (n : Int) := by unfold onL; rw [if_neg (by omega)]; exact Rl.n_by _ _
  have hNr := right_below hn hNn hNb
  have hNh := onL_has hn
  rw [hF, minus_eq]
  generalize onL (n : Int) 18446744073709551615#64 = N at *
  have h3 : twoL C N = (C, N) := by unfold twoL; rw [hCr, hNr, if_pos (by rw [hCn, hNn])]
  unfold twoR
  rw [h3]
  apply Rl.ext_has
  · rw [Rl.n_gen, frL, frP_n, hCn]
  · intro a b ha hb
    rw [Bool.eq_iff_iff, frL, frP_has ha hb, Rl.has_gen]
    simp only [decide_eq_true (show a < 64 ∧ b < 64 from ⟨ha, hb⟩), Bool.true_and, pTwo, Bool.and_eq_true, Bool.not_eq_true', hCh, List.any_eq_true, List.mem_range, hIh]
    constructor
    · rintro ⟨⟨c, hc, h4, h5⟩, h6⟩
      have h7 := hFb c a h4
      refine ⟨c, .inl h7.1, h4, h5, fun e => ?_⟩
      rw [(hNh a b ha hb).2 ⟨h7.2, e⟩] at h6
      cases h6
    · rintro ⟨c, h4, h5, h6, h7⟩
      have h8 := hFb c a h5
      refine ⟨⟨c, by omega, h5, h6⟩, ?_⟩
      cases hh : N.has a b with
      | false => rfl
      | true => exact absurd ((hNh a b ha hb).1 hh).2 h7
end Go.Proofs.YtehimiadpgbhmaaDoor

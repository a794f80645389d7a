/-
  Own work, merged: X3, X4, T10.
-/
import Derived.AtR
import Derived.Below
import Derived.ChangeKeysEq
import Derived.KernelRfl
import Derived.Laws.AppendOwn
import Derived.Laws.BytesString
import Derived.Laws.Cells
import Derived.Laws.CopyRow
import Derived.Laws.Entries
import Derived.Laws.Rows
import Derived.Laws.Small
import Derived.Laws.StructEq
import Derived.Lib.TrailingZeros
import Derived.Maps.AppendAt
import Derived.Orders
import Derived.RangeFuncRecord
import Derived.Test.YtehimiadpgbhmaaDoorProg
import Derived.Test.YtehimiadpgbhmaaDoorQ2FEE51
/-
  Fr: plain laws. Own work.
-/
namespace Go.Proofs.YtehimiadpgbhmaaDoor
open Go.AM
set_option maxRecDepth 100000

theorem right_below {n : Nat} (hn : n ≤ 64) {R : Rl} (hR : R.n = (n : Int)) (h : Below' n R) : rightL R = R := by
  refine rightL_of _ ?_
  unfold checkI
  have hg : ∀ i, i < 64 → good R i = true := fun i hi => (good_iff R i (by omega)).2 fun b hb ⟨h1, h2⟩ => by have := h i b h1; omega
  rw [if_neg (by omega), if_pos hg]

open Classical in
/-- The pairs of from-reads that are found by row i, column j. -/
noncomputable def frP (n : Nat) (F O : Rl) (i j : Nat) : Rl := Rl.gen (n : Int) fun a b => decide (∃ z, (z < i ∨ (z = i ∧ a < j)) ∧ F.has z a = true ∧ O.has z b = true ∧ a ≠ b)
noncomputable def frL (n : Nat) (F O : Rl) : Rl := frP n F O n 0
theorem frP_n (n : Nat) (F O : Rl) (i j : Nat) : (frP n F O i j).n = (n : Int) := by unfold frP; exact Rl.n_gen _ _
theorem frP_has {n : Nat} {F O : Rl} {i j a b : Nat} (ha : a < 64) (hb : b < 64) : (frP n F O i j).has a b = true ↔ ∃ z, (z < i ∨ (z = i ∧ a < j)) ∧ F.has z a = true ∧ O.has z b = true ∧ a ≠ b := by
  unfold frP; rw [Rl.has_gen]; simp [ha, hb]
theorem frP_0 (n : Nat) (F O : Rl) : frP n F O 0 0 = Rl.void (n : Int) := by
  apply Rl.ext_has
  · rw [frP_n]; rfl
  · intro a b ha hb
    rw [Bool.eq_iff_iff, frP_has ha hb, Rl.has, Rl.row_void]
    simp
theorem frP_yes {n : Nat} {F O : Rl} {i j : Nat} (hj : j < 64) (h : F.has i j = true) : (frP n F O i j).setRow j ((frP n F O i j).row j ||| (O.row i &&& ~~~(1#64 <<< j))) = frP n F O i (j + 1) := by
  apply Rl.ext_has
  · rw [Rl.n_setRow, frP_n, frP_n]
  · intro a b ha hb
    rw [Bool.eq_iff_iff, frP_has ha hb, Rl.has_setRow]
    by_cases e : j = a
    · subst e
      rw [if_pos ⟨rfl, hj⟩, BitVec.getLsbD_or, Bool.or_eq_true, BitVec.getLsbD_and, Bool.and_eq_true, BitVec.getLsbD_not, one_shl_get _ _ hj]
      have e1 : ((frP n F O i j).row j).getLsbD b = (frP n F O i j).has j b := rfl
      have e2 : (O.row i).getLsbD b = O.has i b := rfl
      rw [e1, e2, frP_has ha hb]
      constructor
      · rintro (⟨z, h1, h2⟩ | ⟨h1, h2⟩)
        · exact ⟨z, by omega, h2⟩
        · refine ⟨i, .inr ⟨rfl, by omega⟩, h, h1, ?_⟩
          simp at h2; omega
      · rintro ⟨z, h1, h2, h3, h4⟩
        by_cases hz : z = i
        · subst hz
          right
          refine ⟨h3, ?_⟩
          simp [hb]; omega
        · left
          exact ⟨z, by omega, h2, h3, h4⟩
    · rw [if_neg (by omega)]
      rw [frP_has ha hb]
      constructor
      · rintro ⟨z, h1, h2⟩; exact ⟨z, by omega, h2⟩
      · rintro ⟨z, h1, h2⟩; exact ⟨z, by omega, h2⟩
theorem frP_no {n : Nat} {F O : Rl} {i j : Nat} (h : F.has i j = false) : frP n F O i j = frP n F O i (j + 1) := by
  apply Rl.ext_has
  · rw [frP_n, frP_n]
  · intro a b ha hb
    rw [Bool.eq_iff_iff, frP_has ha hb, frP_has ha hb]
    constructor
    · rintro ⟨z, h1, h2⟩; exact ⟨z, by omega, h2⟩
    · rintro ⟨z, h1, h2, h3⟩
      by_cases hz : z = i ∧ a = j
      · rw [hz.1, hz.2, h] at h2; cases h2
      · exact ⟨z, by omega, h2, h3⟩
theorem frP_row {n : Nat} {F O : Rl} {i : Nat} (hF : Below' n F) : frP n F O i n = frP n F O (i + 1) 0 := by
  apply Rl.ext_has
  · rw [frP_n, frP_n]
  · intro a b ha hb
    rw [Bool.eq_iff_iff, frP_has ha hb, frP_has ha hb]
    constructor
    · rintro ⟨z, h1, h2⟩; exact ⟨z, by omega, h2⟩
    · rintro ⟨z, h1, h2, h3⟩
      have := hF z a h2
      exact ⟨z, by omega, h2, h3⟩

theorem onL_has {n : Nat} (hn : n ≤ 64) (a b : Nat) (ha : a < 64) (hb : b < 64) : (onL (n : Int) 18446744073709551615#64).has a b = true ↔ a < n ∧ a = b := by
  unfold onL
  rw [if_neg (by omega), Rl.has, Rl.row_by, if_pos ha]
  have h1 : (18446744073709551615#64).getLsbD a = true := by
    rw [show (18446744073709551615#64) = BitVec.allOnes 64 from by decide, BitVec.getLsbD_allOnes, decide_eq_true ha]
  rw [h1]
  by_cases c : (a : Int) < n
  · rw [if_pos ⟨c, rfl⟩, one_shl_get _ _ ha]
    simp; omega
  · rw [if_neg (by omega), BitVec.getLsbD_zero]
    simp; omega
theorem onL_below {n : Nat} (hn : n ≤ 64) : Below' n (onL (n : Int) 18446744073709551615#64) := fun a b h => by
  have h2 := Rl.has_lt _ h
  have := (onL_has hn a b h2.1 h2.2).1 h
  omega

/-- What the code says is what is found. -/
theorem fr_eq {n : Nat} (hn : n ≤ 64) {F O : Rl} (hF : F.n = (n : Int)) (hFb : Below' n F) (hO : O.n = (n : Int)) (hOb : Below' n O) :
    opL (fun a b => a &&& ~~~b) (composeL (invF (rightL F).n (edgesL (rightL F))) O) (onL F.n 18446744073709551615#64) = frL n F O := by
  have hFr := right_below hn hF hFb
  have hOr := right_below hn hO hOb
  have hIh := inverse_has F
  have hIn : (invF (rightL F).n (edgesL (rightL F))).n = (n : Int) := by rw [invF_n, hFr, hF]
  rw [hFr] at hIh hIn ⊢
  generalize invF F.n (edgesL F) = I at hIh hIn
  have hIb : Below' n I := fun a b h => by rw [hIh] at h; have := hFb b a h; omega
  have hIr := right_below hn hIn hIb
  have hCh := compose_has I O
  have h2 : twoL I O = (I, O) := by unfold twoL; rw [hIr, hOr, if_pos (by rw [hIn, hO])]
  have hCn : (composeL I O).n = (n : Int) := by unfold composeL; rw [cmpF_n, h2]; exact hIn
  rw [h2] at hCh
  have hCb : Below' n (composeL I O) := fun a b h => by
    rw [hCh] at h
    obtain ⟨c, _, hc⟩ := List.any_eq_true.1 h
    have hc := Bool.and_eq_true_iff.1 hc
    exact ⟨(hIb _ _ hc.1).1, (hOb _ _ hc.2).2⟩
  have hCr := right_below hn hCn hCb
  generalize composeL I O = C at *
  have hNb := onL_below hn
  have hNn : (onL (n : Int) 18446744073709551615#64).n = (n : Int) := by unfold onL; rw [if_neg (by omega)]; exact Rl.n_by _ _
  have hNr := right_below hn hNn hNb
  have hNh := onL_has hn
  rw [hF, minus_eq]
  generalize onL (n : Int) 18446744073709551615#64 = N at *
  have h3 : twoL C N = (C, N) := by unfold twoL; rw [hCr, hNr, if_pos (by rw [hCn, hNn])]
  unfold twoR
  rw [h3]
  apply Rl.ext_has
  · rw [Rl.n_gen, frL, frP_n, hCn]
  · intro a b ha hb
    rw [Bool.eq_iff_iff, frL, frP_has ha hb, Rl.has_gen]
    simp only [decide_eq_true (show a < 64 ∧ b < 64 from ⟨ha, hb⟩), Bool.true_and, pTwo, Bool.and_eq_true, Bool.not_eq_true', hCh, List.any_eq_true, List.mem_range, hIh]
    constructor
    · rintro ⟨⟨c, hc, h4, h5⟩, h6⟩
      have h7 := hFb c a h4
      refine ⟨c, .inl h7.1, h4, h5, fun e => ?_⟩
      rw [(hNh a b ha hb).2 ⟨h7.2, e⟩] at h6
      cases h6
    · rintro ⟨c, h4, h5, h6, h7⟩
      have h8 := hFb c a h5
      refine ⟨⟨c, by omega, h5, h6⟩, ?_⟩
      cases hh : N.has a b with
      | false => rfl
      | true => exact absurd ((hNh a b ha hb).1 hh).2 h7
end Go.Proofs.YtehimiadpgbhmaaDoor

/-
  Fr, here and in the reference; EventReads. Own work; the orders of the reference's drawn region printed by a program of our own.
-/
namespace Go.Proofs.YtehimiadpgbhmaaDoor
open Go.AM
set_option maxRecDepth 100000

theorem fr_ok (x : Xn) (w : World) (hX : SeesX w x) (hT : TabAt w) (h0 : 0 < w.heap.size) :
    Gives Tryd.prog 10 [encX x] w (encRel (frL (shortL x.ev).length (rfL (shortL x.ev).length x.from_) (coL (shortL x.ev).length x.ord))) := by
  refine Gives.of_run Tryd.func10 rfl (by show 1 ≤ 15; decide) ?_
  have hone := xV_one hX.one1 hX.one4
  have hle := shortL_le x.ev
  have hrf := fun w' (hA : Agree (fun _ => False) w w') => rf_ok x w' (hX.agree hA)
  have hco := fun w' (hA : Agree (fun _ => False) w w') => co_ok x w' (hX.agree hA)
  have heq := fr_eq hle (F := rfL (shortL x.ev).length x.from_) (O := coL (shortL x.ev).length x.ord) (by unfold rfL; exact rfP_n _ _ _) (rfL_below _) (coL_n _ _ _) (coL_below hle _ _ (void_below _ _))
  rw [← heq]
  clear heq
  generalize rfL (shortL x.ev).length x.from_ = F at *
  generalize coL (shortL x.ev).length x.ord = O at *
  have k1 : ∀ w', Agree (fun _ => False) w w' → Gives Tryd.prog 27 [encRel F] w' (encRel (invF (rightL F).n (edgesL (rightL F)))) := fun w' hA => inverse_ok F w' (hT.agree hA (fun f => f)) (Nat.lt_of_lt_of_le h0 hA.size)
  generalize invF (rightL F).n (edgesL (rightL F)) = I at *
  have k2 : ∀ w', Agree (fun _ => False) w w' → Gives Tryd.prog 26 [encRel I, encRel O] w' (encRel (composeL I O)) := fun w' hA => compose_ok I O w' (hT.agree hA (fun f => f)) (Nat.lt_of_lt_of_le h0 hA.size)
  generalize composeL I O = C at *
  have k3 : ∀ w', Gives Tryd.prog 28 [.int .i64 F.n, .int .u64 18446744073709551615] w' (encRel (onL F.n 18446744073709551615#64)) := fun w' => by
    have h := on_ok F.n 18446744073709551615#64 w'
    rw [show un 18446744073709551615#64 = 18446744073709551615 from by decide] at h
    exact h
  generalize onL F.n 18446744073709551615#64 = N at *
  have k4 : ∀ w', Gives Tryd.prog 25 [encRel C, encRel N] w' (encRel (opL (fun a b => a &&& ~~~b) C N)) := fun w' => minus_ok C N w'
  generalize opL (fun a b => a &&& ~~~b) C N = Y at *
  refine RunF_sound tab_ok noX_local 200 [] _ _ rfl ?_ ?_
  · simp
  refine Run.callFn (r := encRel F) noX_local rfl rfl rfl rfl rfl rfl rfl rf_enters rfl (fun w' hA => hrf w' hA) ?_
  refine RunF_sound tab_ok noX_local 200 [] _ _ rfl ?_ ?_
  · simp [segsVals, relV_one']
  refine Run.drawA noX_local rfl [] [(0, .cells 28 [.vals 5 (xV x)]), (2, .cells 32 [.vals 65 (relV F)])] rfl rfl ⟨rfl, by simp [splice, lk], trivial⟩ ?_
  refine RunOF_sound tab_ok noX_local rfl rfl 200 [] _ _ rfl ?_ ?_
  · simp
  refine RunO.callFn (r := encRel I) noX_local rfl rfl rfl rfl rfl rfl rfl rfl inverse_enters rfl (fun w' hA => k1 w' hA) ?_
  refine RunOF_sound tab_ok noX_local rfl rfl 200 [] _ _ rfl ?_ ?_
  · simp
  refine RunO.callFn (r := encRel O) noX_local rfl rfl rfl rfl rfl rfl rfl rfl co_enters rfl (fun w' hA => hco w' hA) ?_
  refine RunOF_sound tab_ok noX_local rfl rfl 200 [] _ _ rfl ?_ ?_
  · simp
  refine RunO.callFn (r := encRel C) noX_local rfl rfl rfl rfl rfl rfl rfl rfl compose_enters rfl (fun w' hA => k2 w' hA) ?_
  refine RunOF_sound tab_ok noX_local rfl rfl 200 [] _ _ rfl ?_ ?_
  · simp
  refine RunO.callFn (r := encRel N) noX_local rfl rfl rfl rfl rfl rfl rfl rfl on_enters rfl (fun w' _ => k3 w') ?_
  refine RunOF_sound tab_ok noX_local rfl rfl 200 [] _ _ rfl ?_ ?_
  · simp
  refine RunO.callFn (r := encRel Y) noX_local rfl rfl rfl rfl rfl rfl rfl rfl minus_enters rfl (fun w' _ => k4 w') ?_
  refine RunOF_sound tab_ok noX_local rfl rfl 200 [] _ _ rfl ?_ ?_
  · simp [segsVals, relV_one', inT, lk]
  refine RunO.done ?_
  refine RunF_sound tab_ok noX_local 100 [] _ _ rfl ?_ ?_
  · simp
  refine Run.retP tab_ok Tryd.func10 rfl ?_ (fun M => ?_)
  · simp
  rfl
theorem fr_enters : Enters Tryd.prog 10 := enters_mk Tryd.func10 (by decide) rfl

theorem frR_ok (x : Xn) (w : World) (hX : SeesX w x) :
    Gives Tryd.prog 11 [encX x] w (encRel (frL (shortL x.ev).length (rfL (shortL x.ev).length x.from_) (coL (shortL x.ev).length x.ord))) := by
  refine Gives.of_run Tryd.func11 rfl (by show 1 ≤ 53; decide) ?_
  have hone := xV_one hX.one1 hX.one4
  have hle := shortL_le x.ev
  have hrf := fun w' (hA : Agree (fun _ => False) w w') => rfR_ok x w' (hX.agree hA)
  have hco := fun w' (hA : Agree (fun _ => False) w w') => coR_ok x w' (hX.agree hA)
  have hFn : (rfL (shortL x.ev).length x.from_).n = ((shortL x.ev).length : Int) := by unfold rfL; exact rfP_n _ _ _
  have hFb := rfL_below (n := (shortL x.ev).length) x.from_
  have hOn : (coL (shortL x.ev).length x.ord).n = ((shortL x.ev).length : Int) := coL_n _ _ _
  generalize rfL (shortL x.ev).length x.from_ = F at *
  generalize coL (shortL x.ev).length x.ord = O at *
  generalize (shortL x.ev).length = n at *
  obtain ⟨Z, hZ⟩ : ∃ Z, Z = frL n F O := ⟨_, rfl⟩
  rw [← hZ]
  refine RunF_sound tab_ok noX_local 200 [] _ _ rfl ?_ ?_
  · simp
  refine' Run.join (todo' := _) [(2, .ptr 1 0), (3, .ptr 2 0), (4, .ptr 3 0)] [(1, .cells 32 [.vals 65 (relV (Rl.void 0))]), (2, .cells 32 [.vals 65 (relV F)]), (3, .cells 32 [.vals 65 (relV O)])] 4 ?_ ?_
  rotate_left
  · intro J
    have J2 : ∀ σ, inT σ.t [(2, .ptr 1 0), (3, .ptr 3 0), (4, .ptr 2 0)] → inT σ.h [(1, .cells 32 [.vals 65 (relV (Rl.void 0))]), (3, .cells 32 [.vals 65 (relV F)]), (2, .cells 32 [.vals 65 (relV O)])] → Run _ _ σ := fun σ ht hh =>
      Run.toR [(2, 3), (3, 2)] (t' := [(2, .ptr 1 0), (3, .ptr 2 0), (4, .ptr 3 0)]) (h' := [(1, .cells 32 [.vals 65 (relV (Rl.void 0))]), (2, .cells 32 [.vals 65 (relV F)]), (3, .cells 32 [.vals 65 (relV O)])]) (n' := 4)
        (J _ ⟨⟨_, rfl, fun M => rfl⟩, ⟨_, rfl, fun M => rfl⟩, ⟨_, rfl, fun M => rfl⟩, trivial⟩ ⟨rfl, rfl, rfl, trivial⟩) ⟨ht.1, ht.2.1, ht.2.2.1, trivial⟩ ⟨hh.1, hh.2.1, hh.2.2.1, trivial⟩ rfl
    refine Run.drawOrd noX_local rfl [(0, .cells 28 [.vals 5 (xV x)])] ⟨rfl, trivial⟩ fun l hl => ?_
    have h := hl
    rcases ord_fork' 4 5 rfl h with h | h
    · rcases ord_fork' 1 4 rfl h with h | h
      · rcases ord_fork' 3 4 rfl h with h | h
        · refine draw_leaf [] (LikeS.add 3 4 (LikeS.add 1 4 (LikeS.add 4 5 (LikeS.refl _)))) h rfl rfl ?_
          refine RunOF_sound tab_ok noX_local rfl rfl 200 [] _ _ rfl ?_ ?_
          · simp
          refine RunO.callFn (r := encRel F) noX_local rfl rfl rfl rfl rfl rfl rfl rfl rfR_enters rfl (fun w' hA => hrf w' hA) ?_
          refine RunOF_sound tab_ok noX_local rfl rfl 200 [] _ _ rfl ?_ ?_
          · simp
          refine RunO.callFn (r := encRel O) noX_local rfl rfl rfl rfl rfl rfl rfl rfl coR_enters rfl (fun w' hA => hco w' hA) ?_
          refine RunOF_sound tab_ok noX_local rfl rfl 200 [] _ _ rfl ?_ ?_
          · simp [inT, lk, segsVals, relV_one']
          refine RunO.done ?_
          refine J _ ?_ ?_
          · exact ⟨⟨_, rfl, fun M => rfl⟩, ⟨_, rfl, fun M => rfl⟩, ⟨_, rfl, fun M => rfl⟩, trivial⟩
          · refine ⟨?_, ?_, ?_, trivial⟩ <;> simp [lk]
        · rcases ord_fork' 3 5 rfl h with h | h
          · refine draw_leaf [] (LikeS.add 3 5 (LikeS.add 4 3 (LikeS.add 1 4 (LikeS.add 4 5 (LikeS.refl _))))) h rfl rfl ?_
            refine RunOF_sound tab_ok noX_local rfl rfl 200 [] _ _ rfl ?_ ?_
            · simp
            refine RunO.callFn (r := encRel F) noX_local rfl rfl rfl rfl rfl rfl rfl rfl rfR_enters rfl (fun w' hA => hrf w' hA) ?_
            refine RunOF_sound tab_ok noX_local rfl rfl 200 [] _ _ rfl ?_ ?_
            · simp [inT, lk]
            refine RunO.callFn (r := encRel O) noX_local rfl rfl rfl rfl rfl rfl rfl rfl coR_enters rfl (fun w' hA => hco w' hA) ?_
            refine RunOF_sound tab_ok noX_local rfl rfl 200 [] _ _ rfl ?_ ?_
            · simp [inT, lk, segsVals, relV_one']
            refine RunO.done ?_
            refine J _ ?_ ?_
            · exact ⟨⟨_, rfl, fun M => rfl⟩, ⟨_, rfl, fun M => rfl⟩, ⟨_, rfl, fun M => rfl⟩, trivial⟩
            · refine ⟨?_, ?_, ?_, trivial⟩ <;> simp [lk]
          · refine draw_leaf [] (LikeS.add 5 3 (LikeS.add 4 3 (LikeS.add 1 4 (LikeS.add 4 5 (LikeS.refl _))))) h rfl rfl ?_
            refine RunOF_sound tab_ok noX_local rfl rfl 200 [] _ _ rfl ?_ ?_
            · simp
            refine RunO.callFn (r := encRel F) noX_local rfl rfl rfl rfl rfl rfl rfl rfl rfR_enters rfl (fun w' hA => hrf w' hA) ?_
            refine RunOF_sound tab_ok noX_local rfl rfl 200 [] _ _ rfl ?_ ?_
            · simp [inT, lk]
            refine RunO.callFn (r := encRel O) noX_local rfl rfl rfl rfl rfl rfl rfl rfl coR_enters rfl (fun w' hA => hco w' hA) ?_
            refine RunOF_sound tab_ok noX_local rfl rfl 200 [] _ _ rfl ?_ ?_
            · simp [inT, lk, segsVals, relV_one']
            refine RunO.done ?_
            refine J _ ?_ ?_
            · exact ⟨⟨_, rfl, fun M => rfl⟩, ⟨_, rfl, fun M => rfl⟩, ⟨_, rfl, fun M => rfl⟩, trivial⟩
            · refine ⟨?_, ?_, ?_, trivial⟩ <;> simp [lk]
      · rcases ord_fork' 1 5 rfl h with h | h
        · rcases ord_fork' 3 5 rfl h with h | h
          · refine draw_leaf [] (LikeS.add 3 5 (LikeS.add 1 5 (LikeS.add 4 1 (LikeS.add 4 5 (LikeS.refl _))))) h rfl rfl ?_
            refine RunOF_sound tab_ok noX_local rfl rfl 200 [] _ _ rfl ?_ ?_
            · simp [inT, lk]
            refine RunO.callFn (r := encRel F) noX_local rfl rfl rfl rfl rfl rfl rfl rfl rfR_enters rfl (fun w' hA => hrf w' hA) ?_
            refine RunOF_sound tab_ok noX_local rfl rfl 200 [] _ _ rfl ?_ ?_
            · simp
            refine RunO.callFn (r := encRel O) noX_local rfl rfl rfl rfl rfl rfl rfl rfl coR_enters rfl (fun w' hA => hco w' hA) ?_
            refine RunOF_sound tab_ok noX_local rfl rfl 200 [] _ _ rfl ?_ ?_
            · simp [inT, lk, segsVals, relV_one']
            refine RunO.done ?_
            refine J _ ?_ ?_
            · exact ⟨⟨_, rfl, fun M => rfl⟩, ⟨_, rfl, fun M => rfl⟩, ⟨_, rfl, fun M => rfl⟩, trivial⟩
            · refine ⟨?_, ?_, ?_, trivial⟩ <;> simp [lk]
          · refine draw_leaf [] (LikeS.add 5 3 (LikeS.add 1 5 (LikeS.add 4 1 (LikeS.add 4 5 (LikeS.refl _))))) h rfl rfl ?_
            refine RunOF_sound tab_ok noX_local rfl rfl 200 [] _ _ rfl ?_ ?_
            · simp [inT, lk]
            refine RunO.callFn (r := encRel F) noX_local rfl rfl rfl rfl rfl rfl rfl rfl rfR_enters rfl (fun w' hA => hrf w' hA) ?_
            refine RunOF_sound tab_ok noX_local rfl rfl 200 [] _ _ rfl ?_ ?_
            · simp [inT, lk]
            refine RunO.callFn (r := encRel O) noX_local rfl rfl rfl rfl rfl rfl rfl rfl coR_enters rfl (fun w' hA => hco w' hA) ?_
            refine RunOF_sound tab_ok noX_local rfl rfl 200 [] _ _ rfl ?_ ?_
            · simp [inT, lk, segsVals, relV_one']
            refine RunO.done ?_
            refine J _ ?_ ?_
            · exact ⟨⟨_, rfl, fun M => rfl⟩, ⟨_, rfl, fun M => rfl⟩, ⟨_, rfl, fun M => rfl⟩, trivial⟩
            · refine ⟨?_, ?_, ?_, trivial⟩ <;> simp [lk]
        · refine draw_leaf [] (LikeS.add 5 1 (LikeS.add 4 1 (LikeS.add 4 5 (LikeS.refl _)))) h rfl rfl ?_
          refine RunOF_sound tab_ok noX_local rfl rfl 200 [] _ _ rfl ?_ ?_
          · simp [inT, lk]
          refine RunO.callFn (r := encRel F) noX_local rfl rfl rfl rfl rfl rfl rfl rfl rfR_enters rfl (fun w' hA => hrf w' hA) ?_
          refine RunOF_sound tab_ok noX_local rfl rfl 200 [] _ _ rfl ?_ ?_
          · simp
          refine RunO.callFn (r := encRel O) noX_local rfl rfl rfl rfl rfl rfl rfl rfl coR_enters rfl (fun w' hA => hco w' hA) ?_
          refine RunOF_sound tab_ok noX_local rfl rfl 200 [] _ _ rfl ?_ ?_
          · simp [inT, lk, segsVals, relV_one']
          refine RunO.done ?_
          refine J _ ?_ ?_
          · exact ⟨⟨_, rfl, fun M => rfl⟩, ⟨_, rfl, fun M => rfl⟩, ⟨_, rfl, fun M => rfl⟩, trivial⟩
          · refine ⟨?_, ?_, ?_, trivial⟩ <;> simp [lk]
    · rcases ord_fork' 1 5 rfl h with h | h
      · rcases ord_fork' 3 5 rfl h with h | h
        · refine draw_leaf [] (LikeS.add 3 5 (LikeS.add 1 5 (LikeS.add 5 4 (LikeS.refl _)))) h rfl rfl ?_
          refine RunOF_sound tab_ok noX_local rfl rfl 200 [] _ _ rfl ?_ ?_
          · simp
          refine RunO.callFn (r := encRel F) noX_local rfl rfl rfl rfl rfl rfl rfl rfl rfR_enters rfl (fun w' hA => hrf w' hA) ?_
          refine RunOF_sound tab_ok noX_local rfl rfl 200 [] _ _ rfl ?_ ?_
          · simp
          refine RunO.callFn (r := encRel O) noX_local rfl rfl rfl rfl rfl rfl rfl rfl coR_enters rfl (fun w' hA => hco w' hA) ?_
          refine RunOF_sound tab_ok noX_local rfl rfl 200 [] _ _ rfl ?_ ?_
          · simp [inT, lk, segsVals, relV_one']
          refine RunO.done ?_
          refine J2 _ ?_ ?_
          · exact ⟨rfl, rfl, rfl, trivial⟩
          · refine ⟨?_, ?_, ?_, trivial⟩ <;> simp [lk]
        · rcases ord_fork' 3 4 rfl h with h | h
          · refine draw_leaf [] (LikeS.add 3 4 (LikeS.add 5 3 (LikeS.add 1 5 (LikeS.add 5 4 (LikeS.refl _))))) h rfl rfl ?_
            refine RunOF_sound tab_ok noX_local rfl rfl 200 [] _ _ rfl ?_ ?_
            · simp
            refine RunO.callFn (r := encRel F) noX_local rfl rfl rfl rfl rfl rfl rfl rfl rfR_enters rfl (fun w' hA => hrf w' hA) ?_
            refine RunOF_sound tab_ok noX_local rfl rfl 200 [] _ _ rfl ?_ ?_
            · simp [inT, lk]
            refine RunO.callFn (r := encRel O) noX_local rfl rfl rfl rfl rfl rfl rfl rfl coR_enters rfl (fun w' hA => hco w' hA) ?_
            refine RunOF_sound tab_ok noX_local rfl rfl 200 [] _ _ rfl ?_ ?_
            · simp [inT, lk, segsVals, relV_one']
            refine RunO.done ?_
            refine J2 _ ?_ ?_
            · exact ⟨rfl, rfl, rfl, trivial⟩
            · refine ⟨?_, ?_, ?_, trivial⟩ <;> simp [lk]
          · refine draw_leaf [] (LikeS.add 4 3 (LikeS.add 5 3 (LikeS.add 1 5 (LikeS.add 5 4 (LikeS.refl _))))) h rfl rfl ?_
            refine RunOF_sound tab_ok noX_local rfl rfl 200 [] _ _ rfl ?_ ?_
            · simp
            refine RunO.callFn (r := encRel F) noX_local rfl rfl rfl rfl rfl rfl rfl rfl rfR_enters rfl (fun w' hA => hrf w' hA) ?_
            refine RunOF_sound tab_ok noX_local rfl rfl 200 [] _ _ rfl ?_ ?_
            · simp [inT, lk]
            refine RunO.callFn (r := encRel O) noX_local rfl rfl rfl rfl rfl rfl rfl rfl coR_enters rfl (fun w' hA => hco w' hA) ?_
            refine RunOF_sound tab_ok noX_local rfl rfl 200 [] _ _ rfl ?_ ?_
            · simp [inT, lk, segsVals, relV_one']
            refine RunO.done ?_
            refine J2 _ ?_ ?_
            · exact ⟨rfl, rfl, rfl, trivial⟩
            · refine ⟨?_, ?_, ?_, trivial⟩ <;> simp [lk]
      · rcases ord_fork' 1 4 rfl h with h | h
        · rcases ord_fork' 3 4 rfl h with h | h
          · refine draw_leaf [] (LikeS.add 3 4 (LikeS.add 1 4 (LikeS.add 5 1 (LikeS.add 5 4 (LikeS.refl _))))) h rfl rfl ?_
            refine RunOF_sound tab_ok noX_local rfl rfl 200 [] _ _ rfl ?_ ?_
            · simp [inT, lk]
            refine RunO.callFn (r := encRel F) noX_local rfl rfl rfl rfl rfl rfl rfl rfl rfR_enters rfl (fun w' hA => hrf w' hA) ?_
            refine RunOF_sound tab_ok noX_local rfl rfl 200 [] _ _ rfl ?_ ?_
            · simp
            refine RunO.callFn (r := encRel O) noX_local rfl rfl rfl rfl rfl rfl rfl rfl coR_enters rfl (fun w' hA => hco w' hA) ?_
            refine RunOF_sound tab_ok noX_local rfl rfl 200 [] _ _ rfl ?_ ?_
            · simp [inT, lk, segsVals, relV_one']
            refine RunO.done ?_
            refine J2 _ ?_ ?_
            · exact ⟨rfl, rfl, rfl, trivial⟩
            · refine ⟨?_, ?_, ?_, trivial⟩ <;> simp [lk]
          · refine draw_leaf [] (LikeS.add 4 3 (LikeS.add 1 4 (LikeS.add 5 1 (LikeS.add 5 4 (LikeS.refl _))))) h rfl rfl ?_
            refine RunOF_sound tab_ok noX_local rfl rfl 200 [] _ _ rfl ?_ ?_
            · simp [inT, lk]
            refine RunO.callFn (r := encRel F) noX_local rfl rfl rfl rfl rfl rfl rfl rfl rfR_enters rfl (fun w' hA => hrf w' hA) ?_
            refine RunOF_sound tab_ok noX_local rfl rfl 200 [] _ _ rfl ?_ ?_
            · simp [inT, lk]
            refine RunO.callFn (r := encRel O) noX_local rfl rfl rfl rfl rfl rfl rfl rfl coR_enters rfl (fun w' hA => hco w' hA) ?_
            refine RunOF_sound tab_ok noX_local rfl rfl 200 [] _ _ rfl ?_ ?_
            · simp [inT, lk, segsVals, relV_one']
            refine RunO.done ?_
            refine J2 _ ?_ ?_
            · exact ⟨rfl, rfl, rfl, trivial⟩
            · refine ⟨?_, ?_, ?_, trivial⟩ <;> simp [lk]
        · refine draw_leaf [] (LikeS.add 4 1 (LikeS.add 5 1 (LikeS.add 5 4 (LikeS.refl _)))) h rfl rfl ?_
          refine RunOF_sound tab_ok noX_local rfl rfl 200 [] _ _ rfl ?_ ?_
          · simp [inT, lk]
          refine RunO.callFn (r := encRel F) noX_local rfl rfl rfl rfl rfl rfl rfl rfl rfR_enters rfl (fun w' hA => hrf w' hA) ?_
          refine RunOF_sound tab_ok noX_local rfl rfl 200 [] _ _ rfl ?_ ?_
          · simp
          refine RunO.callFn (r := encRel O) noX_local rfl rfl rfl rfl rfl rfl rfl rfl coR_enters rfl (fun w' hA => hco w' hA) ?_
          refine RunOF_sound tab_ok noX_local rfl rfl 200 [] _ _ rfl ?_ ?_
          · simp [inT, lk, segsVals, relV_one']
          refine RunO.done ?_
          refine J2 _ ?_ ?_
          · exact ⟨rfl, rfl, rfl, trivial⟩
          · refine ⟨?_, ?_, ?_, trivial⟩ <;> simp [lk]
  refine RunF_sound tab_ok noX_local 200 [] _ _ rfl ?_ ?_
  · simp [fillL, Value.cells, segsVals, relV_tail_one, splice]
    try rfl
  suffices H : ∀ (d i : Nat), i + d = n → ∀ σ, inT σ.t [(2, .ptr 1 0), (3, .ptr 2 0), (4, .ptr 3 0), (5, .ptr 4 0), (6, .v (.int .i64 (i : Int)))] →
      inT σ.h [(1, .cells 32 [.vals 65 (relV (Rl.void 0))]), (2, .cells 32 [.vals 65 (relV F)]), (3, .cells 32 [.vals 65 (relV O)]), (4, .cells 32 [.vals 65 (relV (frP n F O i 0))])] → Run _ _ σ by
    refine H n 0 (by omega) _ ⟨rfl, rfl, rfl, rfl, rfl, trivial⟩ ⟨rfl, rfl, rfl, ?_, trivial⟩
    rw [frP_0, ← hFn]; rfl
  intro d
  induction d with
  | zero =>
    intro i hi σ ht hh
    refine Run.to ?_ ht hh (n' := 5)
    refine RunF_sound tab_ok noX_local 100 [false] _ _ rfl ?_ ?_
    · simp [relV_one', segsVals, hFn]; omega
    refine Run.retP tab_ok Tryd.func11 rfl ?_ (fun M => ?_)
    · simp
    rw [hZ, frL, show n = i by omega]; rfl
  | succ d ih =>
    intro i hi σ ht hh
    refine Run.to ?_ ht hh (n' := 5)
    have hi' : i < 64 := by omega
    refine RunF_sound tab_ok noX_local 100 [true] _ _ rfl ?_ ?_
    · simp [hFn]; omega
    suffices H2 : ∀ (e j : Nat), j + e = n → ∀ σ, inT σ.t [(2, .ptr 1 0), (3, .ptr 2 0), (4, .ptr 3 0), (5, .ptr 4 0), (6, .v (.int .i64 (i : Int))), (7, .v (.int .i64 (j : Int)))] →
        inT σ.h [(1, .cells 32 [.vals 65 (relV (Rl.void 0))]), (2, .cells 32 [.vals 65 (relV F)]), (3, .cells 32 [.vals 65 (relV O)]), (4, .cells 32 [.vals 65 (relV (frP n F O i j))])] → Run _ _ σ by
      exact H2 n 0 (by omega) _ ⟨rfl, rfl, rfl, rfl, rfl, rfl, trivial⟩ ⟨rfl, rfl, rfl, rfl, trivial⟩
    intro e
    induction e with
    | zero =>
      intro j hj σ ht hh
      refine Run.to ?_ ht hh (n' := 5)
      refine RunF_sound tab_ok noX_local 100 [false] _ _ rfl ?_ ?_
      · simp [hFn]; omega
      refine ih (i + 1) (by omega) _ ⟨rfl, rfl, rfl, rfl, i64_eq (wrap_succ (by omega)), trivial⟩ ⟨rfl, rfl, rfl, ?_, trivial⟩
      rw [← frP_row hFb, show j = n by omega]; rfl
    | succ e ihe =>
      intro j hj σ ht hh
      refine Run.to ?_ ht hh (n' := 5)
      have hj' : j < 64 := by omega
      have hbit := bit1 (F.row i) j
      by_cases c : (F.row i).getLsbD j = true
      · refine RunF_sound tab_ok noX_local 200 [true, true] _ _ rfl ?_ ?_
        · simp [hFn, wrapn j (by omega), relV_get _ _ hi', intAt_row _ _ hi', hbit, c]; omega
        refine Run.drawA noX_local rfl [] [(3, .cells 32 [.vals 65 (relV O)]), (4, .cells 32 [.vals 65 (relV (frP n F O i j))])] rfl rfl ⟨rfl, rfl, trivial⟩ ?_
        have e1 : intAt (relV (frP n F O i j)) (1 + j) = un ((frP n F O i j).row j) := intAt_row _ _ hj'
        have e2 : intAt (relV O) (1 + i) = un (O.row i) := intAt_row _ _ hi'
        refine RunOF_sound tab_ok noX_local rfl rfl 16 [] _ _ rfl ?_ ?_
        · simp [wrapn j (by omega), relV_get _ _ hj', relV_get _ _ hi', e1, e2]; omega
        refine RunO.effLast tab_ok noX_local rfl rfl rfl rfl ?_ (fun e => by cases e) rfl ?_
        · simp [okCell, Value.oneCell']; omega
        refine RunF_sound tab_ok noX_local 100 [] _ _ rfl ?_ ?_
        · simp
        refine ihe (j + 1) (by omega) _ ⟨rfl, rfl, rfl, rfl, rfl, i64_eq (wrap_succ (by omega)), trivial⟩ ⟨rfl, rfl, rfl, congrArg (fun l => some (Blk.cells 32 [.vals 65 l])) ?_, trivial⟩
        simp [e1, e2, wrapn j (by omega), shl1_un, relV_set _ _ hj', frP_yes hj' (show F.has i j = true from c)]
      · refine RunF_sound tab_ok noX_local 200 [true, false] _ _ rfl ?_ ?_
        · simp [hFn, wrapn j (by omega), relV_get _ _ hi', intAt_row _ _ hi', hbit, c]; omega
        refine ihe (j + 1) (by omega) _ ⟨rfl, rfl, rfl, rfl, rfl, i64_eq (wrap_succ (by omega)), trivial⟩ ⟨rfl, rfl, rfl, ?_, trivial⟩
        rw [← frP_no (show F.has i j = false by simpa [Rl.has] using c)]; rfl
theorem frR_enters : Enters Tryd.prog 11 := enters_mk Tryd.func11 (by decide) rfl
end Go.Proofs.YtehimiadpgbhmaaDoor

/-
  List walked. Own work.
-/
namespace Go.Proofs.YtehimiadpgbhmaaDoor
open Go.AM
set_option maxRecDepth 100000

theorem initEv_succ (k : Nat) : initEv (k + 1) = initEv k ++ [⟨1, -1, 0, (k : Int), false⟩] := by
  unfold initEv; rw [List.range_succ, List.map_append]; rfl
theorem inT_app {α : Type} {l : List (Nat × α)} : ∀ {a b : List (Nat × α)}, inT l a → inT l b → inT l (a ++ b)
  | [], _, _, h => h
  | (i, x) :: r, _, h, k => ⟨h.1, inT_app h.2 k⟩
theorem inHR_app {ρ : List (Nat × Nat)} {l : List (Nat × Blk)} : ∀ {a b : List (Nat × Blk)}, inHR ρ l a → inHR ρ l b → inHR ρ l (a ++ b)
  | [], _, _, h => h
  | (i, x) :: r, _, h, k => ⟨h.1, inHR_app h.2 k⟩
theorem inT_self {α : Type} : ∀ {l : List (Nat × α)}, (∀ p ∈ l, lk l p.1 = some p.2) → inT l l := by
  intro l h
  have : ∀ m : List (Nat × α), (∀ p ∈ m, lk l p.1 = some p.2) → inT l m := by
    intro m
    induction m with
    | nil => intro _; trivial
    | cons a m ih => intro hm; exact ⟨hm a List.mem_cons_self, ih fun p hp => hm p (List.mem_cons_of_mem _ hp)⟩
  exact this l h

theorem putH_self (th ix : Int) (o : Opn) (L : List Ev) : inT (putH th ix o L) (putH th ix o L) := by
  cases L with
  | nil => exact ⟨rfl, rfl, rfl, rfl, trivial⟩
  | cons e L => exact ⟨rfl, rfl, rfl, rfl, rfl, trivial⟩
theorem putH_H2 (th ix : Int) (o : Opn) (L : List Ev) : inT (putH th ix o L) ([(1, .cells 22 [.one (vZ 2 L)]), (3, .cells 3 [.one (.v (.int .i64 th))])] ++ vBk 2 L) := by
  cases L with
  | nil => exact ⟨rfl, rfl, trivial⟩
  | cons e L => exact ⟨rfl, rfl, rfl, trivial⟩
theorem bandb' (x : BitVec 64) (i : Nat) : band .u64 (un (x >>> i)) 1 = if x.getLsbD i = true then 1 else 0 := by
  by_cases h : x.getLsbD i = true
  · rw [if_pos h, bit1]; exact h
  · rw [if_neg h, band1_un]
    have : (x >>> i) &&& 1#64 = 0#64 := by
      apply BitVec.eq_of_getLsbD_eq
      intro j hj
      rw [BitVec.getLsbD_and, BitVec.getLsbD_one, BitVec.getLsbD_zero]
      by_cases hj0 : j = 0
      · subst hj0
        rw [BitVec.getLsbD_ushiftRight, Nat.add_zero]
        simp [h]
      · simp [hj0]
    rw [this]; rfl

/-- What List hands over. -/
def listZ (p : Pn) (f : BitVec 64) : AV × List (Nat × Blk) :=
  if validN p ≠ 0 then (.tup [.v (.slice none 0 0), .v (.int .i64 (validN p))], [])
  else if allN tryN p.th < 64 ∧ f >>> (allN tryN p.th) ≠ 0#64 then (.tup [.v (.slice none 0 0), .v (.int .i64 4)], [])
  else (.tup [vZ 0 (listF p.locs.length p.th f), .v (.int .i64 0)], vBk 0 (listF p.locs.length p.th f))

set_option maxHeartbeats 8000000 in
theorem list_ok (p : Pn) (f : BitVec 64) (w : World) (hP : SeesP w p) : HandsZ Tryd.prog 15 [encP p, .int .u64 (un f)] w (listZ p f).1 (listZ p f).2 := by
  refine HandsZ.of_run Tryd.func15 rfl (by show 2 ≤ 98; decide) ?_
  have hone := pV_one p
  refine RunF_sound tab_ok noX_local 100 [] _ _ rfl ?_ ?_
  · simp
  refine Run.callFn (r := triesV p) noX_local rfl rfl rfl rfl rfl rfl rfl tries_enters rfl (fun w' hA => tries_ok p w' (hP.agree hA)) ?_
  by_cases hv : validN p = 0
  rotate_left
  · rw [show triesV p = .tuple #[.int .i64 0, .int .i64 (validN p)] by unfold triesV; rw [if_neg hv]]
    have hz : listZ p f = (.tup [.v (.slice none 0 0), .v (.int .i64 (validN p))], []) := by unfold listZ; rw [if_pos hv]
    rw [hz]
    refine RunF_sound tab_ok noX_local 100 [true] _ _ rfl ?_ ?_
    · simp [hv]
    refine Run.retH (ρ := []) tab_ok Tryd.func15 rfl ?_ rfl trivial rfl
    simp
  obtain ⟨h4, h16, h64⟩ := valid_le hv
  rw [show triesV p = .tuple #[.int .i64 (allN tryN p.th), .int .i64 0] by unfold triesV; rw [if_pos hv]]
  have htry := all_try p.th
  have hn32 : allN tryN p.th ≤ 32 := by unfold evsP at h64; omega
  have hn64 : (allN tryN p.th : Int) < 64 := by omega
  by_cases hf : f >>> (allN tryN p.th) = 0#64
  rotate_left
  · have hz : listZ p f = (.tup [.v (.slice none 0 0), .v (.int .i64 4)], []) := by unfold listZ; rw [if_neg (by rw [hv]; simp), if_pos ⟨by omega, hf⟩]
    rw [hz]
    refine RunF_sound tab_ok noX_local 100 [false, true, true] _ _ rfl ?_ ?_
    · simp [hn64]
      exact hf
    refine Run.retH (ρ := []) tab_ok Tryd.func15 rfl ?_ rfl trivial rfl
    simp
  have hz : listZ p f = (.tup [vZ 0 (listF p.locs.length p.th f), .v (.int .i64 0)], vBk 0 (listF p.locs.length p.th f)) := by unfold listZ; rw [if_neg (by rw [hv]; simp), if_neg (fun h => h.2 hf)]
  rw [hz]
  have hTl : (listF p.locs.length p.th f).length ≤ 64 := by
    have h1 := listF_n p.locs.length p.th f (by omega) (fun j hj => by
      have h2 : (f >>> (allN tryN p.th)).getLsbD (j - allN tryN p.th) = false := by rw [hf]; simp
      rw [BitVec.getLsbD_ushiftRight, show allN tryN p.th + (j - allN tryN p.th) = j by omega] at h2
      exact h2)
    unfold evsP at h64; omega
  have hT0 : listF p.locs.length p.th f = initEv p.locs.length ++ (allEv f p.th 0 0).1 := rfl
  generalize listF p.locs.length p.th f = TOT at *
  refine RunF_sound tab_ok noX_local 100 [false, true, false] _ _ rfl ?_ ?_
  · simp [hn64]
    exact ⟨hf, rfl⟩
  suffices H : ∀ (d i : Nat), i + d = p.locs.length → ∀ σ, inT σ.t [(1, .v (.int .u64 (un f))), (2, .ptr 0 0), (8, .ptr 1 0), (34, .v (.int .i64 (p.locs.length : Int))), (35, .v (.int .i64 (i : Int)))] →
      inT σ.h ([(0, .cells 39 [.vals 5 (pV p)]), (1, .cells 22 [.one (vZ 2 (initEv i))])] ++ vBk 2 (initEv i)) → Run _ _ σ by
    exact H p.locs.length 0 (by omega) _ ⟨rfl, rfl, rfl, rfl, rfl, trivial⟩ ⟨rfl, rfl, trivial⟩
  intro d
  induction d with
  | succ d ih =>
    intro i hi σ ht hh
    refine Run.to ?_ ht hh (n' := 3)
    have hil : (initEv i).length = i := by unfold initEv; simp
    have hnx := ih (i + 1) (by omega)
    rw [initEv_succ] at hnx
    generalize initEv i = L at *
    clear ih
    rcases L with _ | ⟨e, L⟩
    · obtain rfl : 0 = i := hil
      refine RunF_sound tab_ok noX_local 100 [true] _ _ rfl ?_ ?_
      · simp [maxLen, fillL, repL, splice, Value.cells, Value.oneCell', okCell, evV, szBool]
        omega
      refine Run.toR [(2, 4)] (hnx ⟨[(1, .v (.int .u64 (un f))), (2, .ptr 0 0), (8, .ptr 1 0), (34, .v (.int .i64 (p.locs.length : Int))), (35, .v (.int .i64 (0 + 1 : Nat)))], [(0, .cells 39 [.vals 5 (pV p)]), (1, .cells 22 [.one (.sl 2 5 0 1)]), (2, .row 52 5 1 (evsR [⟨1, -1, 0, 0, false⟩]))], 3⟩
        ⟨rfl, rfl, rfl, rfl, rfl, trivial⟩ ⟨rfl, rfl, rfl, trivial⟩) ⟨rfl, rfl, rfl, rfl, i64_eq (wrap_succ (by omega)), trivial⟩ ⟨rfl, rfl, rfl, trivial⟩ rfl
    · obtain rfl : L.length + 1 = i := hil
      have e1 : vZ 2 (e :: L ++ [⟨1, -1, 0, ((L.length + 1 : Nat) : Int), false⟩]) = .sl 2 5 0 (L.length + 1 + 1) := by simp [vZ]
      have e2 : vBk 2 (e :: L ++ [⟨1, -1, 0, ((L.length + 1 : Nat) : Int), false⟩]) = [(2, .row 52 5 (L.length + 1 + 1) (evsR (e :: L) ++ evV ⟨1, -1, 0, ((L.length + 1 : Nat) : Int), false⟩))] := by
        rw [← evsR_app]; simp [vBk]
      rw [e1, e2] at hnx
      refine RunF_sound tab_ok noX_local 100 [true] _ _ rfl ?_ ?_
      · simp [maxLen, fillL, repL, splice, Value.cells, Value.oneCell', okCell, evV, szBool]
        omega
      refine Run.toR [(2, 4)] (hnx ⟨[(1, .v (.int .u64 (un f))), (2, .ptr 0 0), (8, .ptr 1 0), (34, .v (.int .i64 (p.locs.length : Int))), (35, .v (.int .i64 ((L.length + 1 + 1 : Nat) : Int)))], [(0, .cells 39 [.vals 5 (pV p)]), (1, .cells 22 [.one (.sl 2 5 0 (L.length + 1 + 1))]), (2, .row 52 5 (L.length + 1 + 1) (evsR (e :: L) ++ evV ⟨1, -1, 0, ((L.length + 1 : Nat) : Int), false⟩))], 3⟩
        ⟨rfl, rfl, rfl, rfl, rfl, trivial⟩ ⟨rfl, rfl, rfl, trivial⟩) ⟨rfl, rfl, rfl, rfl, i64_eq (wrap_succ (by omega)), trivial⟩ ⟨rfl, rfl, ?_, trivial⟩ rfl
      exact Eq.trans rfl (congrArg (fun r => some (Blk.row 52 5 (L.length + 1 + 1) (r ++ evV ⟨1, -1, 0, ((L.length + 1 : Nat) : Int), false⟩))) (take_all e L))
  | zero =>
  intro i hi σ ht hh
  refine Run.to ?_ ht hh (n' := 3)
  obtain rfl : i = p.locs.length := by omega
  clear ht hh hi
  generalize initEv p.locs.length = L0 at hT0 ⊢
  have hv0 : inT ([(0, Blk.cells 39 [.vals 5 (pV p)]), (1, .cells 22 [.one (vZ 2 L0)])] ++ vBk 2 L0) (vBk 2 L0) := by
    cases L0 with
    | nil => trivial
    | cons e L => exact ⟨rfl, trivial⟩
  suffices H : ∀ (d i : Nat) (L : List Ev) (t : Nat), i + d = p.th.length → TOT = L ++ (allEv f (p.th.drop i) i t).1 → t + allN tryN (p.th.drop i) ≤ 32 → ∀ σ, inT σ.t [(1, .v (.int .u64 (un f))), (8, .ptr 1 0), (10, .v (.int .i64 (t : Int))), (45, .v (.slice p.pt p.th.length p.ct)), (46, .v (.int .i64 (p.th.length : Int))), (47, .v (.int .i64 (i : Int)))] →
      inT σ.h ([(1, .cells 22 [.one (vZ 2 L)])] ++ vBk 2 L) → Run _ _ σ by
    refine RunF_sound tab_ok noX_local 100 [false] _ _ rfl ?_ ?_
    · simp
    exact H p.th.length 0 L0 0 (by omega) (by rw [List.drop_zero]; exact hT0) (by rw [List.drop_zero]; omega) _ ⟨rfl, rfl, rfl, rfl, rfl, rfl, trivial⟩ (inT_app ⟨rfl, trivial⟩ hv0)
  clear hT0 hv0
  intro d
  induction d with
  | zero =>
    intro i L t hi hT ht32 σ ht hh
    refine Run.to ?_ ht hh (n' := 3)
    rw [List.drop_of_length_le (by omega)] at hT
    have hT : TOT = L := by rw [hT]; simp [allEv]
    subst hT
    rcases TOT with _ | ⟨e, L⟩
    · refine RunF_sound tab_ok noX_local 100 [false] _ _ rfl ?_ ?_
      · simp; omega
      refine Run.retH (ρ := []) tab_ok Tryd.func15 rfl ?_ rfl trivial rfl
      simp
    · refine RunF_sound tab_ok noX_local 100 [false] _ _ rfl ?_ ?_
      · simp; omega
      refine Run.retH (ρ := [(0, 2)]) tab_ok Tryd.func15 rfl ?_ rfl ⟨rfl, trivial⟩ rfl
      simp
  | succ d ih =>
    intro i L t hi hT ht32 σ ht hh
    refine Run.to ?_ ht hh (n' := 3)
    have hix : i < p.th.length := by omega
    obtain ⟨hpt, q, c, hc, hq⟩ := hP.th i hix
    have hll := hP.lt2 p.th[i] (List.getElem_mem hix)
    have hdr : p.th.drop i = p.th[i] :: p.th.drop (i + 1) := List.drop_eq_getElem_cons hix
    rw [hdr] at hT ht32
    have hnx := ih (i + 1)
    generalize p.th[i] = l at *
    generalize hrest : p.th.drop (i + 1) = RT at *
    clear ih
    simp only [allEv, allN] at hT ht32
    have lc : L = [] ∨ ∃ e M, L = e :: M := by
      cases L with
      | nil => exact .inl rfl
      | cons e M => exact .inr ⟨e, M, rfl⟩
    suffices H2 : ∀ (m j : Nat) (L : List Ev) (t : Nat), j + m = l.length → TOT = L ++ ((thrEv f i (l.drop j) j t).1 ++ (allEv f RT (i + 1) (thrEv f i (l.drop j) j t).2).1) → t + (sumN tryN (l.drop j) + allN tryN RT) ≤ 32 → ∀ σ, inT σ.t [(1, .v (.int .u64 (un f))), (8, .ptr 1 0), (10, .v (.int .i64 (t : Int))), (45, .v (.slice p.pt p.th.length p.ct)), (46, .v (.int .i64 (p.th.length : Int))), (47, .v (.int .i64 (i : Int))), (11, .ptr 3 0), (52, .v (.slice q l.length c)), (53, .v (.int .i64 (l.length : Int))), (54, .v (.int .i64 (j : Int)))] → inT σ.h ([(1, .cells 22 [.one (vZ 2 L)]), (3, .cells 3 [.one (.v (.int .i64 (i : Int)))])] ++ vBk 2 L) → Run _ _ σ by
      have hH := fun σ => H2 l.length 0 L t (by omega) (by rw [List.drop_zero]; exact hT) (by rw [List.drop_zero]; exact ht32) σ
      rcases lc with h | ⟨e, M, h⟩
      · rw [h]
        refine RunF_sound tab_ok noX_local 100 [true] _ _ rfl ?_ ?_
        · simp [Value.oneCell', okCell, ofConst]
          exact ⟨hix, ⟨hpt, hix⟩, by rw [hc]; rfl⟩
        refine Run.toC (t' := [(1, .v (.int .u64 (un f))), (8, .ptr 1 0), (10, .v (.int .i64 (t : Int))), (45, .v (.slice p.pt p.th.length p.ct)), (46, .v (.int .i64 (p.th.length : Int))), (47, .v (.int .i64 (i : Int))), (11, .ptr 3 0), (52, .v (.slice q l.length c)), (53, .v (.int .i64 (l.length : Int))), (54, .v (.int .i64 (0 : Int)))]) (h' := ([(1, .cells 22 [.one (vZ 2 L)]), (3, .cells 3 [.one (.v (.int .i64 (i : Int)))])] ++ vBk 2 L)) (n' := 4) (hH _ ⟨rfl, rfl, rfl, rfl, rfl, rfl, rfl, rfl, rfl, rfl, trivial⟩ (inT_app ⟨rfl, rfl, trivial⟩ ?_)) ⟨inTC_same rfl, inTC_same rfl, inTC_same rfl, inTC_same rfl, inTC_same rfl, inTC_same rfl, inTC_same rfl, ⟨_, rfl, fun M => ?_⟩, ⟨_, rfl, fun M => ?_⟩, inTC_same rfl, trivial⟩ ?_
        · rw [h]; first | trivial | exact ⟨rfl, trivial⟩
        · simp only [conc, fnC_w0, Int.toNat_natCast, Nat.mul_one, hc]; rfl
        · simp only [conc, fnC_w0, Int.toNat_natCast, Nat.mul_one, hc]; rfl
        · rw [h]; first | exact ⟨rfl, rfl, trivial⟩ | exact ⟨rfl, rfl, rfl, trivial⟩
      · rw [h]
        refine RunF_sound tab_ok noX_local 100 [true] _ _ rfl ?_ ?_
        · simp [Value.oneCell', okCell, ofConst]
          exact ⟨hix, ⟨hpt, hix⟩, by rw [hc]; rfl⟩
        refine Run.toC (t' := [(1, .v (.int .u64 (un f))), (8, .ptr 1 0), (10, .v (.int .i64 (t : Int))), (45, .v (.slice p.pt p.th.length p.ct)), (46, .v (.int .i64 (p.th.length : Int))), (47, .v (.int .i64 (i : Int))), (11, .ptr 3 0), (52, .v (.slice q l.length c)), (53, .v (.int .i64 (l.length : Int))), (54, .v (.int .i64 (0 : Int)))]) (h' := ([(1, .cells 22 [.one (vZ 2 L)]), (3, .cells 3 [.one (.v (.int .i64 (i : Int)))])] ++ vBk 2 L)) (n' := 4) (hH _ ⟨rfl, rfl, rfl, rfl, rfl, rfl, rfl, rfl, rfl, rfl, trivial⟩ (inT_app ⟨rfl, rfl, trivial⟩ ?_)) ⟨inTC_same rfl, inTC_same rfl, inTC_same rfl, inTC_same rfl, inTC_same rfl, inTC_same rfl, inTC_same rfl, ⟨_, rfl, fun M => ?_⟩, ⟨_, rfl, fun M => ?_⟩, inTC_same rfl, trivial⟩ ?_
        · rw [h]; first | trivial | exact ⟨rfl, trivial⟩
        · simp only [conc, fnC_w0, Int.toNat_natCast, Nat.mul_one, hc]; rfl
        · simp only [conc, fnC_w0, Int.toNat_natCast, Nat.mul_one, hc]; rfl
        · rw [h]; first | exact ⟨rfl, rfl, trivial⟩ | exact ⟨rfl, rfl, rfl, trivial⟩
    clear lc ht hh hT ht32
    intro m
    induction m with
    | zero =>
      intro j L t hj hT ht32 σ ht hh
      refine Run.to ?_ ht hh (n' := 4)
      rw [List.drop_of_length_le (show l.length ≤ j by omega)] at hT ht32
      simp only [thrEv, sumN, List.nil_append, Nat.zero_add] at hT ht32
      have hvb : inT ([(1, .cells 22 [.one (vZ 2 L)]), (3, .cells 3 [.one (.v (.int .i64 (i : Int)))])] ++ vBk 2 L) (vBk 2 L) := by
        cases L with
        | nil => trivial
        | cons e L => exact ⟨rfl, trivial⟩
      refine RunF_sound tab_ok noX_local 100 [false] _ _ rfl ?_ ?_
      · simp; omega
      exact hnx L t (by omega) hT ht32 _ ⟨rfl, rfl, rfl, rfl, rfl, i64_eq (wrap_succ (by omega)), trivial⟩ (inT_app ⟨rfl, trivial⟩ hvb)
    | succ m ihm =>
      intro j L t hj hT ht32 σ ht hh
      refine Run.to ?_ ht hh (n' := 4)
      have hjl : j < l.length := by omega
      have hdj : l.drop j = l[j] :: l.drop (j + 1) := List.drop_eq_getElem_cons hjl
      rw [hdj] at hT ht32
      simp only [thrEv, sumN] at hT ht32
      have hnxm := ihm (j + 1)
      have hqp := (hq j hjl).1
      have hqe := hq.ext j hjl
      have hqs := hq.some j hjl
      have ho1 := opV_one l[j]
      generalize l[j] = o at *
      generalize hrest2 : l.drop (j + 1) = rl at *
      clear ihm hdj
      have hLl : L.length ≤ 64 := by have := congrArg List.length hT; simp only [List.length_append] at this; omega
      have htn := (opEv_n f i j o t).2
      have hnext : ∀ L' t', L' = L ++ (opEv f i j o t).1 → t' = (opEv f i j o t).2 → ∀ σ, inT σ.t [(1, .v (.int .u64 (un f))), (8, .ptr 1 0), (10, .v (.int .i64 (t' : Int))), (45, .v (.slice p.pt p.th.length p.ct)), (46, .v (.int .i64 (p.th.length : Int))), (47, .v (.int .i64 (i : Int))), (11, .ptr 3 0), (52, .v (.slice q l.length c)), (53, .v (.int .i64 (l.length : Int))), (54, .v (.int .i64 (((j + 1 : Nat) : Int) : Int)))] → inT σ.h ([(1, .cells 22 [.one (vZ 2 L')]), (3, .cells 3 [.one (.v (.int .i64 (i : Int)))])] ++ vBk 2 L') → Run _ _ σ := fun L' t' e1 e2 => by
        subst e1; subst e2
        exact hnxm _ _ (by omega) (by rw [hT]; simp only [List.append_assoc]) (by omega)
      clear hnxm hnx
      have lc : L = [] ∨ ∃ e M, L = e :: M := by
        cases L with
        | nil => exact .inl rfl
        | cons e M => exact .inr ⟨e, M, rfl⟩
      suffices H4 : ∀ σ, inT σ.t [(1, .v (.int .u64 (un f))), (8, .ptr 1 0), (10, .v (.int .i64 (t : Int))), (45, .v (.slice p.pt p.th.length p.ct)), (46, .v (.int .i64 (p.th.length : Int))), (47, .v (.int .i64 (i : Int))), (11, .ptr 3 0), (52, .v (.slice q l.length c)), (53, .v (.int .i64 (l.length : Int))), (54, .v (.int .i64 (j : Int))), (15, .fn 35 [.ptr 3 0, .ptr 4 0, .ptr 5 0, .ptr 1 0]), (61, .v (.int .i64 o.kind)), (62, .v (.bool (o.kind == 3)))] → inT σ.h (putH (i : Int) (j : Int) o L) → Run _ _ σ by
        rcases lc with h | ⟨e, M, h⟩
        · rw [h]
          refine RunF_sound tab_ok noX_local 100 [true] _ _ rfl ?_ ?_
          · simp [hqe, ho1, segsVals, okCell]
            exact ⟨hjl, ⟨hqp, hjl⟩, hqs, rfl⟩
          refine Run.toC (t' := [(1, .v (.int .u64 (un f))), (8, .ptr 1 0), (10, .v (.int .i64 (t : Int))), (45, .v (.slice p.pt p.th.length p.ct)), (46, .v (.int .i64 (p.th.length : Int))), (47, .v (.int .i64 (i : Int))), (11, .ptr 3 0), (52, .v (.slice q l.length c)), (53, .v (.int .i64 (l.length : Int))), (54, .v (.int .i64 (j : Int))), (15, .fn 35 [.ptr 3 0, .ptr 4 0, .ptr 5 0, .ptr 1 0]), (61, .v (.int .i64 o.kind)), (62, .v (.bool (o.kind == 3)))]) (h' := putH (i : Int) (j : Int) o L) (n' := 6) (H4 _ ⟨rfl, rfl, rfl, rfl, rfl, rfl, rfl, rfl, rfl, rfl, rfl, rfl, rfl, trivial⟩ ?_) ⟨inTC_same rfl, inTC_same rfl, inTC_same rfl, inTC_same rfl, inTC_same rfl, inTC_same rfl, inTC_same rfl, inTC_same rfl, inTC_same rfl, inTC_same rfl, inTC_same rfl, ⟨_, rfl, fun M => ?_⟩, ⟨_, rfl, fun M => ?_⟩, trivial⟩ ?_
          · rw [h]; first | exact ⟨rfl, rfl, rfl, rfl, trivial⟩ | exact ⟨rfl, rfl, rfl, rfl, rfl, trivial⟩
          · simp only [conc, fnC_w0, Int.toNat_natCast, hqe]; rfl
          · simp only [conc, fnC_w0, Int.toNat_natCast, hqe]; rfl
          · have e5 : some (Blk.cells 60 [.vals 5 (extCells w ((q.getD default).add ((j : Int).toNat * 5)) 0 5)]) = some (Blk.cells 60 [.vals 5 (opV o)]) := by rw [Int.toNat_natCast, hqe]
            rw [h]; first | exact ⟨rfl, rfl, rfl, e5, trivial⟩ | exact ⟨rfl, rfl, rfl, e5, rfl, trivial⟩
        · rw [h]
          refine RunF_sound tab_ok noX_local 100 [true] _ _ rfl ?_ ?_
          · simp [hqe, ho1, segsVals, okCell]
            exact ⟨hjl, ⟨hqp, hjl⟩, hqs, rfl⟩
          refine Run.toC (t' := [(1, .v (.int .u64 (un f))), (8, .ptr 1 0), (10, .v (.int .i64 (t : Int))), (45, .v (.slice p.pt p.th.length p.ct)), (46, .v (.int .i64 (p.th.length : Int))), (47, .v (.int .i64 (i : Int))), (11, .ptr 3 0), (52, .v (.slice q l.length c)), (53, .v (.int .i64 (l.length : Int))), (54, .v (.int .i64 (j : Int))), (15, .fn 35 [.ptr 3 0, .ptr 4 0, .ptr 5 0, .ptr 1 0]), (61, .v (.int .i64 o.kind)), (62, .v (.bool (o.kind == 3)))]) (h' := putH (i : Int) (j : Int) o L) (n' := 6) (H4 _ ⟨rfl, rfl, rfl, rfl, rfl, rfl, rfl, rfl, rfl, rfl, rfl, rfl, rfl, trivial⟩ ?_) ⟨inTC_same rfl, inTC_same rfl, inTC_same rfl, inTC_same rfl, inTC_same rfl, inTC_same rfl, inTC_same rfl, inTC_same rfl, inTC_same rfl, inTC_same rfl, inTC_same rfl, ⟨_, rfl, fun M => ?_⟩, ⟨_, rfl, fun M => ?_⟩, trivial⟩ ?_
          · rw [h]; first | exact ⟨rfl, rfl, rfl, rfl, trivial⟩ | exact ⟨rfl, rfl, rfl, rfl, rfl, trivial⟩
          · simp only [conc, fnC_w0, Int.toNat_natCast, hqe]; rfl
          · simp only [conc, fnC_w0, Int.toNat_natCast, hqe]; rfl
          · have e5 : some (Blk.cells 60 [.vals 5 (extCells w ((q.getD default).add ((j : Int).toNat * 5)) 0 5)]) = some (Blk.cells 60 [.vals 5 (opV o)]) := by rw [Int.toNat_natCast, hqe]
            rw [h]; first | exact ⟨rfl, rfl, rfl, e5, trivial⟩ | exact ⟨rfl, rfl, rfl, e5, rfl, trivial⟩
      clear lc ht hh
      intro σ ht hh
      refine Run.to ?_ ht hh (n' := 6)
      clear ht hh
      by_cases k3 : o.kind = 3
      · have hop : opEv f i j o t = ([⟨3, (i : Int), (j : Int), o.loc, false⟩], t) := by simp [opEv, k3]
        rw [hop] at hnext
        refine RunF_sound tab_ok noX_local 200 [true] _ _ rfl ?_ ?_
        · simp [k3]
        refine Run.to (t' := [(1, .v (.int .u64 (un f))), (8, .ptr 1 0), (10, .v (.int .i64 (t : Int))), (45, .v (.slice p.pt p.th.length p.ct)), (46, .v (.int .i64 (p.th.length : Int))), (47, .v (.int .i64 (i : Int))), (11, .ptr 3 0), (52, .v (.slice q l.length c)), (53, .v (.int .i64 (l.length : Int))), (54, .v (.int .i64 (j : Int))), (15, .fn 35 [.ptr 3 0, .ptr 4 0, .ptr 5 0, .ptr 1 0]), (64, .fn 35 [.ptr 3 0, .ptr 4 0, .ptr 5 0, .ptr 1 0])]) (h' := putH (i : Int) (j : Int) o (L)) (n' := 6) ?_ ⟨rfl, rfl, rfl, rfl, rfl, rfl, rfl, rfl, rfl, rfl, rfl, rfl, trivial⟩ (putH_self _ _ _ _)
        refine put_call (t' := [(1, .v (.int .u64 (un f))), (8, .ptr 1 0), (10, .v (.int .i64 (t : Int))), (45, .v (.slice p.pt p.th.length p.ct)), (46, .v (.int .i64 (p.th.length : Int))), (47, .v (.int .i64 (i : Int))), (11, .ptr 3 0), (52, .v (.slice q l.length c)), (53, .v (.int .i64 (l.length : Int))), (54, .v (.int .i64 (j : Int))), (15, .fn 35 [.ptr 3 0, .ptr 4 0, .ptr 5 0, .ptr 1 0])]) rfl noX_local 3 false (i : Int) (j : Int) o (L) (by first | omega | (simp; omega)) rfl rfl rfl rfl rfl rfl rfl ⟨rfl, rfl, rfl, rfl, rfl, rfl, rfl, rfl, rfl, rfl, rfl, trivial⟩ rfl ⟨rfl, rfl, rfl, rfl, rfl, rfl, rfl, rfl, rfl, rfl, rfl, trivial⟩ ?_
        refine RunF_sound tab_ok noX_local 200 [] _ _ rfl ?_ ?_
        · simp
        exact hnext (L ++ [evPut 3 (i : Int) (j : Int) o false]) (t) (by simp [evPut]) rfl _ ⟨rfl, rfl, rfl, rfl, rfl, rfl, rfl, rfl, rfl, i64_eq (wrap_succ (by omega)), trivial⟩ (putH_H2 _ _ _ _)
      by_cases k4 : o.kind = 4
      · have hop : opEv f i j o t = ([⟨2, (i : Int), (j : Int), o.loc, false⟩], t) := by simp [opEv, k4]
        rw [hop] at hnext
        refine RunF_sound tab_ok noX_local 200 [false, true, true] _ _ rfl ?_ ?_
        · simp [k4]
        refine Run.to (t' := [(1, .v (.int .u64 (un f))), (8, .ptr 1 0), (10, .v (.int .i64 (t : Int))), (45, .v (.slice p.pt p.th.length p.ct)), (46, .v (.int .i64 (p.th.length : Int))), (47, .v (.int .i64 (i : Int))), (11, .ptr 3 0), (52, .v (.slice q l.length c)), (53, .v (.int .i64 (l.length : Int))), (54, .v (.int .i64 (j : Int))), (15, .fn 35 [.ptr 3 0, .ptr 4 0, .ptr 5 0, .ptr 1 0]), (69, .fn 35 [.ptr 3 0, .ptr 4 0, .ptr 5 0, .ptr 1 0])]) (h' := putH (i : Int) (j : Int) o (L)) (n' := 6) ?_ ⟨rfl, rfl, rfl, rfl, rfl, rfl, rfl, rfl, rfl, rfl, rfl, rfl, trivial⟩ (putH_self _ _ _ _)
        refine put_call (t' := [(1, .v (.int .u64 (un f))), (8, .ptr 1 0), (10, .v (.int .i64 (t : Int))), (45, .v (.slice p.pt p.th.length p.ct)), (46, .v (.int .i64 (p.th.length : Int))), (47, .v (.int .i64 (i : Int))), (11, .ptr 3 0), (52, .v (.slice q l.length c)), (53, .v (.int .i64 (l.length : Int))), (54, .v (.int .i64 (j : Int))), (15, .fn 35 [.ptr 3 0, .ptr 4 0, .ptr 5 0, .ptr 1 0])]) rfl noX_local 2 false (i : Int) (j : Int) o (L) (by first | omega | (simp; omega)) rfl rfl rfl rfl rfl rfl rfl ⟨rfl, rfl, rfl, rfl, rfl, rfl, rfl, rfl, rfl, rfl, rfl, trivial⟩ rfl ⟨rfl, rfl, rfl, rfl, rfl, rfl, rfl, rfl, rfl, rfl, rfl, trivial⟩ ?_
        refine RunF_sound tab_ok noX_local 200 [] _ _ rfl ?_ ?_
        · simp
        exact hnext (L ++ [evPut 2 (i : Int) (j : Int) o false]) (t) (by simp [evPut]) rfl _ ⟨rfl, rfl, rfl, rfl, rfl, rfl, rfl, rfl, rfl, i64_eq (wrap_succ (by omega)), trivial⟩ (putH_H2 _ _ _ _)
      by_cases k5 : o.kind = 5
      · have hop : opEv f i j o t = ([⟨2, (i : Int), (j : Int), o.loc, false⟩], t) := by simp [opEv, k5]
        rw [hop] at hnext
        refine RunF_sound tab_ok noX_local 200 [false, false, true] _ _ rfl ?_ ?_
        · simp [k5]
        refine Run.to (t' := [(1, .v (.int .u64 (un f))), (8, .ptr 1 0), (10, .v (.int .i64 (t : Int))), (45, .v (.slice p.pt p.th.length p.ct)), (46, .v (.int .i64 (p.th.length : Int))), (47, .v (.int .i64 (i : Int))), (11, .ptr 3 0), (52, .v (.slice q l.length c)), (53, .v (.int .i64 (l.length : Int))), (54, .v (.int .i64 (j : Int))), (15, .fn 35 [.ptr 3 0, .ptr 4 0, .ptr 5 0, .ptr 1 0]), (69, .fn 35 [.ptr 3 0, .ptr 4 0, .ptr 5 0, .ptr 1 0])]) (h' := putH (i : Int) (j : Int) o (L)) (n' := 6) ?_ ⟨rfl, rfl, rfl, rfl, rfl, rfl, rfl, rfl, rfl, rfl, rfl, rfl, trivial⟩ (putH_self _ _ _ _)
        refine put_call (t' := [(1, .v (.int .u64 (un f))), (8, .ptr 1 0), (10, .v (.int .i64 (t : Int))), (45, .v (.slice p.pt p.th.length p.ct)), (46, .v (.int .i64 (p.th.length : Int))), (47, .v (.int .i64 (i : Int))), (11, .ptr 3 0), (52, .v (.slice q l.length c)), (53, .v (.int .i64 (l.length : Int))), (54, .v (.int .i64 (j : Int))), (15, .fn 35 [.ptr 3 0, .ptr 4 0, .ptr 5 0, .ptr 1 0])]) rfl noX_local 2 false (i : Int) (j : Int) o (L) (by first | omega | (simp; omega)) rfl rfl rfl rfl rfl rfl rfl ⟨rfl, rfl, rfl, rfl, rfl, rfl, rfl, rfl, rfl, rfl, rfl, trivial⟩ rfl ⟨rfl, rfl, rfl, rfl, rfl, rfl, rfl, rfl, rfl, rfl, rfl, trivial⟩ ?_
        refine RunF_sound tab_ok noX_local 200 [] _ _ rfl ?_ ?_
        · simp
        exact hnext (L ++ [evPut 2 (i : Int) (j : Int) o false]) (t) (by simp [evPut]) rfl _ ⟨rfl, rfl, rfl, rfl, rfl, rfl, rfl, rfl, rfl, i64_eq (wrap_succ (by omega)), trivial⟩ (putH_H2 _ _ _ _)
      by_cases k6 : o.kind = 6
      · have hop : opEv f i j o t = ([⟨4, (i : Int), (j : Int), -1, false⟩], t) := by simp [opEv, k6]
        rw [hop] at hnext
        refine RunF_sound tab_ok noX_local 200 [false, false, false, true] _ _ rfl ?_ ?_
        · simp [k6]
        refine Run.to (t' := [(1, .v (.int .u64 (un f))), (8, .ptr 1 0), (10, .v (.int .i64 (t : Int))), (45, .v (.slice p.pt p.th.length p.ct)), (46, .v (.int .i64 (p.th.length : Int))), (47, .v (.int .i64 (i : Int))), (11, .ptr 3 0), (52, .v (.slice q l.length c)), (53, .v (.int .i64 (l.length : Int))), (54, .v (.int .i64 (j : Int))), (15, .fn 35 [.ptr 3 0, .ptr 4 0, .ptr 5 0, .ptr 1 0]), (73, .fn 35 [.ptr 3 0, .ptr 4 0, .ptr 5 0, .ptr 1 0])]) (h' := putH (i : Int) (j : Int) o (L)) (n' := 6) ?_ ⟨rfl, rfl, rfl, rfl, rfl, rfl, rfl, rfl, rfl, rfl, rfl, rfl, trivial⟩ (putH_self _ _ _ _)
        refine put_call (t' := [(1, .v (.int .u64 (un f))), (8, .ptr 1 0), (10, .v (.int .i64 (t : Int))), (45, .v (.slice p.pt p.th.length p.ct)), (46, .v (.int .i64 (p.th.length : Int))), (47, .v (.int .i64 (i : Int))), (11, .ptr 3 0), (52, .v (.slice q l.length c)), (53, .v (.int .i64 (l.length : Int))), (54, .v (.int .i64 (j : Int))), (15, .fn 35 [.ptr 3 0, .ptr 4 0, .ptr 5 0, .ptr 1 0])]) rfl noX_local 4 false (i : Int) (j : Int) o (L) (by first | omega | (simp; omega)) rfl rfl rfl rfl rfl rfl rfl ⟨rfl, rfl, rfl, rfl, rfl, rfl, rfl, rfl, rfl, rfl, rfl, trivial⟩ rfl ⟨rfl, rfl, rfl, rfl, rfl, rfl, rfl, rfl, rfl, rfl, rfl, trivial⟩ ?_
        refine RunF_sound tab_ok noX_local 200 [] _ _ rfl ?_ ?_
        · simp
        exact hnext (L ++ [evPut 4 (i : Int) (j : Int) o false]) (t) (by simp [evPut]) rfl _ ⟨rfl, rfl, rfl, rfl, rfl, rfl, rfl, rfl, rfl, i64_eq (wrap_succ (by omega)), trivial⟩ (putH_H2 _ _ _ _)
      by_cases k7 : o.kind = 7
      · have hop : opEv f i j o t = ([⟨3, (i : Int), (j : Int), o.loc, true⟩, ⟨2, (i : Int), (j : Int), o.loc, true⟩], t) := by simp [opEv, k7]
        rw [hop] at hnext
        refine RunF_sound tab_ok noX_local 200 [false, false, false, false, true, true] _ _ rfl ?_ ?_
        · simp [k7]
        refine Run.to (t' := [(1, .v (.int .u64 (un f))), (8, .ptr 1 0), (10, .v (.int .i64 (t : Int))), (45, .v (.slice p.pt p.th.length p.ct)), (46, .v (.int .i64 (p.th.length : Int))), (47, .v (.int .i64 (i : Int))), (11, .ptr 3 0), (52, .v (.slice q l.length c)), (53, .v (.int .i64 (l.length : Int))), (54, .v (.int .i64 (j : Int))), (15, .fn 35 [.ptr 3 0, .ptr 4 0, .ptr 5 0, .ptr 1 0]), (78, .fn 35 [.ptr 3 0, .ptr 4 0, .ptr 5 0, .ptr 1 0])]) (h' := putH (i : Int) (j : Int) o (L)) (n' := 6) ?_ ⟨rfl, rfl, rfl, rfl, rfl, rfl, rfl, rfl, rfl, rfl, rfl, rfl, trivial⟩ (putH_self _ _ _ _)
        refine put_call (t' := [(1, .v (.int .u64 (un f))), (8, .ptr 1 0), (10, .v (.int .i64 (t : Int))), (45, .v (.slice p.pt p.th.length p.ct)), (46, .v (.int .i64 (p.th.length : Int))), (47, .v (.int .i64 (i : Int))), (11, .ptr 3 0), (52, .v (.slice q l.length c)), (53, .v (.int .i64 (l.length : Int))), (54, .v (.int .i64 (j : Int))), (15, .fn 35 [.ptr 3 0, .ptr 4 0, .ptr 5 0, .ptr 1 0])]) rfl noX_local 3 true (i : Int) (j : Int) o (L) (by first | omega | (simp; omega)) rfl rfl rfl rfl rfl rfl rfl ⟨rfl, rfl, rfl, rfl, rfl, rfl, rfl, rfl, rfl, rfl, rfl, trivial⟩ rfl ⟨rfl, rfl, rfl, rfl, rfl, rfl, rfl, rfl, rfl, rfl, rfl, trivial⟩ ?_
        refine RunF_sound tab_ok noX_local 200 [] _ _ rfl ?_ ?_
        · simp
        refine Run.to (t' := [(1, .v (.int .u64 (un f))), (8, .ptr 1 0), (10, .v (.int .i64 (t : Int))), (45, .v (.slice p.pt p.th.length p.ct)), (46, .v (.int .i64 (p.th.length : Int))), (47, .v (.int .i64 (i : Int))), (11, .ptr 3 0), (52, .v (.slice q l.length c)), (53, .v (.int .i64 (l.length : Int))), (54, .v (.int .i64 (j : Int))), (15, .fn 35 [.ptr 3 0, .ptr 4 0, .ptr 5 0, .ptr 1 0]), (80, .fn 35 [.ptr 3 0, .ptr 4 0, .ptr 5 0, .ptr 1 0])]) (h' := putH (i : Int) (j : Int) o (L ++ [evPut 3 (i : Int) (j : Int) o true])) (n' := 6) ?_ ⟨rfl, rfl, rfl, rfl, rfl, rfl, rfl, rfl, rfl, rfl, rfl, rfl, trivial⟩ (putH_self _ _ _ _)
        refine put_call (t' := [(1, .v (.int .u64 (un f))), (8, .ptr 1 0), (10, .v (.int .i64 (t : Int))), (45, .v (.slice p.pt p.th.length p.ct)), (46, .v (.int .i64 (p.th.length : Int))), (47, .v (.int .i64 (i : Int))), (11, .ptr 3 0), (52, .v (.slice q l.length c)), (53, .v (.int .i64 (l.length : Int))), (54, .v (.int .i64 (j : Int))), (15, .fn 35 [.ptr 3 0, .ptr 4 0, .ptr 5 0, .ptr 1 0])]) rfl noX_local 2 true (i : Int) (j : Int) o (L ++ [evPut 3 (i : Int) (j : Int) o true]) (by first | omega | (simp; omega)) rfl rfl rfl rfl rfl rfl rfl ⟨rfl, rfl, rfl, rfl, rfl, rfl, rfl, rfl, rfl, rfl, rfl, trivial⟩ rfl ⟨rfl, rfl, rfl, rfl, rfl, rfl, rfl, rfl, rfl, rfl, rfl, trivial⟩ ?_
        refine RunF_sound tab_ok noX_local 200 [] _ _ rfl ?_ ?_
        · simp
        exact hnext (L ++ [evPut 3 (i : Int) (j : Int) o true] ++ [evPut 2 (i : Int) (j : Int) o true]) (t) (by simp [evPut]) rfl _ ⟨rfl, rfl, rfl, rfl, rfl, rfl, rfl, rfl, rfl, i64_eq (wrap_succ (by omega)), trivial⟩ (putH_H2 _ _ _ _)
      by_cases k9 : o.kind = 9
      · have hop : opEv f i j o t = ([⟨3, (i : Int), (j : Int), o.loc, true⟩, ⟨2, (i : Int), (j : Int), o.loc, true⟩], t) := by simp [opEv, k9]
        rw [hop] at hnext
        refine RunF_sound tab_ok noX_local 200 [false, false, false, false, false, true] _ _ rfl ?_ ?_
        · simp [k9]
        refine Run.to (t' := [(1, .v (.int .u64 (un f))), (8, .ptr 1 0), (10, .v (.int .i64 (t : Int))), (45, .v (.slice p.pt p.th.length p.ct)), (46, .v (.int .i64 (p.th.length : Int))), (47, .v (.int .i64 (i : Int))), (11, .ptr 3 0), (52, .v (.slice q l.length c)), (53, .v (.int .i64 (l.length : Int))), (54, .v (.int .i64 (j : Int))), (15, .fn 35 [.ptr 3 0, .ptr 4 0, .ptr 5 0, .ptr 1 0]), (78, .fn 35 [.ptr 3 0, .ptr 4 0, .ptr 5 0, .ptr 1 0])]) (h' := putH (i : Int) (j : Int) o (L)) (n' := 6) ?_ ⟨rfl, rfl, rfl, rfl, rfl, rfl, rfl, rfl, rfl, rfl, rfl, rfl, trivial⟩ (putH_self _ _ _ _)
        refine put_call (t' := [(1, .v (.int .u64 (un f))), (8, .ptr 1 0), (10, .v (.int .i64 (t : Int))), (45, .v (.slice p.pt p.th.length p.ct)), (46, .v (.int .i64 (p.th.length : Int))), (47, .v (.int .i64 (i : Int))), (11, .ptr 3 0), (52, .v (.slice q l.length c)), (53, .v (.int .i64 (l.length : Int))), (54, .v (.int .i64 (j : Int))), (15, .fn 35 [.ptr 3 0, .ptr 4 0, .ptr 5 0, .ptr 1 0])]) rfl noX_local 3 true (i : Int) (j : Int) o (L) (by first | omega | (simp; omega)) rfl rfl rfl rfl rfl rfl rfl ⟨rfl, rfl, rfl, rfl, rfl, rfl, rfl, rfl, rfl, rfl, rfl, trivial⟩ rfl ⟨rfl, rfl, rfl, rfl, rfl, rfl, rfl, rfl, rfl, rfl, rfl, trivial⟩ ?_
        refine RunF_sound tab_ok noX_local 200 [] _ _ rfl ?_ ?_
        · simp
        refine Run.to (t' := [(1, .v (.int .u64 (un f))), (8, .ptr 1 0), (10, .v (.int .i64 (t : Int))), (45, .v (.slice p.pt p.th.length p.ct)), (46, .v (.int .i64 (p.th.length : Int))), (47, .v (.int .i64 (i : Int))), (11, .ptr 3 0), (52, .v (.slice q l.length c)), (53, .v (.int .i64 (l.length : Int))), (54, .v (.int .i64 (j : Int))), (15, .fn 35 [.ptr 3 0, .ptr 4 0, .ptr 5 0, .ptr 1 0]), (80, .fn 35 [.ptr 3 0, .ptr 4 0, .ptr 5 0, .ptr 1 0])]) (h' := putH (i : Int) (j : Int) o (L ++ [evPut 3 (i : Int) (j : Int) o true])) (n' := 6) ?_ ⟨rfl, rfl, rfl, rfl, rfl, rfl, rfl, rfl, rfl, rfl, rfl, rfl, trivial⟩ (putH_self _ _ _ _)
        refine put_call (t' := [(1, .v (.int .u64 (un f))), (8, .ptr 1 0), (10, .v (.int .i64 (t : Int))), (45, .v (.slice p.pt p.th.length p.ct)), (46, .v (.int .i64 (p.th.length : Int))), (47, .v (.int .i64 (i : Int))), (11, .ptr 3 0), (52, .v (.slice q l.length c)), (53, .v (.int .i64 (l.length : Int))), (54, .v (.int .i64 (j : Int))), (15, .fn 35 [.ptr 3 0, .ptr 4 0, .ptr 5 0, .ptr 1 0])]) rfl noX_local 2 true (i : Int) (j : Int) o (L ++ [evPut 3 (i : Int) (j : Int) o true]) (by first | omega | (simp; omega)) rfl rfl rfl rfl rfl rfl rfl ⟨rfl, rfl, rfl, rfl, rfl, rfl, rfl, rfl, rfl, rfl, rfl, trivial⟩ rfl ⟨rfl, rfl, rfl, rfl, rfl, rfl, rfl, rfl, rfl, rfl, rfl, trivial⟩ ?_
        refine RunF_sound tab_ok noX_local 200 [] _ _ rfl ?_ ?_
        · simp
        exact hnext (L ++ [evPut 3 (i : Int) (j : Int) o true] ++ [evPut 2 (i : Int) (j : Int) o true]) (t) (by simp [evPut]) rfl _ ⟨rfl, rfl, rfl, rfl, rfl, rfl, rfl, rfl, rfl, i64_eq (wrap_succ (by omega)), trivial⟩ (putH_H2 _ _ _ _)
      by_cases k8 : o.kind = 8
      · have ht1 : tryN o = 1 := by unfold tryN; rw [if_pos k8]
        rw [ht1] at ht32
        refine RunF_sound tab_ok noX_local 200 [false, false, false, false, false, false, true] _ _ rfl ?_ ?_
        · simp [k8]
        refine Run.to (t' := [(1, .v (.int .u64 (un f))), (8, .ptr 1 0), (10, .v (.int .i64 (t : Int))), (45, .v (.slice p.pt p.th.length p.ct)), (46, .v (.int .i64 (p.th.length : Int))), (47, .v (.int .i64 (i : Int))), (11, .ptr 3 0), (52, .v (.slice q l.length c)), (53, .v (.int .i64 (l.length : Int))), (54, .v (.int .i64 (j : Int))), (15, .fn 35 [.ptr 3 0, .ptr 4 0, .ptr 5 0, .ptr 1 0]), (84, .fn 35 [.ptr 3 0, .ptr 4 0, .ptr 5 0, .ptr 1 0])]) (h' := putH (i : Int) (j : Int) o (L)) (n' := 6) ?_ ⟨rfl, rfl, rfl, rfl, rfl, rfl, rfl, rfl, rfl, rfl, rfl, rfl, trivial⟩ (putH_self _ _ _ _)
        refine put_call (t' := [(1, .v (.int .u64 (un f))), (8, .ptr 1 0), (10, .v (.int .i64 (t : Int))), (45, .v (.slice p.pt p.th.length p.ct)), (46, .v (.int .i64 (p.th.length : Int))), (47, .v (.int .i64 (i : Int))), (11, .ptr 3 0), (52, .v (.slice q l.length c)), (53, .v (.int .i64 (l.length : Int))), (54, .v (.int .i64 (j : Int))), (15, .fn 35 [.ptr 3 0, .ptr 4 0, .ptr 5 0, .ptr 1 0])]) rfl noX_local 3 true (i : Int) (j : Int) o (L) (by first | omega | (simp; omega)) rfl rfl rfl rfl rfl rfl rfl ⟨rfl, rfl, rfl, rfl, rfl, rfl, rfl, rfl, rfl, rfl, rfl, trivial⟩ rfl ⟨rfl, rfl, rfl, rfl, rfl, rfl, rfl, rfl, rfl, rfl, rfl, trivial⟩ ?_
        by_cases hb : f.getLsbD t = true
        · have hop : opEv f i j o t = ([⟨3, (i : Int), (j : Int), o.loc, true⟩], t + 1) := by simp [opEv, k8, hb]
          rw [hop] at hnext
          refine RunF_sound tab_ok noX_local 200 [false] _ _ rfl ?_ ?_
          · simp [bandb', hb]
          exact hnext (L ++ [evPut 3 (i : Int) (j : Int) o true]) (t + 1) (by simp [evPut]) rfl _ ⟨rfl, rfl, i64_eq (wrap_succ (by omega)), rfl, rfl, rfl, rfl, rfl, rfl, i64_eq (wrap_succ (by omega)), trivial⟩ (putH_H2 _ _ _ _)
        · have hop : opEv f i j o t = ([⟨3, (i : Int), (j : Int), o.loc, true⟩, ⟨2, (i : Int), (j : Int), o.loc, true⟩], t + 1) := by simp [opEv, k8, hb]
          rw [hop] at hnext
          refine RunF_sound tab_ok noX_local 200 [true] _ _ rfl ?_ ?_
          · simp [bandb', hb]
          refine Run.to (t' := [(1, .v (.int .u64 (un f))), (8, .ptr 1 0), (10, .v (.int .i64 (t : Int))), (45, .v (.slice p.pt p.th.length p.ct)), (46, .v (.int .i64 (p.th.length : Int))), (47, .v (.int .i64 (i : Int))), (11, .ptr 3 0), (52, .v (.slice q l.length c)), (53, .v (.int .i64 (l.length : Int))), (54, .v (.int .i64 (j : Int))), (15, .fn 35 [.ptr 3 0, .ptr 4 0, .ptr 5 0, .ptr 1 0]), (91, .fn 35 [.ptr 3 0, .ptr 4 0, .ptr 5 0, .ptr 1 0])]) (h' := putH (i : Int) (j : Int) o (L ++ [evPut 3 (i : Int) (j : Int) o true])) (n' := 6) ?_ ⟨rfl, rfl, rfl, rfl, rfl, rfl, rfl, rfl, rfl, rfl, rfl, rfl, trivial⟩ (putH_self _ _ _ _)
          refine put_call (t' := [(1, .v (.int .u64 (un f))), (8, .ptr 1 0), (10, .v (.int .i64 (t : Int))), (45, .v (.slice p.pt p.th.length p.ct)), (46, .v (.int .i64 (p.th.length : Int))), (47, .v (.int .i64 (i : Int))), (11, .ptr 3 0), (52, .v (.slice q l.length c)), (53, .v (.int .i64 (l.length : Int))), (54, .v (.int .i64 (j : Int))), (15, .fn 35 [.ptr 3 0, .ptr 4 0, .ptr 5 0, .ptr 1 0])]) rfl noX_local 2 true (i : Int) (j : Int) o (L ++ [evPut 3 (i : Int) (j : Int) o true]) (by first | omega | (simp; omega)) rfl rfl rfl rfl rfl rfl rfl ⟨rfl, rfl, rfl, rfl, rfl, rfl, rfl, rfl, rfl, rfl, rfl, trivial⟩ rfl ⟨rfl, rfl, rfl, rfl, rfl, rfl, rfl, rfl, rfl, rfl, rfl, trivial⟩ ?_
          refine RunF_sound tab_ok noX_local 200 [] _ _ rfl ?_ ?_
          · simp
          exact hnext (L ++ [evPut 3 (i : Int) (j : Int) o true] ++ [evPut 2 (i : Int) (j : Int) o true]) (t + 1) (by simp [evPut]) rfl _ ⟨rfl, rfl, i64_eq (wrap_succ (by omega)), rfl, rfl, rfl, rfl, rfl, rfl, i64_eq (wrap_succ (by omega)), trivial⟩ (putH_H2 _ _ _ _)
      have hop : opEv f i j o t = ([], t) := by simp [opEv, k3, k4, k5, k6, k7, k8, k9]
      rw [hop] at hnext
      refine RunF_sound tab_ok noX_local 200 [false, false, false, false, false, false, false] _ _ rfl ?_ ?_
      · simp [k3, k4, k5, k6, k7, k8, k9]
      exact hnext L t (by simp) rfl _ ⟨rfl, rfl, rfl, rfl, rfl, rfl, rfl, rfl, rfl, i64_eq (wrap_succ (by omega)), trivial⟩ (putH_H2 _ _ _ _)
theorem list_enters : Enters Tryd.prog 15 := enters_mk Tryd.func15 (by decide) rfl
end Go.Proofs.YtehimiadpgbhmaaDoor

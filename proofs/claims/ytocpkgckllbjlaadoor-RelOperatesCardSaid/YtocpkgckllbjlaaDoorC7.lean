/-
  The operations are the reference's; RelOperates answers true. Own work.
-/
import Derived.Test.YtocpkgckllbjlaaDoorC6
namespace Go.Proofs.YtocpkgckllbjlaaDoor
open Go.AM
set_option maxRecDepth 100000

theorem has_row (r : Rl) (a b : Nat) : (r.row a).getLsbD b = r.has a b := rfl

theorem row0_of {R : Rl} (hR : rightL R = R) {i : Nat} (h : R.n ≤ (i : Int)) : R.row i = 0#64 := by
  have := right_row0 R i (by rw [hR]; exact h)
  rwa [hR] at this

/-- An operation row by row, pair by pair. -/
theorem opL_gen (F : BitVec 64 → BitVec 64 → BitVec 64) (op : Nat) (h0 : F 0#64 0#64 = 0#64) (hF : ∀ R S : Rl, ∀ x y, y < 64 → (F (R.row x) (S.row x)).getLsbD y = pTwo op R S x y) (r s : Rl) : opL F r s = twoR op r s := by
  have hr := twoL_right r s
  have hn := twoL_n r s
  have hb := twoL_b r s
  unfold opL twoR
  generalize (twoL r s).1 = R at hr hn hb
  generalize (twoL r s).2 = S at hr hn
  apply Rl.ext_has
  · rw [Rl.n_gen]; exact Rl.n_by _ _
  · intro x y hx hy
    rw [Rl.has_gen, decide_eq_true ⟨hx, hy⟩, Bool.true_and, ← hF R S x y hy]
    show ((rowP F R S R.n.toNat).row x).getLsbD y = _
    unfold rowP
    rw [Rl.row_by, if_pos hx]
    by_cases hlt : x < R.n.toNat
    · rw [if_pos hlt]
    · rw [if_neg hlt, row0_of hr.1 (by omega), row0_of hr.2 (show S.n ≤ (x : Int) by omega), h0]

theorem union_eq (r s : Rl) : opL (fun a b => a ||| b) r s = twoR 0 r s := opL_gen _ 0 (by decide) (fun R S x y _ => by rw [BitVec.getLsbD_or]; rfl) r s
theorem meet_eq (r s : Rl) : opL (fun a b => a &&& b) r s = twoR 1 r s := opL_gen _ 1 (by decide) (fun R S x y _ => by rw [BitVec.getLsbD_and]; rfl) r s
theorem minus_eq (r s : Rl) : opL (fun a b => a &&& ~~~b) r s = twoR 2 r s := opL_gen _ 2 (by decide) (fun R S x y hy => by rw [BitVec.getLsbD_and, BitVec.getLsbD_not, decide_eq_true hy, Bool.true_and]; rfl) r s

theorem compose_eq (r s : Rl) : composeL r s = twoR 3 r s := by
  have hr := twoL_right r s
  have hb := twoL_b r s
  apply Rl.ext_has
  · unfold composeL twoR
    rw [cmpF_n, Rl.n_gen]
  · intro x y hx hy
    rw [compose_has]
    unfold twoR
    rw [Rl.has_gen, decide_eq_true ⟨hx, hy⟩, Bool.true_and]
    generalize (twoL r s).1 = R at hr hb
    generalize (twoL r s).2 = S at hr
    show _ = (List.range R.n.toNat).any fun c => R.has x c && S.has c y
    rw [Bool.eq_iff_iff, List.any_eq_true, List.any_eq_true]
    constructor
    · rintro ⟨c, _, h⟩
      have h1 := (Bool.and_eq_true_iff.1 h).1
      have := right_has R x c (by rw [hr.1]; exact h1)
      rw [hr.1] at this
      exact ⟨c, List.mem_range.2 (by omega), h⟩
    · rintro ⟨c, hc, h⟩
      have := List.mem_range.1 hc
      exact ⟨c, List.mem_range.2 (by omega), h⟩

theorem inverse_eq (r : Rl) : invF (rightL r).n (edgesL (rightL r)) = Rl.gen (rightL r).n fun x y => (rightL r).has y x := by
  apply Rl.ext_has
  · rw [invF_n, Rl.n_gen]
  · intro x y hx hy
    rw [inverse_has, Rl.has_gen, decide_eq_true ⟨hx, hy⟩, Bool.true_and]

theorem not_eq (r : Rl) : notL r = Rl.gen (rightL r).n (pNot (rightL r)) := by
  have hn := rightL_n r
  have hR := rightL_idem r
  unfold notL
  generalize rightL r = R at hn hR
  apply Rl.ext_has
  · rw [n_notP, Rl.n_gen]
  · intro x y hx hy
    rw [Rl.has_gen, decide_eq_true ⟨hx, hy⟩, Bool.true_and]
    show ((notP R R.n.toNat).row x).getLsbD y = _
    unfold notP pNot
    rw [Rl.row_by, if_pos hx]
    by_cases hlt : x < R.n.toNat
    · rw [if_pos hlt, BitVec.getLsbD_and, BitVec.getLsbD_not, mask_get _ _ hn.1, decide_eq_true hy, Bool.true_and, has_row]
      congr 1
      apply decide_eq_decide.2; omega
    · rw [if_neg hlt, row0_of hR (by omega), BitVec.getLsbD_zero, decide_eq_false (by omega), Bool.false_and]

theorem operates_ok (r s : Rl) (x y : BitVec 64) (w : World) (hT : TabAt w) (h0 : 0 < w.heap.size) : Gives Tryd.prog 4 [encRel r, encRel s, .int .u64 (un x), .int .u64 (un y)] w (.bool true) := by
  refine Gives.of_run Tryd.func4 rfl (by show 4 ≤ 68; decide) ?_
  have hcmp : ∀ R : Rl, EqT Tryd.prog 25 (relV R).toArray (relV R).toArray true := fun R => by have := eqRel R R; simpa using this
  obtain ⟨X0, g0, k0⟩ : ∃ X : Rl, (∀ w', Gives Tryd.prog 21 [encRel r, encRel s] w' (encRel X)) ∧ (∀ w', Gives Tryd.prog 22 [.int .i64 0, encRel r, encRel s] w' (encRel X)) :=
    ⟨twoR 0 r s, fun w' => by rw [← union_eq]; exact union_ok r s w', fun w' => two_R 0 (by decide) r s w'⟩
  obtain ⟨X1, g1, k1⟩ : ∃ X : Rl, (∀ w', Gives Tryd.prog 23 [encRel r, encRel s] w' (encRel X)) ∧ (∀ w', Gives Tryd.prog 22 [.int .i64 1, encRel r, encRel s] w' (encRel X)) :=
    ⟨twoR 1 r s, fun w' => by rw [← meet_eq]; exact meet_ok r s w', fun w' => two_R 1 (by decide) r s w'⟩
  obtain ⟨X2, g2, k2⟩ : ∃ X : Rl, (∀ w', Gives Tryd.prog 24 [encRel r, encRel s] w' (encRel X)) ∧ (∀ w', Gives Tryd.prog 22 [.int .i64 2, encRel r, encRel s] w' (encRel X)) :=
    ⟨twoR 2 r s, fun w' => by rw [← minus_eq]; exact minus_ok r s w', fun w' => two_R 2 (by decide) r s w'⟩
  obtain ⟨X3, g3, k3⟩ : ∃ X : Rl, (∀ w', Agree (fun _ => False) w w' → Gives Tryd.prog 25 [encRel r, encRel s] w' (encRel X)) ∧ (∀ w', Gives Tryd.prog 22 [.int .i64 3, encRel r, encRel s] w' (encRel X)) :=
    ⟨twoR 3 r s, fun w' hA => by rw [← compose_eq]; exact compose_ok r s w' (hT.agree hA (fun f => f)) (Nat.lt_of_lt_of_le h0 hA.size), fun w' => two_R 3 (by decide) r s w'⟩
  obtain ⟨X4, g4, k4⟩ : ∃ X : Rl, (∀ w', Agree (fun _ => False) w w' → Gives Tryd.prog 26 [encRel r] w' (encRel X)) ∧ (∀ w', Gives Tryd.prog 27 [encRel r] w' (encRel X)) :=
    ⟨_, fun w' hA => by rw [← inverse_eq]; exact inverse_ok r w' (hT.agree hA (fun f => f)) (Nat.lt_of_lt_of_le h0 hA.size), fun w' => inverseR_ok r w'⟩
  obtain ⟨X5, g5, k5⟩ : ∃ X : Rl, (∀ w', Gives Tryd.prog 28 [encRel r] w' (encRel X)) ∧ (∀ w', Gives Tryd.prog 29 [encRel r] w' (encRel X)) :=
    ⟨_, fun w' => by rw [← not_eq]; exact not_ok r w', fun w' => notR_ok r w'⟩
  obtain ⟨X6, g6, k6⟩ : ∃ X : Rl, (∀ w', Gives Tryd.prog 30 [encRel r, .int .u64 (un x), .int .u64 (un y)] w' (encRel X)) ∧ (∀ w', Gives Tryd.prog 31 [encRel r, .int .u64 (un x), .int .u64 (un y)] w' (encRel X)) :=
    ⟨_, fun w' => by rw [← meet_eq]; exact restrict_ok r x y w', fun w' => restrictR_ok r x y w'⟩
  refine RunF_sound tab_ok noX_local 100 [] _ _ rfl ?_ ?_
  · simp [segsVals, relV_one']
  refine Run.drawA noX_local rfl [] [(0, .cells 25 [.vals 65 (relV r)]), (1, .cells 25 [.vals 65 (relV s)])] rfl rfl ⟨rfl, rfl, trivial⟩ ?_
  refine RunOF_sound tab_ok noX_local rfl rfl 200 [] _ _ rfl ?_ ?_
  · simp
  refine RunO.callFn noX_local rfl rfl rfl rfl rfl rfl rfl rfl union_enters rfl (fun w' _ => g0 w') ?_
  refine RunOF_sound tab_ok noX_local rfl rfl 200 [] _ _ rfl ?_ ?_
  · simp
  refine RunO.callFn noX_local rfl rfl rfl rfl rfl rfl rfl rfl two_R_enters rfl (fun w' _ => k0 w') ?_
  refine RunOF_sound tab_ok noX_local rfl rfl 200 [] _ _ rfl ?_ ?_
  · simp
  refine RunO.cmp rfl rfl rfl rfl rfl rfl rfl (b := true) (c := true) (hcmp X0) (.inl ⟨rfl, rfl⟩) ?_
  refine RunOF_sound tab_ok noX_local rfl rfl 200 [true] _ _ rfl ?_ ?_
  · simp
  refine RunO.callFn noX_local rfl rfl rfl rfl rfl rfl rfl rfl meet_enters rfl (fun w' _ => g1 w') ?_
  refine RunOF_sound tab_ok noX_local rfl rfl 200 [] _ _ rfl ?_ ?_
  · simp
  refine RunO.callFn noX_local rfl rfl rfl rfl rfl rfl rfl rfl two_R_enters rfl (fun w' _ => k1 w') ?_
  refine RunOF_sound tab_ok noX_local rfl rfl 200 [] _ _ rfl ?_ ?_
  · simp
  refine RunO.cmp rfl rfl rfl rfl rfl rfl rfl (b := true) (c := true) (hcmp X1) (.inl ⟨rfl, rfl⟩) ?_
  refine RunOF_sound tab_ok noX_local rfl rfl 200 [true] _ _ rfl ?_ ?_
  · simp
  refine RunO.callFn noX_local rfl rfl rfl rfl rfl rfl rfl rfl minus_enters rfl (fun w' _ => g2 w') ?_
  refine RunOF_sound tab_ok noX_local rfl rfl 200 [] _ _ rfl ?_ ?_
  · simp
  refine RunO.callFn noX_local rfl rfl rfl rfl rfl rfl rfl rfl two_R_enters rfl (fun w' _ => k2 w') ?_
  refine RunOF_sound tab_ok noX_local rfl rfl 200 [] _ _ rfl ?_ ?_
  · simp
  refine RunO.cmp rfl rfl rfl rfl rfl rfl rfl (b := true) (c := true) (hcmp X2) (.inl ⟨rfl, rfl⟩) ?_
  refine RunOF_sound tab_ok noX_local rfl rfl 200 [true] _ _ rfl ?_ ?_
  · simp
  refine RunO.callFn noX_local rfl rfl rfl rfl rfl rfl rfl rfl compose_enters rfl (fun w' hA => g3 w' hA) ?_
  refine RunOF_sound tab_ok noX_local rfl rfl 200 [] _ _ rfl ?_ ?_
  · simp
  refine RunO.callFn noX_local rfl rfl rfl rfl rfl rfl rfl rfl two_R_enters rfl (fun w' _ => k3 w') ?_
  refine RunOF_sound tab_ok noX_local rfl rfl 200 [] _ _ rfl ?_ ?_
  · simp
  refine RunO.cmp rfl rfl rfl rfl rfl rfl rfl (b := true) (c := true) (hcmp X3) (.inl ⟨rfl, rfl⟩) ?_
  refine RunOF_sound tab_ok noX_local rfl rfl 200 [true] _ _ rfl ?_ ?_
  · simp
  refine RunO.callFn noX_local rfl rfl rfl rfl rfl rfl rfl rfl inverse_enters rfl (fun w' hA => g4 w' hA) ?_
  refine RunOF_sound tab_ok noX_local rfl rfl 200 [] _ _ rfl ?_ ?_
  · simp
  refine RunO.callFn noX_local rfl rfl rfl rfl rfl rfl rfl rfl inverseR_enters rfl (fun w' _ => k4 w') ?_
  refine RunOF_sound tab_ok noX_local rfl rfl 200 [] _ _ rfl ?_ ?_
  · simp
  refine RunO.cmp rfl rfl rfl rfl rfl rfl rfl (b := true) (c := true) (hcmp X4) (.inl ⟨rfl, rfl⟩) ?_
  refine RunOF_sound tab_ok noX_local rfl rfl 200 [true] _ _ rfl ?_ ?_
  · simp
  refine RunO.callFn noX_local rfl rfl rfl rfl rfl rfl rfl rfl not_enters rfl (fun w' _ => g5 w') ?_
  refine RunOF_sound tab_ok noX_local rfl rfl 200 [] _ _ rfl ?_ ?_
  · simp
  refine RunO.callFn noX_local rfl rfl rfl rfl rfl rfl rfl rfl notR_enters rfl (fun w' _ => k5 w') ?_
  refine RunOF_sound tab_ok noX_local rfl rfl 200 [] _ _ rfl ?_ ?_
  · simp
  refine RunO.cmp rfl rfl rfl rfl rfl rfl rfl (b := true) (c := true) (hcmp X5) (.inl ⟨rfl, rfl⟩) ?_
  refine RunOF_sound tab_ok noX_local rfl rfl 200 [true] _ _ rfl ?_ ?_
  · simp
  refine RunO.callFn noX_local rfl rfl rfl rfl rfl rfl rfl rfl restrict_enters rfl (fun w' _ => g6 w') ?_
  refine RunOF_sound tab_ok noX_local rfl rfl 200 [] _ _ rfl ?_ ?_
  · simp
  refine RunO.callFn noX_local rfl rfl rfl rfl rfl rfl rfl rfl restrictR_enters rfl (fun w' _ => k6 w') ?_
  refine RunOF_sound tab_ok noX_local rfl rfl 200 [] _ _ rfl ?_ ?_
  · simp
  refine RunO.cmp rfl rfl rfl rfl rfl rfl rfl (b := true) (c := true) (hcmp X6) (.inl ⟨rfl, rfl⟩) ?_
  refine RunOF_sound tab_ok noX_local rfl rfl 200 [] _ _ rfl ?_ ?_
  · simp
  refine RunO.done ?_
  refine RunF_sound tab_ok noX_local 100 [] _ _ rfl ?_ ?_
  · simp
  exact Run.retP tab_ok Tryd.func4 rfl trivial (fun M => rfl)
theorem operates_enters : Enters Tryd.prog 4 := enters_mk Tryd.func4 (by decide) rfl
end Go.Proofs.YtocpkgckllbjlaaDoor

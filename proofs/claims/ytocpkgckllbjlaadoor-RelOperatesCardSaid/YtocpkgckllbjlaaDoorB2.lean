/-
  right, Has, Count, here and in the reference. Own work.
-/
import Derived.Test.YtocpkgckllbjlaaDoorR8
import Derived.Test.YtocpkgckllbjlaaDoorB1
namespace Go.Proofs.YtocpkgckllbjlaaDoor
open Go.AM
set_option maxRecDepth 100000

open Classical in
/-- The relation, if it is right. -/
noncomputable def rightL (r : Rl) : Rl := if checkI r = 0 then r else Rl.void 0

theorem right_ok (r : Rl) (w : World) : Gives Tryd.prog 70 [encRel r] w (encRel (rightL r)) := by
  refine Gives.of_run Tryd.func70 rfl (by show 1 ≤ 8; decide) ?_
  refine RunF_sound tab_ok noX_local 100 [] _ _ rfl ?_ ?_
  · simp [fillL, Value.cells, segsVals, relV_one']
  refine Run.callFn noX_local rfl rfl rfl rfl rfl rfl rfl check_enters rfl (fun w' _ => check_ok r w') ?_
  by_cases h : checkI r = 0
  · refine RunF_sound tab_ok noX_local 100 [false] _ _ rfl ?_ ?_
    · simp [h, fillL, Value.cells, segsVals, relV_one']
    · refine Run.retP tab_ok Tryd.func70 rfl ?_ (fun M => ?_)
      · simp [fillL, Value.cells]
      rw [rightL, if_pos h]; rfl
  · refine RunF_sound tab_ok noX_local 100 [true] _ _ rfl ?_ ?_
    · simp [h, fillL, Value.cells, segsVals, relV_one']
    · refine Run.retP tab_ok Tryd.func70 rfl ?_ (fun M => ?_)
      · simp [fillL, Value.cells]
      rw [rightL, if_neg h]; rfl
theorem right_enters : Enters Tryd.prog 70 := enters_mk Tryd.func70 (by decide) rfl

theorem rightR_ok (r : Rl) (w : World) : Gives Tryd.prog 18 [encRel r] w (encRel (rightL r)) := by
  refine Gives.of_run Tryd.func18 rfl (by show 1 ≤ 8; decide) ?_
  refine RunF_sound tab_ok noX_local 100 [] _ _ rfl ?_ ?_
  · simp [fillL, Value.cells, segsVals, relV_one']
  refine Run.callFn noX_local rfl rfl rfl rfl rfl rfl rfl checkR_enters rfl (fun w' _ => checkR_ok r w') ?_
  by_cases h : checkI r = 0
  · refine RunF_sound tab_ok noX_local 100 [false] _ _ rfl ?_ ?_
    · simp [h, fillL, Value.cells, segsVals, relV_one']
    · refine Run.retP tab_ok Tryd.func18 rfl ?_ (fun M => ?_)
      · simp [fillL, Value.cells]
      rw [rightL, if_pos h]; rfl
  · refine RunF_sound tab_ok noX_local 100 [true] _ _ rfl ?_ ?_
    · simp [h, fillL, Value.cells, segsVals, relV_one']
    · refine Run.retP tab_ok Tryd.func18 rfl ?_ (fun M => ?_)
      · simp [fillL, Value.cells]
      rw [rightL, if_neg h]; rfl
theorem rightR_enters : Enters Tryd.prog 18 := enters_mk Tryd.func18 (by decide) rfl

/-- A right relation's bounds. -/
theorem rightL_n (r : Rl) : 0 ≤ (rightL r).n ∧ (rightL r).n ≤ 64 := by
  unfold rightL
  split
  · rename_i h
    unfold checkI at h
    split at h
    · cases h
    · omega
  · simp [Rl.void]

theorem good_void : ∀ i, i < 64 → good (Rl.void 0) i = true := by
  intro i _
  unfold good
  rw [Rl.row_void]
  simp

theorem rightL_good (r : Rl) : ∀ i, i < 64 → good (rightL r) i = true := by
  unfold rightL
  split
  · rename_i h
    unfold checkI at h
    split at h
    · cases h
    · split at h
      · rename_i h2; exact h2
      · cases h
  · exact good_void

theorem checkI_right (r : Rl) : checkI (rightL r) = 0 := by
  have h := rightL_n r
  unfold checkI
  rw [if_neg (by omega), if_pos (rightL_good r)]

theorem rightL_of (r : Rl) (h : checkI r = 0) : rightL r = r := by unfold rightL; rw [if_pos h]
theorem rightL_idem (r : Rl) : rightL (rightL r) = rightL r := rightL_of _ (checkI_right r)

/-- Where a right relation's pairs are. -/
theorem right_has (r : Rl) (a b : Nat) (h : (rightL r).has a b = true) : (a : Int) < (rightL r).n ∧ (b : Int) < (rightL r).n := by
  have hn := rightL_n r
  have ha : a < 64 := by
    rcases Nat.lt_or_ge a 64 with h1 | h1
    · exact h1
    · rw [Rl.has, Rl.row_ge _ h1] at h; simp at h
  have hb : b < 64 := by
    rcases Nat.lt_or_ge b 64 with h1 | h1
    · exact h1
    · rw [Rl.has, BitVec.getLsbD_of_ge _ _ h1] at h; cases h
  have := (good_iff (rightL r) a hn.1).1 (rightL_good r a ha) b hb
  unfold okBit at this
  by_cases h1 : (a : Int) < (rightL r).n
  · by_cases h2 : (b : Int) < (rightL r).n
    · exact ⟨h1, h2⟩
    · exact absurd ⟨h, .inr (by omega)⟩ this
  · exact absurd ⟨h, .inl (by omega)⟩ this

/-- Does a stand to b, numbers of whatever size? -/
def hasI (r : Rl) (a b : Int) : Bool := decide (0 ≤ a ∧ a < r.n ∧ 0 ≤ b ∧ b < r.n) && r.has a.toNat b.toNat
end Go.Proofs.YtocpkgckllbjlaaDoor

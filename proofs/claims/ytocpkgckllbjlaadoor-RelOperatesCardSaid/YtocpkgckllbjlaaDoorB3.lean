/-
  Has, Count, here and in the reference. Own work.
-/
import Derived.Test.YtocpkgckllbjlaaDoorB2
namespace Go.Proofs.YtocpkgckllbjlaaDoor
open Go.AM
set_option maxRecDepth 100000

theorem bit_eq (x : BitVec 64) (b : Int) : (band .u64 (shrI .u64 (un x) b) 1 == 1) = x.getLsbD b.toNat := by
  rw [shr_un, band1_un, Bool.eq_iff_iff, beq_iff_eq, un_eq1, bit_iff]

theorem has_ok (r : Rl) (a b : Int) (w : World) : Gives Tryd.prog 16 [encRel r, .int .i64 a, .int .i64 b] w (.bool (hasI (rightL r) a b)) := by
  refine Gives.of_run Tryd.func16 rfl (by show 3 ≤ 37; decide) ?_
  refine RunF_sound tab_ok noX_local 100 [] _ _ rfl ?_ ?_
  · simp
  refine Run.callFn noX_local rfl rfl rfl rfl rfl rfl rfl right_enters rfl (fun w' _ => right_ok r w') ?_
  have hn := rightL_n r
  generalize rightL r = R at hn
  by_cases c1 : 0 ≤ a
  · by_cases c2 : a < R.n
    · by_cases c3 : 0 ≤ b
      · by_cases c4 : b < R.n
        · have hk : a.toNat < 64 := by omega
          refine RunF_sound tab_ok noX_local 200 [true, true, true, true] _ _ rfl ?_ ?_
          · simp [fillL, Value.cells, segsVals, relV_one', c1, c2, c3, c4, splice, relV_get _ _ hk, intAt_row _ _ hk]
            omega
          · refine Run.retP tab_ok Tryd.func16 rfl trivial (fun M => ?_)
            show Value.bool _ = _
            simp only [splice, List.take_zero, List.nil_append, relV_length, List.drop_length, List.append_nil, Nat.zero_add]
            rw [show 1 - 0 + a.toNat * 1 = 1 + a.toNat by omega, intAt_row _ _ hk, bit_eq]
            simp [hasI, c1, c2, c3, c4, Rl.has]
        · refine RunF_sound tab_ok noX_local 200 [true, true, true, false] _ _ rfl ?_ ?_
          · simp [fillL, Value.cells, segsVals, relV_one', c1, c2, c3, c4, splice]
          · refine Run.retP tab_ok Tryd.func16 rfl trivial (fun M => ?_)
            simp [hasI, c4, resAV, conc]
      · refine RunF_sound tab_ok noX_local 200 [true, true, false] _ _ rfl ?_ ?_
        · simp [fillL, Value.cells, segsVals, relV_one', c1, c2, c3, splice]
        · refine Run.retP tab_ok Tryd.func16 rfl trivial (fun M => ?_)
          simp [hasI, c3, resAV, conc]
    · refine RunF_sound tab_ok noX_local 200 [true, false] _ _ rfl ?_ ?_
      · simp [fillL, Value.cells, segsVals, relV_one', c1, c2, splice]
      · refine Run.retP tab_ok Tryd.func16 rfl trivial (fun M => ?_)
        simp [hasI, c2, resAV, conc]
  · refine RunF_sound tab_ok noX_local 200 [false] _ _ rfl ?_ ?_
    · simp [fillL, Value.cells, segsVals, relV_one', c1, splice]
    · refine Run.retP tab_ok Tryd.func16 rfl trivial (fun M => ?_)
      simp [hasI, c1, resAV, conc]
theorem has_enters : Enters Tryd.prog 16 := enters_mk Tryd.func16 (by decide) rfl

theorem hasR_ok (R : Rl) (hn : 0 ≤ R.n ∧ R.n ≤ 64) (a b : Int) (w : World) : Gives Tryd.prog 17 [encRel R, .int .i64 a, .int .i64 b] w (.bool (hasI R a b)) := by
  refine Gives.of_run Tryd.func17 rfl (by show 3 ≤ 35; decide) ?_
  by_cases c1 : 0 ≤ a
  · by_cases c3 : 0 ≤ b
    · by_cases c2 : a < R.n
      · by_cases c4 : b < R.n
        · have hk : a.toNat < 64 := by omega
          refine RunF_sound tab_ok noX_local 200 [true, true, true, true] _ _ rfl ?_ ?_
          · simp [c1, c2, c3, c4, relV_get _ _ hk, intAt_row _ _ hk]
            omega
          · refine Run.retP tab_ok Tryd.func17 rfl trivial (fun M => ?_)
            show Value.bool _ = _
            rw [show 1 - 0 + a.toNat * 1 = 1 + a.toNat by omega, intAt_row _ _ hk, bit_eq]
            simp [hasI, c1, c2, c3, c4, Rl.has]
        · refine RunF_sound tab_ok noX_local 200 [true, true, true, false] _ _ rfl ?_ ?_
          · simp [c1, c2, c3, c4]
          · refine Run.retP tab_ok Tryd.func17 rfl trivial (fun M => ?_)
            simp [hasI, c4, resAV, conc]
      · refine RunF_sound tab_ok noX_local 200 [true, true, false] _ _ rfl ?_ ?_
        · simp [c1, c2, c3]
        · refine Run.retP tab_ok Tryd.func17 rfl trivial (fun M => ?_)
          simp [hasI, c2, resAV, conc]
    · refine RunF_sound tab_ok noX_local 200 [true, false] _ _ rfl ?_ ?_
      · simp [c1, c3]
      · refine Run.retP tab_ok Tryd.func17 rfl trivial (fun M => ?_)
        simp [hasI, c3, resAV, conc]
  · refine RunF_sound tab_ok noX_local 200 [false] _ _ rfl ?_ ?_
    · simp [c1]
    · refine Run.retP tab_ok Tryd.func17 rfl trivial (fun M => ?_)
      simp [hasI, c1, resAV, conc]
theorem hasR_enters : Enters Tryd.prog 17 := enters_mk Tryd.func17 (by decide) rfl

/-- The pairs from a number on. -/
def restL (r : Rl) : Nat → Nat → List (Int × Int)
  | _, 0 => []
  | i, d + 1 => (bitsL (r.row i)).map (fun b : Nat => ((i : Int), (b : Int))) ++ restL r (i + 1) d

/-- The pairs of a right relation, in order. -/
def edgesL (r : Rl) : List (Int × Int) := restL r 0 r.n.toNat

def sumL (r : Rl) : Nat → Nat → Nat
  | _, 0 => 0
  | i, d + 1 => (bitsL (r.row i)).length + sumL r (i + 1) d

theorem sumL_le (r : Rl) : ∀ d i, sumL r i d ≤ 64 * d
  | 0, _ => Nat.zero_le _
  | d + 1, i => by
    have := bitsL_len_le (r.row i)
    have := sumL_le r d (i + 1)
    simp only [sumL]; omega

theorem restL_len (r : Rl) : ∀ d i, (restL r i d).length = sumL r i d
  | 0, _ => rfl
  | d + 1, i => by simp [restL, sumL, restL_len r d]

theorem sumL_split (r : Rl) (i : Nat) : ∀ d e, sumL r i (d + e) = sumL r i d + sumL r (i + d) e := by
  intro d
  induction d generalizing i with
  | zero => intro e; simp [sumL]
  | succ d ih =>
    intro e
    rw [show d + 1 + e = (d + e) + 1 by omega]
    simp only [sumL]
    rw [ih (i + 1) e, show i + 1 + d = i + (d + 1) by omega]
    omega

theorem count_ok (r : Rl) (w : World) : Gives Tryd.prog 15 [encRel r] w (.int .i64 (sumL (rightL r) 0 64 : Int)) := by
  refine Gives.of_run Tryd.func15 rfl (by show 1 ≤ 18; decide) ?_
  refine RunF_sound tab_ok noX_local 100 [] _ _ rfl ?_ ?_
  · simp
  refine Run.callFn noX_local rfl rfl rfl rfl rfl rfl rfl right_enters rfl (fun w' _ => right_ok r w') ?_
  generalize rightL r = R
  refine RunF_sound tab_ok noX_local 100 [] _ _ rfl ?_ ?_
  · simp
  generalize htot : sumL R 0 64 = tot
  suffices H : ∀ d k s, k + d = 64 → s + sumL R k d = tot → s ≤ 64 * k → ∀ σ, inT σ.t [(3, .v (.int .i64 (s : Int))), (8, .v (.agg (rowV R).toArray)), (9, .v (.int .i64 (k : Int)))] → inT σ.h [] → Run _ _ σ by
    refine H 64 0 0 rfl (by omega) (by omega) _ ⟨rfl, ?_, rfl, trivial⟩ trivial
    exact congrArg (fun l : List Value => some (AV.v (Value.agg l.toArray))) (relV_drop R)
  intro d
  induction d with
  | zero =>
    intro k s hk hs hb σ ht hh
    refine Run.to ?_ ht hh (n' := 1)
    refine RunF_sound tab_ok noX_local 100 [false] _ _ rfl ?_ ?_
    · simp; omega
    · refine Run.retP tab_ok Tryd.func15 rfl trivial (fun M => ?_)
      have h0 : sumL R k 0 = 0 := rfl
      have : s = tot := by omega
      rw [← this]; rfl
  | succ d ih =>
    intro k s hk hs hb σ ht hh
    refine Run.to ?_ ht hh (n' := 1)
    have hk' : k < 64 := by omega
    have e := intAt_rowV R k hk'
    have e2 := rowV_get R k hk'
    have hl := bitsL_len_le (R.row k)
    refine RunF_sound tab_ok noX_local 100 [true] _ _ rfl ?_ ?_
    · simp [e, e2]; omega
    simp only [Int.toNat_natCast, Nat.mul_one, e]
    refine Run.callFn noX_local rfl rfl rfl rfl rfl rfl rfl ones_enters rfl (fun w' _ => ones_ok (R.row k) w') ?_
    refine RunF_sound tab_ok noX_local 100 [] _ _ rfl ?_ ?_
    · simp
    refine ih (k + 1) (s + (bitsL (R.row k)).length) (by omega) (by rw [sumL] at hs; omega) (by omega) _ ⟨?_, rfl, i64_eq (wrap_succ (by omega)), trivial⟩ trivial
    refine i64_eq ?_
    rw [wrap_i64] <;> omega
theorem count_enters : Enters Tryd.prog 15 := enters_mk Tryd.func15 (by decide) rfl

theorem right_row0 (r : Rl) (i : Nat) (h : (rightL r).n ≤ (i : Int)) : (rightL r).row i = 0#64 := by
  apply BitVec.eq_of_getLsbD_eq
  intro j _
  rw [BitVec.getLsbD_zero]
  cases hb : ((rightL r).row i).getLsbD j with
  | false => rfl
  | true => have := right_has r i j hb; omega

theorem sumL_beyond (r : Rl) : ∀ (d i : Nat), (rightL r).n ≤ (i : Int) → sumL (rightL r) i d = 0
  | 0, _, _ => rfl
  | d + 1, i, h => by
    simp only [sumL, right_row0 r i h, bitsL_zero, List.length_nil]
    rw [sumL_beyond r d (i + 1) (by omega)]

/-- Count is how many pairs there are. -/
theorem count_edges (r : Rl) : sumL (rightL r) 0 64 = (edgesL (rightL r)).length := by
  have hn := rightL_n r
  rw [edgesL, restL_len]
  obtain ⟨m, hm⟩ : ∃ m : Nat, (rightL r).n.toNat = m := ⟨_, rfl⟩
  have := sumL_split (rightL r) 0 m (64 - m)
  rw [show m + (64 - m) = 64 by omega, sumL_beyond r (64 - m) (0 + m) (by omega)] at this
  rw [hm]; omega
end Go.Proofs.YtocpkgckllbjlaaDoor

/-
  Own work, merged: PL, B2, B3, B4, B5, B6, B7, C0, C1, C2, C3, C4, C5, C6, C7.
-/
import Derived.AtR
import Derived.Below
import Derived.ChangeKeysEq
import Derived.KernelRfl
import Derived.LaidMore
import Derived.Laws.AppendOwn
import Derived.Laws.BytesString
import Derived.Laws.Cells
import Derived.Laws.CopyRow
import Derived.Laws.Entries
import Derived.Laws.Rows
import Derived.Laws.Small
import Derived.Laws.StructEq
import Derived.Lib.LaidTab
import Derived.Lib.TrailingZeros
import Derived.Maps.AppendAt
import Derived.OpenShut
import Derived.Orders
import Derived.ProofKit
import Derived.RangeFuncRecord
import Derived.SevenTiedAt
import Derived.Stop.Joined
import Derived.Test.YtocpkgckllbjlaaDoorCards
import Derived.Test.YtocpkgckllbjlaaDoorProg
import Derived.Test.YtocpkgckllbjlaaDoorRows
import Derived.Test.YtocpkgckllbjlaaDoorTie
import Derived.Test.YtocpkgckllbjlaaDoorQ42B0DF
/-
  What the rows of this seat share: the listed table out of the row's condition; the witness's heap. Own work.
-/
namespace Go.Proofs.YtocpkgckllbjlaaDoor
open Go.ChangeShapes Go.WideShapes Go.ChangeAt Go.RowKit Go.AM

theorem Tryd.own : ownKnob Tryd.prog.godebug = none := by kernel_rfl
theorem Tryd.laidOut : laidOutB Tryd.prog = true := by kernel_rfl
theorem Tryd.gTab : Tryd.prog.globalNamed "math/bits.deBruijn64tab" = some 0 := by kernel_rfl
theorem Tryd.gTabType : (Tryd.prog.globals[0]?).map (·.type) = some 92 := by kernel_rfl

abbrev laidL : List (String × DataW Unit) := [("math/bits.deBruijn64tab", Rows.laid_math_bits_deBruijn64tab)]

theorem tab_of_laid {W : World} (h : laidMetH Tryd.prog laidL W) : TabAt W ∧ 0 < W.heap.size := by
  rw [MakeChecks.laidMetH_plain _ _ _ (by kernel_rfl)] at h
  have h1 : Lib.TabIs Tryd.prog W "math/bits.deBruijn64tab" .u8 (Lib.deBruijn64tab.map fun n : Nat => (n : Int)) :=
    Lib.tabIs_of_head Tryd.gTab Tryd.gTabType Tryd.underlying92 Tryd.underlying5 (by kernel_rfl) (by kernel_rfl) h
  have h2 : TabAt W := by
    intro j hj
    rw [World.var?_cell Tryd.gTab h1 j]
    have hl : Lib.deBruijn64tab.length = 64 := by decide
    simp [hl, hj, List.getD]
  exact ⟨h2, World.block_lt_of_cell? W _ (h2 0 (by decide))⟩

theorem door_met (os : Os) (args : Array Value) : laidMetH Tryd.prog laidL ((World.doorLaid Tryd.prog 14 os).forCall (fun _ _ => 0) ⟨#[], args, []⟩).memory :=
  laidMetH_of_parts3 (fuel := 8) (laidMet_of_run' 8 (by kernel_rfl) (by kernel_rfl)) (by kernel_rfl) (by kernel_rfl)
end Go.Proofs.YtocpkgckllbjlaaDoor

/-
  right, Has, Count, here and in the reference. Own work.
-/
namespace Go.Proofs.YtocpkgckllbjlaaDoor
open Go.AM
set_option maxRecDepth 100000

open Classical in
/-- The relation, if it is right. -/
noncomputable def rightL (r : Rl) : Rl := if checkI r = 0 then r else Rl.void 0

theorem right_ok (r : Rl) (w : World) : Gives Tryd.prog 70 [encRel r] w (encRel (rightL r)) := by
  refine Gives.of_run Tryd.func70 rfl (by show 1 ≤ 8; decide) ?_
  refine RunF_sound tab_ok noX_local 100 [] _ _ rfl ?_ ?_
  · simp
  refine Run.callFn noX_local rfl rfl rfl rfl rfl rfl rfl check_enters rfl (fun w' _ => check_ok r w') ?_
  by_cases h : checkI r = 0
  · refine RunF_sound tab_ok noX_local 100 [false] _ _ rfl ?_ ?_
    · simp [h, segsVals, relV_one']
    · refine Run.retP tab_ok Tryd.func70 rfl ?_ (fun M => ?_)
      · simp
      rw [rightL, if_pos h]; rfl
  · refine RunF_sound tab_ok noX_local 100 [true] _ _ rfl ?_ ?_
    · simp [h, fillL, Value.cells, segsVals, relV_one']
    · refine Run.retP tab_ok Tryd.func70 rfl ?_ (fun M => ?_)
      · simp [fillL, Value.cells]
      rw [rightL, if_neg h]; rfl
theorem right_enters : Enters Tryd.prog 70 := enters_mk Tryd.func70 (by decide) rfl

theorem rightR_ok (r : Rl) (w : World) : Gives Tryd.prog 18 [encRel r] w (encRel (rightL r)) := by
  refine Gives.of_run Tryd.func18 rfl (by show 1 ≤ 8; decide) ?_
  refine RunF_sound tab_ok noX_local 100 [] _ _ rfl ?_ ?_
  · simp
  refine Run.callFn noX_local rfl rfl rfl rfl rfl rfl rfl checkR_enters rfl (fun w' _ => checkR_ok r w') ?_
  by_cases h : checkI r = 0
  · refine RunF_sound tab_ok noX_local 100 [false] _ _ rfl ?_ ?_
    · simp [h, segsVals, relV_one']
    · refine Run.retP tab_ok Tryd.func18 rfl ?_ (fun M => ?_)
      · simp
      rw [rightL, if_pos h]; rfl
  · refine RunF_sound tab_ok noX_local 100 [true] _ _ rfl ?_ ?_
    · simp [h, fillL, Value.cells, segsVals, relV_one']
    · refine Run.retP tab_ok Tryd.func18 rfl ?_ (fun M => ?_)
      · simp [fillL, Value.cells]
      rw [rightL, if_neg h]; rfl
theorem rightR_enters : Enters Tryd.prog 18 := enters_mk Tryd.func18 (by decide) rfl

/-- A right relation's bounds. -/
theorem rightL_n (r : Rl) : 0 ≤ (rightL r).n ∧ (rightL r).n ≤ 64 := by
  unfold rightL
  split
  · rename_i h
    unfold checkI at h
    split at h
    · cases h
    · omega
  · simp [Rl.void]

theorem good_void : ∀ i, i < 64 → good (Rl.void 0) i = true := by
  intro i _
  unfold good
  rw [Rl.row_void]
  simp

theorem rightL_good (r : Rl) : ∀ i, i < 64 → good (rightL r) i = true := by
  unfold rightL
  split
  · rename_i h
    unfold checkI at h
    split at h
    · cases h
    · split at h
      · rename_i h2; exact h2
      · cases h
  · exact good_void

theorem checkI_right (r : Rl) : checkI (rightL r) = 0 := by
  have h := rightL_n r
  unfold checkI
  rw [if_neg (by omega), if_pos (rightL_good r)]

theorem rightL_of (r : Rl) (h : checkI r = 0) : rightL r = r := by unfold rightL; rw [if_pos h]
theorem rightL_idem (r : Rl) : rightL (rightL r) = rightL r := rightL_of _ (checkI_right r)

/-- Where a right relation's pairs are. -/
theorem right_has (r : Rl) (a b : Nat) (h : (rightL r).has a b = true) : (a : Int) < (rightL r).n ∧ (b : Int) < (rightL r).n := by
  have hn := rightL_n r
  have ha : a < 64 := by
    rcases Nat.lt_or_ge a 64 with h1 | h1
    · exact h1
    · rw [Rl.has, Rl.row_ge _ h1] at h; simp at h
  have hb : b < 64 := by
    rcases Nat.lt_or_ge b 64 with h1 | h1
    · exact h1
    · rw [Rl.has, BitVec.getLsbD_of_ge _ _ h1] at h; cases h
  have := (good_iff (rightL r) a hn.1).1 (rightL_good r a ha) b hb
  unfold okBit at this
  by_cases h1 : (a : Int) < (rightL r).n
  · by_cases h2 : (b : Int) < (rightL r).n
    · exact ⟨h1, h2⟩
    · exact absurd ⟨h, .inr (by omega)⟩ this
  · exact absurd ⟨h, .inl (by omega)⟩ this

/-- Does a stand to b, numbers of whatever size? -/
def hasI (r : Rl) (a b : Int) : Bool := decide (0 ≤ a ∧ a < r.n ∧ 0 ≤ b ∧ b < r.n) && r.has a.toNat b.toNat
end Go.Proofs.YtocpkgckllbjlaaDoor

/-
  Has, Count, here and in the reference. Own work.
-/
namespace Go.Proofs.YtocpkgckllbjlaaDoor
open Go.AM
set_option maxRecDepth 100000

theorem bit_eq (x : BitVec 64) (b : Int) : (band .u64 (shrI .u64 (un x) b) 1 == 1) = x.getLsbD b.toNat := by
  rw [shr_un, band1_un, Bool.eq_iff_iff, beq_iff_eq, un_eq1, bit_iff]

theorem has_ok (r : Rl) (a b : Int) (w : World) : Gives Tryd.prog 16 [encRel r, .int .i64 a, .int .i64 b] w (.bool (hasI (rightL r) a b)) := by
  refine Gives.of_run Tryd.func16 rfl (by show 3 ≤ 37; decide) ?_
  refine RunF_sound tab_ok noX_local 100 [] _ _ rfl ?_ ?_
  · simp
  refine Run.callFn noX_local rfl rfl rfl rfl rfl rfl rfl right_enters rfl (fun w' _ => right_ok r w') ?_
  have hn := rightL_n r
  generalize rightL r = R at hn
  by_cases c1 : 0 ≤ a
  · by_cases c2 : a < R.n
    · by_cases c3 : 0 ≤ b
      · by_cases c4 : b < R.n
        · have hk : a.toNat < 64 := by omega
          refine RunF_sound tab_ok noX_local 200 [true, true, true, true] _ _ rfl ?_ ?_
          · simp [segsVals, relV_one', c1, c2, c3, c4, relV_get _ _ hk, intAt_row _ _ hk]
            omega
          · refine Run.retP tab_ok Tryd.func16 rfl trivial (fun M => ?_)
            show Value.bool _ = _
            simp only [Nat.zero_add]
            rw [show 1 - 0 + a.toNat * 1 = 1 + a.toNat by omega, intAt_row _ _ hk, bit_eq]
            simp [hasI, c1, c2, c3, c4, Rl.has]
        · refine RunF_sound tab_ok noX_local 200 [true, true, true, false] _ _ rfl ?_ ?_
          · simp [segsVals, relV_one', c1, c2, c3, c4]
          · refine Run.retP tab_ok Tryd.func16 rfl trivial (fun M => ?_)
            simp [hasI, c4, conc]
      · refine RunF_sound tab_ok noX_local 200 [true, true, false] _ _ rfl ?_ ?_
        · simp [segsVals, relV_one', c1, c2, c3]
        · refine Run.retP tab_ok Tryd.func16 rfl trivial (fun M => ?_)
          simp [hasI, c3, conc]
    · refine RunF_sound tab_ok noX_local 200 [true, false] _ _ rfl ?_ ?_
      · simp [segsVals, relV_one', c1, c2]
      · refine Run.retP tab_ok Tryd.func16 rfl trivial (fun M => ?_)
        simp [hasI, c2, conc]
  · refine RunF_sound tab_ok noX_local 200 [false] _ _ rfl ?_ ?_
    · simp [segsVals, relV_one', c1]
    · refine Run.retP tab_ok Tryd.func16 rfl trivial (fun M => ?_)
      simp [hasI, c1, conc]
theorem has_enters : Enters Tryd.prog 16 := enters_mk Tryd.func16 (by decide) rfl

theorem hasR_ok (R : Rl) (hn : 0 ≤ R.n ∧ R.n ≤ 64) (a b : Int) (w : World) : Gives Tryd.prog 17 [encRel R, .int .i64 a, .int .i64 b] w (.bool (hasI R a b)) := by
  refine Gives.of_run Tryd.func17 rfl (by show 3 ≤ 35; decide) ?_
  by_cases c1 : 0 ≤ a
  · by_cases c3 : 0 ≤ b
    · by_cases c2 : a < R.n
      · by_cases c4 : b < R.n
        · have hk : a.toNat < 64 := by omega
          refine RunF_sound tab_ok noX_local 200 [true, true, true, true] _ _ rfl ?_ ?_
          · simp [c1, c2, c3, c4, relV_get _ _ hk, intAt_row _ _ hk]
            omega
          · refine Run.retP tab_ok Tryd.func17 rfl trivial (fun M => ?_)
            show Value.bool _ = _
            rw [show 1 - 0 + a.toNat * 1 = 1 + a.toNat by omega, intAt_row _ _ hk, bit_eq]
            simp [hasI, c1, c2, c3, c4, Rl.has]
        · refine RunF_sound tab_ok noX_local 200 [true, true, true, false] _ _ rfl ?_ ?_
          · simp [c1, c2, c3, c4]
          · refine Run.retP tab_ok Tryd.func17 rfl trivial (fun M => ?_)
            simp [hasI, c4, conc]
      · refine RunF_sound tab_ok noX_local 200 [true, true, false] _ _ rfl ?_ ?_
        · simp [c1, c2, c3]
        · refine Run.retP tab_ok Tryd.func17 rfl trivial (fun M => ?_)
          simp [hasI, c2, conc]
    · refine RunF_sound tab_ok noX_local 200 [true, false] _ _ rfl ?_ ?_
      · simp [c1, c3]
      · refine Run.retP tab_ok Tryd.func17 rfl trivial (fun M => ?_)
        simp [hasI, c3, conc]
  · refine RunF_sound tab_ok noX_local 200 [false] _ _ rfl ?_ ?_
    · simp [c1]
    · refine Run.retP tab_ok Tryd.func17 rfl trivial (fun M => ?_)
      simp [hasI, c1, conc]
theorem hasR_enters : Enters Tryd.prog 17 := enters_mk Tryd.func17 (by decide) rfl

/-- The pairs from a number on. -/
def restL (r : Rl) : Nat → Nat → List (Int × Int)
  | _, 0 => []
  | i, d + 1 => (bitsL (r.row i)).map (fun b : Nat => ((i : Int), (b : Int))) ++ restL r (i + 1) d

/-- The pairs of a right relation, in order. -/
def edgesL (r : Rl) : List (Int × Int) := restL r 0 r.n.toNat

def sumL (r : Rl) : Nat → Nat → Nat
  | _, 0 => 0
  | i, d + 1 => (bitsL (r.row i)).length + sumL r (i + 1) d

theorem sumL_le (r : Rl) : ∀ d i, sumL r i d ≤ 64 * d
  | 0, _ => Nat.zero_le _
  | d + 1, i => by
    have := bitsL_len_le (r.row i)
    have := sumL_le r d (i + 1)
    simp only [sumL]; omega

theorem restL_len (r : Rl) : ∀ d i, (restL r i d).length = sumL r i d
  | 0, _ => rfl
  | d + 1, i => by simp [restL, sumL, restL_len r d]

theorem sumL_split (r : Rl) (i : Nat) : ∀ d e, sumL r i (d + e) = sumL r i d + sumL r (i + d) e := by
  intro d
  induction d generalizing i with
  | zero => intro e; simp [sumL]
  | succ d ih =>
    intro e
    rw [show d + 1 + e = (d + e) + 1 by omega]
    simp only [sumL]
    rw [ih (i + 1) e, show i + 1 + d = i + (d + 1) by omega]
    omega

theorem count_ok (r : Rl) (w : World) : Gives Tryd.prog 15 [encRel r] w (.int .i64 (sumL (rightL r) 0 64 : Int)) := by
  refine Gives.of_run Tryd.func15 rfl (by show 1 ≤ 18; decide) ?_
  refine RunF_sound tab_ok noX_local 100 [] _ _ rfl ?_ ?_
  · simp
  refine Run.callFn noX_local rfl rfl rfl rfl rfl rfl rfl right_enters rfl (fun w' _ => right_ok r w') ?_
  generalize rightL r = R
  refine RunF_sound tab_ok noX_local 100 [] _ _ rfl ?_ ?_
  · simp
  generalize htot : sumL R 0 64 = tot
  suffices H : ∀ d k s, k + d = 64 → s + sumL R k d = tot → s ≤ 64 * k → ∀ σ, inT σ.t [(3, .v (.int .i64 (s : Int))), (8, .v (.agg (rowV R).toArray)), (9, .v (.int .i64 (k : Int)))] → inT σ.h [] → Run _ _ σ by
    refine H 64 0 0 rfl (by omega) (by omega) _ ⟨rfl, ?_, rfl, trivial⟩ trivial
    exact congrArg (fun l : List Value => some (AV.v (Value.agg l.toArray))) (relV_drop R)
  intro d
  induction d with
  | zero =>
    intro k s hk hs hb σ ht hh
    refine Run.to ?_ ht hh (n' := 1)
    refine RunF_sound tab_ok noX_local 100 [false] _ _ rfl ?_ ?_
    · simp; omega
    · refine Run.retP tab_ok Tryd.func15 rfl trivial (fun M => ?_)
      have h0 : sumL R k 0 = 0 := rfl
      have : s = tot := by omega
      rw [← this]; rfl
  | succ d ih =>
    intro k s hk hs hb σ ht hh
    refine Run.to ?_ ht hh (n' := 1)
    have hk' : k < 64 := by omega
    have e := intAt_rowV R k hk'
    have e2 := rowV_get R k hk'
    have hl := bitsL_len_le (R.row k)
    refine RunF_sound tab_ok noX_local 100 [true] _ _ rfl ?_ ?_
    · simp [e, e2]; omega
    simp only [Int.toNat_natCast, Nat.mul_one, e]
    refine Run.callFn noX_local rfl rfl rfl rfl rfl rfl rfl ones_enters rfl (fun w' _ => ones_ok (R.row k) w') ?_
    refine RunF_sound tab_ok noX_local 100 [] _ _ rfl ?_ ?_
    · simp
    refine ih (k + 1) (s + (bitsL (R.row k)).length) (by omega) (by rw [sumL] at hs; omega) (by omega) _ ⟨?_, rfl, i64_eq (wrap_succ (by omega)), trivial⟩ trivial
    refine i64_eq ?_
    rw [wrap_i64] <;> omega
theorem count_enters : Enters Tryd.prog 15 := enters_mk Tryd.func15 (by decide) rfl

theorem right_row0 (r : Rl) (i : Nat) (h : (rightL r).n ≤ (i : Int)) : (rightL r).row i = 0#64 := by
  apply BitVec.eq_of_getLsbD_eq
  intro j _
  rw [BitVec.getLsbD_zero]
  cases hb : ((rightL r).row i).getLsbD j with
  | false => rfl
  | true => have := right_has r i j hb; omega

theorem sumL_beyond (r : Rl) : ∀ (d i : Nat), (rightL r).n ≤ (i : Int) → sumL (rightL r) i d = 0
  | 0, _, _ => rfl
  | d + 1, i, h => by
    simp only [sumL, right_row0 r i h, bitsL_zero, List.length_nil]
    rw [sumL_beyond r d (i + 1) (by omega)]

/-- Count is how many pairs there are. -/
theorem count_edges (r : Rl) : sumL (rightL r) 0 64 = (edgesL (rightL r)).length := by
  have hn := rightL_n r
  rw [edgesL, restL_len]
  obtain ⟨m, hm⟩ : ∃ m : Nat, (rightL r).n.toNat = m := ⟨_, rfl⟩
  have := sumL_split (rightL r) 0 m (64 - m)
  rw [show m + (64 - m) = 64 by omega, sumL_beyond r (64 - m) (0 + m) (by omega)] at this
  rw [hm]; omega
end Go.Proofs.YtocpkgckllbjlaaDoor

/-
  rel.Edges: the iterator that it hands back. Own work.
-/
namespace Go.Proofs.YtocpkgckllbjlaaDoor
open Go.AM
set_option maxRecDepth 100000

/-- A relation that lies whole in a block. -/
def RelAt (w : World) (b : Nat) (r : Rl) : Prop := ∀ q x, (relV r)[q]? = some x → w.cell? ⟨b, q, none⟩ = some x

def encEd (e : Int × Int) : List Value := [.agg #[.int .i64 e.1, .int .i64 e.2]]
/-- What an iterator over pairs hands over. -/
def encEs (l : List (Int × Int)) : List (List Value) := l.map encEd

/-- The iterator's blocks: the table's, the relation's. -/
def edgesK (b : Nat) : Nat → Prop := fun k => k = 0 ∨ k = b

theorem RelAt.agree {S : Nat → Prop} {w w' : World} {b : Nat} {r : Rl} (h : RelAt w b r) (hA : Agree S w w') (hS : ¬ S b) : RelAt w' b r := fun q x hq => hA.cell (h q x hq) hS

theorem bits_restL (r : Rl) (i d : Nat) (y : BitVec 64) (hy : y ≠ 0#64) (tail : List (Int × Int)) :
    (bitsL y).map (fun b : Nat => ((i : Int), (b : Int))) ++ tail = ((i : Int), (tz y : Int)) :: ((bitsL (dropLow y)).map (fun b : Nat => ((i : Int), (b : Int))) ++ tail) := by
  rw [bitsL_cons y hy]; rfl

theorem edges_iter (r : Rl) (hn : 0 ≤ r.n ∧ r.n ≤ 64) (b : Nat) (w0 : World) (hb : RelAt w0 b r) (hT : TabAt w0) :
    Iter Tryd.prog 71 [.pointer (some ⟨b, 0, none⟩)] (edgesK b) w0 (encEs (edgesL r)) := by
  refine Iter.of_run Tryd.func71 rfl (by show 2 ≤ 28; decide) ?_
  intro y J Js w fp hJ hJs hy hag hfp R hR
  have hbw : RelAt w b r := hb.agree hag (fun h => h (.inr rfl))
  have hTw : TabAt w := hT.agree hag (fun h => h (.inl rfl))
  have hf0 : ¬ fp 0 := fun h => hfp 0 h (.inl rfl)
  have hfb : ¬ fp b := fun h => hfp b h (.inr rfl)
  have c0 : w.cell? ⟨b, 0, none⟩ = some (.int .i64 r.n) := hbw 0 _ rfl
  have hres : (Tryd.f71).results = #[] := rfl
  refine RunF_sound tab_ok (hJ []) 100 [] _ _ rfl ?_ ?_
  · simp only [fnC_w0, fnC_S0, add_lit', Nat.zero_add, c0]
    simp [hfb]
  simp only [fnC_w0, add_lit', Nat.zero_add, c0]
  -- the outer loop
  suffices H : ∀ (d i : Nat) (pre : List (List Value)), (i : Int) + d = r.n → pre ++ encEs (restL r i d) = encEs (edgesL r) →
      ∀ σ, inT σ.t [(0, .v y), (1, .v (.pointer (some ⟨b, 0, none⟩))), (6, .v (.int .i64 r.n)), (7, .v (.int .i64 (i : Int)))] → inT σ.h [] →
        Run (fnC Tryd.prog 71 (Tryd.f71).ntmps w fp (J pre) R) _ σ by
    exact H r.n.toNat 0 [] (by omega) rfl _ ⟨rfl, rfl, rfl, rfl, trivial⟩ trivial
  intro d
  induction d with
  | zero =>
    intro i pre hi hp σ ht hh
    refine Run.to ?_ ht hh (n' := 0)
    refine RunF_sound tab_ok (hJ pre) 100 [false] _ _ rfl ?_ ?_
    · simp; omega
    · refine Run.finI Tryd.func71 hres fun v w' fp' hg hX => hR v w' fp' pre hg (.inl ⟨?_, hX⟩)
      simpa [restL, encEs] using hp
  | succ d ih =>
    intro i pre hi hp σ ht hh
    refine Run.to ?_ ht hh (n' := 0)
    have hi' : i < 64 := by omega
    have c1 : w.cell? ⟨b, 1 + i, none⟩ = some (.int .u64 (un (r.row i))) := hbw _ _ (relV_get r i hi')
    refine RunF_sound tab_ok (hJ pre) 100 [true] _ _ rfl ?_ ?_
    · simp only [fnC_w0, fnC_S0, add_lit', Nat.zero_add, Int.toNat_natCast, Nat.mul_one, c1]
      simp [hfb]; omega
    simp only [fnC_w0, add_lit', Nat.zero_add, Int.toNat_natCast, Nat.mul_one, c1]
    -- the inner loop
    suffices H2 : ∀ (m : Nat) (x : BitVec 64) (pre : List (List Value)), (bitsL x).length = m → pre ++ encEs ((bitsL x).map (fun b : Nat => ((i : Int), (b : Int))) ++ restL r (i + 1) d) = encEs (edgesL r) →
        ∀ σ, inT σ.t [(0, .v y), (1, .v (.pointer (some ⟨b, 0, none⟩))), (6, .v (.int .i64 r.n)), (7, .v (.int .i64 (i : Int))), (3, .v (.int .i64 (i : Int))), (4, .v (.int .u64 (un x)))] → inT σ.h [] →
          Run (fnC Tryd.prog 71 (Tryd.f71).ntmps w fp (J pre) R) _ σ by
      exact H2 _ (r.row i) pre rfl hp _ ⟨rfl, rfl, rfl, rfl, rfl, rfl, trivial⟩ trivial
    intro m
    induction m with
    | zero =>
      intro x pre hm hp σ ht hh
      refine Run.to ?_ ht hh (n' := 0)
      have hx : x = 0#64 := by
        by_cases h : x = 0#64
        · exact h
        · rw [bitsL_cons x h] at hm; cases hm
      refine RunF_sound tab_ok (hJ pre) 100 [false] _ _ rfl ?_ ?_
      · simp [hx]
      refine ih (i + 1) pre (by omega) ?_ _ ⟨rfl, rfl, rfl, i64_eq (wrap_succ (by omega)), trivial⟩ trivial
      have : bitsL x = [] := List.length_eq_zero_iff.1 hm
      rw [this] at hp; exact hp
    | succ m ihm =>
      intro x pre hm hp σ ht hh
      refine Run.to ?_ ht hh (n' := 0)
      have hx : x ≠ 0#64 := fun h => by rw [h, bitsL_zero] at hm; cases hm
      refine RunF_sound tab_ok (hJ pre) 100 [true] _ _ rfl ?_ ?_
      · simp [hx]
      refine Run.callFn (hJ pre) rfl rfl rfl rfl rfl rfl rfl tz_enters rfl (fun w' hw' => tz_ok x w' (hTw.agree hw' hf0)) ?_
      have htz : tzI x = (tz x : Int) := by rw [tzI, if_neg hx]
      rw [bits_restL r i d x hx] at hp
      have hp' : (pre ++ [encEd ((i : Int), (tz x : Int))]) ++ encEs ((bitsL (dropLow x)).map (fun b : Nat => ((i : Int), (b : Int))) ++ restL r (i + 1) d) = encEs (edgesL r) := by
        rw [← hp]; simp [encEs]
      have hpx : pre ++ [encEd ((i : Int), (tz x : Int))] <+: encEs (edgesL r) := ⟨_, hp'⟩
      refine RunF_sound tab_ok (hJ pre) 100 [] _ _ rfl ?_ ?_
      · simp [fillL, Value.cells, splice]
      refine Run.yield (J := J) (Js := Js) rfl (hy pre _ hpx) rfl rfl rfl rfl rfl ?_ rfl rfl ?_ ?_
      · rw [htz]; rfl
      · refine RunF_sound tab_ok (hJ _) 100 [false] _ _ rfl ?_ ?_
        · simp
        refine ihm (dropLow x) _ ?_ hp' _ ⟨rfl, rfl, rfl, rfl, rfl, ?_, trivial⟩ trivial
        · rw [bitsL_cons x hx] at hm; simpa using hm
        · refine u64_eq ?_
          rw [sub1_un, band_un]; rfl
      · refine RunF_sound tab_ok (hJs _) 100 [true] _ _ rfl ?_ ?_
        · simp
        exact Run.retI Tryd.func71 hres fun v w' fp' hg hX => hR v w' fp' _ hg (.inr ⟨hpx, hX⟩)
theorem edgesIt_enters : Enters Tryd.prog 71 := enters_mk Tryd.func71 (by decide) rfl
end Go.Proofs.YtocpkgckllbjlaaDoor

/-
  rel.Edges and the reference's Edges. Own work.
-/
namespace Go.Proofs.YtocpkgckllbjlaaDoor
open Go.AM
set_option maxRecDepth 100000

/-- The iterator over a relation's pairs, as a value. -/
def edgesF (b : Nat) : Value := .func (.func 71) #[] #[.pointer (some ⟨b, 0, none⟩)]

theorem edges_ok (r : Rl) (w : World) : Makes Tryd.prog 13 [encRel r] w (fun v w' => ∃ b, v = edgesF b ∧ w.heap.size ≤ b ∧ RelAt w' b (rightL r)) := by
  refine Makes.of_run Tryd.func13 rfl (by show 1 ≤ 6; decide) ?_
  refine RunF_sound tab_ok noX_local 100 [] _ _ rfl ?_ ?_
  · simp
  refine Run.callFn noX_local rfl rfl rfl rfl rfl rfl rfl right_enters rfl (fun w' _ => right_ok r w') ?_
  refine RunF_sound tab_ok noX_local 100 [] _ _ rfl ?_ ?_
  · simp [segsVals, relV_one']
  refine Run.ret tab_ok Tryd.func13 rfl trivial fun M fp a w' hr => ⟨hr.agree, (M 0).1, rfl, ?_, ?_⟩
  · rcases Nat.lt_or_ge (M 0).1 w.heap.size with h | h
    · exact (hr.own 0 _ rfl h).elim
    · exact h
  · intro q x hq
    have hb : BlkAt M w' 0 (.cells 25 [.vals 65 (relV (rightL r))]) := hr.heap 0 _ rfl
    have := vals_cells hb (off := 0) (s0 := 0) rfl q x hq
    rwa [Nat.zero_add] at this
theorem edges_enters : Enters Tryd.prog 13 := enters_mk Tryd.func13 (by decide) rfl

/-! ### The reference's -/
/-- Some pairs of a row. -/
def rowFrom (r : Rl) (i : Nat) : Nat → Nat → List (Int × Int)
  | _, 0 => []
  | b, e + 1 => (if r.has i b then [((i : Int), (b : Int))] else []) ++ rowFrom r i (b + 1) e

theorem rowFrom_filter (r : Rl) (i : Nat) : ∀ e b, rowFrom r i b e = ((List.range' b e).filter fun j => r.has i j).map (fun j : Nat => ((i : Int), (j : Int)))
  | 0, _ => rfl
  | e + 1, b => by
    rw [rowFrom, rowFrom_filter r i e, List.range'_succ, List.filter_cons]
    split <;> simp

theorem rowFrom_all (r : Rl) (i : Nat) : rowFrom (rightL r) i 0 (rightL r).n.toNat = (bitsL ((rightL r).row i)).map (fun j : Nat => ((i : Int), (j : Int))) := by
  have hn := rightL_n r
  obtain ⟨m, hm⟩ : ∃ m : Nat, (rightL r).n.toNat = m := ⟨_, rfl⟩
  rw [hm, rowFrom_filter]
  congr 1
  unfold bitsL
  have e : List.range 64 = List.range' 0 m ++ List.range' (0 + m) (64 - m) := by
    rw [List.range'_append_1, List.range_eq_range', show m + (64 - m) = 64 by omega]
  rw [e, List.filter_append]
  have : (List.range' (0 + m) (64 - m)).filter (fun j => ((rightL r).row i).getLsbD j) = [] := by
    rw [List.filter_eq_nil_iff]
    intro j hj hb
    have := List.mem_range'_1.1 hj
    have := (right_has r i j hb).2
    omega
  rw [this, List.append_nil]
  rfl

/-- What is known of a list of pairs that grows. -/
def lstV : Nat → AV
  | 0 => .v (.slice none 0 0)
  | k + 1 => .sl 9 2 0 (k + 1)
def lstB (l : List (Int × Int)) : Nat → List (Nat × Blk)
  | 0 => []
  | k + 1 => [(9, .row 67 2 (k + 1) (encE l))]

theorem encE_append : ∀ (l m : List (Int × Int)), encE (l ++ m) = encE l ++ encE m
  | [], _ => rfl
  | e :: l, m => by simp [encE, encE_append l m]

theorem encE_app (l : List (Int × Int)) (n : Nat) (hl : l.length = n) (x : Int × Int) : (encE l).take (n * 2) ++ [.int .i64 x.1, .int .i64 x.2] = encE (l ++ [x]) := by
  rw [List.take_of_length_le (by rw [encE_length, hl]; exact Nat.le_refl _), encE_append]; rfl

/-- A slice of pairs that was made behind a world. -/
def NewE (w : World) (xs : List (Int × Int)) (v : Value) (w' : World) : Prop := ∃ p c, v = .slice p xs.length c ∧ xs.length ≤ c ∧ SeesE w' p xs ∧ ∀ a, p = some a → w.heap.size ≤ a.block ∧ a.block < w'.heap.size

theorem edgesR_ok (r : Rl) (w : World) : Makes Tryd.prog 14 [encRel r] w (NewE w (edgesL (rightL r))) := by
  refine Makes.of_run Tryd.func14 rfl (by show 1 ≤ 31; decide) ?_
  refine RunF_sound tab_ok noX_local 100 [] _ _ rfl ?_ ?_
  · simp
  refine Run.callFn noX_local rfl rfl rfl rfl rfl rfl rfl rightR_enters rfl (fun w' _ => rightR_ok r w') ?_
  have hn := rightL_n r
  have hrow := rowFrom_all r
  generalize rightL r = R at hn hrow
  have hrest : ∀ i d, (restL R i d).length ≤ 64 * d := fun i d => by rw [restL_len]; exact sumL_le R d i
  generalize hL : edgesL R = L
  have hLn : L.length ≤ 4096 := by rw [← hL, edgesL]; have := hrest 0 R.n.toNat; omega
  refine RunF_sound tab_ok noX_local 100 [] _ _ rfl ?_ ?_
  · simp [segsVals, relV_one']
  suffices H : ∀ (d i n : Nat) (l : List (Int × Int)), l.length = n → (i : Int) + d = R.n → L = l ++ restL R i d →
      Run _ _ ⟨[(1, .ptr 0 0), (3, lstV n), (4, .v (.int .i64 (i : Int)))], (0, .cells 25 [.vals 65 (relV R)]) :: lstB l n, 10⟩ by
    refine Run.to (H R.n.toNat 0 0 [] rfl (by omega) (by rw [← hL]; rfl)) ⟨rfl, rfl, rfl, trivial⟩ ⟨?_, trivial⟩
    simp [lk]
  intro d
  induction d with
  | zero =>
    intro i n l hln hi hl
    have hl' : L = l := by simpa [restL] using hl
    subst hl'
    cases n with
    | zero =>
      refine RunF_sound tab_ok noX_local 100 [false] _ _ rfl ?_ ?_
      · simp; omega
      have h0 : L = [] := List.length_eq_zero_iff.1 hln
      subst h0
      refine Run.ret tab_ok Tryd.func14 rfl trivial fun M fp a w' hr => ⟨hr.agree, none, 0, rfl, Nat.le_refl _, fun i hi => absurd hi (Nat.not_lt_zero _), fun a h => by cases h⟩
    | succ n =>
      refine RunF_sound tab_ok noX_local 100 [false] _ _ rfl ?_ ?_
      · simp; omega
      refine Run.ret tab_ok Tryd.func14 rfl trivial fun M fp a w' hr => ⟨hr.agree, some ⟨(M 9).1, 0, none⟩, (M 9).2 - 0, ?_, ?_, seesE_row (hr.heap 9 _ rfl) (fun i hi => encE_get L i hi), ?_⟩
      · rw [hln]; simp [resAV, conc]
      · obtain ⟨_, _, _, hc, _⟩ := hr.heap 9 _ rfl; rw [hln]; exact hc
      · intro a ha
        cases ha
        refine ⟨?_, (hr.heap 9 _ rfl).lt⟩
        rcases Nat.lt_or_ge (M 9).1 w.heap.size with h | h
        · exact (hr.own 9 _ rfl h).elim
        · exact h
  | succ d ih =>
    intro i n l hln hi hl
    refine RunF_sound tab_ok noX_local 100 [true] _ _ rfl ?_ ?_
    · simp; omega
    suffices H2 : ∀ (e b n : Nat) (l : List (Int × Int)), l.length = n → (b : Int) + e = R.n → L = l ++ (rowFrom R i b e ++ restL R (i + 1) d) →
        Run _ _ ⟨[(1, .ptr 0 0), (3, lstV n), (4, .v (.int .i64 (i : Int))), (5, .v (.int .i64 (b : Int)))], (0, .cells 25 [.vals 65 (relV R)]) :: lstB l n, 10⟩ by
      refine Run.to (H2 R.n.toNat 0 n l hln (by omega) ?_) ⟨rfl, rfl, rfl, rfl, trivial⟩ ?_
      · rw [hl, restL, hrow]
      · cases n <;> exact ⟨rfl, by first | trivial | exact ⟨rfl, trivial⟩⟩
    intro e
    induction e with
    | zero =>
      intro b n l hln hb hl
      refine RunF_sound tab_ok noX_local 100 [false] _ _ rfl ?_ ?_
      · simp; omega
      refine Run.to (ih (i + 1) n l hln (by omega) (by rw [hl]; rfl)) ⟨rfl, rfl, i64_eq (wrap_succ (by omega)), trivial⟩ ?_
      cases n <;> exact ⟨rfl, by first | trivial | exact ⟨rfl, trivial⟩⟩
    | succ e ihe =>
      intro b n l hln hb hl
      have hnl : n ≤ 4096 := by
        have := congrArg List.length hl
        rw [List.length_append, hln] at this
        omega
      refine RunF_sound tab_ok noX_local 100 [true] _ _ rfl ?_ ?_
      · simp; omega
      refine Run.callFn noX_local rfl rfl rfl rfl rfl rfl rfl hasR_enters rfl (fun w' _ => hasR_ok R hn i b w') ?_
      have hI : hasI R i b = R.has i b := by simp [hasI]; intro; omega
      rw [rowFrom] at hl
      by_cases c : R.has i b = true
      · rw [if_pos c] at hl
        cases n with
        | zero =>
          refine RunF_sound tab_ok noX_local 100 [true] _ _ rfl ?_ ?_
          · simp [hI, c, maxLen, fillL, repL, splice, Value.cells, Value.oneCell']
          refine Run.toR [(9, 11)] (ihe (b + 1) 1 (l ++ [((i : Int), (b : Int))]) (by simp [hln]) (by omega) (by rw [hl]; simp)) ⟨rfl, rfl, rfl, i64_eq (wrap_succ (by omega)), trivial⟩ ⟨rfl, ?_, trivial⟩ rfl
          refine congrArg (fun l => some (Blk.row 67 2 1 l)) ?_
          have : l = [] := List.length_eq_zero_iff.1 hln
          subst this
          rfl
        | succ n =>
          refine RunF_sound tab_ok noX_local 100 [true] _ _ rfl ?_ ?_
          · simp [hI, c, maxLen, fillL, repL, splice, Value.cells, Value.oneCell']; omega
          refine Run.toR [(9, 11)] (ihe (b + 1) (n + 2) (l ++ [((i : Int), (b : Int))]) (by simp [hln]) (by omega) (by rw [hl]; simp)) ⟨rfl, rfl, rfl, i64_eq (wrap_succ (by omega)), trivial⟩ ⟨rfl, ?_, trivial⟩ rfl
          refine congrArg (fun l => some (Blk.row 67 2 (n + 2) l)) ?_
          exact encE_app l (n + 1) hln ((i : Int), (b : Int))
      · rw [if_neg c, List.nil_append] at hl
        refine RunF_sound tab_ok noX_local 100 [false] _ _ rfl ?_ ?_
        · simp [hI, c]
        refine Run.to (ihe (b + 1) n l hln (by omega) hl) ⟨rfl, rfl, rfl, i64_eq (wrap_succ (by omega)), trivial⟩ ?_
        cases n <;> exact ⟨rfl, by first | trivial | exact ⟨rfl, trivial⟩⟩
theorem edgesR_enters : Enters Tryd.prog 14 := enters_mk Tryd.func14 (by decide) rfl
end Go.Proofs.YtocpkgckllbjlaaDoor

/-
  What the law gathers off an iterator. Own work.
-/
namespace Go.Proofs.YtocpkgckllbjlaaDoor
open Go.AM
set_option maxRecDepth 100000

theorem encEs_next {E : List (Int × Int)} {k : Nat} (hk : k ≤ E.length) {x : List Value} (h : encEs (E.take k) ++ [x] <+: encEs E) : ∃ hlt : k < E.length, x = encEd E[k] := by
  have hl := h.length_le
  simp only [encEs, List.length_append, List.length_map, List.length_take, List.length_singleton] at hl
  have hlt : k < E.length := by omega
  refine ⟨hlt, ?_⟩
  obtain ⟨t, ht⟩ := h
  have := congrArg (fun l => l[k]?) ht
  simp only [encEs] at this
  rw [List.append_assoc, List.getElem?_append_right (by simp; omega)] at this
  simp [Nat.min_eq_left hk, hlt] at this
  exact this

theorem encEs_succ {E : List (Int × Int)} {k : Nat} (hlt : k < E.length) : encEs (E.take k) ++ [encEd E[k]] = encEs (E.take (k + 1)) := by
  rw [List.take_succ_eq_append_getElem hlt, encEs, encEs, List.map_append]; rfl

theorem encEs_all {E : List (Int × Int)} {k : Nat} (hk : k ≤ E.length) (h : encEs E = encEs (E.take k)) : k = E.length := by
  have := congrArg List.length h
  simp only [encEs, List.length_map, List.length_take] at this
  omega

/-- The blocks of the gathering function. -/
def gatB (m : Int) (l : List (Int × Int)) (n : Nat) : List (Nat × Blk) :=
  (1, .cells 29 [.one (lstV n)]) :: (0, .cells 3 [.one (.v (.int .i64 m))]) :: lstB l n

theorem newE_nil (w w' : World) : NewE w [] (.slice none 0 0) w' := ⟨none, 0, rfl, Nat.le_refl _, fun i hi => absurd hi (Nat.not_lt_zero _), fun a h => by cases h⟩

theorem newE_row {P : Program} {f : FuncId} {nt : Nat} {w : World} {X : Res} {R : Value → World → Prop} {M : AM.Loc} {fp : Foot} {σ : St} {a : Act} {w' : World} {id n : Nat} {l : List (Int × Int)}
    (hr : Rel (fnC P f nt w (fun _ => False) X R) M fp σ a w') (hB : lk σ.h id = some (.row 67 2 n (encE l))) (hl : l.length = n) : NewE w l (conc M (.sl id 2 0 n)) w' := by
  refine ⟨some ⟨(M id).1, 0, none⟩, (M id).2 - 0, ?_, ?_, seesE_row (hr.heap id _ hB) (fun i hi => encE_get l i hi), ?_⟩
  · rw [hl]; simp [conc]
  · obtain ⟨_, _, _, hc, _⟩ := hr.heap id _ hB; rw [hl]; exact hc
  · intro a ha
    cases ha
    refine ⟨?_, (hr.heap id _ hB).lt⟩
    rcases Nat.lt_or_ge (M id).1 w.heap.size with h | h
    · exact (hr.own id _ hB h).elim
    · exact h

theorem edgesLaw_ok (r : Rl) (hn : 0 ≤ r.n ∧ r.n ≤ 64) (b : Nat) (m : Int) (w : World) (hb : RelAt w b r) (hT : TabAt w) (hbl : b < w.heap.size) (h0l : 0 < w.heap.size) :
    Makes Tryd.prog 19 [edgesF b, .int .i64 m] w (NewE w ((edgesL r).take m.toNat)) := by
  refine Makes.of_run Tryd.func19 rfl (by show 2 ≤ 18; decide) ?_
  have hlen : (edgesL r).length ≤ 4096 := by rw [edgesL, restL_len]; have := sumL_le r r.n.toNat 0; omega
  have hit := edges_iter r hn b w hb hT
  generalize edgesL r = E at hlen hit
  refine RunF_sound tab_ok noX_local 100 [] _ _ rfl ?_ ?_
  · simp [okCell, argsT.ofConst', ofConst, Value.oneCell']
  refine Run.rangeFn noX_local rfl rfl (fun M => rfl) edgesIt_enters 6 [(5, .ptr 1 0), (3, .ptr 0 0)] ⟨rfl, rfl, trivial⟩ rfl rfl hit
    (fun k hk => ⟨by rcases hk with rfl | rfl <;> assumption, fun h => h⟩) (fun x hx => by simp only [encEs, List.mem_map] at hx; obtain ⟨e, _, rfl⟩ := hx; rfl)
    (fun pre h => ∃ k, k ≤ E.length ∧ k ≤ m.toNat ∧ pre = encEs (E.take k) ∧ h = gatB m (E.take k) k)
    (fun _ c h => c = .exit 0 ∧ m.toNat ≤ E.length ∧ h = gatB m (E.take m.toNat) m.toNat) 12 (gatB m [] 0) ⟨0, by omega, by omega, rfl, rfl⟩ ⟨rfl, rfl, trivial⟩ ?_ ?_ ?_
  · -- a round
    rintro D l a0 rc wy fpy pre x h hI hpx ⟨k, hk, hkm, rfl, rfl⟩
    obtain ⟨hlt, rfl⟩ := encEs_next hk hpx
    have htl : (E.take k).length = k := by simp; omega
    have hnext : encEs (E.take k) ++ [encEd E[k]] = encEs (E.take (k + 1)) := encEs_succ hlt
    have hts : E.take (k + 1) = E.take k ++ [E[k]] := List.take_succ_eq_append_getElem hlt
    have hmk : (k : Int) ≥ m → m.toNat = k := fun c => by omega
    cases k with
    | zero =>
      refine RunF_sound tab_ok (roundX_local hI.loc l rc .ready) 100 [] _ _ rfl ?_ ?_
      · simp [segsVals]
      refine Run.beginRound hI.loc hI.lw ?_
      by_cases c : ((0 : Nat) : Int) ≥ m
      · refine RunF_sound tab_ok (roundX_local hI.loc l rc .busy) 100 [true] _ _ rfl ?_ ?_
        · simpa using c
        exact Run.roundExit hI [] (gatB m (E.take 0) 0) rfl ⟨rfl, by omega, by rw [hmk c]⟩ ⟨rfl, rfl, trivial⟩ ⟨rfl, rfl, trivial⟩ rfl
      · refine RunF_sound tab_ok (roundX_local hI.loc l rc .busy) 100 [false] _ _ rfl ?_ ?_
        · simp [maxLen, fillL, repL, splice, Value.cells, Value.oneCell', okCell]; omega
        refine Run.roundEnd hI [(9, 14)] (gatB m (E.take 1) 1) ⟨1, by omega, by omega, hnext, rfl⟩ ⟨rfl, rfl, trivial⟩ ⟨rfl, rfl, ?_, trivial⟩ rfl
        refine congrArg (fun l => some (Blk.row 67 2 1 l)) ?_
        rw [hts]; rfl
    | succ k =>
      refine RunF_sound tab_ok (roundX_local hI.loc l rc .ready) 100 [] _ _ rfl ?_ ?_
      · simp [segsVals]
      refine Run.beginRound hI.loc hI.lw ?_
      by_cases c : ((k + 1 : Nat) : Int) ≥ m
      · refine RunF_sound tab_ok (roundX_local hI.loc l rc .busy) 100 [true] _ _ rfl ?_ ?_
        · simpa using c
        exact Run.roundExit hI [] (gatB m (E.take (k + 1)) (k + 1)) rfl ⟨rfl, by omega, by rw [hmk c]⟩ ⟨rfl, rfl, trivial⟩ ⟨rfl, rfl, rfl, trivial⟩ rfl
      · refine RunF_sound tab_ok (roundX_local hI.loc l rc .busy) 100 [false] _ _ rfl ?_ ?_
        · simp [maxLen, fillL, repL, splice, Value.cells, Value.oneCell', okCell]; omega
        refine Run.roundEnd hI [(9, 14)] (gatB m (E.take (k + 2)) (k + 2)) ⟨k + 2, by omega, by omega, hnext, rfl⟩ ⟨rfl, rfl, trivial⟩ ⟨rfl, rfl, ?_, trivial⟩ rfl
        refine congrArg (fun l => some (Blk.row 67 2 (k + 2) l)) ?_
        rw [hts]
        exact encE_app (E.take (k + 1)) (k + 1) htl E[k + 1]
  · -- all gone through
    rintro D h ⟨k, hk, hkm, hx, rfl⟩
    have hke := encEs_all hk hx
    have e1 : E.take m.toNat = E.take k := by rw [List.take_of_length_le (by omega), List.take_of_length_le (by omega)]
    rw [e1]
    cases k with
    | zero =>
      refine RunF_sound tab_ok (markX_local noX_local D) 100 [] _ _ rfl ?_ ?_
      · simp
      exact Run.retM (Ds := [D]) tab_ok noX_local Tryd.func19 rfl trivial fun M fp a w' hr => ⟨hr.agree, newE_nil _ _⟩
    | succ k =>
      refine RunF_sound tab_ok (markX_local noX_local D) 100 [] _ _ rfl ?_ ?_
      · simp
      exact Run.retM (Ds := [D]) tab_ok noX_local Tryd.func19 rfl trivial fun M fp a w' hr => ⟨hr.agree, newE_row hr rfl (by simp; omega)⟩
  · -- left
    rintro D pre c h hpre ⟨rfl, hm, rfl⟩
    generalize m.toNat = k at *
    cases k with
    | zero =>
      refine RunF_sound tab_ok (markX_local noX_local D) 100 [] _ _ rfl ?_ ?_
      · simp
      exact Run.retM (Ds := [D]) tab_ok noX_local Tryd.func19 rfl trivial fun M fp a w' hr => ⟨hr.agree, newE_nil _ _⟩
    | succ k =>
      refine RunF_sound tab_ok (markX_local noX_local D) 100 [] _ _ rfl ?_ ?_
      · simp
      exact Run.retM (Ds := [D]) tab_ok noX_local Tryd.func19 rfl trivial fun M fp a w' hr => ⟨hr.agree, newE_row hr rfl (by simp; omega)⟩
theorem edgesLaw_enters : Enters Tryd.prog 19 := enters_mk Tryd.func19 (by decide) rfl
end Go.Proofs.YtocpkgckllbjlaaDoor

/-
  RelWalks answers true. Own work.
-/
namespace Go.Proofs.YtocpkgckllbjlaaDoor
open Go.AM
set_option maxRecDepth 100000

theorem SeesE.take {w : World} {p : Option Addr} {xs : List (Int × Int)} (h : SeesE w p xs) (k : Nat) : SeesE w p (xs.take k) := by
  intro i hi
  have hi' : i < xs.length := by rw [List.length_take] at hi; omega
  rw [List.getElem_take]
  exact h i hi'

theorem walks_ok (r : Rl) (a b m : Int) (w : World) (hT : TabAt w) (h0 : 0 < w.heap.size) : Gives Tryd.prog 3 [encRel r, .int .i64 a, .int .i64 b, .int .i64 m] w (.bool true) := by
  refine Gives.of_run Tryd.func3 rfl (by show 4 ≤ 56; decide) ?_
  refine RunF_sound tab_ok noX_local 100 [] _ _ rfl ?_ ?_
  · simp
  refine Run.callR noX_local rfl rfl rfl rfl rfl rfl edges_enters rfl (fun M w' _ _ => edges_ok r w') ?_
  rintro v w2 w1 S1 hag hag2 ⟨bb, rfl, hbl, hRel⟩ hS1
  have hB1 := (Based.refl w).call hag hag2 hS1
  have hbw1 : bb < w1.heap.size := World.block_lt_of_cell? w1 _ (hRel 0 _ rfl)
  have hS1b : ¬ S1 bb := hS1.new bb hbl
  refine ⟨.fn 71 [.v (.pointer (some ⟨bb, 0, none⟩))], fun M => rfl, ?_⟩
  have hn := rightL_n r
  refine RunF_sound tab_ok noX_local 100 [] _ _ rfl ?_ ?_
  · simp
  refine Run.callR noX_local rfl rfl rfl rfl rfl rfl edgesR_enters rfl (fun M w' _ _ => edgesR_ok r w') ?_
  rintro v w3 w4 S2 hag3 hag4 ⟨p, c, rfl, hc, hs, hnew⟩ hS2
  have hB2 := hB1.call hag3 hag4 hS2
  have hS2b : ¬ S2 bb := hS2.old bb hbw1 hS1b
  have hRel4 : RelAt w4 bb (rightL r) := (hRel.agree hag3 hS1b).agree hag4 (fun f => f)
  have hT4 : TabAt w4 := hT.agree hB2.agree (fun f => f)
  have h20 : ¬ S2 0 := fun h => by have := hB2.new 0 h; omega
  have hS2p : ∀ a, p = some a → ¬ S2 a.block := fun a ha => hS2.new _ (hnew a ha).1
  have hcnt := count_edges r
  have hlen : (edgesL (rightL r)).length ≤ 4096 := by rw [edgesL, restL_len]; have := sumL_le (rightL r) (rightL r).n.toNat 0; omega
  have hgat : ∀ (S : Nat → Prop) (wa wb : World) (k : Int), RelAt wa bb (rightL r) → TabAt wa → Agree S wa wb → ¬ S bb → ¬ S 0 → bb < wb.heap.size → 0 < wb.heap.size →
      Makes Tryd.prog 19 [edgesF bb, .int .i64 k] wb (NewE wb ((edgesL (rightL r)).take k.toNat)) := fun S wa wb k h1 h2 h3 h4 h5 h6 h7 => edgesLaw_ok (rightL r) hn bb k wb (h1.agree h3 h4) (h2.agree h3 h5) h6 h7
  generalize edgesL (rightL r) = L at *
  refine ⟨.v (.slice p L.length c), fun M => rfl, ?_⟩
  refine RunF_sound tab_ok noX_local 100 [] _ _ rfl ?_ ?_
  · simp
  refine Run.drawA noX_local rfl [] [(0, .cells 25 [.vals 65 (relV r)])] rfl rfl ⟨rfl, trivial⟩ ?_
  refine RunOF_sound tab_ok noX_local rfl rfl 200 [] _ _ rfl ?_ ?_
  · simp
  refine RunO.callFn noX_local rfl rfl rfl rfl rfl rfl rfl rfl count_enters rfl (fun w' _ => count_ok r w') ?_
  rw [hcnt]
  refine RunOF_sound tab_ok noX_local rfl rfl 200 [false] _ _ rfl ?_ ?_
  · simp
  refine RunO.callFn noX_local rfl rfl rfl rfl rfl rfl rfl rfl has_enters rfl (fun w' _ => has_ok r a b w') ?_
  refine RunOF_sound tab_ok noX_local rfl rfl 200 [] _ _ rfl ?_ ?_
  · simp
  refine RunO.callFn noX_local rfl rfl rfl rfl rfl rfl rfl rfl rightR_enters rfl (fun w' _ => rightR_ok r w') ?_
  refine RunOF_sound tab_ok noX_local rfl rfl 200 [] _ _ rfl ?_ ?_
  · simp
  refine RunO.callFn noX_local rfl rfl rfl rfl rfl rfl rfl rfl hasR_enters rfl (fun w' _ => hasR_ok (rightL r) hn a b w') ?_
  refine RunOF_sound tab_ok noX_local rfl rfl 200 [] _ _ rfl ?_ ?_
  · simp
  refine RunO.done ?_
  refine RunF_sound tab_ok noX_local 100 [false] _ _ rfl ?_ ?_
  · simp
  have hbw4 : bb < w4.heap.size := World.block_lt_of_cell? w4 _ (hRel4 0 _ rfl)
  have hw4 : 0 < w4.heap.size := by have := hB2.agree.size; omega
  generalize hk : (if m > 0 then m else 0) = k
  refine Run.callR (Q := fun v w w' => NewE w (L.take k.toNat) v w') noX_local rfl rfl rfl rfl rfl rfl edgesLaw_enters rfl (fun M w' _ hw' => hgat _ _ _ _ hRel4 hT4 hw' hS2b h20 (Nat.lt_of_lt_of_le hbw4 hw'.size) (Nat.lt_of_lt_of_le hw4 hw'.size)) ?_
  rintro v w5 w6 S3 hag5 hag6 ⟨p1, c1, rfl, hc1, hs1, hnew1⟩ hS3
  have hB3 := hB2.call hag5 hag6 hS3
  have hRel6 : RelAt w6 bb (rightL r) := (hRel4.agree hag5 hS2b).agree hag6 (fun f => f)
  have hT6 : TabAt w6 := hT.agree hB3.agree (fun f => f)
  have hs6 : SeesE w6 p L := (hs.agree hag5 hS2p).agree hag6 (fun _ _ f => f)
  have h30 : ¬ S3 0 := fun h => by have := hB3.new 0 h; omega
  have hbw6 : bb < w6.heap.size := World.block_lt_of_cell? w6 _ (hRel6 0 _ rfl)
  have hw6 : 0 < w6.heap.size := by have := hB3.agree.size; omega
  refine ⟨.v (.slice p1 (L.take k.toNat).length c1), fun M => rfl, ?_⟩
  refine RunF_sound tab_ok noX_local 100 [] _ _ rfl ?_ ?_
  · simp
  refine Run.callR (Q := fun v w w' => NewE w (L.take (5000 : Int).toNat) v w') noX_local rfl rfl rfl rfl rfl rfl edgesLaw_enters rfl (fun M w' _ hw' => hgat _ _ _ _ hRel6 hT6 hw' (hS3.old _ hbw4 hS2b) h30 (Nat.lt_of_lt_of_le hbw6 hw'.size) (Nat.lt_of_lt_of_le hw6 hw'.size)) ?_
  rintro v w7 w8 S4 hag7 hag8 ⟨p2, c2, rfl, hc2, hs2, hnew2⟩ hS4
  have hB4 := hB3.call hag7 hag8 hS4
  have e5 : L.take (5000 : Int).toNat = L := List.take_of_length_le (by show _ ≤ 5000; omega)
  rw [e5] at hs2 hc2 ⊢
  have hs1' : SeesE w8 p1 (L.take k.toNat) := (hs1.agree hag7 (fun a ha => hS3.new _ (hnew1 a ha).1)).agree hag8 (fun _ _ f => f)
  have hS3p : ∀ a, p = some a → ¬ S3 a.block := fun a ha => hS3.old _ (hnew a ha).2 (hS2p a ha)
  have hs8 : SeesE w8 p L := (hs6.agree hag7 hS3p).agree hag8 (fun _ _ f => f)
  have hk0 : 0 ≤ k := by rw [← hk]; split <;> omega
  have hcutl : (if k < (L.length : Int) then k else (L.length : Int)).toNat = (L.take k.toNat).length := by
    rw [List.length_take]; split <;> omega
  have hp0 : p.map (fun x => x.add 0) = p := by cases p <;> simp [AM.add_zero]
  have hS4p : ∀ a, p = some a → ¬ S4 a.block := fun a ha => hS4.old _ (Nat.lt_of_lt_of_le (hnew a ha).2 (Nat.le_trans hag5.size hag6.size)) (hS3p a ha)
  have hS4p1 : ∀ a, p1 = some a → ¬ S4 a.block := fun a ha => hS4.old _ (hnew1 a ha).2 (hS3.new _ (hnew1 a ha).1)
  have hS4p2 : ∀ a, p2 = some a → ¬ S4 a.block := fun a ha => hS4.new _ (hnew2 a ha).1
  have hlm : L.length ≤ maxLen := by simp only [maxLen]; omega
  refine ⟨.v (.slice p2 L.length c2), fun M => rfl, ?_⟩
  refine RunF_sound tab_ok noX_local 100 [] _ _ rfl ?_ ?_
  · rw [hk]
    have : (if k < (L.length : Int) then k else (L.length : Int)) ≤ c := by split <;> omega
    have : 0 ≤ (if k < (L.length : Int) then k else (L.length : Int)) := by split <;> omega
    simp; omega
  rw [hk]
  refine Run.callFn noX_local rfl rfl rfl rfl rfl rfl rfl sameEdges_enters rfl (r := .bool true) (fun w' hA => ?_) ?_
  · rw [hcutl, hp0]
    have := sameEdges_ok p1 p c1 c (L.take k.toNat) (L.take k.toNat) w' (hs1'.agree hA hS4p1) ((hs8.take _).agree hA hS4p) (by rw [List.length_take]; omega)
    rw [decide_eq_true rfl] at this; exact this
  refine RunF_sound tab_ok noX_local 100 [true] _ _ rfl ?_ ?_
  · simp
  refine Run.callFn noX_local rfl rfl rfl rfl rfl rfl rfl sameEdges_enters rfl (r := .bool true) (fun w' hA => ?_) ?_
  · have := sameEdges_ok p2 p c2 c L L w' (hs2.agree hA hS4p2) (hs8.agree hA hS4p) hlm
    rw [decide_eq_true rfl] at this; exact this
  refine RunF_sound tab_ok noX_local 100 [] _ _ rfl ?_ ?_
  · simp
  exact Run.retB (Ds := []) tab_ok noX_local hB4 Tryd.func3 rfl trivial (fun M => rfl)
theorem walks_enters : Enters Tryd.prog 3 := enters_mk Tryd.func3 (by decide) rfl
end Go.Proofs.YtocpkgckllbjlaaDoor

/-
  Relations by a test of their pairs: plain laws. Own work; no program in sight.
-/
namespace Go.AM

/-- The word whose bits are a test's. -/
def bitsB (f : Nat → Bool) : BitVec 64 := (List.range 64).foldl (fun x i => if f i then x ||| 1#64 <<< i else x) 0#64

theorem one_shl_get (k j : Nat) (hk : k < 64) : (1#64 <<< k).getLsbD j = decide (j = k) := by
  rw [BitVec.getLsbD_shiftLeft, BitVec.getLsbD_one]
  by_cases h : j = k
  · subst h; simp [hk]
  · by_cases h1 : j < k
    · simp [h1, h]
    · have : ¬ j - k = 0 := by omega
      simp [this, h]

theorem bitsB_fold (f : Nat → Bool) : ∀ (l : List Nat) (x : BitVec 64) (j : Nat), (∀ i ∈ l, i < 64) →
    (l.foldl (fun x i => if f i then x ||| 1#64 <<< i else x) x).getLsbD j = (x.getLsbD j || (decide (j ∈ l) && f j))
  | [], x, j, _ => by simp
  | i :: l, x, j, h => by
    rw [List.foldl_cons, bitsB_fold f l _ j (fun i hi => h i (List.mem_cons_of_mem _ hi))]
    have hi := h i (List.mem_cons_self ..)
    by_cases hf : f i = true
    · rw [if_pos hf, BitVec.getLsbD_or, one_shl_get i j hi]
      by_cases hj : j = i
      · subst hj; simp [hf]
      · simp [hj]
    · rw [if_neg hf]
      by_cases hj : j = i
      · subst hj
        have : f j = false := by simpa using hf
        simp [this]
      · simp [hj]

theorem bitsB_get (f : Nat → Bool) (j : Nat) : (bitsB f).getLsbD j = (decide (j < 64) && f j) := by
  unfold bitsB
  rw [bitsB_fold f _ _ j (fun i hi => List.mem_range.1 hi)]
  simp

namespace Rl
/-- The relation over n numbers in which those pairs stand that pass a test. -/
def gen (n : Int) (q : Nat → Nat → Bool) : Rl := by_ n fun i => bitsB (q i)
theorem n_gen (n : Int) (q : Nat → Nat → Bool) : (gen n q).n = n := rfl
theorem has_gen (n : Int) (q : Nat → Nat → Bool) (a b : Nat) : (gen n q).has a b = (decide (a < 64 ∧ b < 64) && q a b) := by
  unfold has gen
  rw [row_by]
  by_cases ha : a < 64
  · rw [if_pos ha, bitsB_get]; simp [ha]
  · rw [if_neg ha]; simp [ha]
theorem gen_congr {n : Int} {q q' : Nat → Nat → Bool} (h : ∀ a b, a < 64 → b < 64 → q a b = q' a b) : gen n q = gen n q' :=
  ext_has rfl fun a b ha hb => by rw [has_gen, has_gen, h a b ha hb]
theorem has_lt (r : Rl) {a b : Nat} (h : r.has a b = true) : a < 64 ∧ b < 64 := by
  constructor
  · rcases Nat.lt_or_ge a 64 with h1 | h1
    · exact h1
    · rw [has, row_ge _ h1] at h; simp at h
  · rcases Nat.lt_or_ge b 64 with h1 | h1
    · exact h1
    · rw [has, BitVec.getLsbD_of_ge _ _ h1] at h; cases h
theorem gen_self (r : Rl) : gen r.n r.has = r := by
  apply ext_has
  · exact n_gen _ _
  · intro a b ha hb
    rw [has_gen, decide_eq_true ⟨ha, hb⟩, Bool.true_and]
theorem gen_void (n : Int) : void n = gen n fun _ _ => false := by
  apply ext_has
  · rfl
  · intro a b _ _
    rw [has_gen, has, row_void]; simp
theorem gen_add (n : Int) (q : Nat → Nat → Bool) (a b : Nat) (ha : a < 64) (hb : b < 64) :
    (gen n q).setRow a ((gen n q).row a ||| 1#64 <<< b) = gen n fun x y => q x y || (decide (x = a) && decide (y = b)) := by
  refine ext_has (n_setRow _ _ _) fun x y hx hy => ?_
  rw [has_gen, has, row_setRow]
  by_cases h : a = x
  · subst h
    rw [if_pos ⟨rfl, ha⟩, BitVec.getLsbD_or, one_shl_get b y hb]
    have : ((gen n q).row a).getLsbD y = (gen n q).has a y := rfl
    rw [this, has_gen]
    simp [ha, hy]
  · rw [if_neg (by simp [h])]
    have : ((gen n q).row x).getLsbD y = (gen n q).has x y := rfl
    rw [this, has_gen]
    simp [hx, hy, Ne.symm h]
theorem has_setRow (r : Rl) (a : Nat) (w : BitVec 64) (x y : Nat) : (r.setRow a w).has x y = if a = x ∧ a < 64 then w.getLsbD y else r.has x y := by
  rw [has, row_setRow]; split <;> rfl

/-- Those pairs of a test that have been looked at: all of the rows below a, of row a those below b. -/
def seen (p : Nat → Nat → Bool) (a b : Nat) : Nat → Nat → Bool := fun x y => p x y && (decide (x < a) || (decide (x = a) && decide (y < b)))
theorem seen_yes {n : Int} {p : Nat → Nat → Bool} {a b : Nat} (ha : a < 64) (hb : b < 64) (h : p a b = true) :
    (gen n (seen p a b)).setRow a ((gen n (seen p a b)).row a ||| 1#64 <<< b) = gen n (seen p a (b + 1)) := by
  rw [gen_add _ _ _ _ ha hb]
  refine gen_congr fun x y _ _ => ?_
  unfold seen
  by_cases hx : x = a
  · subst hx
    by_cases hy : y = b
    · subst hy; simp [h]
    · have e : decide (y < b + 1) = decide (y < b) := decide_eq_decide.2 (by omega)
      simp [hy, e]
  · simp [hx]
theorem seen_no {n : Int} {p : Nat → Nat → Bool} {a b : Nat} (h : p a b = false) : gen n (seen p a b) = gen n (seen p a (b + 1)) := by
  refine gen_congr fun x y _ _ => ?_
  unfold seen
  by_cases hx : x = a
  · subst hx
    by_cases hy : y = b
    · subst hy; simp [h]
    · have e : decide (y < b + 1) = decide (y < b) := decide_eq_decide.2 (by omega)
      simp [e]
  · simp [hx]
theorem seen_row {n : Int} {p : Nat → Nat → Bool} {a b : Nat} (hp : ∀ x y, p x y = true → y < b) : gen n (seen p a b) = gen n (seen p (a + 1) 0) := by
  refine gen_congr fun x y _ _ => ?_
  unfold seen
  cases hxy : p x y with
  | false => simp
  | true =>
    have := hp x y hxy
    rw [Bool.eq_iff_iff]
    simp
    omega
theorem seen_0 (n : Int) (p : Nat → Nat → Bool) : gen n (seen p 0 0) = void n := by
  rw [gen_void]
  refine gen_congr fun x y _ _ => ?_
  unfold seen; simp
theorem seen_all {n : Int} {p : Nat → Nat → Bool} {a : Nat} (hp : ∀ x y, p x y = true → x < a) : gen n (seen p a 0) = gen n p := by
  refine gen_congr fun x y _ _ => ?_
  unfold seen
  cases hxy : p x y with
  | false => simp
  | true => have := hp x y hxy; simp [this]

/-- The same, turned about: the pair (a, b) puts b to a. -/
def seenT (p : Nat → Nat → Bool) (a b : Nat) : Nat → Nat → Bool := fun x y => seen p a b y x
theorem seenT_yes {n : Int} {p : Nat → Nat → Bool} {a b : Nat} (ha : a < 64) (hb : b < 64) (h : p a b = true) :
    (gen n (seenT p a b)).setRow b ((gen n (seenT p a b)).row b ||| 1#64 <<< a) = gen n (seenT p a (b + 1)) := by
  rw [gen_add _ _ _ _ hb ha]
  refine gen_congr fun x y _ _ => ?_
  unfold seenT seen
  by_cases hx : y = a
  · subst hx
    by_cases hy : x = b
    · subst hy; simp [h]
    · have e : decide (x < b + 1) = decide (x < b) := decide_eq_decide.2 (by omega)
      simp [hy, e]
  · simp [hx]
theorem seenT_no {n : Int} {p : Nat → Nat → Bool} {a b : Nat} (h : p a b = false) : gen n (seenT p a b) = gen n (seenT p a (b + 1)) := by
  refine gen_congr fun x y _ _ => ?_
  unfold seenT seen
  by_cases hx : y = a
  · subst hx
    by_cases hy : x = b
    · subst hy; simp [h]
    · have e : decide (x < b + 1) = decide (x < b) := decide_eq_decide.2 (by omega)
      simp [e]
  · simp [hx]
theorem seenT_row {n : Int} {p : Nat → Nat → Bool} {a b : Nat} (hp : ∀ x y, p x y = true → y < b) : gen n (seenT p a b) = gen n (seenT p (a + 1) 0) := by
  refine gen_congr fun x y _ _ => ?_
  unfold seenT seen
  cases hxy : p y x with
  | false => simp
  | true =>
    have := hp y x hxy
    rw [Bool.eq_iff_iff]
    simp
    omega
theorem seenT_0 (n : Int) (p : Nat → Nat → Bool) : gen n (seenT p 0 0) = void n := by
  rw [gen_void]
  refine gen_congr fun x y _ _ => ?_
  unfold seenT seen; simp
theorem seenT_all {n : Int} {p : Nat → Nat → Bool} {a : Nat} (hp : ∀ x y, p x y = true → x < a) : gen n (seenT p a 0) = gen n fun x y => p y x := by
  refine gen_congr fun x y _ _ => ?_
  unfold seenT seen
  cases hxy : p y x with
  | false => simp
  | true => have := hp y x hxy; simp [this]
end Rl
end Go.AM

/-
  two, rowwise, Union, Meet, Minus, Not. Own work.
-/
namespace Go.Proofs.YtocpkgckllbjlaaDoor
open Go.AM
set_option maxRecDepth 100000

open Classical in
/-- Two relations over the same numbers, or two void ones. -/
noncomputable def twoL (r s : Rl) : Rl × Rl := if (rightL r).n = (rightL s).n then (rightL r, rightL s) else (Rl.void 0, Rl.void 0)

theorem rightL_void : rightL (Rl.void 0) = Rl.void 0 := by
  refine rightL_of _ ?_
  unfold checkI
  rw [if_neg (by simp [Rl.void]), if_pos good_void]

theorem twoL_n (r s : Rl) : (twoL r s).1.n = (twoL r s).2.n := by
  unfold twoL; split
  · assumption
  · rfl
theorem twoL_right (r s : Rl) : rightL (twoL r s).1 = (twoL r s).1 ∧ rightL (twoL r s).2 = (twoL r s).2 := by
  unfold twoL; split
  · exact ⟨rightL_idem _, rightL_idem _⟩
  · exact ⟨rightL_void, rightL_void⟩

theorem two_ok (r s : Rl) (w : World) : Gives Tryd.prog 79 [encRel r, encRel s] w (.tuple #[encRel (twoL r s).1, encRel (twoL r s).2]) := by
  refine Gives.of_run Tryd.func79 rfl (by show 2 ≤ 19; decide) ?_
  refine RunF_sound tab_ok noX_local 100 [] _ _ rfl ?_ ?_
  · simp
  refine Run.drawA noX_local rfl [0] [(1, .cells 25 [.vals 65 (relV s)])] rfl rfl ⟨rfl, trivial⟩ ?_
  refine RunOF_sound tab_ok noX_local rfl rfl 200 [] _ _ rfl ?_ ?_
  · simp
  refine RunO.callFn noX_local rfl rfl rfl rfl rfl rfl rfl rfl right_enters rfl (fun w' _ => right_ok r w') ?_
  refine RunO.callFn noX_local rfl rfl rfl rfl rfl rfl rfl rfl right_enters rfl (fun w' _ => right_ok s w') ?_
  refine RunOF_sound tab_ok noX_local rfl rfl 1 [] _ _ rfl ?_ ?_
  · simp [segsVals, relV_one', inT, lk]
  refine RunO.effLast tab_ok noX_local rfl rfl rfl rfl ?_ (fun e => by cases e) rfl ?_
  · simp [segsVals, relV_one']
  by_cases h : (rightL r).n = (rightL s).n
  · have e : twoL r s = (rightL r, rightL s) := by unfold twoL; rw [if_pos h]
    rw [e]
    refine RunF_sound tab_ok noX_local 100 [false] _ _ rfl ?_ ?_
    · simp [h]
    refine Run.drawA noX_local rfl [] [(1, .cells 25 [.vals 65 (relV (rightL s))]), (0, .cells 25 [.vals 65 (relV (rightL r))])] rfl rfl ⟨rfl, rfl, trivial⟩ ?_
    refine RunOF_sound tab_ok noX_local rfl rfl 200 [] _ _ rfl ?_ ?_
    · simp [segsVals, relV_one', inT, lk]
    refine RunO.done ?_
    refine RunF_sound tab_ok noX_local 100 [] _ _ rfl ?_ ?_
    · simp
    refine Run.retL tab_ok Tryd.func79 rfl ?_ (fun M => rfl)
    simp
  · have e : twoL r s = (Rl.void 0, Rl.void 0) := by unfold twoL; rw [if_neg h]
    rw [e]
    refine RunF_sound tab_ok noX_local 100 [true] _ _ rfl ?_ ?_
    · simp [fillL, Value.cells, segsVals, relV_one', h]
    refine Run.retL tab_ok Tryd.func79 rfl ?_ (fun M => ?_)
    · simp [fillL, Value.cells]
    · rfl
theorem two_enters : Enters Tryd.prog 79 := enters_mk Tryd.func79 (by decide) rfl
end Go.Proofs.YtocpkgckllbjlaaDoor

/-
  rowwise, Union, Meet, Minus, Not, Restrict. Own work.
-/
namespace Go.Proofs.YtocpkgckllbjlaaDoor
open Go.AM
set_option maxRecDepth 100000

def rowP (F : BitVec 64 → BitVec 64 → BitVec 64) (r s : Rl) (k : Nat) : Rl := Rl.by_ r.n fun i => if i < k then F (r.row i) (s.row i) else r.row i

theorem by_row (r : Rl) : Rl.by_ r.n r.row = r := by
  apply Rl.ext'
  · exact Rl.n_by _ _
  · intro i hi
    rw [Rl.row_by, if_pos hi]
theorem rowP_0 (F : BitVec 64 → BitVec 64 → BitVec 64) (r s : Rl) : rowP F r s 0 = r := by
  unfold rowP
  conv => rhs; rw [← by_row r]
  exact Rl.by_congr fun i _ => by simp
theorem rowP_row (F : BitVec 64 → BitVec 64 → BitVec 64) (r s : Rl) (k : Nat) (hk : k < 64) : (rowP F r s k).row k = r.row k := by
  rw [rowP, Rl.row_by, if_pos hk, if_neg (by omega)]
theorem rowP_step (F : BitVec 64 → BitVec 64 → BitVec 64) (r s : Rl) (k : Nat) : (rowP F r s k).setRow k (F (r.row k) (s.row k)) = rowP F r s (k + 1) := by
  unfold rowP
  rw [Rl.set_by]
  refine Rl.by_congr fun i _ => ?_
  by_cases h : k = i
  · subst h; simp
  · rw [if_neg h]
    have : (i < k) ↔ (i < k + 1) := by omega
    simp only [this]

noncomputable def opL (F : BitVec 64 → BitVec 64 → BitVec 64) (r s : Rl) : Rl := rowP F (twoL r s).1 (twoL r s).2 (twoL r s).1.n.toNat

theorem twoL_b (r s : Rl) : 0 ≤ (twoL r s).1.n ∧ (twoL r s).1.n ≤ 64 := by
  rw [← (twoL_right r s).1]; exact rightL_n _

theorem rowwise_ok (g : FuncId) (F : BitVec 64 → BitVec 64 → BitVec 64) (hent : Enters Tryd.prog g) (hg : ∀ a b w, Gives Tryd.prog g [.int .u64 (un a), .int .u64 (un b)] w (.int .u64 (un (F a b)))) (r s : Rl) (w : World) :
    Gives Tryd.prog 75 [encRel r, encRel s, .func (.func g) #[] #[]] w (encRel (opL F r s)) := by
  refine Gives.of_run Tryd.func75 rfl (by show 3 ≤ 34; decide) ?_
  refine RunF_sound tab_ok noX_local 100 [] _ _ rfl ?_ ?_
  · simp
  refine Run.callFn noX_local rfl rfl rfl rfl rfl rfl rfl two_enters rfl (fun w' _ => two_ok r s w') ?_
  have hn := twoL_b r s
  unfold opL
  generalize (twoL r s).1 = R at hn
  generalize (twoL r s).2 = S at hn
  refine RunF_sound tab_ok noX_local 100 [] _ _ rfl ?_ ?_
  · simp [segsVals, relV_one']
  suffices H : ∀ (d k : Nat), (k : Int) + d = R.n → ∀ σ, inT σ.t [(2, .v (.func (.func g) #[] #[])), (3, .ptr 0 0), (4, .ptr 1 0), (6, .ptr 2 0), (15, .v (.int .i64 R.n)), (16, .v (.int .i64 (k : Int)))] →
      inT σ.h [(0, .cells 25 [.vals 65 (relV (rowP F R S k))]), (1, .cells 25 [.vals 65 (relV S)]), (2, .cells 25 [.vals 65 (relV (Rl.void 0))])] → Run _ _ σ by
    refine H R.n.toNat 0 (by omega) _ ⟨rfl, rfl, rfl, rfl, ?_, rfl, trivial⟩ ⟨?_, ?_, rfl, trivial⟩
    · simp [lk]
    · rw [rowP_0]; simp [lk]
    · simp [lk]
  intro d
  induction d with
  | zero =>
    intro k hk σ ht hh
    refine Run.to ?_ ht hh (n' := 3)
    refine RunF_sound tab_ok noX_local 100 [false] _ _ rfl ?_ ?_
    · simp [relV_one', segsVals]; omega
    · refine Run.retP tab_ok Tryd.func75 rfl ?_ (fun M => ?_)
      · simp
      have : R.n.toNat = k := by omega
      rw [this]; rfl
  | succ d ih =>
    intro k hk σ ht hh
    refine Run.to ?_ ht hh (n' := 3)
    have hk' : k < 64 := by omega
    refine RunF_sound tab_ok noX_local 100 [true] _ _ rfl ?_ ?_
    · simp; omega
    refine Run.drawA noX_local rfl [5] [(1, .cells 25 [.vals 65 (relV S)])] rfl rfl ⟨rfl, trivial⟩ ?_
    refine RunOF_sound tab_ok noX_local rfl rfl 100 [] _ _ rfl ?_ ?_
    · simp [relV_get _ _ hk', intAt_row _ _ hk']; omega
    refine RunO.callFv (cs := []) (f := g) (r := .int .u64 (un (F (R.row k) (S.row k)))) noX_local rfl rfl rfl rfl rfl rfl rfl rfl hent rfl (fun w' _ => ?_) ?_
    · have e1 : intAt (relV (rowP F R S k)) (1 - 0 + (k : Int).toNat * 1) = un (R.row k) := by
        rw [show 1 - 0 + (k : Int).toNat * 1 = 1 + k by simp, intAt_row _ _ hk', rowP_row F R S k hk']
      have e2 : intAt (relV S) (1 - 0 + (k : Int).toNat * 1) = un (S.row k) := by
        rw [show 1 - 0 + (k : Int).toNat * 1 = 1 + k by simp, intAt_row _ _ hk']
      have := hg (R.row k) (S.row k) w'
      rw [← e1, ← e2] at this
      exact this
    refine RunOF_sound tab_ok noX_local rfl rfl 100 [] _ _ rfl ?_ ?_
    · simp [okCell, Value.oneCell', inT, lk]; omega
    refine RunO.done ?_
    refine RunF_sound tab_ok noX_local 100 [] _ _ rfl ?_ ?_
    · simp
    refine ih (k + 1) (by omega) _ ⟨rfl, rfl, rfl, rfl, rfl, i64_eq (wrap_succ (by omega)), trivial⟩ ⟨congrArg (fun l => some (Blk.cells 25 [.vals 65 l])) ?_, rfl, rfl, trivial⟩
    simp [relV_set _ _ hk', rowP_step]
theorem rowwise_enters : Enters Tryd.prog 75 := enters_mk Tryd.func75 (by decide) rfl

theorem or_ok (a b : BitVec 64) (w : World) : Gives Tryd.prog 76 [.int .u64 (un a), .int .u64 (un b)] w (.int .u64 (un (a ||| b))) := by
  refine Gives.of_run Tryd.func76 rfl (by show 2 ≤ 8; decide) ?_
  refine RunF_sound tab_ok noX_local 100 [] _ _ rfl ?_ ?_
  · simp
  exact Run.retP tab_ok Tryd.func76 rfl trivial (fun M => by show Value.int _ _ = _; rw [bor_un])
theorem or_enters : Enters Tryd.prog 76 := enters_mk Tryd.func76 (by decide) rfl
theorem and_ok (a b : BitVec 64) (w : World) : Gives Tryd.prog 77 [.int .u64 (un a), .int .u64 (un b)] w (.int .u64 (un (a &&& b))) := by
  refine Gives.of_run Tryd.func77 rfl (by show 2 ≤ 8; decide) ?_
  refine RunF_sound tab_ok noX_local 100 [] _ _ rfl ?_ ?_
  · simp
  exact Run.retP tab_ok Tryd.func77 rfl trivial (fun M => by show Value.int _ _ = _; rw [band_un])
theorem and_enters : Enters Tryd.prog 77 := enters_mk Tryd.func77 (by decide) rfl
theorem andn_ok (a b : BitVec 64) (w : World) : Gives Tryd.prog 78 [.int .u64 (un a), .int .u64 (un b)] w (.int .u64 (un (a &&& ~~~b))) := by
  refine Gives.of_run Tryd.func78 rfl (by show 2 ≤ 8; decide) ?_
  refine RunF_sound tab_ok noX_local 100 [] _ _ rfl ?_ ?_
  · simp
  exact Run.retP tab_ok Tryd.func78 rfl trivial (fun M => by show Value.int _ _ = _; rw [bandn_un])
theorem andn_enters : Enters Tryd.prog 78 := enters_mk Tryd.func78 (by decide) rfl

theorem union_ok (r s : Rl) (w : World) : Gives Tryd.prog 21 [encRel r, encRel s] w (encRel (opL (fun a b => a ||| b) r s)) := by
  refine Gives.of_run Tryd.func21 rfl (by show 2 ≤ 8; decide) ?_
  refine RunF_sound tab_ok noX_local 100 [] _ _ rfl ?_ ?_
  · simp
  refine Run.callM noX_local rfl rfl rfl rfl rfl rfl rowwise_enters rfl (fun M w' _ _ => rowwise_ok 76 (fun a b => a ||| b) or_enters or_ok r s w') ?_
  refine RunF_sound tab_ok noX_local 100 [] _ _ rfl ?_ ?_
  · simp [segsVals, relV_one']
  refine Run.retP tab_ok Tryd.func21 rfl ?_ (fun M => ?_)
  · simp
  rfl
theorem union_enters : Enters Tryd.prog 21 := enters_mk Tryd.func21 (by decide) rfl

theorem meet_ok (r s : Rl) (w : World) : Gives Tryd.prog 23 [encRel r, encRel s] w (encRel (opL (fun a b => a &&& b) r s)) := by
  refine Gives.of_run Tryd.func23 rfl (by show 2 ≤ 8; decide) ?_
  refine RunF_sound tab_ok noX_local 100 [] _ _ rfl ?_ ?_
  · simp
  refine Run.callM noX_local rfl rfl rfl rfl rfl rfl rowwise_enters rfl (fun M w' _ _ => rowwise_ok 77 (fun a b => a &&& b) and_enters and_ok r s w') ?_
  refine RunF_sound tab_ok noX_local 100 [] _ _ rfl ?_ ?_
  · simp [segsVals, relV_one']
  refine Run.retP tab_ok Tryd.func23 rfl ?_ (fun M => ?_)
  · simp
  rfl
theorem meet_enters : Enters Tryd.prog 23 := enters_mk Tryd.func23 (by decide) rfl

theorem minus_ok (r s : Rl) (w : World) : Gives Tryd.prog 24 [encRel r, encRel s] w (encRel (opL (fun a b => a &&& ~~~b) r s)) := by
  refine Gives.of_run Tryd.func24 rfl (by show 2 ≤ 8; decide) ?_
  refine RunF_sound tab_ok noX_local 100 [] _ _ rfl ?_ ?_
  · simp
  refine Run.callM noX_local rfl rfl rfl rfl rfl rfl rowwise_enters rfl (fun M w' _ _ => rowwise_ok 78 (fun a b => a &&& ~~~b) andn_enters andn_ok r s w') ?_
  refine RunF_sound tab_ok noX_local 100 [] _ _ rfl ?_ ?_
  · simp [segsVals, relV_one']
  refine Run.retP tab_ok Tryd.func24 rfl ?_ (fun M => ?_)
  · simp
  rfl
theorem minus_enters : Enters Tryd.prog 24 := enters_mk Tryd.func24 (by decide) rfl

def notP (r : Rl) (k : Nat) : Rl := Rl.by_ r.n fun i => if i < k then mask r.n &&& ~~~(r.row i) else r.row i
theorem n_notP (r : Rl) (k : Nat) : (notP r k).n = r.n := Rl.n_by _ _
theorem notP_0 (r : Rl) : notP r 0 = r := by
  unfold notP
  conv => rhs; rw [← by_row r]
  exact Rl.by_congr fun i _ => by simp
theorem notP_row (r : Rl) (k : Nat) (hk : k < 64) : (notP r k).row k = r.row k := by
  rw [notP, Rl.row_by, if_pos hk, if_neg (by omega)]
theorem notP_step (r : Rl) (k : Nat) : (notP r k).setRow k (mask r.n &&& ~~~(r.row k)) = notP r (k + 1) := by
  unfold notP
  rw [Rl.set_by]
  refine Rl.by_congr fun i _ => ?_
  by_cases h : k = i
  · subst h; simp
  · rw [if_neg h]
    have : (i < k) ↔ (i < k + 1) := by omega
    simp only [this]
noncomputable def notL (r : Rl) : Rl := notP (rightL r) (rightL r).n.toNat

theorem not_ok (r : Rl) (w : World) : Gives Tryd.prog 28 [encRel r] w (encRel (notL r)) := by
  refine Gives.of_run Tryd.func28 rfl (by show 1 ≤ 24; decide) ?_
  refine RunF_sound tab_ok noX_local 100 [] _ _ rfl ?_ ?_
  · simp
  refine Run.callFn noX_local rfl rfl rfl rfl rfl rfl rfl right_enters rfl (fun w' _ => right_ok r w') ?_
  have hn := rightL_n r
  unfold notL
  generalize rightL r = R at hn
  refine RunF_sound tab_ok noX_local 100 [] _ _ rfl ?_ ?_
  · simp [segsVals, relV_one']
  suffices H : ∀ (d k : Nat), (k : Int) + d = R.n → ∀ σ, inT σ.t [(1, .ptr 0 0), (2, .ptr 1 0), (7, .v (.int .i64 R.n)), (8, .v (.int .i64 (k : Int)))] →
      inT σ.h [(0, .cells 25 [.vals 65 (relV (notP R k))]), (1, .cells 25 [.vals 65 (relV (Rl.void 0))])] → Run _ _ σ by
    refine H R.n.toNat 0 (by omega) _ ⟨rfl, rfl, ?_, rfl, trivial⟩ ⟨?_, rfl, trivial⟩
    · simp [lk]
    · rw [notP_0]; simp [lk]
  intro d
  induction d with
  | zero =>
    intro k hk σ ht hh
    refine Run.to ?_ ht hh (n' := 2)
    refine RunF_sound tab_ok noX_local 100 [false] _ _ rfl ?_ ?_
    · simp [relV_one', segsVals]; omega
    · refine Run.retP tab_ok Tryd.func28 rfl ?_ (fun M => ?_)
      · simp
      have : R.n.toNat = k := by omega
      rw [this]; rfl
  | succ d ih =>
    intro k hk σ ht hh
    refine Run.to ?_ ht hh (n' := 2)
    have hk' : k < 64 := by omega
    refine RunF_sound tab_ok noX_local 100 [true] _ _ rfl ?_ ?_
    · simp; omega
    refine Run.drawA noX_local rfl [] [(0, .cells 25 [.vals 65 (relV (notP R k))])] rfl rfl ⟨rfl, trivial⟩ ?_
    refine RunOF_sound tab_ok noX_local rfl rfl 100 [] _ _ rfl ?_ ?_
    · simp [relV_get _ _ hk', intAt_row _ _ hk']; omega
    refine RunO.callFn (r := .int .u64 (un (mask R.n))) noX_local rfl rfl rfl rfl rfl rfl rfl rfl whole_enters rfl (fun w' _ => ?_) ?_
    · simp only [Nat.add_zero, Nat.sub_zero, intAt_0, n_notP]
      exact whole_ok R.n w' hn.1
    refine RunOF_sound tab_ok noX_local rfl rfl 2 [] _ _ rfl ?_ ?_
    · simp; omega
    refine RunO.effLast tab_ok noX_local rfl rfl rfl rfl ?_ (fun e => by cases e) rfl ?_
    · simp [okCell, Value.oneCell']; omega
    refine RunF_sound tab_ok noX_local 100 [] _ _ rfl ?_ ?_
    · simp
    refine ih (k + 1) (by omega) _ ⟨rfl, rfl, rfl, i64_eq (wrap_succ (by omega)), trivial⟩ ⟨congrArg (fun l => some (Blk.cells 25 [.vals 65 l])) ?_, rfl, trivial⟩
    have e1 : intAt (relV (notP R k)) (1 + k) = un (R.row k) := by rw [intAt_row _ _ hk', notP_row R k hk']
    simp [e1, relV_set _ _ hk', notP_step]
theorem not_enters : Enters Tryd.prog 28 := enters_mk Tryd.func28 (by decide) rfl
end Go.Proofs.YtocpkgckllbjlaaDoor

/-
  Inverse, Compose: folded over the pairs. Own work.
-/
namespace Go.Proofs.YtocpkgckllbjlaaDoor
open Go.AM
set_option maxRecDepth 100000

def invF (n : Int) (l : List (Int × Int)) : Rl := l.foldl (fun o e => o.setRow e.2.toNat (o.row e.2.toNat ||| 1#64 <<< e.1.toNat)) (Rl.void n)
theorem invF_app (n : Int) (l : List (Int × Int)) (e : Int × Int) : invF n (l ++ [e]) = (invF n l).setRow e.2.toNat ((invF n l).row e.2.toNat ||| 1#64 <<< e.1.toNat) := by
  unfold invF; rw [List.foldl_append]; rfl
def cmpF (s : Rl) (n : Int) (l : List (Int × Int)) : Rl := l.foldl (fun o e => o.setRow e.1.toNat (o.row e.1.toNat ||| s.row e.2.toNat)) (Rl.void n)
theorem cmpF_app (s : Rl) (n : Int) (l : List (Int × Int)) (e : Int × Int) : cmpF s n (l ++ [e]) = (cmpF s n l).setRow e.1.toNat ((cmpF s n l).row e.1.toNat ||| s.row e.2.toNat) := by
  unfold cmpF; rw [List.foldl_append]; rfl

/-- Where the pairs are. -/
theorem restL_mem (r : Rl) : ∀ d i e, e ∈ restL r i d → ∃ a b : Nat, e = ((a : Int), (b : Int)) ∧ i ≤ a ∧ a < i + d ∧ r.has a b = true
  | 0, i, e, h => by cases h
  | d + 1, i, e, h => by
    rw [restL, List.mem_append] at h
    rcases h with h | h
    · obtain ⟨b, hb, rfl⟩ := List.mem_map.1 h
      exact ⟨i, b, rfl, Nat.le_refl _, by omega, (bitsL_mem _ _).1 hb⟩
    · obtain ⟨a, b, h1, h2, h3, h4⟩ := restL_mem r d (i + 1) e h
      exact ⟨a, b, h1, by omega, by omega, h4⟩

theorem edges_mem (r : Rl) (e : Int × Int) (h : e ∈ edgesL r) : ∃ a b : Nat, e = ((a : Int), (b : Int)) ∧ a < 64 ∧ b < 64 ∧ r.has a b = true := by
  obtain ⟨a, b, h1, h2, h3, h4⟩ := restL_mem r _ _ e h
  obtain ⟨h5, h6⟩ := Rl.has_lt r h4
  exact ⟨a, b, h1, h5, h6, h4⟩

theorem relV_tail_one (r : Rl) : (∀ c ∈ (relV r).tail, c.oneCell' = true) ↔ True := iff_true_intro fun c hc => relV_one r c (List.mem_of_mem_tail hc)

/-- The blocks of Inverse. -/
def invBlk (r o : Rl) : List (Nat × Blk) := [(2, .cells 25 [.vals 65 (relV o)]), (1, .cells 25 [.vals 65 (relV (Rl.void 0))]), (0, .cells 25 [.vals 65 (relV r)])]

theorem inverse_ok (r : Rl) (w : World) (hT : TabAt w) (h0 : 0 < w.heap.size) : Gives Tryd.prog 26 [encRel r] w (encRel (invF (rightL r).n (edgesL (rightL r)))) := by
  refine Gives.of_run Tryd.func26 rfl (by show 1 ≤ 24; decide) ?_
  refine RunF_sound tab_ok noX_local 100 [] _ _ rfl ?_ ?_
  · simp
  refine Run.callFn noX_local rfl rfl rfl rfl rfl rfl rfl right_enters rfl (fun w' _ => right_ok r w') ?_
  refine RunF_sound tab_ok noX_local 100 [] _ _ rfl ?_ ?_
  · simp [fillL, Value.cells, segsVals, relV_tail_one, splice]
  refine Run.callR noX_local rfl rfl rfl rfl rfl rfl edges_enters rfl (fun M w' _ _ => edges_ok r w') ?_
  rintro v w2 w1 S1 hag hag2 ⟨bb, rfl, hbl, hRel⟩ hS1
  have hB1 := (Based.refl w).call hag hag2 hS1
  have hbw1 : bb < w1.heap.size := World.block_lt_of_cell? w1 _ (hRel 0 _ rfl)
  have hS1b : ¬ S1 bb := hS1.new bb hbl
  have hS10 : ¬ S1 0 := fun h => by have := hB1.new 0 h; omega
  have hw1 : 0 < w1.heap.size := by have := hB1.agree.size; omega
  have hn := rightL_n r
  have hit := edges_iter (rightL r) hn bb w1 hRel (hT.agree hB1.agree (fun f => f))
  have hmem := edges_mem (rightL r)
  generalize rightL r = R at *
  generalize edgesL R = E at *
  refine ⟨.fn 71 [.v (.pointer (some ⟨bb, 0, none⟩))], fun M => rfl, ?_⟩
  refine RunF_sound tab_ok noX_local 100 [] _ _ rfl ?_ ?_
  · simp
  refine Run.rangeFn noX_local rfl rfl (fun M => rfl) edgesIt_enters 4 [(3, .ptr 2 0), (2, .ptr 1 0)] ⟨rfl, rfl, trivial⟩ rfl rfl hit
    (fun k hk => by rcases hk with rfl | rfl; exact ⟨hw1, hS10⟩; exact ⟨hbw1, hS1b⟩) (fun x hx => by simp only [encEs, List.mem_map] at hx; obtain ⟨e, _, rfl⟩ := hx; rfl)
    (fun pre h => ∃ k, k ≤ E.length ∧ pre = encEs (E.take k) ∧ h = invBlk r (invF R.n (E.take k)))
    (fun _ _ _ => False) 12 (invBlk r (invF R.n [])) ⟨0, by omega, rfl, rfl⟩ ⟨?_, rfl, rfl, trivial⟩ ?_ ?_ ?_
  · show _ = some (Blk.cells 25 [.vals 65 (relV (Rl.void R.n))])
    rfl
  · rintro D l a0 rc wy fpy pre x h hI hpx ⟨k, hk, rfl, rfl⟩
    obtain ⟨hlt, rfl⟩ := encEs_next hk hpx
    obtain ⟨a, b, he, ha, hb, hab⟩ := hmem E[k] (List.getElem_mem hlt)
    have hts : E.take (k + 1) = E.take k ++ [E[k]] := List.take_succ_eq_append_getElem hlt
    have hstep : invF R.n (E.take (k + 1)) = (invF R.n (E.take k)).setRow b ((invF R.n (E.take k)).row b ||| 1#64 <<< a) := by
      rw [hts, invF_app, he]; simp
    have hnext : encEs (E.take k) ++ [encEd E[k]] = encEs (E.take (k + 1)) := encEs_succ hlt
    rw [he] at hnext ⊢
    generalize invF R.n (E.take k) = o at hstep ⊢
    refine RunF_sound tab_ok (roundX_local hI.loc l rc .ready) 100 [] _ _ rfl ?_ ?_
    · simp [segsVals]
    refine Run.beginRound hI.loc hI.lw ?_
    refine RunF_sound tab_ok (roundX_local hI.loc l rc .busy) 100 [] _ _ rfl ?_ ?_
    · simp
    refine Run.drawA (roundX_local hI.loc l rc .busy) rfl [4] [(12, .cells 67 [.vals 2 [.int .i64 (a : Int), .int .i64 (b : Int)]])] rfl rfl ⟨rfl, trivial⟩ ?_
    refine RunOF_sound tab_ok (roundX_local hI.loc l rc .busy) rfl rfl 100 [] _ _ rfl ?_ ?_
    · simp [relV_get _ _ hb, intAt_row _ _ hb, okCell, Value.oneCell', inT, lk]; omega
    refine RunO.done ?_
    refine RunF_sound tab_ok (roundX_local hI.loc l rc .busy) 100 [] _ _ rfl ?_ ?_
    · simp
    refine Run.roundEnd hI [] (invBlk r (invF R.n (E.take (k + 1)))) ⟨k + 1, by omega, hnext, rfl⟩ ⟨rfl, rfl, trivial⟩ ⟨?_, rfl, rfl, trivial⟩ rfl
    refine congrArg (fun l => some (Blk.cells 25 [.vals 65 l])) ?_
    rw [hstep]
    simp [intAt_row _ _ hb, shl1_un, relV_set _ _ hb]
  · rintro D h ⟨k, hk, hx, rfl⟩
    have hke := encEs_all hk hx
    have e1 : E.take k = E := List.take_of_length_le (by omega)
    rw [e1]
    refine RunF_sound tab_ok (markX_local noX_local D) 100 [] _ _ rfl ?_ ?_
    · simp [segsVals, relV_one']
    refine Run.retB (Ds := [D]) tab_ok noX_local hB1 Tryd.func26 rfl ?_ (fun M => ?_)
    · simp
    rfl
  · rintro D pre c h hpre hF
    exact hF.elim
theorem inverse_enters : Enters Tryd.prog 26 := enters_mk Tryd.func26 (by decide) rfl
end Go.Proofs.YtocpkgckllbjlaaDoor

/-
  Compose. Own work.
-/
namespace Go.Proofs.YtocpkgckllbjlaaDoor
open Go.AM
set_option maxRecDepth 100000

def cmpBlk (r s o : Rl) : List (Nat × Blk) := [(3, .cells 25 [.vals 65 (relV o)]), (2, .cells 25 [.vals 65 (relV (Rl.void 0))]), (1, .cells 25 [.vals 65 (relV s)]), (0, .cells 25 [.vals 65 (relV r)])]

noncomputable def composeL (r s : Rl) : Rl := cmpF (twoL r s).2 (twoL r s).1.n (edgesL (twoL r s).1)

theorem compose_ok (r s : Rl) (w : World) (hT : TabAt w) (h0 : 0 < w.heap.size) : Gives Tryd.prog 25 [encRel r, encRel s] w (encRel (composeL r s)) := by
  refine Gives.of_run Tryd.func25 rfl (by show 2 ≤ 33; decide) ?_
  refine RunF_sound tab_ok noX_local 100 [] _ _ rfl ?_ ?_
  · simp
  refine Run.callFn noX_local rfl rfl rfl rfl rfl rfl rfl two_enters rfl (fun w' _ => two_ok r s w') ?_
  have hn := twoL_b r s
  have hrt := (twoL_right r s).1
  unfold composeL
  generalize (twoL r s).1 = R at hn hrt
  generalize (twoL r s).2 = S at hn hrt
  refine RunF_sound tab_ok noX_local 100 [] _ _ rfl ?_ ?_
  · simp [fillL, Value.cells, segsVals, relV_one', relV_tail_one, splice]
  refine Run.callR (Q := fun v w w' => ∃ b, v = edgesF b ∧ w.heap.size ≤ b ∧ RelAt w' b R) noX_local rfl rfl rfl rfl rfl rfl edges_enters rfl (fun M w' _ _ => ?_) ?_
  · have := edges_ok R w'
    rw [hrt] at this
    simp only [List.append_nil]
    exact this
  rintro v w2 w1 S1 hag hag2 ⟨bb, rfl, hbl, hRel⟩ hS1
  have hB1 := (Based.refl w).call hag hag2 hS1
  have hbw1 : bb < w1.heap.size := World.block_lt_of_cell? w1 _ (hRel 0 _ rfl)
  have hS1b : ¬ S1 bb := hS1.new bb hbl
  have hS10 : ¬ S1 0 := fun h => by have := hB1.new 0 h; omega
  have hw1 : 0 < w1.heap.size := by have := hB1.agree.size; omega
  have hit := edges_iter R hn bb w1 hRel (hT.agree hB1.agree (fun f => f))
  have hmem := edges_mem R
  generalize edgesL R = E at *
  refine ⟨.fn 71 [.v (.pointer (some ⟨bb, 0, none⟩))], fun M => rfl, ?_⟩
  refine RunF_sound tab_ok noX_local 100 [] _ _ rfl ?_ ?_
  · simp
  refine Run.rangeFn noX_local rfl rfl (fun M => rfl) edgesIt_enters 6 [(5, .ptr 3 0), (4, .ptr 2 0), (3, .ptr 1 0)] ⟨rfl, rfl, rfl, trivial⟩ rfl rfl hit
    (fun k hk => by rcases hk with rfl | rfl; exact ⟨hw1, hS10⟩; exact ⟨hbw1, hS1b⟩) (fun x hx => by simp only [encEs, List.mem_map] at hx; obtain ⟨e, _, rfl⟩ := hx; rfl)
    (fun pre h => ∃ k, k ≤ E.length ∧ pre = encEs (E.take k) ∧ h = cmpBlk R S (cmpF S R.n (E.take k)))
    (fun _ _ _ => False) 12 (cmpBlk R S (cmpF S R.n [])) ⟨0, by omega, rfl, rfl⟩ ⟨?_, rfl, ?_, ?_, trivial⟩ ?_ ?_ ?_
  · show _ = some (Blk.cells 25 [.vals 65 (relV (Rl.void R.n))])
    simp [lk]
    rfl
  · simp [lk]
  · simp [lk]
  · rintro D l a0 rc wy fpy pre x h hI hpx ⟨k, hk, rfl, rfl⟩
    obtain ⟨hlt, rfl⟩ := encEs_next hk hpx
    obtain ⟨a, b, he, ha, hb, hab⟩ := hmem E[k] (List.getElem_mem hlt)
    have hts : E.take (k + 1) = E.take k ++ [E[k]] := List.take_succ_eq_append_getElem hlt
    have hstep : cmpF S R.n (E.take (k + 1)) = (cmpF S R.n (E.take k)).setRow a ((cmpF S R.n (E.take k)).row a ||| S.row b) := by
      rw [hts, cmpF_app, he]; simp
    have hnext : encEs (E.take k) ++ [encEd E[k]] = encEs (E.take (k + 1)) := encEs_succ hlt
    rw [he] at hnext ⊢
    generalize cmpF S R.n (E.take k) = o at hstep ⊢
    refine RunF_sound tab_ok (roundX_local hI.loc l rc .ready) 100 [] _ _ rfl ?_ ?_
    · simp [segsVals]
    refine Run.beginRound hI.loc hI.lw ?_
    refine RunF_sound tab_ok (roundX_local hI.loc l rc .busy) 100 [] _ _ rfl ?_ ?_
    · simp
    refine Run.drawA (roundX_local hI.loc l rc .busy) rfl [4] [(12, .cells 67 [.vals 2 [.int .i64 (a : Int), .int .i64 (b : Int)]]), (1, .cells 25 [.vals 65 (relV S)])] rfl rfl ⟨rfl, rfl, trivial⟩ ?_
    refine RunOF_sound tab_ok (roundX_local hI.loc l rc .busy) rfl rfl 100 [] _ _ rfl ?_ ?_
    · simp [relV_get _ _ hb, relV_get _ _ ha, intAt_row _ _ hb, intAt_row _ _ ha, okCell, Value.oneCell', inT, lk]; omega
    refine RunO.done ?_
    refine RunF_sound tab_ok (roundX_local hI.loc l rc .busy) 100 [] _ _ rfl ?_ ?_
    · simp
    refine Run.roundEnd hI [] (cmpBlk R S (cmpF S R.n (E.take (k + 1)))) ⟨k + 1, by omega, hnext, rfl⟩ ⟨rfl, rfl, rfl, trivial⟩ ⟨?_, rfl, rfl, rfl, trivial⟩ rfl
    refine congrArg (fun l => some (Blk.cells 25 [.vals 65 l])) ?_
    rw [hstep]
    simp [intAt_row _ _ hb, intAt_row _ _ ha, relV_set _ _ ha]
  · rintro D h ⟨k, hk, hx, rfl⟩
    have hke := encEs_all hk hx
    have e1 : E.take k = E := List.take_of_length_le (by omega)
    rw [e1]
    refine RunF_sound tab_ok (markX_local noX_local D) 100 [] _ _ rfl ?_ ?_
    · simp [segsVals, relV_one']
    refine Run.retB (Ds := [D]) tab_ok noX_local hB1 Tryd.func25 rfl ?_ (fun M => ?_)
    · simp
    rfl
  · rintro D pre c h hpre hF
    exact hF.elim
theorem compose_enters : Enters Tryd.prog 25 := enters_mk Tryd.func25 (by decide) rfl

/-! ### Where the pairs of a fold are -/
theorem invF_n (n : Int) : ∀ l : List (Int × Int), (invF n l).n = n := by
  intro l
  unfold invF
  suffices H : ∀ (l : List (Int × Int)) (o : Rl), (l.foldl (fun o e => o.setRow e.2.toNat (o.row e.2.toNat ||| 1#64 <<< e.1.toNat)) o).n = o.n from H l _
  intro l
  induction l with
  | nil => intro o; rfl
  | cons e l ih => intro o; rw [List.foldl_cons, ih, Rl.n_setRow]
theorem cmpF_n (s : Rl) (n : Int) : ∀ l : List (Int × Int), (cmpF s n l).n = n := by
  intro l
  unfold cmpF
  suffices H : ∀ (l : List (Int × Int)) (o : Rl), (l.foldl (fun o e => o.setRow e.1.toNat (o.row e.1.toNat ||| s.row e.2.toNat)) o).n = o.n from H l _
  intro l
  induction l with
  | nil => intro o; rfl
  | cons e l ih => intro o; rw [List.foldl_cons, ih, Rl.n_setRow]

theorem invF_has (l : List (Int × Int)) (hl : ∀ e ∈ l, e.1.toNat < 64 ∧ e.2.toNat < 64) : ∀ (o : Rl) (x y : Nat),
    (l.foldl (fun o e => o.setRow e.2.toNat (o.row e.2.toNat ||| 1#64 <<< e.1.toNat)) o).has x y = (o.has x y || l.any fun e => decide (e.2.toNat = x) && decide (e.1.toNat = y)) := by
  induction l with
  | nil => intro o x y; simp
  | cons e l ih =>
    intro o x y
    have he := hl e (List.mem_cons_self ..)
    rw [List.foldl_cons, ih (fun e' h' => hl e' (List.mem_cons_of_mem _ h')), Rl.has_setRow, List.any_cons, ← Bool.or_assoc]
    congr 1
    by_cases hx : e.2.toNat = x
    · subst hx
      rw [if_pos ⟨rfl, he.2⟩, BitVec.getLsbD_or, one_shl_get _ _ he.1]
      have : ∀ a b : Nat, decide (a = b) = decide (b = a) := fun a b => decide_eq_decide.2 eq_comm
      rw [this y]
      simp [Rl.has]
    · rw [if_neg (by simp [hx])]; simp [hx]

theorem cmpF_has (s : Rl) (l : List (Int × Int)) (hl : ∀ e ∈ l, e.1.toNat < 64) : ∀ (o : Rl) (x y : Nat),
    (l.foldl (fun o e => o.setRow e.1.toNat (o.row e.1.toNat ||| s.row e.2.toNat)) o).has x y = (o.has x y || l.any fun e => decide (e.1.toNat = x) && s.has e.2.toNat y) := by
  induction l with
  | nil => intro o x y; simp
  | cons e l ih =>
    intro o x y
    have he := hl e (List.mem_cons_self ..)
    rw [List.foldl_cons, ih (fun e' h' => hl e' (List.mem_cons_of_mem _ h')), Rl.has_setRow, List.any_cons, ← Bool.or_assoc]
    congr 1
    by_cases hx : e.1.toNat = x
    · subst hx
      rw [if_pos ⟨rfl, he⟩, BitVec.getLsbD_or]
      simp [Rl.has]
    · rw [if_neg (by simp [hx])]; simp [hx]

theorem edges_has (r : Rl) (a b : Nat) : ((a : Int), (b : Int)) ∈ edgesL (rightL r) ↔ (rightL r).has a b = true := by
  have hn := rightL_n r
  constructor
  · intro h
    obtain ⟨a', b', h1, _, _, h4⟩ := edges_mem _ _ h
    simp only [Prod.mk.injEq, Int.natCast_inj] at h1
    rw [h1.1, h1.2]; exact h4
  · intro h
    have hb := right_has r a b h
    suffices H : ∀ d i, i ≤ a → a < i + d → ((a : Int), (b : Int)) ∈ restL (rightL r) i d from H _ 0 (Nat.zero_le _) (by omega)
    intro d
    induction d with
    | zero => intro i h1 h2; omega
    | succ d ih =>
      intro i h1 h2
      rw [restL, List.mem_append]
      by_cases he : i = a
      · subst he
        exact .inl (List.mem_map.2 ⟨b, (bitsL_mem _ _).2 h, rfl⟩)
      · exact .inr (ih (i + 1) (by omega) (by omega))

/-- Inverse, pair by pair. -/
theorem inverse_has (r : Rl) (x y : Nat) : (invF (rightL r).n (edgesL (rightL r))).has x y = (rightL r).has y x := by
  unfold invF
  rw [invF_has _ (fun e he => by obtain ⟨a, b, rfl, h1, h2, _⟩ := edges_mem _ _ he; exact ⟨by simpa using h1, by simpa using h2⟩), Rl.gen_void, Rl.has_gen]
  rw [Bool.and_false, Bool.false_or, Bool.eq_iff_iff, List.any_eq_true]
  constructor
  · rintro ⟨e, he, h⟩
    obtain ⟨a, b, rfl, _, _, h4⟩ := edges_mem _ _ he
    simp at h
    rw [← h.1, ← h.2]; exact h4
  · intro h
    exact ⟨((y : Int), (x : Int)), (edges_has r y x).2 h, by simp⟩

/-- Compose, pair by pair. -/
theorem compose_has (r s : Rl) (x y : Nat) : (composeL r s).has x y = (List.range 64).any fun c => (twoL r s).1.has x c && (twoL r s).2.has c y := by
  unfold composeL cmpF
  have hr := (twoL_right r s).1
  rw [cmpF_has _ _ (fun e he => by obtain ⟨a, b, rfl, h1, h2, _⟩ := edges_mem _ _ he; simpa using h1), Rl.gen_void, Rl.has_gen]
  rw [Bool.and_false, Bool.false_or, Bool.eq_iff_iff, List.any_eq_true, List.any_eq_true]
  constructor
  · rintro ⟨e, he, h⟩
    obtain ⟨a, b, rfl, _, hb, h4⟩ := edges_mem _ _ he
    simp at h
    exact ⟨b, List.mem_range.2 hb, by rw [← h.1, h4]; simpa using h.2⟩
  · rintro ⟨c, _, h⟩
    simp only [Bool.and_eq_true] at h
    refine ⟨((x : Int), (c : Int)), ?_, by simpa using h.2⟩
    rw [← hr]
    exact (edges_has _ x c).2 (by rw [hr]; exact h.1)
end Go.Proofs.YtocpkgckllbjlaaDoor

/-
  The reference's operations of two. Own work.
-/
namespace Go.Proofs.YtocpkgckllbjlaaDoor
open Go.AM
set_option maxRecDepth 100000

theorem hasI_in {R : Rl} {a b : Nat} (ha : (a : Int) < R.n) (hb : (b : Int) < R.n) : hasI R a b = R.has a b := by
  unfold hasI
  rw [decide_eq_true (by omega)]; simp

/-- Which pairs stand in an operation of two. -/
def pTwo (op : Nat) (R S : Rl) (x y : Nat) : Bool :=
  match op with
  | 0 => R.has x y || S.has x y
  | 1 => R.has x y && S.has x y
  | 2 => R.has x y && !S.has x y
  | _ => (List.range R.n.toNat).any fun c => R.has x c && S.has c y

theorem pTwo_lt (op : Nat) (R S : Rl) (hR : rightL R = R) (hS : rightL S = S) (hn : R.n = S.n) (x y : Nat) (h : pTwo op R S x y = true) : (x : Int) < R.n ∧ (y : Int) < R.n := by
  have h1 : ∀ a b, R.has a b = true → (a : Int) < R.n ∧ (b : Int) < R.n := fun a b hb => by have := right_has R a b (by rw [hR]; exact hb); rwa [hR] at this
  have h2 : ∀ a b, S.has a b = true → (a : Int) < R.n ∧ (b : Int) < R.n := fun a b hb => by have := right_has S a b (by rw [hS]; exact hb); rw [hS] at this; rwa [hn]
  unfold pTwo at h
  split at h
  · rcases Bool.or_eq_true_iff.1 h with h | h
    · exact h1 _ _ h
    · exact h2 _ _ h
  · exact h1 _ _ (Bool.and_eq_true_iff.1 h).1
  · exact h1 _ _ (Bool.and_eq_true_iff.1 h).1
  · obtain ⟨c, _, hc⟩ := List.any_eq_true.1 h
    have := Bool.and_eq_true_iff.1 hc
    exact ⟨(h1 _ _ this.1).1, (h2 _ _ this.2).2⟩

noncomputable def twoR (op : Nat) (r s : Rl) : Rl := Rl.gen (twoL r s).1.n (pTwo op (twoL r s).1 (twoL r s).2)

theorem twoR_void (op : Nat) (r s : Rl) (h : ¬ (rightL r).n = (rightL s).n) : twoR op r s = Rl.void 0 := by
  have hr := twoL_right r s
  have hn := twoL_n r s
  have h0 : (twoL r s).1.n = 0 := by unfold twoL; rw [if_neg h]; rfl
  unfold twoR
  rw [Rl.gen_void, h0]
  refine Rl.gen_congr fun x y _ _ => ?_
  cases hb : pTwo op (twoL r s).1 (twoL r s).2 x y with
  | false => rfl
  | true => have := pTwo_lt op _ _ hr.1 hr.2 hn x y hb; omega

theorem two_R (op : Nat) (hop : op ≤ 3) (r s : Rl) (w : World) : Gives Tryd.prog 22 [.int .i64 (op : Int), encRel r, encRel s] w (encRel (twoR op r s)) := by
  refine Gives.of_run Tryd.func22 rfl (by show 3 ≤ 107; decide) ?_
  refine RunF_sound tab_ok noX_local 100 [] _ _ rfl ?_ ?_
  · simp
  refine Run.callFn noX_local rfl rfl rfl rfl rfl rfl rfl rightR_enters rfl (fun w' _ => rightR_ok r w') ?_
  refine RunF_sound tab_ok noX_local 100 [] _ _ rfl ?_ ?_
  · simp [segsVals, relV_one']
  refine Run.callFn noX_local rfl rfl rfl rfl rfl rfl rfl rightR_enters rfl (fun w' _ => rightR_ok s w') ?_
  by_cases hne : ¬ (rightL r).n = (rightL s).n
  · rw [twoR_void op r s hne]
    refine RunF_sound tab_ok noX_local 100 [true] _ _ rfl ?_ ?_
    · simp [fillL, Value.cells, segsVals, relV_one', hne]
    refine Run.retP tab_ok Tryd.func22 rfl ?_ (fun M => ?_)
    · simp [fillL, Value.cells]
    rfl
  have hne := Classical.not_not.1 hne
  have et : twoL r s = (rightL r, rightL s) := by unfold twoL; rw [if_pos hne]
  unfold twoR
  rw [et]
  have hR := rightL_idem r
  have hS := rightL_idem s
  have hn := rightL_n r
  simp only []
  generalize rightL r = R at hR hn hne
  generalize rightL s = S at hS hne
  have hnS : 0 ≤ S.n ∧ S.n ≤ 64 := by omega
  have hlt := pTwo_lt op R S hR hS hne
  generalize hp : pTwo op R S = p at hlt
  refine RunF_sound tab_ok noX_local 100 [false] _ _ rfl ?_ ?_
  · simp [fillL, Value.cells, segsVals, relV_one', relV_tail_one, splice, hne]
  suffices H : ∀ (d a : Nat), (a : Int) + d = R.n → ∀ σ, inT σ.t [(0, .v (.int .i64 (op : Int))), (4, .ptr 0 0), (5, .ptr 1 0), (6, .ptr 2 0), (7, .ptr 3 0), (8, .v (.int .i64 (a : Int)))] →
      inT σ.h [(0, .cells 25 [.vals 65 (relV R)]), (1, .cells 25 [.vals 65 (relV S)]), (2, .cells 25 [.vals 65 (relV (Rl.void 0))]), (3, .cells 25 [.vals 65 (relV (Rl.gen R.n (Rl.seen p a 0)))])] → Run _ _ σ by
    refine H R.n.toNat 0 (by omega) _ ⟨rfl, rfl, rfl, rfl, rfl, rfl, trivial⟩ ⟨?_, ?_, rfl, ?_, trivial⟩
    · simp [lk]
    · simp [lk]
    · rw [Rl.seen_0]
      simp [lk]
      rfl
  intro d
  induction d with
  | zero =>
    intro a ha σ ht hh
    refine Run.to ?_ ht hh (n' := 4)
    refine RunF_sound tab_ok noX_local 100 [false] _ _ rfl ?_ ?_
    · simp [segsVals, relV_one']; omega
    refine Run.retP tab_ok Tryd.func22 rfl ?_ (fun M => ?_)
    · simp
    rw [Rl.seen_all (fun x y h => by have := hlt x y h; omega)]; rfl
  | succ d ih =>
    intro a ha σ ht hh
    refine Run.to ?_ ht hh (n' := 4)
    have ha' : a < 64 := by omega
    have han : (a : Int) < R.n := by omega
    refine RunF_sound tab_ok noX_local 100 [true] _ _ rfl ?_ ?_
    · simp; omega
    suffices H2 : ∀ (e b : Nat), (b : Int) + e = R.n → ∀ σ, inT σ.t [(0, .v (.int .i64 (op : Int))), (4, .ptr 0 0), (5, .ptr 1 0), (6, .ptr 2 0), (7, .ptr 3 0), (8, .v (.int .i64 (a : Int))), (9, .v (.int .i64 (b : Int)))] →
        inT σ.h [(0, .cells 25 [.vals 65 (relV R)]), (1, .cells 25 [.vals 65 (relV S)]), (2, .cells 25 [.vals 65 (relV (Rl.void 0))]), (3, .cells 25 [.vals 65 (relV (Rl.gen R.n (Rl.seen p a b)))])] → Run _ _ σ by
      exact H2 R.n.toNat 0 (by omega) _ ⟨rfl, rfl, rfl, rfl, rfl, rfl, rfl, trivial⟩ ⟨rfl, rfl, rfl, rfl, trivial⟩
    intro e
    induction e with
    | zero =>
      intro b hb σ ht hh
      refine Run.to ?_ ht hh (n' := 4)
      refine RunF_sound tab_ok noX_local 100 [false] _ _ rfl ?_ ?_
      · simp; omega
      rw [Rl.seen_row (fun x y h => by have := hlt x y h; omega)]
      exact ih (a + 1) (by omega) _ ⟨rfl, rfl, rfl, rfl, rfl, i64_eq (wrap_succ (by omega)), trivial⟩ ⟨rfl, rfl, rfl, rfl, trivial⟩
    | succ e ihe =>
      intro b hb σ ht hh
      refine Run.to ?_ ht hh (n' := 4)
      have hb' : b < 64 := by omega
      have hbn : (b : Int) < R.n := by omega
      have hI : hasI R a b = R.has a b := hasI_in han hbn
      have hJ : hasI S a b = S.has a b := hasI_in (by omega) (by omega)
      -- behind the test
      suffices T : ∀ σ, inTC σ.t [(0, .v (.int .i64 (op : Int))), (4, .ptr 0 0), (5, .ptr 1 0), (6, .ptr 2 0), (7, .ptr 3 0), (8, .v (.int .i64 (a : Int))), (9, .v (.int .i64 (b : Int))), (96, .v (.bool (p a b)))] →
          inT σ.h [(0, .cells 25 [.vals 65 (relV R)]), (1, .cells 25 [.vals 65 (relV S)]), (2, .cells 25 [.vals 65 (relV (Rl.void 0))]), (3, .cells 25 [.vals 65 (relV (Rl.gen R.n (Rl.seen p a b)))])] → Run _ _ σ by
        rcases (show op = 0 ∨ op = 1 ∨ op = 2 ∨ op = 3 by omega) with rfl | rfl | rfl | rfl
        · have hpe : p a b = (R.has a b || S.has a b) := by rw [← hp]; rfl
          refine RunF_sound tab_ok noX_local 100 [true, true] _ _ rfl ?_ ?_
          · simp; omega
          refine Run.callFn noX_local rfl rfl rfl rfl rfl rfl rfl hasR_enters rfl (fun w' _ => hasR_ok R hn a b w') ?_
          rw [hI]
          by_cases c : ¬ R.has a b = true
          · refine RunF_sound tab_ok noX_local 100 [false] _ _ rfl ?_ ?_
            · simpa using c
            refine Run.callFn noX_local rfl rfl rfl rfl rfl rfl rfl hasR_enters rfl (fun w' _ => hasR_ok S hnS a b w') ?_
            rw [hJ]
            refine RunF_sound tab_ok noX_local 100 [] _ _ rfl ?_ ?_
            · simp
            have c' : R.has a b = false := by simpa using c
            exact T _ ⟨inTC_same rfl, inTC_same rfl, inTC_same rfl, inTC_same rfl, inTC_same rfl, inTC_same rfl, inTC_same rfl, ⟨_, rfl, fun M => by rw [hpe, c', Bool.false_or]⟩, trivial⟩ ⟨rfl, rfl, rfl, rfl, trivial⟩
          · have c := Classical.not_not.1 c
            first
            | (refine RunF_sound tab_ok noX_local 8 [true] _ _ rfl (by simp [c]) ?_; exact T _ ⟨inTC_same rfl, inTC_same rfl, inTC_same rfl, inTC_same rfl, inTC_same rfl, inTC_same rfl, inTC_same rfl, ⟨_, rfl, fun M => by rw [hpe, c]; rfl⟩, trivial⟩ ⟨rfl, rfl, rfl, rfl, trivial⟩)
            | (refine RunF_sound tab_ok noX_local 9 [true] _ _ rfl (by simp [c]) ?_; exact T _ ⟨inTC_same rfl, inTC_same rfl, inTC_same rfl, inTC_same rfl, inTC_same rfl, inTC_same rfl, inTC_same rfl, ⟨_, rfl, fun M => by rw [hpe, c]; rfl⟩, trivial⟩ ⟨rfl, rfl, rfl, rfl, trivial⟩)
            | (refine RunF_sound tab_ok noX_local 10 [true] _ _ rfl (by simp [c]) ?_; exact T _ ⟨inTC_same rfl, inTC_same rfl, inTC_same rfl, inTC_same rfl, inTC_same rfl, inTC_same rfl, inTC_same rfl, ⟨_, rfl, fun M => by rw [hpe, c]; rfl⟩, trivial⟩ ⟨rfl, rfl, rfl, rfl, trivial⟩)
            | (refine RunF_sound tab_ok noX_local 11 [true] _ _ rfl (by simp [c]) ?_; exact T _ ⟨inTC_same rfl, inTC_same rfl, inTC_same rfl, inTC_same rfl, inTC_same rfl, inTC_same rfl, inTC_same rfl, ⟨_, rfl, fun M => by rw [hpe, c]; rfl⟩, trivial⟩ ⟨rfl, rfl, rfl, rfl, trivial⟩)
            | (refine RunF_sound tab_ok noX_local 12 [true] _ _ rfl (by simp [c]) ?_; exact T _ ⟨inTC_same rfl, inTC_same rfl, inTC_same rfl, inTC_same rfl, inTC_same rfl, inTC_same rfl, inTC_same rfl, ⟨_, rfl, fun M => by rw [hpe, c]; rfl⟩, trivial⟩ ⟨rfl, rfl, rfl, rfl, trivial⟩)
            | (refine RunF_sound tab_ok noX_local 13 [true] _ _ rfl (by simp [c]) ?_; exact T _ ⟨inTC_same rfl, inTC_same rfl, inTC_same rfl, inTC_same rfl, inTC_same rfl, inTC_same rfl, inTC_same rfl, ⟨_, rfl, fun M => by rw [hpe, c]; rfl⟩, trivial⟩ ⟨rfl, rfl, rfl, rfl, trivial⟩)
            | (refine RunF_sound tab_ok noX_local 14 [true] _ _ rfl (by simp [c]) ?_; exact T _ ⟨inTC_same rfl, inTC_same rfl, inTC_same rfl, inTC_same rfl, inTC_same rfl, inTC_same rfl, inTC_same rfl, ⟨_, rfl, fun M => by rw [hpe, c]; rfl⟩, trivial⟩ ⟨rfl, rfl, rfl, rfl, trivial⟩)
            | (refine RunF_sound tab_ok noX_local 15 [true] _ _ rfl (by simp [c]) ?_; exact T _ ⟨inTC_same rfl, inTC_same rfl, inTC_same rfl, inTC_same rfl, inTC_same rfl, inTC_same rfl, inTC_same rfl, ⟨_, rfl, fun M => by rw [hpe, c]; rfl⟩, trivial⟩ ⟨rfl, rfl, rfl, rfl, trivial⟩)
            | (refine RunF_sound tab_ok noX_local 16 [true] _ _ rfl (by simp [c]) ?_; exact T _ ⟨inTC_same rfl, inTC_same rfl, inTC_same rfl, inTC_same rfl, inTC_same rfl, inTC_same rfl, inTC_same rfl, ⟨_, rfl, fun M => by rw [hpe, c]; rfl⟩, trivial⟩ ⟨rfl, rfl, rfl, rfl, trivial⟩)
            | (refine RunF_sound tab_ok noX_local 17 [true] _ _ rfl (by simp [c]) ?_; exact T _ ⟨inTC_same rfl, inTC_same rfl, inTC_same rfl, inTC_same rfl, inTC_same rfl, inTC_same rfl, inTC_same rfl, ⟨_, rfl, fun M => by rw [hpe, c]; rfl⟩, trivial⟩ ⟨rfl, rfl, rfl, rfl, trivial⟩)
            | (refine RunF_sound tab_ok noX_local 18 [true] _ _ rfl (by simp [c]) ?_; exact T _ ⟨inTC_same rfl, inTC_same rfl, inTC_same rfl, inTC_same rfl, inTC_same rfl, inTC_same rfl, inTC_same rfl, ⟨_, rfl, fun M => by rw [hpe, c]; rfl⟩, trivial⟩ ⟨rfl, rfl, rfl, rfl, trivial⟩)
            | (refine RunF_sound tab_ok noX_local 19 [true] _ _ rfl (by simp [c]) ?_; exact T _ ⟨inTC_same rfl, inTC_same rfl, inTC_same rfl, inTC_same rfl, inTC_same rfl, inTC_same rfl, inTC_same rfl, ⟨_, rfl, fun M => by rw [hpe, c]; rfl⟩, trivial⟩ ⟨rfl, rfl, rfl, rfl, trivial⟩)
            | (refine RunF_sound tab_ok noX_local 20 [true] _ _ rfl (by simp [c]) ?_; exact T _ ⟨inTC_same rfl, inTC_same rfl, inTC_same rfl, inTC_same rfl, inTC_same rfl, inTC_same rfl, inTC_same rfl, ⟨_, rfl, fun M => by rw [hpe, c]; rfl⟩, trivial⟩ ⟨rfl, rfl, rfl, rfl, trivial⟩)
            | (refine RunF_sound tab_ok noX_local 21 [true] _ _ rfl (by simp [c]) ?_; exact T _ ⟨inTC_same rfl, inTC_same rfl, inTC_same rfl, inTC_same rfl, inTC_same rfl, inTC_same rfl, inTC_same rfl, ⟨_, rfl, fun M => by rw [hpe, c]; rfl⟩, trivial⟩ ⟨rfl, rfl, rfl, rfl, trivial⟩)
            | (refine RunF_sound tab_ok noX_local 22 [true] _ _ rfl (by simp [c]) ?_; exact T _ ⟨inTC_same rfl, inTC_same rfl, inTC_same rfl, inTC_same rfl, inTC_same rfl, inTC_same rfl, inTC_same rfl, ⟨_, rfl, fun M => by rw [hpe, c]; rfl⟩, trivial⟩ ⟨rfl, rfl, rfl, rfl, trivial⟩)
            | (refine RunF_sound tab_ok noX_local 23 [true] _ _ rfl (by simp [c]) ?_; exact T _ ⟨inTC_same rfl, inTC_same rfl, inTC_same rfl, inTC_same rfl, inTC_same rfl, inTC_same rfl, inTC_same rfl, ⟨_, rfl, fun M => by rw [hpe, c]; rfl⟩, trivial⟩ ⟨rfl, rfl, rfl, rfl, trivial⟩)
            | (refine RunF_sound tab_ok noX_local 24 [true] _ _ rfl (by simp [c]) ?_; exact T _ ⟨inTC_same rfl, inTC_same rfl, inTC_same rfl, inTC_same rfl, inTC_same rfl, inTC_same rfl, inTC_same rfl, ⟨_, rfl, fun M => by rw [hpe, c]; rfl⟩, trivial⟩ ⟨rfl, rfl, rfl, rfl, trivial⟩)
            | (refine RunF_sound tab_ok noX_local 25 [true] _ _ rfl (by simp [c]) ?_; exact T _ ⟨inTC_same rfl, inTC_same rfl, inTC_same rfl, inTC_same rfl, inTC_same rfl, inTC_same rfl, inTC_same rfl, ⟨_, rfl, fun M => by rw [hpe, c]; rfl⟩, trivial⟩ ⟨rfl, rfl, rfl, rfl, trivial⟩)
            | (refine RunF_sound tab_ok noX_local 26 [true] _ _ rfl (by simp [c]) ?_; exact T _ ⟨inTC_same rfl, inTC_same rfl, inTC_same rfl, inTC_same rfl, inTC_same rfl, inTC_same rfl, inTC_same rfl, ⟨_, rfl, fun M => by rw [hpe, c]; rfl⟩, trivial⟩ ⟨rfl, rfl, rfl, rfl, trivial⟩)
            | (refine RunF_sound tab_ok noX_local 27 [true] _ _ rfl (by simp [c]) ?_; exact T _ ⟨inTC_same rfl, inTC_same rfl, inTC_same rfl, inTC_same rfl, inTC_same rfl, inTC_same rfl, inTC_same rfl, ⟨_, rfl, fun M => by rw [hpe, c]; rfl⟩, trivial⟩ ⟨rfl, rfl, rfl, rfl, trivial⟩)
            | (refine RunF_sound tab_ok noX_local 28 [true] _ _ rfl (by simp [c]) ?_; exact T _ ⟨inTC_same rfl, inTC_same rfl, inTC_same rfl, inTC_same rfl, inTC_same rfl, inTC_same rfl, inTC_same rfl, ⟨_, rfl, fun M => by rw [hpe, c]; rfl⟩, trivial⟩ ⟨rfl, rfl, rfl, rfl, trivial⟩)
            | (refine RunF_sound tab_ok noX_local 29 [true] _ _ rfl (by simp [c]) ?_; exact T _ ⟨inTC_same rfl, inTC_same rfl, inTC_same rfl, inTC_same rfl, inTC_same rfl, inTC_same rfl, inTC_same rfl, ⟨_, rfl, fun M => by rw [hpe, c]; rfl⟩, trivial⟩ ⟨rfl, rfl, rfl, rfl, trivial⟩)
        · have hpe : p a b = (R.has a b && S.has a b) := by rw [← hp]; rfl
          refine RunF_sound tab_ok noX_local 100 [true, false, true] _ _ rfl ?_ ?_
          · simp; omega
          refine Run.callFn noX_local rfl rfl rfl rfl rfl rfl rfl hasR_enters rfl (fun w' _ => hasR_ok R hn a b w') ?_
          rw [hI]
          by_cases c : R.has a b = true
          · refine RunF_sound tab_ok noX_local 100 [true] _ _ rfl ?_ ?_
            · simp [c]
            refine Run.callFn noX_local rfl rfl rfl rfl rfl rfl rfl hasR_enters rfl (fun w' _ => hasR_ok S hnS a b w') ?_
            rw [hJ]
            refine RunF_sound tab_ok noX_local 100 [] _ _ rfl ?_ ?_
            · simp
            exact T _ ⟨inTC_same rfl, inTC_same rfl, inTC_same rfl, inTC_same rfl, inTC_same rfl, inTC_same rfl, inTC_same rfl, ⟨_, rfl, fun M => by rw [hpe, c, Bool.true_and]⟩, trivial⟩ ⟨rfl, rfl, rfl, rfl, trivial⟩
          · have c' : R.has a b = false := by simpa using c
            first
            | (refine RunF_sound tab_ok noX_local 8 [false] _ _ rfl (by simpa using c) ?_; exact T _ ⟨inTC_same rfl, inTC_same rfl, inTC_same rfl, inTC_same rfl, inTC_same rfl, inTC_same rfl, inTC_same rfl, ⟨_, rfl, fun M => by rw [hpe, c', Bool.false_and]; rfl⟩, trivial⟩ ⟨rfl, rfl, rfl, rfl, trivial⟩)
            | (refine RunF_sound tab_ok noX_local 9 [false] _ _ rfl (by simpa using c) ?_; exact T _ ⟨inTC_same rfl, inTC_same rfl, inTC_same rfl, inTC_same rfl, inTC_same rfl, inTC_same rfl, inTC_same rfl, ⟨_, rfl, fun M => by rw [hpe, c', Bool.false_and]; rfl⟩, trivial⟩ ⟨rfl, rfl, rfl, rfl, trivial⟩)
            | (refine RunF_sound tab_ok noX_local 10 [false] _ _ rfl (by simpa using c) ?_; exact T _ ⟨inTC_same rfl, inTC_same rfl, inTC_same rfl, inTC_same rfl, inTC_same rfl, inTC_same rfl, inTC_same rfl, ⟨_, rfl, fun M => by rw [hpe, c', Bool.false_and]; rfl⟩, trivial⟩ ⟨rfl, rfl, rfl, rfl, trivial⟩)
            | (refine RunF_sound tab_ok noX_local 11 [false] _ _ rfl (by simpa using c) ?_; exact T _ ⟨inTC_same rfl, inTC_same rfl, inTC_same rfl, inTC_same rfl, inTC_same rfl, inTC_same rfl, inTC_same rfl, ⟨_, rfl, fun M => by rw [hpe, c', Bool.false_and]; rfl⟩, trivial⟩ ⟨rfl, rfl, rfl, rfl, trivial⟩)
            | (refine RunF_sound tab_ok noX_local 12 [false] _ _ rfl (by simpa using c) ?_; exact T _ ⟨inTC_same rfl, inTC_same rfl, inTC_same rfl, inTC_same rfl, inTC_same rfl, inTC_same rfl, inTC_same rfl, ⟨_, rfl, fun M => by rw [hpe, c', Bool.false_and]; rfl⟩, trivial⟩ ⟨rfl, rfl, rfl, rfl, trivial⟩)
            | (refine RunF_sound tab_ok noX_local 13 [false] _ _ rfl (by simpa using c) ?_; exact T _ ⟨inTC_same rfl, inTC_same rfl, inTC_same rfl, inTC_same rfl, inTC_same rfl, inTC_same rfl, inTC_same rfl, ⟨_, rfl, fun M => by rw [hpe, c', Bool.false_and]; rfl⟩, trivial⟩ ⟨rfl, rfl, rfl, rfl, trivial⟩)
            | (refine RunF_sound tab_ok noX_local 14 [false] _ _ rfl (by simpa using c) ?_; exact T _ ⟨inTC_same rfl, inTC_same rfl, inTC_same rfl, inTC_same rfl, inTC_same rfl, inTC_same rfl, inTC_same rfl, ⟨_, rfl, fun M => by rw [hpe, c', Bool.false_and]; rfl⟩, trivial⟩ ⟨rfl, rfl, rfl, rfl, trivial⟩)
            | (refine RunF_sound tab_ok noX_local 15 [false] _ _ rfl (by simpa using c) ?_; exact T _ ⟨inTC_same rfl, inTC_same rfl, inTC_same rfl, inTC_same rfl, inTC_same rfl, inTC_same rfl, inTC_same rfl, ⟨_, rfl, fun M => by rw [hpe, c', Bool.false_and]; rfl⟩, trivial⟩ ⟨rfl, rfl, rfl, rfl, trivial⟩)
            | (refine RunF_sound tab_ok noX_local 16 [false] _ _ rfl (by simpa using c) ?_; exact T _ ⟨inTC_same rfl, inTC_same rfl, inTC_same rfl, inTC_same rfl, inTC_same rfl, inTC_same rfl, inTC_same rfl, ⟨_, rfl, fun M => by rw [hpe, c', Bool.false_and]; rfl⟩, trivial⟩ ⟨rfl, rfl, rfl, rfl, trivial⟩)
            | (refine RunF_sound tab_ok noX_local 17 [false] _ _ rfl (by simpa using c) ?_; exact T _ ⟨inTC_same rfl, inTC_same rfl, inTC_same rfl, inTC_same rfl, inTC_same rfl, inTC_same rfl, inTC_same rfl, ⟨_, rfl, fun M => by rw [hpe, c', Bool.false_and]; rfl⟩, trivial⟩ ⟨rfl, rfl, rfl, rfl, trivial⟩)
            | (refine RunF_sound tab_ok noX_local 18 [false] _ _ rfl (by simpa using c) ?_; exact T _ ⟨inTC_same rfl, inTC_same rfl, inTC_same rfl, inTC_same rfl, inTC_same rfl, inTC_same rfl, inTC_same rfl, ⟨_, rfl, fun M => by rw [hpe, c', Bool.false_and]; rfl⟩, trivial⟩ ⟨rfl, rfl, rfl, rfl, trivial⟩)
            | (refine RunF_sound tab_ok noX_local 19 [false] _ _ rfl (by simpa using c) ?_; exact T _ ⟨inTC_same rfl, inTC_same rfl, inTC_same rfl, inTC_same rfl, inTC_same rfl, inTC_same rfl, inTC_same rfl, ⟨_, rfl, fun M => by rw [hpe, c', Bool.false_and]; rfl⟩, trivial⟩ ⟨rfl, rfl, rfl, rfl, trivial⟩)
            | (refine RunF_sound tab_ok noX_local 20 [false] _ _ rfl (by simpa using c) ?_; exact T _ ⟨inTC_same rfl, inTC_same rfl, inTC_same rfl, inTC_same rfl, inTC_same rfl, inTC_same rfl, inTC_same rfl, ⟨_, rfl, fun M => by rw [hpe, c', Bool.false_and]; rfl⟩, trivial⟩ ⟨rfl, rfl, rfl, rfl, trivial⟩)
            | (refine RunF_sound tab_ok noX_local 21 [false] _ _ rfl (by simpa using c) ?_; exact T _ ⟨inTC_same rfl, inTC_same rfl, inTC_same rfl, inTC_same rfl, inTC_same rfl, inTC_same rfl, inTC_same rfl, ⟨_, rfl, fun M => by rw [hpe, c', Bool.false_and]; rfl⟩, trivial⟩ ⟨rfl, rfl, rfl, rfl, trivial⟩)
            | (refine RunF_sound tab_ok noX_local 22 [false] _ _ rfl (by simpa using c) ?_; exact T _ ⟨inTC_same rfl, inTC_same rfl, inTC_same rfl, inTC_same rfl, inTC_same rfl, inTC_same rfl, inTC_same rfl, ⟨_, rfl, fun M => by rw [hpe, c', Bool.false_and]; rfl⟩, trivial⟩ ⟨rfl, rfl, rfl, rfl, trivial⟩)
            | (refine RunF_sound tab_ok noX_local 23 [false] _ _ rfl (by simpa using c) ?_; exact T _ ⟨inTC_same rfl, inTC_same rfl, inTC_same rfl, inTC_same rfl, inTC_same rfl, inTC_same rfl, inTC_same rfl, ⟨_, rfl, fun M => by rw [hpe, c', Bool.false_and]; rfl⟩, trivial⟩ ⟨rfl, rfl, rfl, rfl, trivial⟩)
            | (refine RunF_sound tab_ok noX_local 24 [false] _ _ rfl (by simpa using c) ?_; exact T _ ⟨inTC_same rfl, inTC_same rfl, inTC_same rfl, inTC_same rfl, inTC_same rfl, inTC_same rfl, inTC_same rfl, ⟨_, rfl, fun M => by rw [hpe, c', Bool.false_and]; rfl⟩, trivial⟩ ⟨rfl, rfl, rfl, rfl, trivial⟩)
            | (refine RunF_sound tab_ok noX_local 25 [false] _ _ rfl (by simpa using c) ?_; exact T _ ⟨inTC_same rfl, inTC_same rfl, inTC_same rfl, inTC_same rfl, inTC_same rfl, inTC_same rfl, inTC_same rfl, ⟨_, rfl, fun M => by rw [hpe, c', Bool.false_and]; rfl⟩, trivial⟩ ⟨rfl, rfl, rfl, rfl, trivial⟩)
            | (refine RunF_sound tab_ok noX_local 26 [false] _ _ rfl (by simpa using c) ?_; exact T _ ⟨inTC_same rfl, inTC_same rfl, inTC_same rfl, inTC_same rfl, inTC_same rfl, inTC_same rfl, inTC_same rfl, ⟨_, rfl, fun M => by rw [hpe, c', Bool.false_and]; rfl⟩, trivial⟩ ⟨rfl, rfl, rfl, rfl, trivial⟩)
            | (refine RunF_sound tab_ok noX_local 27 [false] _ _ rfl (by simpa using c) ?_; exact T _ ⟨inTC_same rfl, inTC_same rfl, inTC_same rfl, inTC_same rfl, inTC_same rfl, inTC_same rfl, inTC_same rfl, ⟨_, rfl, fun M => by rw [hpe, c', Bool.false_and]; rfl⟩, trivial⟩ ⟨rfl, rfl, rfl, rfl, trivial⟩)
            | (refine RunF_sound tab_ok noX_local 28 [false] _ _ rfl (by simpa using c) ?_; exact T _ ⟨inTC_same rfl, inTC_same rfl, inTC_same rfl, inTC_same rfl, inTC_same rfl, inTC_same rfl, inTC_same rfl, ⟨_, rfl, fun M => by rw [hpe, c', Bool.false_and]; rfl⟩, trivial⟩ ⟨rfl, rfl, rfl, rfl, trivial⟩)
            | (refine RunF_sound tab_ok noX_local 29 [false] _ _ rfl (by simpa using c) ?_; exact T _ ⟨inTC_same rfl, inTC_same rfl, inTC_same rfl, inTC_same rfl, inTC_same rfl, inTC_same rfl, inTC_same rfl, ⟨_, rfl, fun M => by rw [hpe, c', Bool.false_and]; rfl⟩, trivial⟩ ⟨rfl, rfl, rfl, rfl, trivial⟩)
        · have hpe : p a b = (R.has a b && !S.has a b) := by rw [← hp]; rfl
          refine RunF_sound tab_ok noX_local 100 [true, false, false, true] _ _ rfl ?_ ?_
          · simp; omega
          refine Run.callFn noX_local rfl rfl rfl rfl rfl rfl rfl hasR_enters rfl (fun w' _ => hasR_ok R hn a b w') ?_
          rw [hI]
          by_cases c : R.has a b = true
          · refine RunF_sound tab_ok noX_local 100 [true] _ _ rfl ?_ ?_
            · simp [c]
            refine Run.callFn noX_local rfl rfl rfl rfl rfl rfl rfl hasR_enters rfl (fun w' _ => hasR_ok S hnS a b w') ?_
            rw [hJ]
            refine RunF_sound tab_ok noX_local 100 [] _ _ rfl ?_ ?_
            · simp
            exact T _ ⟨inTC_same rfl, inTC_same rfl, inTC_same rfl, inTC_same rfl, inTC_same rfl, inTC_same rfl, inTC_same rfl, ⟨_, rfl, fun M => by rw [hpe, c, Bool.true_and]⟩, trivial⟩ ⟨rfl, rfl, rfl, rfl, trivial⟩
          · have c' : R.has a b = false := by simpa using c
            first
            | (refine RunF_sound tab_ok noX_local 8 [false] _ _ rfl (by simpa using c) ?_; exact T _ ⟨inTC_same rfl, inTC_same rfl, inTC_same rfl, inTC_same rfl, inTC_same rfl, inTC_same rfl, inTC_same rfl, ⟨_, rfl, fun M => by rw [hpe, c', Bool.false_and]; rfl⟩, trivial⟩ ⟨rfl, rfl, rfl, rfl, trivial⟩)
            | (refine RunF_sound tab_ok noX_local 9 [false] _ _ rfl (by simpa using c) ?_; exact T _ ⟨inTC_same rfl, inTC_same rfl, inTC_same rfl, inTC_same rfl, inTC_same rfl, inTC_same rfl, inTC_same rfl, ⟨_, rfl, fun M => by rw [hpe, c', Bool.false_and]; rfl⟩, trivial⟩ ⟨rfl, rfl, rfl, rfl, trivial⟩)
            | (refine RunF_sound tab_ok noX_local 10 [false] _ _ rfl (by simpa using c) ?_; exact T _ ⟨inTC_same rfl, inTC_same rfl, inTC_same rfl, inTC_same rfl, inTC_same rfl, inTC_same rfl, inTC_same rfl, ⟨_, rfl, fun M => by rw [hpe, c', Bool.false_and]; rfl⟩, trivial⟩ ⟨rfl, rfl, rfl, rfl, trivial⟩)
            | (refine RunF_sound tab_ok noX_local 11 [false] _ _ rfl (by simpa using c) ?_; exact T _ ⟨inTC_same rfl, inTC_same rfl, inTC_same rfl, inTC_same rfl, inTC_same rfl, inTC_same rfl, inTC_same rfl, ⟨_, rfl, fun M => by rw [hpe, c', Bool.false_and]; rfl⟩, trivial⟩ ⟨rfl, rfl, rfl, rfl, trivial⟩)
            | (refine RunF_sound tab_ok noX_local 12 [false] _ _ rfl (by simpa using c) ?_; exact T _ ⟨inTC_same rfl, inTC_same rfl, inTC_same rfl, inTC_same rfl, inTC_same rfl, inTC_same rfl, inTC_same rfl, ⟨_, rfl, fun M => by rw [hpe, c', Bool.false_and]; rfl⟩, trivial⟩ ⟨rfl, rfl, rfl, rfl, trivial⟩)
            | (refine RunF_sound tab_ok noX_local 13 [false] _ _ rfl (by simpa using c) ?_; exact T _ ⟨inTC_same rfl, inTC_same rfl, inTC_same rfl, inTC_same rfl, inTC_same rfl, inTC_same rfl, inTC_same rfl, ⟨_, rfl, fun M => by rw [hpe, c', Bool.false_and]; rfl⟩, trivial⟩ ⟨rfl, rfl, rfl, rfl, trivial⟩)
            | (refine RunF_sound tab_ok noX_local 14 [false] _ _ rfl (by simpa using c) ?_; exact T _ ⟨inTC_same rfl, inTC_same rfl, inTC_same rfl, inTC_same rfl, inTC_same rfl, inTC_same rfl, inTC_same rfl, ⟨_, rfl, fun M => by rw [hpe, c', Bool.false_and]; rfl⟩, trivial⟩ ⟨rfl, rfl, rfl, rfl, trivial⟩)
            | (refine RunF_sound tab_ok noX_local 15 [false] _ _ rfl (by simpa using c) ?_; exact T _ ⟨inTC_same rfl, inTC_same rfl, inTC_same rfl, inTC_same rfl, inTC_same rfl, inTC_same rfl, inTC_same rfl, ⟨_, rfl, fun M => by rw [hpe, c', Bool.false_and]; rfl⟩, trivial⟩ ⟨rfl, rfl, rfl, rfl, trivial⟩)
            | (refine RunF_sound tab_ok noX_local 16 [false] _ _ rfl (by simpa using c) ?_; exact T _ ⟨inTC_same rfl, inTC_same rfl, inTC_same rfl, inTC_same rfl, inTC_same rfl, inTC_same rfl, inTC_same rfl, ⟨_, rfl, fun M => by rw [hpe, c', Bool.false_and]; rfl⟩, trivial⟩ ⟨rfl, rfl, rfl, rfl, trivial⟩)
            | (refine RunF_sound tab_ok noX_local 17 [false] _ _ rfl (by simpa using c) ?_; exact T _ ⟨inTC_same rfl, inTC_same rfl, inTC_same rfl, inTC_same rfl, inTC_same rfl, inTC_same rfl, inTC_same rfl, ⟨_, rfl, fun M => by rw [hpe, c', Bool.false_and]; rfl⟩, trivial⟩ ⟨rfl, rfl, rfl, rfl, trivial⟩)
            | (refine RunF_sound tab_ok noX_local 18 [false] _ _ rfl (by simpa using c) ?_; exact T _ ⟨inTC_same rfl, inTC_same rfl, inTC_same rfl, inTC_same rfl, inTC_same rfl, inTC_same rfl, inTC_same rfl, ⟨_, rfl, fun M => by rw [hpe, c', Bool.false_and]; rfl⟩, trivial⟩ ⟨rfl, rfl, rfl, rfl, trivial⟩)
            | (refine RunF_sound tab_ok noX_local 19 [false] _ _ rfl (by simpa using c) ?_; exact T _ ⟨inTC_same rfl, inTC_same rfl, inTC_same rfl, inTC_same rfl, inTC_same rfl, inTC_same rfl, inTC_same rfl, ⟨_, rfl, fun M => by rw [hpe, c', Bool.false_and]; rfl⟩, trivial⟩ ⟨rfl, rfl, rfl, rfl, trivial⟩)
            | (refine RunF_sound tab_ok noX_local 20 [false] _ _ rfl (by simpa using c) ?_; exact T _ ⟨inTC_same rfl, inTC_same rfl, inTC_same rfl, inTC_same rfl, inTC_same rfl, inTC_same rfl, inTC_same rfl, ⟨_, rfl, fun M => by rw [hpe, c', Bool.false_and]; rfl⟩, trivial⟩ ⟨rfl, rfl, rfl, rfl, trivial⟩)
            | (refine RunF_sound tab_ok noX_local 21 [false] _ _ rfl (by simpa using c) ?_; exact T _ ⟨inTC_same rfl, inTC_same rfl, inTC_same rfl, inTC_same rfl, inTC_same rfl, inTC_same rfl, inTC_same rfl, ⟨_, rfl, fun M => by rw [hpe, c', Bool.false_and]; rfl⟩, trivial⟩ ⟨rfl, rfl, rfl, rfl, trivial⟩)
            | (refine RunF_sound tab_ok noX_local 22 [false] _ _ rfl (by simpa using c) ?_; exact T _ ⟨inTC_same rfl, inTC_same rfl, inTC_same rfl, inTC_same rfl, inTC_same rfl, inTC_same rfl, inTC_same rfl, ⟨_, rfl, fun M => by rw [hpe, c', Bool.false_and]; rfl⟩, trivial⟩ ⟨rfl, rfl, rfl, rfl, trivial⟩)
            | (refine RunF_sound tab_ok noX_local 23 [false] _ _ rfl (by simpa using c) ?_; exact T _ ⟨inTC_same rfl, inTC_same rfl, inTC_same rfl, inTC_same rfl, inTC_same rfl, inTC_same rfl, inTC_same rfl, ⟨_, rfl, fun M => by rw [hpe, c', Bool.false_and]; rfl⟩, trivial⟩ ⟨rfl, rfl, rfl, rfl, trivial⟩)
            | (refine RunF_sound tab_ok noX_local 24 [false] _ _ rfl (by simpa using c) ?_; exact T _ ⟨inTC_same rfl, inTC_same rfl, inTC_same rfl, inTC_same rfl, inTC_same rfl, inTC_same rfl, inTC_same rfl, ⟨_, rfl, fun M => by rw [hpe, c', Bool.false_and]; rfl⟩, trivial⟩ ⟨rfl, rfl, rfl, rfl, trivial⟩)
            | (refine RunF_sound tab_ok noX_local 25 [false] _ _ rfl (by simpa using c) ?_; exact T _ ⟨inTC_same rfl, inTC_same rfl, inTC_same rfl, inTC_same rfl, inTC_same rfl, inTC_same rfl, inTC_same rfl, ⟨_, rfl, fun M => by rw [hpe, c', Bool.false_and]; rfl⟩, trivial⟩ ⟨rfl, rfl, rfl, rfl, trivial⟩)
            | (refine RunF_sound tab_ok noX_local 26 [false] _ _ rfl (by simpa using c) ?_; exact T _ ⟨inTC_same rfl, inTC_same rfl, inTC_same rfl, inTC_same rfl, inTC_same rfl, inTC_same rfl, inTC_same rfl, ⟨_, rfl, fun M => by rw [hpe, c', Bool.false_and]; rfl⟩, trivial⟩ ⟨rfl, rfl, rfl, rfl, trivial⟩)
            | (refine RunF_sound tab_ok noX_local 27 [false] _ _ rfl (by simpa using c) ?_; exact T _ ⟨inTC_same rfl, inTC_same rfl, inTC_same rfl, inTC_same rfl, inTC_same rfl, inTC_same rfl, inTC_same rfl, ⟨_, rfl, fun M => by rw [hpe, c', Bool.false_and]; rfl⟩, trivial⟩ ⟨rfl, rfl, rfl, rfl, trivial⟩)
            | (refine RunF_sound tab_ok noX_local 28 [false] _ _ rfl (by simpa using c) ?_; exact T _ ⟨inTC_same rfl, inTC_same rfl, inTC_same rfl, inTC_same rfl, inTC_same rfl, inTC_same rfl, inTC_same rfl, ⟨_, rfl, fun M => by rw [hpe, c', Bool.false_and]; rfl⟩, trivial⟩ ⟨rfl, rfl, rfl, rfl, trivial⟩)
            | (refine RunF_sound tab_ok noX_local 29 [false] _ _ rfl (by simpa using c) ?_; exact T _ ⟨inTC_same rfl, inTC_same rfl, inTC_same rfl, inTC_same rfl, inTC_same rfl, inTC_same rfl, inTC_same rfl, ⟨_, rfl, fun M => by rw [hpe, c', Bool.false_and]; rfl⟩, trivial⟩ ⟨rfl, rfl, rfl, rfl, trivial⟩)
        · have hpe : p a b = (List.range R.n.toNat).any (fun c => R.has a c && S.has c b) := by rw [← hp]; rfl
          refine RunF_sound tab_ok noX_local 100 [true, false, false, false, true] _ _ rfl ?_ ?_
          · simp; omega
          suffices K : ∀ (g c : Nat), (c : Int) + g = R.n → ∀ σ, inTC σ.t [(0, .v (.int .i64 (3 : Int))), (4, .ptr 0 0), (5, .ptr 1 0), (6, .ptr 2 0), (7, .ptr 3 0), (8, .v (.int .i64 (a : Int))), (9, .v (.int .i64 (b : Int))), (10, .v (.bool ((List.range c).any fun c => R.has a c && S.has c b))), (11, .v (.int .i64 (c : Int)))] →
              inT σ.h [(0, .cells 25 [.vals 65 (relV R)]), (1, .cells 25 [.vals 65 (relV S)]), (2, .cells 25 [.vals 65 (relV (Rl.void 0))]), (3, .cells 25 [.vals 65 (relV (Rl.gen R.n (Rl.seen p a b)))])] → Run _ _ σ by
            exact K R.n.toNat 0 (by omega) _ ⟨inTC_same rfl, inTC_same rfl, inTC_same rfl, inTC_same rfl, inTC_same rfl, inTC_same rfl, inTC_same rfl, ⟨_, rfl, fun M => rfl⟩, inTC_same rfl, trivial⟩ ⟨rfl, rfl, rfl, rfl, trivial⟩
          intro g
          induction g with
          | zero =>
            intro c hc σ ht hh
            refine Run.toC ?_ ht hh (n' := 4)
            refine RunF_sound tab_ok noX_local 100 [false] _ _ rfl ?_ ?_
            · simp; omega
            refine T _ ⟨inTC_same rfl, inTC_same rfl, inTC_same rfl, inTC_same rfl, inTC_same rfl, inTC_same rfl, inTC_same rfl, ⟨_, rfl, fun M => ?_⟩, trivial⟩ ⟨rfl, rfl, rfl, rfl, trivial⟩
            rw [hpe, show R.n.toNat = c by omega]
          | succ g ihg =>
            intro c hc σ ht hh
            refine Run.toC ?_ ht hh (n' := 4)
            have hX : hasI R a c = R.has a c := hasI_in han (by omega)
            have hY : hasI S c b = S.has c b := hasI_in (by omega) (by omega)
            have hany : (List.range (c + 1)).any (fun c => R.has a c && S.has c b) = ((List.range c).any (fun c => R.has a c && S.has c b) || (R.has a c && S.has c b)) := by
              rw [List.range_succ, List.any_append]; simp
            by_cases cc : (List.range c).any (fun c => R.has a c && S.has c b) = true
            · rw [cc] at hany ⊢
              refine RunF_sound tab_ok noX_local 100 [true, true] _ _ rfl ?_ ?_
              · simp; omega
              exact ihg (c + 1) (by omega) _ ⟨inTC_same rfl, inTC_same rfl, inTC_same rfl, inTC_same rfl, inTC_same rfl, inTC_same rfl, inTC_same rfl, ⟨_, rfl, fun M => by rw [hany]; rfl⟩, inTC_same (i64_eq (wrap_succ (by omega))), trivial⟩ ⟨rfl, rfl, rfl, rfl, trivial⟩
            · have cc' : (List.range c).any (fun c => R.has a c && S.has c b) = false := by simpa using cc
              rw [cc'] at hany ⊢
              rw [Bool.false_or] at hany
              refine RunF_sound tab_ok noX_local 100 [true, false] _ _ rfl ?_ ?_
              · simp; omega
              refine Run.callFn noX_local rfl rfl rfl rfl rfl rfl rfl hasR_enters rfl (fun w' _ => hasR_ok R hn a c w') ?_
              rw [hX]
              by_cases c1 : R.has a c = true
              · refine RunF_sound tab_ok noX_local 100 [true] _ _ rfl ?_ ?_
                · simp [c1]
                refine Run.callFn noX_local rfl rfl rfl rfl rfl rfl rfl hasR_enters rfl (fun w' _ => hasR_ok S hnS c b w') ?_
                rw [hY]
                refine RunF_sound tab_ok noX_local 100 [] _ _ rfl ?_ ?_
                · simp
                exact ihg (c + 1) (by omega) _ ⟨inTC_same rfl, inTC_same rfl, inTC_same rfl, inTC_same rfl, inTC_same rfl, inTC_same rfl, inTC_same rfl, ⟨_, rfl, fun M => by rw [hany, c1, Bool.true_and]⟩, inTC_same (i64_eq (wrap_succ (by omega))), trivial⟩ ⟨rfl, rfl, rfl, rfl, trivial⟩
              · have c1' : R.has a c = false := by simpa using c1
                refine RunF_sound tab_ok noX_local 100 [false] _ _ rfl ?_ ?_
                · simpa using c1
                exact ihg (c + 1) (by omega) _ ⟨inTC_same rfl, inTC_same rfl, inTC_same rfl, inTC_same rfl, inTC_same rfl, inTC_same rfl, inTC_same rfl, ⟨_, rfl, fun M => by rw [hany, c1', Bool.false_and]; rfl⟩, inTC_same (i64_eq (wrap_succ (by omega))), trivial⟩ ⟨rfl, rfl, rfl, rfl, trivial⟩
      intro σ ht hh
      refine Run.toC ?_ ht hh (n' := 4)
      by_cases c : p a b = true
      · refine RunF_sound tab_ok noX_local 100 [true] _ _ rfl ?_ ?_
        · simp [c]
        refine Run.drawA noX_local rfl [3] [] rfl rfl trivial ?_
        refine RunOF_sound tab_ok noX_local rfl rfl 100 [] _ _ rfl ?_ ?_
        · simp [relV_get _ _ ha', intAt_row _ _ ha', okCell, Value.oneCell', inT]; omega
        refine RunO.done ?_
        refine RunF_sound tab_ok noX_local 100 [] _ _ rfl ?_ ?_
        · simp
        refine ihe (b + 1) (by omega) _ ⟨rfl, rfl, rfl, rfl, rfl, rfl, i64_eq (wrap_succ (by omega)), trivial⟩ ⟨rfl, rfl, rfl, congrArg (fun l => some (Blk.cells 25 [.vals 65 l])) ?_, trivial⟩
        simp [intAt_row _ _ ha', shl1_un, relV_set _ _ ha', Rl.seen_yes ha' hb' c]
      · refine RunF_sound tab_ok noX_local 100 [false] _ _ rfl ?_ ?_
        · simpa using c
        refine ihe (b + 1) (by omega) _ ⟨rfl, rfl, rfl, rfl, rfl, rfl, i64_eq (wrap_succ (by omega)), trivial⟩ ⟨rfl, rfl, rfl, ?_, trivial⟩
        rw [← Rl.seen_no (by simpa using c)]; rfl
theorem two_R_enters : Enters Tryd.prog 22 := enters_mk Tryd.func22 (by decide) rfl
end Go.Proofs.YtocpkgckllbjlaaDoor

/-
  The reference's Inverse and Not; Restrict, here and there; all of them are one. Own work.
-/
namespace Go.Proofs.YtocpkgckllbjlaaDoor
open Go.AM
set_option maxRecDepth 100000

theorem inverseR_ok (r : Rl) (w : World) : Gives Tryd.prog 27 [encRel r] w (encRel (Rl.gen (rightL r).n fun x y => (rightL r).has y x)) := by
  refine Gives.of_run Tryd.func27 rfl (by show 1 ≤ 37; decide) ?_
  refine RunF_sound tab_ok noX_local 100 [] _ _ rfl ?_ ?_
  · simp
  refine Run.callFn noX_local rfl rfl rfl rfl rfl rfl rfl rightR_enters rfl (fun w' _ => rightR_ok r w') ?_
  have hR := rightL_idem r
  have hn := rightL_n r
  generalize rightL r = R at hR hn
  have hlt : ∀ x y, R.has x y = true → (x : Int) < R.n ∧ (y : Int) < R.n := fun a b hb => by have := right_has R a b (by rw [hR]; exact hb); rwa [hR] at this
  refine RunF_sound tab_ok noX_local 100 [] _ _ rfl ?_ ?_
  · simp [fillL, Value.cells, segsVals, relV_one', relV_tail_one, splice]
  suffices H : ∀ (d a : Nat), (a : Int) + d = R.n → ∀ σ, inT σ.t [(1, .ptr 0 0), (2, .ptr 1 0), (3, .ptr 2 0), (4, .v (.int .i64 (a : Int)))] →
      inT σ.h [(0, .cells 25 [.vals 65 (relV R)]), (1, .cells 25 [.vals 65 (relV (Rl.void 0))]), (2, .cells 25 [.vals 65 (relV (Rl.gen R.n (Rl.seenT R.has a 0)))])] → Run _ _ σ by
    refine H R.n.toNat 0 (by omega) _ ⟨rfl, rfl, rfl, rfl, trivial⟩ ⟨?_, rfl, ?_, trivial⟩
    · simp [lk]
    · rw [Rl.seenT_0]
      simp [lk]
      rfl
  intro d
  induction d with
  | zero =>
    intro a ha σ ht hh
    refine Run.to ?_ ht hh (n' := 3)
    refine RunF_sound tab_ok noX_local 100 [false] _ _ rfl ?_ ?_
    · simp [segsVals, relV_one']; omega
    refine Run.retP tab_ok Tryd.func27 rfl ?_ (fun M => ?_)
    · simp
    rw [Rl.seenT_all (fun x y h => by have := hlt x y h; omega)]; rfl
  | succ d ih =>
    intro a ha σ ht hh
    refine Run.to ?_ ht hh (n' := 3)
    have ha' : a < 64 := by omega
    have han : (a : Int) < R.n := by omega
    refine RunF_sound tab_ok noX_local 100 [true] _ _ rfl ?_ ?_
    · simp; omega
    suffices H2 : ∀ (e b : Nat), (b : Int) + e = R.n → ∀ σ, inT σ.t [(1, .ptr 0 0), (2, .ptr 1 0), (3, .ptr 2 0), (4, .v (.int .i64 (a : Int))), (5, .v (.int .i64 (b : Int)))] →
        inT σ.h [(0, .cells 25 [.vals 65 (relV R)]), (1, .cells 25 [.vals 65 (relV (Rl.void 0))]), (2, .cells 25 [.vals 65 (relV (Rl.gen R.n (Rl.seenT R.has a b)))])] → Run _ _ σ by
      exact H2 R.n.toNat 0 (by omega) _ ⟨rfl, rfl, rfl, rfl, rfl, trivial⟩ ⟨rfl, rfl, rfl, trivial⟩
    intro e
    induction e with
    | zero =>
      intro b hb σ ht hh
      refine Run.to ?_ ht hh (n' := 3)
      refine RunF_sound tab_ok noX_local 100 [false] _ _ rfl ?_ ?_
      · simp; omega
      rw [Rl.seenT_row (fun x y h => by have := hlt x y h; omega)]
      exact ih (a + 1) (by omega) _ ⟨rfl, rfl, rfl, i64_eq (wrap_succ (by omega)), trivial⟩ ⟨rfl, rfl, rfl, trivial⟩
    | succ e ihe =>
      intro b hb σ ht hh
      refine Run.to ?_ ht hh (n' := 3)
      have hb' : b < 64 := by omega
      have hI : hasI R a b = R.has a b := hasI_in han (by omega)
      refine RunF_sound tab_ok noX_local 100 [true] _ _ rfl ?_ ?_
      · simp; omega
      refine Run.callFn noX_local rfl rfl rfl rfl rfl rfl rfl hasR_enters rfl (fun w' _ => hasR_ok R hn a b w') ?_
      rw [hI]
      by_cases c : R.has a b = true
      · refine RunF_sound tab_ok noX_local 100 [true] _ _ rfl ?_ ?_
        · simp [c]
        refine Run.drawA noX_local rfl [3] [] rfl rfl trivial ?_
        refine RunOF_sound tab_ok noX_local rfl rfl 100 [] _ _ rfl ?_ ?_
        · simp [relV_get _ _ hb', intAt_row _ _ hb', okCell, Value.oneCell', inT]; omega
        refine RunO.done ?_
        refine RunF_sound tab_ok noX_local 100 [] _ _ rfl ?_ ?_
        · simp
        refine ihe (b + 1) (by omega) _ ⟨rfl, rfl, rfl, rfl, i64_eq (wrap_succ (by omega)), trivial⟩ ⟨rfl, rfl, congrArg (fun l => some (Blk.cells 25 [.vals 65 l])) ?_, trivial⟩
        simp [intAt_row _ _ hb', shl1_un, relV_set _ _ hb', Rl.seenT_yes ha' hb' c]
      · refine RunF_sound tab_ok noX_local 100 [false] _ _ rfl ?_ ?_
        · simpa using c
        refine ihe (b + 1) (by omega) _ ⟨rfl, rfl, rfl, rfl, i64_eq (wrap_succ (by omega)), trivial⟩ ⟨rfl, rfl, ?_, trivial⟩
        rw [← Rl.seenT_no (by simpa using c)]; rfl
theorem inverseR_enters : Enters Tryd.prog 27 := enters_mk Tryd.func27 (by decide) rfl

def pNot (R : Rl) (x y : Nat) : Bool := decide ((x : Int) < R.n ∧ (y : Int) < R.n) && !R.has x y

theorem notR_ok (r : Rl) (w : World) : Gives Tryd.prog 29 [encRel r] w (encRel (Rl.gen (rightL r).n (pNot (rightL r)))) := by
  refine Gives.of_run Tryd.func29 rfl (by show 1 ≤ 38; decide) ?_
  refine RunF_sound tab_ok noX_local 100 [] _ _ rfl ?_ ?_
  · simp
  refine Run.callFn noX_local rfl rfl rfl rfl rfl rfl rfl rightR_enters rfl (fun w' _ => rightR_ok r w') ?_
  have hn := rightL_n r
  generalize rightL r = R at hn
  have hlt : ∀ x y, pNot R x y = true → (x : Int) < R.n ∧ (y : Int) < R.n := fun x y h => by
    simp only [pNot, Bool.and_eq_true, decide_eq_true_eq] at h; exact h.1
  have hpe : ∀ a b : Nat, (a : Int) < R.n → (b : Int) < R.n → pNot R a b = !R.has a b := fun a b ha hb => by rw [pNot, decide_eq_true ⟨ha, hb⟩, Bool.true_and]
  generalize pNot R = p at hlt hpe
  refine RunF_sound tab_ok noX_local 100 [] _ _ rfl ?_ ?_
  · simp [fillL, Value.cells, segsVals, relV_one', relV_tail_one, splice]
  suffices H : ∀ (d a : Nat), (a : Int) + d = R.n → ∀ σ, inT σ.t [(1, .ptr 0 0), (2, .ptr 1 0), (3, .ptr 2 0), (4, .v (.int .i64 (a : Int)))] →
      inT σ.h [(0, .cells 25 [.vals 65 (relV R)]), (1, .cells 25 [.vals 65 (relV (Rl.void 0))]), (2, .cells 25 [.vals 65 (relV (Rl.gen R.n (Rl.seen p a 0)))])] → Run _ _ σ by
    refine H R.n.toNat 0 (by omega) _ ⟨rfl, rfl, rfl, rfl, trivial⟩ ⟨?_, rfl, ?_, trivial⟩
    · simp [lk]
    · rw [Rl.seen_0]
      simp [lk]
      rfl
  intro d
  induction d with
  | zero =>
    intro a ha σ ht hh
    refine Run.to ?_ ht hh (n' := 3)
    refine RunF_sound tab_ok noX_local 100 [false] _ _ rfl ?_ ?_
    · simp [segsVals, relV_one']; omega
    refine Run.retP tab_ok Tryd.func29 rfl ?_ (fun M => ?_)
    · simp
    rw [Rl.seen_all (fun x y h => by have := hlt x y h; omega)]; rfl
  | succ d ih =>
    intro a ha σ ht hh
    refine Run.to ?_ ht hh (n' := 3)
    have ha' : a < 64 := by omega
    have han : (a : Int) < R.n := by omega
    refine RunF_sound tab_ok noX_local 100 [true] _ _ rfl ?_ ?_
    · simp; omega
    suffices H2 : ∀ (e b : Nat), (b : Int) + e = R.n → ∀ σ, inT σ.t [(1, .ptr 0 0), (2, .ptr 1 0), (3, .ptr 2 0), (4, .v (.int .i64 (a : Int))), (5, .v (.int .i64 (b : Int)))] →
        inT σ.h [(0, .cells 25 [.vals 65 (relV R)]), (1, .cells 25 [.vals 65 (relV (Rl.void 0))]), (2, .cells 25 [.vals 65 (relV (Rl.gen R.n (Rl.seen p a b)))])] → Run _ _ σ by
      exact H2 R.n.toNat 0 (by omega) _ ⟨rfl, rfl, rfl, rfl, rfl, trivial⟩ ⟨rfl, rfl, rfl, trivial⟩
    intro e
    induction e with
    | zero =>
      intro b hb σ ht hh
      refine Run.to ?_ ht hh (n' := 3)
      refine RunF_sound tab_ok noX_local 100 [false] _ _ rfl ?_ ?_
      · simp; omega
      rw [Rl.seen_row (fun x y h => by have := hlt x y h; omega)]
      exact ih (a + 1) (by omega) _ ⟨rfl, rfl, rfl, i64_eq (wrap_succ (by omega)), trivial⟩ ⟨rfl, rfl, rfl, trivial⟩
    | succ e ihe =>
      intro b hb σ ht hh
      refine Run.to ?_ ht hh (n' := 3)
      have hb' : b < 64 := by omega
      have hI : hasI R a b = R.has a b := hasI_in han (by omega)
      have hp := hpe a b han (by omega)
      refine RunF_sound tab_ok noX_local 100 [true] _ _ rfl ?_ ?_
      · simp; omega
      refine Run.callFn noX_local rfl rfl rfl rfl rfl rfl rfl hasR_enters rfl (fun w' _ => hasR_ok R hn a b w') ?_
      rw [hI]
      by_cases c : R.has a b = true
      · refine RunF_sound tab_ok noX_local 100 [false] _ _ rfl ?_ ?_
        · simp [c]
        refine ihe (b + 1) (by omega) _ ⟨rfl, rfl, rfl, rfl, i64_eq (wrap_succ (by omega)), trivial⟩ ⟨rfl, rfl, ?_, trivial⟩
        rw [← Rl.seen_no (by rw [hp, c]; rfl)]; rfl
      · have c' : R.has a b = false := by simpa using c
        refine RunF_sound tab_ok noX_local 100 [true] _ _ rfl ?_ ?_
        · simp [c']
        refine Run.drawA noX_local rfl [3] [] rfl rfl trivial ?_
        refine RunOF_sound tab_ok noX_local rfl rfl 100 [] _ _ rfl ?_ ?_
        · simp [relV_get _ _ ha', intAt_row _ _ ha', okCell, Value.oneCell', inT]; omega
        refine RunO.done ?_
        refine RunF_sound tab_ok noX_local 100 [] _ _ rfl ?_ ?_
        · simp
        refine ihe (b + 1) (by omega) _ ⟨rfl, rfl, rfl, rfl, i64_eq (wrap_succ (by omega)), trivial⟩ ⟨rfl, rfl, congrArg (fun l => some (Blk.cells 25 [.vals 65 l])) ?_, trivial⟩
        simp [intAt_row _ _ ha', shl1_un, relV_set _ _ ha', Rl.seen_yes ha' hb' (show p a b = true by rw [hp, c']; rfl)]
theorem notR_enters : Enters Tryd.prog 29 := enters_mk Tryd.func29 (by decide) rfl

theorem restrict_ok (r : Rl) (x y : BitVec 64) (w : World) : Gives Tryd.prog 30 [encRel r, .int .u64 (un x), .int .u64 (un y)] w (encRel (opL (fun a b => a &&& b) (rightL r) (crossL (rightL r).n x y))) := by
  refine Gives.of_run Tryd.func30 rfl (by show 3 ≤ 16; decide) ?_
  refine RunF_sound tab_ok noX_local 100 [] _ _ rfl ?_ ?_
  · simp
  refine Run.callFn noX_local rfl rfl rfl rfl rfl rfl rfl right_enters rfl (fun w' _ => right_ok r w') ?_
  generalize rightL r = R
  refine RunF_sound tab_ok noX_local 100 [] _ _ rfl ?_ ?_
  · simp [segsVals, relV_one']
  refine Run.drawA noX_local rfl [] [(0, .cells 25 [.vals 65 (relV R)])] rfl rfl ⟨by simp [splice, lk], trivial⟩ ?_
  refine RunOF_sound tab_ok noX_local rfl rfl 200 [] _ _ rfl ?_ ?_
  · simp
  refine RunO.callFn noX_local rfl rfl rfl rfl rfl rfl rfl rfl cross_enters rfl (fun w' _ => cross_ok R.n x y w') ?_
  refine RunO.callFn noX_local rfl rfl rfl rfl rfl rfl rfl rfl meet_enters rfl (fun w' _ => meet_ok R (crossL R.n x y) w') ?_
  refine RunOF_sound tab_ok noX_local rfl rfl 200 [] _ _ rfl ?_ ?_
  · simp [segsVals, relV_one', inT, lk]
  refine RunO.done ?_
  refine RunF_sound tab_ok noX_local 100 [] _ _ rfl ?_ ?_
  · simp
  refine Run.retP tab_ok Tryd.func30 rfl ?_ (fun M => ?_)
  · simp
  rfl
theorem restrict_enters : Enters Tryd.prog 30 := enters_mk Tryd.func30 (by decide) rfl

theorem restrictR_ok (r : Rl) (x y : BitVec 64) (w : World) : Gives Tryd.prog 31 [encRel r, .int .u64 (un x), .int .u64 (un y)] w (encRel (twoR 1 (rightL r) (crossL (rightL r).n x y))) := by
  refine Gives.of_run Tryd.func31 rfl (by show 3 ≤ 16; decide) ?_
  refine RunF_sound tab_ok noX_local 100 [] _ _ rfl ?_ ?_
  · simp
  refine Run.callFn noX_local rfl rfl rfl rfl rfl rfl rfl rightR_enters rfl (fun w' _ => rightR_ok r w') ?_
  generalize rightL r = R
  refine RunF_sound tab_ok noX_local 100 [] _ _ rfl ?_ ?_
  · simp [segsVals, relV_one']
  refine Run.drawA noX_local rfl [] [(0, .cells 25 [.vals 65 (relV R)])] rfl rfl ⟨by simp [splice, lk], trivial⟩ ?_
  refine RunOF_sound tab_ok noX_local rfl rfl 200 [] _ _ rfl ?_ ?_
  · simp
  refine RunO.callFn noX_local rfl rfl rfl rfl rfl rfl rfl rfl crossR_enters rfl (fun w' _ => crossR_ok R.n x y w') ?_
  refine RunO.callFn noX_local rfl rfl rfl rfl rfl rfl rfl rfl two_R_enters rfl (fun w' _ => two_R 1 (by decide) R (crossL R.n x y) w') ?_
  refine RunOF_sound tab_ok noX_local rfl rfl 200 [] _ _ rfl ?_ ?_
  · simp [segsVals, relV_one', inT, lk]
  refine RunO.done ?_
  refine RunF_sound tab_ok noX_local 100 [] _ _ rfl ?_ ?_
  · simp
  refine Run.retP tab_ok Tryd.func31 rfl ?_ (fun M => ?_)
  · simp
  rfl
theorem restrictR_enters : Enters Tryd.prog 31 := enters_mk Tryd.func31 (by decide) rfl
end Go.Proofs.YtocpkgckllbjlaaDoor

/-
  The operations are the reference's; RelOperates answers true. Own work.
-/
namespace Go.Proofs.YtocpkgckllbjlaaDoor
open Go.AM
set_option maxRecDepth 100000

theorem has_row (r : Rl) (a b : Nat) : (r.row a).getLsbD b = r.has a b := rfl

theorem row0_of {R : Rl} (hR : rightL R = R) {i : Nat} (h : R.n ≤ (i : Int)) : R.row i = 0#64 := by
  have := right_row0 R i (by rw [hR]; exact h)
  rwa [hR] at this

/-- An operation row by row, pair by pair. -/
theorem opL_gen (F : BitVec 64 → BitVec 64 → BitVec 64) (op : Nat) (h0 : F 0#64 0#64 = 0#64) (hF : ∀ R S : Rl, ∀ x y, y < 64 → (F (R.row x) (S.row x)).getLsbD y = pTwo op R S x y) (r s : Rl) : opL F r s = twoR op r s := by
  have hr := twoL_right r s
  have hn := twoL_n r s
  have hb := twoL_b r s
  unfold opL twoR
  generalize (twoL r s).1 = R at hr hn hb
  generalize (twoL r s).2 = S at hr hn
  apply Rl.ext_has
  · rw [Rl.n_gen]; exact Rl.n_by _ _
  · intro x y hx hy
    rw [Rl.has_gen, decide_eq_true ⟨hx, hy⟩, Bool.true_and, ← hF R S x y hy]
    show ((rowP F R S R.n.toNat).row x).getLsbD y = _
    unfold rowP
    rw [Rl.row_by, if_pos hx]
    by_cases hlt : x < R.n.toNat
    · rw [if_pos hlt]
    · rw [if_neg hlt, row0_of hr.1 (by omega), row0_of hr.2 (show S.n ≤ (x : Int) by omega), h0]

theorem union_eq (r s : Rl) : opL (fun a b => a ||| b) r s = twoR 0 r s := opL_gen _ 0 (by decide) (fun R S x y _ => by rw [BitVec.getLsbD_or]; rfl) r s
theorem meet_eq (r s : Rl) : opL (fun a b => a &&& b) r s = twoR 1 r s := opL_gen _ 1 (by decide) (fun R S x y _ => by rw [BitVec.getLsbD_and]; rfl) r s
theorem minus_eq (r s : Rl) : opL (fun a b => a &&& ~~~b) r s = twoR 2 r s := opL_gen _ 2 (by decide) (fun R S x y hy => by rw [BitVec.getLsbD_and, BitVec.getLsbD_not, decide_eq_true hy, Bool.true_and]; rfl) r s

theorem compose_eq (r s : Rl) : composeL r s = twoR 3 r s := by
  have hr := twoL_right r s
  have hb := twoL_b r s
  apply Rl.ext_has
  · unfold composeL twoR
    rw [cmpF_n, Rl.n_gen]
  · intro x y hx hy
    rw [compose_has]
    unfold twoR
    rw [Rl.has_gen, decide_eq_true ⟨hx, hy⟩, Bool.true_and]
    generalize (twoL r s).1 = R at hr hb
    generalize (twoL r s).2 = S at hr
    show _ = (List.range R.n.toNat).any fun c => R.has x c && S.has c y
    rw [Bool.eq_iff_iff, List.any_eq_true, List.any_eq_true]
    constructor
    · rintro ⟨c, _, h⟩
      have h1 := (Bool.and_eq_true_iff.1 h).1
      have := right_has R x c (by rw [hr.1]; exact h1)
      rw [hr.1] at this
      exact ⟨c, List.mem_range.2 (by omega), h⟩
    · rintro ⟨c, hc, h⟩
      have := List.mem_range.1 hc
      exact ⟨c, List.mem_range.2 (by omega), h⟩

theorem inverse_eq (r : Rl) : invF (rightL r).n (edgesL (rightL r)) = Rl.gen (rightL r).n fun x y => (rightL r).has y x := by
  apply Rl.ext_has
  · rw [invF_n, Rl.n_gen]
  · intro x y hx hy
    rw [inverse_has, Rl.has_gen, decide_eq_true ⟨hx, hy⟩, Bool.true_and]

theorem not_eq (r : Rl) : notL r = Rl.gen (rightL r).n (pNot (rightL r)) := by
  have hn := rightL_n r
  have hR := rightL_idem r
  unfold notL
  generalize rightL r = R at hn hR
  apply Rl.ext_has
  · rw [n_notP, Rl.n_gen]
  · intro x y hx hy
    rw [Rl.has_gen, decide_eq_true ⟨hx, hy⟩, Bool.true_and]
    show ((notP R R.n.toNat).row x).getLsbD y = _
    unfold notP pNot
    rw [Rl.row_by, if_pos hx]
    by_cases hlt : x < R.n.toNat
    · rw [if_pos hlt, BitVec.getLsbD_and, BitVec.getLsbD_not, mask_get _ _ hn.1, decide_eq_true hy, Bool.true_and, has_row]
      congr 1
      apply decide_eq_decide.2; omega
    · rw [if_neg hlt, row0_of hR (by omega), BitVec.getLsbD_zero, decide_eq_false (by omega), Bool.false_and]

theorem operates_ok (r s : Rl) (x y : BitVec 64) (w : World) (hT : TabAt w) (h0 : 0 < w.heap.size) : Gives Tryd.prog 4 [encRel r, encRel s, .int .u64 (un x), .int .u64 (un y)] w (.bool true) := by
  refine Gives.of_run Tryd.func4 rfl (by show 4 ≤ 68; decide) ?_
  have hcmp : ∀ R : Rl, EqT Tryd.prog 25 (relV R).toArray (relV R).toArray true := fun R => by have := eqRel R R; simpa using this
  obtain ⟨X0, g0, k0⟩ : ∃ X : Rl, (∀ w', Gives Tryd.prog 21 [encRel r, encRel s] w' (encRel X)) ∧ (∀ w', Gives Tryd.prog 22 [.int .i64 0, encRel r, encRel s] w' (encRel X)) :=
    ⟨twoR 0 r s, fun w' => by rw [← union_eq]; exact union_ok r s w', fun w' => two_R 0 (by decide) r s w'⟩
  obtain ⟨X1, g1, k1⟩ : ∃ X : Rl, (∀ w', Gives Tryd.prog 23 [encRel r, encRel s] w' (encRel X)) ∧ (∀ w', Gives Tryd.prog 22 [.int .i64 1, encRel r, encRel s] w' (encRel X)) :=
    ⟨twoR 1 r s, fun w' => by rw [← meet_eq]; exact meet_ok r s w', fun w' => two_R 1 (by decide) r s w'⟩
  obtain ⟨X2, g2, k2⟩ : ∃ X : Rl, (∀ w', Gives Tryd.prog 24 [encRel r, encRel s] w' (encRel X)) ∧ (∀ w', Gives Tryd.prog 22 [.int .i64 2, encRel r, encRel s] w' (encRel X)) :=
    ⟨twoR 2 r s, fun w' => by rw [← minus_eq]; exact minus_ok r s w', fun w' => two_R 2 (by decide) r s w'⟩
  obtain ⟨X3, g3, k3⟩ : ∃ X : Rl, (∀ w', Agree (fun _ => False) w w' → Gives Tryd.prog 25 [encRel r, encRel s] w' (encRel X)) ∧ (∀ w', Gives Tryd.prog 22 [.int .i64 3, encRel r, encRel s] w' (encRel X)) :=
    ⟨twoR 3 r s, fun w' hA => by rw [← compose_eq]; exact compose_ok r s w' (hT.agree hA (fun f => f)) (Nat.lt_of_lt_of_le h0 hA.size), fun w' => two_R 3 (by decide) r s w'⟩
  obtain ⟨X4, g4, k4⟩ : ∃ X : Rl, (∀ w', Agree (fun _ => False) w w' → Gives Tryd.prog 26 [encRel r] w' (encRel X)) ∧ (∀ w', Gives Tryd.prog 27 [encRel r] w' (encRel X)) :=
    ⟨_, fun w' hA => by rw [← inverse_eq]; exact inverse_ok r w' (hT.agree hA (fun f => f)) (Nat.lt_of_lt_of_le h0 hA.size), fun w' => inverseR_ok r w'⟩
  obtain ⟨X5, g5, k5⟩ : ∃ X : Rl, (∀ w', Gives Tryd.prog 28 [encRel r] w' (encRel X)) ∧ (∀ w', Gives Tryd.prog 29 [encRel r] w' (encRel X)) :=
    ⟨_, fun w' => by rw [← not_eq]; exact not_ok r w', fun w' => notR_ok r w'⟩
  obtain ⟨X6, g6, k6⟩ : ∃ X : Rl, (∀ w', Gives Tryd.prog 30 [encRel r, .int .u64 (un x), .int .u64 (un y)] w' (encRel X)) ∧ (∀ w', Gives Tryd.prog 31 [encRel r, .int .u64 (un x), .int .u64 (un y)] w' (encRel X)) :=
    ⟨_, fun w' => by rw [← meet_eq]; exact restrict_ok r x y w', fun w' => restrictR_ok r x y w'⟩
  refine RunF_sound tab_ok noX_local 100 [] _ _ rfl ?_ ?_
  · simp
  refine Run.drawA noX_local rfl [] [(0, .cells 25 [.vals 65 (relV r)]), (1, .cells 25 [.vals 65 (relV s)])] rfl rfl ⟨rfl, rfl, trivial⟩ ?_
  refine RunOF_sound tab_ok noX_local rfl rfl 200 [] _ _ rfl ?_ ?_
  · simp
  refine RunO.callFn noX_local rfl rfl rfl rfl rfl rfl rfl rfl union_enters rfl (fun w' _ => g0 w') ?_
  refine RunOF_sound tab_ok noX_local rfl rfl 200 [] _ _ rfl ?_ ?_
  · simp
  refine RunO.callFn noX_local rfl rfl rfl rfl rfl rfl rfl rfl two_R_enters rfl (fun w' _ => k0 w') ?_
  refine RunOF_sound tab_ok noX_local rfl rfl 200 [] _ _ rfl ?_ ?_
  · simp
  refine RunO.cmp rfl rfl rfl rfl rfl rfl rfl (b := true) (c := true) (hcmp X0) (.inl ⟨rfl, rfl⟩) ?_
  refine RunOF_sound tab_ok noX_local rfl rfl 200 [true] _ _ rfl ?_ ?_
  · simp
  refine RunO.callFn noX_local rfl rfl rfl rfl rfl rfl rfl rfl meet_enters rfl (fun w' _ => g1 w') ?_
  refine RunOF_sound tab_ok noX_local rfl rfl 200 [] _ _ rfl ?_ ?_
  · simp
  refine RunO.callFn noX_local rfl rfl rfl rfl rfl rfl rfl rfl two_R_enters rfl (fun w' _ => k1 w') ?_
  refine RunOF_sound tab_ok noX_local rfl rfl 200 [] _ _ rfl ?_ ?_
  · simp
  refine RunO.cmp rfl rfl rfl rfl rfl rfl rfl (b := true) (c := true) (hcmp X1) (.inl ⟨rfl, rfl⟩) ?_
  refine RunOF_sound tab_ok noX_local rfl rfl 200 [true] _ _ rfl ?_ ?_
  · simp
  refine RunO.callFn noX_local rfl rfl rfl rfl rfl rfl rfl rfl minus_enters rfl (fun w' _ => g2 w') ?_
  refine RunOF_sound tab_ok noX_local rfl rfl 200 [] _ _ rfl ?_ ?_
  · simp
  refine RunO.callFn noX_local rfl rfl rfl rfl rfl rfl rfl rfl two_R_enters rfl (fun w' _ => k2 w') ?_
  refine RunOF_sound tab_ok noX_local rfl rfl 200 [] _ _ rfl ?_ ?_
  · simp
  refine RunO.cmp rfl rfl rfl rfl rfl rfl rfl (b := true) (c := true) (hcmp X2) (.inl ⟨rfl, rfl⟩) ?_
  refine RunOF_sound tab_ok noX_local rfl rfl 200 [true] _ _ rfl ?_ ?_
  · simp
  refine RunO.callFn noX_local rfl rfl rfl rfl rfl rfl rfl rfl compose_enters rfl (fun w' hA => g3 w' hA) ?_
  refine RunOF_sound tab_ok noX_local rfl rfl 200 [] _ _ rfl ?_ ?_
  · simp
  refine RunO.callFn noX_local rfl rfl rfl rfl rfl rfl rfl rfl two_R_enters rfl (fun w' _ => k3 w') ?_
  refine RunOF_sound tab_ok noX_local rfl rfl 200 [] _ _ rfl ?_ ?_
  · simp
  refine RunO.cmp rfl rfl rfl rfl rfl rfl rfl (b := true) (c := true) (hcmp X3) (.inl ⟨rfl, rfl⟩) ?_
  refine RunOF_sound tab_ok noX_local rfl rfl 200 [true] _ _ rfl ?_ ?_
  · simp
  refine RunO.callFn noX_local rfl rfl rfl rfl rfl rfl rfl rfl inverse_enters rfl (fun w' hA => g4 w' hA) ?_
  refine RunOF_sound tab_ok noX_local rfl rfl 200 [] _ _ rfl ?_ ?_
  · simp
  refine RunO.callFn noX_local rfl rfl rfl rfl rfl rfl rfl rfl inverseR_enters rfl (fun w' _ => k4 w') ?_
  refine RunOF_sound tab_ok noX_local rfl rfl 200 [] _ _ rfl ?_ ?_
  · simp
  refine RunO.cmp rfl rfl rfl rfl rfl rfl rfl (b := true) (c := true) (hcmp X4) (.inl ⟨rfl, rfl⟩) ?_
  refine RunOF_sound tab_ok noX_local rfl rfl 200 [true] _ _ rfl ?_ ?_
  · simp
  refine RunO.callFn noX_local rfl rfl rfl rfl rfl rfl rfl rfl not_enters rfl (fun w' _ => g5 w') ?_
  refine RunOF_sound tab_ok noX_local rfl rfl 200 [] _ _ rfl ?_ ?_
  · simp
  refine RunO.callFn noX_local rfl rfl rfl rfl rfl rfl rfl rfl notR_enters rfl (fun w' _ => k5 w') ?_
  refine RunOF_sound tab_ok noX_local rfl rfl 200 [] _ _ rfl ?_ ?_
  · simp
  refine RunO.cmp rfl rfl rfl rfl rfl rfl rfl (b := true) (c := true) (hcmp X5) (.inl ⟨rfl, rfl⟩) ?_
  refine RunOF_sound tab_ok noX_local rfl rfl 200 [true] _ _ rfl ?_ ?_
  · simp
  refine RunO.callFn noX_local rfl rfl rfl rfl rfl rfl rfl rfl restrict_enters rfl (fun w' _ => g6 w') ?_
  refine RunOF_sound tab_ok noX_local rfl rfl 200 [] _ _ rfl ?_ ?_
  · simp
  refine RunO.callFn noX_local rfl rfl rfl rfl rfl rfl rfl rfl restrictR_enters rfl (fun w' _ => k6 w') ?_
  refine RunOF_sound tab_ok noX_local rfl rfl 200 [] _ _ rfl ?_ ?_
  · simp
  refine RunO.cmp rfl rfl rfl rfl rfl rfl rfl (b := true) (c := true) (hcmp X6) (.inl ⟨rfl, rfl⟩) ?_
  refine RunOF_sound tab_ok noX_local rfl rfl 200 [] _ _ rfl ?_ ?_
  · simp
  refine RunO.done ?_
  refine RunF_sound tab_ok noX_local 100 [] _ _ rfl ?_ ?_
  · simp
  exact Run.retP tab_ok Tryd.func4 rfl trivial (fun M => rfl)
theorem operates_enters : Enters Tryd.prog 4 := enters_mk Tryd.func4 (by decide) rfl
end Go.Proofs.YtocpkgckllbjlaaDoor

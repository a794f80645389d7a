/-
  Own work, merged: PL, S1, S2, S3, S4, S5, AM22, AM23, AM24, AM25, T1, AM26, T2.
-/
import Derived.AtR
import Derived.Below
import Derived.ChangeKeysEq
import Derived.KernelRfl
import Derived.LaidMore
import Derived.Laws.AppendOwn
import Derived.Laws.BytesString
import Derived.Laws.Cells
import Derived.Laws.CopyRow
import Derived.Laws.Entries
import Derived.Laws.Rows
import Derived.Laws.Small
import Derived.Laws.StructEq
import Derived.Lib.LaidTab
import Derived.Lib.TrailingZeros
import Derived.Maps.AppendAt
import Derived.OpenShut
import Derived.Orders
import Derived.ProofKit
import Derived.RangeFuncRecord
import Derived.SevenTiedAt
import Derived.Stop.Joined
import Derived.Test.YtpfanhbkjajocaaDoorCards
import Derived.Test.YtpfanhbkjajocaaDoorProg
import Derived.Test.YtpfanhbkjajocaaDoorRows
import Derived.Test.YtpfanhbkjajocaaDoorTie
import Derived.Test.YtpfanhbkjajocaaDoorQ6AEA81
/-
  What the rows of this seat share: the listed table out of the row's condition; the witness's heap. Own work.
-/
namespace Go.Proofs.YtpfanhbkjajocaaDoor
open Go.ChangeShapes Go.WideShapes Go.ChangeAt Go.RowKit Go.AM

theorem Tryd.own : ownKnob Tryd.prog.godebug = none := by kernel_rfl
theorem Tryd.laidOut : laidOutB Tryd.prog = true := by kernel_rfl
theorem Tryd.gTab : Tryd.prog.globalNamed "math/bits.deBruijn64tab" = some 0 := by kernel_rfl
theorem Tryd.gTabType : (Tryd.prog.globals[0]?).map (·.type) = some 101 := by kernel_rfl

abbrev laidL : List (String × DataW Unit) := [("math/bits.deBruijn64tab", Rows.laid_math_bits_deBruijn64tab)]

theorem tab_of_laid {W : World} (h : laidMetH Tryd.prog laidL W) : TabAt W ∧ 0 < W.heap.size := by
  rw [MakeChecks.laidMetH_plain _ _ _ (by kernel_rfl)] at h
  have h1 : Lib.TabIs Tryd.prog W "math/bits.deBruijn64tab" .u8 (Lib.deBruijn64tab.map fun n : Nat => (n : Int)) :=
    Lib.tabIs_of_head Tryd.gTab Tryd.gTabType Tryd.underlying101 Tryd.underlying5 (by kernel_rfl) (by kernel_rfl) h
  have h2 : TabAt W := by
    intro j hj
    rw [World.var?_cell Tryd.gTab h1 j]
    have hl : Lib.deBruijn64tab.length = 64 := by decide
    simp [hl, hj, List.getD]
  exact ⟨h2, World.block_lt_of_cell? W _ (h2 0 (by decide))⟩

theorem door_met (os : Os) (args : Array Value) : laidMetH Tryd.prog laidL ((World.doorLaid Tryd.prog 24 os).forCall (fun _ _ => 0) ⟨#[], args, []⟩).memory :=
  laidMetH_of_parts3 (fuel := 8) (laidMet_of_run' 8 (by kernel_rfl) (by kernel_rfl)) (by kernel_rfl) (by kernel_rfl)
end Go.Proofs.YtpfanhbkjajocaaDoor

/-
  Sets of numbers below 64 in one word: plain laws. Own work; no program in sight.
-/
namespace Go.AM

theorem bit_iff' (x : BitVec 64) (k : Nat) : (x >>> k &&& 1#64) = 1#64 ↔ x.getLsbD k = true := by
  constructor
  · intro h
    have := congrArg (fun y : BitVec 64 => y.getLsbD 0) h
    simpa [BitVec.getLsbD_and, BitVec.getLsbD_ushiftRight] using this
  · intro h
    apply BitVec.eq_of_getLsbD_eq
    intro j hj
    rw [BitVec.getLsbD_and, BitVec.getLsbD_ushiftRight, BitVec.getLsbD_one]
    by_cases h0 : j = 0
    · subst h0; simpa using h
    · simp [h0]

theorem bit_eq (x : BitVec 64) (b : Int) : (band .u64 (shrI .u64 (un x) b) 1 == 1) = x.getLsbD b.toNat := by
  rw [shr_un, band1_un, Bool.eq_iff_iff, beq_iff_eq, un_eq1, bit_iff']

def inB (i : Int) : Bool := decide (0 ≤ i ∧ i < 64)
def hasB (x : BitVec 64) (i : Int) : Bool := inB i && x.getLsbD i.toNat
def withL (x : BitVec 64) (i : Int) : BitVec 64 := if 0 ≤ i ∧ i < 64 then x ||| 1#64 <<< i.toNat else x
def withoutL (x : BitVec 64) (i : Int) : BitVec 64 := if 0 ≤ i ∧ i < 64 then x &&& ~~~(1#64 <<< i.toNat) else x

theorem getLsbD_one_shl (k j : Nat) (hk : k < 64) : (1#64 <<< k).getLsbD j = decide (j = k) := by
  rw [BitVec.getLsbD_shiftLeft, BitVec.getLsbD_one]
  by_cases h : j = k
  · subst h; simp [hk]
  · by_cases h1 : j < k
    · simp [h1, h]
    · have : ¬ j - k = 0 := by omega
      simp [this, h]

theorem sub_bit (x : BitVec 64) (k : Nat) (hk : k < 64) (h : x.getLsbD k = true) : x - 1#64 <<< k = x &&& ~~~(1#64 <<< k) := by
  have h1 : (x &&& ~~~(1#64 <<< k)) &&& 1#64 <<< k = 0#64 := by
    apply BitVec.eq_of_getLsbD_eq
    intro j hj
    simp [BitVec.getLsbD_and, BitVec.getLsbD_not, getLsbD_one_shl k j hk]
  have h2 : x = (x &&& ~~~(1#64 <<< k)) + 1#64 <<< k := by
    rw [BitVec.add_eq_or_of_and_eq_zero _ _ h1]
    apply BitVec.eq_of_getLsbD_eq
    intro j hj
    rw [BitVec.getLsbD_or, BitVec.getLsbD_and, BitVec.getLsbD_not, getLsbD_one_shl k j hk]
    by_cases hjk : j = k
    · subst hjk; simp [h]
    · simp [hjk, hj]
  conv => lhs; rw [h2]
  exact BitVec.add_sub_cancel _ _

theorem without_sub (x : BitVec 64) (i : Int) : withoutL x i = if hasB x i then x - 1#64 <<< i.toNat else x := by
  unfold withoutL hasB inB
  by_cases h : 0 ≤ i ∧ i < 64
  · rw [if_pos h]
    by_cases hb : x.getLsbD i.toNat = true
    · rw [if_pos (by simp [h, hb]), sub_bit x _ (by omega) hb]
    · have hb0 : x.getLsbD i.toNat = false := by cases hc : x.getLsbD i.toNat with | false => rfl | true => exact absurd hc hb
      rw [if_neg (by rw [hb0]; simp)]
      apply BitVec.eq_of_getLsbD_eq
      intro j hj
      rw [BitVec.getLsbD_and, BitVec.getLsbD_not, getLsbD_one_shl _ j (by omega)]
      by_cases hjk : j = i.toNat
      · have hb' : x.getLsbD i.toNat = false := by cases hc : x.getLsbD i.toNat with | false => rfl | true => exact absurd hc hb
        rw [hjk, hb']; rfl
      · simp [hjk, hj]
  · rw [if_neg h, if_neg (by simp [h])]

/-- The numbers below n. -/
def lowL (n : Int) : BitVec 64 := if n < 1 then 0#64 else if n ≥ 64 then BitVec.allOnes 64 else (1#64 <<< n.toNat) - 1#64

theorem below_get (n : Int) (i : Nat) : (lowL n).getLsbD i = decide (i < 64 ∧ (i : Int) < n) := by
  unfold lowL
  split
  · rename_i h
    rw [BitVec.getLsbD_zero]; symm; apply decide_eq_false; omega
  · split
    · rename_i h
      rw [BitVec.getLsbD_allOnes]
      apply decide_eq_decide.2; omega
    · rename_i h1 h
      by_cases hi : i < 64
      · rw [BitVec.getLsbD, BitVec.toNat_sub, BitVec.toNat_shiftLeft]
        have h1 : (1#64).toNat = 1 := rfl
        rw [h1, Nat.shiftLeft_eq, Nat.one_mul]
        have hp : 2 ^ n.toNat < 2 ^ 64 := Nat.pow_lt_pow_right (by decide) (by omega)
        rw [Nat.mod_eq_of_lt hp]
        have hp1 : 0 < 2 ^ n.toNat := Nat.two_pow_pos _
        rw [show 2 ^ 64 - 1 + 2 ^ n.toNat = (2 ^ n.toNat - 1) + 2 ^ 64 by omega, Nat.add_mod_right, Nat.mod_eq_of_lt (by omega)]
        rw [Nat.testBit_two_pow_sub_one]
        apply decide_eq_decide.2; omega
      · rw [BitVec.getLsbD_of_ge _ _ (by omega)]
        symm; apply decide_eq_false; omega

theorem below_step (n : Int) (k : Nat) (hk : k < 64) (h : (k : Int) < n) : withL (lowL k) k = lowL ((k + 1 : Nat) : Int) := by
  unfold withL
  rw [if_pos (by omega)]
  apply BitVec.eq_of_getLsbD_eq
  intro j hj
  rw [BitVec.getLsbD_or, below_get, below_get, Int.toNat_natCast, getLsbD_one_shl k j hk, Bool.eq_iff_iff]
  simp only [Bool.or_eq_true, decide_eq_true_eq]
  omega

theorem below_end (n : Int) (k : Nat) (hk : k ≤ 64) (hkn : k = 0 ∨ (k : Int) ≤ n) (h : ¬ ((k : Int) < 64 ∧ (k : Int) < n)) : lowL k = lowL n := by
  apply BitVec.eq_of_getLsbD_eq
  intro j hj
  rw [below_get, below_get]
  apply decide_eq_decide.2
  omega

/-- The numbers of a set below another. -/
theorem bits_below (x : BitVec 64) (i : Int) : bitsL (x &&& lowL i) = (bitsL x).filter fun k : Nat => decide ((k : Int) < i) := by
  unfold bitsL
  rw [List.filter_filter]
  refine List.filter_congr fun k hk => ?_
  have := List.mem_range.1 hk
  rw [BitVec.getLsbD_and, below_get]
  simp only [this, true_and]
  rw [Bool.and_comm]

/-- The least number of a set from k on. -/
def nextFrom (x : BitVec 64) : Nat → Nat → Int
  | _, 0 => -1
  | k, d + 1 => if x.getLsbD k then (k : Int) else nextFrom x (k + 1) d

theorem nextFrom_low (x y : BitVec 64) (hy : y ≠ 0#64) : ∀ d k, k + d = 64 → (∀ j, y.getLsbD j = (x.getLsbD j && decide (k ≤ j))) → nextFrom x k d = (tz y : Int)
  | 0, k, hk, h => by
    have := get_tz y hy
    rw [h] at this
    have ht := tz_lt y hy
    simp at this
    omega
  | d + 1, k, hk, h => by
    rw [nextFrom]
    split
    · rename_i hb
      have h1 : y.getLsbD k = true := by rw [h, hb]; simp
      have h2 := get_low y hy k h1
      have h3 := get_tz y hy
      rw [h] at h3
      simp at h3
      congr 1; omega
    · rename_i hb
      refine nextFrom_low x y hy d (k + 1) (by omega) fun j => ?_
      rw [h]
      by_cases hjk : j = k
      · subst hjk
        have : x.getLsbD j = false := by simpa using hb
        rw [this]; simp
      · congr 1
        apply decide_eq_decide.2; omega

theorem nextFrom_none (x y : BitVec 64) (hy : y = 0#64) : ∀ d k, k + d = 64 → (∀ j, y.getLsbD j = (x.getLsbD j && decide (k ≤ j))) → nextFrom x k d = -1
  | 0, _, _, _ => rfl
  | d + 1, k, hk, h => by
    rw [nextFrom]
    have h0 := h k
    rw [hy, BitVec.getLsbD_zero] at h0
    rw [if_neg (by intro hb; rw [hb] at h0; simp at h0)]
    refine nextFrom_none x y hy d (k + 1) (by omega) fun j => ?_
    rw [h]
    by_cases hjk : j = k
    · subst hjk
      have : x.getLsbD j = false := by simpa using h0.symm
      rw [this]; simp
    · congr 1
      apply decide_eq_decide.2; omega

theorem nextFrom_ge (x : BitVec 64) (k : Nat) (h : 64 ≤ k) (d : Nat) : nextFrom x k d = -1 := by
  induction d generalizing k with
  | zero => rfl
  | succ d ih => rw [nextFrom, BitVec.getLsbD_of_ge _ _ h, if_neg (by simp), ih (k + 1) (by omega)]

/-- What Next answers. -/
def nextL (x : BitVec 64) (i : Int) : Int := if x &&& ~~~(lowL i) = 0#64 then -1 else (tz (x &&& ~~~(lowL i)) : Int)

theorem next_eq (x : BitVec 64) (i : Int) : nextL x i = nextFrom x (if i > 0 then i else 0).toNat (64 - (if i > 0 then i else 0).toNat) := by
  obtain ⟨k, hk⟩ : ∃ k : Nat, (if i > 0 then i else 0).toNat = k := ⟨_, rfl⟩
  rw [hk]
  have hg : ∀ j, (x &&& ~~~(lowL i)).getLsbD j = (x.getLsbD j && decide (k ≤ j)) := by
    intro j
    rw [BitVec.getLsbD_and, BitVec.getLsbD_not, below_get]
    by_cases hj : j < 64
    · congr 1
      rw [Bool.eq_iff_iff]
      simp only [hj, true_and, decide_true, Bool.true_and, Bool.not_eq_true', decide_eq_false_iff_not, decide_eq_true_eq]
      split at hk <;> omega
    · rw [BitVec.getLsbD_of_ge x j (by omega)]; simp
  unfold nextL
  by_cases h64 : 64 ≤ k
  · rw [nextFrom_ge x k h64]
    rw [if_pos]
    apply BitVec.eq_of_getLsbD_eq
    intro j hj
    rw [hg, BitVec.getLsbD_zero]
    have : ¬ k ≤ j := by omega
    simp [this]
  · split
    · rename_i h; exact (nextFrom_none x _ h _ k (by omega) hg).symm
    · rename_i h; exact (nextFrom_low x _ h _ k (by omega) hg).symm

/-- The number of a set that has k others below it. -/
def atL (x : BitVec 64) (k : Int) : Int := if k < 0 then -1 else match (bitsL x)[k.toNat]? with | some i => (i : Int) | none => -1

/-- The bits from a place on. -/
def bitsFrom (x : BitVec 64) (i d : Nat) : List Nat := (List.range' i d).filter fun j => x.getLsbD j
theorem bitsFrom_all (x : BitVec 64) : bitsFrom x 0 64 = bitsL x := by unfold bitsFrom bitsL; rw [List.range_eq_range']
theorem bitsFrom_succ (x : BitVec 64) (i d : Nat) : bitsFrom x i (d + 1) = (if x.getLsbD i then [i] else []) ++ bitsFrom x (i + 1) d := by
  unfold bitsFrom
  rw [List.range'_succ, List.filter_cons]
  split <;> rfl
end Go.AM

/-
  The plain functions of sets and of its reference: Has, With, Without, Below, Next. Own work.
-/
namespace Go.Proofs.YtpfanhbkjajocaaDoor
open Go.AM
set_option maxRecDepth 100000

theorem right_ok (i : Int) (w : World) : Gives Tryd.prog 60 [.int .i64 i] w (.bool (inB i)) := by
  refine Gives.of_run Tryd.func60 rfl (by show 1 ≤ 9; decide) ?_
  by_cases h : 0 ≤ i
  · refine RunF_sound tab_ok noX_local 100 [true] _ _ rfl ?_ ?_
    · simp [h]
    · refine Run.retP tab_ok Tryd.func60 rfl trivial (fun M => ?_)
      simp [resAV, conc, inB, h]
  · refine RunF_sound tab_ok noX_local 100 [false] _ _ rfl ?_ ?_
    · simp [h]
    · refine Run.retP tab_ok Tryd.func60 rfl trivial (fun M => ?_)
      simp [resAV, conc, inB, h]
theorem right_enters : Enters Tryd.prog 60 := enters_mk Tryd.func60 (by decide) rfl

theorem inB_iff (i : Int) : inB i = true ↔ 0 ≤ i ∧ i < 64 := by simp [inB]

theorem has_ok (x : BitVec 64) (i : Int) (w : World) : Gives Tryd.prog 13 [.int .u64 (un x), .int .i64 i] w (.bool (hasB x i)) := by
  refine Gives.of_run Tryd.func13 rfl (by show 2 ≤ 14; decide) ?_
  refine RunF_sound tab_ok noX_local 100 [] _ _ rfl ?_ ?_
  · simp
  refine Run.callFn noX_local rfl rfl rfl rfl rfl rfl rfl right_enters rfl (fun w' _ => right_ok i w') ?_
  by_cases h : inB i = true
  · have := (inB_iff i).1 h
    refine RunF_sound tab_ok noX_local 100 [true] _ _ rfl ?_ ?_
    · simp [h]; omega
    · refine Run.retP tab_ok Tryd.func13 rfl trivial (fun M => ?_)
      show Value.bool _ = _
      rw [bit_eq, hasB, h]; rfl
  · have h' : inB i = false := by simpa using h
    refine RunF_sound tab_ok noX_local 100 [false] _ _ rfl ?_ ?_
    · simp [h']
    · refine Run.retP tab_ok Tryd.func13 rfl trivial (fun M => ?_)
      rw [hasB, h']; rfl
theorem has_enters : Enters Tryd.prog 13 := enters_mk Tryd.func13 (by decide) rfl

theorem wrap_small (i : Int) (h : 0 ≤ i) (h' : i < 64) : IntKind.u64.wrap i = i := wrap_u64 h (by omega)

theorem hasR_ok (x : BitVec 64) (i : Int) (w : World) : Gives Tryd.prog 14 [.int .u64 (un x), .int .i64 i] w (.bool (hasB x i)) := by
  refine Gives.of_run Tryd.func14 rfl (by show 2 ≤ 19; decide) ?_
  by_cases h : 0 ≤ i
  · by_cases h' : i < 64
    · refine RunF_sound tab_ok noX_local 100 [true, true] _ _ rfl ?_ ?_
      · simp [h, h', wrap_small i h h']
      · refine Run.retP tab_ok Tryd.func14 rfl trivial (fun M => ?_)
        show Value.bool _ = _
        rw [wrap_small i h h', bit_eq, hasB, (inB_iff i).2 ⟨h, h'⟩]; rfl
    · refine RunF_sound tab_ok noX_local 100 [true, false] _ _ rfl ?_ ?_
      · simp [h, h']
      · refine Run.retP tab_ok Tryd.func14 rfl trivial (fun M => ?_)
        simp [resAV, conc, hasB, inB, h']
  · refine RunF_sound tab_ok noX_local 100 [false] _ _ rfl ?_ ?_
    · simp [h]
    · refine Run.retP tab_ok Tryd.func14 rfl trivial (fun M => ?_)
      simp [resAV, conc, hasB, inB, h]
theorem hasR_enters : Enters Tryd.prog 14 := enters_mk Tryd.func14 (by decide) rfl

theorem with_ok (x : BitVec 64) (i : Int) (w : World) : Gives Tryd.prog 15 [.int .u64 (un x), .int .i64 i] w (.int .u64 (un (withL x i))) := by
  refine Gives.of_run Tryd.func15 rfl (by show 2 ≤ 12; decide) ?_
  refine RunF_sound tab_ok noX_local 100 [] _ _ rfl ?_ ?_
  · simp
  refine Run.callFn noX_local rfl rfl rfl rfl rfl rfl rfl right_enters rfl (fun w' _ => right_ok i w') ?_
  by_cases h : inB i = true
  · have h1 := (inB_iff i).1 h
    refine RunF_sound tab_ok noX_local 100 [true] _ _ rfl ?_ ?_
    · simp [h]; omega
    · refine Run.retP tab_ok Tryd.func15 rfl trivial (fun M => ?_)
      show Value.int _ _ = _
      rw [shl1_un, bor_un, withL, if_pos h1]
  · have h1 : ¬ (0 ≤ i ∧ i < 64) := fun e => h ((inB_iff i).2 e)
    refine RunF_sound tab_ok noX_local 100 [false] _ _ rfl ?_ ?_
    · simpa using h
    · refine Run.retP tab_ok Tryd.func15 rfl trivial (fun M => ?_)
      rw [withL, if_neg h1]; rfl
theorem with_enters : Enters Tryd.prog 15 := enters_mk Tryd.func15 (by decide) rfl

theorem withR_ok (x : BitVec 64) (i : Int) (w : World) : Gives Tryd.prog 16 [.int .u64 (un x), .int .i64 i] w (.int .u64 (un (withL x i))) := by
  refine Gives.of_run Tryd.func16 rfl (by show 2 ≤ 17; decide) ?_
  by_cases h : i < 0
  · refine RunF_sound tab_ok noX_local 100 [true, true] _ _ rfl ?_ ?_
    · simp [h]
    · refine Run.retP tab_ok Tryd.func16 rfl trivial (fun M => ?_)
      rw [withL, if_neg (by omega)]; rfl
  · by_cases h' : i > 63
    · refine RunF_sound tab_ok noX_local 100 [false, true] _ _ rfl ?_ ?_
      · simp; omega
      · refine Run.retP tab_ok Tryd.func16 rfl trivial (fun M => ?_)
        rw [withL, if_neg (by omega)]; rfl
    · refine RunF_sound tab_ok noX_local 100 [false, false] _ _ rfl ?_ ?_
      · simp [wrap_small i (by omega) (by omega)]; omega
      · refine Run.retP tab_ok Tryd.func16 rfl trivial (fun M => ?_)
        show Value.int _ _ = _
        rw [wrap_small i (by omega) (by omega), shl1_un, bor_un, withL, if_pos (by omega)]
theorem withR_enters : Enters Tryd.prog 16 := enters_mk Tryd.func16 (by decide) rfl

theorem without_ok (x : BitVec 64) (i : Int) (w : World) : Gives Tryd.prog 17 [.int .u64 (un x), .int .i64 i] w (.int .u64 (un (withoutL x i))) := by
  refine Gives.of_run Tryd.func17 rfl (by show 2 ≤ 12; decide) ?_
  refine RunF_sound tab_ok noX_local 100 [] _ _ rfl ?_ ?_
  · simp
  refine Run.callFn noX_local rfl rfl rfl rfl rfl rfl rfl right_enters rfl (fun w' _ => right_ok i w') ?_
  by_cases h : inB i = true
  · have h1 := (inB_iff i).1 h
    refine RunF_sound tab_ok noX_local 100 [true] _ _ rfl ?_ ?_
    · simp [h]; omega
    · refine Run.retP tab_ok Tryd.func17 rfl trivial (fun M => ?_)
      show Value.int _ _ = _
      rw [shl1_un, bandn_un, withoutL, if_pos h1]
  · have h1 : ¬ (0 ≤ i ∧ i < 64) := fun e => h ((inB_iff i).2 e)
    refine RunF_sound tab_ok noX_local 100 [false] _ _ rfl ?_ ?_
    · simpa using h
    · refine Run.retP tab_ok Tryd.func17 rfl trivial (fun M => ?_)
      rw [withoutL, if_neg h1]; rfl
theorem without_enters : Enters Tryd.prog 17 := enters_mk Tryd.func17 (by decide) rfl

theorem withoutR_ok (x : BitVec 64) (i : Int) (w : World) : Gives Tryd.prog 18 [.int .u64 (un x), .int .i64 i] w (.int .u64 (un (withoutL x i))) := by
  refine Gives.of_run Tryd.func18 rfl (by show 2 ≤ 14; decide) ?_
  refine RunF_sound tab_ok noX_local 100 [] _ _ rfl ?_ ?_
  · simp
  refine Run.callFn noX_local rfl rfl rfl rfl rfl rfl rfl hasR_enters rfl (fun w' _ => hasR_ok x i w') ?_
  rw [without_sub]
  by_cases h : hasB x i = true
  · have h1 : 0 ≤ i ∧ i < 64 := by
      have := h; simp only [hasB, Bool.and_eq_true] at this; exact (inB_iff i).1 this.1
    refine RunF_sound tab_ok noX_local 100 [true] _ _ rfl ?_ ?_
    · simp [h, wrap_small i h1.1 h1.2]; omega
    · refine Run.retP tab_ok Tryd.func18 rfl trivial (fun M => ?_)
      show Value.int _ _ = _
      rw [wrap_small i h1.1 h1.2, shl1_un, sub_un, if_pos h]
  · refine RunF_sound tab_ok noX_local 100 [false] _ _ rfl ?_ ?_
    · simpa using h
    · refine Run.retP tab_ok Tryd.func18 rfl trivial (fun M => ?_)
      rw [if_neg h]; rfl
theorem withoutR_enters : Enters Tryd.prog 18 := enters_mk Tryd.func18 (by decide) rfl

theorem below_ok (n : Int) (w : World) : Gives Tryd.prog 27 [.int .i64 n] w (.int .u64 (un (lowL n))) := by
  refine Gives.of_run Tryd.func27 rfl (by show 1 ≤ 12; decide) ?_
  by_cases h1 : n < 1
  · refine RunF_sound tab_ok noX_local 100 [true] _ _ rfl ?_ ?_
    · simp [h1]
    · refine Run.retP tab_ok Tryd.func27 rfl trivial (fun M => ?_)
      rw [lowL, if_pos h1]; rfl
  · by_cases h2 : n ≥ 64
    · refine RunF_sound tab_ok noX_local 100 [false, true] _ _ rfl ?_ ?_
      · simp; omega
      · refine Run.retP tab_ok Tryd.func27 rfl trivial (fun M => ?_)
        rw [lowL, if_neg h1, if_pos h2]; rfl
    · refine RunF_sound tab_ok noX_local 100 [false, false] _ _ rfl ?_ ?_
      · simp; omega
      · refine Run.retP tab_ok Tryd.func27 rfl trivial (fun M => ?_)
        show Value.int _ _ = _
        rw [shl1_un, sub1_un, lowL, if_neg h1, if_neg h2]
theorem below_enters : Enters Tryd.prog 27 := enters_mk Tryd.func27 (by decide) rfl

theorem belowR_ok (n : Int) (w : World) : Gives Tryd.prog 28 [.int .i64 n] w (.int .u64 (un (lowL n))) := by
  refine Gives.of_run Tryd.func28 rfl (by show 1 ≤ 18; decide) ?_
  refine RunF_sound tab_ok noX_local 100 [] _ _ rfl ?_ ?_
  · simp
  suffices H : ∀ (d k : Nat), k + d = 64 → (k = 0 ∨ (k : Int) ≤ n) → ∀ σ, inT σ.t [(0, .v (.int .i64 n)), (3, .v (.int .u64 (un (lowL k)))), (4, .v (.int .i64 (k : Int)))] → inT σ.h [] → Run _ _ σ by
    exact H 64 0 rfl (.inl rfl) _ ⟨rfl, rfl, rfl, trivial⟩ trivial
  intro d
  induction d with
  | zero =>
    intro k hk hkn σ ht hh
    refine Run.to ?_ ht hh (n' := 0)
    refine RunF_sound tab_ok noX_local 100 [false, false] _ _ rfl ?_ ?_
    · simp; omega
    · refine Run.retP tab_ok Tryd.func28 rfl trivial (fun M => ?_)
      rw [← below_end n k (by omega) hkn (by omega)]; rfl
  | succ d ih =>
    intro k hk hkn σ ht hh
    refine Run.to ?_ ht hh (n' := 0)
    by_cases c : (k : Int) < n
    · refine RunF_sound tab_ok noX_local 100 [true, true, true] _ _ rfl ?_ ?_
      · simp; omega
      refine Run.callFn noX_local rfl rfl rfl rfl rfl rfl rfl withR_enters rfl (fun w' _ => withR_ok (lowL k) k w') ?_
      refine RunF_sound tab_ok noX_local 100 [] _ _ rfl ?_ ?_
      · simp
      rw [below_step n k (by omega) c]
      exact ih (k + 1) (by omega) (.inr (by omega)) _ ⟨rfl, rfl, i64_eq (wrap_succ (by omega)), trivial⟩ trivial
    · refine RunF_sound tab_ok noX_local 100 [true, false] _ _ rfl ?_ ?_
      · simp; omega
      · refine Run.retP tab_ok Tryd.func28 rfl trivial (fun M => ?_)
        rw [← below_end n k (by omega) hkn (by omega)]; rfl
theorem belowR_enters : Enters Tryd.prog 28 := enters_mk Tryd.func28 (by decide) rfl

theorem size_ok (x : BitVec 64) (w : World) : Gives Tryd.prog 19 [.int .u64 (un x)] w (.int .i64 ((bitsL x).length : Int)) := by
  refine Gives.of_run Tryd.func19 rfl (by show 1 ≤ 5; decide) ?_
  refine RunF_sound tab_ok noX_local 100 [] _ _ rfl ?_ ?_
  · simp
  refine Run.callFn noX_local rfl rfl rfl rfl rfl rfl rfl ones_enters rfl (fun w' _ => ones_ok x w') ?_
  refine RunF_sound tab_ok noX_local 100 [] _ _ rfl ?_ ?_
  · simp
  exact Run.retP tab_ok Tryd.func19 rfl trivial (fun M => rfl)
theorem size_enters : Enters Tryd.prog 19 := enters_mk Tryd.func19 (by decide) rfl

theorem rank_ok (x : BitVec 64) (i : Int) (w : World) : Gives Tryd.prog 25 [.int .u64 (un x), .int .i64 i] w (.int .i64 (((bitsL x).filter fun k : Nat => decide ((k : Int) < i)).length : Int)) := by
  refine Gives.of_run Tryd.func25 rfl (by show 2 ≤ 10; decide) ?_
  refine RunF_sound tab_ok noX_local 100 [] _ _ rfl ?_ ?_
  · simp
  refine Run.callFn noX_local rfl rfl rfl rfl rfl rfl rfl below_enters rfl (fun w' _ => below_ok i w') ?_
  refine RunF_sound tab_ok noX_local 100 [] _ _ rfl ?_ ?_
  · simp
  rw [band_un, ← bits_below]
  refine Run.callFn noX_local rfl rfl rfl rfl rfl rfl rfl size_enters rfl (fun w' _ => size_ok (x &&& lowL i) w') ?_
  refine RunF_sound tab_ok noX_local 100 [] _ _ rfl ?_ ?_
  · simp
  exact Run.retP tab_ok Tryd.func25 rfl trivial (fun M => rfl)
theorem rank_enters : Enters Tryd.prog 25 := enters_mk Tryd.func25 (by decide) rfl

theorem next_ok (x : BitVec 64) (i : Int) (w : World) (hT : TabAt w) : Gives Tryd.prog 21 [.int .u64 (un x), .int .i64 i] w (.int .i64 (nextL x i)) := by
  refine Gives.of_run Tryd.func21 rfl (by show 2 ≤ 13; decide) ?_
  refine RunF_sound tab_ok noX_local 100 [] _ _ rfl ?_ ?_
  · simp
  refine Run.callFn noX_local rfl rfl rfl rfl rfl rfl rfl below_enters rfl (fun w' _ => below_ok i w') ?_
  by_cases h : x &&& ~~~(lowL i) = 0#64
  · refine RunF_sound tab_ok noX_local 100 [true] _ _ rfl ?_ ?_
    · simp [h]
    · refine Run.retP tab_ok Tryd.func21 rfl trivial (fun M => ?_)
      rw [nextL, if_pos h]; rfl
  · refine RunF_sound tab_ok noX_local 100 [false] _ _ rfl ?_ ?_
    · simp [h]
    rw [bandn_un]
    refine Run.callFn noX_local rfl rfl rfl rfl rfl rfl rfl tz_enters rfl (fun w' hA => tz_ok (x &&& ~~~(lowL i)) w' (hT.agree hA (fun f => f))) ?_
    refine RunF_sound tab_ok noX_local 100 [] _ _ rfl ?_ ?_
    · simp
    refine Run.retP tab_ok Tryd.func21 rfl trivial (fun M => ?_)
    rw [nextL, if_neg h]
    show Value.int _ (tzI _) = _
    rw [tzI, if_neg h]
theorem next_enters : Enters Tryd.prog 21 := enters_mk Tryd.func21 (by decide) rfl

theorem nextR_ok (x : BitVec 64) (i : Int) (hi : i ≤ 9223372036854775807) (w : World) : Gives Tryd.prog 22 [.int .u64 (un x), .int .i64 i] w (.int .i64 (nextL x i)) := by
  refine Gives.of_run Tryd.func22 rfl (by show 2 ≤ 16; decide) ?_
  rw [next_eq]
  refine RunF_sound tab_ok noX_local 100 [] _ _ rfl ?_ ?_
  · simp
  obtain ⟨k0, hk0⟩ : ∃ k : Nat, (if i > 0 then i else 0) = (k : Int) := ⟨(if i > 0 then i else 0).toNat, by split <;> omega⟩
  rw [hk0, Int.toNat_natCast]
  generalize hV : nextFrom x k0 (64 - k0) = V
  suffices H : ∀ (d k : Nat), (k : Int) ≤ 9223372036854775807 → 64 - k = d → nextFrom x k d = V → ∀ σ, inT σ.t [(0, .v (.int .u64 (un x))), (5, .v (.int .i64 (k : Int)))] → inT σ.h [] → Run _ _ σ by
    exact H (64 - k0) k0 (by split at hk0 <;> omega) rfl hV _ ⟨rfl, rfl, trivial⟩ trivial
  intro d
  induction d with
  | zero =>
    intro k hk2 hk hv σ ht hh
    refine Run.to ?_ ht hh (n' := 0)
    refine RunF_sound tab_ok noX_local 100 [false] _ _ rfl ?_ ?_
    · simp; omega
    · refine Run.retP tab_ok Tryd.func22 rfl trivial (fun M => ?_)
      rw [← hv]; rfl
  | succ d ih =>
    intro k hk2 hk hv σ ht hh
    refine Run.to ?_ ht hh (n' := 0)
    refine RunF_sound tab_ok noX_local 100 [true] _ _ rfl ?_ ?_
    · simp; omega
    refine Run.callFn noX_local rfl rfl rfl rfl rfl rfl rfl hasR_enters rfl (fun w' _ => hasR_ok x k w') ?_
    have hb : hasB x (k : Int) = x.getLsbD k := by
      rw [hasB, (inB_iff _).2 (by omega)]; simp
    rw [nextFrom] at hv
    by_cases c : x.getLsbD k = true
    · refine RunF_sound tab_ok noX_local 100 [true] _ _ rfl ?_ ?_
      · simp [hb, c]
      · refine Run.retP tab_ok Tryd.func22 rfl trivial (fun M => ?_)
        rw [← hv, if_pos c]; rfl
    · refine RunF_sound tab_ok noX_local 100 [false] _ _ rfl ?_ ?_
      · simpa [hb] using c
      rw [if_neg c] at hv
      exact ih (k + 1) (by omega) (by omega) hv _ ⟨rfl, i64_eq (wrap_succ (by omega)), trivial⟩ trivial
theorem nextR_enters : Enters Tryd.prog 22 := enters_mk Tryd.func22 (by decide) rfl
end Go.Proofs.YtpfanhbkjajocaaDoor

/-
  The reference's List, Size, At, Rank. Own work.
-/
namespace Go.Proofs.YtpfanhbkjajocaaDoor
open Go.AM
set_option maxRecDepth 100000

def encI (l : List Int) : List Value := l.map (Value.int .i64)

/-- A slice of ints, as it lies in a world. -/
def SeesI (w : World) (p : Option Addr) (xs : List Int) : Prop :=
  ∀ i (h : i < xs.length), p = some (p.getD default) ∧ w.cell? ((p.getD default).add i) = some (.int .i64 xs[i])

theorem SeesI.agree {S : Nat → Prop} {w w' : World} {p : Option Addr} {xs : List Int} (h : SeesI w p xs) (hA : Agree S w w') (hS : ∀ a, p = some a → ¬ S a.block) : SeesI w' p xs := by
  intro i hi
  obtain ⟨h1, h2⟩ := h i hi
  exact ⟨h1, hA.cell h2 (by rw [add_block]; exact hS _ h1)⟩

theorem seesI_row {M : AM.Loc} {w : World} {id e n : Nat} {l : List Int} (hb : BlkAt M w id (.row e 1 n (encI l))) : SeesI w (some ⟨(M id).1, 0, none⟩) l := by
  intro i hi
  have := row_cells hb i (.int .i64 l[i]) (by simp [encI, hi])
  refine ⟨rfl, ?_⟩
  rw [Option.getD_some, Addr.add_lit]
  exact this

/-- A slice of ints that was made behind a world. -/
def NewI (w : World) (xs : List Int) (v : Value) (w' : World) : Prop := ∃ p c, v = .slice p xs.length c ∧ xs.length ≤ c ∧ SeesI w' p xs ∧ ∀ a, p = some a → w.heap.size ≤ a.block ∧ a.block < w'.heap.size

theorem newI_nil (w w' : World) : NewI w [] (.slice none 0 0) w' := ⟨none, 0, rfl, Nat.le_refl _, fun i hi => absurd hi (Nat.not_lt_zero _), fun a h => by cases h⟩

theorem newI_row {P : Program} {f : FuncId} {nt : Nat} {w : World} {X : Res} {R : Value → World → Prop} {M : AM.Loc} {fp : Foot} {σ : St} {a : Act} {w' : World} {id n : Nat} {l : List Int}
    (hr : Rel (fnC P f nt w (fun _ => False) X R) M fp σ a w') (hB : lk σ.h id = some (.row 3 1 n (encI l))) (hl : l.length = n) : NewI w l (conc M (.sl id 1 0 n)) w' := by
  refine ⟨some ⟨(M id).1, 0, none⟩, (M id).2 - 0, ?_, ?_, seesI_row (hr.heap id _ hB), ?_⟩
  · rw [hl]; simp [conc]
  · obtain ⟨_, _, _, hc, _⟩ := hr.heap id _ hB; rw [hl]; exact hc
  · intro a ha
    cases ha
    refine ⟨?_, (hr.heap id _ hB).lt⟩
    rcases Nat.lt_or_ge (M id).1 w.heap.size with h | h
    · exact (hr.own id _ hB h).elim
    · exact h

def lstV : Nat → AV
  | 0 => .v (.slice none 0 0)
  | k + 1 => .sl 9 1 0 (k + 1)
def lstB (l : List Int) : Nat → List (Nat × Blk)
  | 0 => []
  | k + 1 => [(9, .row 3 1 (k + 1) (encI l))]

theorem encI_app (l : List Int) (n : Nat) (hl : l.length = n) (x : Int) : (encI l).take (n * 1) ++ [.int .i64 x] = encI (l ++ [x]) := by
  rw [List.take_of_length_le (by simp [encI, hl])]; simp [encI]

/-- A set's numbers, as ints. -/
def listL (x : BitVec 64) : List Int := (bitsL x).map fun k : Nat => (k : Int)
def listFrom (x : BitVec 64) (i d : Nat) : List Int := (bitsFrom x i d).map fun k : Nat => (k : Int)
theorem listFrom_succ (x : BitVec 64) (i d : Nat) : listFrom x i (d + 1) = (if x.getLsbD i then [(i : Int)] else []) ++ listFrom x (i + 1) d := by
  unfold listFrom
  rw [bitsFrom_succ, List.map_append]
  split <;> rfl
theorem listL_len (x : BitVec 64) : (listL x).length = (bitsL x).length := by simp [listL]
theorem listL_le (x : BitVec 64) : (listL x).length ≤ 64 := by rw [listL_len]; exact bitsL_len_le x

theorem listR_ok (x : BitVec 64) (w : World) : Makes Tryd.prog 30 [.int .u64 (un x)] w (NewI w (listL x)) := by
  refine Makes.of_run Tryd.func30 rfl (by show 1 ≤ 17; decide) ?_
  refine RunF_sound tab_ok noX_local 100 [] _ _ rfl ?_ ?_
  · simp
  generalize hL : listL x = L
  have hLn : L.length ≤ 64 := by rw [← hL]; exact listL_le x
  suffices H : ∀ (d k n : Nat) (l : List Int), l.length = n → k + d = 64 → L = l ++ listFrom x k d →
      Run _ _ ⟨[(0, .v (.int .u64 (un x))), (3, lstV n), (4, .v (.int .i64 (k : Int)))], lstB l n, 10⟩ by
    refine Run.to (H 64 0 0 [] rfl rfl ?_) ⟨rfl, rfl, rfl, trivial⟩ trivial
    rw [← hL, List.nil_append, listL, listFrom, bitsFrom_all]
  intro d
  induction d with
  | zero =>
    intro k n l hln hk hl
    have hl' : L = l := by rw [hl]; simp [listFrom, bitsFrom]
    subst hl'
    cases n with
    | zero =>
      refine RunF_sound tab_ok noX_local 100 [false] _ _ rfl ?_ ?_
      · simp; omega
      have h0 : L = [] := List.length_eq_zero_iff.1 hln
      subst h0
      exact Run.ret tab_ok Tryd.func30 rfl trivial fun M fp a w' hr => ⟨hr.agree, newI_nil _ _⟩
    | succ n =>
      refine RunF_sound tab_ok noX_local 100 [false] _ _ rfl ?_ ?_
      · simp; omega
      exact Run.ret tab_ok Tryd.func30 rfl trivial fun M fp a w' hr => ⟨hr.agree, newI_row hr rfl hln⟩
  | succ d ih =>
    intro k n l hln hk hl
    have hnl : n ≤ 64 := by
      have := congrArg List.length hl
      rw [List.length_append, hln] at this
      omega
    refine RunF_sound tab_ok noX_local 100 [true] _ _ rfl ?_ ?_
    · simp; omega
    refine Run.callFn noX_local rfl rfl rfl rfl rfl rfl rfl hasR_enters rfl (fun w' _ => hasR_ok x k w') ?_
    have hb : hasB x (k : Int) = x.getLsbD k := by
      rw [hasB, (inB_iff _).2 (by omega)]; simp
    rw [listFrom_succ] at hl
    by_cases c : x.getLsbD k = true
    · rw [if_pos c] at hl
      cases n with
      | zero =>
        refine RunF_sound tab_ok noX_local 100 [true] _ _ rfl ?_ ?_
        · simp [hb, c, maxLen, fillL, repL, splice, Value.cells, Value.oneCell']
        refine Run.toR [(9, 11)] (ih (k + 1) 1 (l ++ [(k : Int)]) (by simp [hln]) (by omega) (by rw [hl]; simp)) ⟨rfl, rfl, i64_eq (wrap_succ (by omega)), trivial⟩ ⟨?_, trivial⟩ rfl
        refine congrArg (fun l => some (Blk.row 3 1 1 l)) ?_
        have : l = [] := List.length_eq_zero_iff.1 hln
        subst this
        rfl
      | succ n =>
        refine RunF_sound tab_ok noX_local 100 [true] _ _ rfl ?_ ?_
        · simp [hb, c, maxLen, fillL, repL, splice, Value.cells, Value.oneCell']; omega
        refine Run.toR [(9, 11)] (ih (k + 1) (n + 2) (l ++ [(k : Int)]) (by simp [hln]) (by omega) (by rw [hl]; simp)) ⟨rfl, rfl, i64_eq (wrap_succ (by omega)), trivial⟩ ⟨?_, trivial⟩ rfl
        refine congrArg (fun l => some (Blk.row 3 1 (n + 2) l)) ?_
        exact encI_app l (n + 1) hln (k : Int)
    · rw [if_neg c, List.nil_append] at hl
      refine RunF_sound tab_ok noX_local 100 [false] _ _ rfl ?_ ?_
      · simpa [hb] using c
      refine Run.to (ih (k + 1) n l hln (by omega) hl) ⟨rfl, rfl, i64_eq (wrap_succ (by omega)), trivial⟩ ?_
      cases n <;> first | trivial | exact ⟨rfl, trivial⟩
theorem listR_enters : Enters Tryd.prog 30 := enters_mk Tryd.func30 (by decide) rfl

theorem sizeR_ok (x : BitVec 64) (w : World) : Gives Tryd.prog 20 [.int .u64 (un x)] w (.int .i64 ((bitsL x).length : Int)) := by
  refine Gives.of_run Tryd.func20 rfl (by show 1 ≤ 6; decide) ?_
  refine RunF_sound tab_ok noX_local 100 [] _ _ rfl ?_ ?_
  · simp
  refine Run.callR noX_local rfl rfl rfl rfl rfl rfl listR_enters rfl (fun M w' _ _ => listR_ok x w') ?_
  rintro v w2 w1 S1 hag hag2 ⟨p, c, rfl, hc, hs, hnew⟩ hS1
  have hB1 := (Based.refl w).call hag hag2 hS1
  refine ⟨.v (.slice p (listL x).length c), fun M => rfl, ?_⟩
  refine RunF_sound tab_ok noX_local 100 [] _ _ rfl ?_ ?_
  · simp
  refine Run.retB (Ds := []) tab_ok noX_local hB1 Tryd.func20 rfl trivial (fun M => ?_)
  rw [← listL_len]; rfl
theorem sizeR_enters : Enters Tryd.prog 20 := enters_mk Tryd.func20 (by decide) rfl

theorem atL_list (x : BitVec 64) (k : Int) (h0 : 0 ≤ k) (h : k.toNat < (listL x).length) : (listL x)[k.toNat] = atL x k := by
  unfold atL
  rw [if_neg (by omega)]
  have h' : k.toNat < (bitsL x).length := by rw [← listL_len]; exact h
  rw [List.getElem?_eq_getElem h']
  simp [listL]

theorem atL_none (x : BitVec 64) (k : Int) (h : k < 0 ∨ k ≥ ((listL x).length : Int)) : atL x k = -1 := by
  unfold atL
  split
  · rfl
  · rw [listL_len] at h
    rw [List.getElem?_eq_none (by omega)]

theorem atR_ok (x : BitVec 64) (k : Int) (w : World) : Gives Tryd.prog 24 [.int .u64 (un x), .int .i64 k] w (.int .i64 (atL x k)) := by
  refine Gives.of_run Tryd.func24 rfl (by show 2 ≤ 20; decide) ?_
  refine RunF_sound tab_ok noX_local 100 [] _ _ rfl ?_ ?_
  · simp
  refine Run.callR noX_local rfl rfl rfl rfl rfl rfl listR_enters rfl (fun M w' _ _ => listR_ok x w') ?_
  rintro v w2 w1 S1 hag hag2 ⟨p, c, rfl, hc, hs, hnew⟩ hS1
  have hB1 := (Based.refl w).call hag hag2 hS1
  refine ⟨.v (.slice p (listL x).length c), fun M => rfl, ?_⟩
  by_cases h1 : k < 0
  · refine RunF_sound tab_ok noX_local 100 [true, true] _ _ rfl ?_ ?_
    · simp [h1]
    refine Run.retB (Ds := []) tab_ok noX_local hB1 Tryd.func24 rfl trivial (fun M => ?_)
    rw [atL_none x k (.inl h1)]; rfl
  · by_cases h2 : k ≥ ((listL x).length : Int)
    · refine RunF_sound tab_ok noX_local 100 [false, true] _ _ rfl ?_ ?_
      · simp; omega
      refine Run.retB (Ds := []) tab_ok noX_local hB1 Tryd.func24 rfl trivial (fun M => ?_)
      rw [atL_none x k (.inr h2)]; rfl
    · have hlt : k.toNat < (listL x).length := by omega
      obtain ⟨e1, e2⟩ := hs k.toNat hlt
      have hS : ¬ S1 ((p.getD default).add k.toNat).block := by rw [add_block]; exact hS1.new _ (hnew _ e1).1
      refine RunF_sound tab_ok noX_local 100 [false, false] _ _ rfl ?_ ?_
      · simp only [Nat.mul_one, e2]
        simp [hS]
        (repeat' refine And.intro ?_ ?_) <;> first | omega | exact e1
      refine Run.retB (Ds := []) tab_ok noX_local hB1 Tryd.func24 rfl trivial (fun M => ?_)
      simp only [Nat.mul_one, e2]
      rw [← atL_list x k (by omega) hlt]; rfl
theorem atR_enters : Enters Tryd.prog 24 := enters_mk Tryd.func24 (by decide) rfl

theorem rankR_ok (x : BitVec 64) (i : Int) (w : World) : Gives Tryd.prog 26 [.int .u64 (un x), .int .i64 i] w (.int .i64 (((bitsL x).filter fun k : Nat => decide ((k : Int) < i)).length : Int)) := by
  refine Gives.of_run Tryd.func26 rfl (by show 2 ≤ 25; decide) ?_
  refine RunF_sound tab_ok noX_local 100 [] _ _ rfl ?_ ?_
  · simp
  refine Run.callR noX_local rfl rfl rfl rfl rfl rfl listR_enters rfl (fun M w' _ _ => listR_ok x w') ?_
  rintro v w2 w1 S1 hag hag2 ⟨p, c, rfl, hc, hs, hnew⟩ hS1
  have hB1 := (Based.refl w).call hag hag2 hS1
  have hle := listL_le x
  have e0 : ((bitsL x).filter fun k : Nat => decide ((k : Int) < i)).length = ((listL x).filter fun k => decide (k < i)).length := by
    rw [listL, List.filter_map, List.length_map]; rfl
  rw [e0]
  generalize hL : listL x = L at *
  refine ⟨.v (.slice p L.length c), fun M => rfl, ?_⟩
  generalize hT : (L.filter fun k => decide (k < i)).length = T
  refine RunF_sound tab_ok noX_local 100 [] _ _ rfl ?_ ?_
  · simp
  suffices H : ∀ (d k n : Nat), k + d = L.length → n ≤ k → T = n + ((L.drop k).filter fun k => decide (k < i)).length → ∀ σ, inT σ.t [(1, .v (.int .i64 i)), (5, .v (.slice p L.length c)), (6, .v (.int .i64 (n : Int))), (7, .v (.int .i64 (k : Int)))] → inT σ.h [] → Run _ _ σ by
    exact H L.length 0 0 (by omega) (Nat.le_refl _) (by rw [List.drop_zero, hT]; omega) _ ⟨rfl, rfl, rfl, rfl, trivial⟩ trivial
  intro d
  induction d with
  | zero =>
    intro k n hk hnk hv σ ht hh
    refine Run.to ?_ ht hh (n' := 0)
    refine RunF_sound tab_ok noX_local 100 [false] _ _ rfl ?_ ?_
    · simp; omega
    refine Run.retB (Ds := []) tab_ok noX_local hB1 Tryd.func26 rfl trivial (fun M => ?_)
    rw [List.drop_eq_nil_of_le (by omega)] at hv
    have : T = n := by simpa using hv
    rw [this]; rfl
  | succ d ih =>
    intro k n hk hnk hv σ ht hh
    refine Run.to ?_ ht hh (n' := 0)
    have hlt : k < L.length := by omega
    obtain ⟨e1, e2⟩ := hs k hlt
    have hS : ¬ S1 ((p.getD default).add k).block := by rw [add_block]; exact hS1.new _ (hnew _ e1).1
    rw [List.drop_eq_getElem_cons hlt, List.filter_cons] at hv
    by_cases cc : L[k] < i
    · refine RunF_sound tab_ok noX_local 100 [true, true] _ _ rfl ?_ ?_
      · simp only [Nat.mul_one, Int.toNat_natCast, e2]
        simp [hS, cc]
        (repeat' refine And.intro ?_ ?_) <;> first | omega | exact e1
      rw [if_pos (by simpa using cc), List.length_cons] at hv
      exact ih (k + 1) (n + 1) (by omega) (by omega) (by omega) _ ⟨rfl, rfl, i64_eq (wrap_succ (by omega)), i64_eq (wrap_succ (by omega)), trivial⟩ trivial
    · refine RunF_sound tab_ok noX_local 100 [true, false] _ _ rfl ?_ ?_
      · simp only [Nat.mul_one, Int.toNat_natCast, e2]
        simp [hS, cc]
        (repeat' refine And.intro ?_ ?_) <;> first | omega | exact e1
      rw [if_neg (by simpa using cc)] at hv
      exact ih (k + 1) n (by omega) (by omega) hv _ ⟨rfl, rfl, rfl, i64_eq (wrap_succ (by omega)), trivial⟩ trivial
theorem rankR_enters : Enters Tryd.prog 26 := enters_mk Tryd.func26 (by decide) rfl
end Go.Proofs.YtpfanhbkjajocaaDoor

/-
  sets.Each as an iterator; At. Own work.
-/
namespace Go.Proofs.YtpfanhbkjajocaaDoor
open Go.AM
set_option maxRecDepth 100000

/-- A word that lies in a block. -/
def WordAt (w : World) (b : Nat) (x : BitVec 64) : Prop := w.cell? ⟨b, 0, none⟩ = some (.int .u64 (un x))

def eachF (b : Nat) : Value := .func (.func 63) #[] #[.pointer (some ⟨b, 0, none⟩)]
def eachK (b : Nat) : Nat → Prop := fun k => k = 0 ∨ k = b
def encNs (l : List Nat) : List (List Value) := l.map fun k : Nat => [.int .i64 (k : Int)]

theorem each_ok (x : BitVec 64) (w : World) : Makes Tryd.prog 29 [.int .u64 (un x)] w (fun v w' => ∃ b, v = eachF b ∧ w.heap.size ≤ b ∧ WordAt w' b x) := by
  refine Makes.of_run Tryd.func29 rfl (by show 1 ≤ 4; decide) ?_
  refine RunF_sound tab_ok noX_local 100 [] _ _ rfl ?_ ?_
  · simp [okCell, argsT.ofConst', Value.oneCell']
  refine Run.ret tab_ok Tryd.func29 rfl trivial fun M fp a w' hr => ⟨hr.agree, (M 0).1, rfl, ?_, ?_⟩
  · rcases Nat.lt_or_ge (M 0).1 w.heap.size with h | h
    · exact (hr.own 0 _ rfl h).elim
    · exact h
  · have hb : BlkAt M w' 0 (.cells 23 [.one (.v (.int .u64 (un x)))]) := hr.heap 0 _ rfl
    have := cells_of_blk hb 0
    exact this
theorem each_enters : Enters Tryd.prog 29 := enters_mk Tryd.func29 (by decide) rfl

theorem each_iter (x : BitVec 64) (b : Nat) (w0 : World) (hb : WordAt w0 b x) (hT : TabAt w0) :
    Iter Tryd.prog 63 [.pointer (some ⟨b, 0, none⟩)] (eachK b) w0 (encNs (bitsL x)) := by
  refine Iter.of_run Tryd.func63 rfl (by show 2 ≤ 16; decide) ?_
  intro y J Js w fp hJ hJs hy hag hfp R hR
  have hbw : w.cell? ⟨b, 0, none⟩ = some (.int .u64 (un x)) := hag.cell hb (fun h => h (.inr rfl))
  have hTw : TabAt w := hT.agree hag (fun h => h (.inl rfl))
  have hf0 : ¬ fp 0 := fun h => hfp 0 h (.inl rfl)
  have hfb : ¬ fp b := fun h => hfp b h (.inr rfl)
  have hres : (Tryd.f63).results = #[] := rfl
  refine RunF_sound tab_ok (hJ []) 100 [] _ _ rfl ?_ ?_
  · simp only [fnC_w0, fnC_S0, hbw]
    simp [hfb]
  simp only [fnC_w0, hbw]
  generalize hX : bitsL x = X at *
  suffices H : ∀ (m : Nat) (z : BitVec 64) (pre : List (List Value)), (bitsL z).length = m → pre ++ encNs (bitsL z) = encNs X →
      ∀ σ, inT σ.t [(0, .v y), (3, .v (.int .u64 (un z)))] → inT σ.h [] → Run (fnC Tryd.prog 63 (Tryd.f63).ntmps w fp (J pre) R) _ σ by
    exact H _ x [] rfl (by rw [hX]; rfl) _ ⟨rfl, rfl, trivial⟩ trivial
  intro m
  induction m with
  | zero =>
    intro z pre hm hp σ ht hh
    refine Run.to ?_ ht hh (n' := 0)
    have hz : z = 0#64 := by
      by_cases h : z = 0#64
      · exact h
      · rw [bitsL_cons z h] at hm; cases hm
    refine RunF_sound tab_ok (hJ pre) 100 [false] _ _ rfl ?_ ?_
    · simp [hz]
    refine Run.finI Tryd.func63 hres fun v w' fp' hg hX => hR v w' fp' pre hg (.inl ⟨?_, hX⟩)
    have : bitsL z = [] := List.length_eq_zero_iff.1 hm
    rw [this] at hp; simpa [encNs] using hp
  | succ m ih =>
    intro z pre hm hp σ ht hh
    refine Run.to ?_ ht hh (n' := 0)
    have hz : z ≠ 0#64 := fun h => by rw [h, bitsL_zero] at hm; cases hm
    refine RunF_sound tab_ok (hJ pre) 100 [true] _ _ rfl ?_ ?_
    · simp [hz]
    refine Run.callFn (hJ pre) rfl rfl rfl rfl rfl rfl rfl tz_enters rfl (fun w' hw' => tz_ok z w' (hTw.agree hw' hf0)) ?_
    have htz : tzI z = (tz z : Int) := by rw [tzI, if_neg hz]
    have hp' : (pre ++ [[.int .i64 (tz z : Int)]]) ++ encNs (bitsL (dropLow z)) = encNs X := by
      rw [← hp, bitsL_cons z hz]; simp [encNs]
    have hpx : pre ++ [[.int .i64 (tz z : Int)]] <+: encNs X := ⟨_, hp'⟩
    refine RunF_sound tab_ok (hJ pre) 100 [] _ _ rfl ?_ ?_
    · simp
    refine Run.yield (J := J) (Js := Js) rfl (hy pre _ hpx) rfl rfl rfl rfl rfl ?_ rfl rfl ?_ ?_
    · rw [htz]; rfl
    · refine RunF_sound tab_ok (hJ _) 100 [false] _ _ rfl ?_ ?_
      · simp
      refine ih (dropLow z) _ ?_ hp' _ ⟨rfl, ?_, trivial⟩ trivial
      · rw [bitsL_cons z hz] at hm; simpa using hm
      · refine u64_eq ?_
        rw [sub1_un, band_un]; rfl
    · refine RunF_sound tab_ok (hJs _) 100 [true] _ _ rfl ?_ ?_
      · simp
      exact Run.retI Tryd.func63 hres fun v w' fp' hg hX => hR v w' fp' _ hg (.inr ⟨hpx, hX⟩)
theorem eachIt_enters : Enters Tryd.prog 63 := enters_mk Tryd.func63 (by decide) rfl

theorem encNs_next {E : List Nat} {k : Nat} (hk : k ≤ E.length) {x : List Value} (h : encNs (E.take k) ++ [x] <+: encNs E) : ∃ hlt : k < E.length, x = [.int .i64 (E[k] : Int)] := by
  have hl := h.length_le
  simp only [encNs, List.length_append, List.length_map, List.length_take, List.length_singleton] at hl
  have hlt : k < E.length := by omega
  refine ⟨hlt, ?_⟩
  obtain ⟨t, ht⟩ := h
  have := congrArg (fun l => l[k]?) ht
  simp only [encNs] at this
  rw [List.append_assoc, List.getElem?_append_right (by simp; omega)] at this
  simp [Nat.min_eq_left hk, hlt] at this
  exact this
theorem encNs_succ {E : List Nat} {k : Nat} (hlt : k < E.length) : encNs (E.take k) ++ [[.int .i64 (E[k] : Int)]] = encNs (E.take (k + 1)) := by
  rw [List.take_succ_eq_append_getElem hlt, encNs, encNs, List.map_append]; rfl
theorem encNs_all {E : List Nat} {k : Nat} (hk : k ≤ E.length) (h : encNs E = encNs (E.take k)) : k = E.length := by
  have := congrArg List.length h
  simp only [encNs, List.length_map, List.length_take] at this
  omega

def atB (k r : Int) : List (Nat × Blk) := [(1, .cells 3 [.one (.v (.int .i64 r))]), (0, .cells 3 [.one (.v (.int .i64 k))])]

theorem at_ok (x : BitVec 64) (k : Int) (w : World) (hT : TabAt w) (h0 : 0 < w.heap.size) (hk2 : k ≤ 9223372036854775807) : Gives Tryd.prog 23 [.int .u64 (un x), .int .i64 k] w (.int .i64 (atL x k)) := by
  refine Gives.of_run Tryd.func23 rfl (by show 2 ≤ 16; decide) ?_
  by_cases c : k < 0
  · refine RunF_sound tab_ok noX_local 100 [true] _ _ rfl ?_ ?_
    · simp [c, okCell, argsT.ofConst', ofConst, Value.oneCell']
    refine Run.retP tab_ok Tryd.func23 rfl ⟨trivial, trivial⟩ (fun M => ?_)
    rw [atL, if_pos c]; rfl
  refine RunF_sound tab_ok noX_local 100 [false] _ _ rfl ?_ ?_
  · simp [okCell, argsT.ofConst', ofConst, Value.oneCell']; omega
  refine Run.callR noX_local rfl rfl rfl rfl rfl rfl each_enters rfl (fun M w' _ _ => each_ok x w') ?_
  rintro v w2 w1 S1 hag hag2 ⟨bb, rfl, hbl, hW⟩ hS1
  have hB1 := (Based.refl w).call hag hag2 hS1
  have hbw1 : bb < w1.heap.size := World.block_lt_of_cell? w1 _ hW
  have hS1b : ¬ S1 bb := hS1.new bb hbl
  have hS10 : ¬ S1 0 := fun h => by have := hB1.new 0 h; omega
  have hT1 : TabAt w1 := hT.agree hB1.agree (fun f => f)
  have hw1 : 0 < w1.heap.size := by have := hB1.agree.size; omega
  have hit := each_iter x bb w1 hW hT1
  have hat : atL x k = match (bitsL x)[k.toNat]? with | some i => (i : Int) | none => -1 := by rw [atL, if_neg c] <;> cases (bitsL x)[k.toNat]? <;> rfl
  generalize bitsL x = E at hit hat
  refine ⟨.fn 63 [.v (.pointer (some ⟨bb, 0, none⟩))], fun M => rfl, ?_⟩
  refine RunF_sound tab_ok noX_local 100 [] _ _ rfl ?_ ?_
  · simp
  refine Run.rangeFn noX_local rfl rfl (fun M => rfl) eachIt_enters 5 [(4, .ptr 1 0), (3, .ptr 0 0)] ⟨rfl, rfl, trivial⟩ rfl rfl hit
    (fun j hj => by rcases hj with rfl | rfl; exact ⟨hw1, hS10⟩; exact ⟨hbw1, hS1b⟩) (fun z hz => by simp only [encNs, List.mem_map] at hz; obtain ⟨e, _, rfl⟩ := hz; rfl)
    (fun pre h => ∃ j, j ≤ E.length ∧ j ≤ k.toNat ∧ pre = encNs (E.take j) ∧ h = atB (k - j) 0)
    (fun _ c h => c = .ret ∧ h = atB 0 (atL x k)) 12 (atB k 0) ⟨0, by omega, by omega, rfl, by simp⟩ ⟨rfl, rfl, trivial⟩ ?_ ?_ ?_
  · rintro D l a0 rc wy fpy pre z h hI hpx ⟨j, hj, hjk, rfl, rfl⟩
    obtain ⟨hlt, rfl⟩ := encNs_next hj hpx
    refine RunF_sound tab_ok (roundX_local hI.loc l rc .ready) 100 [] _ _ rfl ?_ ?_
    · simp
    refine Run.beginRound hI.loc hI.lw ?_
    by_cases cc : k - (j : Int) = 0
    · have hkj : k.toNat = j := by omega
      refine RunF_sound tab_ok (roundX_local hI.loc l rc .busy) 100 [true] _ _ rfl ?_ ?_
      · simp [cc, okCell, Value.oneCell']
      refine Run.roundRet hI [] (atB 0 (atL x k)) ⟨rfl, rfl⟩ ⟨rfl, rfl, trivial⟩ ⟨?_, ?_, trivial⟩ rfl
      · rw [hat, hkj, List.getElem?_eq_getElem hlt]; rfl
      · rw [cc]; rfl
    · refine RunF_sound tab_ok (roundX_local hI.loc l rc .busy) 100 [false] _ _ rfl ?_ ?_
      · simp [cc, okCell, Value.oneCell']
      refine Run.roundEnd hI [] (atB (k - (j + 1 : Nat)) 0) ⟨j + 1, by omega, by omega, encNs_succ hlt, rfl⟩ ⟨rfl, rfl, trivial⟩ ⟨rfl, ?_, trivial⟩ rfl
      have : IntKind.i64.wrap (k - (j : Int) - 1) = k - ((j + 1 : Nat) : Int) := by rw [wrap_i64] <;> omega
      rw [← this]; rfl
  · rintro D h ⟨j, hj, hjk, hx, rfl⟩
    have hje := encNs_all hj hx
    refine RunF_sound tab_ok (markX_local noX_local D) 100 [] _ _ rfl ?_ ?_
    · simp [okCell, Value.oneCell', ofConst]
    refine Run.retB (Ds := [D]) tab_ok noX_local hB1 Tryd.func23 rfl ⟨trivial, trivial⟩ (fun M => ?_)
    rw [hat, List.getElem?_eq_none (by omega)]; rfl
  · rintro D pre c h hpre ⟨rfl, rfl⟩
    exact Run.retB (Ds := [D]) tab_ok noX_local hB1 Tryd.func23 rfl ⟨trivial, trivial⟩ (fun M => rfl)
theorem at_enters : Enters Tryd.prog 23 := enters_mk Tryd.func23 (by decide) rfl
end Go.Proofs.YtpfanhbkjajocaaDoor

/-
  SetsOnes answers true. Own work.
-/
namespace Go.Proofs.YtpfanhbkjajocaaDoor
open Go.AM
set_option maxRecDepth 100000

theorem ones1_ok (x : BitVec 64) (i : Int) (hi : i ≤ 9223372036854775807) (w : World) (hT : TabAt w) (h0 : 0 < w.heap.size) : Gives Tryd.prog 3 [.int .u64 (un x), .int .i64 i] w (.bool true) := by
  refine Gives.of_run Tryd.func3 rfl (by show 2 ≤ 73; decide) ?_
  refine RunF_sound tab_ok noX_local 100 [] _ _ rfl ?_ ?_
  · simp
  refine Run.callFn noX_local rfl rfl rfl rfl rfl rfl rfl has_enters rfl (fun w' _ => has_ok x i w') ?_
  refine RunF_sound tab_ok noX_local 100 [] _ _ rfl ?_ ?_
  · simp
  refine Run.callFn noX_local rfl rfl rfl rfl rfl rfl rfl hasR_enters rfl (fun w' _ => hasR_ok x i w') ?_
  refine RunF_sound tab_ok noX_local 100 [true] _ _ rfl ?_ ?_
  · simp
  refine Run.callFn noX_local rfl rfl rfl rfl rfl rfl rfl with_enters rfl (fun w' _ => with_ok x i w') ?_
  refine RunF_sound tab_ok noX_local 100 [] _ _ rfl ?_ ?_
  · simp
  refine Run.callFn noX_local rfl rfl rfl rfl rfl rfl rfl withR_enters rfl (fun w' _ => withR_ok x i w') ?_
  refine RunF_sound tab_ok noX_local 100 [true] _ _ rfl ?_ ?_
  · simp
  refine Run.callFn noX_local rfl rfl rfl rfl rfl rfl rfl without_enters rfl (fun w' _ => without_ok x i w') ?_
  refine RunF_sound tab_ok noX_local 100 [] _ _ rfl ?_ ?_
  · simp
  refine Run.callFn noX_local rfl rfl rfl rfl rfl rfl rfl withoutR_enters rfl (fun w' _ => withoutR_ok x i w') ?_
  refine RunF_sound tab_ok noX_local 100 [true] _ _ rfl ?_ ?_
  · simp
  refine Run.callFn noX_local rfl rfl rfl rfl rfl rfl rfl size_enters rfl (fun w' _ => size_ok x w') ?_
  refine RunF_sound tab_ok noX_local 100 [] _ _ rfl ?_ ?_
  · simp
  refine Run.callFn noX_local rfl rfl rfl rfl rfl rfl rfl sizeR_enters rfl (fun w' _ => sizeR_ok x w') ?_
  refine RunF_sound tab_ok noX_local 100 [true] _ _ rfl ?_ ?_
  · simp
  refine Run.callFn noX_local rfl rfl rfl rfl rfl rfl rfl next_enters rfl (fun w' hA => next_ok x i w' (hT.agree hA (fun f => f))) ?_
  refine RunF_sound tab_ok noX_local 100 [] _ _ rfl ?_ ?_
  · simp
  refine Run.callFn noX_local rfl rfl rfl rfl rfl rfl rfl nextR_enters rfl (fun w' _ => nextR_ok x i hi w') ?_
  refine RunF_sound tab_ok noX_local 100 [true] _ _ rfl ?_ ?_
  · simp
  refine Run.callFn noX_local rfl rfl rfl rfl rfl rfl rfl at_enters rfl (fun w' hA => at_ok x i w' (hT.agree hA (fun f => f)) (Nat.lt_of_lt_of_le h0 hA.size) hi) ?_
  refine RunF_sound tab_ok noX_local 100 [] _ _ rfl ?_ ?_
  · simp
  refine Run.callFn noX_local rfl rfl rfl rfl rfl rfl rfl atR_enters rfl (fun w' _ => atR_ok x i w') ?_
  refine RunF_sound tab_ok noX_local 100 [true] _ _ rfl ?_ ?_
  · simp
  refine Run.callFn noX_local rfl rfl rfl rfl rfl rfl rfl rank_enters rfl (fun w' _ => rank_ok x i w') ?_
  refine RunF_sound tab_ok noX_local 100 [] _ _ rfl ?_ ?_
  · simp
  refine Run.callFn noX_local rfl rfl rfl rfl rfl rfl rfl rankR_enters rfl (fun w' _ => rankR_ok x i w') ?_
  refine RunF_sound tab_ok noX_local 100 [true] _ _ rfl ?_ ?_
  · simp
  refine Run.callFn noX_local rfl rfl rfl rfl rfl rfl rfl below_enters rfl (fun w' _ => below_ok i w') ?_
  refine RunF_sound tab_ok noX_local 100 [] _ _ rfl ?_ ?_
  · simp
  refine Run.callFn noX_local rfl rfl rfl rfl rfl rfl rfl belowR_enters rfl (fun w' _ => belowR_ok i w') ?_
  refine RunF_sound tab_ok noX_local 100 [] _ _ rfl ?_ ?_
  · simp
  refine Run.retP tab_ok Tryd.func3 rfl trivial (fun M => ?_)
  simp [resAV, conc]
theorem ones1_enters : Enters Tryd.prog 3 := enters_mk Tryd.func3 (by decide) rfl
end Go.Proofs.YtpfanhbkjajocaaDoor

/-
  The abstract machine, twenty-second part: calls that hand over blocks which they have made. Own work; over any program.
-/
namespace Go.AM

mutual
def AV.ge (n : Nat) : AV → Bool
  | .v _ => true
  | .tt _ => true
  | .ptr id _ => Nat.ble n id
  | .elt id _ _ => Nat.ble n id
  | .sl id _ _ _ => Nat.ble n id
  | .fn _ caps => geL n caps
  | .agg l => geL n l
  | .tup l => geL n l
def geL (n : Nat) : List AV → Bool
  | [] => true
  | x :: r => match x.ge n with | true => geL n r | false => false
end

mutual
theorem conc_congrG {M M' : Loc} {n : Nat} (h : ∀ i, n ≤ i → M' i = M i) : ∀ x : AV, x.ge n = true → conc M' x = conc M x
  | .v _, _ => by simp [conc]
  | .tt _, _ => by simp [conc]
  | .ptr id off, hb => by simp [AV.ge] at hb; simp [conc, h id hb]
  | .elt id off j, hb => by simp [AV.ge] at hb; simp [conc, h id hb]
  | .sl id sz off len, hb => by simp [AV.ge] at hb; simp [conc, h id hb]
  | .fn f caps, hb => by simp only [AV.ge] at hb; simp only [conc, concL_congrG h caps hb]
  | .agg l, hb => by simp only [AV.ge] at hb; simp only [conc, concL_congrG h l hb]
  | .tup l, hb => by simp only [AV.ge] at hb; simp only [conc, concL_congrG h l hb]
theorem concL_congrG {M M' : Loc} {n : Nat} (h : ∀ i, n ≤ i → M' i = M i) : ∀ l : List AV, geL n l = true → concL M' l = concL M l
  | [], _ => by simp [concL]
  | x :: r, hb => by
    simp only [geL] at hb
    split at hb
    · rename_i hx; simp only [concL, conc_congrG h x hx, concL_congrG h r hb]
    · cases hb
end

def geSegs (n : Nat) : List Seg → Bool
  | [] => true
  | .one x :: r => match x.ge n with | true => geSegs n r | false => false
  | .vals _ _ :: r => geSegs n r

theorem concSegs_congrG {M M' : Loc} {n : Nat} (h : ∀ i, n ≤ i → M' i = M i) : ∀ l : List Seg, geSegs n l = true → concSegs M' l = concSegs M l
  | [], _ => rfl
  | .one x :: r, hb => by
    simp only [geSegs] at hb
    split at hb
    · rename_i hx; simp only [concSegs, conc_congrG h x hx, concSegs_congrG h r hb]
    · cases hb
  | .vals _ vs :: r, hb => by simp only [geSegs] at hb; simp only [concSegs, concSegs_congrG h r hb]

def Blk.ge (n : Nat) : Blk → Bool
  | .cells _ segs => geSegs n segs
  | .row .. => true

/-- New blocks: numbered from n on, below m, over each other alone. -/
def hGe (n m : Nat) : List (Nat × Blk) → Bool
  | [] => true
  | (i, B) :: r => match Nat.ble n i, Nat.blt i m, B.ge n, B.bel m with | true, true, true, true => hGe n m r | _, _, _, _ => false

theorem hGe_lk {n m : Nat} : ∀ {l : List (Nat × Blk)} {i : Nat} {B : Blk}, hGe n m l = true → lk l i = some B → n ≤ i ∧ i < m ∧ B.ge n = true ∧ B.bel m = true
  | [], i, x, _, h => by cases h
  | (j, y) :: r, i, x, hb, h => by
    simp only [hGe] at hb
    split at hb
    · rename_i h1 h2 h3 h4
      simp only [lk] at h
      split at h
      · rename_i he
        have := Nat.eq_of_beq_eq_true he
        subst this; cases h
        exact ⟨Nat.le_of_ble_eq_true h1, by simpa using h2, h3, h4⟩
      · exact hGe_lk hb h
    · cases hb

theorem lk_append {α : Type} {i : Nat} : ∀ {a b : List (Nat × α)}, lk (a ++ b) i = match lk a i with | some x => some x | none => lk b i
  | [], b => rfl
  | (j, y) :: a, b => by
    simp only [List.cons_append, lk]
    split
    · rfl
    · exact lk_append

theorem BlkAt.congrG {M M' : Loc} {n : Nat} (h : ∀ i, n ≤ i → M' i = M i) {w : World} {id : Nat} (hid : n ≤ id) {B : Blk} (hB : B.ge n = true) (hb : BlkAt M w id B) : BlkAt M' w id B := by
  cases B with
  | cells e segs => exact ⟨by rw [h id hid, concSegs_congrG h segs hB]; exact hb.1, hb.2⟩
  | row e sz n vs =>
    obtain ⟨h1, cur, hc, h2⟩ := hb
    exact ⟨h1, cur, by rw [h id hid]; exact hc, by rw [h id hid]; exact h2⟩

/-- What a call hands over: a value over blocks that it has made. -/
structure Handed (z : AV) (h : List (Nat × Blk)) (w : World) (v : Value) (w' : World) : Prop where
  agree : Agree (fun _ => False) w w'
  ex : ∃ M : Loc, conc M z = v ∧ (∀ id B, lk h id = some B → BlkAt M w' id B ∧ w.heap.size ≤ (M id).1) ∧ ∀ id id' B B', lk h id = some B → lk h id' = some B' → (M id).1 = (M id').1 → id = id'

theorem Rel.handed {C : Ctx} (hL : Local C.X) {M : Loc} {fp : Nat → Prop} {σ : St} {a : Act} {w w' : World} {v : Value} {z : AV} {h : List (Nat × Blk)} {m : Nat} (hR : Rel C M fp σ a w) (hh : Handed z h w v w')
    (hbel : σ.bel = true) (hge : hGe σ.nx m h = true) (hz : z.ge σ.nx = true) (hm : σ.nx ≤ m) : ∃ M', conc M' z = v ∧ (∀ i, i < σ.nx → M' i = M i) ∧ Rel C M' fp ⟨σ.t, h ++ σ.h, m⟩ a w' := by
  obtain ⟨hag, Mh, hv, hbl, hin⟩ := hh
  have hR' := hR.agree' hL hag
  unfold St.bel at hbel
  split at hbel <;> first | (cases hbel; done) | skip
  rename_i ht
  let M' : Loc := fun i => if i < σ.nx then M i else Mh i
  have hlo : ∀ i, i < σ.nx → M' i = M i := fun i hi => by simp only [M', if_pos hi]
  have hhi : ∀ i, σ.nx ≤ i → M' i = Mh i := fun i hi => by simp only [M', if_neg (Nat.not_lt.2 hi)]
  have key : ∀ id B, lk (h ++ σ.h) id = some B → (σ.nx ≤ id ∧ lk h id = some B) ∨ (id < σ.nx ∧ lk σ.h id = some B) := by
    intro id B hB
    rw [lk_append] at hB
    split at hB
    · rename_i x hx
      cases hB
      exact .inl ⟨(hGe_lk hge hx).1, hx⟩
    · exact .inr ⟨(lkh_below hbel hB).1, hB⟩
  refine ⟨M', by rw [conc_congrG hhi z hz]; exact hv, hlo, ?_⟩
  have hadr : ∀ id B, lk h id = some B → w.heap.size ≤ (M' id).1 := fun id B hB => by rw [hhi id (hGe_lk hge hB).1]; exact (hbl id B hB).2
  have hadr' : ∀ id B, lk σ.h id = some B → (M' id).1 = (M id).1 ∧ (M id).1 < w.heap.size := fun id B hB => ⟨by rw [hlo id (lkh_below hbel hB).1], (hR.heap id B hB).lt⟩
  refine { heap := ?_, inj := ?_, own := ?_, apart := ?_, agree := hR'.agree, outer := hR'.outer, fpok := hR'.fpok, size := hR'.size, frozen := hR'.frozen, tmps := ?_, defers := hR'.defers }
  · intro id B hB
    rcases key id B hB with ⟨h1, h2⟩ | ⟨h1, h2⟩
    · exact BlkAt.congrG hhi h1 (hGe_lk hge h2).2.2.1 (hbl id B h2).1
    · exact BlkAt.congr hlo h1 (lkh_below hbel h2).2 rfl (hR'.heap id B h2)
  · intro id id' B B' hB hB' e
    rcases key id B hB with ⟨h1, h2⟩ | ⟨h1, h2⟩ <;> rcases key id' B' hB' with ⟨h3, h4⟩ | ⟨h3, h4⟩
    · rw [hhi id h1, hhi id' h3] at e; exact hin _ _ _ _ h2 h4 e
    · have := hadr id B h2; have := hadr' id' B' h4; omega
    · have := hadr id' B' h4; have := hadr' id B h2; omega
    · rw [hlo id h1, hlo id' h3] at e; exact hR.inj _ _ _ _ h2 h4 e
  · intro id B hB hlt
    rcases key id B hB with ⟨h1, h2⟩ | ⟨h1, h2⟩
    · have := hadr id B h2; have := hR.agree.size; omega
    · rw [(hadr' id B h2).1] at hlt ⊢; exact hR.own id B h2 hlt
  · intro id B hB hf
    rcases key id B hB with ⟨h1, h2⟩ | ⟨h1, h2⟩
    · have := hadr id B h2; have := (hR.fpok _ hf).1; omega
    · rw [(hadr' id B h2).1] at hf; exact hR.apart id B h2 hf
  · intro i x hx
    rw [hR.tmps i x hx]
    congr 1
    exact (conc_congr hlo x (lk_below ht hx)).symm

section
variable {C : Ctx} {ops : Array Oper} {i : Nat} {rest : List Nat} {k : List Item} {σ : St} {o : Oper} {c : Call} {g : Operand} {f : FuncId} {caps xs : List AV} {z : AV} {h : List (Nat × Blk)} {m : Nat}

/-- A call that hands over new blocks. -/
theorem Run.callH (hL : Local C.X) (z : AV) (h : List (Nat × Blk)) (m : Nat) (ho : ops[i]? = some o) (hop : o.op = .call c) (hc : c.callee = .value g) (hg : σ.ev g = some (.fn f caps)) (hxs : evs σ c.args.toList = some xs) (hw : wantOf ops σ o = some .yes) (hent : Enters C.P f)
    (hd : dstOK C.n o.dst = true) (hbel : σ.bel = true) (hge : hGe σ.nx m h = true) (hz : z.ge σ.nx = true) (hm : Nat.ble σ.nx m = true)
    (hfn : ∀ M w, (∀ id B, lk σ.h id = some B → BlkAt M w id B) → Agree C.S0 C.w0 w → GivesR C.P f (concL M (xs ++ caps)) w (Handed z h w))
    (hr : Run C (.inRegion ops rest :: k) (St.put ⟨σ.t, h ++ σ.h, m⟩ o.dst z)) : Run C (.inRegion ops (i :: rest) :: k) σ := by
  refine Run.call (σ' := ⟨σ.t, h ++ σ.h, m⟩) (z := z) ho hop hc hg hxs hw hent hd ?_ hr
  intro M fp a w hR
  refine Calls.mono' (hfn M w hR.heap hR.agree) fun e w' ⟨v, h1, h2⟩ => ?_
  obtain ⟨M', hv, _, hR'⟩ := hR.handed hL h2 hbel hge hz (Nat.le_of_ble_eq_true hm)
  exact ⟨v, h1, M', fp, hR', hv⟩

theorem handed_of {M : Loc} {σ : St} {w0 w : World} {x : AV} {ρ : List (Nat × Nat)} (hag : Agree (fun _ => False) w0 w) (hheap : ∀ id B, lk σ.h id = some B → BlkAt M w id B)
    (hinj : ∀ id id' B B', lk σ.h id = some B → lk σ.h id' = some B' → (M id).1 = (M id').1 → id = id') (hown : ∀ id B, lk σ.h id = some B → w0.heap.size ≤ (M id).1)
    (hx : x = ren ρ z) (hh : inHR ρ σ.h h) (ha : apart ρ (keys h) = true) : Handed z h w0 (conc M x) w := by
  refine ⟨hag, fun i => M (ap ρ i), by rw [hx, conc_ren], fun id B hB => ⟨(hheap _ _ (inHR_lk hh _ _ hB)).ren, hown _ _ (inHR_lk hh _ _ hB)⟩, ?_⟩
  intro id id' B B' hB hB' e
  exact apart_spec ha (lk_keys hB) (lk_keys hB') (hinj _ _ _ _ (inHR_lk hh _ _ hB) (inHR_lk hh _ _ hB') e)

/-- The return of what has been made. -/
theorem Run.retH {P : Program} {T : Tab} (hT : tabOK P T) {f : FuncId} {fn : Func} {n : Nat} {w0 : World} {σ : St} {k : List Item} {p : Prop} {l : List AV} (ρ : List (Nat × Nat))
    (hf : P.funcs[f]? = some fn) (hres : resOf T w0 (fun _ => False) σ fn.results.toList = some (p, l)) (hp : p) (hx : resAV l = ren ρ z) (hh : inHR ρ σ.h h) (ha : apart ρ (keys h) = true) :
    Run (fnC P f n w0 (fun _ => False) noX (Handed z h w0)) (.code .ret :: k) σ :=
  Run.ret hT hf hres hp fun M fp a w hR => handed_of hR.agree hR.heap hR.inj (fun id B hB => Nat.le_of_not_lt fun hlt => (hR.own id B hB hlt).elim) hx hh ha

/-- The same behind ranges over functions, in a run that has begun anew. -/
theorem Run.retHB {P : Program} {T : Tab} (hT : tabOK P T) {f : FuncId} {fn : Func} {n : Nat} {w0 w1 : World} {S : Nat → Prop} {X : Res} (hX : Local X) {σ : St} {k : List Item} {p : Prop} {l : List AV} {Ds : List Nat} (ρ : List (Nat × Nat))
    (hB : Based w0 w1 S) (hf : P.funcs[f]? = some fn) (hres : resOf T w1 S σ fn.results.toList = some (p, l)) (hp : p) (hx : resAV l = ren ρ z) (hh : inHR ρ σ.h h) (ha : apart ρ (keys h) = true) :
    Run (fnM P f n w1 S X (Handed z h w0) Ds) (.code .ret :: k) σ :=
  Run.retM hT hX hf hres hp fun M fp a w hR => handed_of (hB.later hR.agree) hR.heap hR.inj
    (fun id B hB' => Nat.le_of_not_lt fun hlt => by
      have h1 := hR.own id B hB' (Nat.lt_of_lt_of_le hlt hB.agree.size)
      have := hB.new _ h1
      omega) hx hh ha

abbrev HandsZ (P : Program) (f : FuncId) (args : List Value) (w : World) (z : AV) (h : List (Nat × Blk)) : Prop := GivesR P f args w (Handed z h w)

theorem HandsZ.of_run {P : Program} {f : FuncId} {fn : Func} {c : Code} {args : List Value} {w : World} (hf : P.funcs[f]? = some fn) (hb : fn.body = some c)
    (hn : args.length ≤ fn.ntmps) (hr : Run (fnC P f fn.ntmps w (fun _ => False) noX (Handed z h w)) [.code c] ⟨argsT 0 args, [], 0⟩) : HandsZ P f args w z h := calls_of_run hf hb hn hr
end
end Go.AM

/-
  The abstract machine, twenty-third part: iterators that hand over blocks which they have made. Own work; over any program.
-/
namespace Go.AM

/-- A value over blocks of a footprint. -/
structure ItemAt (z : AV) (h : List (Nat × Blk)) (w : World) (v : Value) (F : Foot) : Prop where
  ex : ∃ M : Loc, conc M z = v ∧ (∀ id B, lk h id = some B → BlkAt M w id B) ∧ (∀ id id' B B', lk h id = some B → lk h id' = some B' → (M id).1 = (M id').1 → id = id') ∧ ∀ b, F b ↔ ∃ id B, lk h id = some B ∧ (M id).1 = b

/-- What a call of an iterator's argument does, the value handed over lying in blocks that go with it. -/
def YieldsH {α : Type} (P : Program) (y : Value) (J Js : List α → Res) (w1 : World) (fp1 : Foot) (pre : List α) (x : α) (z : AV) (h : List (Nat × Blk)) : Prop :=
  ∀ w fp F v, J pre w fp → ItemAt z h w v F → (∀ b, F b → ¬ fp b) → Grown fp1 w1 (fun b => fp b ∨ F b) w → CallsV P y [v] w fun r w' =>
    ∃ fp', Grown (fun b => fp b ∨ F b) w fp' w' ∧ (r = .bool true ∧ J (pre ++ [x]) w' fp' ∨ r = .bool false ∧ Js (pre ++ [x]) w' fp')

def disj (ρ : List (Nat × Nat)) (l r : List Nat) : Bool := l.all fun i => r.all fun j => !Nat.beq (ap ρ i) j

theorem disj_spec {ρ : List (Nat × Nat)} {l r : List Nat} (h : disj ρ l r = true) {i j : Nat} (hi : i ∈ l) (hj : j ∈ r) : ap ρ i ≠ j := by
  have := List.all_eq_true.1 (List.all_eq_true.1 h i hi) j hj
  intro e
  subst e
  simp at this

theorem Run.yieldH {α : Type} {C : Ctx} {k : List Item} {σ : St} {ops : Array Oper} {i : Nat} {rest : List Nat} {o : Oper} {c : Call} {g : Operand} {y : Value} {u z : AV} {h hrem : List (Nat × Blk)} {J Js : List α → Res} {pre : List α} {x : α} (ρ : List (Nat × Nat))
    (hX : C.X = J pre) (hy : YieldsH C.P y J Js C.w0 C.S0 pre x z h)
    (ho : ops[i]? = some o) (hop : o.op = .call c) (hc : c.callee = .value g) (hg : σ.ev g = some (.v y)) (hxs : evs σ c.args.toList = some [u]) (hu : u = ren ρ z) (hh : inHR ρ σ.h h) (ha : AM.apart ρ (keys h) = true)
    (hrm : inT σ.h hrem) (hdj : disj ρ (keys h) (keys hrem) = true) (hw : wantOf ops σ o = some .yes) (hd : dstOK C.n o.dst = true)
    (ht : Run (C.withX (J (pre ++ [x]))) (.inRegion ops rest :: k) (St.put ⟨σ.t, hrem, σ.nx⟩ o.dst (.tt true)))
    (hf : Run (C.withX (Js (pre ++ [x]))) (.inRegion ops rest :: k) (St.put ⟨σ.t, hrem, σ.nx⟩ o.dst (.tt false))) : Run C (.inRegion ops (i :: rest) :: k) σ := by
  refine Run.callV ho hop hc hg hxs hw fun M fp a w hR => ?_
  have h0 : J pre w fp := by rw [← hX]; exact hR.outer
  let F : Foot := fun b => ∃ id B, lk h id = some B ∧ (M (ap ρ id)).1 = b
  have hlk : ∀ id B, lk h id = some B → lk σ.h (ap ρ id) = some (renB ρ B) := fun id B hB => inHR_lk hh _ _ hB
  have hrl : ∀ id B, lk hrem id = some B → lk σ.h id = some B := fun id B hB => inT_lk hrm _ _ hB
  have hit : ItemAt z h w (conc M u) F := by
    refine ⟨fun i => M (ap ρ i), by rw [hu, conc_ren], fun id B hB => (hR.heap _ _ (hlk _ _ hB)).ren, fun id id' B B' hB hB' e => ?_, fun b => Iff.rfl⟩
    exact apart_spec ha (lk_keys hB) (lk_keys hB') (hR.inj _ _ _ _ (hlk _ _ hB) (hlk _ _ hB') e)
  have hFf : ∀ b, F b → ¬ fp b := by
    rintro b ⟨id, B, hB, rfl⟩
    exact hR.apart _ _ (hlk _ _ hB)
  have hgr : Grown C.S0 C.w0 (fun b => fp b ∨ F b) w := by
    refine ⟨hR.agree, fun b hb => ?_⟩
    rcases hb with hb | ⟨id, B, hB, rfl⟩
    · exact hR.fpok b hb
    · exact ⟨(hR.heap _ _ (hlk _ _ hB)).lt, hR.own _ _ (hlk _ _ hB)⟩
  show CallsV C.P y (concL M [u]) w _
  have e1 : concL M [u] = [conc M u] := by simp [concL]
  rw [e1]
  refine (hy w fp F _ h0 hit hFf hgr).mono fun r w' ⟨fp', hgr', hv⟩ cs => ?_
  have hnF : ∀ id B, lk hrem id = some B → ¬ (fp (M id).1 ∨ F (M id).1) := by
    intro id B hB hf
    rcases hf with hf | ⟨id', B', hB', e⟩
    · exact hR.apart _ _ (hrl _ _ hB) hf
    · exact disj_spec hdj (lk_keys hB') (lk_keys hB) (hR.inj _ _ _ _ (hlk _ _ hB') (hrl _ _ hB) e)
  have hrel : ∀ X : Res, X w' fp' → Rel (C.withX X) M fp' ⟨σ.t, hrem, σ.nx⟩ a w' := by
    intro X hX'
    refine { heap := ?_, inj := fun id id' B B' hB hB' e => hR.inj _ _ _ _ (hrl _ _ hB) (hrl _ _ hB') e, own := fun id B hB => hR.own _ _ (hrl _ _ hB), apart := ?_, agree := ?_, outer := hX', fpok := ?_, size := hR.size, frozen := hR.frozen, tmps := hR.tmps, defers := hR.defers }
    · intro id B hB
      exact (hR.heap _ _ (hrl _ _ hB)).same (hgr'.1.block _ (hR.heap _ _ (hrl _ _ hB)).lt (hnF _ _ hB))
    · intro id B hB hf
      exact hnF _ _ hB ((hgr'.2 _ hf).2 (hR.heap _ _ (hrl _ _ hB)).lt)
    · exact hR.agree.trans hgr'.1 (fun i hi hl => (hgr.2 i hi).2 hl)
    · intro b hb'
      exact ⟨(hgr'.2 b hb').1, fun hl => (hgr.2 b ((hgr'.2 b hb').2 (Nat.lt_of_lt_of_le hl hR.agree.size))).2 hl⟩
  rcases hv with ⟨rfl, hJ⟩ | ⟨rfl, hJ⟩
  · exact ht M fp' _ w' ((hrel _ hJ).put (C := C.withX _) (z := .tt true) (dstOK_lt hd)) cs
  · exact hf M fp' _ w' ((hrel _ hJ).put (C := C.withX _) (z := .tt false) (dstOK_lt hd)) cs

/-- An iterator whose values lie in blocks that go with them. -/
def IterH {α : Type} (P : Program) (f : FuncId) (caps : List Value) (K : Nat → Prop) (w0 : World) (xs : List α) (zf : α → AV) (hf : α → List (Nat × Blk)) : Prop :=
  ∀ (y : Value) (J Js : List α → Res) (w : World) (fp : Foot), (∀ pre, Local (J pre)) → (∀ pre, Local (Js pre)) → (∀ pre x, pre ++ [x] <+: xs → YieldsH P y J Js w fp pre x (zf x) (hf x)) →
    J [] w fp → (∀ b, fp b → b < w.heap.size) → (∀ b, fp b → ¬ K b) → Agree (fun b => ¬ K b) w0 w →
      GivesR P f (y :: caps) w fun _ w' => ∃ fp', Grown fp w fp' w' ∧ (J xs w' fp' ∨ ∃ pre, pre <+: xs ∧ Js pre w' fp')

theorem IterH.of_run {α : Type} {P : Program} {f : FuncId} {fn : Func} {c : Code} {caps : List Value} {K : Nat → Prop} {w0 : World} {xs : List α} {zf : α → AV} {hf' : α → List (Nat × Blk)} (hf : P.funcs[f]? = some fn) (hb : fn.body = some c)
    (hn : (caps.length + 1) ≤ fn.ntmps)
    (h : ∀ (y : Value) (J Js : List α → Res) (w : World) (fp : Foot), (∀ pre, Local (J pre)) → (∀ pre, Local (Js pre)) → (∀ pre x, pre ++ [x] <+: xs → YieldsH P y J Js w fp pre x (zf x) (hf' x)) →
      Agree (fun b => ¬ K b) w0 w → (∀ b, fp b → ¬ K b) → ∀ R : Value → World → Prop, (∀ v w' fp' pre, Grown fp w fp' w' → (pre = xs ∧ J pre w' fp' ∨ pre <+: xs ∧ Js pre w' fp') → R v w') →
        Run (fnC P f fn.ntmps w fp (J []) R) [.code c] ⟨argsT 0 (y :: caps), [], 0⟩) : IterH P f caps K w0 xs zf hf' := by
  intro y J Js w fp hJ hJs hy h0 hfp hK hag
  refine givesX_of_run (S0 := fp) (X := J []) hf hb (by simpa using hn) h0 (fun b hb => ⟨hfp b hb, fun _ => hb⟩) ?_
  refine h y J Js w fp hJ hJs hy hag hK _ fun v w' fp' pre hg hp => ?_
  rcases hp with ⟨rfl, hp⟩ | ⟨h1, h2⟩
  · exact ⟨fp', hg, .inl hp⟩
  · exact ⟨fp', hg, .inr ⟨pre, h1, h2⟩⟩

theorem Run.rangeFnH {α : Type} {C : Ctx} (hL : Local C.X) {k : List Item} {σ : St} {g : Operand} {p : Tmp} {assign body : Code} {f : FuncId} {vs : List Value} {z : AV}
    (hro : C.b.roundOf = none) (hg : σ.ev g = some z) (hz : ∀ M, conc M z = .func (.func f) #[] vs.toArray) (hent : Enters C.P f)
    (lo : Nat) (t : List (Nat × AV)) (htin : inT σ.t t) (hlo : keysLt lo t = true) (hp : Nat.ble lo p = true) (hp2 : Nat.blt p C.n.hi = true)
    {K : Nat → Prop} {xs : List α} {zf : α → AV} {hf : α → List (Nat × Blk)} (hit : IterH C.P f vs K C.w0 xs zf hf) (hK : ∀ b, K b → b < C.w0.heap.size ∧ ¬ C.S0 b)
    (Inv : List α → List (Nat × Blk) → Prop) (Stop : List α → Code → List (Nat × Blk) → Prop) (N m : Nat) (hNm : N ≤ m)
    (htb : tBelow N t = true) (hib : ∀ pre h, Inv pre h → hBelow N h = true) (hfge : ∀ x ∈ xs, hGe N m (hf x) = true) (hzge : ∀ x ∈ xs, (zf x).ge N = true)
    (h0 : List (Nat × Blk)) (hI0 : Inv [] h0) (hin : inT σ.h h0)
    (hround : ∀ D l a0 rc wy fpy pre x h, RoundIn (C.marked D) lo t l wy fpy → pre ++ [x] <+: xs → Inv pre h →
      Run (roundC (C.marked D) lo a0 l rc .ready wy fpy (roundR (C.marked D) t a0 l rc wy fpy (Inv (pre ++ [x])) (Stop (pre ++ [x])))) [.code assign, .beginRound, .code body] ⟨(p, zf x) :: t, hf x ++ h, m⟩)
    (hdone : ∀ D h, Inv xs h → Run (C.marked D) k ⟨t, h, N⟩)
    (hstop : ∀ D pre c h, pre <+: xs → Stop pre c h → Run (C.marked D) (.code c :: k) ⟨t, h, N⟩) :
    Run C (.code (.rangeFunc g #[p] assign body) :: k) σ := by
  intro M fp a w hR cs
  let D := w.heap.size
  let l := w.heap.size + 1
  let rc : Loop := { state := .ready, pending := none, fn := C.b.fn, tmps := a.tmps, params := #[p], assign, body, defers := D }
  let W1 : World := (w.alloc (.deferred (some []))).alloc (.loop rc)
  let y : Value := .func (.yield l) #[] #[]
  have he : (Instr.enterLoop C.b.fn a.tmps #[p] assign body C.b.roundOf).run C.P w = .ok (l, [mark D]) W1 := by rw [hro]; exact run_enterLoop_outer C.b.fn a.tmps #[p] assign body
  have hres : (resolve a.eval (rangeCall g l) 0).run C.P W1 = .ok { target := .fn (.func f) vs.toArray, args := #[y] } W1 := by
    simp [resolve, hR.q.ev hg, hz, Deferred.ofValue, y]
    rfl
  have hinv : (invoke (.fn (.func f) vs.toArray) #[y]).run C.P W1 = .ok (.enter f (y :: vs).toArray) W1 := by
    have : (#[y] ++ vs.toArray : Array Value) = (y :: vs).toArray := by simp
    simp only [invoke, this, hent _ _]
  have s1 := stepR_rangeFunc (P := C.P) (b := C.b) (a := a) (k := k) (cs := cs) (w := w) he hres hinv
  have hws : W1.heap.size = w.heap.size + 2 := by simp only [W1, World.size_alloc]
  have hold : ∀ b, b < w.heap.size → W1.heap[b]? = w.heap[b]? := by
    intro b hb
    rw [heap_alloc_old _ _ b (by rw [World.size_alloc]; omega), heap_alloc_old _ _ b hb]
  have hD : W1.heap[D]? = some (.deferred (some [])) := by
    rw [heap_alloc_old _ _ _ (by rw [World.size_alloc]; omega)]
    exact World.alloc_heap_new _ _
  have hl : W1.heap[l]? = some (.loop rc) := by
    have := World.alloc_heap_new (w.alloc (.deferred (some []))) (.loop rc)
    rw [show (w.alloc (.deferred (some []))).heap.size = l by simp only [World.size_alloc, l]] at this
    exact this
  have hblk : ∀ id B, lk h0 id = some B → lk σ.h id = some B := fun id B hB => inT_lk hin id B hB
  let J : List α → Res := fun pre w fp => ∃ h M fpX, Inv pre h ∧ LoopJ (C.marked D) t a.tmps l rc .ready none h M fpX w fp
  let Js : List α → Res := fun pre w fp => ∃ c h M fpX, Stop pre c h ∧ LoopJ (C.marked D) t a.tmps l rc .done (some c) h M fpX w fp
  have hLm : Local (C.marked D).X := markX_local hL D
  have hJl : ∀ pre, Local (J pre) := fun pre w w' fp ⟨h, M, fpX, h1, h2⟩ _ hs => ⟨h, M, fpX, h1, h2.moved hLm hs⟩
  have hJsl : ∀ pre, Local (Js pre) := fun pre w w' fp ⟨c, h, M, fpX, h1, h2⟩ _ hs => ⟨c, h, M, fpX, h1, h2.moved hLm hs⟩
  let fp1 : Foot := fun b => (fp b ∨ b = D) ∨ b = l ∨ ∃ id B, lk h0 id = some B ∧ (M id).1 = b
  have hfl : ∀ b, fp b → b < w.heap.size := fun b hb => (hR.fpok b hb).1
  have hml : ∀ id B, lk h0 id = some B → (M id).1 < w.heap.size := fun id B hB => (hR.heap _ _ (hblk _ _ hB)).lt
  have hwle : C.w0.heap.size ≤ w.heap.size := hR.agree.size
  have hfp1 : ∀ b, fp1 b → b < W1.heap.size ∧ (b < C.w0.heap.size → C.S0 b) := by
    intro b hb
    rw [hws]
    rcases hb with (hb | rfl) | rfl | ⟨id, B, hB, rfl⟩
    · exact ⟨by have := hfl b hb; omega, (hR.fpok b hb).2⟩
    · exact ⟨by simp only [D]; omega, fun h => by simp only [D] at h; omega⟩
    · exact ⟨by simp only [l]; omega, fun h => by simp only [l] at h; omega⟩
    · exact ⟨by have := hml _ _ hB; omega, hR.own _ _ (hblk _ _ hB)⟩
  have hW1 : Agree C.S0 C.w0 W1 := ⟨hR.agree.os, hR.agree.tape, hR.agree.output, by rw [hws]; omega, fun b hb hs => by rw [hold b (by omega)]; exact hR.agree.block b hb hs⟩
  have hJ0 : J [] W1 fp1 := by
    refine ⟨h0, M, fun b => fp b ∨ b = D, hI0, ?_⟩
    refine { tmps := fun i x hx => hR.tmps i x (inT_lk htin i x hx), heap := ?_, inj := ?_, own := ?_, apart := ?_, outer := ?_, fpok := ?_, rc := hl, lX := ?_, lnew := ?_, foot := fun b => Iff.rfl }
    · exact fun id B hB => (hR.heap _ _ (hblk _ _ hB)).same (hold _ (hml _ _ hB))
    · exact fun id id' B B' hB hB' e => hR.inj _ _ _ _ (hblk _ _ hB) (hblk _ _ hB') e
    · exact fun id B hB => hR.own _ _ (hblk _ _ hB)
    · intro id B hB
      have := hml _ _ hB
      refine ⟨fun hf => ?_, fun e => by simp only [l] at e; omega⟩
      rcases hf with hf | hf
      · exact hR.apart _ _ (hblk _ _ hB) hf
      · simp only [D] at hf; omega
    · exact ⟨fp, hL w W1 fp hR.outer hfl (fun b hb => hold b (hfl b hb)), fun hf => Nat.lt_irrefl _ (hfl _ hf), hD, fun b => Iff.rfl⟩
    · intro b hb
      exact hfp1 b (.inl hb)
    · intro hf
      rcases hf with hf | hf
      · have := hfl _ hf; simp only [l] at this; omega
      · simp only [l, D] at hf; omega
    · show C.w0.heap.size ≤ l
      simp only [l]; omega
  have hys : ∀ pre x, pre ++ [x] <+: xs → YieldsH C.P y J Js W1 fp1 pre x (zf x) (hf x) := by
    intro pre x hpx wy fpy F v hJy hitem hFf hgr
    obtain ⟨h, M', fpX, hinvp, hJ⟩ := hJy
    obtain ⟨Mi, hv, hbi, hji, hFi⟩ := hitem
    have hx := hpx.subset (show x ∈ pre ++ [x] by simp)
    have hge := hfge x hx
    have hzg := hzge x hx
    have hbel := hib _ _ hinvp
    have hag : Agree C.S0 C.w0 wy := hW1.trans hgr.1 (fun i hi hl => (hfp1 i hi).2 hl)
    let fpz : Foot := fun b => fpy b ∨ F b
    have hfy : ∀ b, fpz b → b < C.w0.heap.size → C.S0 b := fun b hb hlt => (hfp1 b ((hgr.2 b hb).2 (by have := hW1.size; omega))).2 hlt
    let M'' : Loc := fun i => if i < N then M' i else Mi i
    have hlow : ∀ i, i < N → M'' i = M' i := fun i hi => by simp only [M'', if_pos hi]
    have hhi : ∀ i, N ≤ i → M'' i = Mi i := fun i hi => by simp only [M'', if_neg (Nat.not_lt.2 hi)]
    have key : ∀ id B, lk (hf x ++ h) id = some B → (N ≤ id ∧ lk (hf x) id = some B) ∨ (id < N ∧ lk h id = some B) := by
      intro id B hB
      rw [lk_append] at hB
      split at hB
      · rename_i u hu
        cases hB
        exact .inl ⟨(hGe_lk hge hu).1, hu⟩
      · exact .inr ⟨(lkh_below hbel hB).1, hB⟩
    have hinF : ∀ id B, lk (hf x) id = some B → F (Mi id).1 := fun id B hB => (hFi _).2 ⟨id, B, hB, rfl⟩
    have hinY : ∀ id B, lk h id = some B → fpy (M' id).1 := fun id B hB => (hJ.foot _).2 (.inr (.inr ⟨id, B, hB, rfl⟩))
    have hrun := run_yield (P := C.P) (args := #[v]) hJ.rc (by simp [rc])
    refine ⟨{ target := .fn (.yield l) #[], args := #[v] }, _, by simp [Deferred.ofValue, y], by simp only [invoke]; exact hrun, ?_⟩
    intro c cs'
    have hpl : p < a.tmps.size := by rw [hR.size]; simpa using hp2
    let a' : Act := { tmps := a.tmps.setIfInBounds p v, defers := [] }
    have htm : (#[p].zip #[v]).foldl (fun tmps (q : Nat × Value) => tmps.setIfInBounds q.1 q.2) a.tmps = a.tmps.setIfInBounds p v := by simp
    have hI : RoundIn (C.marked D) lo t l wy fpz := ⟨hLm, .inl ((hJ.foot l).2 (.inr (.inl rfl))), hag, hfy, hJ.lnew, hlo⟩
    have hrel : Rel (roundC (C.marked D) lo a.tmps l rc .ready wy fpz (roundR (C.marked D) t a.tmps l rc wy fpz (Inv (pre ++ [x])) (Stop (pre ++ [x])))) M'' (fun b => fpX b ∨ b = l) ⟨(p, zf x) :: t, hf x ++ h, m⟩ a' wy := by
      refine { heap := ?_, inj := ?_, own := ?_, apart := ?_, agree := Agree.refl _ _, outer := ⟨fpX, hJ.outer, hJ.lX, hJ.rc, fun b => Iff.rfl⟩, fpok := ?_, size := ?_, frozen := ?_, tmps := ?_, defers := rfl }
      · intro id B hB
        rcases key id B hB with ⟨h1, h2⟩ | ⟨h1, h2⟩
        · exact BlkAt.congrG hhi h1 (hGe_lk hge h2).2.2.1 (hbi id B h2)
        · exact BlkAt.congr hlow h1 (lkh_below hbel h2).2 rfl (hJ.heap id B h2)
      · intro id id' B B' hB hB' e
        rcases key id B hB with ⟨h1, h2⟩ | ⟨h1, h2⟩ <;> rcases key id' B' hB' with ⟨h3, h4⟩ | ⟨h3, h4⟩
        · rw [hhi id h1, hhi id' h3] at e; exact hji _ _ _ _ h2 h4 e
        · rw [hhi id h1, hlow id' h3] at e; exact (hFf _ (hinF _ _ h2) (e ▸ hinY _ _ h4)).elim
        · rw [hlow id h1, hhi id' h3] at e; exact (hFf _ (hinF _ _ h4) (e ▸ hinY _ _ h2)).elim
        · rw [hlow id h1, hlow id' h3] at e; exact hJ.inj _ _ _ _ h2 h4 e
      · intro id B hB _
        rcases key id B hB with ⟨h1, h2⟩ | ⟨h1, h2⟩
        · rw [hhi id h1]; exact .inr (hinF _ _ h2)
        · rw [hlow id h1]; exact .inl (hinY _ _ h2)
      · intro id B hB hf'
        rcases key id B hB with ⟨h1, h2⟩ | ⟨h1, h2⟩
        · rw [hhi id h1] at hf'
          refine hFf _ (hinF _ _ h2) ((hJ.foot _).2 ?_)
          exact hf'.imp (fun h => h) .inl
        · rw [hlow id h1] at hf'
          exact hf'.elim (hJ.apart _ _ h2).1 (hJ.apart _ _ h2).2
      · intro b hb
        have hb' : fpy b := (hJ.foot b).2 (hb.imp id .inl)
        exact ⟨(hgr.2 b (.inl hb')).1, fun _ => .inl hb'⟩
      · show a'.tmps.size = C.n.hi
        simp only [a', Array.size_setIfInBounds]; exact hR.size
      · intro i hi
        show (a.tmps.setIfInBounds p v)[i]? = a.tmps[i]?
        have hi' : i < lo := hi
        have : p ≠ i := fun e => Nat.lt_irrefl i (Nat.lt_of_lt_of_le hi' (e ▸ Nat.le_of_ble_eq_true hp))
        rw [Array.getElem?_setIfInBounds, if_neg this]
      · intro i u hu
        simp only [lk] at hu
        show (a.tmps.setIfInBounds p v)[i]? = _
        split at hu
        · rename_i he
          have e := Nat.eq_of_beq_eq_true he
          subst e; cases hu
          rw [Array.getElem?_setIfInBounds, if_pos rfl, if_pos hpl, conc_congrG hhi _ hzg, hv]
        · rename_i he
          have hne : p ≠ i := fun e => by subst e; simp at he
          rw [Array.getElem?_setIfInBounds, if_neg hne, hJ.tmps i u hu, conc_congr hlow u (lk_below htb hu)]
    obtain ⟨m', s, zz⟩ := hround D l a.tmps rc wy fpz pre x h hI hpx hinvp M'' _ a' wy hrel (c :: cs')
    obtain ⟨r, w', rfl, fp', hg', hv'⟩ := zz c cs' rfl
    refine ⟨r, w', ⟨fp', hg', ?_⟩, ?_⟩
    · rcases hv' with ⟨hv', hh⟩ | ⟨hv', hh⟩
      · obtain ⟨h', M', fpX', e1, e2⟩ := hh; exact .inl ⟨hv', h', M', fpX', e1, e2⟩
      · obtain ⟨c', h', M', fpX', e1, e2⟩ := hh; exact .inr ⟨hv', c', h', M', fpX', e1, e2⟩
    · have hfr : Frame.round l C.b.fn ((#[p].zip #[v]).foldl (fun tmps (q : Nat × Value) => tmps.setIfInBounds q.1 q.2) a.tmps) assign body .normal =
          (roundC (C.marked D) lo a.tmps l rc .ready wy fpz (roundR (C.marked D) t a.tmps l rc wy fpz (Inv (pre ++ [x])) (Stop (pre ++ [x])))).b.atR a' [.code assign, .beginRound, .code body] := by
        rw [htm]; simp [Frame.round, Frame.atR, roundC, Ctx.marked, a']
      exact hfr ▸ s
  have hcall := hit y J Js W1 fp1 hJl hJsl hys hJ0 (fun b hb => (hfp1 b hb).1) (fun b hb hk => (hK b hk).2 ((hfp1 b hb).2 (hK b hk).1))
    ⟨hW1.os, hW1.tape, hW1.output, hW1.size, fun b hb hk => hW1.block b hb (fun hs => by
      have : K b := Classical.byContradiction hk
      exact (hK b this).2 hs)⟩
  obtain ⟨e, w', fr, ⟨v, rfl, fp', hgr, hend⟩, hsteps, _, hleave⟩ := hcall (C.b.atR { a with defers := [mark D] ++ a.defers } (.inRangeFunc l :: k) :: cs)
  have s2 := step_leave_returned (c := C.b.atR { a with defers := [mark D] ++ a.defers } (.inRangeFunc l :: k)) (cs := cs) hleave
  rw [finish_atR_inRangeFunc] at s2
  have hag : Agree C.S0 C.w0 w' := hW1.trans hgr.1 (fun i hi hl => (hfp1 i hi).2 hl)
  have key : ∀ (st : LoopState) (pd : Option Code) (h : List (Nat × Blk)) (M' : Loc) (fpX : Foot), st ≠ .busy → LoopJ (C.marked D) t a.tmps l rc st pd h M' fpX w' fp' →
      Run (C.marked D) ((pd.map Item.code).toList ++ k) ⟨t, h, N⟩ → ∃ m, Steps C.P (lone (C.b.atR a (.code (.rangeFunc g #[p] assign body) :: k)) cs w) m ∧ C.Z cs m := by
    intro st pd h M' fpX hst hJ hr
    obtain ⟨k1, k2, k3⟩ := hJ.record hLm (o := .loop { rc with state := .exhausted, pending := pd })
    have hrel : Rel (C.marked D) M' fpX ⟨t, h, N⟩ { a with defers := [mark D] ++ a.defers } (w'.putObj l (.loop { rc with state := .exhausted, pending := pd })) := by
      refine { heap := k1, inj := hJ.inj, own := hJ.own, apart := fun id B hB => (hJ.apart _ _ hB).1, agree := ?_, outer := k2, fpok := k3, size := hR.size, frozen := hR.frozen, tmps := hJ.tmps, defers := ?_ }
      · refine agree_putObj hag (fun h => ?_)
        have : C.w0.heap.size ≤ l := hJ.lnew
        exact absurd (show l < C.w0.heap.size from h) (by omega)
      · show [mark D] ++ a.defers = mark D :: C.ds
        rw [hR.defers]; rfl
    obtain ⟨m, s, zz⟩ := hr M' fpX _ _ hrel cs
    have s3 := stepR_endRangeFunc (P := C.P) (b := C.b) (a := { a with defers := [mark D] ++ a.defers }) (k := k) (cs := cs) (run_endLoop (P := C.P) hJ.rc hst)
    exact ⟨m, .head s1 (Steps.trans hsteps (.head s2 (.head s3 s))), zz⟩
  rcases hend with ⟨h, M', fpX, hI, hJ⟩ | ⟨pre, hpre, c, h, M', fpX, hS, hJ⟩
  · exact key .ready none h M' fpX (by simp) hJ (hdone D h hI)
  · exact key .done (some c) h M' fpX (by simp) hJ (hstop D pre c h hpre hS)
end Go.AM

/-
  The abstract machine, twenty-fourth part: functions that work on blocks which are handed to them; calls by what follows them. Own work; over any program.
-/
namespace Go.AM

def argsA : Nat → List AV → List (Nat × AV)
  | _, [] => []
  | i, x :: r => (i, x) :: argsA (i + 1) r

theorem argsA_lk : ∀ {l : List AV} {i j : Nat} {x : AV}, lk (argsA i l) j = some x → i ≤ j ∧ l[j - i]? = some x
  | [], i, j, x, h => by cases h
  | y :: r, i, j, x, h => by
    simp only [argsA, lk] at h
    split at h
    · rename_i he
      have e := Nat.eq_of_beq_eq_true he
      subst e; cases h
      exact ⟨Nat.le_refl _, by simp⟩
    · rename_i he
      obtain ⟨h1, h2⟩ := argsA_lk h
      refine ⟨by omega, ?_⟩
      rw [show j - i = (j - (i + 1)) + 1 by omega]; simpa using h2

theorem concL_get {M : Loc} : ∀ {l : List AV} {j : Nat} {x : AV}, l[j]? = some x → (concL M l)[j]? = some (conc M x)
  | y :: r, 0, x, h => by simp at h; subst h; simp [concL]
  | y :: r, j + 1, x, h => by simp at h; simp only [concL, List.getElem?_cons_succ]; exact concL_get h

theorem concL_length {M : Loc} : ∀ (l : List AV), (concL M l).length = l.length
  | [] => by simp [concL]
  | y :: r => by simp [concL, concL_length r]

/-- What a footprint and some blocks take up. -/
def footH (M : Loc) (fp : Foot) (h : List (Nat × Blk)) : Foot := fun b => fp b ∨ ∃ id B, lk h id = some B ∧ (M id).1 = b

/-- A call to which blocks are handed. -/
theorem givesO_of_run {P : Program} {f : FuncId} {fn : Func} {c : Code} {args : List AV} {h : List (Nat × Blk)} {nx : Nat} {M : Loc} {w : World} {X : Res} {fp : Foot} {R : Value → World → Prop} (hf : P.funcs[f]? = some fn) (hb : fn.body = some c)
    (hn : args.length ≤ fn.ntmps) (hX : X w fp) (hfp : ∀ b, fp b → b < w.heap.size)
    (hh : ∀ id B, lk h id = some B → BlkAt M w id B) (hi : ∀ id id' B B', lk h id = some B → lk h id' = some B' → (M id).1 = (M id').1 → id = id') (ha : ∀ id B, lk h id = some B → ¬ fp (M id).1)
    (hr : Run (fnC P f fn.ntmps w (footH M fp h) X R) [.code c] ⟨argsA 0 args, h, nx⟩) : GivesR P f (concL M args) w R := by
  intro cs
  let a : Act := { tmps := (concL M args).toArray ++ Array.replicate (fn.ntmps - (concL M args).length) undef, defers := [] }
  let b : Frame := { (default : Frame) with fn := f, kind := .normal, roundOf := none }
  have henter : Frame.enter P f (concL M args).toArray .normal = b.atR a [.code c] := by
    simp [Frame.enter, Frame.atR, hf, hb, b, a]
  have hR : Rel (fnC P f fn.ntmps w (footH M fp h) X R) M fp ⟨argsA 0 args, h, nx⟩ a w := by
    refine { heap := hh, inj := hi, own := fun id B hB _ => .inr ⟨id, B, hB, rfl⟩, apart := ha, agree := Agree.refl _ _, outer := hX,
             fpok := fun b hb => ⟨hfp b hb, fun _ => .inl hb⟩, size := by simp [a, fnC, concL_length]; omega, frozen := fun i hi => absurd hi (Nat.not_lt_zero _), tmps := ?_, defers := rfl }
    intro i x hx
    obtain ⟨_, h2⟩ := argsA_lk hx
    simp only [Nat.sub_zero] at h2
    have h3 := concL_get (M := M) h2
    have hlt := (List.getElem?_eq_some_iff.1 h3).1
    simp only [a]
    rw [Array.getElem?_append_left (by simpa using hlt)]
    simpa using h3
  obtain ⟨m, s, v, w', fr, rfl, h1, h2, h3⟩ := hr M fp a w hR cs
  rw [henter]
  exact ⟨.returned v, w', fr, ⟨v, rfl, h3⟩, s, h1, h2⟩

/-- A call, by what follows it. -/
theorem Run.callK {C : Ctx} {k : List Item} {σ : St} {ops : Array Oper} {i : Nat} {rest : List Nat} {o : Oper} {c : Call} {g : Operand} {f : FuncId} {caps xs : List AV}
    (ho : ops[i]? = some o) (hop : o.op = .call c) (hc : c.callee = .value g) (hg : σ.ev g = some (.fn f caps)) (hxs : evs σ c.args.toList = some xs) (hw : wantOf ops σ o = some .yes) (hent : Enters C.P f)
    (hd : dstOK C.n o.dst = true)
    (hcon : ∀ M fp a w, Rel C M fp σ a w → GivesR C.P f (concL M (xs ++ caps)) w (fun v w' => ∃ X' M' fp' σ' z, conc M' z = v ∧ Rel (C.withX X') M' fp' σ' a w' ∧ Run (C.withX X') (.inRegion ops rest :: k) (σ'.put o.dst z))) :
    Run C (.inRegion ops (i :: rest) :: k) σ := by
  intro M fp a w hR cs
  have hnd : ∀ c, o.op ≠ .defer c := fun c e => by rw [hop] at e; cases e
  have h2 : c.args.map a.eval = (concL M xs).toArray := by apply Array.ext'; simpa using evs_conc hR.q hxs
  have hr : (execOp a.eval o).run C.P w = .ok (.enter f (concL M (xs ++ caps)).toArray) w := by
    simp only [execOp, hop, resolve, hc, h2, hR.q.ev hg, conc, Deferred.ofValue]
    simp [invoke, hent _ _, concL_append]
  have s1 := step_call (b := C.b) (k := k) (cs := cs) (rest := rest) ho (wantOf_yes hR.q hw) hnd hr
  obtain ⟨e, w', fr, ⟨v, rfl, X', M', fp', σ', z, hz, hR', hrun⟩, hsteps, _, hleave⟩ := hcon M fp a w hR (C.b.atR a (.inRegion ops (i :: rest) :: k) :: cs)
  obtain ⟨m, s, e⟩ := hrun M' fp' _ w' (hR'.put (C := C.withX X') (z := z) (dstOK_lt hd)) cs
  have hfin : (C.b.atR a (.inRegion ops (i :: rest) :: k)).finish v = C.b.atR (a.put o.dst v) (.inRegion ops rest :: k) := by rw [Frame.finish_atR, ho]; rfl
  refine ⟨m, .head s1 (Steps.trans hsteps (.head (step_leave_returned hleave) ?_)), e⟩
  rw [hfin, ← hz]; exact s

theorem YieldsH.rebase {α : Type} {P : Program} {y : Value} {J Js : List α → Res} {w1 w2 : World} {fp1 fp2 : Foot} {pre : List α} {x : α} {z : AV} {h : List (Nat × Blk)} (hy : YieldsH P y J Js w1 fp1 pre x z h) (hg : Grown fp1 w1 fp2 w2) :
    YieldsH P y J Js w2 fp2 pre x z h := fun w fp F v h1 h2 h3 h4 => hy w fp F v h1 h2 h3 (hg.trans h4)

/-- What is handed over, numbered otherwise. -/
theorem Handed.to {z z' : AV} {h h' : List (Nat × Blk)} {w w' : World} {v : Value} (ρ : List (Nat × Nat)) (H : Handed z h w v w') (hz : z = ren ρ z') (hh : inHR ρ h h') (ha : AM.apart ρ (keys h') = true) : Handed z' h' w v w' := by
  obtain ⟨hag, M, hv, hb, hi⟩ := H
  refine ⟨hag, fun i => M (ap ρ i), by rw [← conc_ren, ← hz, hv], fun id B hB => ?_, fun id id' B B' hB hB' e => ?_⟩
  · have := hb _ _ (inHR_lk hh _ _ hB)
    exact ⟨this.1.ren, this.2⟩
  · exact apart_spec ha (lk_keys hB) (lk_keys hB') (hi _ _ _ _ (inHR_lk hh _ _ hB) (inHR_lk hh _ _ hB') e)
theorem HandsZ.to {P : Program} {f : FuncId} {args : List Value} {w : World} {z z' : AV} {h h' : List (Nat × Blk)} (ρ : List (Nat × Nat)) (H : HandsZ P f args w z h) (hz : z = ren ρ z') (hh : inHR ρ h h') (ha : AM.apart ρ (keys h') = true) : HandsZ P f args w z' h' :=
  Calls.mono' H fun _ _ ⟨v, h1, h2⟩ => ⟨v, h1, h2.to ρ hz hh ha⟩

/-- The return of whatever, by what the state says. -/
theorem Run.retS {P : Program} {T : Tab} (hT : tabOK P T) {f : FuncId} {fn : Func} {n : Nat} {w0 : World} {S0 : Nat → Prop} {X : Res} {R : Value → World → Prop} {σ : St} {k : List Item} {p : Prop} {l : List AV}
    (hf : P.funcs[f]? = some fn) (h : resOf T w0 S0 σ fn.results.toList = some (p, l)) (hp : p)
    (hR : ∀ M fp a w, Rel (fnC P f n w0 S0 X R) M fp σ a w → R (conc M (resAV l)) w) : Run (fnC P f n w0 S0 X R) (.code .ret :: k) σ := Run.ret hT hf h hp hR
/-! ### Parameters that stand still -/

/-- A function's surroundings in which the first temporaries are never written. -/
abbrev fnL (P : Program) (f : FuncId) (lo n : Nat) (t0 : Array Value) (w : World) (S0 : Nat → Prop) (X : Res) (R : Value → World → Prop) : Ctx := { fnC P f n w S0 X R with n := ⟨lo, n⟩, t0 := t0 }

theorem givesL_of_run {P : Program} {f : FuncId} {fn : Func} {c : Code} {args : List AV} {h : List (Nat × Blk)} {nx : Nat} {M : Loc} {w : World} {X : Res} {fp : Foot} {R : Value → World → Prop} (hf : P.funcs[f]? = some fn) (hb : fn.body = some c)
    (hn : args.length ≤ fn.ntmps) (hX : X w fp) (hfp : ∀ b, fp b → b < w.heap.size)
    (hh : ∀ id B, lk h id = some B → BlkAt M w id B) (hi : ∀ id id' B B', lk h id = some B → lk h id' = some B' → (M id).1 = (M id').1 → id = id') (ha : ∀ id B, lk h id = some B → ¬ fp (M id).1)
    (hr : Run (fnL P f args.length fn.ntmps (concL M args).toArray w (footH M fp h) X R) [.code c] ⟨argsA 0 args, h, nx⟩) : GivesR P f (concL M args) w R := by
  intro cs
  let a : Act := { tmps := (concL M args).toArray ++ Array.replicate (fn.ntmps - (concL M args).length) undef, defers := [] }
  let b : Frame := { (default : Frame) with fn := f, kind := .normal, roundOf := none }
  have henter : Frame.enter P f (concL M args).toArray .normal = b.atR a [.code c] := by
    simp [Frame.enter, Frame.atR, hf, hb, b, a]
  have hR : Rel (fnL P f args.length fn.ntmps (concL M args).toArray w (footH M fp h) X R) M fp ⟨argsA 0 args, h, nx⟩ a w := by
    refine { heap := hh, inj := hi, own := fun id B hB _ => .inr ⟨id, B, hB, rfl⟩, apart := ha, agree := Agree.refl _ _, outer := hX,
             fpok := fun b hb => ⟨hfp b hb, fun _ => .inl hb⟩, size := by simp [a, concL_length]; omega, frozen := fun i hi => ?_, tmps := ?_, defers := rfl }
    · have hi' : i < args.length := hi
      simp only [a]
      rw [Array.getElem?_append_left (by simpa [concL_length] using hi')]
    · intro i x hx
      obtain ⟨_, h2⟩ := argsA_lk hx
      simp only [Nat.sub_zero] at h2
      have h3 := concL_get (M := M) h2
      have hlt := (List.getElem?_eq_some_iff.1 h3).1
      simp only [a]
      rw [Array.getElem?_append_left (by simpa using hlt)]
      simpa using h3
  obtain ⟨m, s, v, w', fr, rfl, h1, h2, h3⟩ := hr M fp a w hR cs
  rw [henter]
  exact ⟨.returned v, w', fr, ⟨v, rfl, h3⟩, s, h1, h2⟩

theorem Run.retF {P : Program} {T : Tab} (hT : tabOK P T) {f : FuncId} {fn : Func} {lo n : Nat} {t0 : Array Value} {w0 : World} {S0 : Nat → Prop} {X : Res} {R : Value → World → Prop} {σ : St} {k : List Item} {p : Prop} {l : List AV}
    (hf : P.funcs[f]? = some fn) (h : resOf T w0 S0 σ fn.results.toList = some (p, l)) (hp : p)
    (hR : ∀ M fp a w, Rel (fnL P f lo n t0 w0 S0 X R) M fp σ a w → R (conc M (resAV l)) w) : Run (fnL P f lo n t0 w0 S0 X R) (.code .ret :: k) σ := by
  intro M fp a w hr cs
  refine ⟨_, .one (stepR_ret rfl), _, w, _, rfl, rfl, ⟨rfl, hr.defers, rfl, fn, hf, ?_⟩, hR M fp a w hr⟩
  exact results_run hT hr (fn := fn) h hp

/-- Where a parameter that stands still points. -/
theorem Rel.still {C : Ctx} {M : Loc} {fp : Nat → Prop} {σ : St} {a : Act} {w : World} (hR : Rel C M fp σ a w) {i id off b o : Nat} (hi : i < C.n.lo) (h0 : C.t0[i]? = some (.pointer (some ⟨b, o, none⟩))) (ht : lk σ.t i = some (.ptr id off)) : (M id).1 = b := by
  have h1 := hR.frozen i hi
  rw [hR.tmps i _ ht, h0] at h1
  simp only [conc, Option.some.injEq, Value.pointer.injEq, Addr.mk.injEq] at h1
  exact h1.1
end Go.AM

/-
  The abstract machine, twenty-fifth part: structs built in drawn regions, taken first. Own work; over any program.
-/
namespace Go.AM

theorem RunO.build {C : Ctx} {held : List (Nat × Blk)} {n0 : Nat} {ops : Array Oper} {i : Nat} {ord : List (Nat × Bool)} {k : List Item} {σ : St} {o : Oper} {T : Tab} {t : TypeId} {parts : Array (Nat × Operand)} {l : List (Nat × Value)} {p : Prop} {z : AV}
    (hT : tabOK C.P T) (hsel : noSel ops = true) (ho : ops[i]? = some o) (hop : o.op = .build t parts) (hl : plainParts σ parts.toList = some l) (hz : evBuild T t l = some (p, z)) (hw : wantOf ops σ o = some .yes) (hd : dstOK C.n o.dst = true)
    (hp : p) (h : RunO C held n0 ops ord k (σ.put o.dst z)) : RunO C held n0 ops ((i, true) :: ord) k σ := by
  refine RunO.first hsel ho hd (fun M0 M fp a w hM hR => .inl ⟨wantOf_yes hR.q hw, (fun c e => by rw [hop] at e; cases e), fun w' _ => ?_⟩) h
  have hc := plainParts_conc hR.q hl
  have e : (parts.map fun x => (x.1, a.eval x.2)).toList = l := by rw [← hc]; simp
  have := evBuild_run hT (M := M) (parts := parts.map fun x => (x.1, a.eval x.2)) (by rw [e]; exact hz) hp w'
  simp [execOp, hop, this]
end Go.AM

/-
  Of and List walked. Own work.
-/
namespace Go.Proofs.YtpfanhbkjajocaaDoor
open Go.AM
set_option maxRecDepth 100000

/-- The set of a list, with what is wrong. -/
def ofS : List Int → BitVec 64 → BitVec 64 × Int
  | [], d => (d, 0)
  | i :: l, d => if inB i = true then ofS l (d ||| 1#64 <<< i.toNat) else (0#64, 4)

def ofSV (x : BitVec 64 × Int) : Value := .tuple #[.int .u64 (un x.1), .int .i64 x.2]

theorem of_ok (p : Option Addr) (c : Nat) (xs : List Int) (w : World) (hs : SeesI w p xs) (hl : xs.length ≤ maxLen) : Gives Tryd.prog 46 [.slice p xs.length c] w (ofSV (ofS xs 0#64)) := by
  refine Gives.of_run Tryd.func46 rfl (by show 1 ≤ 22; decide) ?_
  have hml : maxLen = 9223372036854775807 := rfl
  refine RunF_sound tab_ok noX_local 100 [] _ _ rfl ?_ ?_
  · simp
  obtain ⟨v, hv⟩ : ∃ v, v = ofS xs 0#64 := ⟨_, rfl⟩
  rw [← hv]
  suffices H : ∀ (m i : Nat) (d : BitVec 64), i + m = xs.length → v = ofS (xs.drop i) d → Run _ _ ⟨[(7, .v (.slice p xs.length c)), (8, .v (.int .i64 (xs.length : Int))), (9, .v (.int .i64 (i : Int))), (4, .v (.int .u64 (un d)))], [], 0⟩ by
    exact Run.to (H xs.length 0 0#64 (by omega) hv) ⟨rfl, rfl, rfl, rfl, trivial⟩ trivial
  intro m
  induction m with
  | zero =>
    intro i d hi hd
    rw [List.drop_eq_nil_of_le (by omega)] at hd
    refine RunF_sound tab_ok noX_local 100 [false] _ _ rfl ?_ ?_
    · simp; omega
    refine Run.retL tab_ok Tryd.func46 rfl ?_ (fun M => ?_)
    · simp
    rw [hd]; rfl
  | succ m ih =>
    intro i d hi hd
    have hil : i < xs.length := by omega
    rw [List.drop_eq_getElem_cons hil] at hd
    obtain ⟨hp, hpc⟩ := hs i hil
    generalize xs[i] = z at *
    refine RunF_sound tab_ok noX_local 100 [true] _ _ rfl ?_ ?_
    · simp only [fnC_w0, fnC_S0, Int.toNat_natCast, Nat.mul_one, hpc]
      simp
      (repeat' refine And.intro ?_ ?_) <;> first | omega | exact hp
    simp only [fnC_w0, Int.toNat_natCast, Nat.mul_one, hpc]
    refine Run.callFn (r := .bool (inB z)) noX_local rfl rfl rfl rfl rfl rfl rfl right_enters rfl (fun w' _ => right_ok z w') ?_
    by_cases c0 : inB z = true
    · rw [ofS, if_pos c0] at hd
      have hz : 0 ≤ z ∧ z < 64 := by simpa [inB] using c0
      refine RunF_sound tab_ok noX_local 100 [false] _ _ rfl ?_ ?_
      · simp [c0]; omega
      refine Run.to (ih (i + 1) (d ||| 1#64 <<< z.toNat) (by omega) hd) ⟨rfl, rfl, i64_eq (wrap_succ (by omega)), u64_eq ?_, trivial⟩ trivial
      rw [shl1_un, bor_un]
    · rw [ofS, if_neg c0] at hd
      refine RunF_sound tab_ok noX_local 100 [true] _ _ rfl ?_ ?_
      · simpa using c0
      refine Run.retL tab_ok Tryd.func46 rfl ?_ (fun M => ?_)
      · simp
      rw [hd]; rfl
theorem of_enters : Enters Tryd.prog 46 := enters_mk Tryd.func46 (by decide) rfl
end Go.Proofs.YtpfanhbkjajocaaDoor

/-
  The abstract machine, twenty-sixth part: make([]T, len, cap). Own work; over any program.
-/
namespace Go.AM

theorem run_makeSlice {P : Program} {T : Tab} (hT : tabOK P T) {t e : TypeId} {i : TI} {l c : Nat} (hd : T.desc t = some (.slice e)) (hi : lk T e = some i) (h1 : i.bytes * c ≤ 2 ^ 48) (h2 : l ≤ c) (h3 : c ≤ maxLen) (h0 : 0 < i.size) (w : World) :
    (Instr.makeSlice t (.int .i64 (l : Int)) (.int .i64 (c : Int))).run P w = .ok (.slice (some ⟨w.heap.size, 0, none⟩) l c) (w.alloc (.cells ((Array.range (c * i.size)).map (fun j => i.zero.cells[j % i.zero.cells.size]!)) e)) := by
  have hml : maxLen = 9223372036854775807 := rfl
  have w1 : IntKind.i64.wrap (l : Int) = (l : Int) := by rw [wrap_i64] <;> omega
  have w2 : IntKind.i64.wrap (c : Int) = (c : Int) := by rw [wrap_i64] <;> omega
  obtain ⟨_, x, hx, hs, hb, _⟩ := hT e _ hi
  have hn : ¬ c * i.size = 0 ∨ c = 0 := by
    rcases Nat.eq_zero_or_pos c with h | h
    · exact .inr h
    · exact .inl (Nat.ne_of_gt (Nat.mul_pos h h0))
  have g1 : ¬ ((c : Int) < 0) := by omega
  have g2 : ¬ ((i.bytes : Int) * (c : Int) > 281474976710656) := by
    have : ((i.bytes * c : Nat) : Int) ≤ 281474976710656 := by omega
    push_cast at this; omega
  have g3 : ¬ ((l : Int) < 0) := by omega
  have g4 : ¬ ((l : Int) > (c : Int)) := by omega
  have g : ¬ ((((c : Int) < 0 ∨ 281474976710656 < (i.bytes : Int) * (c : Int)) ∨ (l : Int) < 0) ∨ (c : Int) < (l : Int)) := by
    rintro (((h | h) | h) | h)
    · exact g1 h
    · exact g2 h
    · exact g3 h
    · exact g4 h
  simp only [Instr.makeSlice, Sem.run_bind, tab_und hT hd, Result.andThen_ok, asInt, asIntOf, typeInfo, hx]
  have g' : ¬ ((((c : Int) < 0 ∨ 281474976710656 < (i.bytes : Int) * (c : Int)) ∨ (l : Int) < 0) ∨ c < l) := fun h => g (h.imp id (fun h => by omega))
  simp [w1, w2, hb, tab_size' hT hi, tab_zero hT hi, newRow, typeInfo, hx]
  rw [if_neg g']
  by_cases hz : c * i.size = 0
  · have hr : Array.range 0 = (#[] : Array Nat) := rfl
    rw [if_pos hz, hz, hr, List.map_toArray, List.map_toArray, List.map_nil, List.map_nil]
  · rw [if_neg hz]

section
variable {C : Ctx} {ops : Array Oper} {i : Nat} {rest : List Nat} {k : List Item} {σ : St} {o : Oper} {T : Tab} {t e : TypeId} {x y : Operand} {ti : TI} {l c : Nat}

/-- A slice is made. -/
theorem Run.mkSlice (hT : tabOK C.P T) (hL : Local C.X) (ho : ops[i]? = some o) (hop : o.op = .makeSlice t x y) (hx : σ.ev x = some (.v (.int .i64 (l : Int)))) (hy : σ.ev y = some (.v (.int .i64 (c : Int)))) (hw : wantOf ops σ o = some .yes) (hd : dstOK C.n o.dst = true)
    (hb : σ.bel = true) (hds : T.desc t = some (.slice e)) (hi : lk T e = some ti) (h1 : ti.bytes * c ≤ 2 ^ 48) (h2 : l ≤ c) (h3 : c ≤ maxLen) (h0 : 0 < ti.size) (h4 : ti.zero.cells.size = ti.size)
    (h : Run C (.inRegion ops rest :: k) (St.put ⟨σ.t, (σ.nx, .row e ti.size l (repL l ti.zero.cells.toList)) :: σ.h, σ.nx + 1⟩ o.dst (.sl σ.nx ti.size 0 l))) : Run C (.inRegion ops (i :: rest) :: k) σ := by
  intro M fp a w hR cs
  have ex := hR.q.ev hx
  have ey := hR.q.ev hy
  simp only [conc] at ex ey
  have hrun : (execOp a.eval o).run C.P w = .ok (.value (.slice (some ⟨w.heap.size, 0, none⟩) l c)) (w.alloc (.cells ((Array.range (c * ti.size)).map (fun j => ti.zero.cells[j % ti.zero.cells.size]!)) e)) := by
    simp [execOp, hop, ex, ey, run_makeSlice hT hds hi h1 h2 h3 h0 w]
  have hz : ((Array.range (c * ti.size)).map (fun j => ti.zero.cells[j % ti.zero.cells.size]!)).toList = repL c ti.zero.cells.toList := by
    rw [← h4]; exact zeros_eq _ _
  have hzl : (repL c ti.zero.cells.toList).length = c * ti.size := by rw [repL_length, Array.length_toList, h4]
  have htk : ∀ l c : Nat, l ≤ c → (repL c ti.zero.cells.toList).take (l * ti.size) = repL l ti.zero.cells.toList := by
    intro l c
    induction l generalizing c with
    | zero => intro _; simp [repL]
    | succ l ih =>
      intro hlc
      obtain ⟨c, rfl⟩ : ∃ c', c = c' + 1 := ⟨c - 1, by omega⟩
      simp only [repL]
      rw [List.take_append, List.take_of_length_le (by rw [Array.length_toList, h4, Nat.succ_mul]; omega), Array.length_toList, h4, show (l + 1) * ti.size - ti.size = l * ti.size by rw [Nat.succ_mul]; omega, ih c (by omega)]
  have hR' := newBlk hL hR hb (cap := c) (cs := (Array.range (c * ti.size)).map (fun j => ti.zero.cells[j % ti.zero.cells.size]!)) (e := e) (B := .row e ti.size l (repL l ti.zero.cells.toList))
    ⟨by rw [repL_length, Array.length_toList, h4], (Array.range (c * ti.size)).map (fun j => ti.zero.cells[j % ti.zero.cells.size]!), by simp only [updM, if_true]; exact heap_alloc_new _ _, by simpa [updM] using h2, by simpa [updM] using h3, by
      simp [updM], by rw [hz, htk l c h2]⟩
  obtain ⟨m, s, z⟩ := h _ fp _ _ (hR'.put (z := .sl σ.nx ti.size 0 l) (dstOK_lt hd)) cs
  refine ⟨m, .head (step_value ho (wantOf_yes hR.q hw) (fun c e => by rw [hop] at e; cases e) ?_) s, z⟩
  rw [hrun]
  simp [conc, updM]
end
end Go.AM

/-
  List walked. Own work.
-/
namespace Go.Proofs.YtpfanhbkjajocaaDoor
open Go.AM
set_option maxRecDepth 100000

/-- What lies in List's blocks. -/
def liB (l : List Int) : List (Nat × Blk) := [(1, .cells 37 [.one (.sl 0 1 0 l.length)]), (0, .row 3 1 l.length (encI l))]

theorem listS_ok (x : BitVec 64) (w : World) (hT : TabAt w) (h0 : 0 < w.heap.size) : HandsZ Tryd.prog 48 [.int .u64 (un x)] w (.sl 9 1 0 (listL x).length) [(9, .row 3 1 (listL x).length (encI (listL x)))] := by
  refine HandsZ.of_run Tryd.func48 rfl (by show 1 ≤ 16; decide) ?_
  have hl64 := listL_le x
  rw [listL_len] at hl64
  refine RunF_sound tab_ok noX_local 100 [] _ _ rfl ?_ ?_
  · simp
  refine Run.callFn (r := .int .i64 ((bitsL x).length : Int)) noX_local rfl rfl rfl rfl rfl rfl rfl size_enters rfl (fun w' _ => size_ok x w') ?_
  refine Run.mkSlice (l := 0) (c := (bitsL x).length) tab_ok noX_local rfl rfl rfl rfl rfl rfl rfl rfl rfl ?_ (by omega) ?_ (by decide) (by decide) ?_
  · show 8 * (bitsL x).length ≤ 281474976710656
    omega
  · show (bitsL x).length ≤ 9223372036854775807
    omega
  refine RunF_sound tab_ok noX_local 100 [] _ _ rfl ?_ ?_
  · simp [okCell, argsT.ofConst', ofConst, Value.oneCell']
  refine Run.callR noX_local rfl rfl rfl rfl rfl rfl each_enters rfl (fun M w' _ _ => each_ok x w') ?_
  rintro v w2 w1 S1 hag hag2 ⟨bb, rfl, hbl, hW⟩ hS1
  have hB1 := (Based.refl w).call hag hag2 hS1
  have hbw1 : bb < w1.heap.size := World.block_lt_of_cell? w1 _ hW
  have hS1b : ¬ S1 bb := hS1.new bb hbl
  have hS10 : ¬ S1 0 := fun h => by have := hB1.new 0 h; omega
  have hT1 : TabAt w1 := hT.agree hB1.agree (fun f => f)
  have hw1 : 0 < w1.heap.size := by have := hB1.agree.size; omega
  have hit := each_iter x bb w1 hW hT1
  have hli : listL x = (bitsL x).map fun k : Nat => (k : Int) := rfl
  rw [hli]
  generalize bitsL x = E at hit hl64
  refine ⟨.fn 63 [.v (.pointer (some ⟨bb, 0, none⟩))], fun M => rfl, ?_⟩
  refine RunF_sound tab_ok noX_local 100 [] _ _ rfl ?_ ?_
  · simp
  refine Run.rangeFn noX_local rfl rfl (fun M => rfl) eachIt_enters 4 [(3, .ptr 1 0)] ⟨rfl, trivial⟩ rfl rfl hit
    (fun j hj => by rcases hj with rfl | rfl; exact ⟨hw1, hS10⟩; exact ⟨hbw1, hS1b⟩) (fun z hz => by simp only [encNs, List.mem_map] at hz; obtain ⟨e, _, rfl⟩ := hz; rfl)
    (fun pre h => ∃ j, j ≤ E.length ∧ pre = encNs (E.take j) ∧ h = liB ((E.take j).map fun k : Nat => (k : Int)))
    (fun _ _ _ => False) 12 (liB []) ⟨0, by omega, rfl, by simp⟩ ⟨rfl, rfl, trivial⟩ ?_ ?_ ?_
  · rintro D l a0 rc wy fpy pre z h hI hpx ⟨j, hj, rfl, rfl⟩
    obtain ⟨hlt, rfl⟩ := encNs_next hj hpx
    refine RunF_sound tab_ok (roundX_local hI.loc l rc .ready) 100 [] _ _ rfl ?_ ?_
    · simp
    refine Run.beginRound hI.loc hI.lw ?_
    have hlen : ((E.take j).map fun k : Nat => (k : Int)).length = j := by simp; omega
    have he : ((E.take (j + 1)).map fun k : Nat => (k : Int)) = ((E.take j).map fun k : Nat => (k : Int)) ++ [(E[j] : Int)] := by
      rw [List.take_succ_eq_append_getElem hlt, List.map_append]; rfl
    have hin : ∃ j', j' ≤ E.length ∧ encNs (E.take j) ++ [[Value.int .i64 (E[j] : Int)]] = encNs (E.take j') ∧ liB (((E.take j).map fun k : Nat => (k : Int)) ++ [(E[j] : Int)]) = liB ((E.take j').map fun k : Nat => (k : Int)) := ⟨j + 1, by omega, encNs_succ hlt, by rw [he]⟩
    generalize (E.take j).map (fun k : Nat => (k : Int)) = m at *
    generalize (E[j] : Int) = y at *
    refine RunF_sound tab_ok (roundX_local hI.loc l rc .busy) 100 [] _ _ rfl ?_ ?_
    · simp [okCell, fillL, Value.cells, splice, repL, maxLen, Value.oneCell', ofConst]
      omega
    refine Run.roundEnd hI [(0, 13)] (liB (m ++ [y])) hin ⟨rfl, trivial⟩ ⟨?_, ?_, trivial⟩ rfl
    · refine congrArg (fun n => some (Blk.cells 37 [.one (.sl 13 1 0 n)])) ?_
      simp
    · have e2 : (m ++ [y]).length = m.length + 1 := by simp
      show _ = some (Blk.row 3 1 (m ++ [y]).length (encI (m ++ [y])))
      rw [e2, ← encI_app m m.length rfl]; rfl
  · rintro D h ⟨j, hj, hx, rfl⟩
    have hje := encNs_all hj hx
    subst hje
    rw [List.take_length]
    refine RunF_sound tab_ok (markX_local noX_local D) 100 [] _ _ rfl ?_ ?_
    · simp
    refine Run.retHB (Ds := [D]) tab_ok noX_local [(9, 0)] hB1 Tryd.func48 rfl ?_ rfl ⟨rfl, trivial⟩ rfl
    simp
  · rintro D pre c h hpre h
    exact h.elim
theorem listS_enters : Enters Tryd.prog 48 := enters_mk Tryd.func48 (by decide) rfl
end Go.Proofs.YtpfanhbkjajocaaDoor

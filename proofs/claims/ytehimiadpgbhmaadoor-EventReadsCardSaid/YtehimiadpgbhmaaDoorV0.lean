/-
  Relations by rows and by tests of their pairs: plain laws, taken over from the texts of layer 2. Own work.
-/
import Derived.Test.YtehimiadpgbhmaaDoorR1
import Derived.Test.YtehimiadpgbhmaaDoorAM19
import Derived.Test.YtehimiadpgbhmaaDoorLBITS
namespace Go.AM
namespace Rl
/-- A relation by its rows. -/
def by_ (n : Int) (f : Nat → BitVec 64) : Rl := ⟨n, Vector.ofFn fun i => f i.1⟩

theorem row_by (n : Int) (f : Nat → BitVec 64) (i : Nat) : (by_ n f).row i = if i < 64 then f i else 0#64 := by
  unfold row by_
  split
  · simp
  · rfl

theorem n_by (n : Int) (f : Nat → BitVec 64) : (by_ n f).n = n := rfl

theorem by_congr {n : Int} {f g : Nat → BitVec 64} (h : ∀ i, i < 64 → f i = g i) : by_ n f = by_ n g := by
  refine ext' rfl fun i hi => ?_
  rw [row_by, row_by, if_pos hi, if_pos hi, h i hi]

theorem set_by (n : Int) (f : Nat → BitVec 64) (i : Nat) (x : BitVec 64) : (by_ n f).setRow i x = by_ n (fun j => if i = j then x else f j) := by
  refine ext' (by rw [n_setRow]; rfl) fun j hj => ?_
  rw [row_setRow, row_by, row_by, if_pos hj, if_pos hj]
  by_cases h : i = j
  · subst h; simp [hj]
  · simp [h]

theorem void_by (n : Int) : void n = by_ n (fun _ => 0#64) := by
  refine ext' rfl fun i _ => ?_
  rw [row_void, row_by]; split <;> rfl

end Rl

theorem bit_iff (x : BitVec 64) (k : Nat) : (x >>> k &&& 1#64) = 1#64 ↔ x.getLsbD k = true := by
  constructor
  · intro h
    have := congrArg (fun y => BitVec.getLsbD y 0) h
    simpa using this
  · intro h
    apply BitVec.eq_of_getLsbD_eq
    intro i hi
    simp only [BitVec.getLsbD_and, BitVec.getLsbD_ushiftRight, BitVec.getLsbD_one]
    by_cases h0 : i = 0
    · subst h0; simp [h]
    · simp [h0]

theorem relV_one' (r : Rl) : (∀ c ∈ relV r, c.oneCell' = true) ↔ True := iff_true_intro (relV_one r)

/-- The word whose bits are a test's. -/
def bitsB (f : Nat → Bool) : BitVec 64 := (List.range 64).foldl (fun x i => if f i then x ||| 1#64 <<< i else x) 0#64

theorem one_shl_get (k j : Nat) (hk : k < 64) : (1#64 <<< k).getLsbD j = decide (j = k) := by
  rw [BitVec.getLsbD_shiftLeft, BitVec.getLsbD_one]
  by_cases h : j = k
  · subst h; simp [hk]
  · by_cases h1 : j < k
    · simp [h1, h]
    · have : ¬ j - k = 0 := by omega
      simp [this, h]

theorem bitsB_fold (f : Nat → Bool) : ∀ (l : List Nat) (x : BitVec 64) (j : Nat), (∀ i ∈ l, i < 64) →
    (l.foldl (fun x i => if f i then x ||| 1#64 <<< i else x) x).getLsbD j = (x.getLsbD j || (decide (j ∈ l) && f j))
  | [], x, j, _ => by simp
  | i :: l, x, j, h => by
    rw [List.foldl_cons, bitsB_fold f l _ j (fun i hi => h i (List.mem_cons_of_mem _ hi))]
    have hi := h i (List.mem_cons_self ..)
    by_cases hf : f i = true
    · rw [if_pos hf, BitVec.getLsbD_or, one_shl_get i j hi]
      by_cases hj : j = i
      · subst hj; simp [hf]
      · simp [hj]
    · rw [if_neg hf]
      by_cases hj : j = i
      · subst hj
        have : f j = false := by simpa using hf
        simp [this]
      · simp [hj]

theorem bitsB_get (f : Nat → Bool) (j : Nat) : (bitsB f).getLsbD j = (decide (j < 64) && f j) := by
  unfold bitsB
  rw [bitsB_fold f _ _ j (fun i hi => List.mem_range.1 hi)]
  simp

namespace Rl
/-- The relation over n numbers in which those pairs stand that pass a test. -/
def gen (n : Int) (q : Nat → Nat → Bool) : Rl := by_ n fun i => bitsB (q i)

theorem n_gen (n : Int) (q : Nat → Nat → Bool) : (gen n q).n = n := rfl

theorem has_gen (n : Int) (q : Nat → Nat → Bool) (a b : Nat) : (gen n q).has a b = (decide (a < 64 ∧ b < 64) && q a b) := by
  unfold has gen
  rw [row_by]
  by_cases ha : a < 64
  · rw [if_pos ha, bitsB_get]; simp [ha]
  · rw [if_neg ha]; simp [ha]

theorem gen_congr {n : Int} {q q' : Nat → Nat → Bool} (h : ∀ a b, a < 64 → b < 64 → q a b = q' a b) : gen n q = gen n q' :=
  ext_has rfl fun a b ha hb => by rw [has_gen, has_gen, h a b ha hb]

theorem has_lt (r : Rl) {a b : Nat} (h : r.has a b = true) : a < 64 ∧ b < 64 := by
  constructor
  · rcases Nat.lt_or_ge a 64 with h1 | h1
    · exact h1
    · rw [has, row_ge _ h1] at h; simp at h
  · rcases Nat.lt_or_ge b 64 with h1 | h1
    · exact h1
    · rw [has, BitVec.getLsbD_of_ge _ _ h1] at h; cases h

theorem gen_void (n : Int) : void n = gen n fun _ _ => false := by
  apply ext_has
  · rfl
  · intro a b _ _
    rw [has_gen, has, row_void]; simp

theorem gen_add (n : Int) (q : Nat → Nat → Bool) (a b : Nat) (ha : a < 64) (hb : b < 64) :
    (gen n q).setRow a ((gen n q).row a ||| 1#64 <<< b) = gen n fun x y => q x y || (decide (x = a) && decide (y = b)) := by
  refine ext_has (n_setRow _ _ _) fun x y hx hy => ?_
  rw [has_gen, has, row_setRow]
  by_cases h : a = x
  · subst h
    rw [if_pos ⟨rfl, ha⟩, BitVec.getLsbD_or, one_shl_get b y hb]
    have : ((gen n q).row a).getLsbD y = (gen n q).has a y := rfl
    rw [this, has_gen]
    simp [ha, hy]
  · rw [if_neg (by simp [h])]
    have : ((gen n q).row x).getLsbD y = (gen n q).has x y := rfl
    rw [this, has_gen]
    simp [hx, hy, Ne.symm h]

theorem has_setRow (r : Rl) (a : Nat) (w : BitVec 64) (x y : Nat) : (r.setRow a w).has x y = if a = x ∧ a < 64 then w.getLsbD y else r.has x y := by
  rw [has, row_setRow]; split <;> rfl

/-- Those pairs of a test that have been looked at: all of the rows below a, of row a those below b. -/
def seen (p : Nat → Nat → Bool) (a b : Nat) : Nat → Nat → Bool := fun x y => p x y && (decide (x < a) || (decide (x = a) && decide (y < b)))

theorem seen_yes {n : Int} {p : Nat → Nat → Bool} {a b : Nat} (ha : a < 64) (hb : b < 64) (h : p a b = true) :
    (gen n (seen p a b)).setRow a ((gen n (seen p a b)).row a ||| 1#64 <<< b) = gen n (seen p a (b + 1)) := by
  rw [gen_add _ _ _ _ ha hb]
  refine gen_congr fun x y _ _ => ?_
  unfold seen
  by_cases hx : x = a
  · subst hx
    by_cases hy : y = b
    · subst hy; simp [h]
    · have e : decide (y < b + 1) = decide (y < b) := decide_eq_decide.2 (by omega)
      simp [hy, e]
  · simp [hx]

theorem seen_no {n : Int} {p : Nat → Nat → Bool} {a b : Nat} (h : p a b = false) : gen n (seen p a b) = gen n (seen p a (b + 1)) := by
  refine gen_congr fun x y _ _ => ?_
  unfold seen
  by_cases hx : x = a
  · subst hx
    by_cases hy : y = b
    · subst hy; simp [h]
    · have e : decide (y < b + 1) = decide (y < b) := decide_eq_decide.2 (by omega)
      simp [e]
  · simp [hx]

theorem seen_row {n : Int} {p : Nat → Nat → Bool} {a b : Nat} (hp : ∀ x y, p x y = true → y < b) : gen n (seen p a b) = gen n (seen p (a + 1) 0) := by
  refine gen_congr fun x y _ _ => ?_
  unfold seen
  cases hxy : p x y with
  | false => simp
  | true =>
    have := hp x y hxy
    rw [Bool.eq_iff_iff]
    simp
    omega

theorem seen_0 (n : Int) (p : Nat → Nat → Bool) : gen n (seen p 0 0) = void n := by
  rw [gen_void]
  refine gen_congr fun x y _ _ => ?_
  unfold seen; simp

theorem seen_all {n : Int} {p : Nat → Nat → Bool} {a : Nat} (hp : ∀ x y, p x y = true → x < a) : gen n (seen p a 0) = gen n p := by
  refine gen_congr fun x y _ _ => ?_
  unfold seen
  cases hxy : p x y with
  | false => simp
  | true => have := hp x y hxy; simp [this]

end Rl
end Go.AM
namespace Go.Proofs.YtehimiadpgbhmaaDoor
open Go.AM
set_option maxRecDepth 100000

@[simp] theorem zrel : z32 = relV (Rl.void 0) := rfl
@[simp] theorem sz_int : tab.size 3 = some 1 := rfl
@[simp] theorem sz_rows : tab.size 30 = some 64 := rfl
@[simp] theorem splice_void (n : Int) : splice (relV (Rl.void 0)) 0 [.int .i64 n] = relV (Rl.void n) := rfl
/-- May a pair stand in a relation? -/
def okBit (r : Rl) (a b : Nat) : Prop := ¬ (r.has a b = true ∧ ((a : Int) ≥ r.n ∨ (b : Int) ≥ r.n))

theorem good_iff (r : Rl) (a : Nat) (h0 : 0 ≤ r.n) : good r a = true ↔ ∀ b, b < 64 → okBit r a b := by
  unfold good okBit Rl.has
  constructor
  · intro h b hb hbad
    simp only [Bool.not_eq_true', Bool.or_eq_false_iff, Bool.and_eq_false_iff, decide_eq_false_iff_not, bne_eq_false_iff_eq] at h
    obtain ⟨h1, h2⟩ := h
    rcases hbad.2 with h3 | h3
    · rcases h1 with h4 | h4
      · exact h4 h3
      · rw [h4] at hbad; simp at hbad
    · have := congrArg (fun x => BitVec.getLsbD x b) h2
      simp only [BitVec.getLsbD_and, BitVec.getLsbD_not, hbad.1, mask_get _ _ h0, BitVec.getLsbD_zero] at this
      simp at this
      omega
  · intro h
    simp only [Bool.not_eq_true', Bool.or_eq_false_iff, Bool.and_eq_false_iff, decide_eq_false_iff_not, bne_eq_false_iff_eq]
    constructor
    · by_cases c : (a : Int) ≥ r.n
      · right
        apply BitVec.eq_of_getLsbD_eq
        intro b hb
        have := h b hb
        rw [BitVec.getLsbD_zero]
        cases hh : (r.row a).getLsbD b
        · rfl
        · exact absurd ⟨hh, .inl c⟩ this
      · exact .inl c
    · apply BitVec.eq_of_getLsbD_eq
      intro b hb
      rw [BitVec.getLsbD_zero, BitVec.getLsbD_and, BitVec.getLsbD_not, mask_get _ _ h0]
      cases hh : (r.row a).getLsbD b
      · rfl
      · have := h b hb
        have h3 : (b : Int) < r.n := by
          rcases Int.lt_or_le (b : Int) r.n with h3 | h3
          · exact h3
          · exact absurd ⟨hh, .inr h3⟩ this
        simp [hb, h3]

open Classical in
/-- The relation, if it is right. -/
noncomputable def rightL (r : Rl) : Rl := if checkI r = 0 then r else Rl.void 0

theorem right_ok (r : Rl) (w : World) : Gives Tryd.prog 46 [encRel r] w (encRel (rightL r)) := by
  refine Gives.of_run Tryd.func46 rfl (by show 1 ≤ 8; decide) ?_
  refine RunF_sound tab_ok noX_local 100 [] _ _ rfl ?_ ?_
  · simp [fillL, Value.cells, segsVals, relV_one']
  refine Run.callFn noX_local rfl rfl rfl rfl rfl rfl rfl check_enters rfl (fun w' _ => check_ok r w') ?_
  by_cases h : checkI r = 0
  · refine RunF_sound tab_ok noX_local 100 [false] _ _ rfl ?_ ?_
    · simp [h, fillL, Value.cells, segsVals, relV_one']
    · refine Run.retP tab_ok Tryd.func46 rfl ?_ (fun M => ?_)
      · simp [fillL, Value.cells]
      rw [rightL, if_pos h]; rfl
  · refine RunF_sound tab_ok noX_local 100 [true] _ _ rfl ?_ ?_
    · simp [h, fillL, Value.cells, segsVals, relV_one']
    · refine Run.retP tab_ok Tryd.func46 rfl ?_ (fun M => ?_)
      · simp [fillL, Value.cells]
      rw [rightL, if_neg h]; rfl

theorem right_enters : Enters Tryd.prog 46 := enters_mk Tryd.func46 (by decide) rfl

/-- A right relation's bounds. -/
theorem rightL_n (r : Rl) : 0 ≤ (rightL r).n ∧ (rightL r).n ≤ 64 := by
  unfold rightL
  split
  · rename_i h
    unfold checkI at h
    split at h
    · cases h
    · omega
  · simp [Rl.void]

theorem good_void : ∀ i, i < 64 → good (Rl.void 0) i = true := by
  intro i _
  unfold good
  rw [Rl.row_void]
  simp

theorem rightL_good (r : Rl) : ∀ i, i < 64 → good (rightL r) i = true := by
  unfold rightL
  split
  · rename_i h
    unfold checkI at h
    split at h
    · cases h
    · split at h
      · rename_i h2; exact h2
      · cases h
  · exact good_void

theorem checkI_right (r : Rl) : checkI (rightL r) = 0 := by
  have h := rightL_n r
  unfold checkI
  rw [if_neg (by omega), if_pos (rightL_good r)]

theorem rightL_of (r : Rl) (h : checkI r = 0) : rightL r = r := by unfold rightL; rw [if_pos h]

theorem rightL_idem (r : Rl) : rightL (rightL r) = rightL r := rightL_of _ (checkI_right r)

/-- Where a right relation's pairs are. -/
theorem right_has (r : Rl) (a b : Nat) (h : (rightL r).has a b = true) : (a : Int) < (rightL r).n ∧ (b : Int) < (rightL r).n := by
  have hn := rightL_n r
  have ha : a < 64 := by
    rcases Nat.lt_or_ge a 64 with h1 | h1
    · exact h1
    · rw [Rl.has, Rl.row_ge _ h1] at h; simp at h
  have hb : b < 64 := by
    rcases Nat.lt_or_ge b 64 with h1 | h1
    · exact h1
    · rw [Rl.has, BitVec.getLsbD_of_ge _ _ h1] at h; cases h
  have := (good_iff (rightL r) a hn.1).1 (rightL_good r a ha) b hb
  unfold okBit at this
  by_cases h1 : (a : Int) < (rightL r).n
  · by_cases h2 : (b : Int) < (rightL r).n
    · exact ⟨h1, h2⟩
    · exact absurd ⟨h, .inr (by omega)⟩ this
  · exact absurd ⟨h, .inl (by omega)⟩ this

theorem right_row0 (r : Rl) (i : Nat) (h : (rightL r).n ≤ (i : Int)) : (rightL r).row i = 0#64 := by
  apply BitVec.eq_of_getLsbD_eq
  intro j _
  rw [BitVec.getLsbD_zero]
  cases hb : ((rightL r).row i).getLsbD j with
  | false => rfl
  | true => have := right_has r i j hb; omega

theorem relV_tail_one (r : Rl) : (∀ c ∈ (relV r).tail, c.oneCell' = true) ↔ True := iff_true_intro fun c hc => relV_one r c (List.mem_of_mem_tail hc)

theorem by_row (r : Rl) : Rl.by_ r.n r.row = r := by
  apply Rl.ext'
  · exact Rl.n_by _ _
  · intro i hi
    rw [Rl.row_by, if_pos hi]

def notP (r : Rl) (k : Nat) : Rl := Rl.by_ r.n fun i => if i < k then mask r.n &&& ~~~(r.row i) else r.row i

theorem n_notP (r : Rl) (k : Nat) : (notP r k).n = r.n := Rl.n_by _ _

theorem notP_0 (r : Rl) : notP r 0 = r := by
  unfold notP
  conv => rhs; rw [← by_row r]
  exact Rl.by_congr fun i _ => by simp

theorem notP_row (r : Rl) (k : Nat) (hk : k < 64) : (notP r k).row k = r.row k := by
  rw [notP, Rl.row_by, if_pos hk, if_neg (by omega)]

theorem notP_step (r : Rl) (k : Nat) : (notP r k).setRow k (mask r.n &&& ~~~(r.row k)) = notP r (k + 1) := by
  unfold notP
  rw [Rl.set_by]
  refine Rl.by_congr fun i _ => ?_
  by_cases h : k = i
  · subst h; simp
  · rw [if_neg h]
    have : (i < k) ↔ (i < k + 1) := by omega
    simp only [this]

noncomputable def notL (r : Rl) : Rl := notP (rightL r) (rightL r).n.toNat

theorem not_ok (r : Rl) (w : World) : Gives Tryd.prog 41 [encRel r] w (encRel (notL r)) := by
  refine Gives.of_run Tryd.func41 rfl (by show 1 ≤ 24; decide) ?_
  refine RunF_sound tab_ok noX_local 100 [] _ _ rfl ?_ ?_
  · simp [segsVals, relV_one']
  refine Run.callFn noX_local rfl rfl rfl rfl rfl rfl rfl right_enters rfl (fun w' _ => right_ok r w') ?_
  have hn := rightL_n r
  unfold notL
  generalize rightL r = R at hn
  refine RunF_sound tab_ok noX_local 100 [] _ _ rfl ?_ ?_
  · simp [fillL, Value.cells, segsVals, relV_one', splice]
  suffices H : ∀ (d k : Nat), (k : Int) + d = R.n → ∀ σ, inT σ.t [(1, .ptr 0 0), (2, .ptr 1 0), (7, .v (.int .i64 R.n)), (8, .v (.int .i64 (k : Int)))] →
      inT σ.h [(0, .cells 32 [.vals 65 (relV (notP R k))]), (1, .cells 32 [.vals 65 (relV (Rl.void 0))])] → Run _ _ σ by
    refine H R.n.toNat 0 (by omega) _ ⟨rfl, rfl, ?_, rfl, trivial⟩ ⟨?_, rfl, trivial⟩
    · simp [splice, lk]
    · rw [notP_0]; simp [splice, lk]
  intro d
  induction d with
  | zero =>
    intro k hk σ ht hh
    refine Run.to ?_ ht hh (n' := 2)
    refine RunF_sound tab_ok noX_local 100 [false] _ _ rfl ?_ ?_
    · simp [relV_one', segsVals]; omega
    · refine Run.retP tab_ok Tryd.func41 rfl ?_ (fun M => ?_)
      · simp
      have : R.n.toNat = k := by omega
      rw [this]; rfl
  | succ d ih =>
    intro k hk σ ht hh
    refine Run.to ?_ ht hh (n' := 2)
    have hk' : k < 64 := by omega
    refine RunF_sound tab_ok noX_local 100 [true] _ _ rfl ?_ ?_
    · simp; omega
    refine Run.drawA noX_local rfl [] [(0, .cells 32 [.vals 65 (relV (notP R k))])] rfl rfl ⟨rfl, trivial⟩ ?_
    refine RunOF_sound tab_ok noX_local rfl rfl 100 [] _ _ rfl ?_ ?_
    · simp [relV_get _ _ hk', intAt_row _ _ hk', okCell, Value.oneCell', inT]; omega
    refine RunO.callFn (r := .int .u64 (un (mask R.n))) noX_local rfl rfl rfl rfl rfl rfl rfl rfl whole_enters rfl (fun w' _ => ?_) ?_
    · simp only [Nat.add_zero, Nat.sub_zero, intAt_0, n_notP]
      exact whole_ok R.n w' hn.1
    refine RunOF_sound tab_ok noX_local rfl rfl 2 [] _ _ rfl ?_ ?_
    · simp; omega
    refine RunO.effLast tab_ok noX_local rfl rfl rfl rfl ?_ (fun e => by cases e) rfl ?_
    · simp [okCell, Value.oneCell']; omega
    refine RunF_sound tab_ok noX_local 100 [] _ _ rfl ?_ ?_
    · simp
    refine ih (k + 1) (by omega) _ ⟨rfl, rfl, rfl, i64_eq (wrap_succ (by omega)), trivial⟩ ⟨congrArg (fun l => some (Blk.cells 32 [.vals 65 l])) ?_, rfl, trivial⟩
    have e1 : intAt (relV (notP R k)) (1 + k) = un (R.row k) := by rw [intAt_row _ _ hk', notP_row R k hk']
    simp [e1, relV_set _ _ hk', notP_step]

theorem not_enters : Enters Tryd.prog 41 := enters_mk Tryd.func41 (by decide) rfl

def pNot (R : Rl) (x y : Nat) : Bool := decide ((x : Int) < R.n ∧ (y : Int) < R.n) && !R.has x y

theorem has_row (r : Rl) (a b : Nat) : (r.row a).getLsbD b = r.has a b := rfl

theorem row0_of {R : Rl} (hR : rightL R = R) {i : Nat} (h : R.n ≤ (i : Int)) : R.row i = 0#64 := by
  have := right_row0 R i (by rw [hR]; exact h)
  rwa [hR] at this

theorem not_eq (r : Rl) : notL r = Rl.gen (rightL r).n (pNot (rightL r)) := by
  have hn := rightL_n r
  have hR := rightL_idem r
  unfold notL
  generalize rightL r = R at hn hR
  apply Rl.ext_has
  · rw [n_notP, Rl.n_gen]
  · intro x y hx hy
    rw [Rl.has_gen, decide_eq_true ⟨hx, hy⟩, Bool.true_and]
    show ((notP R R.n.toNat).row x).getLsbD y = _
    unfold notP pNot
    rw [Rl.row_by, if_pos hx]
    by_cases hlt : x < R.n.toNat
    · rw [if_pos hlt, BitVec.getLsbD_and, BitVec.getLsbD_not, mask_get _ _ hn.1, decide_eq_true hy, Bool.true_and, has_row]
      congr 1
      apply decide_eq_decide.2; omega
    · rw [if_neg hlt, row0_of hR (by omega), BitVec.getLsbD_zero, decide_eq_false (by omega), Bool.false_and]

theorem eqRow (r s : Rl) (w : World) : ∀ (is : List Nat), (∀ i ∈ is, i < 64) → ∃ b : Bool, (Op.eqItems 9998 29 1 (rowV r).toArray (rowV s).toArray is).run Tryd.prog w = .ok b w ∧ (b = true ↔ ∀ i ∈ is, r.row i = s.row i)
  | [], _ => ⟨true, by simp [Op.eqItems], by simp⟩
  | i :: is, h => by
    have hi : i < 64 := h i (by simp)
    have hu := tab_undP tab_ok (t := 29) (d := .int .u64) rfl
    have p : ∀ r : Rl, (part 29 (rowV r).toArray i).run Tryd.prog w = .ok (.int .u64 (un (r.row i))) w := fun r => by
      have := part_run tab_ok (P := Tryd.prog) (t := 29) (vs := (rowV r).toArray) (j := i) (p := _) (x := _) rfl (by rw [rowV_get r i hi, intAt_rowV r i hi]) w
      rw [this, intAt_rowV r i hi]
    have he : ∀ x y : Int, (Op.equalIn 9998 29 (.int .u64 x) (.int .u64 y)).run Tryd.prog w = .ok (x == y) w := fun x y => run_equalIn_int w 9997 _ _ _ _ _ hu
    obtain ⟨b, ih, hb⟩ := eqRow r s w is (fun j hj => h j (by simp [hj]))
    by_cases c : r.row i = s.row i
    · exact ⟨b, by simp [Op.eqItems, p, he, c, ih], by simp [hb, c]⟩
    · exact ⟨false, by simp [Op.eqItems, p, he, c], by simp [c]⟩

theorem eqRows (r s : Rl) (w : World) : ∃ b : Bool, (Op.equalIn 9999 30 (.agg (rowV r).toArray) (.agg (rowV s).toArray)).run Tryd.prog w = .ok b w ∧ (b = true ↔ ∀ i, i < 64 → r.row i = s.row i) := by
  have ha := tab_undP tab_ok (t := 30) (d := .array 64 29) rfl
  obtain ⟨i, hinfo⟩ : ∃ i, Tryd.prog.info? 29 = some i := by
    obtain ⟨_, x, hx, _⟩ := tab_ok 29 _ (rfl : lk tab 29 = some _)
    exact ⟨x, hx⟩
  have hc : Tryd.prog.cellsOf 29 = 1 := by kernel_rfl
  obtain ⟨b, hb, hb'⟩ := eqRow r s w (List.range 64) (fun i hi => List.mem_range.1 hi)
  refine ⟨b, ?_, hb'.trans ⟨fun h i hi => h i (List.mem_range.2 hi), fun h i hi => h i (List.mem_range.1 hi)⟩⟩
  rw [run_equalIn_array w 9998 _ _ ha hinfo, hc]
  exact hb

theorem relP0 (r : Rl) (w : World) : (part 3 (relV r).toArray 0).run Tryd.prog w = .ok (.int .i64 r.n) w :=
  part_run tab_ok (t := 3) (vs := (relV r).toArray) (j := 0) (p := _) (x := .int .i64 r.n) rfl (by simp) w

theorem relP1 (r : Rl) (w : World) : (part 30 (relV r).toArray 1).run Tryd.prog w = .ok (.agg (rowV r).toArray) w := by
  have := part_run tab_ok (P := Tryd.prog) (t := 30) (vs := (relV r).toArray) (j := 1) (p := _) (x := _) rfl (by simp) w
  simp only [relV_drop] at this
  exact this

theorem eqFields_cons {P : Program} {d : Nat} {xs ys : Array Value} {f : Field} {fs : List Field} {a b : Value} {r r' : Bool} {w : World} (hn : f.name ≠ "_") (ha : (part f.type xs f.offset).run P w = .ok a w) (hb : (part f.type ys f.offset).run P w = .ok b w)
    (hr : (Op.equalIn d f.type a b).run P w = .ok r w) (h : r = true → (Op.eqFields d xs ys fs).run P w = .ok r' w) : (Op.eqFields d xs ys (f :: fs)).run P w = .ok (r && r') w := by
  cases r
  · simp [Op.eqFields, hn, ha, hb, hr]
  · simp [Op.eqFields, hn, ha, hb, hr, h rfl]

theorem eqRel (r s : Rl) : EqT Tryd.prog 32 (relV r).toArray (relV s).toArray (decide (r = s)) := by
  refine ⟨by kernel_rfl, fun w => ?_⟩
  have hu := tab_undP tab_ok (t := 32) (d := .struct #[{ name := "N", type := 3, offset := 0, embedded := false, tag := "", pkgPath := "", byteOffset := 0 }, { name := "Rows", type := 30, offset := 1, embedded := false, tag := "", pkgPath := "", byteOffset := 8 }]) rfl
  have hf : Tryd.prog.fieldsOf 32 = #[{ name := "N", type := 3, offset := 0, embedded := false, tag := "", pkgPath := "", byteOffset := 0 }, { name := "Rows", type := 30, offset := 1, embedded := false, tag := "", pkgPath := "", byteOffset := 8 }] := by simp [Program.fieldsOf, hu]
  rw [run_equalIn_struct w 9999 _ _ _ (by rw [hf]; exact hu) (by kernel_rfl), hf]
  have hi := tab_undP tab_ok (t := 3) (d := .int .i64) rfl
  have he : (Op.equalIn 9999 3 (.int .i64 r.n) (.int .i64 s.n)).run Tryd.prog w = .ok (r.n == s.n) w := run_equalIn_int w 9998 _ _ _ _ _ hi
  obtain ⟨b, hr, hb⟩ := eqRows r s w
  have e : decide (r = s) = ((r.n == s.n) && (b && true)) := by
    rw [Bool.eq_iff_iff, decide_eq_true_eq, Rl.ext_iff', Bool.and_true, Bool.and_eq_true, beq_iff_eq, hb]
  rw [e]
  exact eqFields_cons (by decide) (relP0 r w) (relP0 s w) he fun _ => eqFields_cons (by decide) (relP1 r w) (relP1 s w) hr fun _ => by simp [Op.eqFields]

end Go.Proofs.YtehimiadpgbhmaaDoor

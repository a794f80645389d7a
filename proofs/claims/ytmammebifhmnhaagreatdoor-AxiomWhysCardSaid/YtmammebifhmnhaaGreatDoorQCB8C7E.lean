/-
  Own work, merged: A12.
-/
import Derived.AtR
import Derived.Below
import Derived.ChangeKeysEq
import Derived.KernelRfl
import Derived.LaidMore
import Derived.Laws.AppendOwn
import Derived.Laws.BytesString
import Derived.Laws.Cells
import Derived.Laws.CopyRow
import Derived.Laws.Entries
import Derived.Laws.Rows
import Derived.Laws.Small
import Derived.Laws.StructEq
import Derived.Lib.LaidTab
import Derived.Lib.TrailingZeros
import Derived.Maps.AppendAt
import Derived.OpenShut
import Derived.Orders
import Derived.ProofKit
import Derived.RangeFuncRecord
import Derived.SevenTiedAt
import Derived.Stop.Joined
import Derived.Test.YtmammebifhmnhaaGreatDoorCards
import Derived.Test.YtmammebifhmnhaaGreatDoorProg
import Derived.Test.YtmammebifhmnhaaGreatDoorRows
import Derived.Test.YtmammebifhmnhaaGreatDoorTie
import Derived.Test.YtmammebifhmnhaaGreatDoorQ7C97DC
/-
  The reference's shortest way round and its orders: taken over from the texts of layer 2 by a program of our own (tools/closure.py). Own work.
-/
namespace Go.Proofs.YtmammebifhmnhaaGreatDoor
open Go.AM Relation
set_option maxRecDepth 100000

/-- A reference's On under way. -/
def onQ (n : Int) (s : BitVec 64) (k : Nat) : Rl := Rl.by_ n fun i => if i < k ∧ s.getLsbD i then 1#64 <<< i else 0#64

theorem onQ_0 (n : Int) (s : BitVec 64) : onQ n s 0 = Rl.void n := by
  rw [onQ, Rl.void_by]
  exact Rl.by_congr fun i _ => by simp

theorem onQ_end {n : Int} {s : BitVec 64} {k : Nat} (h0 : ¬ n < 0) (h1 : ¬ n > 64) (h : (k : Int) = n) : onQ n s k = onL n s := by
  rw [onL, if_neg (by omega), onQ]
  refine Rl.by_congr fun i _ => ?_
  have : (i < k ∧ s.getLsbD i = true) ↔ ((i : Int) < n ∧ s.getLsbD i = true) := by
    constructor <;> rintro ⟨h2, h3⟩ <;> exact ⟨by omega, h3⟩
  simp only [this]

theorem onQ_yes {n : Int} {s : BitVec 64} {k : Nat} (hk : k < 64) (hs : s.getLsbD k = true) : (onQ n s k).setRow k ((onQ n s k).row k ||| 1#64 <<< k) = onQ n s (k + 1) := by
  have e : (onQ n s k).row k = 0#64 := by rw [onQ, Rl.row_by, if_pos hk]; simp
  rw [e, BitVec.zero_or, onQ, Rl.set_by, onQ]
  refine Rl.by_congr fun i _ => ?_
  by_cases e : k = i
  · subst e; simp [hs]
  · have : (i < k + 1) ↔ i < k := by omega
    simp only [this, e, if_false]

theorem onQ_no {n : Int} {s : BitVec 64} {k : Nat} (hs : ¬ s.getLsbD k = true) : onQ n s k = onQ n s (k + 1) := by
  rw [onQ, onQ]
  refine Rl.by_congr fun i _ => ?_
  by_cases e : k = i
  · subst e; simp [hs]
  · have : (i < k + 1) ↔ i < k := by omega
    simp only [this]

theorem in_ok (x : BitVec 64) (k : Nat) (w : World) : Gives Tryz.prog 89 [.int .u64 (un x), .int .i64 (k : Int)] w (.bool (x.getLsbD k)) := by
  refine Gives.of_run Tryz.func89 rfl (by show 2 ≤ 10; decide) ?_
  refine RunF_sound tab_ok noX_local 100 [] _ _ rfl ?_ ?_
  · simp
  · refine Run.retP tab_ok Tryz.func89 rfl trivial (fun M => ?_)
    simp only [conc, shr_un, band1_un, un_beq1, Int.toNat_natCast]
    congr 1
    rw [Bool.eq_iff_iff, beq_iff_eq, bit_iff]

theorem in_enters : Enters Tryz.prog 89 := enters_mk Tryz.func89 (by decide) rfl

theorem onR_ok (n : Int) (x : BitVec 64) (w : World) : Gives Tryz.prog 50 [.int .i64 n, .int .u64 (un x)] w (encRel (onL n x)) := by
  refine Gives.of_run Tryz.func50 rfl (by show 2 ≤ 34; decide) ?_
  by_cases h1 : n < 0
  · refine RunF_sound tab_ok noX_local 100 [true, true] _ _ rfl ?_ ?_
    · simp [h1, fillL, Value.cells, segsVals, relV_one']
    · refine Run.retP tab_ok Tryz.func50 rfl ?_ (fun M => ?_)
      · simp [fillL, Value.cells]
      rw [onL, if_pos (.inl h1)]; rfl
  by_cases h2 : n > 64
  · refine RunF_sound tab_ok noX_local 100 [false, true] _ _ rfl ?_ ?_
    · simp [fillL, Value.cells, segsVals, relV_one']; omega
    · refine Run.retP tab_ok Tryz.func50 rfl ?_ (fun M => ?_)
      · simp [fillL, Value.cells]
      rw [onL, if_pos (.inr h2)]; rfl
  refine RunF_sound tab_ok noX_local 100 [false, false] _ _ rfl ?_ ?_
  · simp [fillL, Value.cells, segsVals, relV_one']; omega
  suffices H : ∀ (d k : Nat), (k : Int) + d = n → ∀ σ, inT σ.t [(0, .v (.int .i64 n)), (1, .v (.int .u64 (un x))), (4, .ptr 0 0), (5, .ptr 1 0), (6, .v (.int .i64 (k : Int)))] →
      inT σ.h [(0, .cells 60 [.vals 65 (relV (Rl.void 0))]), (1, .cells 60 [.vals 65 (relV (onQ n x k))])] → Run _ _ σ by
    refine H n.toNat 0 (by omega) _ ⟨rfl, rfl, rfl, rfl, rfl, trivial⟩ ⟨rfl, ?_, trivial⟩
    rw [onQ_0]
    rfl
  intro d
  induction d with
  | zero =>
    intro k hk σ ht hh
    refine Run.to ?_ ht hh (n' := 2)
    refine RunF_sound tab_ok noX_local 100 [false] _ _ rfl ?_ ?_
    · simp [relV_one', segsVals]; omega
    · refine Run.retP tab_ok Tryz.func50 rfl ?_ (fun M => ?_)
      · simp
      rw [← onQ_end h1 h2 (k := k) (by omega)]; rfl
  | succ d ih =>
    intro k hk σ ht hh
    refine Run.to ?_ ht hh (n' := 2)
    have hk' : k < 64 := by omega
    refine RunF_sound tab_ok noX_local 100 [true] _ _ rfl ?_ ?_
    · simp; omega
    refine Run.callFn noX_local rfl rfl rfl rfl rfl rfl rfl in_enters rfl (fun w' _ => in_ok x k w') ?_
    by_cases c : x.getLsbD k = true
    · refine RunF_sound tab_ok noX_local 100 [true] _ _ rfl ?_ ?_
      · simp [c]
      refine Run.drawA noX_local rfl [3] [] rfl rfl trivial ?_
      refine RunOF_sound tab_ok noX_local rfl rfl 100 [] _ _ rfl ?_ ?_
      · simp [relV_get _ _ hk', intAt_row _ _ hk', okCell, Value.oneCell', inT]; omega
      refine RunO.done ?_
      refine RunF_sound tab_ok noX_local 100 [] _ _ rfl ?_ ?_
      · simp
      refine ih (k + 1) (by omega) _ ⟨rfl, rfl, rfl, rfl, i64_eq (wrap_succ (by omega)), trivial⟩ ⟨rfl, congrArg (fun l => some (Blk.cells 60 [.vals 65 l])) ?_, trivial⟩
      simp [intAt_row _ _ hk', shl1_un, relV_set _ _ hk', onQ_yes hk' c]
    · refine RunF_sound tab_ok noX_local 100 [false] _ _ rfl ?_ ?_
      · simp [c]
      exact ih (k + 1) (by omega) _ ⟨rfl, rfl, rfl, rfl, i64_eq (wrap_succ (by omega)), trivial⟩ ⟨rfl, by rw [← onQ_no c]; rfl, trivial⟩

theorem onR_enters : Enters Tryz.prog 50 := enters_mk Tryz.func50 (by decide) rfl

theorem bit_has (r : Rl) (a b : Nat) : ((r.row a) >>> b &&& 1#64) = 1#64 ↔ r.has a b = true := bit_iff _ _

theorem checkR_ok (r : Rl) (w : World) : Gives Tryz.prog 86 [encRel r] w (.int .i64 (checkI r)) := by
  refine Gives.of_run Tryz.func86 rfl (by show 1 ≤ 41; decide) ?_
  by_cases h1 : r.n < 0
  · refine RunF_sound tab_ok noX_local 100 [true, true] _ _ rfl ?_ ?_
    · simp [h1]
    · refine Run.retP tab_ok Tryz.func86 rfl trivial (fun M => ?_)
      rw [checkI, if_pos (.inl h1)]; rfl
  by_cases h2 : r.n > 64
  · refine RunF_sound tab_ok noX_local 100 [false, true] _ _ rfl ?_ ?_
    · simp; omega
    · refine Run.retP tab_ok Tryz.func86 rfl trivial (fun M => ?_)
      rw [checkI, if_pos (.inr h2)]; rfl
  have h0 : 0 ≤ r.n := by omega
  have bad : ∀ a b, a < 64 → b < 64 → ¬ okBit r a b → checkI r = 20 := by
    intro a b ha hb h
    rw [checkI, if_neg (by omega), if_neg (fun h' => h ((good_iff r a h0).1 (h' a ha) b hb))]
  refine RunF_sound tab_ok noX_local 100 [false, false] _ _ rfl ?_ ?_
  · simp; omega
  suffices H : ∀ (d k : Nat), k + d = 64 → (∀ i, i < k → good r i = true) → ∀ σ, inT σ.t [(1, .ptr 0 0), (3, .v (.int .i64 (k : Int)))] → inT σ.h [(0, .cells 60 [.vals 65 (relV r)])] → Run _ _ σ by
    exact H 64 0 (by omega) (fun i hi => by omega) _ ⟨rfl, rfl, trivial⟩ ⟨rfl, trivial⟩
  intro d
  induction d with
  | zero =>
    intro k hk hg σ ht hh
    refine Run.to ?_ ht hh (n' := 1)
    refine RunF_sound tab_ok noX_local 100 [false] _ _ rfl ?_ ?_
    · simp; omega
    · refine Run.retP tab_ok Tryz.func86 rfl trivial (fun M => ?_)
      rw [checkI, if_neg (by omega), if_pos (fun i hi => hg i (by omega))]; rfl
  | succ d ih =>
    intro k hk hg σ ht hh
    refine Run.to ?_ ht hh (n' := 1)
    have hk' : k < 64 := by omega
    refine RunF_sound tab_ok noX_local 100 [true] _ _ rfl ?_ ?_
    · simp; omega
    suffices H : ∀ (e b : Nat), b + e = 64 → (∀ j, j < b → okBit r k j) → ∀ σ, inT σ.t [(1, .ptr 0 0), (3, .v (.int .i64 (k : Int))), (4, .v (.int .i64 (b : Int)))] → inT σ.h [(0, .cells 60 [.vals 65 (relV r)])] → Run _ _ σ by
      exact H 64 0 (by omega) (fun i hi => by omega) _ ⟨rfl, rfl, rfl, trivial⟩ ⟨rfl, trivial⟩
    intro e
    induction e with
    | zero =>
      intro b hb hg2 σ ht hh
      refine Run.to ?_ ht hh (n' := 1)
      refine RunF_sound tab_ok noX_local 100 [false] _ _ rfl ?_ ?_
      · simp; omega
      refine ih (k + 1) (by omega) ?_ _ ⟨rfl, i64_eq (wrap_succ (by omega)), trivial⟩ ⟨rfl, trivial⟩
      intro i hi
      rcases Nat.lt_or_ge i k with h | h
      · exact hg i h
      · obtain rfl : i = k := by omega
        exact (good_iff r i h0).2 fun j hj => hg2 j (by omega)
    | succ e ih2 =>
      intro b hb hg2 σ ht hh
      refine Run.to ?_ ht hh (n' := 1)
      have hb' : b < 64 := by omega
      have nxt : okBit r k b → ∀ j, j < b + 1 → okBit r k j := by
        intro h j hj
        rcases Nat.lt_or_ge j b with h' | h'
        · exact hg2 j h'
        · obtain rfl : j = b := by omega
          exact h
      by_cases c : r.has k b = true
      · have c' := (bit_has r k b).2 c
        by_cases c1 : (k : Int) ≥ r.n
        · refine RunF_sound tab_ok noX_local 100 [true, true, true] _ _ rfl ?_ ?_
          · simp [relV_get _ _ hk', intAt_row _ _ hk', band1_un, c']; omega
          · refine Run.retP tab_ok Tryz.func86 rfl trivial (fun M => ?_)
            rw [bad k b hk' hb' (fun h => h ⟨c, .inl c1⟩)]; rfl
        · by_cases c2 : (b : Int) ≥ r.n
          · refine RunF_sound tab_ok noX_local 100 [true, true, false, true] _ _ rfl ?_ ?_
            · simp [relV_get _ _ hk', intAt_row _ _ hk', band1_un, c']; omega
            · refine Run.retP tab_ok Tryz.func86 rfl trivial (fun M => ?_)
              rw [bad k b hk' hb' (fun h => h ⟨c, .inr c2⟩)]; rfl
          · refine RunF_sound tab_ok noX_local 200 [true, true, false, false] _ _ rfl ?_ ?_
            · simp [relV_get _ _ hk', intAt_row _ _ hk', band1_un, c']; omega
            · have hn := nxt (fun h => h.2.elim c1 c2)
              exact ih2 (b + 1) (by omega) hn _ ⟨rfl, rfl, i64_eq (wrap_succ (by omega)), trivial⟩ ⟨rfl, trivial⟩
      · have c' : ¬ ((r.row k) >>> b &&& 1#64) = 1#64 := fun h => c ((bit_has r k b).1 h)
        refine RunF_sound tab_ok noX_local 100 [true, false] _ _ rfl ?_ ?_
        · simp [relV_get _ _ hk', intAt_row _ _ hk', band1_un, c']; omega
        · exact ih2 (b + 1) (by omega) (nxt (fun h => c h.1)) _ ⟨rfl, rfl, i64_eq (wrap_succ (by omega)), trivial⟩ ⟨rfl, trivial⟩

theorem checkR_enters : Enters Tryz.prog 86 := enters_mk Tryz.func86 (by decide) rfl

theorem rightR_ok (r : Rl) (w : World) : Gives Tryz.prog 48 [encRel r] w (encRel (rightL r)) := by
  refine Gives.of_run Tryz.func48 rfl (by show 1 ≤ 8; decide) ?_
  refine RunF_sound tab_ok noX_local 100 [] _ _ rfl ?_ ?_
  · simp
  refine Run.callFn noX_local rfl rfl rfl rfl rfl rfl rfl checkR_enters rfl (fun w' _ => checkR_ok r w') ?_
  by_cases h : checkI r = 0
  · refine RunF_sound tab_ok noX_local 100 [false] _ _ rfl ?_ ?_
    · simp [h, segsVals, relV_one']
    · refine Run.retP tab_ok Tryz.func48 rfl ?_ (fun M => ?_)
      · simp
      rw [rightL, if_pos h]; rfl
  · refine RunF_sound tab_ok noX_local 100 [true] _ _ rfl ?_ ?_
    · simp [h, fillL, Value.cells, segsVals, relV_one']
    · refine Run.retP tab_ok Tryz.func48 rfl ?_ (fun M => ?_)
      · simp [fillL, Value.cells]
      rw [rightL, if_neg h]; rfl

theorem rightR_enters : Enters Tryz.prog 48 := enters_mk Tryz.func48 (by decide) rfl

theorem hasR_ok (R : Rl) (hn : 0 ≤ R.n ∧ R.n ≤ 64) (a b : Int) (w : World) : Gives Tryz.prog 52 [encRel R, .int .i64 a, .int .i64 b] w (.bool (hasI R a b)) := by
  refine Gives.of_run Tryz.func52 rfl (by show 3 ≤ 35; decide) ?_
  by_cases c1 : 0 ≤ a
  · by_cases c3 : 0 ≤ b
    · by_cases c2 : a < R.n
      · by_cases c4 : b < R.n
        · have hk : a.toNat < 64 := by omega
          refine RunF_sound tab_ok noX_local 200 [true, true, true, true] _ _ rfl ?_ ?_
          · simp [c1, c2, c3, c4, relV_get _ _ hk, intAt_row _ _ hk]
            omega
          · refine Run.retP tab_ok Tryz.func52 rfl trivial (fun M => ?_)
            show Value.bool _ = _
            rw [show 1 - 0 + a.toNat * 1 = 1 + a.toNat by omega, intAt_row _ _ hk, bit_eq]
            simp [hasI, c1, c2, c3, c4, Rl.has]
        · refine RunF_sound tab_ok noX_local 200 [true, true, true, false] _ _ rfl ?_ ?_
          · simp [c1, c2, c3, c4]
          · refine Run.retP tab_ok Tryz.func52 rfl trivial (fun M => ?_)
            simp [hasI, c4, conc]
      · refine RunF_sound tab_ok noX_local 200 [true, true, false] _ _ rfl ?_ ?_
        · simp [c1, c2, c3]
        · refine Run.retP tab_ok Tryz.func52 rfl trivial (fun M => ?_)
          simp [hasI, c2, conc]
    · refine RunF_sound tab_ok noX_local 200 [true, false] _ _ rfl ?_ ?_
      · simp [c1, c3]
      · refine Run.retP tab_ok Tryz.func52 rfl trivial (fun M => ?_)
        simp [hasI, c3, conc]
  · refine RunF_sound tab_ok noX_local 200 [false] _ _ rfl ?_ ?_
    · simp [c1]
    · refine Run.retP tab_ok Tryz.func52 rfl trivial (fun M => ?_)
      simp [hasI, c1, conc]

theorem hasR_enters : Enters Tryz.prog 52 := enters_mk Tryz.func52 (by decide) rfl

theorem SeesE.take {w : World} {p : Option Addr} {xs : List (Int × Int)} (h : SeesE w p xs) (k : Nat) : SeesE w p (xs.take k) := by
  intro i hi
  have hi' : i < xs.length := by rw [List.length_take] at hi; omega
  rw [List.getElem_take]
  exact h i hi'

theorem hasI_in {R : Rl} {a b : Nat} (ha : (a : Int) < R.n) (hb : (b : Int) < R.n) : hasI R a b = R.has a b := by
  unfold hasI
  rw [decide_eq_true (by omega)]; simp

theorem pTwo_lt (op : Nat) (R S : Rl) (hR : rightL R = R) (hS : rightL S = S) (hn : R.n = S.n) (x y : Nat) (h : pTwo op R S x y = true) : (x : Int) < R.n ∧ (y : Int) < R.n := by
  have h1 : ∀ a b, R.has a b = true → (a : Int) < R.n ∧ (b : Int) < R.n := fun a b hb => by have := right_has R a b (by rw [hR]; exact hb); rwa [hR] at this
  have h2 : ∀ a b, S.has a b = true → (a : Int) < R.n ∧ (b : Int) < R.n := fun a b hb => by have := right_has S a b (by rw [hS]; exact hb); rw [hS] at this; rwa [hn]
  unfold pTwo at h
  split at h
  · rcases Bool.or_eq_true_iff.1 h with h | h
    · exact h1 _ _ h
    · exact h2 _ _ h
  · exact h1 _ _ (Bool.and_eq_true_iff.1 h).1
  · exact h1 _ _ (Bool.and_eq_true_iff.1 h).1
  · obtain ⟨c, _, hc⟩ := List.any_eq_true.1 h
    have := Bool.and_eq_true_iff.1 hc
    exact ⟨(h1 _ _ this.1).1, (h2 _ _ this.2).2⟩

theorem twoR_void (op : Nat) (r s : Rl) (h : ¬ (rightL r).n = (rightL s).n) : twoR op r s = Rl.void 0 := by
  have hr := twoL_right r s
  have hn := twoL_n r s
  have h0 : (twoL r s).1.n = 0 := by unfold twoL; rw [if_neg h]; rfl
  unfold twoR
  rw [Rl.gen_void, h0]
  refine Rl.gen_congr fun x y _ _ => ?_
  cases hb : pTwo op (twoL r s).1 (twoL r s).2 x y with
  | false => rfl
  | true => have := pTwo_lt op _ _ hr.1 hr.2 hn x y hb; omega

theorem two_R (op : Nat) (hop : op ≤ 3) (r s : Rl) (w : World) : Gives Tryz.prog 51 [.int .i64 (op : Int), encRel r, encRel s] w (encRel (twoR op r s)) := by
  refine Gives.of_run Tryz.func51 rfl (by show 3 ≤ 107; decide) ?_
  refine RunF_sound tab_ok noX_local 100 [] _ _ rfl ?_ ?_
  · simp
  refine Run.callFn noX_local rfl rfl rfl rfl rfl rfl rfl rightR_enters rfl (fun w' _ => rightR_ok r w') ?_
  refine RunF_sound tab_ok noX_local 100 [] _ _ rfl ?_ ?_
  · simp [segsVals, relV_one']
  refine Run.callFn noX_local rfl rfl rfl rfl rfl rfl rfl rightR_enters rfl (fun w' _ => rightR_ok s w') ?_
  by_cases hne : ¬ (rightL r).n = (rightL s).n
  · rw [twoR_void op r s hne]
    refine RunF_sound tab_ok noX_local 100 [true] _ _ rfl ?_ ?_
    · simp [fillL, Value.cells, segsVals, relV_one', hne]
    refine Run.retP tab_ok Tryz.func51 rfl ?_ (fun M => ?_)
    · simp [fillL, Value.cells]
    rfl
  have hne := Classical.not_not.1 hne
  have et : twoL r s = (rightL r, rightL s) := by unfold twoL; rw [if_pos hne]
  unfold twoR
  rw [et]
  have hR := rightL_idem r
  have hS := rightL_idem s
  have hn := rightL_n r
  simp only []
  generalize rightL r = R at hR hn hne
  generalize rightL s = S at hS hne
  have hnS : 0 ≤ S.n ∧ S.n ≤ 64 := by omega
  have hlt := pTwo_lt op R S hR hS hne
  generalize hp : pTwo op R S = p at hlt
  refine RunF_sound tab_ok noX_local 100 [false] _ _ rfl ?_ ?_
  · simp [fillL, Value.cells, segsVals, relV_one', relV_tail_one, splice, hne]
  suffices H : ∀ (d a : Nat), (a : Int) + d = R.n → ∀ σ, inT σ.t [(0, .v (.int .i64 (op : Int))), (4, .ptr 0 0), (5, .ptr 1 0), (6, .ptr 2 0), (7, .ptr 3 0), (8, .v (.int .i64 (a : Int)))] →
      inT σ.h [(0, .cells 60 [.vals 65 (relV R)]), (1, .cells 60 [.vals 65 (relV S)]), (2, .cells 60 [.vals 65 (relV (Rl.void 0))]), (3, .cells 60 [.vals 65 (relV (Rl.gen R.n (Rl.seen p a 0)))])] → Run _ _ σ by
    refine H R.n.toNat 0 (by omega) _ ⟨rfl, rfl, rfl, rfl, rfl, rfl, trivial⟩ ⟨?_, ?_, rfl, ?_, trivial⟩
    · simp [lk]
    · simp [lk]
    · rw [Rl.seen_0]
      simp [lk]
      rfl
  intro d
  induction d with
  | zero =>
    intro a ha σ ht hh
    refine Run.to ?_ ht hh (n' := 4)
    refine RunF_sound tab_ok noX_local 100 [false] _ _ rfl ?_ ?_
    · simp [segsVals, relV_one']; omega
    refine Run.retP tab_ok Tryz.func51 rfl ?_ (fun M => ?_)
    · simp
    rw [Rl.seen_all (fun x y h => by have := hlt x y h; omega)]; rfl
  | succ d ih =>
    intro a ha σ ht hh
    refine Run.to ?_ ht hh (n' := 4)
    have ha' : a < 64 := by omega
    have han : (a : Int) < R.n := by omega
    refine RunF_sound tab_ok noX_local 100 [true] _ _ rfl ?_ ?_
    · simp; omega
    suffices H2 : ∀ (e b : Nat), (b : Int) + e = R.n → ∀ σ, inT σ.t [(0, .v (.int .i64 (op : Int))), (4, .ptr 0 0), (5, .ptr 1 0), (6, .ptr 2 0), (7, .ptr 3 0), (8, .v (.int .i64 (a : Int))), (9, .v (.int .i64 (b : Int)))] →
        inT σ.h [(0, .cells 60 [.vals 65 (relV R)]), (1, .cells 60 [.vals 65 (relV S)]), (2, .cells 60 [.vals 65 (relV (Rl.void 0))]), (3, .cells 60 [.vals 65 (relV (Rl.gen R.n (Rl.seen p a b)))])] → Run _ _ σ by
      exact H2 R.n.toNat 0 (by omega) _ ⟨rfl, rfl, rfl, rfl, rfl, rfl, rfl, trivial⟩ ⟨rfl, rfl, rfl, rfl, trivial⟩
    intro e
    induction e with
    | zero =>
      intro b hb σ ht hh
      refine Run.to ?_ ht hh (n' := 4)
      refine RunF_sound tab_ok noX_local 100 [false] _ _ rfl ?_ ?_
      · simp; omega
      rw [Rl.seen_row (fun x y h => by have := hlt x y h; omega)]
      exact ih (a + 1) (by omega) _ ⟨rfl, rfl, rfl, rfl, rfl, i64_eq (wrap_succ (by omega)), trivial⟩ ⟨rfl, rfl, rfl, rfl, trivial⟩
    | succ e ihe =>
      intro b hb σ ht hh
      refine Run.to ?_ ht hh (n' := 4)
      have hb' : b < 64 := by omega
      have hbn : (b : Int) < R.n := by omega
      have hI : hasI R a b = R.has a b := hasI_in han hbn
      have hJ : hasI S a b = S.has a b := hasI_in (by omega) (by omega)
      -- behind the test
      suffices T : ∀ σ, inTC σ.t [(0, .v (.int .i64 (op : Int))), (4, .ptr 0 0), (5, .ptr 1 0), (6, .ptr 2 0), (7, .ptr 3 0), (8, .v (.int .i64 (a : Int))), (9, .v (.int .i64 (b : Int))), (96, .v (.bool (p a b)))] →
          inT σ.h [(0, .cells 60 [.vals 65 (relV R)]), (1, .cells 60 [.vals 65 (relV S)]), (2, .cells 60 [.vals 65 (relV (Rl.void 0))]), (3, .cells 60 [.vals 65 (relV (Rl.gen R.n (Rl.seen p a b)))])] → Run _ _ σ by
        rcases (show op = 0 ∨ op = 1 ∨ op = 2 ∨ op = 3 by omega) with rfl | rfl | rfl | rfl
        · have hpe : p a b = (R.has a b || S.has a b) := by rw [← hp]; rfl
          refine RunF_sound tab_ok noX_local 100 [true, true] _ _ rfl ?_ ?_
          · simp; omega
          refine Run.callFn noX_local rfl rfl rfl rfl rfl rfl rfl hasR_enters rfl (fun w' _ => hasR_ok R hn a b w') ?_
          rw [hI]
          by_cases c : ¬ R.has a b = true
          · refine RunF_sound tab_ok noX_local 100 [false] _ _ rfl ?_ ?_
            · simpa using c
            refine Run.callFn noX_local rfl rfl rfl rfl rfl rfl rfl hasR_enters rfl (fun w' _ => hasR_ok S hnS a b w') ?_
            rw [hJ]
            refine RunF_sound tab_ok noX_local 100 [] _ _ rfl ?_ ?_
            · simp
            have c' : R.has a b = false := by simpa using c
            exact T _ ⟨inTC_same rfl, inTC_same rfl, inTC_same rfl, inTC_same rfl, inTC_same rfl, inTC_same rfl, inTC_same rfl, ⟨_, rfl, fun M => by rw [hpe, c', Bool.false_or]⟩, trivial⟩ ⟨rfl, rfl, rfl, rfl, trivial⟩
          · have c := Classical.not_not.1 c
            first
            | (refine RunF_sound tab_ok noX_local 8 [true] _ _ rfl (by simp [c]) ?_; exact T _ ⟨inTC_same rfl, inTC_same rfl, inTC_same rfl, inTC_same rfl, inTC_same rfl, inTC_same rfl, inTC_same rfl, ⟨_, rfl, fun M => by rw [hpe, c]; rfl⟩, trivial⟩ ⟨rfl, rfl, rfl, rfl, trivial⟩)
            | (refine RunF_sound tab_ok noX_local 9 [true] _ _ rfl (by simp [c]) ?_; exact T _ ⟨inTC_same rfl, inTC_same rfl, inTC_same rfl, inTC_same rfl, inTC_same rfl, inTC_same rfl, inTC_same rfl, ⟨_, rfl, fun M => by rw [hpe, c]; rfl⟩, trivial⟩ ⟨rfl, rfl, rfl, rfl, trivial⟩)
            | (refine RunF_sound tab_ok noX_local 10 [true] _ _ rfl (by simp [c]) ?_; exact T _ ⟨inTC_same rfl, inTC_same rfl, inTC_same rfl, inTC_same rfl, inTC_same rfl, inTC_same rfl, inTC_same rfl, ⟨_, rfl, fun M => by rw [hpe, c]; rfl⟩, trivial⟩ ⟨rfl, rfl, rfl, rfl, trivial⟩)
            | (refine RunF_sound tab_ok noX_local 11 [true] _ _ rfl (by simp [c]) ?_; exact T _ ⟨inTC_same rfl, inTC_same rfl, inTC_same rfl, inTC_same rfl, inTC_same rfl, inTC_same rfl, inTC_same rfl, ⟨_, rfl, fun M => by rw [hpe, c]; rfl⟩, trivial⟩ ⟨rfl, rfl, rfl, rfl, trivial⟩)
            | (refine RunF_sound tab_ok noX_local 12 [true] _ _ rfl (by simp [c]) ?_; exact T _ ⟨inTC_same rfl, inTC_same rfl, inTC_same rfl, inTC_same rfl, inTC_same rfl, inTC_same rfl, inTC_same rfl, ⟨_, rfl, fun M => by rw [hpe, c]; rfl⟩, trivial⟩ ⟨rfl, rfl, rfl, rfl, trivial⟩)
            | (refine RunF_sound tab_ok noX_local 13 [true] _ _ rfl (by simp [c]) ?_; exact T _ ⟨inTC_same rfl, inTC_same rfl, inTC_same rfl, inTC_same rfl, inTC_same rfl, inTC_same rfl, inTC_same rfl, ⟨_, rfl, fun M => by rw [hpe, c]; rfl⟩, trivial⟩ ⟨rfl, rfl, rfl, rfl, trivial⟩)
            | (refine RunF_sound tab_ok noX_local 14 [true] _ _ rfl (by simp [c]) ?_; exact T _ ⟨inTC_same rfl, inTC_same rfl, inTC_same rfl, inTC_same rfl, inTC_same rfl, inTC_same rfl, inTC_same rfl, ⟨_, rfl, fun M => by rw [hpe, c]; rfl⟩, trivial⟩ ⟨rfl, rfl, rfl, rfl, trivial⟩)
            | (refine RunF_sound tab_ok noX_local 15 [true] _ _ rfl (by simp [c]) ?_; exact T _ ⟨inTC_same rfl, inTC_same rfl, inTC_same rfl, inTC_same rfl, inTC_same rfl, inTC_same rfl, inTC_same rfl, ⟨_, rfl, fun M => by rw [hpe, c]; rfl⟩, trivial⟩ ⟨rfl, rfl, rfl, rfl, trivial⟩)
            | (refine RunF_sound tab_ok noX_local 16 [true] _ _ rfl (by simp [c]) ?_; exact T _ ⟨inTC_same rfl, inTC_same rfl, inTC_same rfl, inTC_same rfl, inTC_same rfl, inTC_same rfl, inTC_same rfl, ⟨_, rfl, fun M => by rw [hpe, c]; rfl⟩, trivial⟩ ⟨rfl, rfl, rfl, rfl, trivial⟩)
            | (refine RunF_sound tab_ok noX_local 17 [true] _ _ rfl (by simp [c]) ?_; exact T _ ⟨inTC_same rfl, inTC_same rfl, inTC_same rfl, inTC_same rfl, inTC_same rfl, inTC_same rfl, inTC_same rfl, ⟨_, rfl, fun M => by rw [hpe, c]; rfl⟩, trivial⟩ ⟨rfl, rfl, rfl, rfl, trivial⟩)
            | (refine RunF_sound tab_ok noX_local 18 [true] _ _ rfl (by simp [c]) ?_; exact T _ ⟨inTC_same rfl, inTC_same rfl, inTC_same rfl, inTC_same rfl, inTC_same rfl, inTC_same rfl, inTC_same rfl, ⟨_, rfl, fun M => by rw [hpe, c]; rfl⟩, trivial⟩ ⟨rfl, rfl, rfl, rfl, trivial⟩)
            | (refine RunF_sound tab_ok noX_local 19 [true] _ _ rfl (by simp [c]) ?_; exact T _ ⟨inTC_same rfl, inTC_same rfl, inTC_same rfl, inTC_same rfl, inTC_same rfl, inTC_same rfl, inTC_same rfl, ⟨_, rfl, fun M => by rw [hpe, c]; rfl⟩, trivial⟩ ⟨rfl, rfl, rfl, rfl, trivial⟩)
            | (refine RunF_sound tab_ok noX_local 20 [true] _ _ rfl (by simp [c]) ?_; exact T _ ⟨inTC_same rfl, inTC_same rfl, inTC_same rfl, inTC_same rfl, inTC_same rfl, inTC_same rfl, inTC_same rfl, ⟨_, rfl, fun M => by rw [hpe, c]; rfl⟩, trivial⟩ ⟨rfl, rfl, rfl, rfl, trivial⟩)
            | (refine RunF_sound tab_ok noX_local 21 [true] _ _ rfl (by simp [c]) ?_; exact T _ ⟨inTC_same rfl, inTC_same rfl, inTC_same rfl, inTC_same rfl, inTC_same rfl, inTC_same rfl, inTC_same rfl, ⟨_, rfl, fun M => by rw [hpe, c]; rfl⟩, trivial⟩ ⟨rfl, rfl, rfl, rfl, trivial⟩)
            | (refine RunF_sound tab_ok noX_local 22 [true] _ _ rfl (by simp [c]) ?_; exact T _ ⟨inTC_same rfl, inTC_same rfl, inTC_same rfl, inTC_same rfl, inTC_same rfl, inTC_same rfl, inTC_same rfl, ⟨_, rfl, fun M => by rw [hpe, c]; rfl⟩, trivial⟩ ⟨rfl, rfl, rfl, rfl, trivial⟩)
            | (refine RunF_sound tab_ok noX_local 23 [true] _ _ rfl (by simp [c]) ?_; exact T _ ⟨inTC_same rfl, inTC_same rfl, inTC_same rfl, inTC_same rfl, inTC_same rfl, inTC_same rfl, inTC_same rfl, ⟨_, rfl, fun M => by rw [hpe, c]; rfl⟩, trivial⟩ ⟨rfl, rfl, rfl, rfl, trivial⟩)
            | (refine RunF_sound tab_ok noX_local 24 [true] _ _ rfl (by simp [c]) ?_; exact T _ ⟨inTC_same rfl, inTC_same rfl, inTC_same rfl, inTC_same rfl, inTC_same rfl, inTC_same rfl, inTC_same rfl, ⟨_, rfl, fun M => by rw [hpe, c]; rfl⟩, trivial⟩ ⟨rfl, rfl, rfl, rfl, trivial⟩)
            | (refine RunF_sound tab_ok noX_local 25 [true] _ _ rfl (by simp [c]) ?_; exact T _ ⟨inTC_same rfl, inTC_same rfl, inTC_same rfl, inTC_same rfl, inTC_same rfl, inTC_same rfl, inTC_same rfl, ⟨_, rfl, fun M => by rw [hpe, c]; rfl⟩, trivial⟩ ⟨rfl, rfl, rfl, rfl, trivial⟩)
            | (refine RunF_sound tab_ok noX_local 26 [true] _ _ rfl (by simp [c]) ?_; exact T _ ⟨inTC_same rfl, inTC_same rfl, inTC_same rfl, inTC_same rfl, inTC_same rfl, inTC_same rfl, inTC_same rfl, ⟨_, rfl, fun M => by rw [hpe, c]; rfl⟩, trivial⟩ ⟨rfl, rfl, rfl, rfl, trivial⟩)
            | (refine RunF_sound tab_ok noX_local 27 [true] _ _ rfl (by simp [c]) ?_; exact T _ ⟨inTC_same rfl, inTC_same rfl, inTC_same rfl, inTC_same rfl, inTC_same rfl, inTC_same rfl, inTC_same rfl, ⟨_, rfl, fun M => by rw [hpe, c]; rfl⟩, trivial⟩ ⟨rfl, rfl, rfl, rfl, trivial⟩)
            | (refine RunF_sound tab_ok noX_local 28 [true] _ _ rfl (by simp [c]) ?_; exact T _ ⟨inTC_same rfl, inTC_same rfl, inTC_same rfl, inTC_same rfl, inTC_same rfl, inTC_same rfl, inTC_same rfl, ⟨_, rfl, fun M => by rw [hpe, c]; rfl⟩, trivial⟩ ⟨rfl, rfl, rfl, rfl, trivial⟩)
            | (refine RunF_sound tab_ok noX_local 29 [true] _ _ rfl (by simp [c]) ?_; exact T _ ⟨inTC_same rfl, inTC_same rfl, inTC_same rfl, inTC_same rfl, inTC_same rfl, inTC_same rfl, inTC_same rfl, ⟨_, rfl, fun M => by rw [hpe, c]; rfl⟩, trivial⟩ ⟨rfl, rfl, rfl, rfl, trivial⟩)
        · have hpe : p a b = (R.has a b && S.has a b) := by rw [← hp]; rfl
          refine RunF_sound tab_ok noX_local 100 [true, false, true] _ _ rfl ?_ ?_
          · simp; omega
          refine Run.callFn noX_local rfl rfl rfl rfl rfl rfl rfl hasR_enters rfl (fun w' _ => hasR_ok R hn a b w') ?_
          rw [hI]
          by_cases c : R.has a b = true
          · refine RunF_sound tab_ok noX_local 100 [true] _ _ rfl ?_ ?_
            · simp [c]
            refine Run.callFn noX_local rfl rfl rfl rfl rfl rfl rfl hasR_enters rfl (fun w' _ => hasR_ok S hnS a b w') ?_
            rw [hJ]
            refine RunF_sound tab_ok noX_local 100 [] _ _ rfl ?_ ?_
            · simp
            exact T _ ⟨inTC_same rfl, inTC_same rfl, inTC_same rfl, inTC_same rfl, inTC_same rfl, inTC_same rfl, inTC_same rfl, ⟨_, rfl, fun M => by rw [hpe, c, Bool.true_and]⟩, trivial⟩ ⟨rfl, rfl, rfl, rfl, trivial⟩
          · have c' : R.has a b = false := by simpa using c
            first
            | (refine RunF_sound tab_ok noX_local 8 [false] _ _ rfl (by simpa using c) ?_; exact T _ ⟨inTC_same rfl, inTC_same rfl, inTC_same rfl, inTC_same rfl, inTC_same rfl, inTC_same rfl, inTC_same rfl, ⟨_, rfl, fun M => by rw [hpe, c', Bool.false_and]; rfl⟩, trivial⟩ ⟨rfl, rfl, rfl, rfl, trivial⟩)
            | (refine RunF_sound tab_ok noX_local 9 [false] _ _ rfl (by simpa using c) ?_; exact T _ ⟨inTC_same rfl, inTC_same rfl, inTC_same rfl, inTC_same rfl, inTC_same rfl, inTC_same rfl, inTC_same rfl, ⟨_, rfl, fun M => by rw [hpe, c', Bool.false_and]; rfl⟩, trivial⟩ ⟨rfl, rfl, rfl, rfl, trivial⟩)
            | (refine RunF_sound tab_ok noX_local 10 [false] _ _ rfl (by simpa using c) ?_; exact T _ ⟨inTC_same rfl, inTC_same rfl, inTC_same rfl, inTC_same rfl, inTC_same rfl, inTC_same rfl, inTC_same rfl, ⟨_, rfl, fun M => by rw [hpe, c', Bool.false_and]; rfl⟩, trivial⟩ ⟨rfl, rfl, rfl, rfl, trivial⟩)
            | (refine RunF_sound tab_ok noX_local 11 [false] _ _ rfl (by simpa using c) ?_; exact T _ ⟨inTC_same rfl, inTC_same rfl, inTC_same rfl, inTC_same rfl, inTC_same rfl, inTC_same rfl, inTC_same rfl, ⟨_, rfl, fun M => by rw [hpe, c', Bool.false_and]; rfl⟩, trivial⟩ ⟨rfl, rfl, rfl, rfl, trivial⟩)
            | (refine RunF_sound tab_ok noX_local 12 [false] _ _ rfl (by simpa using c) ?_; exact T _ ⟨inTC_same rfl, inTC_same rfl, inTC_same rfl, inTC_same rfl, inTC_same rfl, inTC_same rfl, inTC_same rfl, ⟨_, rfl, fun M => by rw [hpe, c', Bool.false_and]; rfl⟩, trivial⟩ ⟨rfl, rfl, rfl, rfl, trivial⟩)
            | (refine RunF_sound tab_ok noX_local 13 [false] _ _ rfl (by simpa using c) ?_; exact T _ ⟨inTC_same rfl, inTC_same rfl, inTC_same rfl, inTC_same rfl, inTC_same rfl, inTC_same rfl, inTC_same rfl, ⟨_, rfl, fun M => by rw [hpe, c', Bool.false_and]; rfl⟩, trivial⟩ ⟨rfl, rfl, rfl, rfl, trivial⟩)
            | (refine RunF_sound tab_ok noX_local 14 [false] _ _ rfl (by simpa using c) ?_; exact T _ ⟨inTC_same rfl, inTC_same rfl, inTC_same rfl, inTC_same rfl, inTC_same rfl, inTC_same rfl, inTC_same rfl, ⟨_, rfl, fun M => by rw [hpe, c', Bool.false_and]; rfl⟩, trivial⟩ ⟨rfl, rfl, rfl, rfl, trivial⟩)
            | (refine RunF_sound tab_ok noX_local 15 [false] _ _ rfl (by simpa using c) ?_; exact T _ ⟨inTC_same rfl, inTC_same rfl, inTC_same rfl, inTC_same rfl, inTC_same rfl, inTC_same rfl, inTC_same rfl, ⟨_, rfl, fun M => by rw [hpe, c', Bool.false_and]; rfl⟩, trivial⟩ ⟨rfl, rfl, rfl, rfl, trivial⟩)
            | (refine RunF_sound tab_ok noX_local 16 [false] _ _ rfl (by simpa using c) ?_; exact T _ ⟨inTC_same rfl, inTC_same rfl, inTC_same rfl, inTC_same rfl, inTC_same rfl, inTC_same rfl, inTC_same rfl, ⟨_, rfl, fun M => by rw [hpe, c', Bool.false_and]; rfl⟩, trivial⟩ ⟨rfl, rfl, rfl, rfl, trivial⟩)
            | (refine RunF_sound tab_ok noX_local 17 [false] _ _ rfl (by simpa using c) ?_; exact T _ ⟨inTC_same rfl, inTC_same rfl, inTC_same rfl, inTC_same rfl, inTC_same rfl, inTC_same rfl, inTC_same rfl, ⟨_, rfl, fun M => by rw [hpe, c', Bool.false_and]; rfl⟩, trivial⟩ ⟨rfl, rfl, rfl, rfl, trivial⟩)
            | (refine RunF_sound tab_ok noX_local 18 [false] _ _ rfl (by simpa using c) ?_; exact T _ ⟨inTC_same rfl, inTC_same rfl, inTC_same rfl, inTC_same rfl, inTC_same rfl, inTC_same rfl, inTC_same rfl, ⟨_, rfl, fun M => by rw [hpe, c', Bool.false_and]; rfl⟩, trivial⟩ ⟨rfl, rfl, rfl, rfl, trivial⟩)
            | (refine RunF_sound tab_ok noX_local 19 [false] _ _ rfl (by simpa using c) ?_; exact T _ ⟨inTC_same rfl, inTC_same rfl, inTC_same rfl, inTC_same rfl, inTC_same rfl, inTC_same rfl, inTC_same rfl, ⟨_, rfl, fun M => by rw [hpe, c', Bool.false_and]; rfl⟩, trivial⟩ ⟨rfl, rfl, rfl, rfl, trivial⟩)
            | (refine RunF_sound tab_ok noX_local 20 [false] _ _ rfl (by simpa using c) ?_; exact T _ ⟨inTC_same rfl, inTC_same rfl, inTC_same rfl, inTC_same rfl, inTC_same rfl, inTC_same rfl, inTC_same rfl, ⟨_, rfl, fun M => by rw [hpe, c', Bool.false_and]; rfl⟩, trivial⟩ ⟨rfl, rfl, rfl, rfl, trivial⟩)
            | (refine RunF_sound tab_ok noX_local 21 [false] _ _ rfl (by simpa using c) ?_; exact T _ ⟨inTC_same rfl, inTC_same rfl, inTC_same rfl, inTC_same rfl, inTC_same rfl, inTC_same rfl, inTC_same rfl, ⟨_, rfl, fun M => by rw [hpe, c', Bool.false_and]; rfl⟩, trivial⟩ ⟨rfl, rfl, rfl, rfl, trivial⟩)
            | (refine RunF_sound tab_ok noX_local 22 [false] _ _ rfl (by simpa using c) ?_; exact T _ ⟨inTC_same rfl, inTC_same rfl, inTC_same rfl, inTC_same rfl, inTC_same rfl, inTC_same rfl, inTC_same rfl, ⟨_, rfl, fun M => by rw [hpe, c', Bool.false_and]; rfl⟩, trivial⟩ ⟨rfl, rfl, rfl, rfl, trivial⟩)
            | (refine RunF_sound tab_ok noX_local 23 [false] _ _ rfl (by simpa using c) ?_; exact T _ ⟨inTC_same rfl, inTC_same rfl, inTC_same rfl, inTC_same rfl, inTC_same rfl, inTC_same rfl, inTC_same rfl, ⟨_, rfl, fun M => by rw [hpe, c', Bool.false_and]; rfl⟩, trivial⟩ ⟨rfl, rfl, rfl, rfl, trivial⟩)
            | (refine RunF_sound tab_ok noX_local 24 [false] _ _ rfl (by simpa using c) ?_; exact T _ ⟨inTC_same rfl, inTC_same rfl, inTC_same rfl, inTC_same rfl, inTC_same rfl, inTC_same rfl, inTC_same rfl, ⟨_, rfl, fun M => by rw [hpe, c', Bool.false_and]; rfl⟩, trivial⟩ ⟨rfl, rfl, rfl, rfl, trivial⟩)
            | (refine RunF_sound tab_ok noX_local 25 [false] _ _ rfl (by simpa using c) ?_; exact T _ ⟨inTC_same rfl, inTC_same rfl, inTC_same rfl, inTC_same rfl, inTC_same rfl, inTC_same rfl, inTC_same rfl, ⟨_, rfl, fun M => by rw [hpe, c', Bool.false_and]; rfl⟩, trivial⟩ ⟨rfl, rfl, rfl, rfl, trivial⟩)
            | (refine RunF_sound tab_ok noX_local 26 [false] _ _ rfl (by simpa using c) ?_; exact T _ ⟨inTC_same rfl, inTC_same rfl, inTC_same rfl, inTC_same rfl, inTC_same rfl, inTC_same rfl, inTC_same rfl, ⟨_, rfl, fun M => by rw [hpe, c', Bool.false_and]; rfl⟩, trivial⟩ ⟨rfl, rfl, rfl, rfl, trivial⟩)
            | (refine RunF_sound tab_ok noX_local 27 [false] _ _ rfl (by simpa using c) ?_; exact T _ ⟨inTC_same rfl, inTC_same rfl, inTC_same rfl, inTC_same rfl, inTC_same rfl, inTC_same rfl, inTC_same rfl, ⟨_, rfl, fun M => by rw [hpe, c', Bool.false_and]; rfl⟩, trivial⟩ ⟨rfl, rfl, rfl, rfl, trivial⟩)
            | (refine RunF_sound tab_ok noX_local 28 [false] _ _ rfl (by simpa using c) ?_; exact T _ ⟨inTC_same rfl, inTC_same rfl, inTC_same rfl, inTC_same rfl, inTC_same rfl, inTC_same rfl, inTC_same rfl, ⟨_, rfl, fun M => by rw [hpe, c', Bool.false_and]; rfl⟩, trivial⟩ ⟨rfl, rfl, rfl, rfl, trivial⟩)
            | (refine RunF_sound tab_ok noX_local 29 [false] _ _ rfl (by simpa using c) ?_; exact T _ ⟨inTC_same rfl, inTC_same rfl, inTC_same rfl, inTC_same rfl, inTC_same rfl, inTC_same rfl, inTC_same rfl, ⟨_, rfl, fun M => by rw [hpe, c', Bool.false_and]; rfl⟩, trivial⟩ ⟨rfl, rfl, rfl, rfl, trivial⟩)
        · have hpe : p a b = (R.has a b && !S.has a b) := by rw [← hp]; rfl
          refine RunF_sound tab_ok noX_local 100 [true, false, false, true] _ _ rfl ?_ ?_
          · simp; omega
          refine Run.callFn noX_local rfl rfl rfl rfl rfl rfl rfl hasR_enters rfl (fun w' _ => hasR_ok R hn a b w') ?_
          rw [hI]
          by_cases c : R.has a b = true
          · refine RunF_sound tab_ok noX_local 100 [true] _ _ rfl ?_ ?_
            · simp [c]
            refine Run.callFn noX_local rfl rfl rfl rfl rfl rfl rfl hasR_enters rfl (fun w' _ => hasR_ok S hnS a b w') ?_
            rw [hJ]
            refine RunF_sound tab_ok noX_local 100 [] _ _ rfl ?_ ?_
            · simp
            exact T _ ⟨inTC_same rfl, inTC_same rfl, inTC_same rfl, inTC_same rfl, inTC_same rfl, inTC_same rfl, inTC_same rfl, ⟨_, rfl, fun M => by rw [hpe, c, Bool.true_and]⟩, trivial⟩ ⟨rfl, rfl, rfl, rfl, trivial⟩
          · have c' : R.has a b = false := by simpa using c
            first
            | (refine RunF_sound tab_ok noX_local 8 [false] _ _ rfl (by simpa using c) ?_; exact T _ ⟨inTC_same rfl, inTC_same rfl, inTC_same rfl, inTC_same rfl, inTC_same rfl, inTC_same rfl, inTC_same rfl, ⟨_, rfl, fun M => by rw [hpe, c', Bool.false_and]; rfl⟩, trivial⟩ ⟨rfl, rfl, rfl, rfl, trivial⟩)
            | (refine RunF_sound tab_ok noX_local 9 [false] _ _ rfl (by simpa using c) ?_; exact T _ ⟨inTC_same rfl, inTC_same rfl, inTC_same rfl, inTC_same rfl, inTC_same rfl, inTC_same rfl, inTC_same rfl, ⟨_, rfl, fun M => by rw [hpe, c', Bool.false_and]; rfl⟩, trivial⟩ ⟨rfl, rfl, rfl, rfl, trivial⟩)
            | (refine RunF_sound tab_ok noX_local 10 [false] _ _ rfl (by simpa using c) ?_; exact T _ ⟨inTC_same rfl, inTC_same rfl, inTC_same rfl, inTC_same rfl, inTC_same rfl, inTC_same rfl, inTC_same rfl, ⟨_, rfl, fun M => by rw [hpe, c', Bool.false_and]; rfl⟩, trivial⟩ ⟨rfl, rfl, rfl, rfl, trivial⟩)
            | (refine RunF_sound tab_ok noX_local 11 [false] _ _ rfl (by simpa using c) ?_; exact T _ ⟨inTC_same rfl, inTC_same rfl, inTC_same rfl, inTC_same rfl, inTC_same rfl, inTC_same rfl, inTC_same rfl, ⟨_, rfl, fun M => by rw [hpe, c', Bool.false_and]; rfl⟩, trivial⟩ ⟨rfl, rfl, rfl, rfl, trivial⟩)
            | (refine RunF_sound tab_ok noX_local 12 [false] _ _ rfl (by simpa using c) ?_; exact T _ ⟨inTC_same rfl, inTC_same rfl, inTC_same rfl, inTC_same rfl, inTC_same rfl, inTC_same rfl, inTC_same rfl, ⟨_, rfl, fun M => by rw [hpe, c', Bool.false_and]; rfl⟩, trivial⟩ ⟨rfl, rfl, rfl, rfl, trivial⟩)
            | (refine RunF_sound tab_ok noX_local 13 [false] _ _ rfl (by simpa using c) ?_; exact T _ ⟨inTC_same rfl, inTC_same rfl, inTC_same rfl, inTC_same rfl, inTC_same rfl, inTC_same rfl, inTC_same rfl, ⟨_, rfl, fun M => by rw [hpe, c', Bool.false_and]; rfl⟩, trivial⟩ ⟨rfl, rfl, rfl, rfl, trivial⟩)
            | (refine RunF_sound tab_ok noX_local 14 [false] _ _ rfl (by simpa using c) ?_; exact T _ ⟨inTC_same rfl, inTC_same rfl, inTC_same rfl, inTC_same rfl, inTC_same rfl, inTC_same rfl, inTC_same rfl, ⟨_, rfl, fun M => by rw [hpe, c', Bool.false_and]; rfl⟩, trivial⟩ ⟨rfl, rfl, rfl, rfl, trivial⟩)
            | (refine RunF_sound tab_ok noX_local 15 [false] _ _ rfl (by simpa using c) ?_; exact T _ ⟨inTC_same rfl, inTC_same rfl, inTC_same rfl, inTC_same rfl, inTC_same rfl, inTC_same rfl, inTC_same rfl, ⟨_, rfl, fun M => by rw [hpe, c', Bool.false_and]; rfl⟩, trivial⟩ ⟨rfl, rfl, rfl, rfl, trivial⟩)
            | (refine RunF_sound tab_ok noX_local 16 [false] _ _ rfl (by simpa using c) ?_; exact T _ ⟨inTC_same rfl, inTC_same rfl, inTC_same rfl, inTC_same rfl, inTC_same rfl, inTC_same rfl, inTC_same rfl, ⟨_, rfl, fun M => by rw [hpe, c', Bool.false_and]; rfl⟩, trivial⟩ ⟨rfl, rfl, rfl, rfl, trivial⟩)
            | (refine RunF_sound tab_ok noX_local 17 [false] _ _ rfl (by simpa using c) ?_; exact T _ ⟨inTC_same rfl, inTC_same rfl, inTC_same rfl, inTC_same rfl, inTC_same rfl, inTC_same rfl, inTC_same rfl, ⟨_, rfl, fun M => by rw [hpe, c', Bool.false_and]; rfl⟩, trivial⟩ ⟨rfl, rfl, rfl, rfl, trivial⟩)
            | (refine RunF_sound tab_ok noX_local 18 [false] _ _ rfl (by simpa using c) ?_; exact T _ ⟨inTC_same rfl, inTC_same rfl, inTC_same rfl, inTC_same rfl, inTC_same rfl, inTC_same rfl, inTC_same rfl, ⟨_, rfl, fun M => by rw [hpe, c', Bool.false_and]; rfl⟩, trivial⟩ ⟨rfl, rfl, rfl, rfl, trivial⟩)
            | (refine RunF_sound tab_ok noX_local 19 [false] _ _ rfl (by simpa using c) ?_; exact T _ ⟨inTC_same rfl, inTC_same rfl, inTC_same rfl, inTC_same rfl, inTC_same rfl, inTC_same rfl, inTC_same rfl, ⟨_, rfl, fun M => by rw [hpe, c', Bool.false_and]; rfl⟩, trivial⟩ ⟨rfl, rfl, rfl, rfl, trivial⟩)
            | (refine RunF_sound tab_ok noX_local 20 [false] _ _ rfl (by simpa using c) ?_; exact T _ ⟨inTC_same rfl, inTC_same rfl, inTC_same rfl, inTC_same rfl, inTC_same rfl, inTC_same rfl, inTC_same rfl, ⟨_, rfl, fun M => by rw [hpe, c', Bool.false_and]; rfl⟩, trivial⟩ ⟨rfl, rfl, rfl, rfl, trivial⟩)
            | (refine RunF_sound tab_ok noX_local 21 [false] _ _ rfl (by simpa using c) ?_; exact T _ ⟨inTC_same rfl, inTC_same rfl, inTC_same rfl, inTC_same rfl, inTC_same rfl, inTC_same rfl, inTC_same rfl, ⟨_, rfl, fun M => by rw [hpe, c', Bool.false_and]; rfl⟩, trivial⟩ ⟨rfl, rfl, rfl, rfl, trivial⟩)
            | (refine RunF_sound tab_ok noX_local 22 [false] _ _ rfl (by simpa using c) ?_; exact T _ ⟨inTC_same rfl, inTC_same rfl, inTC_same rfl, inTC_same rfl, inTC_same rfl, inTC_same rfl, inTC_same rfl, ⟨_, rfl, fun M => by rw [hpe, c', Bool.false_and]; rfl⟩, trivial⟩ ⟨rfl, rfl, rfl, rfl, trivial⟩)
            | (refine RunF_sound tab_ok noX_local 23 [false] _ _ rfl (by simpa using c) ?_; exact T _ ⟨inTC_same rfl, inTC_same rfl, inTC_same rfl, inTC_same rfl, inTC_same rfl, inTC_same rfl, inTC_same rfl, ⟨_, rfl, fun M => by rw [hpe, c', Bool.false_and]; rfl⟩, trivial⟩ ⟨rfl, rfl, rfl, rfl, trivial⟩)
            | (refine RunF_sound tab_ok noX_local 24 [false] _ _ rfl (by simpa using c) ?_; exact T _ ⟨inTC_same rfl, inTC_same rfl, inTC_same rfl, inTC_same rfl, inTC_same rfl, inTC_same rfl, inTC_same rfl, ⟨_, rfl, fun M => by rw [hpe, c', Bool.false_and]; rfl⟩, trivial⟩ ⟨rfl, rfl, rfl, rfl, trivial⟩)
            | (refine RunF_sound tab_ok noX_local 25 [false] _ _ rfl (by simpa using c) ?_; exact T _ ⟨inTC_same rfl, inTC_same rfl, inTC_same rfl, inTC_same rfl, inTC_same rfl, inTC_same rfl, inTC_same rfl, ⟨_, rfl, fun M => by rw [hpe, c', Bool.false_and]; rfl⟩, trivial⟩ ⟨rfl, rfl, rfl, rfl, trivial⟩)
            | (refine RunF_sound tab_ok noX_local 26 [false] _ _ rfl (by simpa using c) ?_; exact T _ ⟨inTC_same rfl, inTC_same rfl, inTC_same rfl, inTC_same rfl, inTC_same rfl, inTC_same rfl, inTC_same rfl, ⟨_, rfl, fun M => by rw [hpe, c', Bool.false_and]; rfl⟩, trivial⟩ ⟨rfl, rfl, rfl, rfl, trivial⟩)
            | (refine RunF_sound tab_ok noX_local 27 [false] _ _ rfl (by simpa using c) ?_; exact T _ ⟨inTC_same rfl, inTC_same rfl, inTC_same rfl, inTC_same rfl, inTC_same rfl, inTC_same rfl, inTC_same rfl, ⟨_, rfl, fun M => by rw [hpe, c', Bool.false_and]; rfl⟩, trivial⟩ ⟨rfl, rfl, rfl, rfl, trivial⟩)
            | (refine RunF_sound tab_ok noX_local 28 [false] _ _ rfl (by simpa using c) ?_; exact T _ ⟨inTC_same rfl, inTC_same rfl, inTC_same rfl, inTC_same rfl, inTC_same rfl, inTC_same rfl, inTC_same rfl, ⟨_, rfl, fun M => by rw [hpe, c', Bool.false_and]; rfl⟩, trivial⟩ ⟨rfl, rfl, rfl, rfl, trivial⟩)
            | (refine RunF_sound tab_ok noX_local 29 [false] _ _ rfl (by simpa using c) ?_; exact T _ ⟨inTC_same rfl, inTC_same rfl, inTC_same rfl, inTC_same rfl, inTC_same rfl, inTC_same rfl, inTC_same rfl, ⟨_, rfl, fun M => by rw [hpe, c', Bool.false_and]; rfl⟩, trivial⟩ ⟨rfl, rfl, rfl, rfl, trivial⟩)
        · have hpe : p a b = (List.range R.n.toNat).any (fun c => R.has a c && S.has c b) := by rw [← hp]; rfl
          refine RunF_sound tab_ok noX_local 100 [true, false, false, false, true] _ _ rfl ?_ ?_
          · simp; omega
          suffices K : ∀ (g c : Nat), (c : Int) + g = R.n → ∀ σ, inTC σ.t [(0, .v (.int .i64 (3 : Int))), (4, .ptr 0 0), (5, .ptr 1 0), (6, .ptr 2 0), (7, .ptr 3 0), (8, .v (.int .i64 (a : Int))), (9, .v (.int .i64 (b : Int))), (10, .v (.bool ((List.range c).any fun c => R.has a c && S.has c b))), (11, .v (.int .i64 (c : Int)))] →
              inT σ.h [(0, .cells 60 [.vals 65 (relV R)]), (1, .cells 60 [.vals 65 (relV S)]), (2, .cells 60 [.vals 65 (relV (Rl.void 0))]), (3, .cells 60 [.vals 65 (relV (Rl.gen R.n (Rl.seen p a b)))])] → Run _ _ σ by
            exact K R.n.toNat 0 (by omega) _ ⟨inTC_same rfl, inTC_same rfl, inTC_same rfl, inTC_same rfl, inTC_same rfl, inTC_same rfl, inTC_same rfl, ⟨_, rfl, fun M => rfl⟩, inTC_same rfl, trivial⟩ ⟨rfl, rfl, rfl, rfl, trivial⟩
          intro g
          induction g with
          | zero =>
            intro c hc σ ht hh
            refine Run.toC ?_ ht hh (n' := 4)
            refine RunF_sound tab_ok noX_local 100 [false] _ _ rfl ?_ ?_
            · simp; omega
            refine T _ ⟨inTC_same rfl, inTC_same rfl, inTC_same rfl, inTC_same rfl, inTC_same rfl, inTC_same rfl, inTC_same rfl, ⟨_, rfl, fun M => ?_⟩, trivial⟩ ⟨rfl, rfl, rfl, rfl, trivial⟩
            rw [hpe, show R.n.toNat = c by omega]
          | succ g ihg =>
            intro c hc σ ht hh
            refine Run.toC ?_ ht hh (n' := 4)
            have hX : hasI R a c = R.has a c := hasI_in han (by omega)
            have hY : hasI S c b = S.has c b := hasI_in (by omega) (by omega)
            have hany : (List.range (c + 1)).any (fun c => R.has a c && S.has c b) = ((List.range c).any (fun c => R.has a c && S.has c b) || (R.has a c && S.has c b)) := by
              rw [List.range_succ, List.any_append]; simp
            by_cases cc : (List.range c).any (fun c => R.has a c && S.has c b) = true
            · rw [cc] at hany ⊢
              refine RunF_sound tab_ok noX_local 100 [true, true] _ _ rfl ?_ ?_
              · simp; omega
              exact ihg (c + 1) (by omega) _ ⟨inTC_same rfl, inTC_same rfl, inTC_same rfl, inTC_same rfl, inTC_same rfl, inTC_same rfl, inTC_same rfl, ⟨_, rfl, fun M => by rw [hany]; rfl⟩, inTC_same (i64_eq (wrap_succ (by omega))), trivial⟩ ⟨rfl, rfl, rfl, rfl, trivial⟩
            · have cc' : (List.range c).any (fun c => R.has a c && S.has c b) = false := by simpa using cc
              rw [cc'] at hany ⊢
              rw [Bool.false_or] at hany
              refine RunF_sound tab_ok noX_local 100 [true, false] _ _ rfl ?_ ?_
              · simp; omega
              refine Run.callFn noX_local rfl rfl rfl rfl rfl rfl rfl hasR_enters rfl (fun w' _ => hasR_ok R hn a c w') ?_
              rw [hX]
              by_cases c1 : R.has a c = true
              · refine RunF_sound tab_ok noX_local 100 [true] _ _ rfl ?_ ?_
                · simp [c1]
                refine Run.callFn noX_local rfl rfl rfl rfl rfl rfl rfl hasR_enters rfl (fun w' _ => hasR_ok S hnS c b w') ?_
                rw [hY]
                refine RunF_sound tab_ok noX_local 100 [] _ _ rfl ?_ ?_
                · simp
                exact ihg (c + 1) (by omega) _ ⟨inTC_same rfl, inTC_same rfl, inTC_same rfl, inTC_same rfl, inTC_same rfl, inTC_same rfl, inTC_same rfl, ⟨_, rfl, fun M => by rw [hany, c1, Bool.true_and]⟩, inTC_same (i64_eq (wrap_succ (by omega))), trivial⟩ ⟨rfl, rfl, rfl, rfl, trivial⟩
              · have c1' : R.has a c = false := by simpa using c1
                refine RunF_sound tab_ok noX_local 100 [false] _ _ rfl ?_ ?_
                · simpa using c1
                exact ihg (c + 1) (by omega) _ ⟨inTC_same rfl, inTC_same rfl, inTC_same rfl, inTC_same rfl, inTC_same rfl, inTC_same rfl, inTC_same rfl, ⟨_, rfl, fun M => by rw [hany, c1', Bool.false_and]; rfl⟩, inTC_same (i64_eq (wrap_succ (by omega))), trivial⟩ ⟨rfl, rfl, rfl, rfl, trivial⟩
      intro σ ht hh
      refine Run.toC ?_ ht hh (n' := 4)
      by_cases c : p a b = true
      · refine RunF_sound tab_ok noX_local 100 [true] _ _ rfl ?_ ?_
        · simp [c]
        refine Run.drawA noX_local rfl [3] [] rfl rfl trivial ?_
        refine RunOF_sound tab_ok noX_local rfl rfl 100 [] _ _ rfl ?_ ?_
        · simp [relV_get _ _ ha', intAt_row _ _ ha', okCell, Value.oneCell', inT]; omega
        refine RunO.done ?_
        refine RunF_sound tab_ok noX_local 100 [] _ _ rfl ?_ ?_
        · simp
        refine ihe (b + 1) (by omega) _ ⟨rfl, rfl, rfl, rfl, rfl, rfl, i64_eq (wrap_succ (by omega)), trivial⟩ ⟨rfl, rfl, rfl, congrArg (fun l => some (Blk.cells 60 [.vals 65 l])) ?_, trivial⟩
        simp [intAt_row _ _ ha', shl1_un, relV_set _ _ ha', Rl.seen_yes ha' hb' c]
      · refine RunF_sound tab_ok noX_local 100 [false] _ _ rfl ?_ ?_
        · simpa using c
        refine ihe (b + 1) (by omega) _ ⟨rfl, rfl, rfl, rfl, rfl, rfl, i64_eq (wrap_succ (by omega)), trivial⟩ ⟨rfl, rfl, rfl, ?_, trivial⟩
        rw [← Rl.seen_no (by simpa using c)]; rfl

theorem two_R_enters : Enters Tryz.prog 51 := enters_mk Tryz.func51 (by decide) rfl

theorem twoL_rt {R S : Rl} (hR : Rt R) (hS : Rt S) (hn : R.n = S.n) : twoL R S = (R, S) := by
  unfold twoL
  rw [hR.right, hS.right, if_pos hn]

theorem twoR_n (op : Nat) {R S : Rl} (hR : Rt R) (hS : Rt S) (hn : R.n = S.n) : (twoR op R S).n = R.n := by
  unfold twoR; rw [twoL_rt hR hS hn]; exact Rl.n_gen _ _

theorem twoR_has (op : Nat) {R S : Rl} (hR : Rt R) (hS : Rt S) (hn : R.n = S.n) (x y : Nat) : (twoR op R S).has x y = pTwo op R S x y := by
  unfold twoR
  rw [twoL_rt hR hS hn, Rl.has_gen]
  cases h : pTwo op R S x y with
  | false => simp
  | true =>
    have := pTwo_lt op R S hR.right hS.right hn x y h
    have h2 := hR.hi
    rw [decide_eq_true (by omega)]; rfl

theorem twoR_rt (op : Nat) {R S : Rl} (hR : Rt R) (hS : Rt S) (hn : R.n = S.n) : Rt (twoR op R S) := by
  have h1 := twoR_n op hR hS hn
  refine ⟨by rw [h1]; exact hR.lo, by rw [h1]; exact hR.hi, fun a b h => ?_⟩
  rw [h1]
  rw [twoR_has op hR hS hn] at h
  exact pTwo_lt op R S hR.right hS.right hn a b h

theorem comp_has {R S : Rl} (hR : Rt R) (hS : Rt S) (hn : R.n = S.n) (x y : Nat) : (twoR 3 R S).has x y = true ↔ ∃ c, R.has x c = true ∧ S.has c y = true := by
  rw [twoR_has 3 hR hS hn]
  unfold pTwo
  simp only [List.any_eq_true, List.mem_range, Bool.and_eq_true]
  constructor
  · rintro ⟨c, _, h⟩; exact ⟨c, h⟩
  · rintro ⟨c, h⟩; exact ⟨c, by have := hR.lt _ _ h.1; omega, h⟩

theorem union_has {R S : Rl} (hR : Rt R) (hS : Rt S) (hn : R.n = S.n) (x y : Nat) : (twoR 0 R S).has x y = true ↔ R.has x y = true ∨ S.has x y = true := by
  rw [twoR_has 0 hR hS hn]
  unfold pTwo
  simp

noncomputable def more (S : Rl) : Rl := twoR 0 S (twoR 3 S S)

theorem more_n {S : Rl} (hS : Rt S) : (more S).n = S.n := by
  unfold more
  rw [twoR_n 0 hS (twoR_rt 3 hS hS rfl) (twoR_n 3 hS hS rfl).symm]

theorem more_rt {S : Rl} (hS : Rt S) : Rt (more S) := twoR_rt 0 hS (twoR_rt 3 hS hS rfl) (twoR_n 3 hS hS rfl).symm

theorem more_has {S : Rl} (hS : Rt S) (x y : Nat) : (more S).has x y = true ↔ S.has x y = true ∨ ∃ c, S.has x c = true ∧ S.has c y = true := by
  unfold more
  rw [union_has hS (twoR_rt 3 hS hS rfl) (twoR_n 3 hS hS rfl).symm, comp_has hS hS rfl]

theorem more_missing {S : Rl} (hS : Rt S) (h : more S ≠ S) : missing (more S) < missing S := by
  unfold missing
  apply countP_lt
  · intro p _ hp
    simp only [Bool.not_eq_true'] at hp ⊢
    cases hb : S.has (p / 64) (p % 64) with
    | false => rfl
    | true => rw [(more_has hS _ _).2 (.inl hb)] at hp; cases hp
  · by_cases hx : ∃ x y, x < 64 ∧ y < 64 ∧ (more S).has x y = true ∧ S.has x y = false
    · obtain ⟨x, y, h1, h2, h3, h4⟩ := hx
      refine ⟨x * 64 + y, List.mem_range.2 (by omega), ?_⟩
      have e1 : (x * 64 + y) / 64 = x := by omega
      have e2 : (x * 64 + y) % 64 = y := by omega
      simp [e1, e2, h3, h4]
    · exfalso
      apply h
      apply Rl.ext_has
      · exact more_n hS
      · intro a b ha hb
        cases h1 : S.has a b with
        | true => exact (more_has hS _ _).2 (.inl h1)
        | false =>
          cases h2 : (more S).has a b with
          | false => rfl
          | true => exact absurd ⟨a, b, ha, hb, h2, h1⟩ hx

theorem more_fix {R S : Rl} (hR : Rt R) (hS : Rt S) (hn : S.n = R.n) (h1 : ∀ a b, R.has a b = true → S.has a b = true) (h2 : ∀ a b, S.has a b = true → TransGen (Pr R) a b) (h : more S = S) : S = clos R :=
  clos_of hR hn h1 h2 fun a b c ha hb => by rw [← h]; exact (more_has hS a c).2 (.inr ⟨b, ha, hb⟩)

theorem more_in {R S : Rl} (hS : Rt S) (h2 : ∀ a b, S.has a b = true → TransGen (Pr R) a b) : ∀ a b, (more S).has a b = true → TransGen (Pr R) a b := fun a b h => by
  rcases (more_has hS a b).1 h with h | ⟨c, h, h'⟩
  · exact h2 _ _ h
  · exact TransGen_trans (h2 _ _ h) (h2 _ _ h')

/-! ### The code's way: number by number. -/

theorem plusR_ok (r : Rl) (w : World) : Gives Tryz.prog 88 [encRel r] w (encRel (clos (rightL r))) := by
  refine Gives.of_run Tryz.func88 rfl (by show 1 ≤ 16; decide) ?_
  refine RunF_sound tab_ok noX_local 100 [] _ _ rfl ?_ ?_
  · simp
  refine Run.callFn noX_local rfl rfl rfl rfl rfl rfl rfl rightR_enters rfl (fun w' _ => rightR_ok r w') ?_
  have hR := rt_right r
  generalize rightL r = R at hR
  obtain ⟨Z, hZ⟩ : ∃ Z, Z = clos R := ⟨_, rfl⟩
  rw [← hZ]
  refine RunF_sound tab_ok noX_local 100 [] _ _ rfl ?_ ?_
  · simp [segsVals, relV_one']
  suffices H : ∀ (m : Nat) (S : Rl), missing S < m → Rt S → S.n = R.n → (∀ a b, R.has a b = true → S.has a b = true) → (∀ a b, S.has a b = true → Relation.TransGen (Pr R) a b) → ∀ σ, inT σ.t [(1, .ptr 0 0), (2, .ptr 1 0)] →
      inT σ.h [(0, .cells 60 [.vals 65 (relV S)]), (1, .cells 60 [.vals 65 (relV (Rl.void 0))])] → Run _ _ σ by
    refine H (missing R + 1) R (by omega) hR rfl (fun _ _ h => h) (fun _ _ h => .single h) _ ⟨rfl, rfl, trivial⟩ ⟨?_, rfl, trivial⟩
    simp [lk]
  intro m
  induction m with
  | zero => intro S h; omega
  | succ m ih =>
    intro S hm hS hn h1 h2 σ ht hh
    refine Run.to ?_ ht hh (n' := 2)
    have hmis := more_missing hS
    have hfix := more_fix hR hS hn h1 h2
    have hrt := more_rt hS
    have hn2 := (more_n hS).trans hn
    have h3 := more_in hS h2
    have h4 : ∀ a b, R.has a b = true → (more S).has a b = true := fun a b h => (more_has hS a b).2 (.inl (h1 a b h))
    obtain ⟨X, g1⟩ : ∃ X : Rl, X = twoR 3 S S := ⟨_, rfl⟩
    have k1 : ∀ w', Gives Tryz.prog 51 [.int .i64 3, encRel S, encRel S] w' (encRel X) := fun w' => by rw [g1]; exact two_R 3 (by decide) _ _ w'
    obtain ⟨Y, g2⟩ : ∃ Y : Rl, Y = more S := ⟨_, rfl⟩
    have k2 : ∀ w', Gives Tryz.prog 51 [.int .i64 0, encRel S, encRel X] w' (encRel Y) := fun w' => by rw [g2, more, ← g1]; exact two_R 0 (by decide) _ _ w'
    rw [← g2] at hmis hfix hrt hn2 h3 h4
    clear g1 g2
    have hcmp := eqRel Y S
    refine RunF_sound tab_ok noX_local 100 [] _ _ rfl ?_ ?_
    · simp
    refine' Run.join (todo' := _) [(1, .ptr 0 0), (2, .ptr 1 0), (3, .ptr 2 0)] [(0, .cells 60 [.vals 65 (relV S)]), (1, .cells 60 [.vals 65 (relV (Rl.void 0))]), (2, .cells 60 [.vals 65 (relV Y)])] 3 ?_ ?_
    rotate_left
    · intro J
      refine Run.drawF2 noX_local rfl 5 3 4 rfl rfl [] [(0, .cells 60 [.vals 65 (relV S)])] rfl rfl rfl rfl rfl rfl ⟨rfl, trivial⟩ ?_ ?_ ?_
      · refine RunOF_sound tab_ok noX_local rfl rfl 200 [] _ _ rfl ?_ ?_
        · simp [inT, lk]
        refine RunO.callFn noX_local rfl rfl rfl rfl rfl rfl rfl rfl two_R_enters rfl (fun w' _ => k1 w') ?_
        refine RunOF_sound tab_ok noX_local rfl rfl 200 [] _ _ rfl ?_ ?_
        · simp
        refine RunO.callFn noX_local rfl rfl rfl rfl rfl rfl rfl rfl two_R_enters rfl (fun w' _ => k2 w') ?_
        refine RunOF_sound tab_ok noX_local rfl rfl 200 [] _ _ rfl ?_ ?_
        · simp [inT, lk, segsVals, relV_one']
        refine RunO.done ?_
        refine J _ ?_ ?_
        · exact ⟨⟨_, rfl, fun M => rfl⟩, ⟨_, rfl, fun M => rfl⟩, ⟨_, rfl, fun M => rfl⟩, trivial⟩
        · refine ⟨?_, ?_, ?_, trivial⟩ <;> simp [lk]
      · refine RunOF_sound tab_ok noX_local rfl rfl 200 [] _ _ rfl ?_ ?_
        · simp
        refine RunO.callFn noX_local rfl rfl rfl rfl rfl rfl rfl rfl two_R_enters rfl (fun w' _ => k1 w') ?_
        refine RunOF_sound tab_ok noX_local rfl rfl 200 [] _ _ rfl ?_ ?_
        · simp [inT, lk]
        refine RunO.callFn noX_local rfl rfl rfl rfl rfl rfl rfl rfl two_R_enters rfl (fun w' _ => k2 w') ?_
        refine RunOF_sound tab_ok noX_local rfl rfl 200 [] _ _ rfl ?_ ?_
        · simp [inT, lk, segsVals, relV_one']
        refine RunO.done ?_
        refine J _ ?_ ?_
        · exact ⟨⟨_, rfl, fun M => rfl⟩, ⟨_, rfl, fun M => rfl⟩, ⟨_, rfl, fun M => rfl⟩, trivial⟩
        · refine ⟨?_, ?_, ?_, trivial⟩ <;> simp [lk]
      · refine RunOF_sound tab_ok noX_local rfl rfl 200 [] _ _ rfl ?_ ?_
        · simp
        refine RunO.callFn noX_local rfl rfl rfl rfl rfl rfl rfl rfl two_R_enters rfl (fun w' _ => k1 w') ?_
        refine RunOF_sound tab_ok noX_local rfl rfl 200 [] _ _ rfl ?_ ?_
        · simp
        refine RunO.callFn noX_local rfl rfl rfl rfl rfl rfl rfl rfl two_R_enters rfl (fun w' _ => k2 w') ?_
        refine RunOF_sound tab_ok noX_local rfl rfl 200 [] _ _ rfl ?_ ?_
        · simp [inT, lk, segsVals, relV_one']
        refine RunO.done ?_
        refine J _ ?_ ?_
        · exact ⟨⟨_, rfl, fun M => rfl⟩, ⟨_, rfl, fun M => rfl⟩, ⟨_, rfl, fun M => rfl⟩, trivial⟩
        · refine ⟨?_, ?_, ?_, trivial⟩ <;> simp [lk]
    by_cases c : Y = S
    · refine RunF_sound tab_ok noX_local 100 [] _ _ rfl ?_ ?_
      · simp
      refine Run.cmp rfl rfl rfl rfl rfl rfl (b := true) (c := true) (by rw [decide_eq_true c] at hcmp; exact hcmp) (.inl ⟨rfl, rfl⟩) ?_
      refine RunF_sound tab_ok noX_local 100 [true] _ _ rfl ?_ ?_
      · simp [segsVals, relV_one']
      refine Run.retP tab_ok Tryz.func88 rfl ?_ (fun M => ?_)
      · simp
      rw [hZ, ← hfix c]; rfl
    · refine RunF_sound tab_ok noX_local 100 [] _ _ rfl ?_ ?_
      · simp
      refine Run.cmp rfl rfl rfl rfl rfl rfl (b := false) (c := false) (by rw [decide_eq_false c] at hcmp; exact hcmp) (.inl ⟨rfl, rfl⟩) ?_
      refine RunF_sound tab_ok noX_local 100 [false] _ _ rfl ?_ ?_
      · simp [segsVals, relV_one']
      refine ih Y (by have := hmis c; omega) hrt hn2 h4 h3 _ ⟨rfl, rfl, trivial⟩ ⟨?_, rfl, trivial⟩
      simp [lk]

theorem plusR_enters : Enters Tryz.prog 88 := enters_mk Tryz.func88 (by decide) rfl

theorem irreflexiveR_ok (r : Rl) (w : World) : Gives Tryz.prog 87 [encRel r] w (.bool (irB (rightL r))) := by
  refine Gives.of_run Tryz.func87 rfl (by show 1 ≤ 16; decide) ?_
  refine RunF_sound tab_ok noX_local 100 [] _ _ rfl ?_ ?_
  · simp
  refine Run.callFn noX_local rfl rfl rfl rfl rfl rfl rfl rightR_enters rfl (fun w' _ => rightR_ok r w') ?_
  have hR := rt_right r
  generalize rightL r = R at hR
  have hlo := hR.lo
  have hhi := hR.hi
  refine RunF_sound tab_ok noX_local 100 [] _ _ rfl ?_ ?_
  · simp [segsVals, relV_one']
  suffices H : ∀ (d i : Nat), (i : Int) + d = R.n → (∀ j, j < i → R.has j j = false) → ∀ σ, inT σ.t [(1, .ptr 0 0), (3, .v (.int .i64 (i : Int)))] →
      inT σ.h [(0, .cells 60 [.vals 65 (relV R)])] → Run _ _ σ by
    refine H R.n.toNat 0 (by omega) (fun j h => by omega) _ ⟨rfl, rfl, trivial⟩ ⟨?_, trivial⟩
    simp [lk]
  intro d
  induction d with
  | zero =>
    intro i hi hj σ ht hh
    refine Run.to ?_ ht hh (n' := 2)
    refine RunF_sound tab_ok noX_local 100 [false] _ _ rfl ?_ ?_
    · simp; omega
    · refine Run.retP tab_ok Tryz.func87 rfl trivial (fun M => ?_)
      have : irB R = true := irB_true fun j => by
        cases h : R.has j j with
        | false => rfl
        | true => have := hR.lt _ _ h; rw [hj j (by omega)] at h; cases h
      rw [this]; rfl
  | succ d ih =>
    intro i hi hj σ ht hh
    refine Run.to ?_ ht hh (n' := 2)
    have hi' : i < 64 := by omega
    have hin : hasI R (i : Int) (i : Int) = R.has i i := hasI_in (by omega) (by omega)
    refine RunF_sound tab_ok noX_local 100 [true] _ _ rfl ?_ ?_
    · simp; omega
    refine Run.callFn noX_local rfl rfl rfl rfl rfl rfl rfl hasR_enters rfl (fun w' _ => hasR_ok R ⟨hlo, hhi⟩ (i : Int) (i : Int) w') ?_
    rw [hin]
    by_cases c : R.has i i = true
    · refine RunF_sound tab_ok noX_local 100 [true] _ _ rfl ?_ ?_
      · simp [c]
      refine Run.retP tab_ok Tryz.func87 rfl trivial (fun M => ?_)
      have : irB R = false := irB_false (i := i) c
      rw [this]; rfl
    · refine RunF_sound tab_ok noX_local 100 [false] _ _ rfl ?_ ?_
      · simpa using c
      refine ih (i + 1) (by omega) (fun j h => ?_) _ ⟨rfl, i64_eq (wrap_succ (by omega)), trivial⟩ ⟨rfl, trivial⟩
      by_cases e : j = i
      · subst e; simpa using c
      · exact hj j (by omega)

theorem irreflexiveR_enters : Enters Tryz.prog 87 := enters_mk Tryz.func87 (by decide) rfl

theorem acyclicR_ok (r : Rl) (w : World) : Gives Tryz.prog 49 [encRel r] w (.bool (irB (clos (rightL r)))) := by
  refine Gives.of_run Tryz.func49 rfl (by show 1 ≤ 6; decide) ?_
  refine RunF_sound tab_ok noX_local 100 [] _ _ rfl ?_ ?_
  · simp
  refine Run.callFn noX_local rfl rfl rfl rfl rfl rfl rfl plusR_enters rfl (fun w' _ => plusR_ok r w') ?_
  have hX := (clos_rt (rt_right r)).right
  generalize clos (rightL r) = X at hX
  refine RunF_sound tab_ok noX_local 100 [] _ _ rfl ?_ ?_
  · simp
  refine Run.callFn noX_local rfl rfl rfl rfl rfl rfl rfl irreflexiveR_enters rfl (fun w' _ => irreflexiveR_ok X w') ?_
  rw [hX]
  refine RunF_sound tab_ok noX_local 100 [] _ _ rfl ?_ ?_
  · simp
  exact Run.retP tab_ok Tryz.func49 rfl trivial (fun M => rfl)

theorem acyclicR_enters : Enters Tryz.prog 49 := enters_mk Tryz.func49 (by decide) rfl

theorem onL_all_has {n : Int} (h0 : 0 ≤ n) (h1 : n ≤ 64) {s : BitVec 64} (a b : Nat) : (onL n s).has a b = true ↔ a = b ∧ (a : Int) < n ∧ s.getLsbD a = true := by
  unfold onL
  rw [if_neg (by omega)]
  by_cases ha : a < 64
  · have e : (Rl.by_ n fun i => if (i : Int) < n ∧ s.getLsbD i = true then 1#64 <<< i else 0#64).row a = if (a : Int) < n ∧ s.getLsbD a = true then 1#64 <<< a else 0#64 := by
      rw [Rl.row_by, if_pos ha]
    rw [Rl.has, e]
    split
    · rename_i h
      rw [one_shl_get a b ha]
      simp [h]
      exact eq_comm
    · rename_i h
      simp
      intro _ h1
      exact Bool.eq_false_iff.2 fun h2 => h ⟨h1, h2⟩
  · constructor
    · intro h; exact absurd (Rl.has_lt _ h).1 ha
    · rintro ⟨rfl, h, _⟩; omega

theorem onL_n {n : Int} (h0 : 0 ≤ n) (h1 : n ≤ 64) {s : BitVec 64} : (onL n s).n = n := by
  unfold onL
  rw [if_neg (by omega)]
  exact Rl.n_by _ _

theorem onL_rt {n : Int} (h0 : 0 ≤ n) (h1 : n ≤ 64) {s : BitVec 64} : Rt (onL n s) := ⟨by rw [onL_n h0 h1]; exact h0, by rw [onL_n h0 h1]; exact h1, fun a b h => by
  rw [onL_n h0 h1]
  obtain ⟨rfl, h2, _⟩ := (onL_all_has h0 h1 a b).1 h
  exact ⟨h2, h2⟩⟩

def rowsX (s : List Ent) : Res := fun w fp => (∀ b, fp b ↔ ∃ e ∈ s, e.1 = b) ∧ (s.map fun e => e.1).Nodup ∧ ∀ e ∈ s, EntAt w e

theorem rowsX_local (s : List Ent) : Local (rowsX s) := fun _ _ _ ⟨h1, h2, h3⟩ _ hs =>
  ⟨h1, h2, fun e he => BlkAt.same (h3 e he) (hs e.1 ((h1 e.1).2 ⟨e, he, rfl⟩))⟩

theorem rowsX_join {M : AM.Loc} {w : World} {id : Nat} {l : List Nat} (s : List Ent) (hb : BlkAt M w id (.row 3 1 l.length (encN l))) : Joins (rowsX s) (fun b => b = (M id).1) (rowsX (s ++ [((M id).1, (M id).2, l)])) w := by
  rintro fp ⟨h1, h2, h3⟩ hF
  refine ⟨fun b => ?_, ?_, fun e he => ?_⟩
  · show fp b ∨ b = (M id).1 ↔ _
    rw [h1 b]
    constructor
    · rintro (⟨e, he, rfl⟩ | rfl)
      · exact ⟨e, by simp [he], rfl⟩
      · exact ⟨_, List.mem_append_right _ (List.mem_singleton.2 rfl), rfl⟩
    · rintro ⟨e, he, rfl⟩
      rcases List.mem_append.1 he with he | he
      · exact .inl ⟨e, he, rfl⟩
      · rw [List.mem_singleton] at he; subst he; exact .inr rfl
  · rw [List.map_append, List.nodup_append]
    refine ⟨h2, by simp, ?_⟩
    intro a ha b hb' e
    simp only [List.map_cons, List.map_nil, List.mem_singleton] at hb'
    subst hb'
    obtain ⟨q, hq, rfl⟩ := List.mem_map.1 ha
    exact hF _ rfl ((h1 _).2 ⟨q, hq, e⟩)
  · rcases List.mem_append.1 he with he | he
    · exact h3 e he
    · rw [List.mem_singleton] at he; subst he; exact hb

def lz (id : Nat) : List Ent → AV
  | [] => .v (.slice none 0 0)
  | _ :: s => .sl id 1 0 (s.length + 1)

def lr (id : Nat) : List Ent → List (Nat × Blk)
  | [] => []
  | e :: s => [(id, .row 24 1 (s.length + 1) ((e :: s).map slV))]

theorem W_trans {R : Rl} : ∀ {n a b : Nat}, W R (n + 1) a b → TransGen (Pr R) a b
  | 0, a, b, hw => by
    obtain ⟨c, h, e⟩ := hw
    have e' : c = b := e
    subst e'
    exact .single h
  | n + 1, a, b, hw => by
    obtain ⟨c, h, k⟩ := hw
    exact TransGen_trans (.single h) (W_trans k)

theorem trans_W {R : Rl} {a b : Nat} (h : TransGen (Pr R) a b) : ∃ n, W R (n + 1) a b := by
  induction h with
  | single h => exact ⟨0, _, h, rfl⟩
  | tail _ h ih => obtain ⟨n, hn⟩ := ih; exact ⟨n + 1, W_snoc R hn h⟩

/-! ### Relations in a row -/

def relsV (L : List Rl) : List Value := L.flatMap relV

theorem relsV_cons (R : Rl) (L : List Rl) : relsV (R :: L) = relV R ++ relsV L := rfl

theorem relsV_app (L M : List Rl) : relsV (L ++ M) = relsV L ++ relsV M := by simp [relsV]

theorem relV_len (R : Rl) : (relV R).length = 65 := relV_length R

theorem relsV_len : ∀ L : List Rl, (relsV L).length = L.length * 65
  | [] => rfl
  | R :: L => by rw [relsV_cons, List.length_append, relV_len, relsV_len L, List.length_cons]; omega

theorem relsV_drop : ∀ (L : List Rl) (k : Nat) (h : k < L.length), ((relsV L).drop (k * 65)).take 65 = relV L[k]
  | R :: L, 0, h => by
    rw [relsV_cons, Nat.zero_mul, List.drop_zero, List.take_append_of_le_length (by rw [relV_len]; exact Nat.le_refl _), List.take_of_length_le (by rw [relV_len]; exact Nat.le_refl _)]; rfl
  | R :: L, k + 1, h => by
    rw [relsV_cons, List.drop_append, List.drop_eq_nil_of_le (by rw [relV_len]; omega), List.nil_append, relV_len, show (k + 1) * 65 - 65 = k * 65 by omega, relsV_drop L k (by simpa using h)]; rfl

theorem relsV_get (L : List Rl) (k j : Nat) (h : k < L.length) (hj : j < 65) : (relsV L)[k * 65 + j]? = (relV L[k])[j]? := by
  rw [← relsV_drop L k h, List.getElem?_take_of_lt hj, List.getElem?_drop]

/-- A slice of relations, as it lies in a world. -/
def SeesR (w : World) (p : Option Addr) (L : List Rl) : Prop :=
  ∀ i (h : i < L.length), p = some (p.getD default) ∧ extCells w ((p.getD default).add (i * 65)) 0 65 = relV L[i] ∧ ∀ j, j < 65 → (w.cell? (((p.getD default).add (i * 65)).add j)).isSome

theorem extCells_of (w : World) (a : Addr) : ∀ (n j : Nat) (l : List Value), l.length = n → (∀ k, k < n → w.cell? (a.add (j + k)) = l[k]?) → extCells w a j n = l
  | 0, j, l, h, _ => by rw [List.length_eq_zero_iff.1 h]; rfl
  | n + 1, j, [], h, _ => by cases h
  | n + 1, j, x :: l, h, hc => by
    have h0 := hc 0 (by omega)
    rw [Nat.add_zero, List.getElem?_cons_zero] at h0
    have := extCells_of w a n (j + 1) l (by simpa using h) (fun k hk => by
      have := hc (k + 1) (by omega)
      rw [List.getElem?_cons_succ] at this
      rw [← this]; congr 2; omega)
    simp only [extCells, h0, this]

theorem seesR_row {M : AM.Loc} {w : World} {id e n : Nat} {L : List Rl} (hb : BlkAt M w id (.row e 65 n (relsV L))) : SeesR w (some ⟨(M id).1, 0, none⟩) L := by
  intro i hi
  have hc : ∀ j, j < 65 → w.cell? ((((some ⟨(M id).1, 0, none⟩ : Option Addr).getD default).add (i * 65)).add j) = (relV L[i])[j]? := by
    intro j hj
    rw [Option.getD_some, Addr.add_lit, Addr.add_lit, ← relsV_get L i j hi hj]
    have hlt : i * 65 + j < (relsV L).length := by rw [relsV_len]; omega
    rw [List.getElem?_eq_getElem hlt]
    have := row_cells hb (i * 65 + j) _ (List.getElem?_eq_getElem hlt)
    rw [Nat.zero_add] at this ⊢
    exact this
  refine ⟨rfl, extCells_of _ _ _ _ _ (relV_len _) (fun k hk => by rw [Nat.zero_add]; exact hc k hk), fun j hj => ?_⟩
  rw [hc j hj, List.getElem?_eq_getElem (by rw [relV_len]; exact hj)]; rfl

/-! ### Steps -/

theorem onA_has {n : Int} (h0 : 0 ≤ n) (h1 : n ≤ 64) (a b : Nat) : (onL n (BitVec.allOnes 64)).has a b = true ↔ a = b ∧ (a : Int) < n := by
  rw [onL, if_neg (by omega), Rl.has, Rl.row_by]
  by_cases ha : a < 64
  · rw [if_pos ha]
    by_cases c : (a : Int) < n
    · rw [if_pos ⟨c, by rw [BitVec.getLsbD_allOnes, decide_eq_true ha]⟩, one_shl_get a b ha, decide_eq_true_eq]
      exact ⟨fun h => ⟨h.symm, c⟩, fun h => h.1.symm⟩
    · rw [if_neg (fun h => c h.1), BitVec.getLsbD_zero]
      exact ⟨fun h => (by cases h), fun h => absurd h.2 c⟩
  · rw [if_neg ha, BitVec.getLsbD_zero]
    exact ⟨fun h => (by cases h), fun h => absurd h.2 (by omega)⟩

/-- So many steps. -/
noncomputable def stR (R : Rl) : Nat → Rl
  | 0 => onL R.n (BitVec.allOnes 64)
  | k + 1 => twoR 3 (stR R k) R

theorem stR_ok {R : Rl} (hR : Rt R) : ∀ k, Rt (stR R k) ∧ (stR R k).n = R.n
  | 0 => ⟨onL_rt hR.lo hR.hi, onL_n hR.lo hR.hi⟩
  | k + 1 => ⟨twoR_rt 3 (stR_ok hR k).1 hR (stR_ok hR k).2, (twoR_n 3 (stR_ok hR k).1 hR (stR_ok hR k).2).trans (stR_ok hR k).2⟩

theorem W_split {R : Rl} : ∀ {n a b : Nat}, W R (n + 1) a b → ∃ c, W R n a c ∧ R.has c b = true
  | 0, a, b, hw => by
    obtain ⟨c, h, e⟩ := hw
    have e' : c = b := e
    subst e'
    exact ⟨a, rfl, h⟩
  | n + 1, a, b, hw => by
    obtain ⟨c, h, k⟩ := hw
    obtain ⟨d, h1, h2⟩ := W_split k
    exact ⟨d, ⟨c, h, h1⟩, h2⟩

theorem stR_has {R : Rl} (hR : Rt R) : ∀ k a b, (stR R k).has a b = true ↔ W R k a b ∧ (a : Int) < R.n
  | 0, a, b => by rw [stR, onA_has hR.lo hR.hi]; rfl
  | k + 1, a, b => by
    rw [stR, comp_has (stR_ok hR k).1 hR (stR_ok hR k).2]
    constructor
    · rintro ⟨c, h1, h2⟩
      obtain ⟨h3, h4⟩ := (stR_has hR k a c).1 h1
      exact ⟨W_snoc R h3 h2, h4⟩
    · rintro ⟨h1, h2⟩
      obtain ⟨c, h3, h4⟩ := W_split h1
      exact ⟨c, (stR_has hR k a c).2 ⟨h3, h2⟩, h4⟩

/-- The first so many of them. -/
noncomputable def stsR (R : Rl) (k : Nat) : List Rl := (List.range k).map (stR R)

theorem stsR_len (R : Rl) (k : Nat) : (stsR R k).length = k := by simp [stsR]

theorem stsR_succ (R : Rl) (k : Nat) : stsR R (k + 1) = stsR R k ++ [stR R k] := by simp [stsR, List.range_succ]

theorem stsR_get (R : Rl) (k i : Nat) (h : i < (stsR R k).length) : (stsR R k)[i] = stR R i := by simp [stsR]

/-- None has a shorter way round than there are numbers. -/
theorem unseen_out {R : Rl} (hR : Rt R) {n : Nat} (hn : R.n = (n : Int)) (g m : Nat) : 64 - n ≤ unseen R g m := by
  unfold unseen
  have h64 : n ≤ 64 := by have := hR.hi; omega
  have e : List.range 64 = List.range n ++ (List.range (64 - n)).map (n + ·) := by
    rw [← List.range_add]; congr 1; omega
  rw [e, List.countP_append]
  have : ((List.range (64 - n)).map (n + ·)).countP (fun b => dst R g m b == 0) = 64 - n := by
    rw [List.countP_eq_length.2 ?_]
    · simp
    · intro b hb
      obtain ⟨x, _, rfl⟩ := List.mem_map.1 hb
      rw [beq_iff_eq]
      rcases dst_spec R g m (n + x) with h | ⟨h1, h2, h3, _⟩
      · exact h.1
      · exfalso
        obtain ⟨y, hy⟩ : ∃ y, dst R g m (n + x) = y + 1 := ⟨dst R g m (n + x) - 1, by omega⟩
        rw [hy] at h3
        obtain ⟨c, h4, _⟩ := h3
        have := (hR.lt _ _ h4).1
        omega
  omega

theorem dist_le_n {R : Rl} (hR : Rt R) {n : Nat} (hn : R.n = (n : Int)) (g b : Nat) : distR R g b ≤ n := by
  rcases distR_spec R g b with h | ⟨h1, h2, h3⟩
  · omega
  · have hnx : nxP R g (distR R g b) b := by
      refine ⟨?_, h2⟩
      rcases dst_spec R g (distR R g b) b with h | ⟨h4, h5, h6, _⟩
      · exact h.1
      · exact absurd h6 (h3 _ h4 h5)
    have h4 := level_le R g _ h1 b hnx
    have h5 := unseen_out hR hn g (distR R g b + 1)
    have h6 : n ≤ 64 := by have := hR.hi; omega
    omega

open Classical in
theorem nxtR_min (R : Rl) {g a k b : Nat} (h : nxtR R g a k = some b) : ∀ c, c < b → ¬ (R.has a c = true ∧ W R k c g) := by
  unfold nxtR at h
  have h2 := (List.find?_range_eq_some.1 h).2.2
  rintro c hc ⟨h3, h4⟩
  have := h2 c hc
  simp [h3, h4] at this

set_option maxHeartbeats 600000 in
theorem round_ok (R : Rl) (hR : Rt R) (n : Nat) (hn : R.n = (n : Int)) (p : Option Addr) (c : Nat) (g k : Nat) (w : World) (hs : SeesR w p (stsR R (k + 2))) (hw : W R (k + 1) g g) (hk64 : k + 1 ≤ 64) :
    HandsZ Tryz.prog 53 [encRel R, .slice p (k + 2) c, .int .i64 (g : Int), .int .i64 ((k + 1 : Nat) : Int)] w (.sl 0 1 0 (k + 1)) [(0, .row 3 1 (k + 1) (encN (g :: pathR R g g k)))] := by
  refine HandsZ.of_run Tryz.func53 rfl (by show 4 ≤ 47; decide) ?_
  have hn64 : n ≤ 64 := by have := hR.hi; omega
  have hP2 : 0 ≤ R.n ∧ R.n ≤ 64 := ⟨hR.lo, hR.hi⟩
  have hlt : ∀ m a b, W R (m + 1) a b → a < n := fun m a b h => by
    have := (hR.lt _ _ h.choose_spec.1).1
    omega
  have hgn := hlt _ _ _ hw
  refine RunF_sound tab_ok noX_local 100 [] _ _ rfl ?_ ?_
  · simp [fillL, Value.cells, splice, repL, maxLen]
  suffices H2 : ∀ (i a j : Nat) (l : List Nat), l.length = j → j + i = k + 1 → 1 ≤ j → W R (i + 1) a g → l ++ pathR R g a i = g :: pathR R g g k →
      Run _ _ ⟨[(1, .v (.slice p (k + 2) c)), (2, .v (.int .i64 (g : Int))), (4, .ptr 0 0), (9, .sl 20 1 0 j), (10, .v (.int .i64 (a : Int))), (11, .v (.int .i64 (i : Int)))], [(0, .cells 60 [.vals 65 (relV R)]), (20, .row 3 1 j (encN l))], 21⟩ by
    exact Run.toR [(20, 1)] (H2 k g 1 [g] rfl (by omega) (by omega) hw rfl) ⟨rfl, rfl, rfl, rfl, rfl, i64_eq (by rw [wrap_i64] <;> omega), trivial⟩ ⟨rfl, rfl, trivial⟩ rfl
  intro i
  induction i with
  | zero =>
    intro a j l hl hj h1j _ hpath
    have e : l = g :: pathR R g g k := by rw [← hpath]; simp [pathR]
    obtain rfl : j = k + 1 := by omega
    refine RunF_sound tab_ok noX_local 100 [false] _ _ rfl ?_ ?_
    · simp
    refine Run.retH tab_ok [(0, 20)] Tryz.func53 rfl ?_ rfl ⟨?_, trivial⟩ rfl
    · simp
    · rw [← e]; rfl
  | succ i ih =>
    intro a j l hl hj h1j hwa hpath
    have han := hlt _ _ _ hwa
    obtain ⟨nb, hnb, hnb64, hanb, hwnb⟩ := nxtR_some R g a (i + 1) hwa
    have hmin := nxtR_min R hnb
    have hnbn : nb < n := by have := (hR.lt _ _ hanb).2; omega
    have hpath' : (l ++ [nb]) ++ pathR R g nb i = g :: pathR R g g k := by
      rw [← hpath, pathR, hnb]; simp
    refine RunF_sound tab_ok noX_local 100 [true] _ _ rfl ?_ ?_
    · simp
    suffices H3 : ∀ (m b : Nat), b + m = n → b ≤ nb →
        Run _ _ ⟨[(1, .v (.slice p (k + 2) c)), (2, .v (.int .i64 (g : Int))), (4, .ptr 0 0), (9, .sl 20 1 0 j), (10, .v (.int .i64 (a : Int))), (11, .v (.int .i64 ((i + 1 : Nat) : Int))), (12, .v (.int .i64 (b : Int)))], [(0, .cells 60 [.vals 65 (relV R)]), (20, .row 3 1 j (encN l))], 21⟩ by
      exact Run.to (H3 n 0 (by omega) (by omega)) ⟨rfl, rfl, rfl, rfl, rfl, rfl, rfl, trivial⟩ ⟨rfl, rfl, trivial⟩
    intro m
    induction m with
    | zero => intro b hb hle; omega
    | succ m ihm =>
      intro b hb hle
      have hI : hasI R a b = R.has a b := hasI_in (by omega) (by omega)
      refine RunF_sound tab_ok noX_local 200 [true] _ _ rfl ?_ ?_
      · simp [hn]; omega
      refine Run.callFn noX_local rfl rfl rfl rfl rfl rfl rfl hasR_enters rfl (fun w' _ => hasR_ok R hP2 a b w') ?_
      rw [hI]
      by_cases c1 : R.has a b = true
      · obtain ⟨hp, hext, hsome⟩ := hs (i + 1) (by rw [stsR_len]; omega)
        rw [stsR_get] at hext
        refine RunF_sound tab_ok noX_local 200 [true] _ _ rfl ?_ ?_
        · simp only [fnC_w0, fnC_S0, Int.toNat_natCast]
          simp [c1]
          exact ⟨⟨hp, by omega, by omega⟩, hsome⟩
        have hS := stR_ok hR (i + 1)
        have hJ : hasI (stR R (i + 1)) b g = (stR R (i + 1)).has b g := hasI_in (by rw [hS.2]; omega) (by rw [hS.2]; omega)
        refine Run.callFn (r := .bool ((stR R (i + 1)).has b g)) noX_local rfl rfl rfl rfl rfl rfl rfl hasR_enters rfl (fun w' _ => ?_) ?_
        · have := hasR_ok (stR R (i + 1)) ⟨hS.1.lo, hS.1.hi⟩ b g w'
          rw [hJ] at this
          simp only [fnC_w0, Int.toNat_natCast, hext]
          exact this
        by_cases c2 : (stR R (i + 1)).has b g = true
        · have hwb := ((stR_has hR _ _ _).1 c2).1
          obtain rfl : b = nb := by
            rcases Nat.lt_or_ge b nb with h | h
            · exact absurd ⟨c1, hwb⟩ (hmin b h)
            · omega
          refine RunF_sound tab_ok noX_local 200 [true] _ _ rfl ?_ ?_
          · simp [c2, fillL, Value.cells, splice, repL, maxLen, Value.oneCell']
            omega
          refine Run.toR [(20, 22)] (ih b (j + 1) (l ++ [b]) (by simp [hl]) (by omega) (by omega) hwnb hpath') ⟨rfl, rfl, rfl, rfl, rfl, i64_eq ?_, trivial⟩ ⟨rfl, ?_, trivial⟩ rfl
          · rw [wrap_i64] <;> omega
          refine congrArg (fun v => some (Blk.row 3 1 (j + 1) v)) ?_
          exact encN_snoc hl b
        · refine RunF_sound tab_ok noX_local 200 [false] _ _ rfl ?_ ?_
          · simpa using c2
          have hne : b ≠ nb := fun e => c2 ((stR_has hR _ _ _).2 ⟨by rw [e]; exact hwnb, by omega⟩)
          exact Run.to (ihm (b + 1) (by omega) (by omega)) ⟨rfl, rfl, rfl, rfl, rfl, rfl, i64_eq (wrap_succ (by omega)), trivial⟩ ⟨rfl, rfl, trivial⟩
      · refine RunF_sound tab_ok noX_local 200 [false] _ _ rfl ?_ ?_
        · simpa using c1
        have hne : b ≠ nb := fun e => c1 (by rw [e]; exact hanb)
        exact Run.to (ihm (b + 1) (by omega) (by omega)) ⟨rfl, rfl, rfl, rfl, rfl, rfl, i64_eq (wrap_succ (by omega)), trivial⟩ ⟨rfl, rfl, trivial⟩

theorem round_enters : Enters Tryz.prog 53 := enters_mk Tryz.func53 (by decide) rfl

theorem un_ones : un (BitVec.allOnes 64) = 18446744073709551615 := by decide

theorem relsV_snoc {L : List Rl} {k : Nat} (hl : L.length = k) (R : Rl) : (relsV L).take (k * 65) ++ relV R = relsV (L ++ [R]) := by
  rw [List.take_of_length_le (by rw [relsV_len, hl]; exact Nat.le_refl _), relsV_app]; simp [relsV]

/-- None has a way round, if none has one of at most n steps. -/
theorem no_way {R : Rl} (hR : Rt R) {n : Nat} (hn : R.n = (n : Int)) (h : ∀ a m, 1 ≤ m → m < n + 1 → ¬ W R m a a) : irB (clos R) = true := by
  refine irB_true fun a => ?_
  cases hc : (clos R).has a a with
  | false => rfl
  | true =>
    obtain ⟨m, hm⟩ := trans_W ((clos_has hR a a).1 hc)
    rcases distR_spec R a a with h1 | ⟨h1, h2, h3⟩
    · exact absurd hm (h1.2 _ (by omega))
    · have := dist_le_n hR hn a a
      exact absurd h2 (h a _ h1 (by omega))

theorem acyc_none {R : Rl} (hR : Rt R) (h : irB (clos R) = true) : IsCyc R none := by
  refine .inl ⟨rfl, fun a m hm hw => ?_⟩
  obtain ⟨m', rfl⟩ : ∃ m', m = m' + 1 := ⟨m - 1, by omega⟩
  have := (clos_has hR a a).2 (W_trans hw)
  rw [irB_false this] at h; cases h

theorem fill_one (R : Rl) : (fillL (fun j => some (j * 65, 65)) (repL 1 (Value.agg z60.toArray).cells.toList) [(0, encRel R)]).snd = relV R := by
  have e : (repL 1 (Value.agg z60.toArray).cells.toList).length = 65 := by decide
  generalize repL 1 (Value.agg z60.toArray).cells.toList = Z at e
  show splice Z 0 (relV R).toArray.toList = _
  unfold splice
  rw [List.take_zero, List.nil_append, List.drop_eq_nil_of_le (by simp [e]), List.append_nil]

theorem fill_one1 (R : Rl) : (fillL (fun j => some (j * 65, 65)) (repL 1 (Value.agg z60.toArray).cells.toList) [(0, encRel R)]).1 = True := by
  refine eq_true ⟨?_, ?_, trivial⟩
  · show (relV R).toArray.size = 65
    simp
  · decide

set_option maxHeartbeats 800000 in
theorem cycleR_ok (r : Rl) (x : Option (List Nat)) (hx : IsCyc (rightL r) x) (w : World) : HandsZ Tryz.prog 19 [encRel r] w (exZ x) (exH x) := by
  refine HandsZ.of_run Tryz.func19 rfl (by show 1 ≤ 49; decide) ?_
  refine RunF_sound tab_ok noX_local 100 [] _ _ rfl ?_ ?_
  · simp
  refine Run.callFn noX_local rfl rfl rfl rfl rfl rfl rfl rightR_enters rfl (fun w' _ => rightR_ok r w') ?_
  have hR := rt_right r
  generalize rightL r = R at hx hR
  obtain ⟨n, hn⟩ : ∃ n : Nat, R.n = (n : Int) := ⟨R.n.toNat, by have := hR.lo; omega⟩
  have hn64 : n ≤ 64 := by have := hR.hi; omega
  have hlt : ∀ m a b, W R (m + 1) a b → a < n := fun m a b h => by
    have := (hR.lt _ _ h.choose_spec.1).1
    omega
  have k1 : ∀ w', Gives Tryz.prog 49 [encRel R] w' (.bool (irB (clos R))) := fun w' => by
    have := acyclicR_ok R w'
    rwa [hR.right] at this
  refine RunF_sound tab_ok noX_local 100 [] _ _ rfl ?_ ?_
  · simp [segsVals, relV_one']
  refine Run.callFn noX_local rfl rfl rfl rfl rfl rfl rfl acyclicR_enters rfl (fun w' _ => k1 w') ?_
  by_cases c : irB (clos R) = true
  · obtain rfl : x = none := hx.eq (acyc_none hR c)
    refine RunF_sound tab_ok noX_local 100 [true] _ _ rfl ?_ ?_
    · simp [c]
    refine Run.retH tab_ok [] Tryz.func19 rfl ?_ rfl trivial rfl
    simp
  refine RunF_sound tab_ok noX_local 100 [false] _ _ rfl ?_ ?_
  · simp [c]
  refine Run.callFn (r := encRel (onL R.n (BitVec.allOnes 64))) noX_local rfl rfl rfl rfl rfl rfl rfl onR_enters rfl (fun w' _ => ?_) ?_
  · have := onR_ok R.n (BitVec.allOnes 64) w'
    rw [un_ones] at this
    exact this
  refine Run.to (t' := [(1, .ptr 0 0), (13, .v (encRel (stR R 0)))]) (h' := [(0, .cells 60 [.vals 65 (relV R)])]) (n' := 20) ?_ ⟨rfl, rfl, trivial⟩ ⟨rfl, trivial⟩
  refine RunF_sound tab_ok noX_local 100 [] _ _ rfl ?_ ?_
  · simp [fillL, Value.cells, splice, repL, maxLen]
    exact relV_len _
  suffices H : ∀ (m k : Nat), k + m = n → (∀ a j, 1 ≤ j → j < k + 1 → ¬ W R j a a) →
      Run _ _ ⟨[(1, .ptr 0 0), (4, .sl 20 65 0 (k + 1)), (5, .v (.int .i64 ((k + 1 : Nat) : Int)))], [(0, .cells 60 [.vals 65 (relV R)]), (20, .row 60 65 (k + 1) (relsV (stsR R (k + 1))))], 21⟩ by
    refine Run.to (H n 0 (by omega) (fun a j h1 h2 => by omega)) ⟨rfl, rfl, rfl, trivial⟩ ⟨rfl, ?_, trivial⟩
    refine congrArg (fun v => some (Blk.row 60 65 1 v)) ?_
    have e1 : (fillL (fun j => some (j * 65, 65)) (repL 1 (Value.agg z60.toArray).cells.toList) [(0, encRel (stR R 0))]).snd = relV (stR R 0) := fill_one _
    refine e1.trans ?_
    simp [stsR, relsV]
  intro m
  induction m with
  | zero =>
    intro k hk hno
    obtain rfl : k = n := by omega
    exact absurd (no_way hR hn hno) c
  | succ m ih =>
    intro k hk hno
    have hwk : IntKind.i64.wrap (((k + 1 : Nat) : Int) - 1) = (k : Int) := by rw [wrap_i64] <;> omega
    have hwk2 : IntKind.i64.wrap (k : Int) = (k : Int) := by rw [wrap_i64] <;> omega
    have hlen := stsR_len R (k + 1)
    have hdrop := relsV_drop (stsR R (k + 1)) k (by rw [hlen]; omega)
    rw [stsR_get] at hdrop
    have hS := stR_ok hR (k + 1)
    have hS2 : 0 ≤ (stR R (k + 1)).n ∧ (stR R (k + 1)).n ≤ 64 := ⟨hS.1.lo, hS.1.hi⟩
    have hstep : ∀ w', Gives Tryz.prog 51 [.int .i64 3, encRel (stR R k), encRel R] w' (encRel (stR R (k + 1))) := fun w' => two_R 3 (by decide) (stR R k) R w'
    have hVs : (relsV (stsR R (k + 1))).length = (k + 1) * 65 := by rw [relsV_len, hlen]
    have hsn : (relsV (stsR R (k + 1))).take ((k + 1) * 65) ++ relV (stR R (k + 1)) = relsV (stsR R (k + 1 + 1)) := by rw [relsV_snoc hlen, ← stsR_succ]
    refine RunF_sound tab_ok noX_local 100 [true] _ _ rfl ?_ ?_
    · simp [hn]; omega
    refine Run.drawA noX_local rfl [5] [(0, .cells 60 [.vals 65 (relV R)])] rfl rfl ⟨rfl, trivial⟩ ?_
    refine RunOF_sound tab_ok noX_local rfl rfl 100 [] _ _ rfl ?_ ?_
    · simp [hVs]
      rw [hwk2, Int.toNat_natCast]; omega
    refine RunO.callFn (r := encRel (stR R (k + 1))) noX_local rfl rfl rfl rfl rfl rfl rfl rfl two_R_enters rfl (fun w' _ => ?_) ?_
    · rw [hwk, Int.toNat_natCast, Nat.zero_add, hdrop]
      exact hstep w'
    refine RunOF_sound tab_ok noX_local rfl rfl 100 [] _ _ rfl ?_ ?_
    · simp only [fill_one, fill_one1]
      simp [maxLen, inT, lk]
      exact ⟨rfl, ⟨rfl, by omega, by omega⟩, fun u hu => relV_one _ u (List.mem_of_mem_take hu)⟩
    refine RunO.done ?_
    refine RunF_sound tab_ok noX_local 100 [] _ _ rfl ?_ ?_
    · simp
    have hwlt : ∀ a, W R (k + 1) a a → a < n := fun a h => hlt k a a h
    have hlen2 := stsR_len R (k + 2)
    have hdrop2 := relsV_drop (stsR R (k + 2)) (k + 1) (by rw [hlen2]; omega)
    rw [stsR_get] at hdrop2
    have hVs2 : (relsV (stsR R (k + 2))).length = (k + 2) * 65 := by rw [relsV_len, hlen2]
    suffices H3 : ∀ (m a : Nat), a + m = n → (∀ b, b < a → ¬ W R (k + 1) b b) →
        Run _ _ ⟨[(1, .ptr 0 0), (4, .sl 20 65 0 (k + 2)), (5, .v (.int .i64 ((k + 1 : Nat) : Int))), (6, .v (.int .i64 (a : Int)))], [(0, .cells 60 [.vals 65 (relV R)]), (20, .row 60 65 (k + 2) (relsV (stsR R (k + 2))))], 21⟩ by
      refine Run.toR [(20, 22)] (H3 n 0 (by omega) (fun b h => absurd h (Nat.not_lt_zero _))) ⟨rfl, rfl, rfl, rfl, trivial⟩ ⟨rfl, ?_, trivial⟩ rfl
      show _ = some (Blk.row 60 65 (k + 2) (relsV (stsR R (k + 2))))
      rw [← hsn]
      simp only [fill_one]
      refine congrArg (fun v => some (Blk.row 60 65 (k + 2) ((relsV (stsR R (k + 1))).take ((k + 1) * 65) ++ v))) ?_
      show ((relV (stR R (k + 1))).drop 0).take 65 = _
      rw [List.drop_zero, List.take_of_length_le (by rw [relV_len]; exact Nat.le_refl _)]
    intro m3
    induction m3 with
    | zero =>
      intro a ha hno3
      obtain rfl : a = n := by omega
      refine RunF_sound tab_ok noX_local 100 [false] _ _ rfl ?_ ?_
      · simp [hn]
      refine Run.to (ih (k + 1) (by omega) (fun b j h1 h2 hw => ?_)) ⟨rfl, rfl, i64_eq (wrap_succ (by omega)), trivial⟩ ⟨rfl, rfl, trivial⟩
      rcases Nat.lt_or_ge j (k + 1) with h | h
      · exact hno b j h1 h hw
      · obtain rfl : j = k + 1 := by omega
        exact hno3 b (hwlt b hw) hw
    | succ m3 ih3 =>
      intro a ha hno3
      have hI : hasI (stR R (k + 1)) a a = (stR R (k + 1)).has a a := hasI_in (by rw [hS.2]; omega) (by rw [hS.2]; omega)
      refine RunF_sound tab_ok noX_local 100 [true] _ _ rfl ?_ ?_
      · simp [hn, hVs2]; omega
      refine Run.callFn (r := .bool ((stR R (k + 1)).has a a)) noX_local rfl rfl rfl rfl rfl rfl rfl hasR_enters rfl (fun w' _ => ?_) ?_
      · have := hasR_ok (stR R (k + 1)) hS2 a a w'
        rw [hI] at this
        rw [Int.toNat_natCast, Nat.zero_add, hdrop2]
        exact this
      by_cases c2 : (stR R (k + 1)).has a a = true
      · have hwa := ((stR_has hR _ _ _).1 c2).1
        obtain rfl : x = some (a :: pathR R a a k) := hx.eq (.inr ⟨a, k, rfl, hwa, fun b j h1 h2 => hno b j h1 h2, hno3⟩)
        refine RunF_sound tab_ok noX_local 100 [true] _ _ rfl ?_ ?_
        · simp [c2]
        refine Run.callH noX_local (.sl 21 1 0 (k + 1)) [(21, .row 3 1 (k + 1) (encN (a :: pathR R a a k)))] 22 rfl rfl rfl rfl rfl rfl round_enters rfl rfl rfl rfl rfl (fun M w' hM _ => ?_) ?_
        · have hb := hM 20 _ rfl
          exact (round_ok R hR n hn _ _ a k w' (seesR_row hb) hwa (by omega)).to [(21, 0)] rfl ⟨rfl, trivial⟩ rfl
        refine RunF_sound tab_ok noX_local 100 [] _ _ rfl ?_ ?_
        · simp
        refine Run.retH tab_ok [(0, 21)] Tryz.func19 rfl ?_ ?_ ⟨?_, trivial⟩ rfl
        · simp
        · simp [exZ, pathR_length, ren, renL]; rfl
        · simp [pathR_length]; rfl
      · refine RunF_sound tab_ok noX_local 100 [false] _ _ rfl ?_ ?_
        · simpa using c2
        refine Run.to (ih3 (a + 1) (by omega) (fun b hb hw => ?_)) ⟨rfl, rfl, rfl, i64_eq (wrap_succ (by omega)), trivial⟩ ⟨rfl, rfl, trivial⟩
        rcases Nat.lt_or_ge b a with h | h
        · exact hno3 b h hw
        · obtain rfl : b = a := by omega
          exact c2 ((stR_has hR _ _ _).2 ⟨hw, by omega⟩)

theorem cycleR_enters : Enters Tryz.prog 19 := enters_mk Tryz.func19 (by decide) rfl

/-- May a number stand next, behind those of a list? -/
def freeN (R : Rl) (n : Nat) (l : List Nat) (i : Nat) : Bool := !l.contains i && (List.range n).all fun b => !R.has b i || l.contains b

theorem free_rdy {R : Rl} (hR : Rt R) {n : Nat} (hn : R.n = (n : Int)) {l : List Nat} {dn : BitVec 64} (hd : ∀ b, b < 64 → (dn.getLsbD b = true ↔ b ∈ l)) {i : Nat} (hi : i < n) : freeN R n l i = rdyB (aheadL R) dn i := by
  have h64 : n ≤ 64 := by have := hR.hi; omega
  rw [Bool.eq_iff_iff, rdyB_iff, freeN, Bool.and_eq_true, Bool.not_eq_true', List.all_eq_true]
  have hci : ∀ b, l.contains b = true ↔ b ∈ l := fun b => List.contains_iff_mem
  constructor
  · rintro ⟨h1, h2⟩
    refine ⟨?_, fun j hj => ?_⟩
    · rw [← Bool.not_eq_true] at h1 ⊢
      exact fun h => h1 ((hci i).2 ((hd i (by omega)).1 h))
    · rw [aheadL_has hR] at hj
      have hjn := (hR.lt _ _ hj).1
      have := h2 j (List.mem_range.2 (by omega))
      rw [hj] at this
      exact (hd j (by omega)).2 ((hci j).1 (by simpa using this))
  · rintro ⟨h1, h2⟩
    refine ⟨?_, fun b hb => ?_⟩
    · rw [← Bool.not_eq_true] at h1 ⊢
      exact fun h => h1 ((hd i (by omega)).2 ((hci i).1 h))
    · cases hh : R.has b i with
      | false => rfl
      | true =>
        have := h2 b ((aheadL_has hR i b).2 hh)
        rw [List.mem_range] at hb
        simpa using (hd b (by omega)).1 this

theorem contains_take {l : List Nat} {j : Nat} (h : j < l.length) (b : Nat) : (l.take (j + 1)).contains b = ((l.take j).contains b || decide (l[j] = b)) := by
  rw [Bool.eq_iff_iff, Bool.or_eq_true, List.contains_iff_mem, List.contains_iff_mem, decide_eq_true_eq, List.take_succ_eq_append_getElem h, List.mem_append, List.mem_singleton]
  constructor <;> (rintro (h | h) <;> first | exact .inl h | exact .inr h.symm)

set_option maxHeartbeats 1000000 in
theorem free_ok {R : Rl} (hR : Rt R) {n : Nat} (hn : R.n = (n : Int)) (p : Option Addr) (c : Nat) (l : List Nat) (i : Nat) (w : World) (hs : SeesN w p l) (hl : l.length ≤ maxLen) :
    Gives Tryz.prog 106 [encRel R, .slice p l.length c, .int .i64 (i : Int)] w (.bool (freeN R n l i)) := by
  refine Gives.of_run Tryz.func106 rfl (by show 3 ≤ 50; decide) ?_
  have hml : maxLen = 9223372036854775807 := rfl
  have hn64 : n ≤ 64 := by have := hR.hi; omega
  have hhas : ∀ (b : Nat) w', Gives Tryz.prog 52 [encRel R, .int .i64 (b : Int), .int .i64 (i : Int)] w' (.bool (R.has b i)) := fun b w' => by
    have := hasR_ok R ⟨hR.lo, hR.hi⟩ b i w'
    have e : hasI R b i = R.has b i := by
      by_cases h : (b : Int) < R.n ∧ (i : Int) < R.n
      · exact hasI_in h.1 h.2
      · cases hh : R.has b i with
        | true => exact absurd (hR.lt _ _ hh) h
        | false =>
          unfold hasI
          have : ¬ ((0 ≤ (b : Int) ∧ 0 ≤ (i : Int)) ∧ (b : Int) < R.n ∧ (i : Int) < R.n) := fun h2 => h h2.2
          first
          | (rw [decide_eq_false (by omega)]; rfl)
          | (simp; omega)
    rwa [e] at this
  refine RunF_sound tab_ok noX_local 100 [] _ _ rfl ?_ ?_
  · simp
  suffices H1 : ∀ (m j : Nat), j + m = l.length → (l.take j).contains i = false → ∀ σ, inT σ.t [(1, .v (.slice p l.length c)), (2, .v (.int .i64 (i : Int))), (3, .ptr 0 0), (7, .v (.int .i64 (j : Int)))] → inT σ.h [(0, .cells 60 [.vals 65 (relV R)])] → Run _ _ σ by
    exact H1 l.length 0 (by omega) (by simp) _ ⟨rfl, rfl, rfl, rfl, trivial⟩ ⟨rfl, trivial⟩
  intro m
  induction m with
  | succ m ih =>
    intro j hj hnc σ ht hh
    refine Run.to ?_ ht hh (n' := 1)
    have hjl : j < l.length := by omega
    obtain ⟨hp, hpc⟩ := hs j hjl
    by_cases ce : l[j] = i
    · have hf : freeN R n l i = false := by
        have : l.contains i = true := List.contains_iff_mem.2 (ce ▸ List.getElem_mem hjl)
        rw [freeN, this]; rfl
      rw [hf]
      refine RunF_sound tab_ok noX_local 100 [true, true] _ _ rfl ?_ ?_
      · simp only [fnC_w0, fnC_S0, Int.toNat_natCast, Nat.mul_one, hpc]
        simp
        exact ⟨hjl, ⟨hp, hjl⟩, by omega⟩
      exact Run.retP tab_ok Tryz.func106 rfl trivial (fun M => rfl)
    · refine RunF_sound tab_ok noX_local 100 [true, false] _ _ rfl ?_ ?_
      · simp only [fnC_w0, fnC_S0, Int.toNat_natCast, Nat.mul_one, hpc]
        simp
        exact ⟨hjl, ⟨hp, hjl⟩, by omega⟩
      refine ih (j + 1) (by omega) (by rw [contains_take hjl, hnc, decide_eq_false ce]; rfl) _ ⟨rfl, rfl, rfl, i64_eq (wrap_succ (by omega)), trivial⟩ ⟨rfl, trivial⟩
  | zero =>
    intro j hj hnc σ ht hh
    refine Run.to ?_ ht hh (n' := 1)
    obtain rfl : j = l.length := by omega
    rw [List.take_length] at hnc
    refine RunF_sound tab_ok noX_local 100 [false] _ _ rfl ?_ ?_
    · simp
    clear ht hh
    have hfr : freeN R n l i = (List.range n).all fun b => !R.has b i || l.contains b := by rw [freeN, hnc]; rfl
    obtain ⟨B, hB⟩ : ∃ B, B = freeN R n l i := ⟨_, rfl⟩
    rw [hfr] at hB
    rw [hfr, ← hB]
    suffices H2 : ∀ (m b : Nat), b + m = n → ((List.range b).all fun b => !R.has b i || l.contains b) = true → ∀ σ, inT σ.t [(1, .v (.slice p l.length c)), (2, .v (.int .i64 (i : Int))), (3, .ptr 0 0), (8, .v (.int .i64 (b : Int)))] → inT σ.h [(0, .cells 60 [.vals 65 (relV R)])] → Run _ _ σ by
      exact H2 n 0 (by omega) (by simp) _ ⟨rfl, rfl, rfl, rfl, trivial⟩ ⟨rfl, trivial⟩
    intro m
    induction m with
    | zero =>
      intro b hb hall σ ht hh
      refine Run.to ?_ ht hh (n' := 1)
      obtain rfl : b = n := by omega
      rw [hall] at hB
      subst hB
      refine RunF_sound tab_ok noX_local 100 [false] _ _ rfl ?_ ?_
      · simp [hn]
      exact Run.retP tab_ok Tryz.func106 rfl trivial (fun M => rfl)
    | succ m ihb =>
      intro b hb hall σ ht hh
      refine Run.to ?_ ht hh (n' := 1)
      have hrs : ((List.range (b + 1)).all fun b => !R.has b i || l.contains b) = (!R.has b i || l.contains b) := by
        rw [List.range_succ, List.all_append, hall]; simp
      have hbad : (!R.has b i || l.contains b) = false → B = false := fun h => by
        rw [hB, Bool.eq_false_iff]
        intro h2
        rw [List.all_eq_true] at h2
        have := h2 b (List.mem_range.2 (by omega))
        rw [this] at h; cases h
      have hbh := hhas b
      generalize R.has b i = bh at *
      refine RunF_sound tab_ok noX_local 100 [true] _ _ rfl ?_ ?_
      · simp [hn]; omega
      refine Run.callFn (r := .bool bh) noX_local rfl rfl rfl rfl rfl rfl rfl hasR_enters rfl (fun w' _ => hbh w') ?_
      cases bh with
      | false =>
        refine RunF_sound tab_ok noX_local 100 [false] _ _ rfl ?_ ?_
        · simp
        refine ihb (b + 1) (by omega) (by rw [hrs]; rfl) _ ⟨rfl, rfl, rfl, i64_eq (wrap_succ (by omega)), trivial⟩ ⟨rfl, trivial⟩
      | true =>
        refine RunF_sound tab_ok noX_local 100 [true] _ _ rfl ?_ ?_
        · simp
        suffices H3 : ∀ (m j : Nat), j + m = l.length → ∀ σ, inT σ.t [(1, .v (.slice p l.length c)), (2, .v (.int .i64 (i : Int))), (3, .ptr 0 0), (8, .v (.int .i64 (b : Int))), (9, .v (.bool ((l.take j).contains b))), (10, .v (.int .i64 (j : Int)))] → inT σ.h [(0, .cells 60 [.vals 65 (relV R)])] → Run _ _ σ by
          exact Run.toC (t' := [(1, .v (.slice p l.length c)), (2, .v (.int .i64 (i : Int))), (3, .ptr 0 0), (8, .v (.int .i64 (b : Int))), (9, .v (.bool ((l.take 0).contains b))), (10, .v (.int .i64 ((0 : Nat) : Int)))]) (h' := [(0, .cells 60 [.vals 65 (relV R)])]) (n' := 1) (H3 l.length 0 (by omega) _ ⟨rfl, rfl, rfl, rfl, rfl, rfl, trivial⟩ ⟨rfl, trivial⟩)
            ⟨inTC_same rfl, inTC_same rfl, inTC_same rfl, inTC_same rfl, ⟨_, rfl, fun M => by simp [conc]⟩, inTC_same rfl, trivial⟩ ⟨rfl, trivial⟩
        clear ht hh
        intro m3
        induction m3 with
        | zero =>
          intro j hj σ ht hh
          refine Run.to ?_ ht hh (n' := 1)
          obtain rfl : j = l.length := by omega
          rw [List.take_length]
          simp only [Bool.not_true, Bool.false_or] at hrs hbad
          generalize l.contains b = cb at *
          cases cb with
          | true =>
            refine RunF_sound tab_ok noX_local 100 [false, false] _ _ rfl ?_ ?_
            · simp
            refine ihb (b + 1) (by omega) hrs _ ⟨rfl, rfl, rfl, i64_eq (wrap_succ (by omega)), trivial⟩ ⟨rfl, trivial⟩
          | false =>
            refine RunF_sound tab_ok noX_local 100 [false, true] _ _ rfl ?_ ?_
            · simp
            exact Run.retP tab_ok Tryz.func106 rfl trivial (fun M => by rw [hbad rfl]; rfl)
        | succ m3 ih3 =>
          intro j hj σ ht hh
          refine Run.to ?_ ht hh (n' := 1)
          have hjl : j < l.length := by omega
          obtain ⟨hp, hpc⟩ := hs j hjl
          have hct := contains_take hjl b
          generalize (l.take j).contains b = cb at *
          cases cb with
          | true =>
            refine RunF_sound tab_ok noX_local 100 [true, true] _ _ rfl ?_ ?_
            · simp; omega
            exact Run.toC (t' := [(1, .v (.slice p l.length c)), (2, .v (.int .i64 (i : Int))), (3, .ptr 0 0), (8, .v (.int .i64 (b : Int))), (9, .v (.bool ((l.take (j + 1)).contains b))), (10, .v (.int .i64 ((j + 1 : Nat) : Int)))]) (h' := [(0, .cells 60 [.vals 65 (relV R)])]) (n' := 1) (ih3 (j + 1) (by omega) _ ⟨rfl, rfl, rfl, rfl, rfl, rfl, trivial⟩ ⟨rfl, trivial⟩)
              ⟨inTC_same rfl, inTC_same rfl, inTC_same rfl, inTC_same rfl, ⟨_, rfl, fun M => by simp only [conc]; rw [hct]; rfl⟩, ⟨_, rfl, fun M => by simp only [conc]; rw [wrap_succ (by omega)]⟩, trivial⟩ ⟨rfl, trivial⟩
          | false =>
            refine RunF_sound tab_ok noX_local 100 [true, false] _ _ rfl ?_ ?_
            · simp only [fnC_w0, fnC_S0, Int.toNat_natCast, Nat.mul_one, hpc]
              simp
              exact ⟨hjl, hp, hjl⟩
            simp only [fnC_w0, Int.toNat_natCast, Nat.mul_one, hpc]
            exact Run.toC (t' := [(1, .v (.slice p l.length c)), (2, .v (.int .i64 (i : Int))), (3, .ptr 0 0), (8, .v (.int .i64 (b : Int))), (9, .v (.bool ((l.take (j + 1)).contains b))), (10, .v (.int .i64 ((j + 1 : Nat) : Int)))]) (h' := [(0, .cells 60 [.vals 65 (relV R)])]) (n' := 1) (ih3 (j + 1) (by omega) _ ⟨rfl, rfl, rfl, rfl, rfl, rfl, trivial⟩ ⟨rfl, trivial⟩)
              ⟨inTC_same rfl, inTC_same rfl, inTC_same rfl, inTC_same rfl, ⟨_, rfl, fun M => by
                simp only [conc]; rw [hct, Bool.false_or]
                congr 1
                rw [Bool.eq_iff_iff]; simp; omega⟩, ⟨_, rfl, fun M => by simp only [conc]; rw [wrap_succ (by omega)]⟩, trivial⟩ ⟨rfl, trivial⟩

theorem free_enters : Enters Tryz.prog 106 := enters_mk Tryz.func106 (by decide) rfl

/-- The list of lists in its box, as it lies in a world: br: its row's block and capacity. -/
structure OutSt (w : World) (fp : Foot) (po : Nat) (br : Option (Nat × Nat)) (s : List Ent) : Prop where
  box : match br with
    | none => s = [] ∧ BlkAt (fun _ => (po, 0)) w 0 (.cells 25 [.one (.v (.slice none 0 0))])
    | some (b, cap) => s ≠ [] ∧ b ≠ po ∧ BlkAt (fun _ => (po, 0)) w 0 (.cells 25 [.one (.v (.slice (some ⟨b, 0, none⟩) s.length cap))]) ∧ BlkAt (fun _ => (b, cap)) w 0 (.row 24 1 s.length (s.map slV)) ∧ ∀ e ∈ s, e.1 ≠ b
  foot : ∀ x, fp x ↔ x = po ∨ (∃ c, br = some (x, c)) ∨ ∃ e ∈ s, e.1 = x
  nd : (s.map fun e => e.1).Nodup
  ent : ∀ e ∈ s, EntAt w e ∧ e.1 ≠ po

def outX (po : Nat) (L : List (List Nat)) : Res := fun w fp => ∃ br s, s.map (fun e => e.2.2) = L ∧ OutSt w fp po br s

theorem outX_local (po : Nat) (L : List (List Nat)) : Local (outX po L) := by
  rintro w w' fp ⟨br, s, hs, h⟩ _ heq
  refine ⟨br, s, hs, ?_, h.foot, h.nd, fun e he => ⟨BlkAt.same (h.ent e he).1 (heq _ ((h.foot _).2 (.inr (.inr ⟨e, he, rfl⟩)))), (h.ent e he).2⟩⟩
  have hb := h.box
  have hpo := heq po ((h.foot _).2 (.inl rfl))
  cases br with
  | none => exact ⟨hb.1, BlkAt.same hb.2 hpo⟩
  | some x => exact ⟨hb.1, hb.2.1, BlkAt.same hb.2.2.1 hpo, BlkAt.same hb.2.2.2.1 (heq x.1 ((h.foot _).2 (.inr (.inl ⟨x.2, rfl⟩)))), hb.2.2.2.2⟩

/-- What the document's recursion does. -/
def MoreR (w : World) (fp : Foot) (po : Nat) (L : List (List Nat)) : Value → World → Prop := fun _ w' => ∃ fp', Grown fp w fp' w' ∧ outX po L w' fp'

def MoreOK (R : Rl) (n : Nat) (po most d : Nat) : Prop := ∀ (l : List Nat) (dn : BitVec 64) (pl : Option Addr) (cl : Nat) (w : World) (fp : Foot) (L : List (List Nat)), l.length + d = n → (∀ b, b < 64 → (dn.getLsbD b = true ↔ b ∈ l)) →
  outX po L w fp → (∀ b, fp b → b < w.heap.size) → SeesN w pl l → (∀ a, pl = some a → ¬ fp a.block) → (pl = none → l = [] ∧ cl = 0) → L.length ≤ 1000000 →
    GivesR Tryz.prog 95 [encRel R, .slice pl l.length cl, .int .i64 (most : Int), .pointer (some ⟨po, 0, none⟩)] w (MoreR w fp po (L ++ (extL (aheadL R) n d l dn).take (most - L.length)))

theorem more_enters : Enters Tryz.prog 95 := enters_mk Tryz.func95 (by decide) rfl

/-- The same as blocks. -/
def oh (s : List Ent) : List (Nat × Blk) := (0, .cells 25 [.one (lz 1 s)]) :: lr 1 s

theorem oh_lk {s : List Ent} {id : Nat} {B : Blk} (h : lk (oh s) id = some B) : (id = 0 ∧ B = .cells 25 [.one (lz 1 s)]) ∨ (s ≠ [] ∧ id = 1 ∧ B = .row 24 1 s.length (s.map slV)) := by
  cases s with
  | nil =>
    simp only [oh, lr, lk] at h
    split at h
    · rename_i he; cases h; exact .inl ⟨Nat.eq_of_beq_eq_true he, rfl⟩
    · cases h
  | cons e s =>
    simp only [oh, lr, lk] at h
    split at h
    · rename_i he; cases h; exact .inl ⟨Nat.eq_of_beq_eq_true he, rfl⟩
    · split at h
      · rename_i he; cases h; exact .inr ⟨by simp, Nat.eq_of_beq_eq_true he, rfl⟩
      · cases h

theorem more_blocks {w : World} {fp : Foot} {po : Nat} {br : Option (Nat × Nat)} {s : List Ent} {a b c : Value} {R : Value → World → Prop} {cd : Code} (hb : (Tryz.f95).body = some cd) (hO : OutSt w fp po br s) (hlt : ∀ b, fp b → b < w.heap.size)
    (h : Run (fnL Tryz.prog 95 4 (Tryz.f95).ntmps #[a, b, c, .pointer (some ⟨po, 0, none⟩)] w fp (rowsX s) R) [.code cd] ⟨[(0, .v a), (1, .v b), (2, .v c), (3, .ptr 0 0)], oh s, 2⟩) :
    GivesR Tryz.prog 95 [a, b, c, .pointer (some ⟨po, 0, none⟩)] w R := by
  obtain ⟨M, hM0, hM1⟩ : ∃ M : AM.Loc, (M 0) = (po, 0) ∧ ∀ b c, br = some (b, c) → M 1 = (b, c) := ⟨fun i => if i = 0 then (po, 0) else br.getD (0, 0), rfl, fun b c e => by rw [e]; rfl⟩
  have ea : concL M [.v a, .v b, .v c, .ptr 0 0] = [a, b, c, .pointer (some ⟨po, 0, none⟩)] := by simp [concL, conc, hM0]
  have hX : rowsX s w (fun x => ∃ e ∈ s, e.1 = x) := ⟨fun b => Iff.rfl, hO.nd, fun e he => (hO.ent e he).1⟩
  have hfl : ∀ x, (∃ e ∈ s, e.1 = x) → x < w.heap.size := fun x hx => hlt x ((hO.foot x).2 (.inr (.inr hx)))
  have hbox := hO.box
  have hblk : ∀ id B, lk (oh s) id = some B → BlkAt M w id B ∧ ((id = 0 ∧ (M id).1 = po) ∨ (id = 1 ∧ ∃ c, br = some ((M id).1, c) ∧ (M id).1 ≠ po ∧ ∀ e ∈ s, e.1 ≠ (M id).1)) := by
    intro id B hB
    rcases oh_lk hB with ⟨rfl, rfl⟩ | ⟨hne, rfl, rfl⟩
    · refine ⟨?_, .inl ⟨rfl, by rw [hM0]⟩⟩
      cases br with
      | none =>
        obtain ⟨rfl, hbx⟩ := hbox
        have h1 : BlkAt (fun _ => M 0) w 0 (.cells 25 [.one (.v (.slice none 0 0))]) := by rw [hM0]; exact hbx
        exact h1
      | some x =>
        obtain ⟨hne, hbp, hbx, _⟩ := hbox
        have h1 : BlkAt (fun _ => M 0) w 0 (.cells 25 [.one (.v (.slice (some ⟨x.1, 0, none⟩) s.length x.2))]) := by rw [hM0]; exact hbx
        have h2 : conc M (lz 1 s) = .slice (some ⟨x.1, 0, none⟩) s.length x.2 := by
          cases s with
          | nil => exact absurd rfl hne
          | cons e s => simp [lz, conc, hM1 x.1 x.2 rfl]
        refine ⟨?_, trivial⟩
        have h3 := h1.1
        simpa [concSegs, conc, h2] using h3
    · cases br with
      | none => exact absurd hbox.1 hne
      | some x =>
        obtain ⟨_, hbp, _, hrw, hen⟩ := hbox
        have h1 : BlkAt (fun _ => M 1) w 0 (.row 24 1 s.length (s.map slV)) := by rw [hM1 x.1 x.2 rfl]; exact hrw
        refine ⟨h1, .inr ⟨rfl, x.2, by rw [hM1 x.1 x.2 rfl], by rw [hM1 x.1 x.2 rfl]; exact hbp, by rw [hM1 x.1 x.2 rfl]; exact hen⟩⟩
  have hfoot : footH M (fun x => ∃ e ∈ s, e.1 = x) (oh s) = fp := by
    funext x; apply propext
    rw [hO.foot x]
    constructor
    · rintro (h | ⟨id, B, hB, rfl⟩)
      · exact .inr (.inr h)
      · rcases (hblk id B hB).2 with ⟨_, h⟩ | ⟨_, c, h, _⟩
        · exact .inl h
        · exact .inr (.inl ⟨c, h⟩)
    · rintro (rfl | ⟨c, h⟩ | h)
      · exact .inr ⟨0, _, rfl, by rw [hM0]⟩
      · refine .inr ⟨1, .row 24 1 s.length (s.map slV), ?_, by rw [hM1 x c h]⟩
        rw [h] at hbox
        cases s with
        | nil => exact absurd rfl hbox.1
        | cons e s => rfl
      · exact .inl h
  rw [← ea]
  refine givesL_of_run (h := oh s) (nx := 2) (fp := fun x => ∃ e ∈ s, e.1 = x) (X := rowsX s) Tryz.func95 hb (by show 4 ≤ 52; decide) hX hfl (fun id B hB => (hblk id B hB).1) ?_ ?_ ?_
  · intro id id' B B' hB hB' he
    rcases (hblk id B hB).2 with ⟨rfl, h1⟩ | ⟨rfl, c, h1, h2, _⟩ <;> rcases (hblk id' B' hB').2 with ⟨rfl, h3⟩ | ⟨rfl, c', h3, h4, _⟩
    · rfl
    · exact absurd (he.symm.trans h1) h4
    · exact absurd (he.trans h3) h2
    · rfl
  · rintro id B hB ⟨e, he, hee⟩
    rcases (hblk id B hB).2 with ⟨rfl, h1⟩ | ⟨rfl, c, h1, h2, h3⟩
    · exact (hO.ent e he).2 (hee.trans h1)
    · exact h3 e he hee
  · rw [hfoot, ea]; exact h

/-- What the leaf leaves. -/
theorem more_leave {w : World} {fp fp' : Foot} {po : Nat} {a b c : Value} {R : Value → World → Prop} {s : List Ent} {E : Ent} {M : AM.Loc} {σ : St} {ac : Act} {w' : World} {L : List (List Nat)} {idr : Nat}
    (hr : Rel (fnL Tryz.prog 95 4 (Tryz.f95).ntmps #[a, b, c, .pointer (some ⟨po, 0, none⟩)] w fp (rowsX (s ++ [E])) R) M fp' σ ac w') (h3 : lk σ.t 3 = some (.ptr 0 0))
    (hb0 : lk σ.h 0 = some (.cells 25 [.one (.sl idr 1 0 (s.length + 1))])) (hb1 : lk σ.h idr = some (.row 24 1 (s.length + 1) ((s ++ [E]).map slV))) (hid : idr ≠ 0) (hL : (s ++ [E]).map (fun e => e.2.2) = L) : MoreR w fp po L (.int .i64 0) w' := by
  have hbo : (M 0).1 = po := hr.still (i := 3) (off := 0) (o := 0) (by show 3 < 4; decide) rfl h3
  have hne : (M idr).1 ≠ po := fun e => hid (hr.inj _ _ _ _ hb1 hb0 (e.trans hbo.symm))
  obtain ⟨x1, x2, x3⟩ : rowsX (s ++ [E]) w' fp' := hr.outer
  have hlen : (s ++ [E]).length = s.length + 1 := by simp
  refine ⟨fun x => fp' x ∨ x = po ∨ x = (M idr).1, ⟨hr.agree, ?_⟩, some ((M idr).1, (M idr).2), s ++ [E], hL, ?_, ?_, x2, ?_⟩
  · rintro x (hx | rfl | rfl)
    · exact hr.fpok x hx
    · rw [← hbo]; exact ⟨(hr.heap 0 _ hb0).lt, hr.own 0 _ hb0⟩
    · exact ⟨(hr.heap idr _ hb1).lt, hr.own idr _ hb1⟩
  · refine ⟨by simp, hne, ?_, by rw [hlen]; exact hr.heap idr _ hb1, fun e he h => hr.apart idr _ hb1 ((x1 _).2 ⟨e, he, h⟩)⟩
    have h1 := hr.heap 0 _ hb0
    refine ⟨?_, trivial⟩
    have h2 := h1.1
    rw [hbo] at h2
    simpa [concSegs, conc] using h2
  · intro x
    constructor
    · rintro (hx | rfl | rfl)
      · exact .inr (.inr ((x1 x).1 hx))
      · exact .inl rfl
      · exact .inr (.inl ⟨_, rfl⟩)
    · rintro (rfl | ⟨c', h⟩ | h)
      · exact .inr (.inl rfl)
      · cases h; exact .inr (.inr rfl)
      · exact .inl ((x1 x).2 h)
  · intro e he
    exact ⟨x3 e he, fun h => hr.apart 0 _ hb0 (by rw [hbo]; exact (x1 _).2 ⟨e, he, h⟩)⟩

/-- The box's slice: how long it is. -/
theorem outX_len {po : Nat} {L : List (List Nat)} {w : World} {fp : Foot} (h : outX po L w fp) : ∃ v, (∃ p c, v = .slice p L.length c) ∧ w.cell? ⟨po, 0, none⟩ = some v := by
  obtain ⟨br, s, hs, hO⟩ := h
  have hl : s.length = L.length := by rw [← hs]; simp
  have hb := hO.box
  cases br with
  | none =>
    obtain ⟨h0, hbx⟩ := hb
    subst h0
    refine ⟨.slice none L.length 0, ⟨none, 0, rfl⟩, ?_⟩
    rw [← hl]
    have := cells_of_blk hbx 0
    simpa [concSegs, conc] using this
  | some x =>
    obtain ⟨_, _, hbx, _⟩ := hb
    refine ⟨.slice (some ⟨x.1, 0, none⟩) s.length x.2, ⟨_, _, by rw [hl]⟩, ?_⟩
    have := cells_of_blk hbx 0
    simpa [concSegs, conc] using this

theorem more_full (R : Rl) (po most : Nat) (pl : Option Addr) (cl len : Nat) (w : World) (fp : Foot) (L : List (List Nat)) (hX : outX po L w fp) (hlt : ∀ b, fp b → b < w.heap.size) (hf : L.length ≥ most) :
    GivesR Tryz.prog 95 [encRel R, .slice pl len cl, .int .i64 (most : Int), .pointer (some ⟨po, 0, none⟩)] w (MoreR w fp po L) := by
  refine givesX_of_run (S0 := fp) (X := outX po L) Tryz.func95 rfl (by show 4 ≤ 52; decide) hX (fun b hb => ⟨hlt b hb, fun _ => hb⟩) ?_
  refine RunF_sound tab_ok (outX_local po L) 9 [] _ _ rfl ?_ ?_
  · simp
  refine Run.loadX (Q := fun v => ∃ p c, v = .slice p L.length c) tab_ok rfl rfl rfl rfl rfl (fun w' fp' h => outX_len h) rfl rfl ?_
  rintro v ⟨p, c, rfl⟩
  refine RunF_sound tab_ok (outX_local po L) 100 [true] _ _ rfl ?_ ?_
  · simp; omega
  exact Run.retI Tryz.func95 rfl fun v w' fp' hg hX => ⟨fp', hg, hX⟩

noncomputable def moreBody : Code := (Tryz.f95).body.get rfl

theorem ext_seesN {w : World} {a : Addr} : ∀ {l : List Nat}, SeesN w (some a) l → extCells w a 0 l.length = encN l := by
  suffices H : ∀ (l : List Nat) (k : Nat), (∀ i (h : i < l.length), w.cell? (a.add (k + i)) = some (.int .i64 (l[i] : Int))) → extCells w a k l.length = encN l by
    intro l h
    refine H l 0 fun i hi => ?_
    rw [Nat.zero_add]
    exact (h i hi).2
  intro l
  induction l with
  | nil => intro k _; rfl
  | cons x l ih =>
    intro k h
    have h0 := h 0 (by simp)
    simp only [Nat.add_zero, List.getElem_cons_zero] at h0
    rw [List.length_cons, extCells, h0, ih (k + 1) fun i hi => by
      have := h (i + 1) (by simp; omega)
      rw [show k + 1 + i = k + (i + 1) by omega]
      simpa using this]
    rfl

set_option maxHeartbeats 2000000 in
theorem more_zero (R : Rl) (hR : Rt R) (n : Nat) (hn : R.n = (n : Int)) (po most : Nat) : MoreOK R n po most 0 := by
  intro l dn pl cl w fp L hl hd hX hlt hs hnf hpn hL9
  by_cases hf : L.length ≥ most
  · have := more_full R po most pl cl l.length w fp L hX hlt hf
    rw [show most - L.length = 0 by omega, List.take_zero, List.append_nil]
    exact this
  have htk : (extL (aheadL R) n 0 l dn).take (most - L.length) = [l] := by
    rw [extL, List.take_of_length_le (by simp; omega)]
  rw [htk]
  have hn64 : n ≤ 64 := by have := hR.hi; omega
  have hln : l.length = n := by omega
  obtain ⟨br, s, hsL, hO⟩ := hX
  have hsl : s.length = L.length := by rw [← hsL]; simp
  refine more_blocks (cd := moreBody) rfl hO hlt ?_
  have hml : maxLen = 9223372036854775807 := rfl
  cases pl with
  | none =>
    obtain ⟨rfl, rfl⟩ := hpn rfl
    cases s with
    | nil =>
      refine RunF_sound tab_ok (rowsX_local []) 100 [false, true] _ _ rfl ?_ ?_
      · simp [← hln, hn]
        simp at hsl
        omega
      refine Run.drawA (rowsX_local []) rfl [] [(0, .cells 25 [.one (.v (.slice none 0 0))])] rfl rfl ⟨rfl, trivial⟩ ?_
      refine RunOF_sound tab_ok (rowsX_local []) rfl rfl 200 [] _ _ rfl ?_ ?_
      · simp [repL, fillL, Value.cells, inT, lk]
      refine RunO.to [(3, .ptr 0 0), (21, .ptr 0 0), (24, (.v (.slice none 0 0))), (27, .sl 3 1 0 0)] [(0, .cells 25 [.one (.v (.slice none 0 0))]), (3, .row 3 1 0 (encN []))] 5 ?_ ⟨rfl, rfl, rfl, rfl, trivial⟩ ⟨rfl, ?_, trivial⟩ (show 2 + 1 ≤ 5 by decide)
      rotate_left
      · rfl
      refine RunO.give 3 (B := .row 3 1 0 (encN [])) (fun M => rowsX ([] ++ [((M 3).1, (M 3).2, [])])) (fun M => [(3, .ptr 0 0), (21, .ptr 0 0), (24, (.v (.slice none 0 0))), (27, .v (slV ((M 3).1, (M 3).2, [])))]) [(0, .cells 25 [.one (.v (.slice none 0 0))])] 5 (show 2 + 1 ≤ 5 by decide) rfl ⟨rfl, trivial⟩ rfl ?_ ?_ ?_
      · exact fun M => ⟨⟨_, rfl, rfl⟩, ⟨_, rfl, rfl⟩, ⟨_, rfl, rfl⟩, ⟨_, rfl, by simp [conc, slV]⟩, trivial⟩
      · exact fun M w hb => rowsX_join [] hb
      intro M
      generalize hE : (((M 3).1, (M 3).2, []) : Ent) = E
      have hEl : E.2.2 = [] := by rw [← hE]
      have hsL' : (([] : List Ent) ++ [E]).map (fun e => e.2.2) = L ++ [[]] := by rw [List.map_append, hsL]; simp [hEl]
      clear hE
      refine RunOF_sound tab_ok (rowsX_local ([] ++ [E])) rfl rfl 3 [] _ _ rfl ?_ ?_
      · simp [repL, fillL, Value.cells, inT, lk, slV, Value.oneCell', maxLen, splice]
      refine RunO.effLast tab_ok (rowsX_local ([] ++ [E])) rfl rfl rfl rfl ?_ (fun e => by cases e) rfl ?_
      · simp [okCell]
      refine RunF_sound tab_ok (rowsX_local ([] ++ [E])) 100 [] _ _ rfl ?_ ?_
      · simp
      refine Run.retF tab_ok Tryz.func95 rfl trivial fun M fp' ac w' hr => ?_
      exact more_leave (s := []) (E := E) (idr := 6) hr rfl rfl rfl (by decide) hsL'
    | cons e0 s =>
      refine RunF_sound tab_ok (rowsX_local (e0 :: s)) 100 [false, true] _ _ rfl ?_ ?_
      · simp [← hln, hn]
        simp at hsl
        omega
      refine Run.drawA (rowsX_local (e0 :: s)) rfl [] [(0, .cells 25 [.one (.sl 1 1 0 (s.length + 1))])] rfl rfl ⟨rfl, trivial⟩ ?_
      refine RunOF_sound tab_ok (rowsX_local (e0 :: s)) rfl rfl 200 [] _ _ rfl ?_ ?_
      · simp [repL, fillL, Value.cells, inT, lk]
      refine RunO.to [(3, .ptr 0 0), (21, .ptr 0 0), (24, (.sl 1 1 0 (s.length + 1))), (27, .sl 3 1 0 0)] [(0, .cells 25 [.one (.sl 1 1 0 (s.length + 1))]), (1, .row 24 1 (s.length + 1) ((e0 :: s).map slV)), (3, .row 3 1 0 (encN []))] 5 ?_ ⟨rfl, rfl, rfl, rfl, trivial⟩ ⟨rfl, rfl, ?_, trivial⟩ (show 2 + 1 ≤ 5 by decide)
      rotate_left
      · rfl
      refine RunO.give 3 (B := .row 3 1 0 (encN [])) (fun M => rowsX ((e0 :: s) ++ [((M 3).1, (M 3).2, [])])) (fun M => [(3, .ptr 0 0), (21, .ptr 0 0), (24, (.sl 1 1 0 (s.length + 1))), (27, .v (slV ((M 3).1, (M 3).2, [])))]) [(0, .cells 25 [.one (.sl 1 1 0 (s.length + 1))]), (1, .row 24 1 (s.length + 1) ((e0 :: s).map slV))] 5 (show 2 + 1 ≤ 5 by decide) rfl ⟨rfl, rfl, trivial⟩ rfl ?_ ?_ ?_
      · exact fun M => ⟨⟨_, rfl, rfl⟩, ⟨_, rfl, rfl⟩, ⟨_, rfl, rfl⟩, ⟨_, rfl, by simp [conc, slV]⟩, trivial⟩
      · exact fun M w hb => rowsX_join (e0 :: s) hb
      intro M
      generalize hE : (((M 3).1, (M 3).2, []) : Ent) = E
      have hEl : E.2.2 = [] := by rw [← hE]
      have hsL' : ((e0 :: s) ++ [E]).map (fun e => e.2.2) = L ++ [[]] := by rw [List.map_append, hsL]; simp [hEl]
      clear hE
      refine RunOF_sound tab_ok (rowsX_local ((e0 :: s) ++ [E])) rfl rfl 3 [] _ _ rfl ?_ ?_
      · simp [repL, fillL, Value.cells, inT, lk, slV, Value.oneCell', maxLen, splice]
        simp at hsl
        omega
      refine RunO.effLast tab_ok (rowsX_local ((e0 :: s) ++ [E])) rfl rfl rfl rfl ?_ (fun e => by cases e) rfl ?_
      · simp [okCell]
      refine RunF_sound tab_ok (rowsX_local ((e0 :: s) ++ [E])) 100 [] _ _ rfl ?_ ?_
      · simp
      refine Run.retF tab_ok Tryz.func95 rfl trivial fun M fp' ac w' hr => ?_
      refine more_leave (s := (e0 :: s)) (E := E) (idr := 6) hr rfl rfl ?_ (by decide) hsL'
      exact congrArg (fun z => some (Blk.row 24 1 (s.length + 1 + 1) z)) (show ((e0 :: s).map slV).take ((s.length + 1) * 1) ++ [slV E] = (e0 :: s ++ [E]).map slV by rw [List.take_of_length_le (by simp), List.map_append]; rfl)
  | some a =>
    have hext : extCells w a 0 l.length = encN l := ext_seesN hs
    have hsm : ∀ j, j < l.length → (w.cell? (a.add j)).isSome := fun j hj => by have := (hs j hj).2; rw [Option.getD_some] at this; rw [this]; rfl
    have hnfa := hnf a rfl
    cases s with
    | nil =>
      refine RunF_sound tab_ok (rowsX_local []) 100 [false, true] _ _ rfl ?_ ?_
      · simp [hln, hn]
        simp at hsl
        omega
      refine Run.drawA (rowsX_local []) rfl [] [(0, .cells 25 [.one (.v (.slice none 0 0))])] rfl rfl ⟨rfl, trivial⟩ ?_
      refine RunOF_sound tab_ok (rowsX_local []) rfl rfl 200 [] _ _ rfl ?_ ?_
      · simp [repL, fillL, Value.cells, inT, lk]
        rw [hext]
        exact ⟨⟨⟨hsm, hnfa⟩, by omega, by omega⟩, encN_one l⟩
      refine RunO.to [(3, .ptr 0 0), (21, .ptr 0 0), (24, (.v (.slice none 0 0))), (27, .sl 4 1 0 (0 + l.length))] [(0, .cells 25 [.one (.v (.slice none 0 0))]), (4, .row 3 1 (0 + l.length) (encN l))] 5 ?_ ⟨rfl, rfl, rfl, rfl, trivial⟩ ⟨rfl, ?_, trivial⟩ (show 2 + 1 ≤ 5 by decide)
      rotate_left
      · exact congrArg (fun z => some (Blk.row 3 1 (0 + l.length) z)) (show [] ++ extCells w a 0 (l.length * 1) = encN l by rw [Nat.mul_one]; exact hext)
      refine RunO.give 4 (B := .row 3 1 (0 + l.length) (encN l)) (fun M => rowsX ([] ++ [((M 4).1, (M 4).2, l)])) (fun M => [(3, .ptr 0 0), (21, .ptr 0 0), (24, (.v (.slice none 0 0))), (27, .v (slV ((M 4).1, (M 4).2, l)))]) [(0, .cells 25 [.one (.v (.slice none 0 0))])] 5 (show 2 + 1 ≤ 5 by decide) rfl ⟨rfl, trivial⟩ rfl ?_ ?_ ?_
      · exact fun M => ⟨⟨_, rfl, rfl⟩, ⟨_, rfl, rfl⟩, ⟨_, rfl, rfl⟩, ⟨_, rfl, by simp [conc, slV]⟩, trivial⟩
      · exact fun M w hb => by rw [Nat.zero_add] at hb; exact rowsX_join [] hb
      intro M
      generalize hE : (((M 4).1, (M 4).2, l) : Ent) = E
      have hEl : E.2.2 = l := by rw [← hE]
      have hsL' : (([] : List Ent) ++ [E]).map (fun e => e.2.2) = L ++ [l] := by rw [List.map_append, hsL]; simp [hEl]
      clear hE
      refine RunOF_sound tab_ok (rowsX_local ([] ++ [E])) rfl rfl 3 [] _ _ rfl ?_ ?_
      · simp [repL, fillL, Value.cells, inT, lk, slV, Value.oneCell', maxLen, splice]
      refine RunO.effLast tab_ok (rowsX_local ([] ++ [E])) rfl rfl rfl rfl ?_ (fun e => by cases e) rfl ?_
      · simp [okCell]
      refine RunF_sound tab_ok (rowsX_local ([] ++ [E])) 100 [] _ _ rfl ?_ ?_
      · simp
      refine Run.retF tab_ok Tryz.func95 rfl trivial fun M fp' ac w' hr => ?_
      exact more_leave (s := []) (E := E) (idr := 6) hr rfl rfl rfl (by decide) hsL'
    | cons e0 s =>
      refine RunF_sound tab_ok (rowsX_local (e0 :: s)) 100 [false, true] _ _ rfl ?_ ?_
      · simp [hln, hn]
        simp at hsl
        omega
      refine Run.drawA (rowsX_local (e0 :: s)) rfl [] [(0, .cells 25 [.one (.sl 1 1 0 (s.length + 1))])] rfl rfl ⟨rfl, trivial⟩ ?_
      refine RunOF_sound tab_ok (rowsX_local (e0 :: s)) rfl rfl 200 [] _ _ rfl ?_ ?_
      · simp [repL, fillL, Value.cells, inT, lk]
        rw [hext]
        exact ⟨⟨⟨hsm, hnfa⟩, by omega, by omega⟩, encN_one l⟩
      refine RunO.to [(3, .ptr 0 0), (21, .ptr 0 0), (24, (.sl 1 1 0 (s.length + 1))), (27, .sl 4 1 0 (0 + l.length))] [(0, .cells 25 [.one (.sl 1 1 0 (s.length + 1))]), (1, .row 24 1 (s.length + 1) ((e0 :: s).map slV)), (4, .row 3 1 (0 + l.length) (encN l))] 5 ?_ ⟨rfl, rfl, rfl, rfl, trivial⟩ ⟨rfl, rfl, ?_, trivial⟩ (show 2 + 1 ≤ 5 by decide)
      rotate_left
      · exact congrArg (fun z => some (Blk.row 3 1 (0 + l.length) z)) (show [] ++ extCells w a 0 (l.length * 1) = encN l by rw [Nat.mul_one]; exact hext)
      refine RunO.give 4 (B := .row 3 1 (0 + l.length) (encN l)) (fun M => rowsX ((e0 :: s) ++ [((M 4).1, (M 4).2, l)])) (fun M => [(3, .ptr 0 0), (21, .ptr 0 0), (24, (.sl 1 1 0 (s.length + 1))), (27, .v (slV ((M 4).1, (M 4).2, l)))]) [(0, .cells 25 [.one (.sl 1 1 0 (s.length + 1))]), (1, .row 24 1 (s.length + 1) ((e0 :: s).map slV))] 5 (show 2 + 1 ≤ 5 by decide) rfl ⟨rfl, rfl, trivial⟩ rfl ?_ ?_ ?_
      · exact fun M => ⟨⟨_, rfl, rfl⟩, ⟨_, rfl, rfl⟩, ⟨_, rfl, rfl⟩, ⟨_, rfl, by simp [conc, slV]⟩, trivial⟩
      · exact fun M w hb => by rw [Nat.zero_add] at hb; exact rowsX_join (e0 :: s) hb
      intro M
      generalize hE : (((M 4).1, (M 4).2, l) : Ent) = E
      have hEl : E.2.2 = l := by rw [← hE]
      have hsL' : ((e0 :: s) ++ [E]).map (fun e => e.2.2) = L ++ [l] := by rw [List.map_append, hsL]; simp [hEl]
      clear hE
      refine RunOF_sound tab_ok (rowsX_local ((e0 :: s) ++ [E])) rfl rfl 3 [] _ _ rfl ?_ ?_
      · simp [repL, fillL, Value.cells, inT, lk, slV, Value.oneCell', maxLen, splice]
        simp at hsl
        omega
      refine RunO.effLast tab_ok (rowsX_local ((e0 :: s) ++ [E])) rfl rfl rfl rfl ?_ (fun e => by cases e) rfl ?_
      · simp [okCell]
      refine RunF_sound tab_ok (rowsX_local ((e0 :: s) ++ [E])) 100 [] _ _ rfl ?_ ?_
      · simp
      refine Run.retF tab_ok Tryz.func95 rfl trivial fun M fp' ac w' hr => ?_
      refine more_leave (s := (e0 :: s)) (E := E) (idr := 6) hr rfl rfl ?_ (by decide) hsL'
      exact congrArg (fun z => some (Blk.row 24 1 (s.length + 1 + 1) z)) (show ((e0 :: s).map slV).take ((s.length + 1) * 1) ++ [slV E] = (e0 :: s ++ [E]).map slV by rw [List.take_of_length_le (by simp), List.map_append]; rfl)

noncomputable def moLi (R : Rl) (n most d : Nat) (l : List Nat) (dn : BitVec 64) (L : List (List Nat)) (i : Nat) : List (List Nat) := L ++ (extP (aheadL R) n d l dn i).take (most - L.length)

theorem moLi_step (R : Rl) (n most d : Nat) (l : List Nat) (dn : BitVec 64) (L : List (List Nat)) (i : Nat) :
    moLi R n most d l dn L i ++ (extF (aheadL R) n d l dn i).take (most - (moLi R n most d l dn L i).length) = moLi R n most d l dn L (i + 1) := by
  unfold moLi
  rw [extP_succ, List.take_append, List.append_assoc]
  congr 2
  congr 1
  rw [List.length_append, List.length_take]
  omega

theorem dn_next {dn : BitVec 64} {l : List Nat} (hd : ∀ b, b < 64 → (dn.getLsbD b = true ↔ b ∈ l)) {i : Nat} (hi : i < 64) : ∀ b, b < 64 → ((dn ||| 1#64 <<< i).getLsbD b = true ↔ b ∈ l ++ [i]) := by
  intro b hb
  rw [BitVec.getLsbD_or, Bool.or_eq_true, hd b hb, one_shl_get i b hi, decide_eq_true_eq, List.mem_append, List.mem_singleton]

set_option maxHeartbeats 2000000 in
theorem more_succ (R : Rl) (hR : Rt R) (n : Nat) (hn : R.n = (n : Int)) (po most : Nat) (hmost : most ≤ 100000) (d : Nat) (ih : MoreOK R n po most d) : MoreOK R n po most (d + 1) := by
  intro l dn pl cl w fp L hl hd hX hlt hs hnf hpn hL9
  by_cases hf : L.length ≥ most
  · have := more_full R po most pl cl l.length w fp L hX hlt hf
    rw [show most - L.length = 0 by omega, List.take_zero, List.append_nil]
    exact this
  have hn64 : n ≤ 64 := by have := hR.hi; omega
  have hln : l.length < n := by omega
  have hml : maxLen = 9223372036854775807 := rfl
  rw [extL_succ]
  show GivesR _ _ _ _ (MoreR w fp po (moLi R n most d l dn L n))
  refine givesX_of_run (S0 := fp) (X := outX po L) Tryz.func95 rfl (by show 4 ≤ 52; decide) hX (fun b hb => ⟨hlt b hb, fun _ => hb⟩) ?_
  obtain ⟨R0, hR0⟩ : ∃ R0, R0 = MoreR w fp po (moLi R n most d l dn L n) := ⟨_, rfl⟩
  rw [← hR0]
  refine RunF_sound tab_ok (outX_local po L) 9 [] _ _ rfl ?_ ?_
  · simp
  refine Run.loadX (Q := fun v => ∃ p c, v = .slice p L.length c) tab_ok rfl rfl rfl rfl rfl (fun w' fp' h => outX_len h) rfl rfl ?_
  rintro v ⟨p, c, rfl⟩
  refine RunF_sound tab_ok (outX_local po L) 100 [false, false] _ _ rfl ?_ ?_
  · simp [hn]; omega
  suffices H : ∀ (m i : Nat), i + m = n → ∀ σ, inT σ.t [(1, .v (.slice pl l.length cl)), (2, .v (.int .i64 (most : Int))), (3, .v (.pointer (some ⟨po, 0, none⟩))), (4, .ptr 0 0), (8, .v (.int .i64 (i : Int)))] → inT σ.h [(0, .cells 60 [.vals 65 (relV R)])] →
      Run (fnC Tryz.prog 95 (Tryz.f95).ntmps w fp (outX po (moLi R n most d l dn L i)) R0) _ σ by
    have e0 : moLi R n most d l dn L 0 = L := by simp [moLi, extP]
    have := H n 0 (by omega)
    rw [e0] at this
    exact this _ ⟨rfl, rfl, rfl, rfl, rfl, trivial⟩ ⟨rfl, trivial⟩
  intro m
  induction m with
  | zero =>
    intro i hi σ ht hh
    refine Run.to ?_ ht hh (n' := 1)
    obtain rfl : i = n := by omega
    refine RunF_sound tab_ok (outX_local po _) 100 [false] _ _ rfl ?_ ?_
    · simp [hn]
    exact Run.finI Tryz.func95 rfl fun v w' fp' hg hX => by rw [hR0]; exact ⟨fp', hg, hX⟩
  | succ m ihm =>
    intro i hi σ ht hh
    refine Run.to ?_ ht hh (n' := 1)
    have hin : i < n := by omega
    have hst := moLi_step R n most d l dn L i
    have hfree : ∀ w', Agree fp w w' → Gives Tryz.prog 106 [encRel R, .slice pl l.length cl, .int .i64 (i : Int)] w' (.bool (rdyB (aheadL R) dn i)) := fun w' hA => by
      have := free_ok hR hn pl cl l i w' (hs.agree hA (fun a ha => hnf a ha)) (by omega)
      rwa [free_rdy hR hn hd hin] at this
    have hLl : (moLi R n most d l dn L i).length ≤ 1000000 := by
      unfold moLi; rw [List.length_append, List.length_take]; omega
    generalize hLi : moLi R n most d l dn L i = Li at *
    refine RunF_sound tab_ok (outX_local po _) 100 [true] _ _ rfl ?_ ?_
    · simp [hn]; omega
    refine Run.callFn (r := .bool (rdyB (aheadL R) dn i)) (outX_local po _) rfl rfl rfl rfl rfl rfl rfl free_enters rfl (fun w' hA => hfree w' hA) ?_
    have hnext : ∀ σ, (rdyB (aheadL R) dn i = false ∨ True) → inT σ.t [(1, .v (.slice pl l.length cl)), (2, .v (.int .i64 (most : Int))), (3, .v (.pointer (some ⟨po, 0, none⟩))), (4, .ptr 0 0), (8, .v (.int .i64 ((i + 1 : Nat) : Int)))] → inT σ.h [(0, .cells 60 [.vals 65 (relV R)])] →
      Run (fnC Tryz.prog 95 (Tryz.f95).ntmps w fp (outX po (moLi R n most d l dn L (i + 1))) R0) _ σ := fun σ _ ht hh => ihm (i + 1) (by omega) σ ht hh
    by_cases hr : rdyB (aheadL R) dn i = true
    · have hef : extF (aheadL R) n d l dn i = extL (aheadL R) n d (l ++ [i]) (dn ||| 1#64 <<< i) := by rw [extF, if_pos hr]
      rw [hef] at hst
      rw [hr]
      refine RunF_sound tab_ok (outX_local po _) 100 [true] _ _ rfl ?_ ?_
      · simp
      have hcon : ∀ (M : AM.Loc) (fp1 : Foot) (a : Act) (w1 : World) (σ : St) (idr : Nat), Rel (fnC Tryz.prog 95 (Tryz.f95).ntmps w fp (outX po Li) R0) M fp1 σ a w1 → lk σ.h idr = some (.row 3 1 (l.length + 1) (encN (l ++ [i]))) →
          GivesR Tryz.prog 95 [encRel R, .slice (some ⟨(M idr).1, 0, none⟩) (l.length + 1) ((M idr).2 - 0), .int .i64 (most : Int), .pointer (some ⟨po, 0, none⟩)] w1 (fun v w' => ∃ fp', Grown fp1 w1 fp' w' ∧ outX po (moLi R n most d l dn L (i + 1)) w' fp') := by
        intro M fp1 a w1 σ idr hRl hB
        have hlen : (l ++ [i]).length = l.length + 1 := by simp
        have hb := hRl.heap idr _ hB
        rw [← hlen] at hb ⊢
        refine Calls.mono' (ih (l ++ [i]) (dn ||| 1#64 <<< i) (some ⟨(M idr).1, 0, none⟩) ((M idr).2 - 0) w1 fp1 Li (by rw [hlen]; omega) (dn_next hd (by omega)) hRl.outer (fun b hb => (hRl.fpok b hb).1) (seesN_row hb) (fun a ha => by cases ha; exact hRl.apart idr _ hB) (fun h => by cases h) hLl) ?_
        rintro e w' ⟨v, h1, fp', hg, hX'⟩
        rw [hst] at hX'
        exact ⟨v, h1, fp', hg, hX'⟩
      refine Run.to (t' := [(1, .v (.slice pl l.length cl)), (2, .v (.int .i64 (most : Int))), (3, .v (.pointer (some ⟨po, 0, none⟩))), (4, .ptr 0 0), (8, .v (.int .i64 (i : Int)))]) (h' := [(0, .cells 60 [.vals 65 (relV R)])]) (n' := 1) ?_ ⟨rfl, rfl, rfl, rfl, rfl, trivial⟩ ⟨rfl, trivial⟩
      cases pl with
      | none =>
        obtain ⟨rfl, rfl⟩ := hpn rfl
        refine Run.drawF2 (outX_local po _) rfl 5 1 3 rfl rfl [] [(0, .cells 60 [.vals 65 (relV R)])] rfl rfl rfl rfl rfl rfl ⟨rfl, trivial⟩ ?_ ?_ ?_
        · refine RunOF_sound tab_ok (outX_local po _) rfl rfl 200 [] _ _ rfl ?_ ?_
          · simp [repL, fillL, Value.cells, inT, lk, maxLen, Value.oneCell', splice]
          refine RunO.to [(1, .v (.slice none ([] : List Nat).length 0)), (2, .v (.int .i64 (most : Int))), (3, .v (.pointer (some ⟨po, 0, none⟩))), (4, .ptr 0 0), (8, .v (.int .i64 (i : Int))), (42, .v (encRel R)), (48, .sl 3 1 0 (0 + 1)), (49, .v (.int .i64 (most : Int))), (50, .v (.pointer (some ⟨po, 0, none⟩)))] [(0, .cells 60 [.vals 65 (relV R)]), (3, .row 3 1 (0 + 1) (encN (([] : List Nat) ++ [i])))] 9 ?_ ⟨rfl, rfl, rfl, rfl, rfl, rfl, rfl, rfl, rfl, trivial⟩ ⟨rfl, ?_, trivial⟩ (show 1 ≤ 9 by decide)
          rotate_left
          · rfl
          refine RunO.callG (xs := [.v (encRel R), .sl 3 1 0 (0 + 1), .v (.int .i64 (most : Int)), .v (.pointer (some ⟨po, 0, none⟩))]) (caps := []) rfl ⟨rfl, trivial⟩ rfl rfl rfl rfl rfl rfl more_enters rfl fun M fp1 a w1 hRl => ?_
          have ea : concL M ([AV.v (encRel R), .sl 3 1 0 (0 + 1), .v (.int .i64 (most : Int)), .v (.pointer (some ⟨po, 0, none⟩))] ++ []) = [encRel R, .slice (some ⟨(M 3).1, 0, none⟩) (([] : List Nat).length + 1) ((M 3).2 - 0), .int .i64 (most : Int), .pointer (some ⟨po, 0, none⟩)] := by simp [concL, conc]
          rw [ea]
          refine Calls.mono' (hcon M fp1 a w1 _ 3 hRl rfl) fun e w' ⟨v, h1, fp', h2, h3⟩ => ⟨v, h1, _, fp', h2, h3, RunO.done ?_⟩
          refine RunF_sound tab_ok (outX_local po _) 100 [] _ _ rfl ?_ ?_
          · simp
          exact hnext _ (.inr trivial) ⟨rfl, rfl, rfl, rfl, i64_eq (wrap_succ (by omega)), trivial⟩ ⟨rfl, trivial⟩
        · refine RunOF_sound tab_ok (outX_local po _) rfl rfl 200 [] _ _ rfl ?_ ?_
          · simp [repL, fillL, Value.cells, inT, lk, maxLen, Value.oneCell', splice]
          refine RunO.to [(1, .v (.slice none ([] : List Nat).length 0)), (2, .v (.int .i64 (most : Int))), (3, .v (.pointer (some ⟨po, 0, none⟩))), (4, .ptr 0 0), (8, .v (.int .i64 (i : Int))), (42, .v (encRel R)), (48, .sl 3 1 0 (0 + 1)), (49, .v (.int .i64 (most : Int))), (50, .v (.pointer (some ⟨po, 0, none⟩)))] [(0, .cells 60 [.vals 65 (relV R)]), (3, .row 3 1 (0 + 1) (encN (([] : List Nat) ++ [i])))] 9 ?_ ⟨rfl, rfl, rfl, rfl, rfl, rfl, rfl, rfl, rfl, trivial⟩ ⟨rfl, ?_, trivial⟩ (show 1 ≤ 9 by decide)
          rotate_left
          · rfl
          refine RunO.callG (xs := [.v (encRel R), .sl 3 1 0 (0 + 1), .v (.int .i64 (most : Int)), .v (.pointer (some ⟨po, 0, none⟩))]) (caps := []) rfl ⟨rfl, trivial⟩ rfl rfl rfl rfl rfl rfl more_enters rfl fun M fp1 a w1 hRl => ?_
          have ea : concL M ([AV.v (encRel R), .sl 3 1 0 (0 + 1), .v (.int .i64 (most : Int)), .v (.pointer (some ⟨po, 0, none⟩))] ++ []) = [encRel R, .slice (some ⟨(M 3).1, 0, none⟩) (([] : List Nat).length + 1) ((M 3).2 - 0), .int .i64 (most : Int), .pointer (some ⟨po, 0, none⟩)] := by simp [concL, conc]
          rw [ea]
          refine Calls.mono' (hcon M fp1 a w1 _ 3 hRl rfl) fun e w' ⟨v, h1, fp', h2, h3⟩ => ⟨v, h1, _, fp', h2, h3, RunO.done ?_⟩
          refine RunF_sound tab_ok (outX_local po _) 100 [] _ _ rfl ?_ ?_
          · simp
          exact hnext _ (.inr trivial) ⟨rfl, rfl, rfl, rfl, i64_eq (wrap_succ (by omega)), trivial⟩ ⟨rfl, trivial⟩
        · refine RunOF_sound tab_ok (outX_local po _) rfl rfl 200 [] _ _ rfl ?_ ?_
          · simp [repL, fillL, Value.cells, inT, lk, maxLen, Value.oneCell', splice]
          refine RunO.to [(1, .v (.slice none ([] : List Nat).length 0)), (2, .v (.int .i64 (most : Int))), (3, .v (.pointer (some ⟨po, 0, none⟩))), (4, .ptr 0 0), (8, .v (.int .i64 (i : Int))), (42, .v (encRel R)), (48, .sl 3 1 0 (0 + 1)), (49, .v (.int .i64 (most : Int))), (50, .v (.pointer (some ⟨po, 0, none⟩)))] [(0, .cells 60 [.vals 65 (relV R)]), (3, .row 3 1 (0 + 1) (encN (([] : List Nat) ++ [i])))] 9 ?_ ⟨rfl, rfl, rfl, rfl, rfl, rfl, rfl, rfl, rfl, trivial⟩ ⟨rfl, ?_, trivial⟩ (show 1 ≤ 9 by decide)
          rotate_left
          · rfl
          refine RunO.callG (xs := [.v (encRel R), .sl 3 1 0 (0 + 1), .v (.int .i64 (most : Int)), .v (.pointer (some ⟨po, 0, none⟩))]) (caps := []) rfl ⟨rfl, trivial⟩ rfl rfl rfl rfl rfl rfl more_enters rfl fun M fp1 a w1 hRl => ?_
          have ea : concL M ([AV.v (encRel R), .sl 3 1 0 (0 + 1), .v (.int .i64 (most : Int)), .v (.pointer (some ⟨po, 0, none⟩))] ++ []) = [encRel R, .slice (some ⟨(M 3).1, 0, none⟩) (([] : List Nat).length + 1) ((M 3).2 - 0), .int .i64 (most : Int), .pointer (some ⟨po, 0, none⟩)] := by simp [concL, conc]
          rw [ea]
          refine Calls.mono' (hcon M fp1 a w1 _ 3 hRl rfl) fun e w' ⟨v, h1, fp', h2, h3⟩ => ⟨v, h1, _, fp', h2, h3, RunO.done ?_⟩
          refine RunF_sound tab_ok (outX_local po _) 100 [] _ _ rfl ?_ ?_
          · simp
          exact hnext _ (.inr trivial) ⟨rfl, rfl, rfl, rfl, i64_eq (wrap_succ (by omega)), trivial⟩ ⟨rfl, trivial⟩
      | some a =>
        have hext : extCells w a 0 l.length = encN l := ext_seesN hs
        have hsm : ∀ j, j < l.length → (w.cell? (a.add j)).isSome := fun j hj => by have := (hs j hj).2; rw [Option.getD_some] at this; rw [this]; rfl
        have hnfa := hnf a rfl
        refine Run.drawF2 (outX_local po _) rfl 5 1 3 rfl rfl [] [(0, .cells 60 [.vals 65 (relV R)])] rfl rfl rfl rfl rfl rfl ⟨rfl, trivial⟩ ?_ ?_ ?_
        · refine RunOF_sound tab_ok (outX_local po _) rfl rfl 200 [] _ _ rfl ?_ ?_
          · simp [repL, fillL, Value.cells, inT, lk, Value.oneCell', splice]
            rw [hext]
            first
            | exact ⟨by omega, ⟨⟨⟨hsm, hnfa⟩, by omega, by omega⟩, encN_one l⟩, by omega, by omega⟩
            | exact ⟨⟨⟨⟨hsm, hnfa⟩, by omega, by omega⟩, encN_one l⟩, by omega, by omega, by omega⟩
          refine RunO.to [(1, .v (.slice (some a) l.length cl)), (2, .v (.int .i64 (most : Int))), (3, .v (.pointer (some ⟨po, 0, none⟩))), (4, .ptr 0 0), (8, .v (.int .i64 (i : Int))), (42, .v (encRel R)), (48, .sl 4 1 0 (0 + l.length + 1)), (49, .v (.int .i64 (most : Int))), (50, .v (.pointer (some ⟨po, 0, none⟩)))] [(0, .cells 60 [.vals 65 (relV R)]), (4, .row 3 1 (0 + l.length + 1) (encN (l ++ [i])))] 9 ?_ ⟨rfl, rfl, rfl, rfl, rfl, rfl, rfl, rfl, rfl, trivial⟩ ⟨rfl, ?_, trivial⟩ (show 1 ≤ 9 by decide)
          rotate_left
          · exact congrArg (fun z => some (Blk.row 3 1 (0 + l.length + 1) z)) (show (([] : List Value) ++ extCells w a 0 (l.length * 1)).take ((0 + l.length) * 1) ++ [Value.int .i64 (i : Int)] = encN (l ++ [i]) by rw [Nat.mul_one, Nat.mul_one, Nat.zero_add, List.nil_append, hext, List.take_of_length_le (by simp), encN_append]; rfl)
          refine RunO.callG (xs := [.v (encRel R), .sl 4 1 0 (0 + l.length + 1), .v (.int .i64 (most : Int)), .v (.pointer (some ⟨po, 0, none⟩))]) (caps := []) rfl ⟨rfl, trivial⟩ rfl rfl rfl rfl rfl rfl more_enters rfl fun M fp1 a w1 hRl => ?_
          have ea : concL M ([AV.v (encRel R), .sl 4 1 0 (0 + l.length + 1), .v (.int .i64 (most : Int)), .v (.pointer (some ⟨po, 0, none⟩))] ++ []) = [encRel R, .slice (some ⟨(M 4).1, 0, none⟩) (l.length + 1) ((M 4).2 - 0), .int .i64 (most : Int), .pointer (some ⟨po, 0, none⟩)] := by simp [concL, conc]
          rw [ea]
          refine Calls.mono' (hcon M fp1 a w1 _ 4 hRl (by show some (Blk.row 3 1 (0 + l.length + 1) (encN (l ++ [i]))) = _; rw [Nat.zero_add])) fun e w' ⟨v, h1, fp', h2, h3⟩ => ⟨v, h1, _, fp', h2, h3, RunO.done ?_⟩
          refine RunF_sound tab_ok (outX_local po _) 100 [] _ _ rfl ?_ ?_
          · simp
          exact hnext _ (.inr trivial) ⟨rfl, rfl, rfl, rfl, i64_eq (wrap_succ (by omega)), trivial⟩ ⟨rfl, trivial⟩
        · refine RunOF_sound tab_ok (outX_local po _) rfl rfl 200 [] _ _ rfl ?_ ?_
          · simp [repL, fillL, Value.cells, inT, lk, Value.oneCell', splice]
            rw [hext]
            first
            | exact ⟨by omega, ⟨⟨⟨hsm, hnfa⟩, by omega, by omega⟩, encN_one l⟩, by omega, by omega⟩
            | exact ⟨⟨⟨⟨hsm, hnfa⟩, by omega, by omega⟩, encN_one l⟩, by omega, by omega, by omega⟩
          refine RunO.to [(1, .v (.slice (some a) l.length cl)), (2, .v (.int .i64 (most : Int))), (3, .v (.pointer (some ⟨po, 0, none⟩))), (4, .ptr 0 0), (8, .v (.int .i64 (i : Int))), (42, .v (encRel R)), (48, .sl 4 1 0 (0 + l.length + 1)), (49, .v (.int .i64 (most : Int))), (50, .v (.pointer (some ⟨po, 0, none⟩)))] [(0, .cells 60 [.vals 65 (relV R)]), (4, .row 3 1 (0 + l.length + 1) (encN (l ++ [i])))] 9 ?_ ⟨rfl, rfl, rfl, rfl, rfl, rfl, rfl, rfl, rfl, trivial⟩ ⟨rfl, ?_, trivial⟩ (show 1 ≤ 9 by decide)
          rotate_left
          · exact congrArg (fun z => some (Blk.row 3 1 (0 + l.length + 1) z)) (show (([] : List Value) ++ extCells w a 0 (l.length * 1)).take ((0 + l.length) * 1) ++ [Value.int .i64 (i : Int)] = encN (l ++ [i]) by rw [Nat.mul_one, Nat.mul_one, Nat.zero_add, List.nil_append, hext, List.take_of_length_le (by simp), encN_append]; rfl)
          refine RunO.callG (xs := [.v (encRel R), .sl 4 1 0 (0 + l.length + 1), .v (.int .i64 (most : Int)), .v (.pointer (some ⟨po, 0, none⟩))]) (caps := []) rfl ⟨rfl, trivial⟩ rfl rfl rfl rfl rfl rfl more_enters rfl fun M fp1 a w1 hRl => ?_
          have ea : concL M ([AV.v (encRel R), .sl 4 1 0 (0 + l.length + 1), .v (.int .i64 (most : Int)), .v (.pointer (some ⟨po, 0, none⟩))] ++ []) = [encRel R, .slice (some ⟨(M 4).1, 0, none⟩) (l.length + 1) ((M 4).2 - 0), .int .i64 (most : Int), .pointer (some ⟨po, 0, none⟩)] := by simp [concL, conc]
          rw [ea]
          refine Calls.mono' (hcon M fp1 a w1 _ 4 hRl (by show some (Blk.row 3 1 (0 + l.length + 1) (encN (l ++ [i]))) = _; rw [Nat.zero_add])) fun e w' ⟨v, h1, fp', h2, h3⟩ => ⟨v, h1, _, fp', h2, h3, RunO.done ?_⟩
          refine RunF_sound tab_ok (outX_local po _) 100 [] _ _ rfl ?_ ?_
          · simp
          exact hnext _ (.inr trivial) ⟨rfl, rfl, rfl, rfl, i64_eq (wrap_succ (by omega)), trivial⟩ ⟨rfl, trivial⟩
        · refine RunOF_sound tab_ok (outX_local po _) rfl rfl 200 [] _ _ rfl ?_ ?_
          · simp [repL, fillL, Value.cells, inT, lk, Value.oneCell', splice]
            rw [hext]
            first
            | exact ⟨by omega, ⟨⟨⟨hsm, hnfa⟩, by omega, by omega⟩, encN_one l⟩, by omega, by omega⟩
            | exact ⟨⟨⟨⟨hsm, hnfa⟩, by omega, by omega⟩, encN_one l⟩, by omega, by omega, by omega⟩
          refine RunO.to [(1, .v (.slice (some a) l.length cl)), (2, .v (.int .i64 (most : Int))), (3, .v (.pointer (some ⟨po, 0, none⟩))), (4, .ptr 0 0), (8, .v (.int .i64 (i : Int))), (42, .v (encRel R)), (48, .sl 4 1 0 (0 + l.length + 1)), (49, .v (.int .i64 (most : Int))), (50, .v (.pointer (some ⟨po, 0, none⟩)))] [(0, .cells 60 [.vals 65 (relV R)]), (4, .row 3 1 (0 + l.length + 1) (encN (l ++ [i])))] 9 ?_ ⟨rfl, rfl, rfl, rfl, rfl, rfl, rfl, rfl, rfl, trivial⟩ ⟨rfl, ?_, trivial⟩ (show 1 ≤ 9 by decide)
          rotate_left
          · exact congrArg (fun z => some (Blk.row 3 1 (0 + l.length + 1) z)) (show (([] : List Value) ++ extCells w a 0 (l.length * 1)).take ((0 + l.length) * 1) ++ [Value.int .i64 (i : Int)] = encN (l ++ [i]) by rw [Nat.mul_one, Nat.mul_one, Nat.zero_add, List.nil_append, hext, List.take_of_length_le (by simp), encN_append]; rfl)
          refine RunO.callG (xs := [.v (encRel R), .sl 4 1 0 (0 + l.length + 1), .v (.int .i64 (most : Int)), .v (.pointer (some ⟨po, 0, none⟩))]) (caps := []) rfl ⟨rfl, trivial⟩ rfl rfl rfl rfl rfl rfl more_enters rfl fun M fp1 a w1 hRl => ?_
          have ea : concL M ([AV.v (encRel R), .sl 4 1 0 (0 + l.length + 1), .v (.int .i64 (most : Int)), .v (.pointer (some ⟨po, 0, none⟩))] ++ []) = [encRel R, .slice (some ⟨(M 4).1, 0, none⟩) (l.length + 1) ((M 4).2 - 0), .int .i64 (most : Int), .pointer (some ⟨po, 0, none⟩)] := by simp [concL, conc]
          rw [ea]
          refine Calls.mono' (hcon M fp1 a w1 _ 4 hRl (by show some (Blk.row 3 1 (0 + l.length + 1) (encN (l ++ [i]))) = _; rw [Nat.zero_add])) fun e w' ⟨v, h1, fp', h2, h3⟩ => ⟨v, h1, _, fp', h2, h3, RunO.done ?_⟩
          refine RunF_sound tab_ok (outX_local po _) 100 [] _ _ rfl ?_ ?_
          · simp
          exact hnext _ (.inr trivial) ⟨rfl, rfl, rfl, rfl, i64_eq (wrap_succ (by omega)), trivial⟩ ⟨rfl, trivial⟩
    · rw [Bool.not_eq_true] at hr
      have hef : extF (aheadL R) n d l dn i = [] := by rw [extF, hr]; rfl
      rw [hef, List.take_nil, List.append_nil] at hst
      rw [hr]
      refine RunF_sound tab_ok (outX_local po _) 100 [false] _ _ rfl ?_ ?_
      · simp
      rw [hst]
      exact hnext _ (.inr trivial) ⟨rfl, rfl, rfl, rfl, i64_eq (wrap_succ (by omega)), trivial⟩ ⟨rfl, trivial⟩

theorem more_ok (R : Rl) (hR : Rt R) (n : Nat) (hn : R.n = (n : Int)) (po most : Nat) (hmost : most ≤ 100000) : ∀ d, MoreOK R n po most d
  | 0 => more_zero R hR n hn po most
  | d + 1 => more_succ R hR n hn po most hmost d (more_ok R hR n hn po most hmost d)

/-- The outer part, opened. -/
theorem Run.exX {C : Ctx} {todo : List Item} {σ : St} {α : Type} (X' : α → Res) (hX : ∀ w fp, C.X w fp → ∃ a, X' a w fp) (h : ∀ a, Run (C.withX (X' a)) todo σ) : Run C todo σ := fun M fp a w hR cs => by
  obtain ⟨x, hx⟩ := hX w fp hR.outer
  exact h x M fp a w { heap := hR.heap, inj := hR.inj, own := hR.own, apart := hR.apart, agree := hR.agree, outer := hx, fpok := hR.fpok, size := hR.size, frozen := hR.frozen, tmps := hR.tmps, defers := hR.defers } cs

def brV (br : Option (Nat × Nat)) (n : Nat) : Value := match br with
  | none => .slice none 0 0
  | some (b, cap) => .slice (some ⟨b, 0, none⟩) n cap

theorem out_cell {w : World} {fp : Foot} {po : Nat} {br : Option (Nat × Nat)} {s : List Ent} (h : OutSt w fp po br s) : w.cell? ⟨po, 0, none⟩ = some (brV br s.length) := by
  have hb := h.box
  cases br with
  | none => have := cells_of_blk hb.2 0; simpa [concSegs, conc, brV] using this
  | some x => have := cells_of_blk hb.2.2.1 0; simpa [concSegs, conc, brV] using this

def outS (po : Nat) (a : Option (Nat × Nat) × List Ent) : Res := fun w fp => OutSt w fp po a.1 a.2

theorem outS_local (po : Nat) (a : Option (Nat × Nat) × List Ent) : Local (outS po a) := by
  rintro w w' fp h _ heq
  refine ⟨?_, h.foot, h.nd, fun e he => ⟨BlkAt.same (h.ent e he).1 (heq _ ((h.foot _).2 (.inr (.inr ⟨e, he, rfl⟩)))), (h.ent e he).2⟩⟩
  have hb := h.box
  have hpo := heq po ((h.foot _).2 (.inl rfl))
  have hft := h.foot
  obtain ⟨br, s⟩ := a
  cases br with
  | none => exact ⟨hb.1, BlkAt.same hb.2 hpo⟩
  | some x => exact ⟨hb.1, hb.2.1, BlkAt.same hb.2.2.1 hpo, BlkAt.same hb.2.2.2.1 (heq x.1 ((hft _).2 (.inr (.inl ⟨x.2, rfl⟩)))), hb.2.2.2.2⟩

theorem out_join {M : AM.Loc} {w : World} {id : Nat} (hb : BlkAt M w id (.cells 25 [.one (.v (.slice none 0 0))])) : Joins (rowsX []) (fun b => b = (M id).1) (outX (M id).1 []) w := by
  rintro fp ⟨h1, _, _⟩ _
  refine ⟨none, [], rfl, ⟨rfl, ?_⟩, fun x => ?_, List.nodup_nil, fun e he => (by cases he)⟩
  · have := hb.1
    exact ⟨by simpa [concSegs, conc] using this, hb.2⟩
  · constructor
    · rintro (h | h)
      · obtain ⟨e, he, _⟩ := (h1 x).1 h; cases he
      · exact .inl h
    · rintro (h | ⟨c, h⟩ | ⟨e, he, _⟩)
      · exact .inr h
      · cases h
      · cases he

/-- What a maker of lists of lists gives. -/
def ListsR (w : World) (L : List (List Nat)) : Value → World → Prop := fun v w' => Agree (fun _ => False) w w' ∧ ∃ (s : List Ent) (p : Option Addr) (c : Nat), v = .slice p s.length c ∧ s.map (fun e => e.2.2) = L ∧ SeesL w' p s ∧ (∀ a, p = some a → w.heap.size ≤ a.block) ∧ ∀ e ∈ s, w.heap.size ≤ e.1

set_option maxHeartbeats 1000000 in
theorem extendsR_ok (r : Rl) (most : Nat) (hmost : most ≤ 100000) (w : World) : GivesR Tryz.prog 56 [encRel r, .int .i64 (most : Int)] w (ListsR w ((ordersL r).take most)) := by
  refine givesX_of_run (S0 := fun _ => False) (X := rowsX []) (fp := fun _ => False) Tryz.func56 rfl (by show 2 ≤ 15; decide) ⟨fun b => ⟨fun h => h.elim, fun ⟨e, he, _⟩ => (by cases he)⟩, List.nodup_nil, fun e he => (by cases he)⟩ (fun b h => h.elim) ?_
  obtain ⟨R0, hR0⟩ : ∃ R0, R0 = ListsR w ((ordersL r).take most) := ⟨_, rfl⟩
  rw [← hR0]
  refine RunF_sound tab_ok (rowsX_local []) 100 [] _ _ rfl ?_ ?_
  · simp
  refine Run.callFn (r := encRel (rightL r)) (rowsX_local []) rfl rfl rfl rfl rfl rfl rfl rightR_enters rfl (fun w' _ => rightR_ok r w') ?_
  refine RunF_sound tab_ok (rowsX_local []) 100 [] _ _ rfl ?_ ?_
  · simp [segsVals, relV_one', okCell, ofConst]
    rfl
  have hac : ∀ w', Gives Tryz.prog 49 [encRel (rightL r)] w' (.bool (irB (clos (rightL r)))) := fun w' => by
    have := acyclicR_ok (rightL r) w'
    rwa [rightL_idem] at this
  refine Run.callFn (r := .bool (irB (clos (rightL r)))) (rowsX_local []) rfl rfl rfl rfl rfl rfl rfl acyclicR_enters rfl (fun w' _ => hac w') ?_
  by_cases c : irB (clos (rightL r)) = true
  · have hor : ordersL r = extL (aheadL (rightL r)) (sizeL r) (sizeL r) [] 0#64 := by
      rw [ordersL, if_pos c]
      unfold aheadL
      rw [rightL_idem]
    have hRr := rt_right r
    have hn : (rightL r).n = (sizeL r : Int) := by unfold sizeL; have := hRr.lo; omega
    rw [c]
    refine RunF_sound tab_ok (rowsX_local []) 100 [false] _ _ rfl ?_ ?_
    · simp
    refine Run.give 1 (B := .cells 25 [.one (.v (.slice none 0 0))]) (fun M => outX (M 1).1 []) (fun M => [(5, .v (.pointer (some ⟨(M 1).1, 0, none⟩))), (11, .v (encRel (rightL r))), (12, .v (.int .i64 (most : Int)))]) [] 2 rfl trivial rfl ?_ ?_ ?_
    · exact fun M => ⟨⟨_, rfl, by simp [conc]⟩, ⟨_, rfl, rfl⟩, ⟨_, rfl, rfl⟩, trivial⟩
    · exact fun M w hb => out_join hb
    intro M
    generalize (M 1).1 = po
    refine Run.callK (xs := [.v (encRel (rightL r)), .v (.slice none 0 0), .v (.int .i64 (most : Int)), .v (.pointer (some ⟨po, 0, none⟩))]) (caps := []) rfl rfl rfl rfl rfl rfl more_enters rfl fun M fp1 a w1 hRl => ?_
    have ea : concL M ([AV.v (encRel (rightL r)), .v (.slice none 0 0), .v (.int .i64 (most : Int)), .v (.pointer (some ⟨po, 0, none⟩))] ++ []) = [encRel (rightL r), .slice none ([] : List Nat).length 0, .int .i64 (most : Int), .pointer (some ⟨po, 0, none⟩)] := by simp [concL, conc]
    rw [ea]
    refine Calls.mono' (more_ok (rightL r) hRr (sizeL r) hn po most hmost (sizeL r) [] 0#64 none 0 w1 fp1 [] (by simp) (fun b _ => by rw [BitVec.getLsbD_zero]; simp) hRl.outer (fun b hb => (hRl.fpok b hb).1) (seesN_nil w1 none) (fun a h => by cases h) (fun _ => ⟨rfl, rfl⟩) (by simp)) ?_
    rintro e w' ⟨v, h1, fp', hg, hX'⟩
    rw [List.nil_append, List.length_nil, Nat.sub_zero, ← hor] at hX'
    refine ⟨v, h1, outX po ((ordersL r).take most), M, fp', _, .v v, by simp [conc], hRl.grown hg hX', ?_⟩
    refine Run.exX (fun x => outS po x.1) (α := { x : Option (Nat × Nat) × List Ent // x.2.map (fun e => e.2.2) = (ordersL r).take most }) (fun w fp ⟨br, s, h2, h3⟩ => ⟨⟨(br, s), h2⟩, h3⟩) ?_
    rintro ⟨⟨br, s⟩, hs⟩
    refine RunF_sound tab_ok (outS_local po (br, s)) 3 [] _ _ rfl ?_ ?_
    · simp
    refine Run.loadX (Q := fun v => v = brV br s.length) tab_ok rfl rfl rfl rfl rfl (fun w' fp' h => ⟨_, rfl, out_cell h⟩) rfl rfl ?_
    rintro v rfl
    refine RunF_sound tab_ok (outS_local po (br, s)) 100 [] _ _ rfl ?_ ?_
    · simp
    refine Run.retM (Ds := []) tab_ok (outS_local po (br, s)) Tryz.func56 rfl trivial fun M fp a w' hr => ?_
    rw [hR0]
    have hO : OutSt w' fp po br s := hr.outer
    have hnw : ∀ x, fp x → w.heap.size ≤ x := fun x hx => Nat.le_of_not_lt fun hlt => (hr.fpok x hx).2 hlt
    have hbx := hO.box
    refine ⟨hr.agree, s, ?_⟩
    cases br with
    | none =>
      obtain ⟨rfl, _⟩ := hbx
      exact ⟨none, 0, by simp [conc, resAV, brV], hs, ⟨fun i h => absurd h (Nat.not_lt_zero _), fun e he => (by cases he)⟩, fun a h => (by cases h), fun e he => (by cases he)⟩
    | some x =>
      obtain ⟨h1, h2, h3, h4, h5⟩ := hbx
      refine ⟨some ⟨x.1, 0, none⟩, x.2, by simp [conc, resAV, brV], hs, ⟨fun i h => ⟨rfl, ?_⟩, fun e he => (hO.ent e he).1⟩, fun a h => ?_, fun e he => hnw _ ((hO.foot _).2 (.inr (.inr ⟨e, he, rfl⟩)))⟩
      · have := row_cells h4 i (slV s[i]) (by rw [List.getElem?_map, List.getElem?_eq_getElem h]; rfl)
        rw [Option.getD_some, Addr.add_lit]
        exact this
      · cases h
        exact hnw _ ((hO.foot _).2 (.inr (.inl ⟨x.2, rfl⟩)))
  · have hor : ordersL r = [] := by rw [ordersL, if_neg c]
    rw [Bool.not_eq_true] at c
    rw [c]
    refine RunF_sound tab_ok (rowsX_local []) 100 [true] _ _ rfl ?_ ?_
    · simp
    refine Run.retM (Ds := []) tab_ok (rowsX_local []) Tryz.func56 rfl trivial fun M fp a w' hr => ?_
    rw [hR0, hor]
    exact ⟨hr.agree, [], none, 0, rfl, by simp, ⟨fun i h => absurd h (Nat.not_lt_zero _), fun e he => (by cases he)⟩, fun a h => (by cases h), fun e he => (by cases he)⟩

theorem extendsR_enters : Enters Tryz.prog 56 := enters_mk Tryz.func56 (by decide) rfl

set_option maxHeartbeats 1000000 in
theorem extendR_ok (r : Rl) (w : World) : GivesR Tryz.prog 24 [encRel r] w (fun v w' => Agree (fun _ => False) w w' ∧ ∃ (p : Option Addr) (l : List Nat) (c : Nat) (b : Bool), v = .tuple #[.slice p l.length c, .bool b] ∧ extendL r = (if b then some l else none) ∧ (b = false → l = []) ∧ SeesN w' p l ∧ ∀ a, p = some a → w.heap.size ≤ a.block) := by
  refine givesX_of_run (S0 := fun _ => False) (X := noX) (fp := fun _ => False) Tryz.func24 rfl (by show 1 ≤ 13; decide) trivial (fun b h => h.elim) ?_
  obtain ⟨R0, hR0⟩ : ∃ R0 : Value → World → Prop, R0 = fun v w' => Agree (fun _ => False) w w' ∧ ∃ (p : Option Addr) (l : List Nat) (c : Nat) (b : Bool), v = .tuple #[.slice p l.length c, .bool b] ∧ extendL r = (if b then some l else none) ∧ (b = false → l = []) ∧ SeesN w' p l ∧ ∀ a, p = some a → w.heap.size ≤ a.block := ⟨_, rfl⟩
  rw [← hR0]
  refine RunF_sound tab_ok noX_local 100 [] _ _ rfl ?_ ?_
  · simp
  refine Run.callFn (r := .bool (irB (clos (rightL r)))) noX_local rfl rfl rfl rfl rfl rfl rfl acyclicR_enters rfl (fun w' _ => acyclicR_ok r w') ?_
  by_cases c : irB (clos (rightL r)) = true
  · have hne : ordersL r ≠ [] := by
      have := orders_ex (rt_right r) c
      rwa [ordersL_right] at this
    obtain ⟨x, os, hos⟩ := List.exists_cons_of_ne_nil hne
    rw [c]
    refine RunF_sound tab_ok noX_local 100 [false] _ _ rfl ?_ ?_
    · simp
    refine Run.callR noX_local rfl rfl rfl rfl rfl rfl extendsR_enters rfl (fun M w' _ _ => extendsR_ok r 1 (by decide) w') ?_
    rintro v w2 w1 S1 hag hag2 ⟨s, p, c, rfl, hs, hsee, hpn, hen⟩ hS1
    have hB1 := (Based.refl w).call hag hag2 hS1
    refine ⟨.v (.slice p s.length c), fun M => rfl, ?_⟩
    rw [hos] at hs
    simp only [List.take_succ_cons, List.take_zero] at hs
    obtain ⟨e, rfl⟩ : ∃ e, s = [e] := by
      cases s with
      | nil => cases hs
      | cons e s =>
        cases s with
        | nil => exact ⟨e, rfl⟩
        | cons e1 s => cases hs
    have hex : e.2.2 = x := by simpa using hs
    obtain ⟨hp, hpc⟩ := hsee.1 0 (by simp)
    simp only [List.getElem_cons_zero] at hpc
    have hpS : ¬ S1 ((p.getD default).add 0).block := by rw [add_block]; exact hS1.new _ (hpn _ hp)
    refine RunF_sound tab_ok noX_local 100 [] _ _ rfl ?_ ?_
    · simp only []
      simp
      exact ⟨hp, by rw [slOf_eq' hpc]; exact hpc, hpS⟩
    refine Run.retM (Ds := []) tab_ok noX_local Tryz.func24 rfl trivial fun M fp a w' hr => ?_
    rw [hR0]
    have hnS : ¬ S1 e.1 := hS1.new _ (hen e (by simp))
    refine ⟨hB1.later hr.agree, some ⟨e.1, 0, none⟩, x, e.2.1, true, ?_, by simp [extendL, hos], fun h => (by cases h), ?_, fun a h => ?_⟩
    · have h2 : Value.slice (slOf (w1.cell? ((p.getD default).add 0))).1 (slOf (w1.cell? ((p.getD default).add 0))).2.1 (slOf (w1.cell? ((p.getD default).add 0))).2.2 = slV e := slOf_eq' hpc
      simp only [resAV, conc, concL]
      exact congrArg (fun z => Value.tuple #[z, .bool true]) (h2.trans (by rw [slV, hex]))
    · rw [← hex]
      exact (entSees' (hsee.2 e (by simp))).agree hr.agree (fun a h => by cases h; exact hnS)
    · cases h
      have h1 := hen e (by simp)
      have h2 := hag.size
      exact Nat.le_trans h2 h1
  · have hor : ordersL r = [] := by rw [ordersL, if_neg c]
    rw [Bool.not_eq_true] at c
    rw [c]
    refine RunF_sound tab_ok noX_local 100 [true] _ _ rfl ?_ ?_
    · simp
    refine Run.retM (Ds := []) tab_ok noX_local Tryz.func24 rfl trivial fun M fp a w' hr => ?_
    rw [hR0]
    exact ⟨hr.agree, none, [], 0, false, rfl, by simp [extendL, hor], fun _ => rfl, seesN_nil w' none, fun a h => (by cases h)⟩

theorem extendR_enters : Enters Tryz.prog 24 := enters_mk Tryz.func24 (by decide) rfl

end Go.Proofs.YtmammebifhmnhaaGreatDoor

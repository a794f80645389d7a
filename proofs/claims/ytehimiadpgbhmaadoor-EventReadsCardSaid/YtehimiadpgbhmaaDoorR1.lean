/-
  What rel.whole, Check, right and two do. Own work.
-/
import Derived.Test.YtehimiadpgbhmaaDoorR0
import Derived.Test.YtehimiadpgbhmaaDoorTab
namespace Go.Proofs.YtehimiadpgbhmaaDoor
open Go.AM
set_option maxRecDepth 100000

theorem whole_val (n : Int) (h : n < 64) : IntKind.u64.wrap (shlI .u64 1 n - 1) = un (mask n) := by
  rw [un_one, shl_un, sub_un, mask, if_neg (by omega)]

theorem whole_ok (n : Int) (w : World) (h0 : 0 ≤ n) : Gives Tryd.prog 52 [.int .i64 n] w (.int .u64 (un (mask n))) := by
  refine Gives.of_run Tryd.func52 rfl (by show 1 ≤ 8; decide) ?_
  by_cases h : n ≥ 64
  · refine RunF_sound tab_ok noX_local 100 [true] _ _ rfl ?_ ?_
    · simpa using h
    · refine Run.retP tab_ok Tryd.func52 rfl trivial (fun M => ?_)
      rw [mask, if_pos h]; rfl
  · refine RunF_sound tab_ok noX_local 100 [false] _ _ rfl ?_ ?_
    · simpa using ⟨by omega, h0⟩
    · refine Run.retP tab_ok Tryd.func52 rfl trivial (fun M => ?_)
      show Value.int _ _ = _
      rw [whole_val n (by omega)]

theorem whole_enters : Enters Tryd.prog 52 := enters_mk Tryd.func52 (by decide) rfl

/-- Is a row right? -/
def good (r : Rl) (i : Nat) : Bool := !((decide ((i : Int) ≥ r.n) && (r.row i != 0#64)) || (r.row i &&& ~~~(mask r.n)) != 0#64)

open Classical in
noncomputable def checkI (r : Rl) : Int := if r.n < 0 ∨ r.n > 64 then 20 else if ∀ i, i < 64 → good r i = true then 0 else 20

open Classical in
theorem checkI_from (r : Rl) (k : Nat) (h : ∀ i, i < k → good r i = true) (h1 : ¬ r.n < 0) (h2 : ¬ r.n > 64) : checkI r = if ∀ i, k ≤ i → i < 64 → good r i = true then 0 else 20 := by
  unfold checkI
  rw [if_neg (by omega)]
  have e : (∀ i, i < 64 → good r i = true) ↔ (∀ i, k ≤ i → i < 64 → good r i = true) := by
    constructor
    · intro h' i _ hi; exact h' i hi
    · intro h' i hi
      rcases Nat.lt_or_ge i k with hik | hik
      · exact h i hik
      · exact h' i hik hi
  simp only [e]

theorem check_ok (r : Rl) (w : World) : Gives Tryd.prog 55 [encRel r] w (.int .i64 (checkI r)) := by
  refine Gives.of_run Tryd.func55 rfl (by show 1 ≤ 36; decide) ?_
  by_cases h1 : r.n < 0
  · refine RunF_sound tab_ok noX_local 100 [true, true] _ _ rfl ?_ ?_
    · simp [h1]
    · refine Run.retP tab_ok Tryd.func55 rfl trivial (fun M => ?_)
      rw [checkI, if_pos (.inl h1)]; rfl
  by_cases h2 : r.n > 64
  · refine RunF_sound tab_ok noX_local 100 [false, true] _ _ rfl ?_ ?_
    · simp; omega
    · refine Run.retP tab_ok Tryd.func55 rfl trivial (fun M => ?_)
      rw [checkI, if_pos (.inr h2)]; rfl
  refine RunF_sound tab_ok noX_local 100 [false, false] _ _ rfl ?_ ?_
  · simp; omega
  suffices H : ∀ d k, k ≤ 64 → 64 - k = d → (∀ i, i < k → good r i = true) → ∀ σ, inT σ.t [(1, .ptr 0 0), (14, .v (.agg (rowV r).toArray)), (15, .v (.int .i64 (k : Int)))] → inT σ.h [(0, .cells 32 [.vals 65 (relV r)])] → Run _ _ σ by
    exact H 64 0 (by omega) rfl (fun i hi => by omega) _ ⟨rfl, congrArg (fun l : List Value => some (AV.v (Value.agg l.toArray))) (relV_drop r), rfl, trivial⟩ ⟨rfl, trivial⟩
  intro d
  induction d with
  | zero => 
    intro k hk hd hg σ ht hh
    refine Run.to ?_ ht hh (n' := 1)
    refine RunF_sound tab_ok noX_local 100 [false] _ _ rfl ?_ ?_
    · simp; omega
    · refine Run.retP tab_ok Tryd.func55 rfl trivial (fun M => ?_)
      rw [checkI_from r k hg h1 h2, if_pos (fun i h3 h4 => by omega)]; rfl
  | succ d ih => 
    intro k hk hd hg σ ht hh
    refine Run.to ?_ ht hh (n' := 1)
    have hk' : k < 64 := by omega
    have e := intAt_rowV r k hk'
    have e2 := rowV_get r k hk'
    have h0 : 0 ≤ r.n := by omega
    have bad : good r k = false → checkI r = 20 := by
      intro hb
      rw [checkI_from r k hg h1 h2, if_neg (fun h => by have := h k (Nat.le_refl _) hk'; rw [hb] at this; cases this)]
    have nextk : good r k = true → ∀ i, i < k + 1 → good r i = true := by
      intro hb i hi
      rcases Nat.lt_or_ge i k with h | h
      · exact hg i h
      · obtain rfl : i = k := by omega
        exact hb
    by_cases c1 : (k : Int) ≥ r.n
    · by_cases c2 : r.row k = 0#64
      · have c3 : (r.row k &&& ~~~(mask r.n)) = 0#64 := by rw [c2]; simp
        refine RunF_sound tab_ok noX_local 100 [true, true, false] _ _ rfl ?_ ?_
        · simp [e, e2, c1, c2]; omega
        refine Run.callFn noX_local rfl rfl rfl rfl rfl rfl rfl whole_enters rfl (fun w' _ => whole_ok r.n w' h0) ?_
        refine RunF_sound tab_ok noX_local 100 [false] _ _ rfl ?_ ?_
        · simp [e, c3]
        exact ih (k + 1) (by omega) (by omega) (nextk (by simp [good, c2])) _ ⟨rfl, rfl, i64_eq (wrap_succ (by omega)), trivial⟩ ⟨rfl, trivial⟩
      · refine RunF_sound tab_ok noX_local 100 [true, true, true] _ _ rfl ?_ ?_
        · simp [e, e2, c1, c2]; omega
        refine Run.retP tab_ok Tryd.func55 rfl trivial (fun M => ?_)
        rw [bad (by simp [good, c1, c2])]; rfl
    · refine RunF_sound tab_ok noX_local 100 [true, false] _ _ rfl ?_ ?_
      · simp [e, e2]; omega
      refine Run.callFn noX_local rfl rfl rfl rfl rfl rfl rfl whole_enters rfl (fun w' _ => whole_ok r.n w' h0) ?_
      by_cases c3 : (r.row k &&& ~~~(mask r.n)) = 0#64
      · refine RunF_sound tab_ok noX_local 100 [false] _ _ rfl ?_ ?_
        · simp [e, c3]
        exact ih (k + 1) (by omega) (by omega) (nextk (by simp [good, c1, c3])) _ ⟨rfl, rfl, i64_eq (wrap_succ (by omega)), trivial⟩ ⟨rfl, trivial⟩
      · refine RunF_sound tab_ok noX_local 100 [true] _ _ rfl ?_ ?_
        · simp [e, c3]
        refine Run.retP tab_ok Tryd.func55 rfl trivial (fun M => ?_)
        rw [bad (by simp [good, c3])]; rfl

theorem check_enters : Enters Tryd.prog 55 := enters_mk Tryd.func55 (by decide) rfl
end Go.Proofs.YtehimiadpgbhmaaDoor

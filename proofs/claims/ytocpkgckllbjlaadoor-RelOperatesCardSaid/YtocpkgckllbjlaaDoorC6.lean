/-
  The reference's Inverse and Not; Restrict, here and there; all of them are one. Own work.
-/
import Derived.Test.YtocpkgckllbjlaaDoorC5
namespace Go.Proofs.YtocpkgckllbjlaaDoor
open Go.AM
set_option maxRecDepth 100000

theorem inverseR_ok (r : Rl) (w : World) : Gives Tryd.prog 27 [encRel r] w (encRel (Rl.gen (rightL r).n fun x y => (rightL r).has y x)) := by
  refine Gives.of_run Tryd.func27 rfl (by show 1 ≤ 37; decide) ?_
  refine RunF_sound tab_ok noX_local 100 [] _ _ rfl ?_ ?_
  · simp [segsVals, relV_one']
  refine Run.callFn noX_local rfl rfl rfl rfl rfl rfl rfl rightR_enters rfl (fun w' _ => rightR_ok r w') ?_
  have hR := rightL_idem r
  have hn := rightL_n r
  generalize rightL r = R at hR hn
  have hlt : ∀ x y, R.has x y = true → (x : Int) < R.n ∧ (y : Int) < R.n := fun a b hb => by have := right_has R a b (by rw [hR]; exact hb); rwa [hR] at this
  refine RunF_sound tab_ok noX_local 100 [] _ _ rfl ?_ ?_
  · simp [fillL, Value.cells, segsVals, relV_one', relV_tail_one, splice]
  suffices H : ∀ (d a : Nat), (a : Int) + d = R.n → ∀ σ, inT σ.t [(1, .ptr 0 0), (2, .ptr 1 0), (3, .ptr 2 0), (4, .v (.int .i64 (a : Int)))] →
      inT σ.h [(0, .cells 25 [.vals 65 (relV R)]), (1, .cells 25 [.vals 65 (relV (Rl.void 0))]), (2, .cells 25 [.vals 65 (relV (Rl.gen R.n (Rl.seenT R.has a 0)))])] → Run _ _ σ by
    refine H R.n.toNat 0 (by omega) _ ⟨rfl, rfl, rfl, rfl, trivial⟩ ⟨?_, rfl, ?_, trivial⟩
    · simp [splice, lk]
    · rw [Rl.seenT_0]
      simp [splice, lk]
      rfl
  intro d
  induction d with
  | zero =>
    intro a ha σ ht hh
    refine Run.to ?_ ht hh (n' := 3)
    refine RunF_sound tab_ok noX_local 100 [false] _ _ rfl ?_ ?_
    · simp [segsVals, relV_one']; omega
    refine Run.retP tab_ok Tryd.func27 rfl ?_ (fun M => ?_)
    · simp
    rw [Rl.seenT_all (fun x y h => by have := hlt x y h; omega)]; rfl
  | succ d ih =>
    intro a ha σ ht hh
    refine Run.to ?_ ht hh (n' := 3)
    have ha' : a < 64 := by omega
    have han : (a : Int) < R.n := by omega
    refine RunF_sound tab_ok noX_local 100 [true] _ _ rfl ?_ ?_
    · simp; omega
    suffices H2 : ∀ (e b : Nat), (b : Int) + e = R.n → ∀ σ, inT σ.t [(1, .ptr 0 0), (2, .ptr 1 0), (3, .ptr 2 0), (4, .v (.int .i64 (a : Int))), (5, .v (.int .i64 (b : Int)))] →
        inT σ.h [(0, .cells 25 [.vals 65 (relV R)]), (1, .cells 25 [.vals 65 (relV (Rl.void 0))]), (2, .cells 25 [.vals 65 (relV (Rl.gen R.n (Rl.seenT R.has a b)))])] → Run _ _ σ by
      exact H2 R.n.toNat 0 (by omega) _ ⟨rfl, rfl, rfl, rfl, rfl, trivial⟩ ⟨rfl, rfl, rfl, trivial⟩
    intro e
    induction e with
    | zero =>
      intro b hb σ ht hh
      refine Run.to ?_ ht hh (n' := 3)
      refine RunF_sound tab_ok noX_local 100 [false] _ _ rfl ?_ ?_
      · simp; omega
      rw [Rl.seenT_row (fun x y h => by have := hlt x y h; omega)]
      exact ih (a + 1) (by omega) _ ⟨rfl, rfl, rfl, i64_eq (wrap_succ (by omega)), trivial⟩ ⟨rfl, rfl, rfl, trivial⟩
    | succ e ihe =>
      intro b hb σ ht hh
      refine Run.to ?_ ht hh (n' := 3)
      have hb' : b < 64 := by omega
      have hI : hasI R a b = R.has a b := hasI_in han (by omega)
      refine RunF_sound tab_ok noX_local 100 [true] _ _ rfl ?_ ?_
      · simp; omega
      refine Run.callFn noX_local rfl rfl rfl rfl rfl rfl rfl hasR_enters rfl (fun w' _ => hasR_ok R hn a b w') ?_
      rw [hI]
      by_cases c : R.has a b = true
      · refine RunF_sound tab_ok noX_local 100 [true] _ _ rfl ?_ ?_
        · simp [c]
        refine Run.drawA noX_local rfl [3] [] rfl rfl trivial ?_
        refine RunOF_sound tab_ok noX_local rfl rfl 100 [] _ _ rfl ?_ ?_
        · simp [relV_get _ _ hb', intAt_row _ _ hb', okCell, Value.oneCell', inT, lk]; omega
        refine RunO.done ?_
        refine RunF_sound tab_ok noX_local 100 [] _ _ rfl ?_ ?_
        · simp
        refine ihe (b + 1) (by omega) _ ⟨rfl, rfl, rfl, rfl, i64_eq (wrap_succ (by omega)), trivial⟩ ⟨rfl, rfl, congrArg (fun l => some (Blk.cells 25 [.vals 65 l])) ?_, trivial⟩
        simp [intAt_row _ _ hb', shl1_un, relV_set _ _ hb', Rl.seenT_yes ha' hb' c]
      · refine RunF_sound tab_ok noX_local 100 [false] _ _ rfl ?_ ?_
        · simpa using c
        refine ihe (b + 1) (by omega) _ ⟨rfl, rfl, rfl, rfl, i64_eq (wrap_succ (by omega)), trivial⟩ ⟨rfl, rfl, ?_, trivial⟩
        rw [← Rl.seenT_no (by simpa using c)]; rfl
theorem inverseR_enters : Enters Tryd.prog 27 := enters_mk Tryd.func27 (by decide) rfl

def pNot (R : Rl) (x y : Nat) : Bool := decide ((x : Int) < R.n ∧ (y : Int) < R.n) && !R.has x y

theorem notR_ok (r : Rl) (w : World) : Gives Tryd.prog 29 [encRel r] w (encRel (Rl.gen (rightL r).n (pNot (rightL r)))) := by
  refine Gives.of_run Tryd.func29 rfl (by show 1 ≤ 38; decide) ?_
  refine RunF_sound tab_ok noX_local 100 [] _ _ rfl ?_ ?_
  · simp [segsVals, relV_one']
  refine Run.callFn noX_local rfl rfl rfl rfl rfl rfl rfl rightR_enters rfl (fun w' _ => rightR_ok r w') ?_
  have hn := rightL_n r
  generalize rightL r = R at hn
  have hlt : ∀ x y, pNot R x y = true → (x : Int) < R.n ∧ (y : Int) < R.n := fun x y h => by
    simp only [pNot, Bool.and_eq_true, decide_eq_true_eq] at h; exact h.1
  have hpe : ∀ a b : Nat, (a : Int) < R.n → (b : Int) < R.n → pNot R a b = !R.has a b := fun a b ha hb => by rw [pNot, decide_eq_true ⟨ha, hb⟩, Bool.true_and]
  generalize pNot R = p at hlt hpe
  refine RunF_sound tab_ok noX_local 100 [] _ _ rfl ?_ ?_
  · simp [fillL, Value.cells, segsVals, relV_one', relV_tail_one, splice]
  suffices H : ∀ (d a : Nat), (a : Int) + d = R.n → ∀ σ, inT σ.t [(1, .ptr 0 0), (2, .ptr 1 0), (3, .ptr 2 0), (4, .v (.int .i64 (a : Int)))] →
      inT σ.h [(0, .cells 25 [.vals 65 (relV R)]), (1, .cells 25 [.vals 65 (relV (Rl.void 0))]), (2, .cells 25 [.vals 65 (relV (Rl.gen R.n (Rl.seen p a 0)))])] → Run _ _ σ by
    refine H R.n.toNat 0 (by omega) _ ⟨rfl, rfl, rfl, rfl, trivial⟩ ⟨?_, rfl, ?_, trivial⟩
    · simp [splice, lk]
    · rw [Rl.seen_0]
      simp [splice, lk]
      rfl
  intro d
  induction d with
  | zero =>
    intro a ha σ ht hh
    refine Run.to ?_ ht hh (n' := 3)
    refine RunF_sound tab_ok noX_local 100 [false] _ _ rfl ?_ ?_
    · simp [segsVals, relV_one']; omega
    refine Run.retP tab_ok Tryd.func29 rfl ?_ (fun M => ?_)
    · simp
    rw [Rl.seen_all (fun x y h => by have := hlt x y h; omega)]; rfl
  | succ d ih =>
    intro a ha σ ht hh
    refine Run.to ?_ ht hh (n' := 3)
    have ha' : a < 64 := by omega
    have han : (a : Int) < R.n := by omega
    refine RunF_sound tab_ok noX_local 100 [true] _ _ rfl ?_ ?_
    · simp; omega
    suffices H2 : ∀ (e b : Nat), (b : Int) + e = R.n → ∀ σ, inT σ.t [(1, .ptr 0 0), (2, .ptr 1 0), (3, .ptr 2 0), (4, .v (.int .i64 (a : Int))), (5, .v (.int .i64 (b : Int)))] →
        inT σ.h [(0, .cells 25 [.vals 65 (relV R)]), (1, .cells 25 [.vals 65 (relV (Rl.void 0))]), (2, .cells 25 [.vals 65 (relV (Rl.gen R.n (Rl.seen p a b)))])] → Run _ _ σ by
      exact H2 R.n.toNat 0 (by omega) _ ⟨rfl, rfl, rfl, rfl, rfl, trivial⟩ ⟨rfl, rfl, rfl, trivial⟩
    intro e
    induction e with
    | zero =>
      intro b hb σ ht hh
      refine Run.to ?_ ht hh (n' := 3)
      refine RunF_sound tab_ok noX_local 100 [false] _ _ rfl ?_ ?_
      · simp; omega
      rw [Rl.seen_row (fun x y h => by have := hlt x y h; omega)]
      exact ih (a + 1) (by omega) _ ⟨rfl, rfl, rfl, i64_eq (wrap_succ (by omega)), trivial⟩ ⟨rfl, rfl, rfl, trivial⟩
    | succ e ihe =>
      intro b hb σ ht hh
      refine Run.to ?_ ht hh (n' := 3)
      have hb' : b < 64 := by omega
      have hI : hasI R a b = R.has a b := hasI_in han (by omega)
      have hp := hpe a b han (by omega)
      refine RunF_sound tab_ok noX_local 100 [true] _ _ rfl ?_ ?_
      · simp; omega
      refine Run.callFn noX_local rfl rfl rfl rfl rfl rfl rfl hasR_enters rfl (fun w' _ => hasR_ok R hn a b w') ?_
      rw [hI]
      by_cases c : R.has a b = true
      · refine RunF_sound tab_ok noX_local 100 [false] _ _ rfl ?_ ?_
        · simp [c]
        refine ihe (b + 1) (by omega) _ ⟨rfl, rfl, rfl, rfl, i64_eq (wrap_succ (by omega)), trivial⟩ ⟨rfl, rfl, ?_, trivial⟩
        rw [← Rl.seen_no (by rw [hp, c]; rfl)]; rfl
      · have c' : R.has a b = false := by simpa using c
        refine RunF_sound tab_ok noX_local 100 [true] _ _ rfl ?_ ?_
        · simp [c']
        refine Run.drawA noX_local rfl [3] [] rfl rfl trivial ?_
        refine RunOF_sound tab_ok noX_local rfl rfl 100 [] _ _ rfl ?_ ?_
        · simp [relV_get _ _ ha', intAt_row _ _ ha', okCell, Value.oneCell', inT, lk]; omega
        refine RunO.done ?_
        refine RunF_sound tab_ok noX_local 100 [] _ _ rfl ?_ ?_
        · simp
        refine ihe (b + 1) (by omega) _ ⟨rfl, rfl, rfl, rfl, i64_eq (wrap_succ (by omega)), trivial⟩ ⟨rfl, rfl, congrArg (fun l => some (Blk.cells 25 [.vals 65 l])) ?_, trivial⟩
        simp [intAt_row _ _ ha', shl1_un, relV_set _ _ ha', Rl.seen_yes ha' hb' (show p a b = true by rw [hp, c']; rfl)]
theorem notR_enters : Enters Tryd.prog 29 := enters_mk Tryd.func29 (by decide) rfl

theorem restrict_ok (r : Rl) (x y : BitVec 64) (w : World) : Gives Tryd.prog 30 [encRel r, .int .u64 (un x), .int .u64 (un y)] w (encRel (opL (fun a b => a &&& b) (rightL r) (crossL (rightL r).n x y))) := by
  refine Gives.of_run Tryd.func30 rfl (by show 3 ≤ 16; decide) ?_
  refine RunF_sound tab_ok noX_local 100 [] _ _ rfl ?_ ?_
  · simp [segsVals, relV_one']
  refine Run.callFn noX_local rfl rfl rfl rfl rfl rfl rfl right_enters rfl (fun w' _ => right_ok r w') ?_
  generalize rightL r = R
  refine RunF_sound tab_ok noX_local 100 [] _ _ rfl ?_ ?_
  · simp [fillL, Value.cells, segsVals, relV_one', splice]
  refine Run.drawA noX_local rfl [] [(0, .cells 25 [.vals 65 (relV R)])] rfl rfl ⟨by simp [splice, lk], trivial⟩ ?_
  refine RunOF_sound tab_ok noX_local rfl rfl 200 [] _ _ rfl ?_ ?_
  · simp
  refine RunO.callFn noX_local rfl rfl rfl rfl rfl rfl rfl rfl cross_enters rfl (fun w' _ => cross_ok R.n x y w') ?_
  refine RunO.callFn noX_local rfl rfl rfl rfl rfl rfl rfl rfl meet_enters rfl (fun w' _ => meet_ok R (crossL R.n x y) w') ?_
  refine RunOF_sound tab_ok noX_local rfl rfl 200 [] _ _ rfl ?_ ?_
  · simp [fillL, Value.cells, segsVals, relV_one', inT, lk, splice]
  refine RunO.done ?_
  refine RunF_sound tab_ok noX_local 100 [] _ _ rfl ?_ ?_
  · simp
  refine Run.retP tab_ok Tryd.func30 rfl ?_ (fun M => ?_)
  · simp
  rfl
theorem restrict_enters : Enters Tryd.prog 30 := enters_mk Tryd.func30 (by decide) rfl

theorem restrictR_ok (r : Rl) (x y : BitVec 64) (w : World) : Gives Tryd.prog 31 [encRel r, .int .u64 (un x), .int .u64 (un y)] w (encRel (twoR 1 (rightL r) (crossL (rightL r).n x y))) := by
  refine Gives.of_run Tryd.func31 rfl (by show 3 ≤ 16; decide) ?_
  refine RunF_sound tab_ok noX_local 100 [] _ _ rfl ?_ ?_
  · simp [segsVals, relV_one']
  refine Run.callFn noX_local rfl rfl rfl rfl rfl rfl rfl rightR_enters rfl (fun w' _ => rightR_ok r w') ?_
  generalize rightL r = R
  refine RunF_sound tab_ok noX_local 100 [] _ _ rfl ?_ ?_
  · simp [fillL, Value.cells, segsVals, relV_one', splice]
  refine Run.drawA noX_local rfl [] [(0, .cells 25 [.vals 65 (relV R)])] rfl rfl ⟨by simp [splice, lk], trivial⟩ ?_
  refine RunOF_sound tab_ok noX_local rfl rfl 200 [] _ _ rfl ?_ ?_
  · simp
  refine RunO.callFn noX_local rfl rfl rfl rfl rfl rfl rfl rfl crossR_enters rfl (fun w' _ => crossR_ok R.n x y w') ?_
  refine RunO.callFn noX_local rfl rfl rfl rfl rfl rfl rfl rfl two_R_enters rfl (fun w' _ => two_R 1 (by decide) R (crossL R.n x y) w') ?_
  refine RunOF_sound tab_ok noX_local rfl rfl 200 [] _ _ rfl ?_ ?_
  · simp [fillL, Value.cells, segsVals, relV_one', inT, lk, splice]
  refine RunO.done ?_
  refine RunF_sound tab_ok noX_local 100 [] _ _ rfl ?_ ?_
  · simp
  refine Run.retP tab_ok Tryd.func31 rfl ?_ (fun M => ?_)
  · simp
  rfl
theorem restrictR_enters : Enters Tryd.prog 31 := enters_mk Tryd.func31 (by decide) rfl
end Go.Proofs.YtocpkgckllbjlaaDoor

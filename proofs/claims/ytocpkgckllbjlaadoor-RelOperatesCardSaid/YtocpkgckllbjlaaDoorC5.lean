/-
  The reference's operations of two. Own work.
-/
import Derived.Test.YtocpkgckllbjlaaDoorC4
namespace Go.Proofs.YtocpkgckllbjlaaDoor
open Go.AM
set_option maxRecDepth 100000

theorem hasI_in {R : Rl} {a b : Nat} (ha : (a : Int) < R.n) (hb : (b : Int) < R.n) : hasI R a b = R.has a b := by
  unfold hasI
  rw [decide_eq_true (by omega)]; simp

/-- Which pairs stand in an operation of two. -/
def pTwo (op : Nat) (R S : Rl) (x y : Nat) : Bool :=
  match op with
  | 0 => R.has x y || S.has x y
  | 1 => R.has x y && S.has x y
  | 2 => R.has x y && !S.has x y
  | _ => (List.range R.n.toNat).any fun c => R.has x c && S.has c y

theorem pTwo_lt (op : Nat) (R S : Rl) (hR : rightL R = R) (hS : rightL S = S) (hn : R.n = S.n) (x y : Nat) (h : pTwo op R S x y = true) : (x : Int) < R.n ∧ (y : Int) < R.n := by
  have h1 : ∀ a b, R.has a b = true → (a : Int) < R.n ∧ (b : Int) < R.n := fun a b hb => by have := right_has R a b (by rw [hR]; exact hb); rwa [hR] at this
  have h2 : ∀ a b, S.has a b = true → (a : Int) < R.n ∧ (b : Int) < R.n := fun a b hb => by have := right_has S a b (by rw [hS]; exact hb); rw [hS] at this; rwa [hn]
  unfold pTwo at h
  split at h
  · rcases Bool.or_eq_true_iff.1 h with h | h
    · exact h1 _ _ h
    · exact h2 _ _ h
  · exact h1 _ _ (Bool.and_eq_true_iff.1 h).1
  · exact h1 _ _ (Bool.and_eq_true_iff.1 h).1
  · obtain ⟨c, _, hc⟩ := List.any_eq_true.1 h
    have := Bool.and_eq_true_iff.1 hc
    exact ⟨(h1 _ _ this.1).1, (h2 _ _ this.2).2⟩

noncomputable def twoR (op : Nat) (r s : Rl) : Rl := Rl.gen (twoL r s).1.n (pTwo op (twoL r s).1 (twoL r s).2)

theorem twoR_void (op : Nat) (r s : Rl) (h : ¬ (rightL r).n = (rightL s).n) : twoR op r s = Rl.void 0 := by
  have hr := twoL_right r s
  have hn := twoL_n r s
  have h0 : (twoL r s).1.n = 0 := by unfold twoL; rw [if_neg h]; rfl
  unfold twoR
  rw [Rl.gen_void, h0]
  refine Rl.gen_congr fun x y _ _ => ?_
  cases hb : pTwo op (twoL r s).1 (twoL r s).2 x y with
  | false => rfl
  | true => have := pTwo_lt op _ _ hr.1 hr.2 hn x y hb; omega

theorem two_R (op : Nat) (hop : op ≤ 3) (r s : Rl) (w : World) : Gives Tryd.prog 22 [.int .i64 (op : Int), encRel r, encRel s] w (encRel (twoR op r s)) := by
  refine Gives.of_run Tryd.func22 rfl (by show 3 ≤ 107; decide) ?_
  refine RunF_sound tab_ok noX_local 100 [] _ _ rfl ?_ ?_
  · simp [segsVals, relV_one']
  refine Run.callFn noX_local rfl rfl rfl rfl rfl rfl rfl rightR_enters rfl (fun w' _ => rightR_ok r w') ?_
  refine RunF_sound tab_ok noX_local 100 [] _ _ rfl ?_ ?_
  · simp [fillL, Value.cells, segsVals, relV_one']
  refine Run.callFn noX_local rfl rfl rfl rfl rfl rfl rfl rightR_enters rfl (fun w' _ => rightR_ok s w') ?_
  by_cases hne : ¬ (rightL r).n = (rightL s).n
  · rw [twoR_void op r s hne]
    refine RunF_sound tab_ok noX_local 100 [true] _ _ rfl ?_ ?_
    · simp [fillL, Value.cells, segsVals, relV_one', splice, hne]
    refine Run.retP tab_ok Tryd.func22 rfl ?_ (fun M => ?_)
    · simp [fillL, Value.cells]
    rfl
  have hne := Classical.not_not.1 hne
  have et : twoL r s = (rightL r, rightL s) := by unfold twoL; rw [if_pos hne]
  unfold twoR
  rw [et]
  have hR := rightL_idem r
  have hS := rightL_idem s
  have hn := rightL_n r
  simp only []
  generalize rightL r = R at hR hn hne
  generalize rightL s = S at hS hne
  have hnS : 0 ≤ S.n ∧ S.n ≤ 64 := by omega
  have hlt := pTwo_lt op R S hR hS hne
  generalize hp : pTwo op R S = p at hlt
  refine RunF_sound tab_ok noX_local 100 [false] _ _ rfl ?_ ?_
  · simp [fillL, Value.cells, segsVals, relV_one', relV_tail_one, splice, hne]
  suffices H : ∀ (d a : Nat), (a : Int) + d = R.n → ∀ σ, inT σ.t [(0, .v (.int .i64 (op : Int))), (4, .ptr 0 0), (5, .ptr 1 0), (6, .ptr 2 0), (7, .ptr 3 0), (8, .v (.int .i64 (a : Int)))] →
      inT σ.h [(0, .cells 25 [.vals 65 (relV R)]), (1, .cells 25 [.vals 65 (relV S)]), (2, .cells 25 [.vals 65 (relV (Rl.void 0))]), (3, .cells 25 [.vals 65 (relV (Rl.gen R.n (Rl.seen p a 0)))])] → Run _ _ σ by
    refine H R.n.toNat 0 (by omega) _ ⟨rfl, rfl, rfl, rfl, rfl, rfl, trivial⟩ ⟨?_, ?_, rfl, ?_, trivial⟩
    · simp [splice, lk]
    · simp [splice, lk]
    · rw [Rl.seen_0]
      simp [splice, lk]
      rfl
  intro d
  induction d with
  | zero =>
    intro a ha σ ht hh
    refine Run.to ?_ ht hh (n' := 4)
    refine RunF_sound tab_ok noX_local 100 [false] _ _ rfl ?_ ?_
    · simp [segsVals, relV_one']; omega
    refine Run.retP tab_ok Tryd.func22 rfl ?_ (fun M => ?_)
    · simp
    rw [Rl.seen_all (fun x y h => by have := hlt x y h; omega)]; rfl
  | succ d ih =>
    intro a ha σ ht hh
    refine Run.to ?_ ht hh (n' := 4)
    have ha' : a < 64 := by omega
    have han : (a : Int) < R.n := by omega
    refine RunF_sound tab_ok noX_local 100 [true] _ _ rfl ?_ ?_
    · simp; omega
    suffices H2 : ∀ (e b : Nat), (b : Int) + e = R.n → ∀ σ, inT σ.t [(0, .v (.int .i64 (op : Int))), (4, .ptr 0 0), (5, .ptr 1 0), (6, .ptr 2 0), (7, .ptr 3 0), (8, .v (.int .i64 (a : Int))), (9, .v (.int .i64 (b : Int)))] →
        inT σ.h [(0, .cells 25 [.vals 65 (relV R)]), (1, .cells 25 [.vals 65 (relV S)]), (2, .cells 25 [.vals 65 (relV (Rl.void 0))]), (3, .cells 25 [.vals 65 (relV (Rl.gen R.n (Rl.seen p a b)))])] → Run _ _ σ by
      exact H2 R.n.toNat 0 (by omega) _ ⟨rfl, rfl, rfl, rfl, rfl, rfl, rfl, trivial⟩ ⟨rfl, rfl, rfl, rfl, trivial⟩
    intro e
    induction e with
    | zero =>
      intro b hb σ ht hh
      refine Run.to ?_ ht hh (n' := 4)
      refine RunF_sound tab_ok noX_local 100 [false] _ _ rfl ?_ ?_
      · simp; omega
      rw [Rl.seen_row (fun x y h => by have := hlt x y h; omega)]
      exact ih (a + 1) (by omega) _ ⟨rfl, rfl, rfl, rfl, rfl, i64_eq (wrap_succ (by omega)), trivial⟩ ⟨rfl, rfl, rfl, rfl, trivial⟩
    | succ e ihe =>
      intro b hb σ ht hh
      refine Run.to ?_ ht hh (n' := 4)
      have hb' : b < 64 := by omega
      have hbn : (b : Int) < R.n := by omega
      have hI : hasI R a b = R.has a b := hasI_in han hbn
      have hJ : hasI S a b = S.has a b := hasI_in (by omega) (by omega)
      -- behind the test
      suffices T : ∀ σ, inTC σ.t [(0, .v (.int .i64 (op : Int))), (4, .ptr 0 0), (5, .ptr 1 0), (6, .ptr 2 0), (7, .ptr 3 0), (8, .v (.int .i64 (a : Int))), (9, .v (.int .i64 (b : Int))), (96, .v (.bool (p a b)))] →
          inT σ.h [(0, .cells 25 [.vals 65 (relV R)]), (1, .cells 25 [.vals 65 (relV S)]), (2, .cells 25 [.vals 65 (relV (Rl.void 0))]), (3, .cells 25 [.vals 65 (relV (Rl.gen R.n (Rl.seen p a b)))])] → Run _ _ σ by
        rcases (show op = 0 ∨ op = 1 ∨ op = 2 ∨ op = 3 by omega) with rfl | rfl | rfl | rfl
        · have hpe : p a b = (R.has a b || S.has a b) := by rw [← hp]; rfl
          refine RunF_sound tab_ok noX_local 100 [true, true] _ _ rfl ?_ ?_
          · simp; omega
          refine Run.callFn noX_local rfl rfl rfl rfl rfl rfl rfl hasR_enters rfl (fun w' _ => hasR_ok R hn a b w') ?_
          rw [hI]
          by_cases c : ¬ R.has a b = true
          · refine RunF_sound tab_ok noX_local 100 [false] _ _ rfl ?_ ?_
            · simpa using c
            refine Run.callFn noX_local rfl rfl rfl rfl rfl rfl rfl hasR_enters rfl (fun w' _ => hasR_ok S hnS a b w') ?_
            rw [hJ]
            refine RunF_sound tab_ok noX_local 100 [] _ _ rfl ?_ ?_
            · simp
            have c' : R.has a b = false := by simpa using c
            exact T _ ⟨inTC_same rfl, inTC_same rfl, inTC_same rfl, inTC_same rfl, inTC_same rfl, inTC_same rfl, inTC_same rfl, ⟨_, rfl, fun M => by rw [hpe, c', Bool.false_or]⟩, trivial⟩ ⟨rfl, rfl, rfl, rfl, trivial⟩
          · have c := Classical.not_not.1 c
            first
            | (refine RunF_sound tab_ok noX_local 8 [true] _ _ rfl (by simp [c]) ?_; exact T _ ⟨inTC_same rfl, inTC_same rfl, inTC_same rfl, inTC_same rfl, inTC_same rfl, inTC_same rfl, inTC_same rfl, ⟨_, rfl, fun M => by rw [hpe, c]; rfl⟩, trivial⟩ ⟨rfl, rfl, rfl, rfl, trivial⟩)
            | (refine RunF_sound tab_ok noX_local 9 [true] _ _ rfl (by simp [c]) ?_; exact T _ ⟨inTC_same rfl, inTC_same rfl, inTC_same rfl, inTC_same rfl, inTC_same rfl, inTC_same rfl, inTC_same rfl, ⟨_, rfl, fun M => by rw [hpe, c]; rfl⟩, trivial⟩ ⟨rfl, rfl, rfl, rfl, trivial⟩)
            | (refine RunF_sound tab_ok noX_local 10 [true] _ _ rfl (by simp [c]) ?_; exact T _ ⟨inTC_same rfl, inTC_same rfl, inTC_same rfl, inTC_same rfl, inTC_same rfl, inTC_same rfl, inTC_same rfl, ⟨_, rfl, fun M => by rw [hpe, c]; rfl⟩, trivial⟩ ⟨rfl, rfl, rfl, rfl, trivial⟩)
            | (refine RunF_sound tab_ok noX_local 11 [true] _ _ rfl (by simp [c]) ?_; exact T _ ⟨inTC_same rfl, inTC_same rfl, inTC_same rfl, inTC_same rfl, inTC_same rfl, inTC_same rfl, inTC_same rfl, ⟨_, rfl, fun M => by rw [hpe, c]; rfl⟩, trivial⟩ ⟨rfl, rfl, rfl, rfl, trivial⟩)
            | (refine RunF_sound tab_ok noX_local 12 [true] _ _ rfl (by simp [c]) ?_; exact T _ ⟨inTC_same rfl, inTC_same rfl, inTC_same rfl, inTC_same rfl, inTC_same rfl, inTC_same rfl, inTC_same rfl, ⟨_, rfl, fun M => by rw [hpe, c]; rfl⟩, trivial⟩ ⟨rfl, rfl, rfl, rfl, trivial⟩)
            | (refine RunF_sound tab_ok noX_local 13 [true] _ _ rfl (by simp [c]) ?_; exact T _ ⟨inTC_same rfl, inTC_same rfl, inTC_same rfl, inTC_same rfl, inTC_same rfl, inTC_same rfl, inTC_same rfl, ⟨_, rfl, fun M => by rw [hpe, c]; rfl⟩, trivial⟩ ⟨rfl, rfl, rfl, rfl, trivial⟩)
            | (refine RunF_sound tab_ok noX_local 14 [true] _ _ rfl (by simp [c]) ?_; exact T _ ⟨inTC_same rfl, inTC_same rfl, inTC_same rfl, inTC_same rfl, inTC_same rfl, inTC_same rfl, inTC_same rfl, ⟨_, rfl, fun M => by rw [hpe, c]; rfl⟩, trivial⟩ ⟨rfl, rfl, rfl, rfl, trivial⟩)
            | (refine RunF_sound tab_ok noX_local 15 [true] _ _ rfl (by simp [c]) ?_; exact T _ ⟨inTC_same rfl, inTC_same rfl, inTC_same rfl, inTC_same rfl, inTC_same rfl, inTC_same rfl, inTC_same rfl, ⟨_, rfl, fun M => by rw [hpe, c]; rfl⟩, trivial⟩ ⟨rfl, rfl, rfl, rfl, trivial⟩)
            | (refine RunF_sound tab_ok noX_local 16 [true] _ _ rfl (by simp [c]) ?_; exact T _ ⟨inTC_same rfl, inTC_same rfl, inTC_same rfl, inTC_same rfl, inTC_same rfl, inTC_same rfl, inTC_same rfl, ⟨_, rfl, fun M => by rw [hpe, c]; rfl⟩, trivial⟩ ⟨rfl, rfl, rfl, rfl, trivial⟩)
            | (refine RunF_sound tab_ok noX_local 17 [true] _ _ rfl (by simp [c]) ?_; exact T _ ⟨inTC_same rfl, inTC_same rfl, inTC_same rfl, inTC_same rfl, inTC_same rfl, inTC_same rfl, inTC_same rfl, ⟨_, rfl, fun M => by rw [hpe, c]; rfl⟩, trivial⟩ ⟨rfl, rfl, rfl, rfl, trivial⟩)
            | (refine RunF_sound tab_ok noX_local 18 [true] _ _ rfl (by simp [c]) ?_; exact T _ ⟨inTC_same rfl, inTC_same rfl, inTC_same rfl, inTC_same rfl, inTC_same rfl, inTC_same rfl, inTC_same rfl, ⟨_, rfl, fun M => by rw [hpe, c]; rfl⟩, trivial⟩ ⟨rfl, rfl, rfl, rfl, trivial⟩)
            | (refine RunF_sound tab_ok noX_local 19 [true] _ _ rfl (by simp [c]) ?_; exact T _ ⟨inTC_same rfl, inTC_same rfl, inTC_same rfl, inTC_same rfl, inTC_same rfl, inTC_same rfl, inTC_same rfl, ⟨_, rfl, fun M => by rw [hpe, c]; rfl⟩, trivial⟩ ⟨rfl, rfl, rfl, rfl, trivial⟩)
            | (refine RunF_sound tab_ok noX_local 20 [true] _ _ rfl (by simp [c]) ?_; exact T _ ⟨inTC_same rfl, inTC_same rfl, inTC_same rfl, inTC_same rfl, inTC_same rfl, inTC_same rfl, inTC_same rfl, ⟨_, rfl, fun M => by rw [hpe, c]; rfl⟩, trivial⟩ ⟨rfl, rfl, rfl, rfl, trivial⟩)
            | (refine RunF_sound tab_ok noX_local 21 [true] _ _ rfl (by simp [c]) ?_; exact T _ ⟨inTC_same rfl, inTC_same rfl, inTC_same rfl, inTC_same rfl, inTC_same rfl, inTC_same rfl, inTC_same rfl, ⟨_, rfl, fun M => by rw [hpe, c]; rfl⟩, trivial⟩ ⟨rfl, rfl, rfl, rfl, trivial⟩)
            | (refine RunF_sound tab_ok noX_local 22 [true] _ _ rfl (by simp [c]) ?_; exact T _ ⟨inTC_same rfl, inTC_same rfl, inTC_same rfl, inTC_same rfl, inTC_same rfl, inTC_same rfl, inTC_same rfl, ⟨_, rfl, fun M => by rw [hpe, c]; rfl⟩, trivial⟩ ⟨rfl, rfl, rfl, rfl, trivial⟩)
            | (refine RunF_sound tab_ok noX_local 23 [true] _ _ rfl (by simp [c]) ?_; exact T _ ⟨inTC_same rfl, inTC_same rfl, inTC_same rfl, inTC_same rfl, inTC_same rfl, inTC_same rfl, inTC_same rfl, ⟨_, rfl, fun M => by rw [hpe, c]; rfl⟩, trivial⟩ ⟨rfl, rfl, rfl, rfl, trivial⟩)
            | (refine RunF_sound tab_ok noX_local 24 [true] _ _ rfl (by simp [c]) ?_; exact T _ ⟨inTC_same rfl, inTC_same rfl, inTC_same rfl, inTC_same rfl, inTC_same rfl, inTC_same rfl, inTC_same rfl, ⟨_, rfl, fun M => by rw [hpe, c]; rfl⟩, trivial⟩ ⟨rfl, rfl, rfl, rfl, trivial⟩)
            | (refine RunF_sound tab_ok noX_local 25 [true] _ _ rfl (by simp [c]) ?_; exact T _ ⟨inTC_same rfl, inTC_same rfl, inTC_same rfl, inTC_same rfl, inTC_same rfl, inTC_same rfl, inTC_same rfl, ⟨_, rfl, fun M => by rw [hpe, c]; rfl⟩, trivial⟩ ⟨rfl, rfl, rfl, rfl, trivial⟩)
            | (refine RunF_sound tab_ok noX_local 26 [true] _ _ rfl (by simp [c]) ?_; exact T _ ⟨inTC_same rfl, inTC_same rfl, inTC_same rfl, inTC_same rfl, inTC_same rfl, inTC_same rfl, inTC_same rfl, ⟨_, rfl, fun M => by rw [hpe, c]; rfl⟩, trivial⟩ ⟨rfl, rfl, rfl, rfl, trivial⟩)
            | (refine RunF_sound tab_ok noX_local 27 [true] _ _ rfl (by simp [c]) ?_; exact T _ ⟨inTC_same rfl, inTC_same rfl, inTC_same rfl, inTC_same rfl, inTC_same rfl, inTC_same rfl, inTC_same rfl, ⟨_, rfl, fun M => by rw [hpe, c]; rfl⟩, trivial⟩ ⟨rfl, rfl, rfl, rfl, trivial⟩)
            | (refine RunF_sound tab_ok noX_local 28 [true] _ _ rfl (by simp [c]) ?_; exact T _ ⟨inTC_same rfl, inTC_same rfl, inTC_same rfl, inTC_same rfl, inTC_same rfl, inTC_same rfl, inTC_same rfl, ⟨_, rfl, fun M => by rw [hpe, c]; rfl⟩, trivial⟩ ⟨rfl, rfl, rfl, rfl, trivial⟩)
            | (refine RunF_sound tab_ok noX_local 29 [true] _ _ rfl (by simp [c]) ?_; exact T _ ⟨inTC_same rfl, inTC_same rfl, inTC_same rfl, inTC_same rfl, inTC_same rfl, inTC_same rfl, inTC_same rfl, ⟨_, rfl, fun M => by rw [hpe, c]; rfl⟩, trivial⟩ ⟨rfl, rfl, rfl, rfl, trivial⟩)
        · have hpe : p a b = (R.has a b && S.has a b) := by rw [← hp]; rfl
          refine RunF_sound tab_ok noX_local 100 [true, false, true] _ _ rfl ?_ ?_
          · simp; omega
          refine Run.callFn noX_local rfl rfl rfl rfl rfl rfl rfl hasR_enters rfl (fun w' _ => hasR_ok R hn a b w') ?_
          rw [hI]
          by_cases c : R.has a b = true
          · refine RunF_sound tab_ok noX_local 100 [true] _ _ rfl ?_ ?_
            · simp [c]
            refine Run.callFn noX_local rfl rfl rfl rfl rfl rfl rfl hasR_enters rfl (fun w' _ => hasR_ok S hnS a b w') ?_
            rw [hJ]
            refine RunF_sound tab_ok noX_local 100 [] _ _ rfl ?_ ?_
            · simp
            exact T _ ⟨inTC_same rfl, inTC_same rfl, inTC_same rfl, inTC_same rfl, inTC_same rfl, inTC_same rfl, inTC_same rfl, ⟨_, rfl, fun M => by rw [hpe, c, Bool.true_and]⟩, trivial⟩ ⟨rfl, rfl, rfl, rfl, trivial⟩
          · have c' : R.has a b = false := by simpa using c
            first
            | (refine RunF_sound tab_ok noX_local 8 [false] _ _ rfl (by simpa using c) ?_; exact T _ ⟨inTC_same rfl, inTC_same rfl, inTC_same rfl, inTC_same rfl, inTC_same rfl, inTC_same rfl, inTC_same rfl, ⟨_, rfl, fun M => by rw [hpe, c', Bool.false_and]; rfl⟩, trivial⟩ ⟨rfl, rfl, rfl, rfl, trivial⟩)
            | (refine RunF_sound tab_ok noX_local 9 [false] _ _ rfl (by simpa using c) ?_; exact T _ ⟨inTC_same rfl, inTC_same rfl, inTC_same rfl, inTC_same rfl, inTC_same rfl, inTC_same rfl, inTC_same rfl, ⟨_, rfl, fun M => by rw [hpe, c', Bool.false_and]; rfl⟩, trivial⟩ ⟨rfl, rfl, rfl, rfl, trivial⟩)
            | (refine RunF_sound tab_ok noX_local 10 [false] _ _ rfl (by simpa using c) ?_; exact T _ ⟨inTC_same rfl, inTC_same rfl, inTC_same rfl, inTC_same rfl, inTC_same rfl, inTC_same rfl, inTC_same rfl, ⟨_, rfl, fun M => by rw [hpe, c', Bool.false_and]; rfl⟩, trivial⟩ ⟨rfl, rfl, rfl, rfl, trivial⟩)
            | (refine RunF_sound tab_ok noX_local 11 [false] _ _ rfl (by simpa using c) ?_; exact T _ ⟨inTC_same rfl, inTC_same rfl, inTC_same rfl, inTC_same rfl, inTC_same rfl, inTC_same rfl, inTC_same rfl, ⟨_, rfl, fun M => by rw [hpe, c', Bool.false_and]; rfl⟩, trivial⟩ ⟨rfl, rfl, rfl, rfl, trivial⟩)
            | (refine RunF_sound tab_ok noX_local 12 [false] _ _ rfl (by simpa using c) ?_; exact T _ ⟨inTC_same rfl, inTC_same rfl, inTC_same rfl, inTC_same rfl, inTC_same rfl, inTC_same rfl, inTC_same rfl, ⟨_, rfl, fun M => by rw [hpe, c', Bool.false_and]; rfl⟩, trivial⟩ ⟨rfl, rfl, rfl, rfl, trivial⟩)
            | (refine RunF_sound tab_ok noX_local 13 [false] _ _ rfl (by simpa using c) ?_; exact T _ ⟨inTC_same rfl, inTC_same rfl, inTC_same rfl, inTC_same rfl, inTC_same rfl, inTC_same rfl, inTC_same rfl, ⟨_, rfl, fun M => by rw [hpe, c', Bool.false_and]; rfl⟩, trivial⟩ ⟨rfl, rfl, rfl, rfl, trivial⟩)
            | (refine RunF_sound tab_ok noX_local 14 [false] _ _ rfl (by simpa using c) ?_; exact T _ ⟨inTC_same rfl, inTC_same rfl, inTC_same rfl, inTC_same rfl, inTC_same rfl, inTC_same rfl, inTC_same rfl, ⟨_, rfl, fun M => by rw [hpe, c', Bool.false_and]; rfl⟩, trivial⟩ ⟨rfl, rfl, rfl, rfl, trivial⟩)
            | (refine RunF_sound tab_ok noX_local 15 [false] _ _ rfl (by simpa using c) ?_; exact T _ ⟨inTC_same rfl, inTC_same rfl, inTC_same rfl, inTC_same rfl, inTC_same rfl, inTC_same rfl, inTC_same rfl, ⟨_, rfl, fun M => by rw [hpe, c', Bool.false_and]; rfl⟩, trivial⟩ ⟨rfl, rfl, rfl, rfl, trivial⟩)
            | (refine RunF_sound tab_ok noX_local 16 [false] _ _ rfl (by simpa using c) ?_; exact T _ ⟨inTC_same rfl, inTC_same rfl, inTC_same rfl, inTC_same rfl, inTC_same rfl, inTC_same rfl, inTC_same rfl, ⟨_, rfl, fun M => by rw [hpe, c', Bool.false_and]; rfl⟩, trivial⟩ ⟨rfl, rfl, rfl, rfl, trivial⟩)
            | (refine RunF_sound tab_ok noX_local 17 [false] _ _ rfl (by simpa using c) ?_; exact T _ ⟨inTC_same rfl, inTC_same rfl, inTC_same rfl, inTC_same rfl, inTC_same rfl, inTC_same rfl, inTC_same rfl, ⟨_, rfl, fun M => by rw [hpe, c', Bool.false_and]; rfl⟩, trivial⟩ ⟨rfl, rfl, rfl, rfl, trivial⟩)
            | (refine RunF_sound tab_ok noX_local 18 [false] _ _ rfl (by simpa using c) ?_; exact T _ ⟨inTC_same rfl, inTC_same rfl, inTC_same rfl, inTC_same rfl, inTC_same rfl, inTC_same rfl, inTC_same rfl, ⟨_, rfl, fun M => by rw [hpe, c', Bool.false_and]; rfl⟩, trivial⟩ ⟨rfl, rfl, rfl, rfl, trivial⟩)
            | (refine RunF_sound tab_ok noX_local 19 [false] _ _ rfl (by simpa using c) ?_; exact T _ ⟨inTC_same rfl, inTC_same rfl, inTC_same rfl, inTC_same rfl, inTC_same rfl, inTC_same rfl, inTC_same rfl, ⟨_, rfl, fun M => by rw [hpe, c', Bool.false_and]; rfl⟩, trivial⟩ ⟨rfl, rfl, rfl, rfl, trivial⟩)
            | (refine RunF_sound tab_ok noX_local 20 [false] _ _ rfl (by simpa using c) ?_; exact T _ ⟨inTC_same rfl, inTC_same rfl, inTC_same rfl, inTC_same rfl, inTC_same rfl, inTC_same rfl, inTC_same rfl, ⟨_, rfl, fun M => by rw [hpe, c', Bool.false_and]; rfl⟩, trivial⟩ ⟨rfl, rfl, rfl, rfl, trivial⟩)
            | (refine RunF_sound tab_ok noX_local 21 [false] _ _ rfl (by simpa using c) ?_; exact T _ ⟨inTC_same rfl, inTC_same rfl, inTC_same rfl, inTC_same rfl, inTC_same rfl, inTC_same rfl, inTC_same rfl, ⟨_, rfl, fun M => by rw [hpe, c', Bool.false_and]; rfl⟩, trivial⟩ ⟨rfl, rfl, rfl, rfl, trivial⟩)
            | (refine RunF_sound tab_ok noX_local 22 [false] _ _ rfl (by simpa using c) ?_; exact T _ ⟨inTC_same rfl, inTC_same rfl, inTC_same rfl, inTC_same rfl, inTC_same rfl, inTC_same rfl, inTC_same rfl, ⟨_, rfl, fun M => by rw [hpe, c', Bool.false_and]; rfl⟩, trivial⟩ ⟨rfl, rfl, rfl, rfl, trivial⟩)
            | (refine RunF_sound tab_ok noX_local 23 [false] _ _ rfl (by simpa using c) ?_; exact T _ ⟨inTC_same rfl, inTC_same rfl, inTC_same rfl, inTC_same rfl, inTC_same rfl, inTC_same rfl, inTC_same rfl, ⟨_, rfl, fun M => by rw [hpe, c', Bool.false_and]; rfl⟩, trivial⟩ ⟨rfl, rfl, rfl, rfl, trivial⟩)
            | (refine RunF_sound tab_ok noX_local 24 [false] _ _ rfl (by simpa using c) ?_; exact T _ ⟨inTC_same rfl, inTC_same rfl, inTC_same rfl, inTC_same rfl, inTC_same rfl, inTC_same rfl, inTC_same rfl, ⟨_, rfl, fun M => by rw [hpe, c', Bool.false_and]; rfl⟩, trivial⟩ ⟨rfl, rfl, rfl, rfl, trivial⟩)
            | (refine RunF_sound tab_ok noX_local 25 [false] _ _ rfl (by simpa using c) ?_; exact T _ ⟨inTC_same rfl, inTC_same rfl, inTC_same rfl, inTC_same rfl, inTC_same rfl, inTC_same rfl, inTC_same rfl, ⟨_, rfl, fun M => by rw [hpe, c', Bool.false_and]; rfl⟩, trivial⟩ ⟨rfl, rfl, rfl, rfl, trivial⟩)
            | (refine RunF_sound tab_ok noX_local 26 [false] _ _ rfl (by simpa using c) ?_; exact T _ ⟨inTC_same rfl, inTC_same rfl, inTC_same rfl, inTC_same rfl, inTC_same rfl, inTC_same rfl, inTC_same rfl, ⟨_, rfl, fun M => by rw [hpe, c', Bool.false_and]; rfl⟩, trivial⟩ ⟨rfl, rfl, rfl, rfl, trivial⟩)
            | (refine RunF_sound tab_ok noX_local 27 [false] _ _ rfl (by simpa using c) ?_; exact T _ ⟨inTC_same rfl, inTC_same rfl, inTC_same rfl, inTC_same rfl, inTC_same rfl, inTC_same rfl, inTC_same rfl, ⟨_, rfl, fun M => by rw [hpe, c', Bool.false_and]; rfl⟩, trivial⟩ ⟨rfl, rfl, rfl, rfl, trivial⟩)
            | (refine RunF_sound tab_ok noX_local 28 [false] _ _ rfl (by simpa using c) ?_; exact T _ ⟨inTC_same rfl, inTC_same rfl, inTC_same rfl, inTC_same rfl, inTC_same rfl, inTC_same rfl, inTC_same rfl, ⟨_, rfl, fun M => by rw [hpe, c', Bool.false_and]; rfl⟩, trivial⟩ ⟨rfl, rfl, rfl, rfl, trivial⟩)
            | (refine RunF_sound tab_ok noX_local 29 [false] _ _ rfl (by simpa using c) ?_; exact T _ ⟨inTC_same rfl, inTC_same rfl, inTC_same rfl, inTC_same rfl, inTC_same rfl, inTC_same rfl, inTC_same rfl, ⟨_, rfl, fun M => by rw [hpe, c', Bool.false_and]; rfl⟩, trivial⟩ ⟨rfl, rfl, rfl, rfl, trivial⟩)
        · have hpe : p a b = (R.has a b && !S.has a b) := by rw [← hp]; rfl
          refine RunF_sound tab_ok noX_local 100 [true, false, false, true] _ _ rfl ?_ ?_
          · simp; omega
          refine Run.callFn noX_local rfl rfl rfl rfl rfl rfl rfl hasR_enters rfl (fun w' _ => hasR_ok R hn a b w') ?_
          rw [hI]
          by_cases c : R.has a b = true
          · refine RunF_sound tab_ok noX_local 100 [true] _ _ rfl ?_ ?_
            · simp [c]
            refine Run.callFn noX_local rfl rfl rfl rfl rfl rfl rfl hasR_enters rfl (fun w' _ => hasR_ok S hnS a b w') ?_
            rw [hJ]
            refine RunF_sound tab_ok noX_local 100 [] _ _ rfl ?_ ?_
            · simp
            exact T _ ⟨inTC_same rfl, inTC_same rfl, inTC_same rfl, inTC_same rfl, inTC_same rfl, inTC_same rfl, inTC_same rfl, ⟨_, rfl, fun M => by rw [hpe, c, Bool.true_and]⟩, trivial⟩ ⟨rfl, rfl, rfl, rfl, trivial⟩
          · have c' : R.has a b = false := by simpa using c
            first
            | (refine RunF_sound tab_ok noX_local 8 [false] _ _ rfl (by simpa using c) ?_; exact T _ ⟨inTC_same rfl, inTC_same rfl, inTC_same rfl, inTC_same rfl, inTC_same rfl, inTC_same rfl, inTC_same rfl, ⟨_, rfl, fun M => by rw [hpe, c', Bool.false_and]; rfl⟩, trivial⟩ ⟨rfl, rfl, rfl, rfl, trivial⟩)
            | (refine RunF_sound tab_ok noX_local 9 [false] _ _ rfl (by simpa using c) ?_; exact T _ ⟨inTC_same rfl, inTC_same rfl, inTC_same rfl, inTC_same rfl, inTC_same rfl, inTC_same rfl, inTC_same rfl, ⟨_, rfl, fun M => by rw [hpe, c', Bool.false_and]; rfl⟩, trivial⟩ ⟨rfl, rfl, rfl, rfl, trivial⟩)
            | (refine RunF_sound tab_ok noX_local 10 [false] _ _ rfl (by simpa using c) ?_; exact T _ ⟨inTC_same rfl, inTC_same rfl, inTC_same rfl, inTC_same rfl, inTC_same rfl, inTC_same rfl, inTC_same rfl, ⟨_, rfl, fun M => by rw [hpe, c', Bool.false_and]; rfl⟩, trivial⟩ ⟨rfl, rfl, rfl, rfl, trivial⟩)
            | (refine RunF_sound tab_ok noX_local 11 [false] _ _ rfl (by simpa using c) ?_; exact T _ ⟨inTC_same rfl, inTC_same rfl, inTC_same rfl, inTC_same rfl, inTC_same rfl, inTC_same rfl, inTC_same rfl, ⟨_, rfl, fun M => by rw [hpe, c', Bool.false_and]; rfl⟩, trivial⟩ ⟨rfl, rfl, rfl, rfl, trivial⟩)
            | (refine RunF_sound tab_ok noX_local 12 [false] _ _ rfl (by simpa using c) ?_; exact T _ ⟨inTC_same rfl, inTC_same rfl, inTC_same rfl, inTC_same rfl, inTC_same rfl, inTC_same rfl, inTC_same rfl, ⟨_, rfl, fun M => by rw [hpe, c', Bool.false_and]; rfl⟩, trivial⟩ ⟨rfl, rfl, rfl, rfl, trivial⟩)
            | (refine RunF_sound tab_ok noX_local 13 [false] _ _ rfl (by simpa using c) ?_; exact T _ ⟨inTC_same rfl, inTC_same rfl, inTC_same rfl, inTC_same rfl, inTC_same rfl, inTC_same rfl, inTC_same rfl, ⟨_, rfl, fun M => by rw [hpe, c', Bool.false_and]; rfl⟩, trivial⟩ ⟨rfl, rfl, rfl, rfl, trivial⟩)
            | (refine RunF_sound tab_ok noX_local 14 [false] _ _ rfl (by simpa using c) ?_; exact T _ ⟨inTC_same rfl, inTC_same rfl, inTC_same rfl, inTC_same rfl, inTC_same rfl, inTC_same rfl, inTC_same rfl, ⟨_, rfl, fun M => by rw [hpe, c', Bool.false_and]; rfl⟩, trivial⟩ ⟨rfl, rfl, rfl, rfl, trivial⟩)
            | (refine RunF_sound tab_ok noX_local 15 [false] _ _ rfl (by simpa using c) ?_; exact T _ ⟨inTC_same rfl, inTC_same rfl, inTC_same rfl, inTC_same rfl, inTC_same rfl, inTC_same rfl, inTC_same rfl, ⟨_, rfl, fun M => by rw [hpe, c', Bool.false_and]; rfl⟩, trivial⟩ ⟨rfl, rfl, rfl, rfl, trivial⟩)
            | (refine RunF_sound tab_ok noX_local 16 [false] _ _ rfl (by simpa using c) ?_; exact T _ ⟨inTC_same rfl, inTC_same rfl, inTC_same rfl, inTC_same rfl, inTC_same rfl, inTC_same rfl, inTC_same rfl, ⟨_, rfl, fun M => by rw [hpe, c', Bool.false_and]; rfl⟩, trivial⟩ ⟨rfl, rfl, rfl, rfl, trivial⟩)
            | (refine RunF_sound tab_ok noX_local 17 [false] _ _ rfl (by simpa using c) ?_; exact T _ ⟨inTC_same rfl, inTC_same rfl, inTC_same rfl, inTC_same rfl, inTC_same rfl, inTC_same rfl, inTC_same rfl, ⟨_, rfl, fun M => by rw [hpe, c', Bool.false_and]; rfl⟩, trivial⟩ ⟨rfl, rfl, rfl, rfl, trivial⟩)
            | (refine RunF_sound tab_ok noX_local 18 [false] _ _ rfl (by simpa using c) ?_; exact T _ ⟨inTC_same rfl, inTC_same rfl, inTC_same rfl, inTC_same rfl, inTC_same rfl, inTC_same rfl, inTC_same rfl, ⟨_, rfl, fun M => by rw [hpe, c', Bool.false_and]; rfl⟩, trivial⟩ ⟨rfl, rfl, rfl, rfl, trivial⟩)
            | (refine RunF_sound tab_ok noX_local 19 [false] _ _ rfl (by simpa using c) ?_; exact T _ ⟨inTC_same rfl, inTC_same rfl, inTC_same rfl, inTC_same rfl, inTC_same rfl, inTC_same rfl, inTC_same rfl, ⟨_, rfl, fun M => by rw [hpe, c', Bool.false_and]; rfl⟩, trivial⟩ ⟨rfl, rfl, rfl, rfl, trivial⟩)
            | (refine RunF_sound tab_ok noX_local 20 [false] _ _ rfl (by simpa using c) ?_; exact T _ ⟨inTC_same rfl, inTC_same rfl, inTC_same rfl, inTC_same rfl, inTC_same rfl, inTC_same rfl, inTC_same rfl, ⟨_, rfl, fun M => by rw [hpe, c', Bool.false_and]; rfl⟩, trivial⟩ ⟨rfl, rfl, rfl, rfl, trivial⟩)
            | (refine RunF_sound tab_ok noX_local 21 [false] _ _ rfl (by simpa using c) ?_; exact T _ ⟨inTC_same rfl, inTC_same rfl, inTC_same rfl, inTC_same rfl, inTC_same rfl, inTC_same rfl, inTC_same rfl, ⟨_, rfl, fun M => by rw [hpe, c', Bool.false_and]; rfl⟩, trivial⟩ ⟨rfl, rfl, rfl, rfl, trivial⟩)
            | (refine RunF_sound tab_ok noX_local 22 [false] _ _ rfl (by simpa using c) ?_; exact T _ ⟨inTC_same rfl, inTC_same rfl, inTC_same rfl, inTC_same rfl, inTC_same rfl, inTC_same rfl, inTC_same rfl, ⟨_, rfl, fun M => by rw [hpe, c', Bool.false_and]; rfl⟩, trivial⟩ ⟨rfl, rfl, rfl, rfl, trivial⟩)
            | (refine RunF_sound tab_ok noX_local 23 [false] _ _ rfl (by simpa using c) ?_; exact T _ ⟨inTC_same rfl, inTC_same rfl, inTC_same rfl, inTC_same rfl, inTC_same rfl, inTC_same rfl, inTC_same rfl, ⟨_, rfl, fun M => by rw [hpe, c', Bool.false_and]; rfl⟩, trivial⟩ ⟨rfl, rfl, rfl, rfl, trivial⟩)
            | (refine RunF_sound tab_ok noX_local 24 [false] _ _ rfl (by simpa using c) ?_; exact T _ ⟨inTC_same rfl, inTC_same rfl, inTC_same rfl, inTC_same rfl, inTC_same rfl, inTC_same rfl, inTC_same rfl, ⟨_, rfl, fun M => by rw [hpe, c', Bool.false_and]; rfl⟩, trivial⟩ ⟨rfl, rfl, rfl, rfl, trivial⟩)
            | (refine RunF_sound tab_ok noX_local 25 [false] _ _ rfl (by simpa using c) ?_; exact T _ ⟨inTC_same rfl, inTC_same rfl, inTC_same rfl, inTC_same rfl, inTC_same rfl, inTC_same rfl, inTC_same rfl, ⟨_, rfl, fun M => by rw [hpe, c', Bool.false_and]; rfl⟩, trivial⟩ ⟨rfl, rfl, rfl, rfl, trivial⟩)
            | (refine RunF_sound tab_ok noX_local 26 [false] _ _ rfl (by simpa using c) ?_; exact T _ ⟨inTC_same rfl, inTC_same rfl, inTC_same rfl, inTC_same rfl, inTC_same rfl, inTC_same rfl, inTC_same rfl, ⟨_, rfl, fun M => by rw [hpe, c', Bool.false_and]; rfl⟩, trivial⟩ ⟨rfl, rfl, rfl, rfl, trivial⟩)
            | (refine RunF_sound tab_ok noX_local 27 [false] _ _ rfl (by simpa using c) ?_; exact T _ ⟨inTC_same rfl, inTC_same rfl, inTC_same rfl, inTC_same rfl, inTC_same rfl, inTC_same rfl, inTC_same rfl, ⟨_, rfl, fun M => by rw [hpe, c', Bool.false_and]; rfl⟩, trivial⟩ ⟨rfl, rfl, rfl, rfl, trivial⟩)
            | (refine RunF_sound tab_ok noX_local 28 [false] _ _ rfl (by simpa using c) ?_; exact T _ ⟨inTC_same rfl, inTC_same rfl, inTC_same rfl, inTC_same rfl, inTC_same rfl, inTC_same rfl, inTC_same rfl, ⟨_, rfl, fun M => by rw [hpe, c', Bool.false_and]; rfl⟩, trivial⟩ ⟨rfl, rfl, rfl, rfl, trivial⟩)
            | (refine RunF_sound tab_ok noX_local 29 [false] _ _ rfl (by simpa using c) ?_; exact T _ ⟨inTC_same rfl, inTC_same rfl, inTC_same rfl, inTC_same rfl, inTC_same rfl, inTC_same rfl, inTC_same rfl, ⟨_, rfl, fun M => by rw [hpe, c', Bool.false_and]; rfl⟩, trivial⟩ ⟨rfl, rfl, rfl, rfl, trivial⟩)
        · have hpe : p a b = (List.range R.n.toNat).any (fun c => R.has a c && S.has c b) := by rw [← hp]; rfl
          refine RunF_sound tab_ok noX_local 100 [true, false, false, false, true] _ _ rfl ?_ ?_
          · simp; omega
          suffices K : ∀ (g c : Nat), (c : Int) + g = R.n → ∀ σ, inTC σ.t [(0, .v (.int .i64 (3 : Int))), (4, .ptr 0 0), (5, .ptr 1 0), (6, .ptr 2 0), (7, .ptr 3 0), (8, .v (.int .i64 (a : Int))), (9, .v (.int .i64 (b : Int))), (10, .v (.bool ((List.range c).any fun c => R.has a c && S.has c b))), (11, .v (.int .i64 (c : Int)))] →
              inT σ.h [(0, .cells 25 [.vals 65 (relV R)]), (1, .cells 25 [.vals 65 (relV S)]), (2, .cells 25 [.vals 65 (relV (Rl.void 0))]), (3, .cells 25 [.vals 65 (relV (Rl.gen R.n (Rl.seen p a b)))])] → Run _ _ σ by
            exact K R.n.toNat 0 (by omega) _ ⟨inTC_same rfl, inTC_same rfl, inTC_same rfl, inTC_same rfl, inTC_same rfl, inTC_same rfl, inTC_same rfl, ⟨_, rfl, fun M => rfl⟩, inTC_same rfl, trivial⟩ ⟨rfl, rfl, rfl, rfl, trivial⟩
          intro g
          induction g with
          | zero =>
            intro c hc σ ht hh
            refine Run.toC ?_ ht hh (n' := 4)
            refine RunF_sound tab_ok noX_local 100 [false] _ _ rfl ?_ ?_
            · simp; omega
            refine T _ ⟨inTC_same rfl, inTC_same rfl, inTC_same rfl, inTC_same rfl, inTC_same rfl, inTC_same rfl, inTC_same rfl, ⟨_, rfl, fun M => ?_⟩, trivial⟩ ⟨rfl, rfl, rfl, rfl, trivial⟩
            rw [hpe, show R.n.toNat = c by omega]
          | succ g ihg =>
            intro c hc σ ht hh
            refine Run.toC ?_ ht hh (n' := 4)
            have hX : hasI R a c = R.has a c := hasI_in han (by omega)
            have hY : hasI S c b = S.has c b := hasI_in (by omega) (by omega)
            have hany : (List.range (c + 1)).any (fun c => R.has a c && S.has c b) = ((List.range c).any (fun c => R.has a c && S.has c b) || (R.has a c && S.has c b)) := by
              rw [List.range_succ, List.any_append]; simp
            by_cases cc : (List.range c).any (fun c => R.has a c && S.has c b) = true
            · rw [cc] at hany ⊢
              refine RunF_sound tab_ok noX_local 100 [true, true] _ _ rfl ?_ ?_
              · simp; omega
              exact ihg (c + 1) (by omega) _ ⟨inTC_same rfl, inTC_same rfl, inTC_same rfl, inTC_same rfl, inTC_same rfl, inTC_same rfl, inTC_same rfl, ⟨_, rfl, fun M => by rw [hany]; rfl⟩, inTC_same (i64_eq (wrap_succ (by omega))), trivial⟩ ⟨rfl, rfl, rfl, rfl, trivial⟩
            · have cc' : (List.range c).any (fun c => R.has a c && S.has c b) = false := by simpa using cc
              rw [cc'] at hany ⊢
              rw [Bool.false_or] at hany
              refine RunF_sound tab_ok noX_local 100 [true, false] _ _ rfl ?_ ?_
              · simp; omega
              refine Run.callFn noX_local rfl rfl rfl rfl rfl rfl rfl hasR_enters rfl (fun w' _ => hasR_ok R hn a c w') ?_
              rw [hX]
              by_cases c1 : R.has a c = true
              · refine RunF_sound tab_ok noX_local 100 [true] _ _ rfl ?_ ?_
                · simp [c1]
                refine Run.callFn noX_local rfl rfl rfl rfl rfl rfl rfl hasR_enters rfl (fun w' _ => hasR_ok S hnS c b w') ?_
                rw [hY]
                refine RunF_sound tab_ok noX_local 100 [] _ _ rfl ?_ ?_
                · simp
                exact ihg (c + 1) (by omega) _ ⟨inTC_same rfl, inTC_same rfl, inTC_same rfl, inTC_same rfl, inTC_same rfl, inTC_same rfl, inTC_same rfl, ⟨_, rfl, fun M => by rw [hany, c1, Bool.true_and]⟩, inTC_same (i64_eq (wrap_succ (by omega))), trivial⟩ ⟨rfl, rfl, rfl, rfl, trivial⟩
              · have c1' : R.has a c = false := by simpa using c1
                refine RunF_sound tab_ok noX_local 100 [false] _ _ rfl ?_ ?_
                · simpa using c1
                exact ihg (c + 1) (by omega) _ ⟨inTC_same rfl, inTC_same rfl, inTC_same rfl, inTC_same rfl, inTC_same rfl, inTC_same rfl, inTC_same rfl, ⟨_, rfl, fun M => by rw [hany, c1', Bool.false_and]; rfl⟩, inTC_same (i64_eq (wrap_succ (by omega))), trivial⟩ ⟨rfl, rfl, rfl, rfl, trivial⟩
      intro σ ht hh
      refine Run.toC ?_ ht hh (n' := 4)
      by_cases c : p a b = true
      · refine RunF_sound tab_ok noX_local 100 [true] _ _ rfl ?_ ?_
        · simp [c]
        refine Run.drawA noX_local rfl [3] [] rfl rfl trivial ?_
        refine RunOF_sound tab_ok noX_local rfl rfl 100 [] _ _ rfl ?_ ?_
        · simp [relV_get _ _ ha', intAt_row _ _ ha', okCell, Value.oneCell', inT, lk]; omega
        refine RunO.done ?_
        refine RunF_sound tab_ok noX_local 100 [] _ _ rfl ?_ ?_
        · simp
        refine ihe (b + 1) (by omega) _ ⟨rfl, rfl, rfl, rfl, rfl, rfl, i64_eq (wrap_succ (by omega)), trivial⟩ ⟨rfl, rfl, rfl, congrArg (fun l => some (Blk.cells 25 [.vals 65 l])) ?_, trivial⟩
        simp [intAt_row _ _ ha', shl1_un, relV_set _ _ ha', Rl.seen_yes ha' hb' c]
      · refine RunF_sound tab_ok noX_local 100 [false] _ _ rfl ?_ ?_
        · simpa using c
        refine ihe (b + 1) (by omega) _ ⟨rfl, rfl, rfl, rfl, rfl, rfl, i64_eq (wrap_succ (by omega)), trivial⟩ ⟨rfl, rfl, rfl, ?_, trivial⟩
        rw [← Rl.seen_no (by simpa using c)]; rfl
theorem two_R_enters : Enters Tryd.prog 22 := enters_mk Tryd.func22 (by decide) rfl
end Go.Proofs.YtocpkgckllbjlaaDoor

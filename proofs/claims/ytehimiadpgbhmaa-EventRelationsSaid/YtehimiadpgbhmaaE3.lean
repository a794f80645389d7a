/-
  The relations of events: pairs, Po, Loc, Int, Ext, Rmw. Own work.
-/
import Derived.Test.YtehimiadpgbhmaaE2
namespace Go.Proofs.Ytehimiadpgbhmaa
open Go.AM
set_option maxRecDepth 100000

/-- A test of two places of a list. -/
def atB (T : Int → Int → Ev → Ev → Bool) (xs : List Ev) (x y : Nat) : Bool := match xs[x]?, xs[y]? with | some a, some b => T x y a b | _, _ => false
theorem atB_lt {T : Int → Int → Ev → Ev → Bool} {xs : List Ev} {x y : Nat} (h : atB T xs x y = true) : x < xs.length ∧ y < xs.length := by
  unfold atB at h
  split at h
  · rename_i h1 h2
    exact ⟨(List.getElem?_eq_some_iff.1 h1).1, (List.getElem?_eq_some_iff.1 h2).1⟩
  · cases h
theorem atB_at {T : Int → Int → Ev → Ev → Bool} {xs : List Ev} {x y : Nat} (hx : x < xs.length) (hy : y < xs.length) : atB T xs x y = T x y xs[x] xs[y] := by
  unfold atB; rw [List.getElem?_eq_getElem hx, List.getElem?_eq_getElem hy]

def pairsL (T : Int → Int → Ev → Ev → Bool) (xs : List Ev) : Rl := Rl.gen ((shortL xs).length : Int) (atB T (shortL xs))

theorem pairs_ok (g : FuncId) (T : Int → Int → Ev → Ev → Bool) (p : Option Addr) (c : Nat) (xs : List Ev) (w : World) (hs : SeesV w p xs) (hent : Enters Try.prog g)
    (hg : ∀ w' i k a b, Gives Try.prog g [.int .i64 i, .int .i64 k, encEv a, encEv b] w' (.bool (T i k a b))) :
    Gives Try.prog 22 [.slice p xs.length c, .func (.func g) #[] #[]] w (encRel (pairsL T xs)) := by
  refine Gives.of_run Try.func22 rfl (by show 2 ≤ 47; decide) ?_
  refine RunF_sound tab_ok noX_local 100 [] _ _ rfl ?_ ?_
  · simp [segsVals, relV_one']
  refine Run.callFn noX_local rfl rfl rfl rfl rfl rfl rfl short_enters rfl (fun w' _ => short_ok p c xs w') ?_
  obtain ⟨p', c', e1, hs'⟩ := short_form c hs
  have hle := shortL_le xs
  rw [e1]
  unfold pairsL
  generalize shortL xs = L at hs' hle
  have hlt := @atB_lt T L
  have hat := @atB_at T L
  generalize hq : atB T L = q at hlt hat
  refine RunF_sound tab_ok noX_local 100 [] _ _ rfl ?_ ?_
  · simp [fillL, Value.cells, segsVals, relV_one', relV_tail_one, splice]
    rfl
  suffices H : ∀ (d i : Nat), i + d = L.length → ∀ σ, inT σ.t [(0, .v (.slice p' L.length c')), (1, .v (.func (.func g) #[] #[])), (4, .ptr 0 0), (5, .ptr 1 0), (15, .v (.slice p' L.length c')), (16, .v (.int .i64 (L.length : Int))), (17, .v (.int .i64 (i : Int)))] →
      inT σ.h [(0, .cells 33 [.vals 65 (relV (Rl.void 0))]), (1, .cells 33 [.vals 65 (relV (Rl.gen (L.length : Int) (Rl.seen q i 0)))])] → Run _ _ σ by
    refine H L.length 0 (by omega) _ ⟨rfl, rfl, rfl, rfl, rfl, rfl, rfl, trivial⟩ ⟨rfl, ?_, trivial⟩
    rw [Rl.seen_0]; rfl
  intro d
  induction d with
  | zero =>
    intro i hi σ ht hh
    refine Run.to ?_ ht hh (n' := 12)
    refine RunF_sound tab_ok noX_local 100 [false] _ _ rfl ?_ ?_
    · simp [segsVals, relV_one']; omega
    refine Run.retP tab_ok Try.func22 rfl ?_ (fun M => ?_)
    · simp
    rw [Rl.seen_all (fun x y h => by have := hlt h; omega)]; rfl
  | succ d ih =>
    intro i hi σ ht hh
    refine Run.to ?_ ht hh (n' := 12)
    have hil : i < L.length := by omega
    have f1 := (hs' i hil).1
    have f2 := hs'.ext i hil
    have f3 := hs'.some i hil
    have f4 := evV_one L[i]
    refine RunF_sound tab_ok noX_local 100 [true] _ _ rfl ?_ ?_
    · simp only [fnC_w0, fnC_S0, Int.toNat_natCast, f2]
      simp [segsVals, f4]
      (repeat' refine And.intro ?_ ?_) <;> first | omega | exact f1 | exact f3
    suffices H2 : ∀ (e k : Nat), k + e = L.length → ∀ σ, inT σ.t [(0, .v (.slice p' L.length c')), (1, .v (.func (.func g) #[] #[])), (4, .ptr 0 0), (5, .ptr 1 0), (15, .v (.slice p' L.length c')), (16, .v (.int .i64 (L.length : Int))), (17, .v (.int .i64 (i : Int))), (6, .v (.int .i64 (i : Int))), (7, .ptr 12 0), (22, .v (.slice p' L.length c')), (23, .v (.int .i64 (L.length : Int))), (24, .v (.int .i64 (k : Int)))] →
        inT σ.h [(0, .cells 33 [.vals 65 (relV (Rl.void 0))]), (1, .cells 33 [.vals 65 (relV (Rl.gen (L.length : Int) (Rl.seen q i k)))]), (12, .cells 24 [.vals 5 (evV L[i])])] → Run _ _ σ by
      refine H2 L.length 0 (by omega) _ ⟨rfl, rfl, rfl, rfl, rfl, rfl, rfl, rfl, rfl, rfl, rfl, rfl, trivial⟩ ⟨rfl, rfl, ?_, trivial⟩
      simp only [fnC_w0, Int.toNat_natCast, f2]
      rfl
    intro e
    induction e with
    | zero =>
      intro k hk σ ht hh
      refine Run.to ?_ ht hh (n' := 13)
      refine RunF_sound tab_ok noX_local 100 [false] _ _ rfl ?_ ?_
      · simp; omega
      rw [Rl.seen_row (fun x y h => by have := hlt h; omega)]
      exact ih (i + 1) (by omega) _ ⟨rfl, rfl, rfl, rfl, rfl, rfl, i64_eq (wrap_succ (by omega)), trivial⟩ ⟨rfl, rfl, trivial⟩
    | succ e ihe =>
      intro k hk σ ht hh
      refine Run.to ?_ ht hh (n' := 13)
      have hkl : k < L.length := by omega
      have g1 := (hs' k hkl).1
      have g2 := hs'.ext k hkl
      have g3 := hs'.some k hkl
      have g4 := evV_one L[k]
      have hi' : i < 64 := by omega
      have hqe : q i k = T i k L[i] L[k] := hat hil hkl
      refine RunF_sound tab_ok noX_local 100 [true] _ _ rfl ?_ ?_
      · simp only [fnC_w0, fnC_S0, Int.toNat_natCast, g2]
        simp [segsVals, g4]
        (repeat' refine And.intro ?_ ?_) <;> first | omega | exact g1 | exact g3
      refine Run.callFv (cs := []) (f := g) (r := .bool (T i k L[i] L[k])) noX_local rfl rfl rfl rfl rfl rfl rfl hent rfl (fun w' hA => ?_) ?_
      · have := hg w' i k L[i] L[k]
        simp only [fnC_w0, Int.toNat_natCast, g2, zev, splice_ev]
        exact this
      by_cases ct : T i k L[i] L[k] = true
      · refine RunF_sound tab_ok noX_local 100 [true] _ _ rfl ?_ ?_
        · simp [ct]
        refine Run.drawA noX_local rfl [3] [] rfl rfl trivial ?_
        refine RunOF_sound tab_ok noX_local rfl rfl 100 [] _ _ rfl ?_ ?_
        · simp [relV_get _ _ hi', intAt_row _ _ hi', okCell, Value.oneCell', inT, lk]; omega
        refine RunO.done ?_
        refine RunF_sound tab_ok noX_local 100 [] _ _ rfl ?_ ?_
        · simp
        refine ihe (k + 1) (by omega) _ ⟨rfl, rfl, rfl, rfl, rfl, rfl, rfl, rfl, rfl, rfl, rfl, i64_eq (wrap_succ (by omega)), trivial⟩ ⟨rfl, congrArg (fun l => some (Blk.cells 33 [.vals 65 l])) ?_, rfl, trivial⟩
        simp [intAt_row _ _ hi', shl1_un, relV_set _ _ hi', Rl.seen_yes hi' (show k < 64 by omega) (show q i k = true by rw [hqe, ct])]
      · refine RunF_sound tab_ok noX_local 100 [false] _ _ rfl ?_ ?_
        · simpa using ct
        refine ihe (k + 1) (by omega) _ ⟨rfl, rfl, rfl, rfl, rfl, rfl, rfl, rfl, rfl, rfl, rfl, i64_eq (wrap_succ (by omega)), trivial⟩ ⟨rfl, ?_, rfl, trivial⟩
        rw [← Rl.seen_no (by rw [hqe]; simpa using ct)]; rfl
theorem pairs_enters : Enters Try.prog 22 := enters_mk Try.func22 (by decide) rfl

theorem po_ok (p : Option Addr) (c : Nat) (xs : List Ev) (w : World) (hs : SeesV w p xs) : Gives Try.prog 10 [.slice p xs.length c] w (encRel (pairsL (fun i k a b => decide (i < k) && togB a b) xs)) := by
  refine Gives.of_run Try.func10 rfl (by show 1 ≤ 5; decide) ?_
  generalize hX : pairsL (fun i k a b => decide (i < k) && togB a b) xs = X
  refine RunF_sound tab_ok noX_local 100 [] _ _ rfl ?_ ?_
  · simp [segsVals, relV_one']
  refine Run.callM noX_local rfl rfl rfl rfl rfl rfl pairs_enters rfl (r := encRel X) (fun M w' _ hA => ?_) ?_
  · rw [← hX]; exact pairs_ok 23 _ p c xs w' (hs.agree hA (fun _ _ h => h)) po1_enters (fun w'' i k a b => po1_ok i k a b w'')
  refine RunF_sound tab_ok noX_local 100 [] _ _ rfl ?_ ?_
  · simp [segsVals, relV_one']
  refine Run.retP tab_ok Try.func10 rfl ?_ (fun M => ?_)
  · simp
  rfl
theorem po_enters : Enters Try.prog 10 := enters_mk Try.func10 (by decide) rfl

theorem loc_ok (p : Option Addr) (c : Nat) (xs : List Ev) (w : World) (hs : SeesV w p xs) : Gives Try.prog 12 [.slice p xs.length c] w (encRel (pairsL (fun _ _ a b => (memB a && memB b) && decide (a.loc = b.loc)) xs)) := by
  refine Gives.of_run Try.func12 rfl (by show 1 ≤ 5; decide) ?_
  generalize hX : pairsL (fun _ _ a b => (memB a && memB b) && decide (a.loc = b.loc)) xs = X
  refine RunF_sound tab_ok noX_local 100 [] _ _ rfl ?_ ?_
  · simp [segsVals, relV_one']
  refine Run.callM noX_local rfl rfl rfl rfl rfl rfl pairs_enters rfl (r := encRel X) (fun M w' _ hA => ?_) ?_
  · rw [← hX]; exact pairs_ok 26 _ p c xs w' (hs.agree hA (fun _ _ h => h)) loc1_enters (fun w'' i k a b => loc1_ok i k a b w'')
  refine RunF_sound tab_ok noX_local 100 [] _ _ rfl ?_ ?_
  · simp [segsVals, relV_one']
  refine Run.retP tab_ok Try.func12 rfl ?_ (fun M => ?_)
  · simp
  rfl
theorem loc_enters : Enters Try.prog 12 := enters_mk Try.func12 (by decide) rfl

theorem int_ok (p : Option Addr) (c : Nat) (xs : List Ev) (w : World) (hs : SeesV w p xs) : Gives Try.prog 13 [.slice p xs.length c] w (encRel (pairsL (fun _ _ a b => togB a b) xs)) := by
  refine Gives.of_run Try.func13 rfl (by show 1 ≤ 5; decide) ?_
  generalize hX : pairsL (fun _ _ a b => togB a b) xs = X
  refine RunF_sound tab_ok noX_local 100 [] _ _ rfl ?_ ?_
  · simp [segsVals, relV_one']
  refine Run.callM noX_local rfl rfl rfl rfl rfl rfl pairs_enters rfl (r := encRel X) (fun M w' _ hA => ?_) ?_
  · rw [← hX]; exact pairs_ok 27 _ p c xs w' (hs.agree hA (fun _ _ h => h)) int1_enters (fun w'' i k a b => int1_ok i k a b w'')
  refine RunF_sound tab_ok noX_local 100 [] _ _ rfl ?_ ?_
  · simp [segsVals, relV_one']
  refine Run.retP tab_ok Try.func13 rfl ?_ (fun M => ?_)
  · simp
  rfl
theorem int_enters : Enters Try.prog 13 := enters_mk Try.func13 (by decide) rfl

theorem rmw_ok (p : Option Addr) (c : Nat) (xs : List Ev) (w : World) (hs : SeesV w p xs) : Gives Try.prog 15 [.slice p xs.length c] w (encRel (pairsL rmwB xs)) := by
  refine Gives.of_run Try.func15 rfl (by show 1 ≤ 5; decide) ?_
  generalize hX : pairsL rmwB xs = X
  refine RunF_sound tab_ok noX_local 100 [] _ _ rfl ?_ ?_
  · simp [segsVals, relV_one']
  refine Run.callM noX_local rfl rfl rfl rfl rfl rfl pairs_enters rfl (r := encRel X) (fun M w' _ hA => ?_) ?_
  · rw [← hX]; exact pairs_ok 29 _ p c xs w' (hs.agree hA (fun _ _ h => h)) rmw1_enters (fun w'' i k a b => rmw1_ok i k a b w'')
  refine RunF_sound tab_ok noX_local 100 [] _ _ rfl ?_ ?_
  · simp [segsVals, relV_one']
  refine Run.retP tab_ok Try.func15 rfl ?_ (fun M => ?_)
  · simp
  rfl
theorem rmw_enters : Enters Try.prog 15 := enters_mk Try.func15 (by decide) rfl

theorem ext_ok (p : Option Addr) (c : Nat) (xs : List Ev) (w : World) (hs : SeesV w p xs) : Gives Try.prog 14 [.slice p xs.length c] w (encRel (notL (pairsL (fun _ _ a b => togB a b) xs))) := by
  refine Gives.of_run Try.func14 rfl (by show 1 ≤ 6; decide) ?_
  refine RunF_sound tab_ok noX_local 100 [] _ _ rfl ?_ ?_
  · simp [segsVals, relV_one']
  refine Run.callFn noX_local rfl rfl rfl rfl rfl rfl rfl int_enters rfl (fun w' hA => int_ok p c xs w' (hs.agree hA (fun _ _ h => h))) ?_
  generalize pairsL (fun _ _ a b => togB a b) xs = X
  refine RunF_sound tab_ok noX_local 100 [] _ _ rfl ?_ ?_
  · simp
  generalize hY : notL X = Y
  refine Run.callFn noX_local rfl rfl rfl rfl rfl rfl rfl not_enters rfl (r := encRel Y) (fun w' _ => by rw [← hY]; exact not_ok X w') ?_
  refine RunF_sound tab_ok noX_local 100 [] _ _ rfl ?_ ?_
  · simp [segsVals, relV_one']
  refine Run.retP tab_ok Try.func14 rfl ?_ (fun M => ?_)
  · simp
  rfl
theorem ext_enters : Enters Try.prog 14 := enters_mk Try.func14 (by decide) rfl
end Go.Proofs.Ytehimiadpgbhmaa

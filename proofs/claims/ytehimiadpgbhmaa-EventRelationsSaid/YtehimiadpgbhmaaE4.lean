/-
  The reference's relations of events: stands, Rel. Own work.
-/
import Derived.Test.YtehimiadpgbhmaaE3
import Derived.Test.YtehimiadpgbhmaaAM20
namespace Go.Proofs.Ytehimiadpgbhmaa
open Go.AM
set_option maxRecDepth 100000

def memR (a b : Ev) : Bool := (wrB a || rdB a) && (wrB b || rdB b)
/-- What the reference says of a pair. -/
def standsB (k i j : Int) (a b : Ev) : Bool :=
  if k = 1 then togB a b && decide (i < j)
  else if k = 2 then memR a b && decide (a.loc = b.loc)
  else if k = 3 then togB a b
  else if k = 4 then !togB a b
  else togB a b && (decide (a.index = b.index) && (rdB a && (wrB b && (a.locked && (b.locked && decide (i < j))))))

theorem cut {C : Ctx} {todo todo' : List Item} {σ : St} (P : St → Prop) (h : (∀ σ, P σ → Run C todo' σ) → Run C todo σ) (h' : ∀ σ, P σ → Run C todo' σ) : Run C todo σ := h h'

theorem stands_ok (p : Option Addr) (c : Nat) (xs : List Ev) (k : Int) (i j : Nat) (hi : i < xs.length) (hj : j < xs.length) (hl : xs.length ≤ 64) (w : World) (hs : SeesV w p xs) :
    Gives Try.prog 25 [.slice p xs.length c, .int .i64 k, .int .i64 i, .int .i64 j] w (.bool (standsB k i j xs[i] xs[j])) := by
  refine Gives.of_run Try.func25 rfl (by show 4 ≤ 100; decide) ?_
  have e1 := (hs i hi).1
  have e2 := hs.ext i hi
  have e3 := hs.some i hi
  have f1 := (hs j hj).1
  have f2 := hs.ext j hj
  have f3 := hs.some j hj
  generalize xs[i] = a at e2
  generalize xs[j] = b at f2
  have a4 := evV_one a
  have b4 := evV_one b
  refine RunF_sound tab_ok noX_local 100 [] _ _ rfl ?_ ?_
  · simp
  refine' cut (todo' := _) (fun σ => ∃ t h n, σ = ⟨t, h, n⟩ ∧ inT t [(1, .v (.int .i64 k)), (2, .v (.int .i64 i)), (3, .v (.int .i64 j)), (8, .tt false), (9, .ptr 0 0), (10, .ptr 1 0)] ∧ inT h [(0, .cells 24 [.vals 5 (evV a)]), (1, .cells 24 [.vals 5 (evV b)])]) ?_ ?_
  rotate_left
  · intro H
    refine Run.drawF noX_local rfl 8 9 rfl [] [] rfl rfl rfl rfl trivial ?_ ?_
    · refine RunOF_sound tab_ok noX_local rfl rfl 100 [] _ _ rfl ?_ ?_
      · simp only [fnC_w0, fnC_S0, Int.toNat_natCast, e2, f2]
        simp [segsVals, a4, b4, inT]
        (repeat' refine And.intro ?_ ?_) <;> first | omega | exact e1 | exact e3 | exact f1 | exact f3
      refine RunO.done ?_
      refine H _ ⟨_, _, _, rfl, ?_, ?_⟩
      · exact ⟨rfl, rfl, rfl, rfl, rfl, rfl, trivial⟩
      · refine ⟨?_, ?_, trivial⟩
        · simp only [fnC_w0, Int.toNat_natCast, e2]; rfl
        · simp only [fnC_w0, Int.toNat_natCast, f2]; rfl
    · refine RunOF_sound tab_ok noX_local rfl rfl 100 [] _ _ rfl ?_ ?_
      · simp only [fnC_w0, fnC_S0, Int.toNat_natCast, e2, f2]
        simp [segsVals, a4, b4, inT]
        (repeat' refine And.intro ?_ ?_) <;> first | omega | exact e1 | exact e3 | exact f1 | exact f3
      refine RunO.done ?_
      refine Run.toR [(0, 1), (1, 0)] (h' := [(0, .cells 24 [.vals 5 (evV a)]), (1, .cells 24 [.vals 5 (evV b)])]) (t' := [(1, .v (.int .i64 k)), (2, .v (.int .i64 i)), (3, .v (.int .i64 j)), (8, .tt false), (9, .ptr 0 0), (10, .ptr 1 0)]) (n' := 2) (H _ ⟨_, _, _, rfl, ⟨rfl, rfl, rfl, rfl, rfl, rfl, trivial⟩, rfl, rfl, trivial⟩) ⟨rfl, rfl, rfl, rfl, rfl, rfl, trivial⟩ ?_ rfl
      refine ⟨?_, ?_, trivial⟩
      · simp only [fnC_w0, Int.toNat_natCast, e2]; rfl
      · simp only [fnC_w0, Int.toNat_natCast, f2]; rfl
  rintro σ ⟨t, h, n, rfl, ht, hh⟩
  refine Run.to ?_ ht hh (n' := 2)
  clear ht hh e1 e2 e3 f1 f2 f3
  refine' Run.join (todo' := _) [(1, .v (.int .i64 k)), (2, .v (.int .i64 i)), (3, .v (.int .i64 j)), (8, .tt false), (9, .ptr 0 0), (10, .ptr 1 0), (11, .tt (togB a b)), (31, .v (encEv a))] [(0, .cells 24 [.vals 5 (evV a)]), (1, .cells 24 [.vals 5 (evV b)])] 2 ?_ ?_
  rotate_left
  · intro H
    by_cases c1 : a.thread = b.thread
    · refine RunF_sound tab_ok noX_local 100 [true] _ _ rfl ?_ ?_
      · simp [c1]
      refine H _ ?_ ?_
      · refine ⟨⟨_, rfl, fun M => rfl⟩, ⟨_, rfl, fun M => rfl⟩, ⟨_, rfl, fun M => rfl⟩, ⟨_, rfl, fun M => rfl⟩, ⟨_, rfl, fun M => rfl⟩, ⟨_, rfl, fun M => rfl⟩, ⟨_, rfl, fun M => ?_⟩, ⟨_, rfl, fun M => ?_⟩, trivial⟩
        · by_cases cb : b.thread = -1 <;> simp [conc, togB, c1, cb]
        · rfl
      · exact ⟨rfl, rfl, trivial⟩
    · refine RunF_sound tab_ok noX_local 100 [false] _ _ rfl ?_ ?_
      · simp [c1]
      refine H _ ?_ ?_
      · refine ⟨⟨_, rfl, fun M => rfl⟩, ⟨_, rfl, fun M => rfl⟩, ⟨_, rfl, fun M => rfl⟩, ⟨_, rfl, fun M => rfl⟩, ⟨_, rfl, fun M => rfl⟩, ⟨_, rfl, fun M => rfl⟩, ⟨_, rfl, fun M => ?_⟩, ⟨_, rfl, fun M => ?_⟩, trivial⟩
        · by_cases cb : b.thread = -1 <;> simp [conc, togB, c1, cb]
        · rfl
      · exact ⟨rfl, rfl, trivial⟩
  refine' Run.join (todo' := _) [(1, .v (.int .i64 k)), (2, .v (.int .i64 i)), (3, .v (.int .i64 j)), (8, .tt false), (9, .ptr 0 0), (10, .ptr 1 0), (11, .tt (togB a b)), (12, .tt (memR a b)), (45, .v (.int .i64 k)), (46, .v (.bool (k == 1)))] [(0, .cells 24 [.vals 5 (evV a)]), (1, .cells 24 [.vals 5 (evV b)])] 2 ?_ ?_
  rotate_left
  · intro H
    refine Run.callFn noX_local rfl rfl rfl rfl rfl rfl rfl write_enters rfl (fun w' _ => write_ok a w') ?_
    by_cases d1 : wrB a = true
    · have _ := d1
      refine RunF_sound tab_ok noX_local 100 [true] _ _ rfl ?_ ?_
      · simp [d1]
      refine Run.callFn noX_local rfl rfl rfl rfl rfl rfl rfl write_enters rfl (fun w' _ => write_ok b w') ?_
      by_cases d3 : wrB b = true
      · have _ := d3
        refine RunF_sound tab_ok noX_local 100 [true] _ _ rfl ?_ ?_
        · simp [d3]
        refine H _ ?_ ?_
        · refine ⟨⟨_, rfl, fun M => rfl⟩, ⟨_, rfl, fun M => rfl⟩, ⟨_, rfl, fun M => rfl⟩, ⟨_, rfl, fun M => rfl⟩, ⟨_, rfl, fun M => rfl⟩, ⟨_, rfl, fun M => rfl⟩, ⟨_, rfl, fun M => rfl⟩, ⟨_, rfl, fun M => ?_⟩, ⟨_, rfl, fun M => rfl⟩, ⟨_, rfl, fun M => rfl⟩, trivial⟩
          simp [conc, memR, d1, d3]
        · exact ⟨rfl, rfl, trivial⟩
      · have _ := d3
        refine RunF_sound tab_ok noX_local 100 [false] _ _ rfl ?_ ?_
        · simp [d3]
        refine Run.callFn noX_local rfl rfl rfl rfl rfl rfl rfl read_enters rfl (fun w' _ => read_ok b w') ?_
        refine RunF_sound tab_ok noX_local 100 [] _ _ rfl ?_ ?_
        · simp
        refine H _ ?_ ?_
        · refine ⟨⟨_, rfl, fun M => rfl⟩, ⟨_, rfl, fun M => rfl⟩, ⟨_, rfl, fun M => rfl⟩, ⟨_, rfl, fun M => rfl⟩, ⟨_, rfl, fun M => rfl⟩, ⟨_, rfl, fun M => rfl⟩, ⟨_, rfl, fun M => rfl⟩, ⟨_, rfl, fun M => ?_⟩, ⟨_, rfl, fun M => rfl⟩, ⟨_, rfl, fun M => rfl⟩, trivial⟩
          simp [conc, memR, d1, d3]
        · exact ⟨rfl, rfl, trivial⟩
    · have _ := d1
      refine RunF_sound tab_ok noX_local 100 [false] _ _ rfl ?_ ?_
      · simp [d1]
      refine Run.callFn noX_local rfl rfl rfl rfl rfl rfl rfl read_enters rfl (fun w' _ => read_ok a w') ?_
      by_cases d2 : rdB a = true
      · have _ := d2
        refine RunF_sound tab_ok noX_local 100 [true] _ _ rfl ?_ ?_
        · simp [d2]
        refine Run.callFn noX_local rfl rfl rfl rfl rfl rfl rfl write_enters rfl (fun w' _ => write_ok b w') ?_
        by_cases d3 : wrB b = true
        · have _ := d3
          refine RunF_sound tab_ok noX_local 100 [true] _ _ rfl ?_ ?_
          · simp [d3]
          refine H _ ?_ ?_
          · refine ⟨⟨_, rfl, fun M => rfl⟩, ⟨_, rfl, fun M => rfl⟩, ⟨_, rfl, fun M => rfl⟩, ⟨_, rfl, fun M => rfl⟩, ⟨_, rfl, fun M => rfl⟩, ⟨_, rfl, fun M => rfl⟩, ⟨_, rfl, fun M => rfl⟩, ⟨_, rfl, fun M => ?_⟩, ⟨_, rfl, fun M => rfl⟩, ⟨_, rfl, fun M => rfl⟩, trivial⟩
            simp [conc, memR, d1, d2, d3]
          · exact ⟨rfl, rfl, trivial⟩
        · have _ := d3
          refine RunF_sound tab_ok noX_local 100 [false] _ _ rfl ?_ ?_
          · simp [d3]
          refine Run.callFn noX_local rfl rfl rfl rfl rfl rfl rfl read_enters rfl (fun w' _ => read_ok b w') ?_
          refine RunF_sound tab_ok noX_local 100 [] _ _ rfl ?_ ?_
          · simp
          refine H _ ?_ ?_
          · refine ⟨⟨_, rfl, fun M => rfl⟩, ⟨_, rfl, fun M => rfl⟩, ⟨_, rfl, fun M => rfl⟩, ⟨_, rfl, fun M => rfl⟩, ⟨_, rfl, fun M => rfl⟩, ⟨_, rfl, fun M => rfl⟩, ⟨_, rfl, fun M => rfl⟩, ⟨_, rfl, fun M => ?_⟩, ⟨_, rfl, fun M => rfl⟩, ⟨_, rfl, fun M => rfl⟩, trivial⟩
            simp [conc, memR, d1, d2, d3]
          · exact ⟨rfl, rfl, trivial⟩
      · have _ := d2
        refine RunF_sound tab_ok noX_local 100 [false] _ _ rfl ?_ ?_
        · simp [d2]
        refine H _ ?_ ?_
        · refine ⟨⟨_, rfl, fun M => rfl⟩, ⟨_, rfl, fun M => rfl⟩, ⟨_, rfl, fun M => rfl⟩, ⟨_, rfl, fun M => rfl⟩, ⟨_, rfl, fun M => rfl⟩, ⟨_, rfl, fun M => rfl⟩, ⟨_, rfl, fun M => rfl⟩, ⟨_, rfl, fun M => ?_⟩, ⟨_, rfl, fun M => rfl⟩, ⟨_, rfl, fun M => rfl⟩, trivial⟩
          simp [conc, memR, d1, d2]
        · exact ⟨rfl, rfl, trivial⟩
  have hk : standsB k i j a b = standsB k i j a b := rfl
  conv at hk => rhs; unfold standsB
  generalize togB a b = T at hk
  generalize memR a b = m at hk
  rw [hk]
  clear hk
  by_cases k1 : k = 1
  · subst k1
    cases T
    · refine RunF_sound tab_ok noX_local 100 [true] _ _ rfl ?_ ?_
      · simp
      refine Run.retP tab_ok Try.func25 rfl trivial (fun M => ?_)
      simp [conc]
    · refine RunF_sound tab_ok noX_local 100 [true] _ _ rfl ?_ ?_
      · simp
      refine Run.retP tab_ok Try.func25 rfl trivial (fun M => ?_)
      simp [conc]
  by_cases k2 : k = 2
  · subst k2
    cases m
    · refine RunF_sound tab_ok noX_local 100 [false, true] _ _ rfl ?_ ?_
      · simp
      refine Run.retP tab_ok Try.func25 rfl trivial (fun M => ?_)
      simp [conc]
      try rfl
    · refine RunF_sound tab_ok noX_local 100 [false, true] _ _ rfl ?_ ?_
      · simp
      refine Run.retP tab_ok Try.func25 rfl trivial (fun M => ?_)
      simp [conc]
      try rfl
  by_cases k3 : k = 3
  · subst k3
    cases T
    · refine RunF_sound tab_ok noX_local 100 [false, false, true] _ _ rfl ?_ ?_
      · simp
      refine Run.retP tab_ok Try.func25 rfl trivial (fun M => ?_)
      simp [conc]
    · refine RunF_sound tab_ok noX_local 100 [false, false, true] _ _ rfl ?_ ?_
      · simp
      refine Run.retP tab_ok Try.func25 rfl trivial (fun M => ?_)
      simp [conc]
  by_cases k4 : k = 4
  · subst k4
    cases T
    · refine RunF_sound tab_ok noX_local 100 [false, false, false, true] _ _ rfl ?_ ?_
      · simp
      refine Run.retP tab_ok Try.func25 rfl trivial (fun M => ?_)
      simp [conc]
    · refine RunF_sound tab_ok noX_local 100 [false, false, false, true] _ _ rfl ?_ ?_
      · simp
      refine Run.retP tab_ok Try.func25 rfl trivial (fun M => ?_)
      simp [conc]
  cases T
  · refine RunF_sound tab_ok noX_local 100 [false, false, false, false] _ _ rfl ?_ ?_
    · simp [k1, k2, k3, k4]
    refine Run.retP tab_ok Try.func25 rfl trivial (fun M => ?_)
    simp [conc, k1, k2, k3, k4]
  by_cases x1 : a.index = b.index
  rotate_left
  · refine RunF_sound tab_ok noX_local 100 [false, false, false, false, false] _ _ rfl ?_ ?_
    · simp [k1, k2, k3, k4, x1]
    refine Run.retP tab_ok Try.func25 rfl trivial (fun M => ?_)
    simp [conc, k1, k2, k3, k4, x1]
  refine RunF_sound tab_ok noX_local 100 [false, false, false, false, true] _ _ rfl ?_ ?_
  · simp [k1, k2, k3, k4, x1]
  refine Run.callFn noX_local rfl rfl rfl rfl rfl rfl rfl read_enters rfl (fun w' _ => read_ok a w') ?_
  by_cases x2 : rdB a = true
  rotate_left
  · refine RunF_sound tab_ok noX_local 100 [false] _ _ rfl ?_ ?_
    · simp [x2]
    refine Run.retP tab_ok Try.func25 rfl trivial (fun M => ?_)
    simp [conc, k1, k2, k3, k4, x1, x2]
  refine RunF_sound tab_ok noX_local 100 [true] _ _ rfl ?_ ?_
  · simp [x2]
  refine Run.callFn noX_local rfl rfl rfl rfl rfl rfl rfl write_enters rfl (fun w' _ => write_ok b w') ?_
  by_cases x3 : wrB b = true
  rotate_left
  · refine RunF_sound tab_ok noX_local 100 [false] _ _ rfl ?_ ?_
    · simp [x3]
    refine Run.retP tab_ok Try.func25 rfl trivial (fun M => ?_)
    simp [conc, k1, k2, k3, k4, x1, x2, x3]
  by_cases x4 : a.locked = true
  rotate_left
  · refine RunF_sound tab_ok noX_local 100 [true, false] _ _ rfl ?_ ?_
    · simp [x3, x4]
    refine Run.retP tab_ok Try.func25 rfl trivial (fun M => ?_)
    simp [conc, k1, k2, k3, k4, x1, x2, x3, x4]
  by_cases x5 : b.locked = true
  rotate_left
  · refine RunF_sound tab_ok noX_local 100 [true, true, false] _ _ rfl ?_ ?_
    · simp [x3, x4, x5]
    refine Run.retP tab_ok Try.func25 rfl trivial (fun M => ?_)
    simp [conc, k1, k2, k3, k4, x1, x2, x3, x4, x5]
  refine RunF_sound tab_ok noX_local 100 [true, true, true] _ _ rfl ?_ ?_
  · simp [x3, x4, x5]
  refine Run.retP tab_ok Try.func25 rfl trivial (fun M => ?_)
  simp [conc, k1, k2, k3, k4, x1, x2, x3, x4, x5]
theorem stands_enters : Enters Try.prog 25 := enters_mk Try.func25 (by decide) rfl

def standsL (k : Int) (xs : List Ev) : Rl := pairsL (fun i j a b => standsB k i j a b) xs

theorem refRel_ok (k : Int) (p : Option Addr) (c : Nat) (xs : List Ev) (w : World) (hs : SeesV w p xs) :
    Gives Try.prog 11 [.slice p xs.length c, .int .i64 k] w (encRel (standsL k xs)) := by
  refine Gives.of_run Try.func11 rfl (by show 2 ≤ 42; decide) ?_
  refine RunF_sound tab_ok noX_local 100 [] _ _ rfl ?_ ?_
  · simp
  refine Run.callFn noX_local rfl rfl rfl rfl rfl rfl rfl shortR_enters rfl (fun w' _ => shortR_ok p c xs w') ?_
  obtain ⟨p', c', e1, hs'⟩ := short_form c hs
  have hle := shortL_le xs
  rw [e1]
  unfold standsL pairsL
  generalize shortL xs = L at hs' hle
  have hlt := @atB_lt (fun i j a b => standsB k i j a b) L
  have hat := fun x y hx hy => @atB_at (fun i j a b => standsB k i j a b) L x y hx hy
  generalize hq : atB (fun i j a b => standsB k i j a b) L = q at hlt hat
  refine RunF_sound tab_ok noX_local 100 [] _ _ rfl ?_ ?_
  · simp [fillL, Value.cells, segsVals, relV_tail_one, splice]
    rfl
  suffices H : ∀ (d i : Nat), i + d = L.length → ∀ σ, inT σ.t [(0, .v (.slice p' L.length c')), (1, .v (.int .i64 k)), (4, .ptr 0 0), (5, .ptr 1 0), (6, .v (.int .i64 (i : Int)))] →
      inT σ.h [(0, .cells 33 [.vals 65 (relV (Rl.void 0))]), (1, .cells 33 [.vals 65 (relV (Rl.gen (L.length : Int) (Rl.seen q i 0)))])] → Run _ _ σ by
    refine H L.length 0 (by omega) _ ⟨rfl, rfl, rfl, rfl, rfl, trivial⟩ ⟨rfl, ?_, trivial⟩
    rw [Rl.seen_0]; rfl
  intro d
  induction d with
  | zero =>
    intro i hi σ ht hh
    refine Run.to ?_ ht hh (n' := 12)
    refine RunF_sound tab_ok noX_local 100 [false] _ _ rfl ?_ ?_
    · simp [segsVals, relV_one']; omega
    refine Run.retP tab_ok Try.func11 rfl ?_ (fun M => ?_)
    · simp
    rw [Rl.seen_all (fun x y h => by have := hlt h; omega)]; rfl
  | succ d ih =>
    intro i hi σ ht hh
    refine Run.to ?_ ht hh (n' := 12)
    have hil : i < L.length := by omega
    refine RunF_sound tab_ok noX_local 100 [true] _ _ rfl ?_ ?_
    · simp; omega
    suffices H2 : ∀ (e j : Nat), j + e = L.length → ∀ σ, inT σ.t [(0, .v (.slice p' L.length c')), (1, .v (.int .i64 k)), (4, .ptr 0 0), (5, .ptr 1 0), (6, .v (.int .i64 (i : Int))), (7, .v (.int .i64 (j : Int)))] →
        inT σ.h [(0, .cells 33 [.vals 65 (relV (Rl.void 0))]), (1, .cells 33 [.vals 65 (relV (Rl.gen (L.length : Int) (Rl.seen q i j)))])] → Run _ _ σ by
      exact H2 L.length 0 (by omega) _ ⟨rfl, rfl, rfl, rfl, rfl, rfl, trivial⟩ ⟨rfl, rfl, trivial⟩
    intro e
    induction e with
    | zero =>
      intro j hj σ ht hh
      refine Run.to ?_ ht hh (n' := 13)
      refine RunF_sound tab_ok noX_local 100 [false] _ _ rfl ?_ ?_
      · simp; omega
      rw [Rl.seen_row (fun x y h => by have := hlt h; omega)]
      exact ih (i + 1) (by omega) _ ⟨rfl, rfl, rfl, rfl, i64_eq (wrap_succ (by omega)), trivial⟩ ⟨rfl, rfl, trivial⟩
    | succ e ihe =>
      intro j hj σ ht hh
      refine Run.to ?_ ht hh (n' := 13)
      have hjl : j < L.length := by omega
      have hi' : i < 64 := by omega
      have hqe : q i j = standsB k i j L[i] L[j] := hat i j hil hjl
      refine RunF_sound tab_ok noX_local 100 [true] _ _ rfl ?_ ?_
      · simp; omega
      refine Run.callFn noX_local rfl rfl rfl rfl rfl rfl rfl stands_enters rfl (r := .bool (standsB k i j L[i] L[j])) (fun w' hA => ?_) ?_
      · exact stands_ok p' c' L k i j hil hjl hle w' (hs'.agree hA (fun _ _ h => h))
      by_cases ct : standsB k i j L[i] L[j] = true
      · refine RunF_sound tab_ok noX_local 100 [true] _ _ rfl ?_ ?_
        · simp [ct, wrapn j (by omega), relV_get _ _ hi', intAt_row _ _ hi', okCell, Value.oneCell']; omega
        refine ihe (j + 1) (by omega) _ ⟨rfl, rfl, rfl, rfl, rfl, i64_eq (wrap_succ (by omega)), trivial⟩ ⟨rfl, congrArg (fun l => some (Blk.cells 33 [.vals 65 l])) ?_, trivial⟩
        simp [intAt_row _ _ hi', wrapn j (by omega), shl1_un, relV_set _ _ hi', Rl.seen_yes hi' (show j < 64 by omega) (show q i j = true by rw [hqe, ct])]
      · refine RunF_sound tab_ok noX_local 100 [false] _ _ rfl ?_ ?_
        · simpa using ct
        refine ihe (j + 1) (by omega) _ ⟨rfl, rfl, rfl, rfl, rfl, i64_eq (wrap_succ (by omega)), trivial⟩ ⟨rfl, ?_, trivial⟩
        rw [← Rl.seen_no (by rw [hqe]; simpa using ct)]; rfl
theorem refRel_enters : Enters Try.prog 11 := enters_mk Try.func11 (by decide) rfl

/-! ### What is said here and there is the same. -/
theorem pairsL_congr {T T' : Int → Int → Ev → Ev → Bool} (h : ∀ i j a b, T i j a b = T' i j a b) (xs : List Ev) : pairsL T xs = pairsL T' xs := by
  have : T = T' := by funext i j a b; exact h i j a b
  rw [this]

theorem mem_eq (e : Ev) : memB e = (wrB e || rdB e) := by
  unfold memB wrB rdB
  rw [Bool.eq_iff_iff]; simp; omega

theorem eqPo (xs : List Ev) : pairsL (fun i k a b => decide (i < k) && togB a b) xs = standsL 1 xs :=
  pairsL_congr (fun i j a b => by rw [standsB, if_pos rfl, Bool.and_comm]) xs
theorem eqLoc (xs : List Ev) : pairsL (fun _ _ a b => (memB a && memB b) && decide (a.loc = b.loc)) xs = standsL 2 xs :=
  pairsL_congr (fun i j a b => by rw [standsB, if_neg (by decide), if_pos rfl, memR, mem_eq, mem_eq]) xs
theorem eqInt (xs : List Ev) : pairsL (fun _ _ a b => togB a b) xs = standsL 3 xs :=
  pairsL_congr (fun i j a b => by rw [standsB, if_neg (by decide), if_neg (by decide), if_pos rfl]) xs
theorem eqRmw (xs : List Ev) : pairsL rmwB xs = standsL 5 xs :=
  pairsL_congr (fun i j a b => by
    rw [standsB, if_neg (by decide), if_neg (by decide), if_neg (by decide), if_neg (by decide)]
    unfold rmwB rdB wrB
    rw [Bool.eq_iff_iff]; simp; constructor
    · rintro ⟨⟨⟨⟨⟨⟨h1, h2⟩, h3⟩, h4⟩, h5⟩, h6⟩, h7⟩; exact ⟨h2, h3, h6, h7.symm, h4, h5, h1⟩
    · rintro ⟨h2, h3, h6, h7, h4, h5, h1⟩; exact ⟨⟨⟨⟨⟨⟨h1, h2⟩, h3⟩, h4⟩, h5⟩, h6⟩, h7.symm⟩) xs
end Go.Proofs.Ytehimiadpgbhmaa

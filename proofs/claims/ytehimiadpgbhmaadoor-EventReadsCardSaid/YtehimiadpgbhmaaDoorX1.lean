/-
  Rf, here and in the reference. Own work.
-/
import Derived.Test.YtehimiadpgbhmaaDoorX0
namespace Go.Proofs.YtehimiadpgbhmaaDoor
open Go.AM
set_option maxRecDepth 100000

@[simp] theorem xV_len (x : Xn) : (xV x).length = 5 := rfl
@[simp] theorem intAt_cons (k : IntKind) (n : Int) (l : List Value) : intAt (.int k n :: l) 0 = n := rfl

theorem rfP_n (n : Int) (fr : List Int) (k : Nat) : (rfP n fr k).n = n := by unfold rfP; exact Rl.n_gen _ _

theorem map_add0 (p : Option Addr) : p.map (fun x => x.add 0) = p := by cases p <;> simp [AM.add_zero]

theorem rf_ok (x : Xn) (w : World) (hX : SeesX w x) : Gives Tryd.prog 6 [encX x] w (encRel (rfL (shortL x.ev).length x.from_)) := by
  refine Gives.of_run Tryd.func6 rfl (by show 1 ≤ 45; decide) ?_
  have hone := xV_one hX.one1 hX.one4
  refine RunF_sound tab_ok noX_local 200 [] _ _ rfl ?_ ?_
  · simp [segsVals, relV_one', hone]
  refine Run.callFn noX_local rfl rfl rfl rfl rfl rfl rfl short_enters rfl (fun w' _ => short_ok x.pe x.ce x.ev w') ?_
  obtain ⟨p', c', e1, _⟩ := short_form x.ce hX.ev
  have hle := shortL_le x.ev
  rw [e1]
  generalize (shortL x.ev).length = n at hle
  have hcap := hX.cap
  have hlf := hX.lf
  have hcells := hX.from_
  refine RunF_sound tab_ok noX_local 200 [] _ _ rfl ?_ ?_
  · simp [fillL, Value.cells, segsVals, relV_one', relV_tail_one, splice]
    (repeat' refine And.intro ?_ ?_) <;> (try split) <;> omega
  obtain ⟨m, hm⟩ : ∃ m : Nat, m = min n x.from_.length := ⟨_, rfl⟩
  have hm2 : (if (x.from_.length : Int) < (n : Int) then (x.from_.length : Int) else (n : Int)) = (m : Int) := by split <;> omega
  suffices H : ∀ (d k : Nat), k + d = m → ∀ σ, inT σ.t [(2, .ptr 1 0), (3, .ptr 2 0), (19, .v (.slice x.pf m x.cf)), (20, .v (.int .i64 (m : Int))), (21, .v (.int .i64 (k : Int)))] →
      inT σ.h [(1, .cells 32 [.vals 65 (relV (Rl.void 0))]), (2, .cells 32 [.vals 65 (relV (rfP n x.from_ k))])] → Run _ _ σ by
    refine H m 0 (by omega) _ ⟨rfl, rfl, ?_, ?_, rfl, trivial⟩ ⟨rfl, ?_, trivial⟩
    · have e2 : ∀ z : Int, z = (m : Int) → some (AV.v (Value.slice (x.pf.map (fun a => a.add 0)) z.toNat x.cf)) = some (AV.v (Value.slice x.pf m x.cf)) := fun z hz => by rw [hz, map_add0]; rfl
      exact e2 _ hm2
    · have e3 : ∀ z : Int, z = (m : Int) → some (AV.v (Value.int .i64 (z.toNat : Int))) = some (AV.v (Value.int .i64 (m : Int))) := fun z hz => by rw [hz, Int.toNat_natCast]
      exact e3 _ hm2
    · rw [rfP_0]; rfl
  intro d
  induction d with
  | zero =>
    intro k hk σ ht hh
    refine Run.to ?_ ht hh (n' := 3)
    refine RunF_sound tab_ok noX_local 100 [false] _ _ rfl ?_ ?_
    · simp [relV_one', segsVals]; omega
    · refine Run.retP tab_ok Tryd.func6 rfl ?_ (fun M => ?_)
      · simp
      rw [rfL, ← hm, show m = k by omega]; rfl
  | succ d ih =>
    intro k hk σ ht hh
    refine Run.to ?_ ht hh (n' := 3)
    have hkl : k < x.from_.length := by omega
    have hk' : k < 64 := by omega
    obtain ⟨f1, f2⟩ := hcells k hkl
    have hget : x.from_[k]? = some x.from_[k] := List.getElem?_eq_getElem hkl
    generalize x.from_[k] = v at f2 hget
    have hnN : ∀ j, (rfP n x.from_ j).n = (n : Int) := fun j => rfP_n _ _ _
    by_cases c1 : v ≥ 0
    · obtain ⟨u, rfl⟩ := Int.eq_ofNat_of_zero_le c1
      by_cases c2 : (u : Int) < n
      · have hu : u < 64 := by omega
        refine RunF_sound tab_ok noX_local 100 [true, true, true] _ _ rfl ?_ ?_
        · simp only [fnC_w0, fnC_S0, Int.toNat_natCast, Nat.mul_one, f2]
          simp [hnN, c2]
          (repeat' refine And.intro ?_ ?_) <;> first | omega | exact f1
        simp only [fnC_w0, Int.toNat_natCast, Nat.mul_one, f2]
        refine Run.drawA noX_local rfl [] [(2, .cells 32 [.vals 65 (relV (rfP n x.from_ k))])] rfl rfl ⟨rfl, trivial⟩ ?_
        refine RunOF_sound tab_ok noX_local rfl rfl 9 [] _ _ rfl ?_ ?_
        · simp [relV_get _ _ hu, intAt_row _ _ hu, okCell, Value.oneCell', inT, lk]; omega
        refine RunO.effLast tab_ok noX_local rfl rfl rfl rfl ?_ (fun e => by cases e) rfl ?_
        · simp [okCell, Value.oneCell']; omega
        refine RunF_sound tab_ok noX_local 100 [] _ _ rfl ?_ ?_
        · simp
        refine ih (k + 1) (by omega) _ ⟨rfl, rfl, rfl, rfl, i64_eq (wrap_succ (by omega)), trivial⟩ ⟨rfl, congrArg (fun l => some (Blk.cells 32 [.vals 65 l])) ?_, trivial⟩
        have e1 : intAt (relV (rfP n x.from_ k)) (1 + u) = un ((rfP n x.from_ k).row u) := intAt_row _ _ hu
        simp [e1, shl1_un, relV_set _ _ hu, rfP_yes hk' hu c2 hget]
      · refine RunF_sound tab_ok noX_local 100 [true, true, false] _ _ rfl ?_ ?_
        · simp only [fnC_w0, fnC_S0, Int.toNat_natCast, Nat.mul_one, f2]
          simp [hnN]
          (repeat' refine And.intro ?_ ?_) <;> first | omega | exact f1
        refine ih (k + 1) (by omega) _ ⟨rfl, rfl, rfl, rfl, i64_eq (wrap_succ (by omega)), trivial⟩ ⟨rfl, ?_, trivial⟩
        rw [← rfP_no (fun z hz h => by rw [hget] at h; cases h; exact c2 hz)]; rfl
    · refine RunF_sound tab_ok noX_local 100 [true, false] _ _ rfl ?_ ?_
      · simp only [fnC_w0, fnC_S0, Int.toNat_natCast, Nat.mul_one, f2]
        simp
        (repeat' refine And.intro ?_ ?_) <;> first | omega | exact f1
      refine ih (k + 1) (by omega) _ ⟨rfl, rfl, rfl, rfl, i64_eq (wrap_succ (by omega)), trivial⟩ ⟨rfl, ?_, trivial⟩
      rw [← rfP_no (fun z hz h => by rw [hget] at h; cases h; exact c1 (Int.natCast_nonneg _))]; rfl
theorem rf_enters : Enters Tryd.prog 6 := enters_mk Tryd.func6 (by decide) rfl

theorem wrapn (k : Nat) (h : k < 9223372036854775808) : IntKind.u64.wrap (k : Int) = (k : Int) := wrap_u64 (by omega) (by omega)

theorem rfR_ok (x : Xn) (w : World) (hX : SeesX w x) : Gives Tryd.prog 7 [encX x] w (encRel (rfL (shortL x.ev).length x.from_)) := by
  refine Gives.of_run Tryd.func7 rfl (by show 1 ≤ 59; decide) ?_
  have hone := xV_one hX.one1 hX.one4
  refine RunF_sound tab_ok noX_local 200 [] _ _ rfl ?_ ?_
  · simp [segsVals, relV_one', hone]
  refine Run.callFn noX_local rfl rfl rfl rfl rfl rfl rfl shortR_enters rfl (fun w' _ => shortR_ok x.pe x.ce x.ev w') ?_
  obtain ⟨p', c', e1, _⟩ := short_form x.ce hX.ev
  have hle := shortL_le x.ev
  rw [e1]
  generalize (shortL x.ev).length = n at hle
  have hlf := hX.lf
  have hcells := hX.from_
  refine RunF_sound tab_ok noX_local 200 [] _ _ rfl ?_ ?_
  · simp [fillL, Value.cells, segsVals, relV_one', relV_tail_one, splice]
    try rfl
  obtain ⟨m, hm⟩ : ∃ m : Nat, m = min n x.from_.length := ⟨_, rfl⟩
  suffices H : ∀ (d k : Nat), k + d = m → ∀ σ, inT σ.t [(1, .ptr 0 0), (2, .ptr 1 0), (3, .v (.int .i64 (n : Int))), (4, .ptr 2 0), (5, .v (.int .i64 (k : Int)))] →
      inT σ.h [(0, .cells 28 [.vals 5 (xV x)]), (1, .cells 32 [.vals 65 (relV (Rl.void 0))]), (2, .cells 32 [.vals 65 (relV (rfP n x.from_ k))])] → Run _ _ σ by
    refine H m 0 (by omega) _ ⟨rfl, rfl, rfl, rfl, rfl, trivial⟩ ⟨rfl, rfl, ?_, trivial⟩
    rw [rfP_0]; rfl
  intro d
  induction d with
  | zero =>
    intro k hk σ ht hh
    refine Run.to ?_ ht hh (n' := 3)
    have hkm : k = m := by omega
    by_cases c : k < n
    · have c2 : ¬ k < x.from_.length := by omega
      refine RunF_sound tab_ok noX_local 100 [true, false] _ _ rfl ?_ ?_
      · simp [relV_one', segsVals]; omega
      refine Run.retP tab_ok Tryd.func7 rfl ?_ (fun M => ?_)
      · simp
      rw [rfL, ← hm, ← hkm]; rfl
    · refine RunF_sound tab_ok noX_local 100 [false] _ _ rfl ?_ ?_
      · simp [relV_one', segsVals]; omega
      refine Run.retP tab_ok Tryd.func7 rfl ?_ (fun M => ?_)
      · simp
      rw [rfL, ← hm, ← hkm]; rfl
  | succ d ih =>
    intro k hk σ ht hh
    refine Run.to ?_ ht hh (n' := 3)
    have hkl : k < x.from_.length := by omega
    have hkn : k < n := by omega
    have hk' : k < 64 := by omega
    obtain ⟨f1, f2⟩ := hcells k hkl
    have hget : x.from_[k]? = some x.from_[k] := List.getElem?_eq_getElem hkl
    generalize x.from_[k] = v at f2 hget
    by_cases c1 : v ≥ 0
    · obtain ⟨u, rfl⟩ := Int.eq_ofNat_of_zero_le c1
      by_cases c2 : (u : Int) < n
      · have hu : u < 64 := by omega
        refine RunF_sound tab_ok noX_local 200 [true, true, true, true] _ _ rfl ?_ ?_
        · simp only [fnC_w0, fnC_S0, Int.toNat_natCast, Nat.mul_one]
          simp [f2, c2]
          (repeat' refine And.intro ?_ ?_) <;> first | omega | exact f1
        refine Run.drawA noX_local rfl [] [(0, .cells 28 [.vals 5 (xV x)]), (2, .cells 32 [.vals 65 (relV (rfP n x.from_ k))])] rfl rfl ⟨rfl, rfl, trivial⟩ ?_
        have e1 : intAt (relV (rfP n x.from_ k)) (1 + u) = un ((rfP n x.from_ k).row u) := intAt_row _ _ hu
        refine RunOF_sound tab_ok noX_local rfl rfl 19 [] _ _ rfl ?_ ?_
        · simp only [fnC_w0, fnC_S0, Int.toNat_natCast, Nat.mul_one]
          simp [f2, relV_get _ _ hu, intAt_row _ _ hu, okCell, Value.oneCell', inT, lk, wrapn k (by omega)]
          (repeat' refine And.intro ?_ ?_) <;> first | omega | exact f1
        refine RunO.effLast tab_ok noX_local rfl rfl rfl rfl ?_ (fun e => by cases e) rfl ?_
        · simp only [fnC_w0, fnC_S0, Int.toNat_natCast, Nat.mul_one]
          simp [okCell, Value.oneCell', f2]; omega
        refine RunF_sound tab_ok noX_local 100 [] _ _ rfl ?_ ?_
        · simp
        refine ih (k + 1) (by omega) _ ⟨rfl, rfl, rfl, rfl, i64_eq (wrap_succ (by omega)), trivial⟩ ⟨rfl, rfl, congrArg (fun l => some (Blk.cells 32 [.vals 65 l])) ?_, trivial⟩
        simp [f2, e1, wrapn k (by omega), shl1_un, relV_set _ _ hu, rfP_yes hk' hu c2 hget]
      · refine RunF_sound tab_ok noX_local 200 [true, true, true, false] _ _ rfl ?_ ?_
        · simp only [fnC_w0, fnC_S0, Int.toNat_natCast, Nat.mul_one]
          simp [f2]
          (repeat' refine And.intro ?_ ?_) <;> first | omega | exact f1
        refine ih (k + 1) (by omega) _ ⟨rfl, rfl, rfl, rfl, i64_eq (wrap_succ (by omega)), trivial⟩ ⟨rfl, rfl, ?_, trivial⟩
        rw [← rfP_no (fun z hz h => by rw [hget] at h; cases h; exact c2 hz)]; rfl
    · refine RunF_sound tab_ok noX_local 200 [true, true, false] _ _ rfl ?_ ?_
      · simp only [fnC_w0, fnC_S0, Int.toNat_natCast, Nat.mul_one]
        simp [f2]
        (repeat' refine And.intro ?_ ?_) <;> first | omega | exact f1
      refine ih (k + 1) (by omega) _ ⟨rfl, rfl, rfl, rfl, i64_eq (wrap_succ (by omega)), trivial⟩ ⟨rfl, rfl, ?_, trivial⟩
      rw [← rfP_no (fun z hz h => by rw [hget] at h; cases h; exact c1 (Int.natCast_nonneg _))]; rfl
theorem rfR_enters : Enters Tryd.prog 7 := enters_mk Tryd.func7 (by decide) rfl
end Go.Proofs.YtehimiadpgbhmaaDoor

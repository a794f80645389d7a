/-
  Own work, merged: J1, J2, T11, E3, T12, AM33, AM34, AM37, AM38, AM39, AM40, AM29, T13, S2.
-/
import Derived.AtR
import Derived.Below
import Derived.ChangeKeysEq
import Derived.KernelRfl
import Derived.Laws.AppendOwn
import Derived.Laws.BytesString
import Derived.Laws.Cells
import Derived.Laws.CopyRow
import Derived.Laws.Entries
import Derived.Laws.Rows
import Derived.Laws.Small
import Derived.Laws.StructEq
import Derived.Lib.TrailingZeros
import Derived.Maps.AppendAt
import Derived.Orders
import Derived.RangeFuncRecord
import Derived.Shelf.Lay
import Derived.Shelf.Strconv.Itoa3
import Derived.Test.YtehimiadpgbhmaaDoorChecked
import Derived.Test.YtehimiadpgbhmaaDoorProg
import Derived.Test.YtehimiadpgbhmaaDoorQ2C3CE4
/-
  strconv.Itoa: the shelf's contracts laid here, with this seat's numbers. Own work; printed by a program of our own (tools/gen_lays.py).
-/
namespace Go.Proofs
open Go.Shelf
def Tryd.lays171_ren : Go.Shelf.Ren := ⟨fun | 171 => 49 | 243 => 56 | 246 => 60 | 283 => 61 | 284 => 62 | 285 => 63 | 286 => 64 | 129 => 66 | 317 => 65 | 318 => 67 | 319 => 68 | 320 => 69 | 337 => 70 | 338 => 54 | n => n, fun | 3 => 3 | 9 => 9 | 2 => 2 | 4 => 4 | 171 => 96 | 0 => 0 | 53 => 29 | 37 => 98 | 5 => 5 | 173 => 99 | 212 => 103 | 51 => 104 | 20 => 20 | 213 => 105 | 46 => 46 | 232 => 109 | 233 => 94 | n => n, fun | 17 => 1 | 18 => 2 | 19 => 0 | n => n⟩
theorem Tryd.lays171 : Lays.n171 Tryd.prog Tryd.lays171_ren where
  mixed := by kernel_rfl
  f129 := Tryd.func66.trans (congrArg some (by kernel_rfl))
  f171 := Tryd.func49.trans (congrArg some (by kernel_rfl))
  f243 := Tryd.func56.trans (congrArg some (by kernel_rfl))
  f246 := Tryd.func60.trans (congrArg some (by kernel_rfl))
  f283 := Tryd.func61.trans (congrArg some (by kernel_rfl))
  f284 := Tryd.func62.trans (congrArg some (by kernel_rfl))
  f285 := Tryd.func63.trans (congrArg some (by kernel_rfl))
  f286 := Tryd.func64.trans (congrArg some (by kernel_rfl))
  f317 := Tryd.func65.trans (congrArg some (by kernel_rfl))
  f318 := Tryd.func67.trans (congrArg some (by kernel_rfl))
  f319 := Tryd.func68.trans (congrArg some (by kernel_rfl))
  f320 := Tryd.func69.trans (congrArg some (by kernel_rfl))
  f337 := Tryd.func70.trans (congrArg some (by kernel_rfl))
  f338 := Tryd.func54.trans (congrArg some (by kernel_rfl))
  t0 := Tryd.underlying0
  a0 := Tryd.isAgg0
  z0 := Tryd.sizeOf0
  v0 := Tryd.zeroValue0
  t2 := Tryd.underlying2
  a2 := Tryd.isAgg2
  z2 := Tryd.sizeOf2
  v2 := Tryd.zeroValue2
  t3 := Tryd.underlying3
  a3 := Tryd.isAgg3
  z3 := Tryd.sizeOf3
  v3 := Tryd.zeroValue3
  t4 := Tryd.underlying4
  a4 := Tryd.isAgg4
  z4 := Tryd.sizeOf4
  v4 := Tryd.zeroValue4
  t5 := Tryd.underlying5
  a5 := Tryd.isAgg5
  z5 := Tryd.sizeOf5
  v5 := Tryd.zeroValue5
  t9 := Tryd.underlying9
  a9 := Tryd.isAgg9
  z9 := Tryd.sizeOf9
  v9 := Tryd.zeroValue9
  t20 := Tryd.underlying20
  a20 := Tryd.isAgg20
  z20 := Tryd.sizeOf20
  v20 := Tryd.zeroValue20
  t37 := Tryd.underlying98
  a37 := Tryd.isAgg98
  z37 := Tryd.sizeOf98
  v37 := Tryd.zeroValue98
  t46 := Tryd.underlying46
  a46 := Tryd.isAgg46
  z46 := Tryd.sizeOf46
  v46 := Tryd.zeroValue46
  t51 := Tryd.underlying104
  a51 := Tryd.isAgg104
  z51 := Tryd.sizeOf104
  v51 := Tryd.zeroValue104
  t53 := Tryd.underlying29
  a53 := Tryd.isAgg29
  z53 := Tryd.sizeOf29
  v53 := Tryd.zeroValue29
  t171 := Tryd.underlying96
  a171 := Tryd.isAgg96
  z171 := Tryd.sizeOf96
  v171 := Tryd.zeroValue96
  t173 := Tryd.underlying99
  a173 := Tryd.isAgg99
  z173 := Tryd.sizeOf99
  v173 := Tryd.zeroValue99
  t212 := Tryd.underlying103
  a212 := Tryd.isAgg103
  z212 := Tryd.sizeOf103
  v212 := Tryd.zeroValue103
  t213 := Tryd.underlying105
  a213 := Tryd.isAgg105
  z213 := Tryd.sizeOf105
  t232 := Tryd.underlying109
  a232 := Tryd.isAgg109
  z232 := Tryd.sizeOf109
  v232 := Tryd.zeroValue109
  t233 := Tryd.underlying94
  a233 := Tryd.isAgg94
  z233 := Tryd.sizeOf94
  v233 := Tryd.zeroValue94
  g17 := by kernel_rfl
  g18 := by kernel_rfl
  g19 := by kernel_rfl
end Go.Proofs

/-
  strconv.Itoa, as our calls know it. Own work.
-/
namespace Go.Proofs.YtehimiadpgbhmaaDoor
open Go.AM
set_option maxRecDepth 100000

theorem itoa_ok (i : Nat) (hi : i < 100) (w : World) : Gives Tryd.prog 49 [.int .i64 (i : Int)] w (.string ⟨(Lib.decDigits i).toArray⟩) :=
  Calls.mono' (Any.strconv_Itoa_small Tryd.lays171 i hi w) fun e w' ⟨h1, h2⟩ => ⟨h1, by rw [h2]; exact Agree.refl _ _⟩
theorem itoa_enters : Enters Tryd.prog 49 := enters_mk Tryd.func49 (by decide) rfl
end Go.Proofs.YtehimiadpgbhmaaDoor

/-
  The text of one event. Own work.
-/
namespace Go.Proofs.YtehimiadpgbhmaaDoor
open Go.AM
set_option maxRecDepth 100000

def sX : ByteArray := ⟨#[120]⟩
def evW : Ev := ⟨2, 0, 0, 0, true⟩
theorem text_ok (p : Pn) (w : World) (hP : SeesP w p) (h : p.locs = [sX]) : Gives Tryd.prog 30 [encP p, encEv evW] w (.string ⟨#[48, 58, 48, 58, 87, 120, 42]⟩) := by
  refine Gives.of_run Tryd.func30 rfl (by show 2 ≤ 63; decide) ?_
  have hone := pV_one p
  have hone2 := evV_one evW
  have hl : p.locs.length = 1 := by rw [h]; rfl
  obtain ⟨hpl, hc⟩ := hP.locs 0 (by omega)
  have h0 : p.locs[0] = sX := by simp [h]
  rw [h0] at hc
  have hc0 : w.cell? ((p.pl.getD default).add 0) = some (.string sX) := hc
  refine RunF_sound tab_ok noX_local 200 [true, true, true] _ _ rfl ?_ ?_
  · simp [hl, evW, hc]
    exact ⟨hpl, by decide⟩
  refine Run.toC (t' := [(2, .ptr 0 0), (3, .ptr 1 0), (5, .v (.string sX))]) (h' := [(0, .cells 39 [.vals 5 (pV p)]), (1, .cells 52 [.vals 5 (evV evW)])]) (n' := 2) ?_ ⟨inTC_same rfl, inTC_same rfl, ⟨_, rfl, fun M => ?_⟩, trivial⟩ ⟨rfl, rfl, trivial⟩
  rotate_left
  · simp [conc, hc, evW]
  refine Run.drawA noX_local rfl [] [(0, .cells 39 [.vals 5 (pV p)]), (1, .cells 52 [.vals 5 (evV evW)])] rfl rfl ⟨rfl, rfl, trivial⟩ ?_
  refine RunOF_sound tab_ok noX_local rfl rfl 400 [] _ _ rfl ?_ ?_
  · simp
  refine RunO.callFn (r := .string ⟨#[48]⟩) noX_local rfl rfl rfl rfl rfl rfl rfl rfl itoa_enters rfl (fun w' _ => by have h := itoa_ok 0 (by decide) w'; rw [show Lib.decDigits 0 = [48] by unfold Lib.decDigits; rfl] at h; exact h) ?_
  refine RunOF_sound tab_ok noX_local rfl rfl 400 [] _ _ rfl ?_ ?_
  · decide
  refine RunO.callFn (r := .string ⟨#[48]⟩) noX_local rfl rfl rfl rfl rfl rfl rfl rfl itoa_enters rfl (fun w' _ => by have h := itoa_ok 0 (by decide) w'; rw [show Lib.decDigits 0 = [48] by unfold Lib.decDigits; rfl] at h; exact h) ?_
  refine RunOF_sound tab_ok noX_local rfl rfl 400 [] _ _ rfl ?_ ?_
  · decide
  refine RunO.done ?_
  refine RunF_sound tab_ok noX_local 200 [false, true, true] _ _ rfl ?_ ?_
  · refine ⟨trivial, rfl, rfl, trivial, rfl, rfl, trivial, rfl, trivial, trivial, by decide, by decide, trivial, trivial, rfl, rfl, trivial, by decide, trivial, trivial, trivial, trivial⟩
  refine Run.retP tab_ok Tryd.func30 rfl trivial (fun M => ?_)
  exact congrArg Value.string (by decide)
theorem text_enters : Enters Tryd.prog 30 := enters_mk Tryd.func30 (by decide) rfl
end Go.Proofs.YtehimiadpgbhmaaDoor

/-
  The relations of events: pairs, Po, Loc, Int, Ext, Rmw. Own work.
-/
namespace Go.Proofs.YtehimiadpgbhmaaDoor
open Go.AM
set_option maxRecDepth 100000

/-- A test of two places of a list. -/
def atB (T : Int → Int → Ev → Ev → Bool) (xs : List Ev) (x y : Nat) : Bool := match xs[x]?, xs[y]? with | some a, some b => T x y a b | _, _ => false
theorem atB_lt {T : Int → Int → Ev → Ev → Bool} {xs : List Ev} {x y : Nat} (h : atB T xs x y = true) : x < xs.length ∧ y < xs.length := by
  unfold atB at h
  split at h
  · rename_i h1 h2
    exact ⟨(List.getElem?_eq_some_iff.1 h1).1, (List.getElem?_eq_some_iff.1 h2).1⟩
  · cases h
theorem atB_at {T : Int → Int → Ev → Ev → Bool} {xs : List Ev} {x y : Nat} (hx : x < xs.length) (hy : y < xs.length) : atB T xs x y = T x y xs[x] xs[y] := by
  unfold atB; rw [List.getElem?_eq_getElem hx, List.getElem?_eq_getElem hy]

def pairsL (T : Int → Int → Ev → Ev → Bool) (xs : List Ev) : Rl := Rl.gen ((shortL xs).length : Int) (atB T (shortL xs))

theorem pairs_ok (g : FuncId) (T : Int → Int → Ev → Ev → Bool) (p : Option Addr) (c : Nat) (xs : List Ev) (w : World) (hs : SeesV w p xs) (hent : Enters Tryd.prog g)
    (hg : ∀ w' i k a b, Gives Tryd.prog g [.int .i64 i, .int .i64 k, encEv a, encEv b] w' (.bool (T i k a b))) :
    Gives Tryd.prog 37 [.slice p xs.length c, .func (.func g) #[] #[]] w (encRel (pairsL T xs)) := by
  refine Gives.of_run Tryd.func37 rfl (by show 2 ≤ 47; decide) ?_
  refine RunF_sound tab_ok noX_local 100 [] _ _ rfl ?_ ?_
  · simp
  refine Run.callFn noX_local rfl rfl rfl rfl rfl rfl rfl short_enters rfl (fun w' _ => short_ok p c xs w') ?_
  obtain ⟨p', c', e1, hs'⟩ := short_form c hs
  have hle := shortL_le xs
  rw [e1]
  unfold pairsL
  generalize shortL xs = L at hs' hle
  have hlt := @atB_lt T L
  have hat := @atB_at T L
  generalize hq : atB T L = q at hlt hat
  refine RunF_sound tab_ok noX_local 100 [] _ _ rfl ?_ ?_
  · simp [fillL, Value.cells, segsVals, relV_tail_one, splice]
    try rfl
  suffices H : ∀ (d i : Nat), i + d = L.length → ∀ σ, inT σ.t [(0, .v (.slice p' L.length c')), (1, .v (.func (.func g) #[] #[])), (4, .ptr 0 0), (5, .ptr 1 0), (15, .v (.slice p' L.length c')), (16, .v (.int .i64 (L.length : Int))), (17, .v (.int .i64 (i : Int)))] →
      inT σ.h [(0, .cells 32 [.vals 65 (relV (Rl.void 0))]), (1, .cells 32 [.vals 65 (relV (Rl.gen (L.length : Int) (Rl.seen q i 0)))])] → Run _ _ σ by
    refine H L.length 0 (by omega) _ ⟨rfl, rfl, rfl, rfl, rfl, rfl, rfl, trivial⟩ ⟨rfl, ?_, trivial⟩
    rw [Rl.seen_0]; rfl
  intro d
  induction d with
  | zero =>
    intro i hi σ ht hh
    refine Run.to ?_ ht hh (n' := 12)
    refine RunF_sound tab_ok noX_local 100 [false] _ _ rfl ?_ ?_
    · simp [segsVals, relV_one']; omega
    refine Run.retP tab_ok Tryd.func37 rfl ?_ (fun M => ?_)
    · simp
    rw [Rl.seen_all (fun x y h => by have := hlt h; omega)]; rfl
  | succ d ih =>
    intro i hi σ ht hh
    refine Run.to ?_ ht hh (n' := 12)
    have hil : i < L.length := by omega
    have f1 := (hs' i hil).1
    have f2 := hs'.ext i hil
    have f3 := hs'.some i hil
    have f4 := evV_one L[i]
    refine RunF_sound tab_ok noX_local 100 [true] _ _ rfl ?_ ?_
    · simp only [fnC_w0, fnC_S0, Int.toNat_natCast, f2]
      simp [segsVals, f4]
      (repeat' refine And.intro ?_ ?_) <;> first | omega | exact f1 | exact f3
    suffices H2 : ∀ (e k : Nat), k + e = L.length → ∀ σ, inT σ.t [(0, .v (.slice p' L.length c')), (1, .v (.func (.func g) #[] #[])), (4, .ptr 0 0), (5, .ptr 1 0), (15, .v (.slice p' L.length c')), (16, .v (.int .i64 (L.length : Int))), (17, .v (.int .i64 (i : Int))), (6, .v (.int .i64 (i : Int))), (7, .ptr 12 0), (22, .v (.slice p' L.length c')), (23, .v (.int .i64 (L.length : Int))), (24, .v (.int .i64 (k : Int)))] →
        inT σ.h [(0, .cells 32 [.vals 65 (relV (Rl.void 0))]), (1, .cells 32 [.vals 65 (relV (Rl.gen (L.length : Int) (Rl.seen q i k)))]), (12, .cells 52 [.vals 5 (evV L[i])])] → Run _ _ σ by
      refine H2 L.length 0 (by omega) _ ⟨rfl, rfl, rfl, rfl, rfl, rfl, rfl, rfl, rfl, rfl, rfl, rfl, trivial⟩ ⟨rfl, rfl, ?_, trivial⟩
      simp only [fnC_w0, Int.toNat_natCast, f2]
      rfl
    intro e
    induction e with
    | zero =>
      intro k hk σ ht hh
      refine Run.to ?_ ht hh (n' := 13)
      refine RunF_sound tab_ok noX_local 100 [false] _ _ rfl ?_ ?_
      · simp; omega
      rw [Rl.seen_row (fun x y h => by have := hlt h; omega)]
      exact ih (i + 1) (by omega) _ ⟨rfl, rfl, rfl, rfl, rfl, rfl, i64_eq (wrap_succ (by omega)), trivial⟩ ⟨rfl, rfl, trivial⟩
    | succ e ihe =>
      intro k hk σ ht hh
      refine Run.to ?_ ht hh (n' := 13)
      have hkl : k < L.length := by omega
      have g1 := (hs' k hkl).1
      have g2 := hs'.ext k hkl
      have g3 := hs'.some k hkl
      have g4 := evV_one L[k]
      have hi' : i < 64 := by omega
      have hqe : q i k = T i k L[i] L[k] := hat hil hkl
      refine RunF_sound tab_ok noX_local 100 [true] _ _ rfl ?_ ?_
      · simp only [fnC_w0, fnC_S0, Int.toNat_natCast, g2]
        simp [segsVals, g4]
        (repeat' refine And.intro ?_ ?_) <;> first | omega | exact g1 | exact g3
      refine Run.callFv (cs := []) (f := g) (r := .bool (T i k L[i] L[k])) noX_local rfl rfl rfl rfl rfl rfl rfl hent rfl (fun w' hA => ?_) ?_
      · have := hg w' i k L[i] L[k]
        simp only [fnC_w0, Int.toNat_natCast, g2]
        exact this
      by_cases ct : T i k L[i] L[k] = true
      · refine RunF_sound tab_ok noX_local 100 [true] _ _ rfl ?_ ?_
        · simp [ct]
        refine Run.drawA noX_local rfl [3] [] rfl rfl trivial ?_
        refine RunOF_sound tab_ok noX_local rfl rfl 100 [] _ _ rfl ?_ ?_
        · simp [relV_get _ _ hi', intAt_row _ _ hi', okCell, Value.oneCell', inT]; omega
        refine RunO.done ?_
        refine RunF_sound tab_ok noX_local 100 [] _ _ rfl ?_ ?_
        · simp
        refine ihe (k + 1) (by omega) _ ⟨rfl, rfl, rfl, rfl, rfl, rfl, rfl, rfl, rfl, rfl, rfl, i64_eq (wrap_succ (by omega)), trivial⟩ ⟨rfl, congrArg (fun l => some (Blk.cells 32 [.vals 65 l])) ?_, rfl, trivial⟩
        simp [intAt_row _ _ hi', shl1_un, relV_set _ _ hi', Rl.seen_yes hi' (show k < 64 by omega) (show q i k = true by rw [hqe, ct])]
      · refine RunF_sound tab_ok noX_local 100 [false] _ _ rfl ?_ ?_
        · simpa using ct
        refine ihe (k + 1) (by omega) _ ⟨rfl, rfl, rfl, rfl, rfl, rfl, rfl, rfl, rfl, rfl, rfl, i64_eq (wrap_succ (by omega)), trivial⟩ ⟨rfl, ?_, rfl, trivial⟩
        rw [← Rl.seen_no (by rw [hqe]; simpa using ct)]; rfl
theorem pairs_enters : Enters Tryd.prog 37 := enters_mk Tryd.func37 (by decide) rfl

theorem po_ok (p : Option Addr) (c : Nat) (xs : List Ev) (w : World) (hs : SeesV w p xs) : Gives Tryd.prog 17 [.slice p xs.length c] w (encRel (pairsL (fun i k a b => decide (i < k) && togB a b) xs)) := by
  refine Gives.of_run Tryd.func17 rfl (by show 1 ≤ 5; decide) ?_
  generalize hX : pairsL (fun i k a b => decide (i < k) && togB a b) xs = X
  refine RunF_sound tab_ok noX_local 100 [] _ _ rfl ?_ ?_
  · simp
  refine Run.callM noX_local rfl rfl rfl rfl rfl rfl pairs_enters rfl (r := encRel X) (fun M w' _ hA => ?_) ?_
  · rw [← hX]; exact pairs_ok 38 _ p c xs w' (hs.agree hA (fun _ _ h => h)) po1_enters (fun w'' i k a b => po1_ok i k a b w'')
  refine RunF_sound tab_ok noX_local 100 [] _ _ rfl ?_ ?_
  · simp [segsVals, relV_one']
  refine Run.retP tab_ok Tryd.func17 rfl ?_ (fun M => ?_)
  · simp
  rfl
theorem po_enters : Enters Tryd.prog 17 := enters_mk Tryd.func17 (by decide) rfl

theorem int_ok (p : Option Addr) (c : Nat) (xs : List Ev) (w : World) (hs : SeesV w p xs) : Gives Tryd.prog 18 [.slice p xs.length c] w (encRel (pairsL (fun _ _ a b => togB a b) xs)) := by
  refine Gives.of_run Tryd.func18 rfl (by show 1 ≤ 5; decide) ?_
  generalize hX : pairsL (fun _ _ a b => togB a b) xs = X
  refine RunF_sound tab_ok noX_local 100 [] _ _ rfl ?_ ?_
  · simp
  refine Run.callM noX_local rfl rfl rfl rfl rfl rfl pairs_enters rfl (r := encRel X) (fun M w' _ hA => ?_) ?_
  · rw [← hX]; exact pairs_ok 40 _ p c xs w' (hs.agree hA (fun _ _ h => h)) int1_enters (fun w'' i k a b => int1_ok i k a b w'')
  refine RunF_sound tab_ok noX_local 100 [] _ _ rfl ?_ ?_
  · simp [segsVals, relV_one']
  refine Run.retP tab_ok Tryd.func18 rfl ?_ (fun M => ?_)
  · simp
  rfl
theorem int_enters : Enters Tryd.prog 18 := enters_mk Tryd.func18 (by decide) rfl

theorem rmw_ok (p : Option Addr) (c : Nat) (xs : List Ev) (w : World) (hs : SeesV w p xs) : Gives Tryd.prog 29 [.slice p xs.length c] w (encRel (pairsL rmwB xs)) := by
  refine Gives.of_run Tryd.func29 rfl (by show 1 ≤ 5; decide) ?_
  generalize hX : pairsL rmwB xs = X
  refine RunF_sound tab_ok noX_local 100 [] _ _ rfl ?_ ?_
  · simp
  refine Run.callM noX_local rfl rfl rfl rfl rfl rfl pairs_enters rfl (r := encRel X) (fun M w' _ hA => ?_) ?_
  · rw [← hX]; exact pairs_ok 48 _ p c xs w' (hs.agree hA (fun _ _ h => h)) rmw1_enters (fun w'' i k a b => rmw1_ok i k a b w'')
  refine RunF_sound tab_ok noX_local 100 [] _ _ rfl ?_ ?_
  · simp [segsVals, relV_one']
  refine Run.retP tab_ok Tryd.func29 rfl ?_ (fun M => ?_)
  · simp
  rfl
theorem rmw_enters : Enters Tryd.prog 29 := enters_mk Tryd.func29 (by decide) rfl

theorem ext_ok (p : Option Addr) (c : Nat) (xs : List Ev) (w : World) (hs : SeesV w p xs) : Gives Tryd.prog 19 [.slice p xs.length c] w (encRel (notL (pairsL (fun _ _ a b => togB a b) xs))) := by
  refine Gives.of_run Tryd.func19 rfl (by show 1 ≤ 6; decide) ?_
  refine RunF_sound tab_ok noX_local 100 [] _ _ rfl ?_ ?_
  · simp
  refine Run.callFn noX_local rfl rfl rfl rfl rfl rfl rfl int_enters rfl (fun w' hA => int_ok p c xs w' (hs.agree hA (fun _ _ h => h))) ?_
  generalize pairsL (fun _ _ a b => togB a b) xs = X
  refine RunF_sound tab_ok noX_local 100 [] _ _ rfl ?_ ?_
  · simp
  generalize hY : notL X = Y
  refine Run.callFn noX_local rfl rfl rfl rfl rfl rfl rfl not_enters rfl (r := encRel Y) (fun w' _ => by rw [← hY]; exact not_ok X w') ?_
  refine RunF_sound tab_ok noX_local 100 [] _ _ rfl ?_ ?_
  · simp [segsVals, relV_one']
  refine Run.retP tab_ok Tryd.func19 rfl ?_ (fun M => ?_)
  · simp
  rfl
theorem ext_enters : Enters Tryd.prog 19 := enters_mk Tryd.func19 (by decide) rfl
end Go.Proofs.YtehimiadpgbhmaaDoor

/-
  The documented example: its list, plain. Own work.
-/
namespace Go.Proofs.YtehimiadpgbhmaaDoor
open Go.AM
set_option maxRecDepth 100000

def sEAX : ByteArray := ⟨#[69, 65, 88]⟩
def op7 : Opn := ⟨7, 0, 0, 0, 0⟩
def L3 : List Ev := [⟨1, -1, 0, 0, false⟩, ⟨3, 0, 0, 0, true⟩, evW]
theorem regB0 : regB sEAX = true := by
  unfold regB sEAX
  rw [ByteArray.toList_eq]; rfl
theorem rises0 : risesB regB [sEAX] = true := by
  have h1 : stepB regB [sEAX] 0 = true := by
    unfold stepB
    simp [regB0]
  unfold risesB
  simp [h1]
theorem nameB0 : nameB sX = true := by
  have h1 : letB (byt sX 0) = true := by decide
  have h2 : sX.size = 1 := rfl
  unfold nameB nameN
  simp [h1, h2, nameFrom]
theorem rises1 : risesB nameB [sX] = true := by
  have h1 : stepB nameB [sX] 0 = true := by
    unfold stepB
    simp [nameB0]
  unfold risesB
  simp [h1]
theorem fits0 (rs : List ByteArray) (hr : rs.length = 1) : fitsB op7 rs 1 = true := by
  have hk : kindK op7.kind = (⟨true, false, true, false, 2⟩, true) := rfl
  unfold fitsB
  rw [hk, hr]
  simp [op7, inB]
theorem valid0 (p : Pn) (h1 : p.th = [[op7]]) (h2 : p.regs = [[sEAX]]) (h3 : p.locs = [sX]) (h4 : p.ri = [1]) (h5 : p.li = 1) : validN p = 0 := by
  have he : evsP p = 3 := by unfold evsP; rw [h1, h3]; rfl
  have hr : regsB p 0 = true := by unfold regsB; rw [h2, h4]; simp [rises0]
  have hf : fitsL p 0 = true := by
    unfold fitsL; rw [h1, h2, h3]
    simp [fits0 [sEAX] rfl]
  unfold validN
  simp [h1, h2, h3, h4, h5, he, hr, hf, rises1]
theorem list0 (p : Pn) (h1 : p.th = [[op7]]) (h2 : p.regs = [[sEAX]]) (h3 : p.locs = [sX]) (h4 : p.ri = [1]) (h5 : p.li = 1) : listZ p 0#64 = (.tup [.sl 0 5 0 3, .v (.int .i64 0)], [(0, .row 52 5 3 (evsR L3))]) := by
  have hv := valid0 p h1 h2 h3 h4 h5
  have hl : listF p.locs.length p.th 0#64 = L3 := by rw [h1, h3]; rfl
  unfold listZ
  rw [if_neg (by rw [hv]; simp), if_neg (by simp), hl]
  rfl
/-- The pair of the read and the write. -/
def R12 : Rl := (Rl.void 3).setRow 1 4#64
theorem rmw0 : pairsL rmwB L3 = R12 := by
  have h1 : shortL L3 = L3 := rfl
  unfold pairsL R12
  rw [h1]
  have h2 := Rl.gen_add 3 (fun _ _ => false) 1 2 (by decide) (by decide)
  rw [← Rl.gen_void] at h2
  have h3 : (Rl.void 3).row 1 ||| 1#64 <<< 2 = 4#64 := by decide
  rw [h3] at h2
  rw [h2]
  refine Rl.gen_congr fun a b ha hb => ?_
  unfold atB
  rcases a with _ | _ | _ | a <;> rcases b with _ | _ | _ | b <;> simp [L3, rmwB, togB, evW]
end Go.Proofs.YtehimiadpgbhmaaDoor

/-
  The abstract machine, thirty-third part: a range over a function whose outer part turns. Own work; over any program.
-/
namespace Go.AM
open Go.RowKit

theorem old_alloc (w : World) (o : Obj) {b : Nat} (hb : b < w.heap.size) : (w.alloc o).heap[b]? = w.heap[b]? := by
  first | exact heap_alloc_old _ _ hb | exact heap_alloc_old _ _ b hb

def roundRX {S : Type} (C : Ctx) (XS : S → Res) (D : Nat) (t : List (Nat × AV)) (a0 : Array Value) (l : Nat) (rc : Loop) (wy : World) (fpy : Foot) (Next : S → List (Nat × Blk) → Prop) (Stop : S → Code → List (Nat × Blk) → Prop) : Value → World → Prop := fun v w' =>
  ∃ fp', Grown fpy wy fp' w' ∧ (v = .bool true ∧ (∃ s h M fpX, Next s h ∧ LoopJ ((C.withX (XS s)).marked D) t a0 l rc .ready none h M fpX w' fp') ∨
    v = .bool false ∧ (∃ s c h M fpX, Stop s c h ∧ LoopJ ((C.withX (XS s)).marked D) t a0 l rc .done (some c) h M fpX w' fp'))

def plainT : List (Nat × AV) → Bool
  | [] => true
  | (_, .v _) :: r => plainT r
  | (_, .tt _) :: r => plainT r
  | _ :: _ => false

theorem plainT_lk : ∀ {l : List (Nat × AV)} {i : Nat} {x : AV}, plainT l = true → lk l i = some x → ∀ M M' : Loc, conc M x = conc M' x
  | [], i, x, _, h => by cases h
  | (j, y) :: r, i, x, hb, h => by
    simp only [lk] at h
    split at h
    · cases h
      cases y with
      | v _ => intro M M'; simp [conc]
      | tt _ => intro M M'; simp [conc]
      | _ => simp [plainT] at hb
    · cases y with
      | v _ => exact plainT_lk (show plainT r = true from hb) h
      | tt _ => exact plainT_lk (show plainT r = true from hb) h
      | _ => simp [plainT] at hb

theorem lkA {α : Type} {i : Nat} : ∀ {a b : List (Nat × α)}, lk (a ++ b) i = match lk a i with | some x => some x | none => lk b i
  | [], b => rfl
  | (j, y) :: a, b => by
    simp only [List.cons_append, lk]
    split
    · rfl
    · exact lkA

theorem Run.rangeFnX {C : Ctx} {S : Type} (XS : S → Res) (hLS : ∀ s, Local (XS s)) (s0 : S) (hX0 : C.X = XS s0) {k : List Item} {σ : St} {g : Operand} {ps : Array Tmp} {assign body : Code} {f : FuncId} {vs : List Value} {z : AV}
    (hro : C.b.roundOf = none) (hg : σ.ev g = some z) (hz : ∀ M, conc M z = .func (.func f) #[] vs.toArray) (hent : Enters C.P f)
    (lo : Nat) (tv t : List (Nat × AV)) (hvin : inT σ.t tv) (hvp : plainT tv = true) (htin : inT σ.t t) (hlo : keysLt lo t = true) (hps : psOK lo C.n.hi ps.toList = true)
    {K : Nat → Prop} {xs : List (List Value)} (hit : Iter C.P f vs K C.w0 xs) (hK : ∀ b, K b → b < C.w0.heap.size ∧ ¬ C.S0 b) (hlen : ∀ x ∈ xs, x.length = ps.size)
    (Inv : List (List Value) → S → List (Nat × Blk) → Prop) (Stop : List (List Value) → S → Code → List (Nat × Blk) → Prop) (N : Nat)
    (h0 : List (Nat × Blk)) (hI0 : Inv [] s0 h0) (hin : inT σ.h h0)
    (hround : ∀ D l a0 rc wy fpy pre x s h, RoundIn ((C.withX (XS s)).marked D) lo t l wy fpy → pre ++ [x] <+: xs → Inv pre s h →
      Run (roundC ((C.withX (XS s)).marked D) lo a0 l rc .ready wy fpy (roundRX C XS D t a0 l rc wy fpy (Inv (pre ++ [x])) (Stop (pre ++ [x])))) [.code assign, .beginRound, .code body] ⟨parT (ps.toList.zip x) (tv ++ t), h, N⟩)
    (hdone : ∀ D s h, Inv xs s h → Run ((C.withX (XS s)).marked D) k ⟨tv ++ t, h, N⟩)
    (hstop : ∀ D pre s c h, pre <+: xs → Stop pre s c h → Run ((C.withX (XS s)).marked D) (.code c :: k) ⟨tv ++ t, h, N⟩) :
    Run C (.code (.rangeFunc g ps assign body) :: k) σ := by
  have hL : Local C.X := by rw [hX0]; exact hLS s0
  intro M fp a w hR cs
  let D := w.heap.size
  let l := w.heap.size + 1
  let rc : Loop := { state := .ready, pending := none, fn := C.b.fn, tmps := a.tmps, params := ps, assign, body, defers := D }
  let W1 : World := (w.alloc (.deferred (some []))).alloc (.loop rc)
  let y : Value := .func (.yield l) #[] #[]
  have he : (Instr.enterLoop C.b.fn a.tmps ps assign body C.b.roundOf).run C.P w = .ok (l, [mark D]) W1 := by rw [hro]; exact run_enterLoop_outer C.b.fn a.tmps ps assign body
  have hres : (resolve a.eval (rangeCall g l) 0).run C.P W1 = .ok { target := .fn (.func f) vs.toArray, args := #[y] } W1 := by
    simp [resolve, hR.q.ev hg, hz, Deferred.ofValue, y]
    rfl
  have hinv : (invoke (.fn (.func f) vs.toArray) #[y]).run C.P W1 = .ok (.enter f (y :: vs).toArray) W1 := by
    have : (#[y] ++ vs.toArray : Array Value) = (y :: vs).toArray := by simp
    simp only [invoke, this, hent _ _]
  have s1 := stepR_rangeFunc (P := C.P) (b := C.b) (a := a) (k := k) (cs := cs) (w := w) he hres hinv
  have hws : W1.heap.size = w.heap.size + 2 := by simp only [W1, World.size_alloc]
  have hold : ∀ b, b < w.heap.size → W1.heap[b]? = w.heap[b]? := by
    intro b hb
    simp only [W1]
    rw [old_alloc _ _ (by rw [World.size_alloc]; omega), old_alloc _ _ hb]
  have hD : W1.heap[D]? = some (.deferred (some [])) := by
    simp only [W1, D]
    rw [old_alloc _ _ (by rw [World.size_alloc]; omega)]
    exact World.alloc_heap_new _ _
  have hl : W1.heap[l]? = some (.loop rc) := by
    have := World.alloc_heap_new (w.alloc (.deferred (some []))) (.loop rc)
    rw [show (w.alloc (.deferred (some []))).heap.size = l by simp only [World.size_alloc, l]] at this
    exact this
  have hblk : ∀ id B, lk h0 id = some B → lk σ.h id = some B := fun id B hB => inT_lk hin id B hB
  let J : List (List Value) → Res := fun pre w fp => ∃ s h M fpX, Inv pre s h ∧ LoopJ ((C.withX (XS s)).marked D) t a.tmps l rc .ready none h M fpX w fp
  let Js : List (List Value) → Res := fun pre w fp => ∃ s c h M fpX, Stop pre s c h ∧ LoopJ ((C.withX (XS s)).marked D) t a.tmps l rc .done (some c) h M fpX w fp
  have hLm : ∀ s, Local ((C.withX (XS s)).marked D).X := fun s => markX_local (hLS s) D
  have hJl : ∀ pre, Local (J pre) := fun pre w w' fp ⟨s, h, M, fpX, h1, h2⟩ _ hs => ⟨s, h, M, fpX, h1, h2.moved (hLm s) hs⟩
  have hJsl : ∀ pre, Local (Js pre) := fun pre w w' fp ⟨s, c, h, M, fpX, h1, h2⟩ _ hs => ⟨s, c, h, M, fpX, h1, h2.moved (hLm s) hs⟩
  let fp1 : Foot := fun b => (fp b ∨ b = D) ∨ b = l ∨ ∃ id B, lk h0 id = some B ∧ (M id).1 = b
  have hfl : ∀ b, fp b → b < w.heap.size := fun b hb => (hR.fpok b hb).1
  have hml : ∀ id B, lk h0 id = some B → (M id).1 < w.heap.size := fun id B hB => (hR.heap _ _ (hblk _ _ hB)).lt
  have hwle : C.w0.heap.size ≤ w.heap.size := hR.agree.size
  have hfp1 : ∀ b, fp1 b → b < W1.heap.size ∧ (b < C.w0.heap.size → C.S0 b) := by
    intro b hb
    rw [hws]
    rcases hb with (hb | rfl) | rfl | ⟨id, B, hB, rfl⟩
    · exact ⟨by have := hfl b hb; omega, (hR.fpok b hb).2⟩
    · exact ⟨by simp only [D]; omega, fun h => by simp only [D] at h; omega⟩
    · exact ⟨by simp only [l]; omega, fun h => by simp only [l] at h; omega⟩
    · exact ⟨by have := hml _ _ hB; omega, hR.own _ _ (hblk _ _ hB)⟩
  have hW1 : Agree C.S0 C.w0 W1 := ⟨hR.agree.os, hR.agree.tape, hR.agree.output, by rw [hws]; omega, fun b hb hs => by rw [hold b (by omega)]; exact hR.agree.block b hb hs⟩
  have hJ0 : J [] W1 fp1 := by
    refine ⟨s0, h0, M, fun b => fp b ∨ b = D, hI0, ?_⟩
    refine { tmps := fun i x hx => hR.tmps i x (inT_lk htin i x hx), heap := ?_, inj := ?_, own := ?_, apart := ?_, outer := ?_, fpok := ?_, rc := hl, lX := ?_, lnew := ?_, foot := fun b => Iff.rfl }
    · exact fun id B hB => (hR.heap _ _ (hblk _ _ hB)).same (hold _ (hml _ _ hB))
    · exact fun id id' B B' hB hB' e => hR.inj _ _ _ _ (hblk _ _ hB) (hblk _ _ hB') e
    · exact fun id B hB => hR.own _ _ (hblk _ _ hB)
    · intro id B hB
      have := hml _ _ hB
      refine ⟨fun hf => ?_, fun e => by simp only [l] at e; omega⟩
      rcases hf with hf | hf
      · exact hR.apart _ _ (hblk _ _ hB) hf
      · simp only [D] at hf; omega
    · exact ⟨fp, hX0 ▸ hL w W1 fp hR.outer hfl (fun b hb => hold b (hfl b hb)), fun hf => Nat.lt_irrefl _ (hfl _ hf), hD, fun b => Iff.rfl⟩
    · intro b hb
      exact hfp1 b (.inl hb)
    · intro hf
      rcases hf with hf | hf
      · have := hfl _ hf; simp only [l] at this; omega
      · simp only [l, D] at hf; omega
    · show C.w0.heap.size ≤ l
      simp only [l]; omega
  have hvt : ∀ M' : Loc, (∀ i x, lk t i = some x → a.tmps[i]? = some (conc M' x)) → ∀ i x, lk (tv ++ t) i = some x → a.tmps[i]? = some (conc M' x) := fun M' h i x hx => by
    rw [lkA] at hx
    split at hx
    · rename_i z hz
      cases hx
      rw [plainT_lk hvp hz M' M]
      exact hR.tmps i x (inT_lk hvin i x hz)
    · exact h i x hx
  have hys : ∀ pre x, pre ++ [x] <+: xs → Yields C.P y J Js W1 fp1 pre x := by
    intro pre x hpx wy fpy hJy hgr
    obtain ⟨sx, h, M', fpX, hinvp, hJ⟩ := hJy
    have hx : x.length = ps.size := hlen x (hpx.subset (by simp))
    have hag : Agree C.S0 C.w0 wy := hW1.trans hgr.1 (fun i hi hl => (hfp1 i hi).2 hl)
    have hfy : ∀ b, fpy b → b < C.w0.heap.size → C.S0 b := fun b hb hlt => (hfp1 b ((hgr.2 b hb).2 (by have := hW1.size; omega))).2 hlt
    have hrun := run_yield (P := C.P) (args := x.toArray) hJ.rc (by simpa using hx)
    refine ⟨{ target := .fn (.yield l) #[], args := x.toArray }, _, by simp [Deferred.ofValue, y], by simp only [invoke]; exact hrun, ?_⟩
    intro c cs'
    have hpr := parT_run (M := M') (lo := lo) (ps.toList.zip x) (tv ++ t) a.tmps (fun q hq => by
      have := psOK_mem hps q.1 (List.of_mem_zip hq).1
      rw [hR.size]; exact this) (hvt M' hJ.tmps)
    have htm : (ps.zip x.toArray).foldl (fun tmps (q : Nat × Value) => tmps.setIfInBounds q.1 q.2) a.tmps = (ps.toList.zip x).foldl (fun tm q => tm.setIfInBounds q.1 q.2) a.tmps := by
      rw [← Array.foldl_toList]; simp
    let a' : Act := { tmps := (ps.toList.zip x).foldl (fun tm q => tm.setIfInBounds q.1 q.2) a.tmps, defers := [] }
    have hI : RoundIn ((C.withX (XS sx)).marked D) lo t l wy fpy := ⟨hLm sx, (hJ.foot l).2 (.inr (.inl rfl)), hag, hfy, hJ.lnew, hlo⟩
    have hrel : Rel (roundC ((C.withX (XS sx)).marked D) lo a.tmps l rc .ready wy fpy (roundRX C XS D t a.tmps l rc wy fpy (Inv (pre ++ [x])) (Stop (pre ++ [x])))) M' (fun b => fpX b ∨ b = l) ⟨parT (ps.toList.zip x) (tv ++ t), h, N⟩ a' wy := by
      refine { heap := hJ.heap, inj := hJ.inj, own := ?_, apart := ?_, agree := Agree.refl _ _, outer := ⟨fpX, hJ.outer, hJ.lX, hJ.rc, fun b => Iff.rfl⟩, fpok := ?_, size := ?_, frozen := hpr.2.1, tmps := hpr.2.2, defers := rfl }
      · exact fun id B hB _ => (hJ.foot _).2 (.inr (.inr ⟨id, B, hB, rfl⟩))
      · exact fun id B hB hf => hf.elim (hJ.apart _ _ hB).1 (hJ.apart _ _ hB).2
      · intro b hb
        have hb' : fpy b := (hJ.foot b).2 (hb.imp id .inl)
        exact ⟨(hgr.2 b hb').1, fun _ => hb'⟩
      · show a'.tmps.size = C.n.hi
        simp only [a']; rw [hpr.1, hR.size]
    obtain ⟨m, s, zz⟩ := hround D l a.tmps rc wy fpy pre x sx h hI hpx hinvp M' _ a' wy hrel (c :: cs')
    obtain ⟨v, w', rfl, fp', hg', hv⟩ := zz c cs' rfl
    refine ⟨v, w', ⟨fp', hg', ?_⟩, ?_⟩
    · rcases hv with ⟨hv, hh⟩ | ⟨hv, hh⟩
      · exact .inl ⟨hv, hh⟩
      · exact .inr ⟨hv, hh⟩
    · have hfr : Frame.round l C.b.fn ((ps.zip x.toArray).foldl (fun tmps (q : Nat × Value) => tmps.setIfInBounds q.1 q.2) a.tmps) assign body .normal =
          (roundC ((C.withX (XS sx)).marked D) lo a.tmps l rc .ready wy fpy (roundRX C XS D t a.tmps l rc wy fpy (Inv (pre ++ [x])) (Stop (pre ++ [x])))).b.atR a' [.code assign, .beginRound, .code body] := by
        rw [htm]; simp [Frame.round, Frame.atR, roundC, Ctx.marked, a']
      exact hfr ▸ s
  have hcall := hit y J Js W1 fp1 hJl hJsl hys hJ0 (fun b hb => (hfp1 b hb).1) (fun b hb hk => (hK b hk).2 ((hfp1 b hb).2 (hK b hk).1))
    ⟨hW1.os, hW1.tape, hW1.output, hW1.size, fun b hb hk => hW1.block b hb (fun hs => by
      have : K b := Classical.byContradiction hk
      exact (hK b this).2 hs)⟩
  obtain ⟨e, w', fr, ⟨v, rfl, fp', hgr, hend⟩, hsteps, _, hleave⟩ := hcall (C.b.atR { a with defers := [mark D] ++ a.defers } (.inRangeFunc l :: k) :: cs)
  have s2 := step_leave_returned (c := C.b.atR { a with defers := [mark D] ++ a.defers } (.inRangeFunc l :: k)) (cs := cs) hleave
  rw [finish_atR_inRangeFunc] at s2
  have hag : Agree C.S0 C.w0 w' := hW1.trans hgr.1 (fun i hi hl => (hfp1 i hi).2 hl)
  have key : ∀ (sx : S) (st : LoopState) (pd : Option Code) (h : List (Nat × Blk)) (M' : Loc) (fpX : Foot), st ≠ .busy → LoopJ ((C.withX (XS sx)).marked D) t a.tmps l rc st pd h M' fpX w' fp' →
      Run ((C.withX (XS sx)).marked D) ((pd.map Item.code).toList ++ k) ⟨tv ++ t, h, N⟩ → ∃ m, Steps C.P (lone (C.b.atR a (.code (.rangeFunc g ps assign body) :: k)) cs w) m ∧ C.Z cs m := by
    intro sx st pd h M' fpX hst hJ hr
    obtain ⟨k1, k2, k3⟩ := hJ.record (hLm sx) (o := .loop { rc with state := .exhausted, pending := pd })
    have hrel : Rel ((C.withX (XS sx)).marked D) M' fpX ⟨tv ++ t, h, N⟩ { a with defers := [mark D] ++ a.defers } (w'.putObj l (.loop { rc with state := .exhausted, pending := pd })) := by
      refine { heap := k1, inj := hJ.inj, own := hJ.own, apart := fun id B hB => (hJ.apart _ _ hB).1, agree := ?_, outer := k2, fpok := k3, size := hR.size, frozen := hR.frozen, tmps := hvt M' hJ.tmps, defers := ?_ }
      · refine agree_putObj hag (fun h => ?_)
        have : C.w0.heap.size ≤ l := hJ.lnew
        exact absurd (show l < C.w0.heap.size from h) (by omega)
      · show [mark D] ++ a.defers = mark D :: C.ds
        rw [hR.defers]; rfl
    obtain ⟨m, s, zz⟩ := hr M' fpX _ _ hrel cs
    have s3 := stepR_endRangeFunc (P := C.P) (b := C.b) (a := { a with defers := [mark D] ++ a.defers }) (k := k) (cs := cs) (run_endLoop (P := C.P) hJ.rc hst)
    exact ⟨m, .head s1 (Steps.trans hsteps (.head s2 (.head s3 s))), zz⟩
  rcases hend with ⟨sx, h, M', fpX, hI, hJ⟩ | ⟨pre, hpre, sx, c, h, M', fpX, hS, hJ⟩
  · exact key sx .ready none h M' fpX (by simp) hJ (hdone D sx h hI)
  · exact key sx .done (some c) h M' fpX (by simp) hJ (hstop D pre sx c h hpre hS)


/-- A round may end in more ways. -/
theorem Run.roundMono {C : Ctx} {lo : Nat} {a0 : Array Value} {l : Nat} {rc : Loop} {st : LoopState} {wy : World} {fpy : Foot} {Rr Rr' : Value → World → Prop} {todo : List Item} {σ : St} (h : ∀ v w, Rr v w → Rr' v w)
    (hr : Run (roundC C lo a0 l rc st wy fpy Rr) todo σ) : Run (roundC C lo a0 l rc st wy fpy Rr') todo σ := fun M fp a w hR cs => by
  obtain ⟨m, s, z⟩ := hr M fp a w { heap := hR.heap, inj := hR.inj, own := hR.own, apart := hR.apart, agree := hR.agree, outer := hR.outer, fpok := hR.fpok, size := hR.size, frozen := hR.frozen, tmps := hR.tmps, defers := hR.defers } cs
  refine ⟨m, s, fun c cs' e => ?_⟩
  obtain ⟨v, w', e1, h1⟩ := z c cs' e
  exact ⟨v, w', e1, h _ _ h1⟩
theorem roundRX_of {S : Type} {C : Ctx} {XS : S → Res} {D : Nat} {t : List (Nat × AV)} {a0 : Array Value} {l : Nat} {rc : Loop} {wy : World} {fpy : Foot} {Next : S → List (Nat × Blk) → Prop} {Stop : S → Code → List (Nat × Blk) → Prop} (s : S) :
    ∀ v w, roundR ((C.withX (XS s)).marked D) t a0 l rc wy fpy (Next s) (Stop s) v w → roundRX C XS D t a0 l rc wy fpy Next Stop v w := by
  rintro v w ⟨fp', hg, ⟨hv, h⟩ | ⟨hv, c, h⟩⟩
  · exact ⟨fp', hg, .inl ⟨hv, s, h⟩⟩
  · exact ⟨fp', hg, .inr ⟨hv, s, c, h⟩⟩
end Go.AM

/-
  The abstract machine, thirty-fourth part: function values that turn the outer part, called in rounds; a run begun anew where some blocks are given up. Own work; over any program.
-/
namespace Go.AM
open Go.RowKit

/-- A later base of the same run. -/
structure Base (S : Foot) (w : World) (S1 : Foot) (w1 : World) : Prop where
  agree : Agree S w w1
  old : ∀ b, S1 b → b < w.heap.size → S b

theorem Base.refl (S : Foot) (w : World) : Base S w S w := ⟨Agree.refl _ _, fun _ h _ => h⟩

theorem Base.trans {S S1 S2 : Foot} {w w1 w2 : World} (h : Base S w S1 w1) (k : Base S1 w1 S2 w2) : Base S w S2 w2 :=
  ⟨h.agree.trans k.agree (fun i hi hl => h.old i hi hl), fun b hb hl => h.old b (k.old b hb (Nat.lt_of_lt_of_le hl h.agree.size)) hl⟩

theorem Base.grown {S S1 fp' : Foot} {w w1 w' : World} (h : Base S w S1 w1) (k : Grown S1 w1 fp' w') : Grown S w fp' w' :=
  ⟨h.agree.trans k.1 (fun i hi hl => h.old i hi hl), fun b hb => ⟨(k.2 b hb).1, fun hl => h.old b ((k.2 b hb).2 (Nat.lt_of_lt_of_le hl h.agree.size)) hl⟩⟩

theorem Base.call {S S1 S3 : Foot} {w w1 w2 w3 : World} (h : Base S w S1 w1) (k : Agree S1 w1 w2) (l : Agree (fun _ => False) w2 w3) (hs : Since w1 S1 w2 S3) : Base S w S3 w3 :=
  ⟨(h.agree.trans k (fun i hi hl => h.old i hi hl)).trans l (fun _ f _ => f.elim), fun b hb hl => h.old b (Classical.byContradiction fun hn => hs.old b (Nat.lt_of_lt_of_le hl h.agree.size) hn hb) hl⟩

theorem RoundIn.base {C : Ctx} {lo : Nat} {t : List (Nat × AV)} {l : Nat} {wy : World} {fpy : Foot} (h : RoundIn C lo t l wy fpy) : Base C.S0 C.w0 fpy wy := ⟨h.w0, h.fy⟩

theorem Based.base {w0 w1 w2 : World} {S S2 : Foot} (h : Based w0 w1 S) (k : Base S w1 S2 w2) : Based w0 w2 S2 :=
  ⟨h.later k.agree, fun b hb => by
    rcases Nat.lt_or_ge b w1.heap.size with hl | hl
    · exact h.new b (k.old b hb hl)
    · exact Nat.le_trans h.agree.size hl⟩

/-- What a call of a function value does to the outer part. -/
def Does (P : Program) (y : Value) (x : List Value) (X : Res) (Q : Value → Res) (S : Foot) (w0 : World) : Prop :=
  ∀ w fp, X w fp → Grown S w0 fp w → CallsV P y x w fun v w' => ∃ fp', Grown fp w fp' w' ∧ Q v w' fp'

section
variable {P : Program} {y : Value} {x : List Value} {X : Res} {Q : Value → Res} {S S1 : Foot} {w0 w1 : World}

theorem Does.at (h : Does P y x X Q S w0) (hb : Base S w0 S1 w1) : Does P y x X Q S1 w1 := fun w fp hX hg => h w fp hX (hb.grown hg)

theorem Does.mark (h : Does P y x X Q S w0) (D : Nat) : Does P y x (markX X D) (fun v => markX (Q v) D) S w0 := by
  rintro w fp ⟨fpX, h1, h2, h3, h4⟩ hg
  refine (h w fpX h1 ⟨hg.1, fun b hb => hg.2 b ((h4 b).2 (.inl hb))⟩).mono fun v w' ⟨fp', k, q⟩ => ?_
  have hD : D < w.heap.size := (Array.getElem?_eq_some_iff.1 h3).1
  have hD' : ¬ fp' D := fun hf => h2 ((k.2 D hf).2 hD)
  refine ⟨fun b => fp' b ∨ b = D, ⟨⟨k.1.os, k.1.tape, k.1.output, k.1.size, fun b hb hs => k.1.block b hb (fun hf => hs ((h4 b).2 (.inl hf)))⟩, ?_⟩, fp', q, hD', ?_, fun b => Iff.rfl⟩
  · rintro b (hb | rfl)
    · exact ⟨(k.2 b hb).1, fun hl => (h4 b).2 (.inl ((k.2 b hb).2 hl))⟩
    · exact ⟨Nat.lt_of_lt_of_le hD k.1.size, fun _ => (h4 b).2 (.inr rfl)⟩
  · rw [k.1.block D hD h2]; exact h3

theorem Does.round (h : Does P y x X Q S w0) (l : Nat) (rc : Loop) (st : LoopState) : Does P y x (roundX X l rc st) (fun v => roundX (Q v) l rc st) S w0 := by
  rintro w fp ⟨fpX, h1, h2, h3, h4⟩ hg
  refine (h w fpX h1 ⟨hg.1, fun b hb => hg.2 b ((h4 b).2 (.inl hb))⟩).mono fun v w' ⟨fp', k, q⟩ => ?_
  have hD : l < w.heap.size := (Array.getElem?_eq_some_iff.1 h3).1
  have hD' : ¬ fp' l := fun hf => h2 ((k.2 l hf).2 hD)
  refine ⟨fun b => fp' b ∨ b = l, ⟨⟨k.1.os, k.1.tape, k.1.output, k.1.size, fun b hb hs => k.1.block b hb (fun hf => hs ((h4 b).2 (.inl hf)))⟩, ?_⟩, fp', q, hD', ?_, fun b => Iff.rfl⟩
  · rintro b (hb | rfl)
    · exact ⟨(k.2 b hb).1, fun hl => (h4 b).2 (.inl ((k.2 b hb).2 hl))⟩
    · exact ⟨Nat.lt_of_lt_of_le hD k.1.size, fun _ => (h4 b).2 (.inr rfl)⟩
  · rw [k.1.block l hD h2]; exact h3

def marksX (X : Res) : List Nat → Res
  | [] => X
  | D :: Ds => markX (marksX X Ds) D

theorem marksX_local (hX : Local X) : ∀ Ds : List Nat, Local (marksX X Ds)
  | [] => hX
  | D :: Ds => markX_local (marksX_local hX Ds) D

theorem Does.marks (h : Does P y x X Q S w0) : ∀ Ds : List Nat, Does P y x (marksX X Ds) (fun v => marksX (Q v) Ds) S w0
  | [] => h
  | D :: Ds => (Does.marks h Ds).mark D

theorem marksX_mono {X X' : Res} (h : ∀ w fp, X w fp → X' w fp) : ∀ (Ds : List Nat) w fp, marksX X Ds w fp → marksX X' Ds w fp
  | [], w, fp, hX => h w fp hX
  | D :: Ds, w, fp, ⟨fpX, h1, h2⟩ => ⟨fpX, marksX_mono h Ds w fpX h1, h2⟩

theorem marksX_ex {X : Res} : ∀ (Ds : List Nat) w fp, marksX X Ds w fp → ∃ fp', X w fp'
  | [], w, fp, hX => ⟨fp, hX⟩
  | D :: Ds, w, _, ⟨fpX, h1, _⟩ => marksX_ex Ds w fpX h1
end

/-- A function's surroundings behind some ranges, opened. -/
abbrev opM (P : Program) (f : FuncId) (lo n : Nat) (t0 : Array Value) (w : World) (S0 : Foot) (X : Res) (R : Value → World → Prop) (Ds : List Nat) : Ctx :=
  { fnC P f n w S0 (marksX X Ds) R with ds := Ds.map mark, n := ⟨lo, n⟩, t0 := t0 }

theorem opM_eq {P : Program} {f : FuncId} {n : Nat} {w : World} {S0 : Foot} {X : Res} {R : Value → World → Prop} : ∀ Ds : List Nat, opM P f 0 n #[] w S0 X R Ds = fnM P f n w S0 X R Ds
  | [] => rfl
  | D :: Ds => by
    show (opM P f 0 n #[] w S0 X R Ds).marked D = (fnM P f n w S0 X R Ds).marked D
    rw [opM_eq Ds]

theorem Run.thaw (C : Ctx) {lo hi lo' : Nat} {t0 t0' : Array Value} {todo : List Item} {σ : St} (hlo : lo' = 0) (h : Run { C with n := ⟨lo', hi⟩, t0 := t0' } todo σ) : Run { C with n := ⟨lo, hi⟩, t0 := t0 } todo σ := fun M fp a w hR cs =>
  h M fp a w { heap := hR.heap, inj := hR.inj, own := hR.own, apart := hR.apart, agree := hR.agree, outer := hR.outer, fpok := hR.fpok, size := hR.size, frozen := fun i hi => absurd (show i < lo' from hi) (by omega), tmps := hR.tmps, defers := hR.defers } cs

/-- A call of a function value that turns the outer part. -/
theorem Run.ask {C : Ctx} {k : List Item} {σ : St} {ops : Array Oper} {i : Nat} {rest : List Nat} {o : Oper} {c : Call} {g : Operand} {y : Value} {xs : List AV} {x : List Value} {Q : Value → Res}
    (hy : Does C.P y x C.X Q C.S0 C.w0)
    (ho : ops[i]? = some o) (hop : o.op = .call c) (hc : c.callee = .value g) (hg : σ.ev g = some (.v y)) (hxs : evs σ c.args.toList = some xs) (hx : toVs xs = some x) (hw : wantOf ops σ o = some .yes) (hd : dstOK C.n o.dst = true)
    (h : ∀ v w fp, Q v w fp → ∃ z X', (∀ M, conc M z = v) ∧ X' w fp ∧ Run (C.withX X') (.inRegion ops rest :: k) (σ.put o.dst z)) : Run C (.inRegion ops (i :: rest) :: k) σ := by
  refine Run.callV ho hop hc hg hxs hw fun M fp a w hR => ?_
  rw [toVs_conc hx]
  refine (hy w fp hR.outer ⟨hR.agree, hR.fpok⟩).mono fun v w' ⟨fp', hgr, hv⟩ cs => ?_
  obtain ⟨z, X', hz, hX', hr⟩ := h v w' fp' hv
  have := hr M fp' _ w' ((hR.grown hgr hX').put (C := C.withX X') (z := z) (dstOK_lt hd)) cs
  rwa [hz] at this

/-- The same in a round. -/
theorem Run.askRound {P : Program} {f : FuncId} {lo lo1 n l : Nat} {t0 a0 : Array Value} {w0 wy : World} {S0 fpy : Foot} {X : Res} {R Rr : Value → World → Prop} {Ds : List Nat} {rc : Loop} {k : List Item} {σ : St} {ops : Array Oper} {i : Nat} {rest : List Nat} {o : Oper} {c : Call} {g : Operand} {y : Value} {xs : List AV} {x : List Value} {Q : Value → Res}
    (hy : Does P y x X Q fpy wy)
    (ho : ops[i]? = some o) (hop : o.op = .call c) (hc : c.callee = .value g) (hg : σ.ev g = some (.v y)) (hxs : evs σ c.args.toList = some xs) (hx : toVs xs = some x) (hw : wantOf ops σ o = some .yes) (hd : dstOK ⟨lo1, n⟩ o.dst = true)
    (h : ∀ v w fp, Q v w fp → ∃ z X', (∀ M, conc M z = v) ∧ (∀ w fp, Q v w fp → X' w fp) ∧ Run (roundC (opM P f lo n t0 w0 S0 X' R Ds) lo1 a0 l rc .busy wy fpy Rr) (.inRegion ops rest :: k) (σ.put o.dst z)) :
    Run (roundC (opM P f lo n t0 w0 S0 X R Ds) lo1 a0 l rc .busy wy fpy Rr) (.inRegion ops (i :: rest) :: k) σ := by
  refine Run.ask (Q := fun v => roundX (marksX (Q v) Ds) l rc .busy) ((hy.marks Ds).round l rc .busy) ho hop hc hg hxs hx hw hd ?_
  rintro v w fp ⟨fpX, h1, h2, h3, h4⟩
  obtain ⟨fp1, hq⟩ := marksX_ex Ds w fpX h1
  obtain ⟨z, X', hz, hm, hr⟩ := h v w fp1 hq
  exact ⟨z, roundX (marksX X' Ds) l rc .busy, hz, ⟨fpX, marksX_mono hm Ds w fpX h1, h2, h3, h4⟩, hr⟩

/-- A range over an iterator in an iterator: the outer part turns. -/
theorem Run.rangeFnM {P : Program} {fu : FuncId} {lo0 n : Nat} {t0 : Array Value} {w0 : World} {S0 : Foot} {R : Value → World → Prop} {Ds : List Nat} {S : Type} (XS : S → Res) (hLS : ∀ s, Local (XS s)) (s0 : S) {k : List Item} {σ : St} {g : Operand} {ps : Array Tmp} {assign body : Code} {f : FuncId} {vs : List Value} {z : AV}
    (hg : σ.ev g = some z) (hz : ∀ M, conc M z = .func (.func f) #[] vs.toArray) (hent : Enters P f)
    (lo : Nat) (tv t : List (Nat × AV)) (hvin : inT σ.t tv) (hvp : plainT tv = true) (htin : inT σ.t t) (hlo : keysLt lo t = true) (hps : psOK lo n ps.toList = true)
    {K : Nat → Prop} {xs : List (List Value)} (hit : Iter P f vs K w0 xs) (hK : ∀ b, K b → b < w0.heap.size ∧ ¬ S0 b) (hlen : ∀ x ∈ xs, x.length = ps.size)
    (Inv : List (List Value) → S → List (Nat × Blk) → Prop) (Stop : List (List Value) → S → Code → List (Nat × Blk) → Prop) (N : Nat)
    (h0 : List (Nat × Blk)) (hI0 : Inv [] s0 h0) (hin : inT σ.h h0)
    (hround : ∀ D l a0 rc wy fpy pre x s h Rr, (∀ s', RoundIn (opM P fu lo0 n t0 w0 S0 (XS s') R (D :: Ds)) lo t l wy fpy) → pre ++ [x] <+: xs → Inv pre s h →
      (∀ s' v w', roundR (opM P fu lo0 n t0 w0 S0 (XS s') R (D :: Ds)) t a0 l rc wy fpy (Inv (pre ++ [x]) s') (Stop (pre ++ [x]) s') v w' → Rr v w') →
      Run (roundC (opM P fu lo0 n t0 w0 S0 (XS s) R (D :: Ds)) lo a0 l rc .ready wy fpy Rr) [.code assign, .beginRound, .code body] ⟨parT (ps.toList.zip x) (tv ++ t), h, N⟩)
    (hdone : ∀ D s h, Inv xs s h → Run (opM P fu lo0 n t0 w0 S0 (XS s) R (D :: Ds)) k ⟨tv ++ t, h, N⟩)
    (hstop : ∀ D pre s c h, pre <+: xs → Stop pre s c h → Run (opM P fu lo0 n t0 w0 S0 (XS s) R (D :: Ds)) (.code c :: k) ⟨tv ++ t, h, N⟩) :
    Run (opM P fu lo0 n t0 w0 S0 (XS s0) R Ds) (.code (.rangeFunc g ps assign body) :: k) σ := by
  refine Run.rangeFnX (fun s => marksX (XS s) Ds) (fun s => marksX_local (hLS s) Ds) s0 rfl rfl hg hz hent lo tv t hvin hvp htin hlo hps hit hK hlen Inv Stop N h0 hI0 hin ?_ ?_ ?_
  · intro D l a0 rc wy fpy pre x s h hI hp hinv
    refine hround D l a0 rc wy fpy pre x s h _ (fun s' => ⟨markX_local (marksX_local (hLS s') Ds) D, hI.lw, hI.w0, hI.fy, hI.ln, hI.lo⟩) hp hinv fun s' v w' hr => ?_
    exact roundRX_of s' v w' hr
  · exact hdone
  · exact hstop

/-- An iterator's return behind ranges. -/
theorem Run.retIM {P : Program} {T : Tab} (hT : tabOK P T) {f : FuncId} {fn : Func} {lo n : Nat} {t0 : Array Value} {w0 : World} {S0 : Foot} {X : Res} (hX : Local X) {R : Value → World → Prop} {σ : St} {k : List Item} {Ds : List Nat}
    (hf : P.funcs[f]? = some fn) (hres : fn.results = #[]) (hR : ∀ v w' fp', Grown S0 w0 fp' w' → X w' fp' → R v w') : Run (opM P f lo n t0 w0 S0 X R Ds) (.code .ret :: k) σ := by
  refine Run.thaw (opM P f 0 n #[] w0 S0 X R Ds) (hi := n) (lo' := 0) (t0' := #[]) rfl ?_
  show Run (opM P f 0 n #[] w0 S0 X R Ds) (.code .ret :: k) σ
  rw [opM_eq]
  exact Run.retM (p := True) (l := []) hT hX hf (by rw [hres]; rfl) trivial fun M fp a w hr => hR _ w fp ⟨hr.agree, hr.fpok⟩ hr.outer

theorem Run.finIM {P : Program} {T : Tab} (hT : tabOK P T) {f : FuncId} {fn : Func} {lo n : Nat} {t0 : Array Value} {w0 : World} {S0 : Foot} {X : Res} (hX : Local X) {R : Value → World → Prop} {σ : St} {Ds : List Nat}
    (hf : P.funcs[f]? = some fn) (hres : fn.results = #[]) (hR : ∀ v w' fp', Grown S0 w0 fp' w' → X w' fp' → R v w') : Run (opM P f lo n t0 w0 S0 X R Ds) [] σ := by
  refine Run.thaw (opM P f 0 n #[] w0 S0 X R Ds) (hi := n) (lo' := 0) (t0' := #[]) rfl ?_
  show Run (opM P f 0 n #[] w0 S0 X R Ds) [] σ
  rw [opM_eq]
  exact Run.finM (p := True) (l := []) hT hX hf (by rw [hres]; rfl) trivial fun M fp a w hr => hR _ w fp ⟨hr.agree, hr.fpok⟩ hr.outer

/-- One cell of any type of one cell, loaded out of old memory. -/
theorem Run.loadExt {C : Ctx} {ops : Array Oper} {i : Nat} {rest : List Nat} {k : List Item} {σ : St} {o : Oper} {T : Tab} {t : Nat} {ti : TI} {a : Addr} {v : Value} {x : Operand}
    (hT : tabOK C.P T) (ho : ops[i]? = some o) (hop : o.op = .load t x) (hx : σ.ev x = some (.v (.pointer (some a)))) (hi : lk T t = some ti) (h1 : oneCellTy ti.d = true) (hc : C.w0.cell? a = some v) (hs : ¬ C.S0 a.block)
    (hw : wantOf ops σ o = some .yes) (hd : dstOK C.n o.dst = true) (h : Run C (.inRegion ops rest :: k) (σ.put o.dst (.v v))) : Run C (.inRegion ops (i :: rest) :: k) σ := by
  intro M fp ac w hR cs
  obtain ⟨m, s, z'⟩ := h M fp _ w (hR.put (z := .v v) (dstOK_lt hd)) cs
  refine ⟨m, .head (step_value ho (wantOf_yes hR.q hw) (fun c e => by rw [hop] at e; cases e) ?_) s, z'⟩
  have h2 := hR.q.ev hx
  simp only [conc] at h2
  have h3 := run_loadVar_one (w := w) hT hi h1 (hR.agree.cell hc hs)
  simp [execOp, hop, h2, Instr.loadAt, Instr.sureAddr, conc, h3]

/-! ### A run begun anew; some blocks are given up -/

def inTM (M : Loc) (t : List (Nat × AV)) : List (Nat × AV) → Prop
  | [] => True
  | (i, x) :: r => (∃ y, lk t i = some y ∧ conc M y = conc M x) ∧ inTM M t r

theorem inTM_lk {M : Loc} {t : List (Nat × AV)} : ∀ {l : List (Nat × AV)} {i : Nat} {x : AV}, inTM M t l → lk l i = some x → ∃ y, lk t i = some y ∧ conc M y = conc M x
  | [], i, x, _, h => by cases h
  | (j, z) :: r, i, x, hb, h => by
    simp only [lk] at h
    split at h
    · rename_i he
      have e := Nat.eq_of_beq_eq_true he
      subst e; cases h
      exact hb.1
    · exact inTM_lk hb.2 h

theorem Run.anew {C : Ctx} {todo : List Item} {σ : St} (lo : Nat) (T' : Loc → List (Nat × AV)) (h' : List (Nat × Blk)) (nx : Nat) (ht : ∀ M, inTM M σ.t (T' M)) (hh : inT σ.h h')
    (h : ∀ M w S1 t0, Base C.S0 C.w0 S1 w → (∀ id B, lk σ.h id = some B → BlkAt M w id B) → (∀ id B, lk σ.h id = some B → lk h' id = none → ¬ S1 (M id).1) →
      (∀ i x, lk σ.t i = some x → t0[i]? = some (conc M x)) → Run { C with w0 := w, S0 := S1, n := ⟨lo, C.n.hi⟩, t0 := t0 } todo ⟨T' M, h', nx⟩) : Run C todo σ := by
  intro M fp a w hR cs
  have hk : ∀ id B, lk h' id = some B → lk σ.h id = some B := fun id B hB => inT_lk hh id B hB
  refine h M w (fun b => fp b ∨ ∃ id B, lk h' id = some B ∧ (M id).1 = b) a.tmps ⟨hR.agree, ?_⟩ hR.heap ?_ hR.tmps M fp a w ?_ cs
  · rintro b (hb | ⟨id, B, hB, rfl⟩) hl
    · exact (hR.fpok b hb).2 hl
    · exact hR.own _ _ (hk _ _ hB) hl
  · rintro id B hB hn (hf | ⟨id', B', hB', e⟩)
    · exact hR.apart _ _ hB hf
    · have := hR.inj _ _ _ _ (hk _ _ hB') hB e
      subst this
      rw [hB'] at hn; cases hn
  · refine { heap := fun id B hB => hR.heap _ _ (hk _ _ hB), inj := fun id id' B B' hB hB' e => hR.inj _ _ _ _ (hk _ _ hB) (hk _ _ hB') e, own := fun id B hB _ => .inr ⟨id, B, hB, rfl⟩,
             apart := fun id B hB => hR.apart _ _ (hk _ _ hB), agree := Agree.refl _ _, outer := hR.outer, fpok := fun b hb => ⟨(hR.fpok b hb).1, fun _ => .inl hb⟩, size := hR.size, frozen := fun i _ => rfl,
             tmps := fun i x hx => ?_, defers := hR.defers }
    obtain ⟨y, hy, e⟩ := inTM_lk (ht M) hx
    rw [hR.tmps i y hy, e]
end Go.AM

/-
  The abstract machine, thirty-seventh part: a range over an iterator that hands over blocks, of which the outer part takes some; blocks given to the outer part. Own work; over any program.
-/
namespace Go.AM
open Go.RowKit

theorem Run.rangeFnHX {α : Type} {C : Ctx} {S : Type} (XS : S → Res) (hLS : ∀ s, Local (XS s)) (s0 : S) (hX0 : C.X = XS s0) {k : List Item} {σ : St} {g : Operand} {p : Tmp} {assign body : Code} {f : FuncId} {vs : List Value} {z : AV}
    (hro : C.b.roundOf = none) (hg : σ.ev g = some z) (hz : ∀ M, conc M z = .func (.func f) #[] vs.toArray) (hent : Enters C.P f)
    (lo : Nat) (t : List (Nat × AV)) (htin : inT σ.t t) (hlo : keysLt lo t = true) (hp : Nat.ble lo p = true) (hp2 : Nat.blt p C.n.hi = true)
    {K : Nat → Prop} {xs : List α} {zf : α → AV} {hf : α → List (Nat × Blk)} (hit : IterH C.P f vs K C.w0 xs zf hf) (hK : ∀ b, K b → b < C.w0.heap.size ∧ ¬ C.S0 b)
    (Inv : List α → S → List (Nat × Blk) → Prop) (Stop : List α → S → Code → List (Nat × Blk) → Prop) (N m : Nat)
    (htb : tBelow N t = true) (hib : ∀ pre s h, Inv pre s h → hBelow N h = true) (hfge : ∀ x ∈ xs, hGe N m (hf x) = true) (hzge : ∀ x ∈ xs, (zf x).ge N = true)
    (h0 : List (Nat × Blk)) (hI0 : Inv [] s0 h0) (hin : inT σ.h h0)
    (hround : ∀ D l a0 rc wy fpy pre x s h, (∀ s', RoundIn ((C.withX (XS s')).marked D) lo t l wy fpy) → pre ++ [x] <+: xs → Inv pre s h →
      Run (roundC ((C.withX (XS s)).marked D) lo a0 l rc .ready wy fpy (roundRX C XS D t a0 l rc wy fpy (Inv (pre ++ [x])) (Stop (pre ++ [x])))) [.code assign, .beginRound, .code body] ⟨(p, zf x) :: t, hf x ++ h, m⟩)
    (hdone : ∀ D s h, Inv xs s h → Run ((C.withX (XS s)).marked D) k ⟨t, h, N⟩)
    (hstop : ∀ D pre s c h, pre <+: xs → Stop pre s c h → Run ((C.withX (XS s)).marked D) (.code c :: k) ⟨t, h, N⟩) :
    Run C (.code (.rangeFunc g #[p] assign body) :: k) σ := by
  have hL : Local C.X := by rw [hX0]; exact hLS s0
  intro M fp a w hR cs
  let D := w.heap.size
  let l := w.heap.size + 1
  let rc : Loop := { state := .ready, pending := none, fn := C.b.fn, tmps := a.tmps, params := #[p], assign, body, defers := D }
  let W1 : World := (w.alloc (.deferred (some []))).alloc (.loop rc)
  let y : Value := .func (.yield l) #[] #[]
  have he : (Instr.enterLoop C.b.fn a.tmps #[p] assign body C.b.roundOf).run C.P w = .ok (l, [mark D]) W1 := by rw [hro]; exact run_enterLoop_outer C.b.fn a.tmps #[p] assign body
  have hres : (resolve a.eval (rangeCall g l) 0).run C.P W1 = .ok { target := .fn (.func f) vs.toArray, args := #[y] } W1 := by
    simp [resolve, hR.q.ev hg, hz, Deferred.ofValue, y]
    rfl
  have hinv : (invoke (.fn (.func f) vs.toArray) #[y]).run C.P W1 = .ok (.enter f (y :: vs).toArray) W1 := by
    have : (#[y] ++ vs.toArray : Array Value) = (y :: vs).toArray := by simp
    simp only [invoke, this, hent _ _]
  have s1 := stepR_rangeFunc (P := C.P) (b := C.b) (a := a) (k := k) (cs := cs) (w := w) he hres hinv
  have hws : W1.heap.size = w.heap.size + 2 := by simp only [W1, World.size_alloc]
  have hold : ∀ b, b < w.heap.size → W1.heap[b]? = w.heap[b]? := by
    intro b hb
    rw [old_alloc _ _ (by rw [World.size_alloc]; omega), old_alloc _ _ hb]
  have hD : W1.heap[D]? = some (.deferred (some [])) := by
    rw [old_alloc _ _ (by rw [World.size_alloc]; omega)]
    exact World.alloc_heap_new _ _
  have hl : W1.heap[l]? = some (.loop rc) := by
    have := World.alloc_heap_new (w.alloc (.deferred (some []))) (.loop rc)
    rw [show (w.alloc (.deferred (some []))).heap.size = l by simp only [World.size_alloc, l]] at this
    exact this
  have hblk : ∀ id B, lk h0 id = some B → lk σ.h id = some B := fun id B hB => inT_lk hin id B hB
  let J : List α → Res := fun pre w fp => ∃ s h M fpX, Inv pre s h ∧ LoopJ ((C.withX (XS s)).marked D) t a.tmps l rc .ready none h M fpX w fp
  let Js : List α → Res := fun pre w fp => ∃ s c h M fpX, Stop pre s c h ∧ LoopJ ((C.withX (XS s)).marked D) t a.tmps l rc .done (some c) h M fpX w fp
  have hLm : ∀ s, Local ((C.withX (XS s)).marked D).X := fun s => markX_local (hLS s) D
  have hJl : ∀ pre, Local (J pre) := fun pre w w' fp ⟨s, h, M, fpX, h1, h2⟩ _ hs => ⟨s, h, M, fpX, h1, h2.moved (hLm s) hs⟩
  have hJsl : ∀ pre, Local (Js pre) := fun pre w w' fp ⟨s, c, h, M, fpX, h1, h2⟩ _ hs => ⟨s, c, h, M, fpX, h1, h2.moved (hLm s) hs⟩
  let fp1 : Foot := fun b => (fp b ∨ b = D) ∨ b = l ∨ ∃ id B, lk h0 id = some B ∧ (M id).1 = b
  have hfl : ∀ b, fp b → b < w.heap.size := fun b hb => (hR.fpok b hb).1
  have hml : ∀ id B, lk h0 id = some B → (M id).1 < w.heap.size := fun id B hB => (hR.heap _ _ (hblk _ _ hB)).lt
  have hwle : C.w0.heap.size ≤ w.heap.size := hR.agree.size
  have hfp1 : ∀ b, fp1 b → b < W1.heap.size ∧ (b < C.w0.heap.size → C.S0 b) := by
    intro b hb
    rw [hws]
    rcases hb with (hb | rfl) | rfl | ⟨id, B, hB, rfl⟩
    · exact ⟨by have := hfl b hb; omega, (hR.fpok b hb).2⟩
    · exact ⟨by simp only [D]; omega, fun h => by simp only [D] at h; omega⟩
    · exact ⟨by simp only [l]; omega, fun h => by simp only [l] at h; omega⟩
    · exact ⟨by have := hml _ _ hB; omega, hR.own _ _ (hblk _ _ hB)⟩
  have hW1 : Agree C.S0 C.w0 W1 := ⟨hR.agree.os, hR.agree.tape, hR.agree.output, by rw [hws]; omega, fun b hb hs => by rw [hold b (by omega)]; exact hR.agree.block b hb hs⟩
  have hJ0 : J [] W1 fp1 := by
    refine ⟨s0, h0, M, fun b => fp b ∨ b = D, hI0, ?_⟩
    refine { tmps := fun i x hx => hR.tmps i x (inT_lk htin i x hx), heap := ?_, inj := ?_, own := ?_, apart := ?_, outer := ?_, fpok := ?_, rc := hl, lX := ?_, lnew := ?_, foot := fun b => Iff.rfl }
    · exact fun id B hB => (hR.heap _ _ (hblk _ _ hB)).same (hold _ (hml _ _ hB))
    · exact fun id id' B B' hB hB' e => hR.inj _ _ _ _ (hblk _ _ hB) (hblk _ _ hB') e
    · exact fun id B hB => hR.own _ _ (hblk _ _ hB)
    · intro id B hB
      have := hml _ _ hB
      refine ⟨fun hf => ?_, fun e => by simp only [l] at e; omega⟩
      rcases hf with hf | hf
      · exact hR.apart _ _ (hblk _ _ hB) hf
      · simp only [D] at hf; omega
    · exact ⟨fp, hX0 ▸ hL w W1 fp hR.outer hfl (fun b hb => hold b (hfl b hb)), fun hf => Nat.lt_irrefl _ (hfl _ hf), hD, fun b => Iff.rfl⟩
    · intro b hb
      exact hfp1 b (.inl hb)
    · intro hf
      rcases hf with hf | hf
      · have := hfl _ hf; simp only [l] at this; omega
      · simp only [l, D] at hf; omega
    · show C.w0.heap.size ≤ l
      simp only [l]; omega
  have hys : ∀ pre x, pre ++ [x] <+: xs → YieldsH C.P y J Js W1 fp1 pre x (zf x) (hf x) := by
    intro pre x hpx wy fpy F v hJy hitem hFf hgr
    obtain ⟨sx, h, M', fpX, hinvp, hJ⟩ := hJy
    obtain ⟨Mi, hv, hbi, hji, hFi⟩ := hitem
    have hx := hpx.subset (show x ∈ pre ++ [x] by simp)
    have hge := hfge x hx
    have hzg := hzge x hx
    have hbel := hib _ _ _ hinvp
    have hag : Agree C.S0 C.w0 wy := hW1.trans hgr.1 (fun i hi hl => (hfp1 i hi).2 hl)
    let fpz : Foot := fun b => fpy b ∨ F b
    have hfy : ∀ b, fpz b → b < C.w0.heap.size → C.S0 b := fun b hb hlt => (hfp1 b ((hgr.2 b hb).2 (by have := hW1.size; omega))).2 hlt
    let M'' : Loc := fun i => if i < N then M' i else Mi i
    have hlow : ∀ i, i < N → M'' i = M' i := fun i hi => by simp only [M'', if_pos hi]
    have hhi : ∀ i, N ≤ i → M'' i = Mi i := fun i hi => by simp only [M'', if_neg (Nat.not_lt.2 hi)]
    have key : ∀ id B, lk (hf x ++ h) id = some B → (N ≤ id ∧ lk (hf x) id = some B) ∨ (id < N ∧ lk h id = some B) := by
      intro id B hB
      rw [lk_append] at hB
      split at hB
      · rename_i u hu
        cases hB
        exact .inl ⟨(hGe_lk hge hu).1, hu⟩
      · exact .inr ⟨(lkh_below hbel hB).1, hB⟩
    have hinF : ∀ id B, lk (hf x) id = some B → F (Mi id).1 := fun id B hB => (hFi _).2 ⟨id, B, hB, rfl⟩
    have hinY : ∀ id B, lk h id = some B → fpy (M' id).1 := fun id B hB => (hJ.foot _).2 (.inr (.inr ⟨id, B, hB, rfl⟩))
    have hrun := run_yield (P := C.P) (args := #[v]) hJ.rc (by simp [rc])
    refine ⟨{ target := .fn (.yield l) #[], args := #[v] }, _, by simp [Deferred.ofValue, y], by simp only [invoke]; exact hrun, ?_⟩
    intro c cs'
    have hpl : p < a.tmps.size := by rw [hR.size]; simpa using hp2
    let a' : Act := { tmps := a.tmps.setIfInBounds p v, defers := [] }
    have htm : (#[p].zip #[v]).foldl (fun tmps (q : Nat × Value) => tmps.setIfInBounds q.1 q.2) a.tmps = a.tmps.setIfInBounds p v := by simp
    have hI : ∀ s', RoundIn ((C.withX (XS s')).marked D) lo t l wy fpz := fun s' => ⟨hLm s', .inl ((hJ.foot l).2 (.inr (.inl rfl))), hag, hfy, hJ.lnew, hlo⟩
    have hrel : Rel (roundC ((C.withX (XS sx)).marked D) lo a.tmps l rc .ready wy fpz (roundRX C XS D t a.tmps l rc wy fpz (Inv (pre ++ [x])) (Stop (pre ++ [x])))) M'' (fun b => fpX b ∨ b = l) ⟨(p, zf x) :: t, hf x ++ h, m⟩ a' wy := by
      refine { heap := ?_, inj := ?_, own := ?_, apart := ?_, agree := Agree.refl _ _, outer := ⟨fpX, hJ.outer, hJ.lX, hJ.rc, fun b => Iff.rfl⟩, fpok := ?_, size := ?_, frozen := ?_, tmps := ?_, defers := rfl }
      · intro id B hB
        rcases key id B hB with ⟨h1, h2⟩ | ⟨h1, h2⟩
        · exact BlkAt.congrG hhi h1 (hGe_lk hge h2).2.2.1 (hbi id B h2)
        · exact BlkAt.congr hlow h1 (lkh_below hbel h2).2 rfl (hJ.heap id B h2)
      · intro id id' B B' hB hB' e
        rcases key id B hB with ⟨h1, h2⟩ | ⟨h1, h2⟩ <;> rcases key id' B' hB' with ⟨h3, h4⟩ | ⟨h3, h4⟩
        · rw [hhi id h1, hhi id' h3] at e; exact hji _ _ _ _ h2 h4 e
        · rw [hhi id h1, hlow id' h3] at e; exact (hFf _ (hinF _ _ h2) (e ▸ hinY _ _ h4)).elim
        · rw [hlow id h1, hhi id' h3] at e; exact (hFf _ (hinF _ _ h4) (e ▸ hinY _ _ h2)).elim
        · rw [hlow id h1, hlow id' h3] at e; exact hJ.inj _ _ _ _ h2 h4 e
      · intro id B hB _
        rcases key id B hB with ⟨h1, h2⟩ | ⟨h1, h2⟩
        · rw [hhi id h1]; exact .inr (hinF _ _ h2)
        · rw [hlow id h1]; exact .inl (hinY _ _ h2)
      · intro id B hB hf'
        rcases key id B hB with ⟨h1, h2⟩ | ⟨h1, h2⟩
        · rw [hhi id h1] at hf'
          refine hFf _ (hinF _ _ h2) ((hJ.foot _).2 ?_)
          exact hf'.imp (fun h => h) .inl
        · rw [hlow id h1] at hf'
          exact hf'.elim (hJ.apart _ _ h2).1 (hJ.apart _ _ h2).2
      · intro b hb
        have hb' : fpy b := (hJ.foot b).2 (hb.imp id .inl)
        exact ⟨(hgr.2 b (.inl hb')).1, fun _ => .inl hb'⟩
      · show a'.tmps.size = C.n.hi
        simp only [a', Array.size_setIfInBounds]; exact hR.size
      · intro i hi
        show (a.tmps.setIfInBounds p v)[i]? = a.tmps[i]?
        have hi' : i < lo := hi
        have : p ≠ i := fun e => Nat.lt_irrefl i (Nat.lt_of_lt_of_le hi' (e ▸ Nat.le_of_ble_eq_true hp))
        rw [Array.getElem?_setIfInBounds, if_neg this]
      · intro i u hu
        simp only [lk] at hu
        show (a.tmps.setIfInBounds p v)[i]? = _
        split at hu
        · rename_i he
          have e := Nat.eq_of_beq_eq_true he
          subst e; cases hu
          rw [Array.getElem?_setIfInBounds, if_pos rfl, if_pos hpl, conc_congrG hhi _ hzg, hv]
        · rename_i he
          have hne : p ≠ i := fun e => by subst e; simp at he
          rw [Array.getElem?_setIfInBounds, if_neg hne, hJ.tmps i u hu, conc_congr hlow u (lk_below htb hu)]
    obtain ⟨m', s, zz⟩ := hround D l a.tmps rc wy fpz pre x sx h hI hpx hinvp M'' _ a' wy hrel (c :: cs')
    obtain ⟨r, w', rfl, fp', hg', hv'⟩ := zz c cs' rfl
    refine ⟨r, w', ⟨fp', hg', ?_⟩, ?_⟩
    · rcases hv' with ⟨hv', hh⟩ | ⟨hv', hh⟩
      · exact .inl ⟨hv', hh⟩
      · exact .inr ⟨hv', hh⟩
    · have hfr : Frame.round l C.b.fn ((#[p].zip #[v]).foldl (fun tmps (q : Nat × Value) => tmps.setIfInBounds q.1 q.2) a.tmps) assign body .normal =
          (roundC ((C.withX (XS sx)).marked D) lo a.tmps l rc .ready wy fpz (roundRX C XS D t a.tmps l rc wy fpz (Inv (pre ++ [x])) (Stop (pre ++ [x])))).b.atR a' [.code assign, .beginRound, .code body] := by
        rw [htm]; simp [Frame.round, Frame.atR, roundC, Ctx.marked, a']
      exact hfr ▸ s
  have hcall := hit y J Js W1 fp1 hJl hJsl hys hJ0 (fun b hb => (hfp1 b hb).1) (fun b hb hk => (hK b hk).2 ((hfp1 b hb).2 (hK b hk).1))
    ⟨hW1.os, hW1.tape, hW1.output, hW1.size, fun b hb hk => hW1.block b hb (fun hs => by
      have : K b := Classical.byContradiction hk
      exact (hK b this).2 hs)⟩
  obtain ⟨e, w', fr, ⟨v, rfl, fp', hgr, hend⟩, hsteps, _, hleave⟩ := hcall (C.b.atR { a with defers := [mark D] ++ a.defers } (.inRangeFunc l :: k) :: cs)
  have s2 := step_leave_returned (c := C.b.atR { a with defers := [mark D] ++ a.defers } (.inRangeFunc l :: k)) (cs := cs) hleave
  rw [finish_atR_inRangeFunc] at s2
  have hag : Agree C.S0 C.w0 w' := hW1.trans hgr.1 (fun i hi hl => (hfp1 i hi).2 hl)
  have key : ∀ (sx : S) (st : LoopState) (pd : Option Code) (h : List (Nat × Blk)) (M' : Loc) (fpX : Foot), st ≠ .busy → LoopJ ((C.withX (XS sx)).marked D) t a.tmps l rc st pd h M' fpX w' fp' →
      Run ((C.withX (XS sx)).marked D) ((pd.map Item.code).toList ++ k) ⟨t, h, N⟩ → ∃ m, Steps C.P (lone (C.b.atR a (.code (.rangeFunc g #[p] assign body) :: k)) cs w) m ∧ C.Z cs m := by
    intro sx st pd h M' fpX hst hJ hr
    obtain ⟨k1, k2, k3⟩ := hJ.record (hLm sx) (o := .loop { rc with state := .exhausted, pending := pd })
    have hrel : Rel ((C.withX (XS sx)).marked D) M' fpX ⟨t, h, N⟩ { a with defers := [mark D] ++ a.defers } (w'.putObj l (.loop { rc with state := .exhausted, pending := pd })) := by
      refine { heap := k1, inj := hJ.inj, own := hJ.own, apart := fun id B hB => (hJ.apart _ _ hB).1, agree := ?_, outer := k2, fpok := k3, size := hR.size, frozen := hR.frozen, tmps := hJ.tmps, defers := ?_ }
      · refine agree_putObj hag (fun h => ?_)
        have : C.w0.heap.size ≤ l := hJ.lnew
        exact absurd (show l < C.w0.heap.size from h) (by omega)
      · show [mark D] ++ a.defers = mark D :: C.ds
        rw [hR.defers]; rfl
    obtain ⟨m, s, zz⟩ := hr M' fpX _ _ hrel cs
    have s3 := stepR_endRangeFunc (P := C.P) (b := C.b) (a := { a with defers := [mark D] ++ a.defers }) (k := k) (cs := cs) (run_endLoop (P := C.P) hJ.rc hst)
    exact ⟨m, .head s1 (Steps.trans hsteps (.head s2 (.head s3 s))), zz⟩
  rcases hend with ⟨sx, h, M', fpX, hI, hJ⟩ | ⟨pre, hpre, sx, c, h, M', fpX, hS, hJ⟩
  · exact key sx .ready none h M' fpX (by simp) hJ (hdone D sx h hI)
  · exact key sx .done (some c) h M' fpX (by simp) hJ (hstop D pre sx c h hpre hS)

/-- The outer part takes a footprint in. -/
def Joins (X : Res) (F : Foot) (X' : Res) (w : World) : Prop := ∀ fp, X w fp → (∀ b, F b → ¬ fp b) → X' w (fun b => fp b ∨ F b)

theorem Joins.mark {X X' : Res} {F : Foot} {w : World} (h : Joins X F X' w) (D : Nat) : Joins (markX X D) F (markX X' D) w := by
  rintro fp ⟨fpX, h1, h2, h3, h4⟩ hF
  refine ⟨fun b => fpX b ∨ F b, h fpX h1 (fun b hb hf => hF b hb ((h4 b).2 (.inl hf))), ?_, h3, fun b => ?_⟩
  · rintro (hf | hf)
    · exact h2 hf
    · exact hF D hf ((h4 D).2 (.inr rfl))
  · show fp b ∨ F b ↔ (fpX b ∨ F b) ∨ b = D
    rw [h4 b]
    constructor
    · rintro ((h | h) | h)
      · exact .inl (.inl h)
      · exact .inr h
      · exact .inl (.inr h)
    · rintro ((h | h) | h)
      · exact .inl (.inl h)
      · exact .inr h
      · exact .inl (.inr h)

theorem Joins.round {X X' : Res} {F : Foot} {w : World} (h : Joins X F X' w) (l : Nat) (rc : Loop) (st : LoopState) : Joins (roundX X l rc st) F (roundX X' l rc st) w := by
  rintro fp ⟨fpX, h1, h2, h3, h4⟩ hF
  refine ⟨fun b => fpX b ∨ F b, h fpX h1 (fun b hb hf => hF b hb ((h4 b).2 (.inl hf))), ?_, h3, fun b => ?_⟩
  · rintro (hf | hf)
    · exact h2 hf
    · exact hF l hf ((h4 l).2 (.inr rfl))
  · show fp b ∨ F b ↔ (fpX b ∨ F b) ∨ b = l
    rw [h4 b]
    constructor
    · rintro ((h | h) | h)
      · exact .inl (.inl h)
      · exact .inr h
      · exact .inl (.inr h)
    · rintro ((h | h) | h)
      · exact .inl (.inl h)
      · exact .inr h
      · exact .inl (.inr h)

/-- The outer part, seen otherwise. -/
theorem Run.toX {C : Ctx} {todo : List Item} {σ : St} (X' : Res) (hX : ∀ w fp, C.X w fp → X' w fp) (h : Run (C.withX X') todo σ) : Run C todo σ := fun M fp a w hR cs =>
  h M fp a w { heap := hR.heap, inj := hR.inj, own := hR.own, apart := hR.apart, agree := hR.agree, outer := hX _ _ hR.outer, fpok := hR.fpok, size := hR.size, frozen := hR.frozen, tmps := hR.tmps, defers := hR.defers } cs

/-- An owned block is given to the outer part. -/
theorem Run.give {C : Ctx} {todo : List Item} {σ : St} (id : Nat) {B : Blk} (X' : Loc → Res) (T' : Loc → List (Nat × AV)) (h' : List (Nat × Blk)) (nx : Nat) (hB : lk σ.h id = some B) (hh : inT σ.h h') (hn : lk h' id = none) (ht : ∀ M, inTM M σ.t (T' M))
    (hj : ∀ M w, BlkAt M w id B → Joins C.X (fun b => b = (M id).1) (X' M) w)
    (h : ∀ M, Run (C.withX (X' M)) todo ⟨T' M, h', nx⟩) : Run C todo σ := by
  intro M fp a w hR cs
  have hk : ∀ i B, lk h' i = some B → lk σ.h i = some B := fun i B hB => inT_lk hh i B hB
  have hb := hR.heap _ _ hB
  refine h M M (fun b => fp b ∨ b = (M id).1) a w ?_ cs
  refine { heap := fun i B hB => hR.heap _ _ (hk _ _ hB), inj := fun i j B B' hB hB' e => hR.inj _ _ _ _ (hk _ _ hB) (hk _ _ hB') e, own := fun i B hB => hR.own _ _ (hk _ _ hB),
           apart := ?_, agree := hR.agree, outer := hj M w hb fp hR.outer (fun b hb => by rw [hb]; exact hR.apart _ _ hB), fpok := ?_, size := hR.size, frozen := hR.frozen, tmps := fun i x hx => ?_, defers := hR.defers }
  · rintro i Bi hi (hf | hf)
    · exact hR.apart _ _ (hk _ _ hi) hf
    · have := hR.inj _ _ _ _ (hk _ _ hi) hB hf
      subst this
      rw [hi] at hn; cases hn
  · rintro b (hf | rfl)
    · exact hR.fpok b hf
    · exact ⟨hb.lt, hR.own _ _ hB⟩
  · obtain ⟨y, hy, e⟩ := inTM_lk (ht M) hx
    rw [hR.tmps i y hy, e]
end Go.AM

/-
  The abstract machine, thirty-eighth part: operations that turn the outer part; blocks given to it along an order. Own work; over any program.
-/
namespace Go.AM
open Go.RowKit

section
variable {C : Ctx} {ops : Array Oper} {i : Nat} {rest : List Nat} {k : List Item} {σ : St} {o : Oper}

/-- An operation that turns the outer part and gives a plain value. -/
theorem Run.opX (ho : ops[i]? = some o) (hnd : ∀ c, o.op ≠ .defer c) (hw : wantOf ops σ o = some .yes) (hd : dstOK C.n o.dst = true)
    (h : ∀ M fp a w, Rel C M fp σ a w → ∃ v w' fp' X', (execOp a.eval o).run C.P w = .ok (.value v) w' ∧ Grown fp w fp' w' ∧ X' w' fp' ∧ Run (C.withX X') (.inRegion ops rest :: k) (σ.put o.dst (.v v))) :
    Run C (.inRegion ops (i :: rest) :: k) σ := by
  intro M fp a w hR cs
  obtain ⟨v, w', fp', X', hr, hg, hX, hrun⟩ := h M fp a w hR
  obtain ⟨m, s, z⟩ := hrun M fp' _ w' ((hR.grown hg hX).put (C := C.withX X') (z := .v v) (dstOK_lt hd)) cs
  exact ⟨m, .head (step_value ho (wantOf_yes hR.q hw) hnd hr) s, z⟩

/-- One that gives nothing. -/
theorem Run.effX (ho : ops[i]? = some o) (hnd : ∀ c, o.op ≠ .defer c) (hw : wantOf ops σ o = some .yes) (hdst : o.dst = none)
    (h : ∀ M fp a w, Rel C M fp σ a w → ∃ w' fp' X', (execOp a.eval o).run C.P w = .ok .skip w' ∧ Grown fp w fp' w' ∧ X' w' fp' ∧ Run (C.withX X') (.inRegion ops rest :: k) σ) :
    Run C (.inRegion ops (i :: rest) :: k) σ := by
  intro M fp a w hR cs
  obtain ⟨w', fp', X', hr, hg, hX, hrun⟩ := h M fp a w hR
  obtain ⟨m, s, z⟩ := hrun M fp' _ w' (hR.grown hg hX) cs
  refine ⟨m, .head (step_skipped ho (wantOf_yes hR.q hw) hnd hr) ?_, z⟩
  rw [hdst]; exact s

/-- A load out of the outer part. -/
theorem Run.loadX {T : Tab} {t : Nat} {ti : TI} {a : Addr} {x : Operand} {Q : Value → Prop} (hT : tabOK C.P T) (ho : ops[i]? = some o) (hop : o.op = .load t x) (hx : σ.ev x = some (.v (.pointer (some a)))) (hi : lk T t = some ti) (h1 : oneCellTy ti.d = true)
    (hX : ∀ w fp, C.X w fp → ∃ v, Q v ∧ w.cell? a = some v) (hw : wantOf ops σ o = some .yes) (hd : dstOK C.n o.dst = true) (h : ∀ v, Q v → Run C (.inRegion ops rest :: k) (σ.put o.dst (.v v))) :
    Run C (.inRegion ops (i :: rest) :: k) σ := by
  intro M fp ac w hR cs
  obtain ⟨v, hq, hc⟩ := hX w fp hR.outer
  obtain ⟨m, s, z'⟩ := h v hq M fp _ w (hR.put (z := .v v) (dstOK_lt hd)) cs
  refine ⟨m, .head (step_value ho (wantOf_yes hR.q hw) (fun c e => by rw [hop] at e; cases e) ?_) s, z'⟩
  have h2 := hR.q.ev hx
  simp only [conc] at h2
  have h3 := run_loadVar_one (w := w) hT hi h1 hc
  simp [execOp, hop, h2, Instr.loadAt, Instr.sureAddr, conc, h3]

theorem Grown.row {fp : Foot} {w : World} {g : Nat} {cs : Array Value} (hf : fp g) (hfp : ∀ b, fp b → b < w.heap.size) : Grown fp w fp (w.setRow g cs) :=
  ⟨⟨rfl, rfl, rfl, by simp, fun b _ hb => setRow_other _ _ _ _ (fun e => hb (e ▸ hf))⟩, fun b hb => ⟨by simpa using hfp b hb, fun _ => hb⟩⟩

/-- A cell of the outer part is written. -/
theorem Run.storeX {T : Tab} {t : Nat} {ti : TI} {g off : Nat} {v : Value} {x y : Operand} {X' : Res} (hT : tabOK C.P T) (ho : ops[i]? = some o) (hop : o.op = .store t x y) (hdst : o.dst = none) (hx : σ.ev x = some (.v (.pointer (some ⟨g, off, none⟩)))) (hy : σ.ev y = some (.v v))
    (hi : lk T t = some ti) (hs : ti.size = 1) (hv : v.oneCell' = true)
    (hX : ∀ w fp, C.X w fp → (∀ b, fp b → b < w.heap.size) → fp g ∧ ∃ cur e, w.heap[g]? = some (.cells cur e (0, 0)) ∧ off < cur.size ∧ X' (w.setRow g (cur.toList.take off ++ [v] ++ cur.toList.drop (off + 1)).toArray) fp)
    (hw : wantOf ops σ o = some .yes) (h : Run (C.withX X') (.inRegion ops rest :: k) σ) : Run C (.inRegion ops (i :: rest) :: k) σ := by
  refine Run.effX ho (fun c e => by rw [hop] at e; cases e) hw hdst fun M fp a w hR => ?_
  obtain ⟨hf, cur, e, hc, hlt, hX'⟩ := hX w fp hR.outer (fun b hb => (hR.fpok b hb).1)
  have ex := hR.q.ev hx
  have ey := hR.q.ev hy
  simp only [conc] at ex ey
  obtain ⟨c1, c2⟩ := okCell_one (M := M) (x := .v v) hv
  simp only [conc] at c1 c2
  have hrun := run_storeVar (P := C.P) hT hi (v := v) (by rw [c2, hs]; rfl) hc (o := off) (by omega) (by rw [c2]; simpa using hv)
  rw [c2, hs] at hrun
  refine ⟨_, fp, X', ?_, Grown.row hf (fun b hb => (hR.fpok b hb).1), hX', h⟩
  simp [execOp, hop, ex, ey, Instr.storeAt, Instr.sureAddr, hrun]

/-- An owned block is given to the outer part, along an order. -/
theorem RunO.give {held : List (Nat × Blk)} {n0 : Nat} {ord : List (Nat × Bool)} (id : Nat) {B : Blk} (X' : Loc → Res) (T' : Loc → List (Nat × AV)) (h' : List (Nat × Blk)) (nx : Nat) (hnx : n0 ≤ nx) (hB : lk σ.h id = some B) (hh : inT σ.h h') (hn : lk h' id = none) (ht : ∀ M, inTM M σ.t (T' M))
    (hj : ∀ M w, BlkAt M w id B → Joins C.X (fun b => b = (M id).1) (X' M) w)
    (h : ∀ M, RunO (C.withX (X' M)) held n0 ops ord k ⟨T' M, h', nx⟩) : RunO C held n0 ops ord k σ := by
  intro M0 M fp a w hM _ hR hS
  have hk : ∀ i B, lk h' i = some B → lk σ.h i = some B := fun i B hB => inT_lk hh i B hB
  have hb := hR.heap _ _ hB
  refine h M M0 M (fun b => fp b ∨ b = (M id).1) a w hM hnx ?_ hS
  refine { heap := fun i B hB => hR.heap _ _ (hk _ _ hB), inj := fun i j B B' hB hB' e => hR.inj _ _ _ _ (hk _ _ hB) (hk _ _ hB') e, own := fun i B hB => hR.own _ _ (hk _ _ hB),
           apart := ?_, agree := hR.agree, outer := hj M w hb fp hR.outer (fun b hb => by rw [hb]; exact hR.apart _ _ hB), fpok := ?_, size := hR.size, frozen := hR.frozen, tmps := fun i x hx => ?_, defers := hR.defers }
  · rintro i Bi hi (hf | hf)
    · exact hR.apart _ _ (hk _ _ hi) hf
    · have := hR.inj _ _ _ _ (hk _ _ hi) hB hf
      subst this
      rw [hi] at hn; cases hn
  · rintro b (hf | rfl)
    · exact hR.fpok b hf
    · exact ⟨hb.lt, hR.own _ _ hB⟩
  · obtain ⟨y, hy, e⟩ := inTM_lk (ht M) hx
    rw [hR.tmps i y hy, e]

/-- The last one, if it waits for all others, by what follows it. -/
theorem RunO.aloneLastZ {held : List (Nat × Blk)} {n0 : Nat} (hla : Nat.beq i (lastOf ops) = true) (ho : ops[i]? = some o)
    (h : ∀ M fp a w, Rel C M fp σ a w → OpW C.P ops i (fun a' w' => ∀ cs, ∃ m, Steps C.P (lone (C.b.atR a' k) cs w') m ∧ C.Z cs m) a w) :
    RunO C held n0 ops [(i, false)] k σ := by
  intro M0 M fp a w hM hn hR hS done listed hl hc
  simp only [chk, ho, Bool.and_eq_true, Bool.not_eq_true'] at hc
  obtain ⟨⟨⟨hc0, hc1⟩, hc2⟩, hc3⟩ := hc
  have hi : i < ops.size := (Array.getElem?_eq_some_iff.1 ho).1
  have hir : i ∈ Region.ready .any ops listed := mem_ready.2 ⟨hl.unlisted.2 ⟨hi, hc0⟩, o, ho, hl.rdy.1 hc1⟩
  refine ⟨fun e => (by rw [e] at hir; cases hir), fun j hj => ?_⟩
  obtain ⟨hun, oj, hoj, haft⟩ := mem_ready.1 hj
  have hji : j = i := by
    have := others_spec hc2 j oj (by simpa using hoj)
    simp only [Nat.zero_add] at this
    rcases this with h1 | h1 | h1
    · exact h1
    · have := (hl.unlisted.1 hun).2; rw [h1] at this; cases this
    · rw [hl.rdy.2 haft] at h1; cases h1
  subst hji
  refine (h M fp a w hR).mono ?_
  intro a' w' h3
  refine ⟨.inr (Nat.eq_of_beq_eq_true hla), ?_, h3⟩
  simp only [List.all_eq_true, List.mem_range] at hc3
  apply List.eq_nil_iff_forall_not_mem.2
  intro q hq
  obtain ⟨h0, oq, hoq, _⟩ := mem_ready.1 hq
  have := ((hl.set hi ho (hl.rdy.1 hc1)).unlisted.1 h0)
  rw [hc3 q this.1] at this
  cases this.2

/-- A call, the last of its region, by what follows it. -/
theorem RunO.callLast {held : List (Nat × Blk)} {n0 : Nat} {c : Call} {g : Operand} {f : FuncId} {caps xs : List AV} (hla : Nat.beq i (lastOf ops) = true) (ho : ops[i]? = some o) (hop : o.op = .call c) (hc : c.callee = .value g) (hg : σ.ev g = some (.fn f caps)) (hxs : evs σ c.args.toList = some xs) (hw : wantOf ops σ o = some .yes)
    (hent : Enters C.P f) (hd : dstOK C.n o.dst = true)
    (hcon : ∀ M fp a w, Rel C M fp σ a w → GivesR C.P f (concL M (xs ++ caps)) w (fun v w' => ∃ X' M' fp' σ' z, conc M' z = v ∧ Rel (C.withX X') M' fp' σ' a w' ∧ Run (C.withX X') k (σ'.put o.dst z))) :
    RunO C held n0 ops [(i, false)] k σ := by
  refine RunO.aloneLastZ hla ho fun M fp a w hR => ?_
  have h2 : c.args.map a.eval = (concL M xs).toArray := by apply Array.ext'; simpa using evs_conc hR.q hxs
  have hrun : (execOp a.eval o).run C.P w = .ok (.enter f (concL M (xs ++ caps)).toArray) w := by
    simp only [execOp, hop, resolve, hc, h2, hR.q.ev hg, conc, Deferred.ofValue]
    simp [invoke, hent _ _, concL_append]
  unfold OpW
  simp only [ho, if_pos (wantOf_yes hR.q hw), hrun]
  refine ⟨fun c e => (by rw [hop] at e; cases e), Calls.mono' (hcon M fp a w hR) fun e w' ⟨v, h1, X', M', fp', σ', z, hz, hR', hr⟩ => ⟨v, h1, fun cs => ?_⟩⟩
  have := hr M' fp' _ w' (hR'.put (C := C.withX X') (z := z) (dstOK_lt hd)) cs
  rwa [hz] at this

/-- One that comes up alone and turns the outer part. -/
theorem RunO.aloneX {held : List (Nat × Blk)} {n0 : Nat} {ord : List (Nat × Bool)} (ho : ops[i]? = some o)
    (h : ∀ M0 M fp a w, (∀ i, i < n0 → M i = M0 i) → n0 ≤ σ.nx → Rel C M fp σ a w → HS C M0 held w →
      OpW C.P ops i (fun a' w' => ∃ X' M' fp' σ', (∀ i, i < n0 → M' i = M0 i) ∧ n0 ≤ σ'.nx ∧ Rel (C.withX X') M' fp' σ' a' w' ∧ HS C M0 held w' ∧ RunO (C.withX X') held n0 ops ord k σ') a w) :
    RunO C held n0 ops ((i, false) :: ord) k σ := by
  intro M0 M fp a w hM hn hR hS done listed hl hc
  simp only [chk, ho, Bool.and_eq_true, Bool.not_eq_true'] at hc
  obtain ⟨⟨⟨hc0, hc1⟩, hc2⟩, hc3⟩ := hc
  have hi : i < ops.size := (Array.getElem?_eq_some_iff.1 ho).1
  have hir : i ∈ Region.ready .any ops listed := mem_ready.2 ⟨hl.unlisted.2 ⟨hi, hc0⟩, o, ho, hl.rdy.1 hc1⟩
  refine ⟨fun e => (by rw [e] at hir; cases hir), fun j hj => ?_⟩
  obtain ⟨hun, oj, hoj, haft⟩ := mem_ready.1 hj
  have hji : j = i := by
    have := others_spec hc2 j oj (by simpa using hoj)
    simp only [Nat.zero_add] at this
    rcases this with h1 | h1 | h1
    · exact h1
    · have := (hl.unlisted.1 hun).2; rw [h1] at this; cases this
    · rw [hl.rdy.2 haft] at h1; cases h1
  subst hji
  refine (h M0 M fp a w hM hn hR hS).mono ?_
  rintro a' w' ⟨X', M', fp', σ', h1, h2, h3, h4, h5⟩
  exact ⟨.inl h4, h5 M0 M' fp' a' w' h1 h2 h3 h4 (j :: done) _ (hl.set hi ho (hl.rdy.1 hc1)) hc3⟩

/-- A call that turns the outer part, along an order. -/
theorem RunO.callG {held : List (Nat × Blk)} {n0 : Nat} {ord : List (Nat × Bool)} {c : Call} {g : Operand} {f : FuncId} {caps xs : List AV} (hbel : hBelow n0 held = true) (hin : inT σ.h held) (ho : ops[i]? = some o) (hop : o.op = .call c) (hc : c.callee = .value g) (hg : σ.ev g = some (.fn f caps)) (hxs : evs σ c.args.toList = some xs)
    (hw : wantOf ops σ o = some .yes) (hent : Enters C.P f) (hd : dstOK C.n o.dst = true)
    (hcon : ∀ M fp a w, Rel C M fp σ a w → GivesR C.P f (concL M (xs ++ caps)) w (fun v w' => ∃ X' fp', Grown fp w fp' w' ∧ X' w' fp' ∧ RunO (C.withX X') held n0 ops ord k (σ.put o.dst (.v v)))) :
    RunO C held n0 ops ((i, false) :: ord) k σ := by
  refine RunO.aloneX ho fun M0 M fp a w hM hn hR hS => ?_
  have h2 : c.args.map a.eval = (concL M xs).toArray := by apply Array.ext'; simpa using evs_conc hR.q hxs
  have hrun : (execOp a.eval o).run C.P w = .ok (.enter f (concL M (xs ++ caps)).toArray) w := by
    simp only [execOp, hop, resolve, hc, h2, hR.q.ev hg, conc, Deferred.ofValue]
    simp [invoke, hent _ _, concL_append]
  unfold OpW
  simp only [ho, if_pos (wantOf_yes hR.q hw), hrun]
  refine ⟨fun c e => (by rw [hop] at e; cases e), Calls.mono' (hcon M fp a w hR) fun e w' ⟨v, h1, X', fp', hgr, hX, hr⟩ => ⟨v, h1, X', M, fp', _, hM, by cases o.dst <;> exact hn, ?_, ?_, hr⟩⟩
  · exact (hR.grown hgr hX).put (C := C.withX X') (z := .v v) (dstOK_lt hd)
  · refine ⟨fun id B hB => ?_, hS.2.trans hgr.1 (fun b hb hl => (hR.fpok b hb).2 hl)⟩
    have h3 := hS.1 id B hB
    have h4 := hR.apart id B (inT_lk hin id B hB)
    rw [hM id (lkh_below hbel hB).1] at h4
    exact h3.same (hgr.1.block _ h3.lt h4)

/-- append to a plain slice of ints or the like in the outer part: in its place, or in a new block. -/
theorem append_plain {P : Program} {T : Tab} (hT : tabOK P T) {t ty e : TypeId} {ti : TI} (hd : T.desc t = some (.slice e)) (hi : lk T e = some ti) (h1 : ti.size = 1) (hz1 : ti.zero.cells.size = 1) {w : World} {g n cap : Nat} {cur : Array Value} (hg : w.heap[g]? = some (.cells cur e (0, 0)))
    (hnc : n ≤ cap) (hcs : cur.size = cap) {a : Addr} {c : Nat} {u : Value} (hu : w.cell? a = some u) (hu1 : u.oneCell' = true) (h63 : n + 1 ≤ maxLen) (hb : (n + 1) * ti.bytes ≤ 140737488355328) :
    (n + 1 ≤ cap ∧ (Builtin.append_ #[t, t] ty #[.slice (some ⟨g, 0, none⟩) n cap, .slice (some a) 1 c]).run P w = .ok (.slice (some ⟨g, 0, none⟩) (n + 1) cap) (w.setRow g (cur.toList.take n ++ [u] ++ cur.toList.drop (n + 1)).toArray)) ∨
    ∃ cap' cs, n + 1 ≤ cap' ∧ cap' ≤ maxLen ∧ cs.size = cap' ∧ (Builtin.append_ #[t, t] ty #[.slice (some ⟨g, 0, none⟩) n cap, .slice (some a) 1 c]).run P w = .ok (.slice (some ⟨w.heap.size, 0, none⟩) (n + 1) cap') (w.drew.alloc (.cells cs e)) := by
  obtain ⟨_, xi, hxi, hxs, hxb, hxz⟩ := hT e ti hi
  have hund : P.underlying t = some (.slice e) := by
    unfold Tab.desc at hd
    split at hd
    · rename_i hh; cases hd; exact (hT t _ hh).1
    · cases hd
  have hnews : ∀ j x, [u][j]? = some x → w.cell? (a.add j) = some x := by
    intro j x hj
    cases j with
    | zero => simp at hj; subst hj; simpa [Addr.add] using hu
    | succ j => simp at hj
  have hml : maxLen = 9223372036854775807 := rfl
  by_cases hr : n + 1 ≤ cap
  · left
    have := run_append_room (P := P) w t ty e xi hund hxi g n cap cur hg a 1 c [u] (by simp [hxs, h1]) hnews (by simpa using hu1) hr (by simp [hxs, h1]; omega)
    rw [hxs, h1, Nat.mul_one] at this
    exact ⟨hr, this⟩
  · right
    have holds : ∀ j x, (cur.toList.take n)[j]? = some x → w.cell? ((⟨g, 0, none⟩ : Addr).add j) = some x := by
      intro j x hj
      rw [List.getElem?_take] at hj
      split at hj
      · rw [Addr.add_lit, Nat.zero_add, cell_of_row w _ _ _ _ _ hg]; simpa using hj
      · cases hj
    have := run_append_grow (P := P) w t ty e xi ti.zero hund hxi hxz ⟨g, 0, none⟩ n cap (cur.toList.take n) (by simp [hxs, h1]; omega) holds a 1 c [u] (by simp [hxs, h1]) hnews (by omega) (by omega) (growslice_fits (by omega) (by rw [hxb]; exact hb))
    have hge := grownCap_ge w (n + 1) cap e
    refine ⟨_, _, hge, grownCap_le_maxLen w (n + 1) cap e h63, ?_, this⟩
    simp only [Array.size_append, List.size_toArray, size_zeroCells, hz1, List.length_take, Array.length_toList, List.length_singleton]
    omega
end
end Go.AM

/-
  The abstract machine, thirty-ninth part: old memory given to the outer part; append to its slices. Own work; over any program.
-/
namespace Go.AM
open Go.RowKit

/-- What has been made since and stood still may be turned from here on, as the outer part. -/
theorem Run.unfreeze {C : Ctx} {todo : List Item} {σ : St} (F : Foot) (X' : Res) {w00 : World} (hF : ∀ b, F b → b < C.w0.heap.size ∧ ¬ C.S0 b ∧ w00.heap.size ≤ b) (hB : Based w00 C.w0 C.S0)
    (hX : ∀ w, Agree C.S0 C.w0 w → X' w F)
    (h : ∀ w S1, Agree C.S0 C.w0 w → Based w00 w S1 → (∀ b, b < C.w0.heap.size → ¬ C.S0 b → ¬ F b → ¬ S1 b) → Run { C with w0 := w, S0 := S1, X := X' } todo σ) : Run C todo σ := by
  intro M fp a w hR cs
  let S1 : Foot := fun b => b < w.heap.size ∧ (b < C.w0.heap.size → C.S0 b ∨ F b)
  refine h w S1 hR.agree ⟨hB.later hR.agree, fun b hb => ?_⟩ (fun b hl hs hf hb => (hb.2 hl).elim hs hf) M F a w ?_ cs
  · rcases Nat.lt_or_ge b C.w0.heap.size with hl | hl
    · rcases hb.2 hl with h1 | h1
      · exact hB.new b h1
      · exact (hF b h1).2.2
    · exact Nat.le_trans hB.agree.size hl
  · refine { heap := hR.heap, inj := hR.inj, own := fun id B hB _ => ⟨(hR.heap id B hB).lt, fun hl => .inl (hR.own id B hB hl)⟩, apart := fun id B hB hf => (hF _ hf).2.1 (hR.own id B hB (hF _ hf).1), agree := Agree.refl _ _, outer := hX w hR.agree,
             fpok := fun b hb => ?_, size := hR.size, frozen := hR.frozen, tmps := hR.tmps, defers := hR.defers }
    have h1 := (hF b hb).1
    exact ⟨Nat.lt_of_lt_of_le h1 hR.agree.size, fun _ => ⟨Nat.lt_of_lt_of_le h1 hR.agree.size, fun _ => .inr hb⟩⟩

section
variable {C : Ctx} {ops : Array Oper} {i : Nat} {rest : List Nat} {k : List Item} {σ : St} {o : Oper}

theorem Run.appendX {T : Tab} {t e : TypeId} {ti : TI} {c : Call} {x y : Operand} {g n cap id : Nat} {u : Value} {X1 : Res} {X2 : Nat → Nat → Res} (hT : tabOK C.P T) (ho : ops[i]? = some o) (hop : o.op = .call c) (hc : c.callee = .builtin .append) (hca : c.args = #[x, y]) (hct : c.argTypes = #[t, t])
    (hx : σ.ev x = some (.v (.slice (some ⟨g, 0, none⟩) n cap))) (hy : σ.ev y = some (.sl id 1 0 1)) (hB : lk σ.h id = some (.row e 1 1 [u])) (hu : u.oneCell' = true) (hd : T.desc t = some (.slice e)) (hi : lk T e = some ti) (h1 : ti.size = 1) (hz1 : ti.zero.cells.size = 1)
    (h63 : n + 1 ≤ maxLen) (hby : (n + 1) * ti.bytes ≤ 140737488355328) (hw : wantOf ops σ o = some .yes) (hdo : dstOK C.n o.dst = true)
    (hX : ∀ w fp, C.X w fp → (∀ b, fp b → b < w.heap.size) → fp g ∧ n ≤ cap ∧ ∃ cur, w.heap[g]? = some (.cells cur e (0, 0)) ∧ cur.size = cap ∧ (n + 1 ≤ cap → X1 (w.setRow g (cur.toList.take n ++ [u] ++ cur.toList.drop (n + 1)).toArray) fp) ∧
      ∀ (cs : Array Value) cap', cs.size = cap' → n + 1 ≤ cap' → cap' ≤ maxLen → X2 w.heap.size cap' (w.drew.alloc (.cells cs e)) (fun b => fp b ∨ b = w.heap.size))
    (hr1 : n + 1 ≤ cap → Run (C.withX X1) (.inRegion ops rest :: k) (σ.put o.dst (.v (.slice (some ⟨g, 0, none⟩) (n + 1) cap))))
    (hr2 : ∀ g' cap', Run (C.withX (X2 g' cap')) (.inRegion ops rest :: k) (σ.put o.dst (.v (.slice (some ⟨g', 0, none⟩) (n + 1) cap')))) : Run C (.inRegion ops (i :: rest) :: k) σ := by
  refine Run.opX ho (fun c e => by rw [hop] at e; cases e) hw hdo fun M fp a w hR => ?_
  obtain ⟨hf, hnc, cur, hg, hcs, hX1, hX2⟩ := hX w fp hR.outer (fun b hb => (hR.fpok b hb).1)
  have ex := hR.q.ev hx
  have ey := hR.q.ev hy
  simp only [conc, Nat.zero_mul, Nat.sub_zero] at ex ey
  have hb := hR.heap _ _ hB
  have hcu : w.cell? ⟨(M id).1, 0, none⟩ = some u := row_cells hb 0 u (by simp)
  rcases append_plain (P := C.P) hT (ty := o.type) hd hi h1 hz1 hg hnc hcs (a := ⟨(M id).1, 0, none⟩) (c := (M id).2) hcu hu h63 hby with ⟨hroom, hrun⟩ | ⟨cap', cs, q1, q2, q3, hrun⟩
  · refine ⟨_, _, fp, X1, ?_, Grown.row hf (fun b hb => (hR.fpok b hb).1), hX1 hroom, hr1 hroom⟩
    have hbu : ∀ cs', (builtin .append #[t, t] o.type cs' #[.slice (some ⟨g, 0, none⟩) n cap, .slice (some ⟨(M id).1, 0, none⟩) 1 (M id).2]).run C.P w = .ok (.value (.slice (some ⟨g, 0, none⟩) (n + 1) cap)) (w.setRow g (cur.toList.take n ++ [u] ++ cur.toList.drop (n + 1)).toArray) := fun cs' => by
      simp [builtin, hrun]
    simp [execOp, hop, resolve, hc, hca, hct, ex, ey, invoke, hbu]
  · refine ⟨_, w.drew.alloc (.cells cs e), fun b => fp b ∨ b = w.heap.size, X2 w.heap.size cap', ?_, ⟨⟨rfl, rfl, rfl, by simp, fun b hb _ => old_alloc w.drew _ hb⟩, ?_⟩, hX2 cs cap' q3 q1 q2, hr2 _ _⟩
    · have hbu : ∀ cs', (builtin .append #[t, t] o.type cs' #[.slice (some ⟨g, 0, none⟩) n cap, .slice (some ⟨(M id).1, 0, none⟩) 1 (M id).2]).run C.P w = .ok (.value (.slice (some ⟨w.heap.size, 0, none⟩) (n + 1) cap')) (w.drew.alloc (.cells cs e)) := fun cs' => by
        simp [builtin, hrun]
      simp [execOp, hop, resolve, hc, hca, hct, ex, ey, invoke, hbu]
    · rintro b (hb | rfl)
      · have h2 := (hR.fpok b hb).1
        refine ⟨?_, fun _ => hb⟩
        simp only [World.size_alloc]
        exact Nat.lt_succ_of_lt h2
      · refine ⟨?_, fun h => absurd h (Nat.lt_irrefl _)⟩
        simp only [World.size_alloc]
        exact Nat.lt_succ_self _
end
end Go.AM

/-
  The abstract machine, fortieth part: blocks that are given up stand still from here on. Own work; over any program.
-/
namespace Go.AM

theorem Run.freeze {C : Ctx} {todo : List Item} {σ : St} (T' : Loc → List (Nat × AV)) (h' : List (Nat × Blk)) (nx : Nat) (ht : ∀ M, inTM M σ.t (T' M)) (hh : inT σ.h h')
    (h : ∀ M w S1, Base C.S0 C.w0 S1 w → (∀ id B, lk σ.h id = some B → BlkAt M w id B) → (∀ id B, lk σ.h id = some B → lk h' id = none → ¬ S1 (M id).1) → (∀ id B, lk σ.h id = some B → (M id).1 < C.w0.heap.size → C.S0 (M id).1) →
      Run (C.rebase w S1) todo ⟨T' M, h', nx⟩) : Run C todo σ := by
  intro M fp a w hR cs
  have hk : ∀ id B, lk h' id = some B → lk σ.h id = some B := fun id B hB => inT_lk hh id B hB
  refine h M w (fun b => fp b ∨ ∃ id B, lk h' id = some B ∧ (M id).1 = b) ⟨hR.agree, ?_⟩ hR.heap ?_ hR.own M fp a w ?_ cs
  · rintro b (hb | ⟨id, B, hB, rfl⟩) hl
    · exact (hR.fpok b hb).2 hl
    · exact hR.own _ _ (hk _ _ hB) hl
  · rintro id B hB hn (hf | ⟨id', B', hB', e⟩)
    · exact hR.apart _ _ hB hf
    · have := hR.inj _ _ _ _ (hk _ _ hB') hB e
      subst this
      rw [hB'] at hn; cases hn
  · refine { heap := fun id B hB => hR.heap _ _ (hk _ _ hB), inj := fun id id' B B' hB hB' e => hR.inj _ _ _ _ (hk _ _ hB) (hk _ _ hB') e, own := fun id B hB _ => .inr ⟨id, B, hB, rfl⟩,
             apart := fun id B hB => hR.apart _ _ (hk _ _ hB), agree := Agree.refl _ _, outer := hR.outer, fpok := fun b hb => ⟨(hR.fpok b hb).1, fun _ => .inl hb⟩, size := hR.size, frozen := hR.frozen,
             tmps := fun i x hx => ?_, defers := hR.defers }
    obtain ⟨y, hy, e⟩ := inTM_lk (ht M) hx
    rw [hR.tmps i y hy, e]

/-- What stands still goes on to do so. -/
theorem Base.off {S S1 : Foot} {w w1 : World} (k : Base S w S1 w1) {b : Nat} (hl : b < w.heap.size) (hb : ¬ S b) : ¬ S1 b := fun h => hb (k.old b h hl)
end Go.AM

/-
  The abstract machine, twenty-ninth part: calls in a drawn region that hand over new blocks. Own work; over any program.
-/
namespace Go.AM
section
variable {C : Ctx} {held : List (Nat × Blk)} {n0 : Nat} {ops : Array Oper} {i : Nat} {ord : List (Nat × Bool)} {k : List Item} {σ : St} {o : Oper} {c : Call} {g : Operand} {f : FuncId} {caps xs : List AV}

theorem RunO.callH (hL : Local C.X) (z : AV) (h : List (Nat × Blk)) (m : Nat) (ho : ops[i]? = some o) (hop : o.op = .call c) (hc : c.callee = .value g) (hg : σ.ev g = some (.fn f caps)) (hxs : evs σ c.args.toList = some xs) (hw : wantOf ops σ o = some .yes) (hent : Enters C.P f)
    (hd : dstOK C.n o.dst = true) (hbel : σ.bel = true) (hge : hGe σ.nx m h = true) (hz : z.ge σ.nx = true) (hm : Nat.ble σ.nx m = true)
    (hfn : ∀ M w, (∀ id B, lk σ.h id = some B → BlkAt M w id B) → Agree C.S0 C.w0 w → GivesR C.P f (concL M (xs ++ caps)) w (Handed z h w))
    (hr : RunO C held n0 ops ord k (St.put ⟨σ.t, h ++ σ.h, m⟩ o.dst z)) : RunO C held n0 ops ((i, false) :: ord) k σ := by
  refine RunO.alone ho fun M0 M fp a w hM hn hR hS => ?_
  have h2 : c.args.map a.eval = (concL M xs).toArray := by apply Array.ext'; simpa using evs_conc hR.q hxs
  have hrun : (execOp a.eval o).run C.P w = .ok (.enter f (concL M (xs ++ caps)).toArray) w := by
    simp only [execOp, hop, resolve, hc, h2, hR.q.ev hg, conc, Deferred.ofValue]
    simp [invoke, hent _ _, concL_append]
  unfold OpW
  simp only [ho, if_pos (wantOf_yes hR.q hw), hrun]
  refine ⟨fun c e => (by rw [hop] at e; cases e), Calls.mono' (hfn M w hR.heap hR.agree) fun e w' ⟨v, h1, hh⟩ => ?_⟩
  obtain ⟨M', hv, hMM, hR'⟩ := hR.handed hL hh hbel hge hz (Nat.le_of_ble_eq_true hm)
  have hag : Agree (fun _ => False) w w' := hh.1
  subst hv
  refine ⟨_, h1, M', fp, _, ?_, ?_, hR'.put (z := z) (dstOK_lt hd), ?_, hr⟩
  · exact fun i hi => (hMM i (Nat.lt_of_lt_of_le hi hn)).trans (hM i hi)
  · have := Nat.le_of_ble_eq_true hm
    cases o.dst <;> exact Nat.le_trans hn this
  · refine ⟨?_, hS.2.trans hag (fun _ f _ => f.elim)⟩
    intro id B hB
    have := hS.1 id B hB
    exact this.same (hag.block _ this.lt (fun f => f))

/-- A function's value is not nil. -/
theorem Run.fnNil {rest : List Nat} {T : Tab} (hT : tabOK C.P T) {t u : TypeId} {x : Operand} {fv : Fn} {a b : Array Value} {ps rs : Array TypeId} {vd : Bool} (ho : ops[i]? = some o) (hop : o.op = .binOp .eql t x (.const .nilFunc) u) (hx : σ.ev x = some (.v (.func fv a b)))
    (ht : T.desc t = some (.func ps rs vd)) (hw : wantOf ops σ o = some .yes) (hd : dstOK C.n o.dst = true) (h : Run C (.inRegion ops rest :: k) (σ.put o.dst (.tt false))) : Run C (.inRegion ops (i :: rest) :: k) σ := by
  intro M fp ac w hR cs
  obtain ⟨m, s, z⟩ := h M fp _ w (hR.put (z := .tt false) (dstOK_lt hd)) cs
  refine ⟨m, .head (step_value ho (wantOf_yes hR.q hw) (fun c e => by rw [hop] at e; cases e) ?_) s, z⟩
  have hu := eq_func_fn (w := w) (tab_undP hT ht) fv a b
  have h1 := hR.q.ev hx
  simp only [conc] at h1
  have h2 : ac.eval (.const .nilFunc) = .nilFunc := rfl
  simp [execOp, hop, h1, h2, eqGuard, binOp, hu, conc]
end
end Go.AM

/-
  The documented example is as it should be. Own work.
-/
namespace Go.Proofs.YtehimiadpgbhmaaDoor
open Go.AM
set_option maxRecDepth 100000

theorem fwd {S S1 : Foot} {w w1 : World} {P : World → Prop} (hB : Base S w S1 w1) (h : ∀ w', Agree S w w' → P w') : ∀ w', Agree S1 w1 w' → P w' :=
  fun w' hA => h w' (hB.agree.trans hA fun i h1 h2 => hB.old i h1 h2)
theorem stands {M : AM.Loc} {S : Foot} {w : World} {id : Nat} {B : Blk} (hb : BlkAt M w id B) (hn : ¬ S (M id).1) : ∀ w', Agree S w w' → BlkAt M w' id B :=
  fun w' hA => BlkAt.same hb (hA.block _ hb.lt hn)

theorem szI64 : tab.size 2 = some 1 := rfl
theorem szSO : tab.size 61 = some 1 := rfl
theorem szSSO : tab.size 35 = some 1 := rfl
theorem szStr : tab.size 9 = some 1 := rfl
theorem szSS : tab.size 37 = some 1 := rfl
theorem szSSS : tab.size 36 = some 1 := rfl
theorem szSI : tab.size 23 = some 1 := rfl
theorem szA : tab.size 30 = some 64 := rfl
theorem szSSI : tab.size 26 = some 1 := rfl

set_option maxHeartbeats 4000000 in
theorem awake_ok (w : World) : Gives Tryd.prog 12 [] w (.bool true) := by
  refine Gives.of_run Tryd.func12 rfl (by show 0 ≤ 48; decide) ?_
  refine RunF_sound tab_ok noX_local 100 [] _ _ rfl ?_ ?_
  · simp [fillL, repL, splice, Value.cells, maxLen, szI64, opV]
  refine Run.to (t' := [(5, .sl 0 5 0 1)]) (h' := [(0, .row 60 5 1 (opV op7))]) (n' := 1) ?_ ⟨rfl, trivial⟩ ⟨rfl, trivial⟩
  refine Run.freeze (fun M1 => [(5, .v (.slice (some ⟨(M1 0).1, 0, none⟩) 1 (M1 0).2))]) [] 0 (fun M => ⟨⟨_, rfl, by simp [conc]⟩, trivial⟩) trivial ?_
  intro M1 w1 S1 hB hblk hoff _
  have hw1 := (Based.refl w).base hB
  have b5 := stands (hblk 0 _ rfl) (hoff 0 _ rfl rfl)
  clear hB hblk hoff
  refine RunF_sound tab_ok noX_local 100 [] _ _ rfl ?_ ?_
  · simp [fillL, repL, splice, Value.cells, maxLen]
  refine Run.to (t' := [(6, .sl 0 1 0 1), (7, .sl 1 1 0 1)]) (h' := [(0, .row 61 1 1 [.slice (some ⟨(M1 0).1, 0, none⟩) 1 (M1 0).2]), (1, .row 9 1 1 [.string sEAX])]) (n' := 2) ?_ ⟨rfl, rfl, trivial⟩ ⟨rfl, rfl, trivial⟩
  refine Run.freeze (fun M2 => [(6, .v (.slice (some ⟨(M2 0).1, 0, none⟩) 1 (M2 0).2)), (7, .v (.slice (some ⟨(M2 1).1, 0, none⟩) 1 (M2 1).2))]) [] 0 (fun M => ⟨⟨_, rfl, by simp [conc]⟩, ⟨_, rfl, by simp [conc]⟩, trivial⟩) trivial ?_
  intro M2 w2 S2 hB hblk hoff _
  have hw2 := hw1.base hB
  have b6 := stands (hblk 0 _ rfl) (hoff 0 _ rfl rfl)
  have b7 := stands (hblk 1 _ rfl) (hoff 1 _ rfl rfl)
  replace b5 := fwd hB b5
  clear hB hblk hoff
  refine RunF_sound tab_ok noX_local 100 [] _ _ rfl ?_ ?_
  · simp [fillL, repL, splice, Value.cells, maxLen]
  refine Run.to (t' := [(6, .v (.slice (some ⟨(M2 0).1, 0, none⟩) 1 (M2 0).2)), (8, .sl 0 1 0 1), (9, .sl 1 1 0 1), (10, .sl 2 1 0 1)]) (h' := [(0, .row 37 1 1 [.slice (some ⟨(M2 1).1, 0, none⟩) 1 (M2 1).2]), (1, .row 9 1 1 [.string sX]), (2, .row 2 1 1 [.int .i64 0])]) (n' := 3) ?_ ⟨rfl, rfl, rfl, rfl, trivial⟩ ⟨rfl, rfl, rfl, trivial⟩
  refine Run.freeze (fun M3 => [(6, .v (.slice (some ⟨(M2 0).1, 0, none⟩) 1 (M2 0).2)), (8, .v (.slice (some ⟨(M3 0).1, 0, none⟩) 1 (M3 0).2)), (9, .v (.slice (some ⟨(M3 1).1, 0, none⟩) 1 (M3 1).2)), (10, .v (.slice (some ⟨(M3 2).1, 0, none⟩) 1 (M3 2).2))]) [] 0 (fun M => ⟨⟨_, rfl, by simp [conc]⟩, ⟨_, rfl, by simp [conc]⟩, ⟨_, rfl, by simp [conc]⟩, ⟨_, rfl, by simp [conc]⟩, trivial⟩) trivial ?_
  intro M3 w3 S3 hB hblk hoff _
  have hw3 := hw2.base hB
  have b8 := stands (hblk 0 _ rfl) (hoff 0 _ rfl rfl)
  have b9 := stands (hblk 1 _ rfl) (hoff 1 _ rfl rfl)
  have b10 := stands (hblk 2 _ rfl) (hoff 2 _ rfl rfl)
  replace b5 := fwd hB b5
  replace b6 := fwd hB b6
  replace b7 := fwd hB b7
  clear hB hblk hoff
  refine RunF_sound tab_ok noX_local 2 [] _ _ rfl ?_ ?_
  · simp [fillL, repL, splice, Value.cells, maxLen]
  refine Run.to (t' := [(6, .v (.slice (some ⟨(M2 0).1, 0, none⟩) 1 (M2 0).2)), (8, .v (.slice (some ⟨(M3 0).1, 0, none⟩) 1 (M3 0).2)), (9, .v (.slice (some ⟨(M3 1).1, 0, none⟩) 1 (M3 1).2)), (11, .sl 0 1 0 1), (12, .sl 1 1 0 1)]) (h' := [(0, .row 23 1 1 [.slice (some ⟨(M3 2).1, 0, none⟩) 1 (M3 2).2]), (1, .row 2 1 1 [.int .i64 0])]) (n' := 2) ?_ ⟨rfl, rfl, rfl, rfl, rfl, trivial⟩ ⟨rfl, rfl, trivial⟩
  refine Run.freeze (fun M4 => [(6, .v (.slice (some ⟨(M2 0).1, 0, none⟩) 1 (M2 0).2)), (8, .v (.slice (some ⟨(M3 0).1, 0, none⟩) 1 (M3 0).2)), (9, .v (.slice (some ⟨(M3 1).1, 0, none⟩) 1 (M3 1).2)), (11, .v (.slice (some ⟨(M4 0).1, 0, none⟩) 1 (M4 0).2)), (12, .v (.slice (some ⟨(M4 1).1, 0, none⟩) 1 (M4 1).2))]) [] 0 (fun M => ⟨⟨_, rfl, by simp [conc]⟩, ⟨_, rfl, by simp [conc]⟩, ⟨_, rfl, by simp [conc]⟩, ⟨_, rfl, by simp [conc]⟩, ⟨_, rfl, by simp [conc]⟩, trivial⟩) trivial ?_
  intro M4 w4 S4 hB hblk hoff _
  have hw4 := hw3.base hB
  have b11 := stands (hblk 0 _ rfl) (hoff 0 _ rfl rfl)
  have b12 := stands (hblk 1 _ rfl) (hoff 1 _ rfl rfl)
  replace b5 := fwd hB b5
  replace b6 := fwd hB b6
  replace b7 := fwd hB b7
  replace b8 := fwd hB b8
  replace b9 := fwd hB b9
  replace b10 := fwd hB b10
  clear hB hblk hoff
  obtain ⟨X, hXd⟩ : ∃ X : Pn, X = ⟨[[op7]], [[sEAX]], [sX], [1], 1, some ⟨(M2 0).1, 0, none⟩, (M2 0).2, some ⟨(M3 0).1, 0, none⟩, (M3 0).2, some ⟨(M3 1).1, 0, none⟩, (M3 1).2, some ⟨(M4 0).1, 0, none⟩, (M4 0).2, some ⟨(M4 1).1, 0, none⟩, (M4 1).2⟩ := ⟨_, rfl⟩
  have hX : ∀ w', Agree S4 w4 w' → SeesP w' X := fun w' hA => by
    have k5 := row_cells (b5 w' hA)
    have k6 := row_cells (b6 w' hA) 0 _ rfl
    have k7 := row_cells (b7 w' hA) 0 _ rfl
    have k8 := row_cells (b8 w' hA) 0 _ rfl
    have k9 := row_cells (b9 w' hA) 0 _ rfl
    have k11 := row_cells (b11 w' hA) 0 _ rfl
    have one : ∀ {α : Type} {a : α} {i : Nat}, i < [a].length → i = 0 := fun {α a i} h => by simp at h; exact h
    subst hXd
    refine ⟨fun i hi => ?_, fun i hi => ?_, fun i hi => ?_, fun i hi => ?_, by show 1 ≤ 9223372036854775807; decide, fun l hl => by obtain rfl := List.mem_singleton.1 hl; show 1 ≤ 8796093022208; decide, by show 1 ≤ 9223372036854775807; decide, fun l hl => by obtain rfl := List.mem_singleton.1 hl; show 1 ≤ 9223372036854775807; decide, by show 1 ≤ 9223372036854775807; decide, by show 1 ≤ 9223372036854775807; decide, fun l hl => by obtain rfl := List.mem_singleton.1 hl; show 1 ≤ 9223372036854775807; decide, by show 1 ≤ 9223372036854775807; decide⟩
    · obtain rfl := one hi
      refine ⟨rfl, _, _, by rw [Option.getD_some, Addr.add_lit]; exact k6, fun j hj => ?_⟩
      obtain rfl := one hj
      refine ⟨rfl, fun j x hx => ?_⟩
      rw [Option.getD_some, Addr.add_lit, Nat.zero_mul, Nat.zero_add]
      exact k5 j x hx
    · obtain rfl := one hi
      refine ⟨rfl, _, _, by rw [Option.getD_some, Addr.add_lit]; exact k8, fun j hj => ?_⟩
      obtain rfl := one hj
      exact ⟨rfl, by rw [Option.getD_some, Addr.add_lit]; exact k7⟩
    · obtain rfl := one hi
      exact ⟨rfl, by rw [Option.getD_some, Addr.add_lit]; exact k9⟩
    · obtain rfl := one hi
      exact ⟨rfl, _, _, by rw [Option.getD_some, Addr.add_lit]; exact k11⟩
  refine RunF_sound tab_ok noX_local 100 [] _ _ rfl ?_ ?_
  · simp [fillL, splice, Value.cells, szSSO, szSS, szSSS, szSI, szSSI, Value.oneCell', z39, segsVals]
    all_goals (try exact ⟨⟨rfl, rfl, rfl, rfl, rfl⟩, rfl⟩)
  refine Run.to (t' := [(1, .ptr 0 0), (15, .v (encP X))]) (h' := [(0, .cells 39 [.vals 5 (pV X)])]) (n' := 1) ?_ ⟨rfl, by subst hXd; rfl, trivial⟩ ⟨by subst hXd; rfl, trivial⟩
  have e1 : X.th = [[op7]] := by subst hXd; rfl
  have e2 : X.regs = [[sEAX]] := by subst hXd; rfl
  have e3 : X.locs = [sX] := by subst hXd; rfl
  have e4 : X.ri = [1] := by subst hXd; rfl
  have e5 : X.li = 1 := by subst hXd; rfl
  clear hXd b5 b6 b7 b8 b9 b10 b11 b12
  have hone := pV_one X
  refine Run.callH noX_local (.tup [.sl 1 5 0 3, .v (.int .i64 0)]) [(1, .row 52 5 3 (evsR L3))] 2 rfl rfl rfl rfl rfl rfl list_enters rfl rfl rfl rfl rfl (fun M w' _ hA => ?_) ?_
  · have h1 := list_ok X 0#64 w' (hX w' hA)
    rw [list0 X e1 e2 e3 e4 e5] at h1
    exact h1.to [(1, 0)] rfl ⟨rfl, trivial⟩ rfl
  refine RunF_sound tab_ok noX_local 100 [] _ _ rfl ?_ ?_
  · simp
  refine Run.to (t' := [(1, .ptr 0 0), (2, .sl 1 5 0 3), (3, .v (.int .i64 0))]) (h' := [(0, .cells 39 [.vals 5 (pV X)]), (1, .row 52 5 3 (evsR L3))]) (n' := 2) ?_ ⟨rfl, rfl, rfl, trivial⟩ ⟨rfl, rfl, trivial⟩
  refine Run.freeze (fun M => [(1, .ptr 0 0), (2, .v (.slice (some ⟨(M 1).1, 0, none⟩) 3 (M 1).2)), (3, .v (.int .i64 0))]) [(0, .cells 39 [.vals 5 (pV X)])] 1 (fun M => ⟨⟨_, rfl, by simp [conc]⟩, ⟨_, rfl, by simp [conc]⟩, ⟨_, rfl, by simp [conc]⟩, trivial⟩) ⟨rfl, trivial⟩ ?_
  intro M5 w5 S5 hB hblk hoff _
  have hw5 := hw4.base hB
  have c1 := stands (hblk 1 _ rfl) (hoff 1 _ rfl rfl)
  have c0 := hoff 1 _ rfl rfl
  replace hX := fwd hB hX
  clear hB hblk hoff
  obtain ⟨pe, hpe⟩ : ∃ pe, pe = (⟨(M5 1).1, 0, none⟩ : Addr) := ⟨_, rfl⟩
  have hL : ∀ w', Agree S5 w5 w' → SeesV w' (some pe) L3 := fun w' hA i hi => by
    have k := row_cells (c1 w' hA)
    refine ⟨rfl, fun j x hx => ?_⟩
    rw [hpe, Option.getD_some, Addr.add_lit]
    have hi : i < 3 := hi
    have hj : j < 5 := by have := (List.getElem?_eq_some_iff.1 hx).1; simpa using this
    refine k (i * 5 + j) x ?_
    rcases (show i = 0 ∨ i = 1 ∨ i = 2 by omega) with rfl | rfl | rfl <;> rcases (show j = 0 ∨ j = 1 ∨ j = 2 ∨ j = 3 ∨ j = 4 by omega) with rfl | rfl | rfl | rfl | rfl <;> exact hx
  have hpo : ¬ S5 pe.block := by rw [hpe]; exact c0
  generalize (M5 1).2 = cp
  rw [← hpe]
  have hL5 := hL w5 (Agree.refl _ _)
  have x1 := hL5.ext 1 (by decide)
  have x2 := hL5.ext 2 (by decide)
  have q1 := hL5.some 1 (by decide)
  have q2 := hL5.some 2 (by decide)
  refine Run.drawA noX_local rfl [] [(0, .cells 39 [.vals 5 (pV X)])] rfl rfl ⟨rfl, trivial⟩ ?_
  refine RunOF_sound tab_ok noX_local rfl rfl 400 [true, true] _ _ rfl ?_ ?_
  · simp
    exact ⟨q1, by rw [add_block]; exact hpo⟩
  refine RunO.build tab_ok rfl rfl rfl rfl rfl rfl rfl ?_ ?_
  · simp [fillL, Value.cells, splice, szBool]
    try exact ⟨⟨rfl, rfl⟩, rfl⟩
  refine RunO.cmp rfl rfl rfl rfl rfl rfl rfl (b := true) (c := true) ((congrArg (fun l => EqT Tryd.prog 52 (List.toArray l) (evV ⟨3, 0, 0, 0, true⟩).toArray true) x1).mpr (eqEv ⟨3, 0, 0, 0, true⟩ ⟨3, 0, 0, 0, true⟩)) (.inl ⟨rfl, rfl⟩) ?_
  refine RunOF_sound tab_ok noX_local rfl rfl 400 [true, true] _ _ rfl ?_ ?_
  · simp
  refine RunO.build tab_ok rfl rfl rfl rfl rfl rfl rfl ?_ ?_
  · simp [fillL, Value.cells, splice, z30]
  refine RunO.build tab_ok rfl rfl rfl rfl rfl rfl rfl ?_ ?_
  · simp [fillL, Value.cells, splice, z30, szInt, szA, z32]
  refine RunO.callFn (r := encRel R12) noX_local rfl rfl rfl rfl rfl rfl rfl rfl rmw_enters rfl (fun w' hA => ?_) ?_
  · have h1 := rmw_ok (some pe) cp L3 w' (hL w' hA)
    rw [rmw0] at h1; exact h1
  refine RunOF_sound tab_ok noX_local rfl rfl 400 [] _ _ rfl ?_ ?_
  · simp
  refine RunO.cmp rfl rfl rfl rfl rfl rfl rfl (b := true) (c := true) ?_ (.inl ⟨rfl, rfl⟩) ?_
  · have h := eqRel R12 R12
    rw [decide_eq_true rfl] at h
    exact h
  refine RunOF_sound tab_ok noX_local rfl rfl 400 [true] _ _ rfl ?_ ?_
  · simp
    exact ⟨q2, by rw [add_block]; exact hpo⟩
  refine RunO.callFn (r := .string ⟨#[48, 58, 48, 58, 87, 120, 42]⟩) noX_local rfl rfl rfl rfl rfl rfl rfl rfl text_enters rfl (fun w' hA => (congrArg (fun l => Gives Tryd.prog 30 [encP X, .agg (List.toArray l)] w' (.string ⟨#[48, 58, 48, 58, 87, 120, 42]⟩)) x2).mpr (text_ok X w' (hX w' hA) e3)) ?_
  refine RunOF_sound tab_ok noX_local rfl rfl 400 [] _ _ rfl ?_ ?_
  · simp
  refine RunO.done ?_
  refine RunF_sound tab_ok noX_local 100 [] _ _ rfl ?_ ?_
  · simp
  exact Run.retB (Ds := []) tab_ok noX_local hw5 Tryd.func12 rfl trivial (fun M => congrArg Value.bool (beq_self_eq_true _))
theorem awake_enters : Enters Tryd.prog 12 := enters_mk Tryd.func12 (by decide) rfl
end Go.Proofs.YtehimiadpgbhmaaDoor

/-
  EventShapes walked: how many tries, what fails, the list. Own work.
-/
namespace Go.Proofs.YtehimiadpgbhmaaDoor
open Go.AM
set_option maxRecDepth 100000

/-- What fails, of the tries that there are. -/
def cutF (f : BitVec 64) (n : Nat) : BitVec 64 := f &&& ((1#64 <<< n) - 1#64)
theorem cutMask_get (n j : Nat) (hn : n < 64) (hj : j < 64) : ((1#64 <<< n) - 1#64).getLsbD j = decide (j < n) := by
  have h : ((1#64 <<< n) - 1#64) = BitVec.ofNat 64 (2 ^ n - 1) := by
    have h1 : (1#64 <<< n).toNat = 2 ^ n := by
      rw [BitVec.toNat_shiftLeft, Nat.shiftLeft_eq]
      have : 2 ^ n < 2 ^ 64 := Nat.pow_lt_pow_right (by decide) hn
      simp; omega
    apply BitVec.eq_of_toNat_eq
    have h2 : 0 < 2 ^ n := Nat.two_pow_pos n
    have h3 : 2 ^ n < 2 ^ 64 := Nat.pow_lt_pow_right (by decide) hn
    rw [BitVec.toNat_sub, h1, BitVec.toNat_ofNat]
    simp
    omega
  rw [h, BitVec.getLsbD_ofNat, Nat.testBit_two_pow_sub_one]
  simp [hj]
theorem cutF_get (f : BitVec 64) (n j : Nat) (hn : n < 64) : (cutF f n).getLsbD j = (f.getLsbD j && decide (j < n)) := by
  unfold cutF
  rw [BitVec.getLsbD_and]
  rcases Nat.lt_or_ge j 64 with hj | hj
  · rw [cutMask_get n j hn hj]
  · rw [BitVec.getLsbD_of_ge f j hj]; simp
theorem cutF_past (f : BitVec 64) (n : Nat) (hn : n < 64) : cutF f n >>> n = 0#64 := by
  apply BitVec.eq_of_getLsbD_eq
  intro j hj
  rw [BitVec.getLsbD_ushiftRight, cutF_get f n _ hn, BitVec.getLsbD_zero]
  have : ¬ n + j < n := by omega
  simp [this]
theorem cntB_le (f : BitVec 64) : ∀ k, cntB f k ≤ k
  | 0 => Nat.le_refl _
  | k + 1 => by have := cntB_le f k; simp only [cntB]; split <;> omega

theorem gen_checkI {n : Nat} (hn : n ≤ 64) {q : Nat → Nat → Bool} (h : ∀ {x y : Nat}, q x y = true → x < n ∧ y < n) : checkI (Rl.gen (n : Int) q) = 0 := by
  have hN : (Rl.gen (n : Int) q).n = (n : Int) := Rl.n_gen _ _
  unfold checkI
  have hg : ∀ i, i < 64 → good (Rl.gen (n : Int) q) i = true := fun i hi => (good_iff _ i (by rw [hN]; omega)).2 fun b hb ⟨h1, h2⟩ => by
    rw [Rl.has_gen] at h1
    simp only [Bool.and_eq_true] at h1
    have := h h1.2
    rw [hN] at h2
    omega
  rw [if_neg (by rw [hN]; omega), if_pos hg]
theorem evsR_get : ∀ (L : List Ev) (i : Nat) (hi : i < L.length) (j : Nat), j < 5 → (evsR L)[i * 5 + j]? = (evV L[i])[j]?
  | [], i, hi, _, _ => by simp at hi
  | e :: L, 0, _, j, hj => by
    show (evV e ++ evsR L)[0 * 5 + j]? = _
    rw [Nat.zero_mul, Nat.zero_add, List.getElem?_append_left (by simpa using hj)]; rfl
  | e :: L, i + 1, hi, j, hj => by
    show (evV e ++ evsR L)[(i + 1) * 5 + j]? = _
    rw [List.getElem?_append_right (by simp; omega)]
    have h := evsR_get L i (by simpa using hi) j hj
    rw [show (i + 1) * 5 + j - (evV e).length = i * 5 + j by simp; omega, h]; rfl
theorem seesV_row {M : AM.Loc} {w : World} {id e n : Nat} {L : List Ev} (hb : BlkAt M w id (.row e 5 n (evsR L))) : SeesV w (some ⟨(M id).1, 0, none⟩) L := by
  intro i hi
  refine ⟨rfl, fun j x hx => ?_⟩
  have hj : j < 5 := by have := (List.getElem?_eq_some_iff.1 hx).1; simpa using this
  rw [Option.getD_some, Addr.add_lit]
  exact row_cells hb _ _ ((evsR_get L i hi j hj).trans hx)

set_option maxHeartbeats 8000000 in
theorem eventShapes_ok (p : Pn) (f : BitVec 64) (w : World) (hP : SeesP w p) : Gives Tryd.prog 4 [encP p, .int .u64 (un f)] w (.bool true) := by
  refine Gives.of_run Tryd.func4 rfl (by show 2 ≤ 194; decide) ?_
  have hone := pV_one p
  refine RunF_sound tab_ok noX_local 100 [] _ _ rfl ?_ ?_
  · simp
  refine Run.callFn (r := .bool true) noX_local rfl rfl rfl rfl rfl rfl rfl awake_enters rfl (fun w' _ => awake_ok w') ?_
  refine RunF_sound tab_ok noX_local 100 [false] _ _ rfl ?_ ?_
  · simp
  refine Run.callFn (r := triesV p) noX_local rfl rfl rfl rfl rfl rfl rfl tries_enters rfl (fun w' hA => tries_ok p w' (hP.agree hA)) ?_
  by_cases hv : validN p = 0
  rotate_left
  · rw [show triesV p = .tuple #[.int .i64 0, .int .i64 (validN p)] by unfold triesV; rw [if_neg hv]]
    refine RunF_sound tab_ok noX_local 100 [] _ _ rfl ?_ ?_
    · simp
    refine Run.callFn (r := .int .i64 (validN p)) noX_local rfl rfl rfl rfl rfl rfl rfl valid_enters rfl (fun w' hA => valid_ok p w' (hP.agree hA)) ?_
    refine RunF_sound tab_ok noX_local 100 [false, true] _ _ rfl ?_ ?_
    · simp [hv]
    exact Run.retP tab_ok Tryd.func4 rfl trivial (fun M => rfl)
  obtain ⟨h4, h16, h64⟩ := valid_le hv
  rw [show triesV p = .tuple #[.int .i64 (allN tryN p.th), .int .i64 0] by unfold triesV; rw [if_pos hv]]
  have htry := all_try p.th
  have hn32 : allN tryN p.th ≤ 32 := by unfold evsP at h64; omega
  have hn64 : (allN tryN p.th : Int) < 64 := by omega
  refine RunF_sound tab_ok noX_local 100 [] _ _ rfl ?_ ?_
  · simp
  refine Run.callFn (r := .int .i64 (validN p)) noX_local rfl rfl rfl rfl rfl rfl rfl valid_enters rfl (fun w' hA => valid_ok p w' (hP.agree hA)) ?_
  rw [hv]
  obtain ⟨F, hF⟩ : ∃ F, F = cutF f (allN tryN p.th) := ⟨_, rfl⟩
  have hF0 : F >>> (allN tryN p.th) = 0#64 := by rw [hF]; exact cutF_past f _ (by omega)
  refine RunF_sound tab_ok noX_local 100 [false, false, true] _ _ rfl ?_ ?_
  · simp [hn64]
    rw [wrapn _ (by omega)]; omega
  refine Run.toC (t' := [(2, .ptr 0 0), (5, .v (.int .i64 (allN tryN p.th : Int))), (7, .v (.int .u64 (un F))), (8, .v (.int .i64 (0 : Int))), (9, .v (.int .i64 (0 : Int)))]) (h' := [(0, .cells 39 [.vals 5 (pV p)])]) (n' := 1) ?_ ⟨inTC_same rfl, inTC_same rfl, ⟨_, rfl, fun M => ?_⟩, inTC_same rfl, inTC_same rfl, trivial⟩ ⟨rfl, trivial⟩
  rotate_left
  · show Value.int .u64 _ = Value.int .u64 _
    rw [wrapn _ (by omega), show (1 : Int) = un 1#64 from rfl, shl_un, sub_un, band_un, hF, Int.toNat_natCast]
    rfl
  suffices H : ∀ (d i : Nat), i + d = 64 → ∀ σ, inT σ.t [(2, .ptr 0 0), (5, .v (.int .i64 (allN tryN p.th : Int))), (7, .v (.int .u64 (un F))), (8, .v (.int .i64 (cntB F i : Int))), (9, .v (.int .i64 (i : Int)))] → inT σ.h [(0, .cells 39 [.vals 5 (pV p)])] → Run _ _ σ by
    exact H 64 0 (by omega) _ ⟨rfl, rfl, rfl, rfl, rfl, trivial⟩ ⟨rfl, trivial⟩
  intro d
  induction d with
  | succ d ih =>
    intro i hi σ ht hh
    refine Run.to ?_ ht hh (n' := 1)
    have hc := cntB_le F i
    refine RunF_sound tab_ok noX_local 100 [true] _ _ rfl ?_ ?_
    · simp
      rw [wrapn i (by omega)]; omega
    refine ih (i + 1) (by omega) _ ⟨rfl, rfl, rfl, i64_eq ?_, i64_eq (wrap_succ (by omega)), trivial⟩ ⟨rfl, trivial⟩
    rw [wrapn i (by omega), shr_un, Int.toNat_natCast, bandb']
    simp only [cntB]
    by_cases hb : F.getLsbD i = true
    · rw [if_pos hb, if_pos hb, wrap_i64 (x := 1) (by omega) (by omega), wrap_i64 (by omega) (by omega)]; omega
    · rw [if_neg hb, if_neg hb, wrap_i64 (x := 0) (by omega) (by omega), wrap_i64 (by omega) (by omega)]; omega
  | zero =>
  intro i hi σ ht hh
  refine Run.to ?_ ht hh (n' := 1)
  obtain rfl : i = 64 := by omega
  have hn := listF_n p.locs.length p.th F (by omega) (fun j hj => by rw [hF, cutF_get f _ _ (by omega)]; simp; omega)
  have hz : listZ p F = (.tup [vZ 0 (listF p.locs.length p.th F), .v (.int .i64 0)], vBk 0 (listF p.locs.length p.th F)) := by unfold listZ; rw [if_neg (by rw [hv]; simp), if_neg (fun h => h.2 hF0)]
  have hidx0 : ∀ L, L = listF p.locs.length p.th F → ∀ {a b : Nat} (hab : a < b) (hb : b < L.length), togB (L[a]'(by omega)) L[b] = true → (L[a]'(by omega)).index ≤ L[b].index := by
    rintro _ rfl a b hab hb ht
    exact listF_idx p.locs.length p.th F hab hb ht
  have hlo := fun w' (hA : Agree (fun _ => False) w w') => list_ok p F w' (hP.agree hA)
  rw [hz] at hlo
  have hle : (listF p.locs.length p.th F).length ≤ 64 := by unfold evsP at h64; omega
  have hev : evsP p = (listF p.locs.length p.th F).length + cntB F 64 := by unfold evsP; omega
  clear hz ht hh
  obtain ⟨L, hL⟩ : ∃ L, L = listF p.locs.length p.th F := ⟨_, rfl⟩
  have hidx := @hidx0 L hL
  rw [← hL] at hlo hle hev hn
  clear hL hidx0
  refine RunF_sound tab_ok noX_local 100 [false] _ _ rfl ?_ ?_
  · simp
  suffices H : ∀ (pe : Option Addr) (cp : Nat) (w5 : World) (S5 : Foot), Based w w5 S5 → (∀ w', Agree S5 w5 w' → SeesV w' pe L) → (∀ a, pe = some a → ¬ S5 a.block) →
      Run ((fnP Tryd.prog 4 (Tryd.f4).ntmps w (.bool true)).rebase w5 S5) _ ⟨[(2, .ptr 0 0), (8, .v (.int .i64 (cntB F 64 : Int))), (58, .v (.tuple #[.slice pe L.length cp, .int .i64 0]))], [(0, .cells 39 [.vals 5 (pV p)])], 1⟩ by
    have lc : L = [] ∨ ∃ e M, L = e :: M := by
      cases L with
      | nil => exact .inl rfl
      | cons e M => exact .inr ⟨e, M, rfl⟩
    rcases lc with h | ⟨e, M, h⟩
    · refine Run.callH noX_local (.tup [.v (.slice none 0 0), .v (.int .i64 0)]) [] 1 rfl rfl rfl rfl rfl rfl list_enters rfl rfl rfl rfl rfl (fun M w' _ hA => ?_) ?_
      · have h1 := hlo w' hA
        rw [h] at h1
        exact h1
      refine Run.freeze (fun M => [(2, .ptr 0 0), (8, .v (.int .i64 (cntB F 64 : Int))), (58, .v (.tuple #[.slice none L.length 0, .int .i64 0]))]) [(0, .cells 39 [.vals 5 (pV p)])] 1 (fun M => ⟨⟨_, rfl, by simp [conc]⟩, ⟨_, rfl, by simp [conc]⟩, ⟨_, rfl, by rw [h]; simp [conc, concL]⟩, trivial⟩) ⟨rfl, trivial⟩ ?_
      intro M5 w5 S5 hB hblk hoff _
      exact H none 0 w5 S5 ((Based.refl w).base hB) (fun w' _ i hi => by rw [h] at hi; simp at hi) (fun a ha => by cases ha)
    · refine Run.callH noX_local (.tup [.sl 1 5 0 (M.length + 1), .v (.int .i64 0)]) [(1, .row 52 5 (M.length + 1) (evsR (e :: M)))] 2 rfl rfl rfl rfl rfl rfl list_enters rfl rfl rfl rfl rfl (fun M' w' _ hA => ?_) ?_
      · have h1 := hlo w' hA
        rw [h] at h1
        exact h1.to [(1, 0)] rfl ⟨rfl, trivial⟩ rfl
      refine Run.freeze (fun M' => [(2, .ptr 0 0), (8, .v (.int .i64 (cntB F 64 : Int))), (58, .v (.tuple #[.slice (some ⟨(M' 1).1, 0, none⟩) L.length (M' 1).2, .int .i64 0]))]) [(0, .cells 39 [.vals 5 (pV p)])] 1 (fun M => ⟨⟨_, rfl, by simp [conc]⟩, ⟨_, rfl, by simp [conc]⟩, ⟨_, rfl, by rw [h]; simp [conc, concL]⟩, trivial⟩) ⟨rfl, trivial⟩ ?_
      intro M5 w5 S5 hB hblk hoff _
      have c1 := stands (hblk 1 _ rfl) (hoff 1 _ rfl rfl)
      have c0 := hoff 1 _ rfl rfl
      exact H (some ⟨(M5 1).1, 0, none⟩) (M5 1).2 w5 S5 ((Based.refl w).base hB) (fun w' hA => by have := seesV_row (c1 w' hA); rw [h]; exact this) (fun a ha => by cases ha; exact c0)
  clear hlo
  intro pe cp w5 S5 hw5 hL hpo
  have hPA : ∀ w', Agree S5 w5 w' → SeesP w' p := fun w' hA => hP.agree (hw5.later hA)
  refine RunF_sound tab_ok noX_local 100 [false, false] _ _ rfl ?_ ?_
  · simp
    omega
  refine Run.callFn (r := .int .i64 (evsP p)) noX_local rfl rfl rfl rfl rfl rfl rfl events_enters rfl (fun w' hA => events_ok p w' (hPA w' hA) h4 h16) ?_
  refine RunF_sound tab_ok noX_local 100 [false] _ _ rfl ?_ ?_
  · simp
    have hc := cntB_le F 64
    rw [wrap_i64 (by omega) (by omega)]; omega
  refine Run.callFn (r := encRel (pairsL (fun i k a b => decide (i < k) && togB a b) L)) noX_local rfl rfl rfl rfl rfl rfl rfl po_enters rfl (fun w' hA => po_ok pe cp L w' (hL w' hA)) ?_
  refine RunF_sound tab_ok noX_local 100 [] _ _ rfl ?_ ?_
  · simp
  refine Run.callFn (r := encRel (pairsL (fun _ _ a b => togB a b) L)) noX_local rfl rfl rfl rfl rfl rfl rfl int_enters rfl (fun w' hA => int_ok pe cp L w' (hL w' hA)) ?_
  refine RunF_sound tab_ok noX_local 100 [] _ _ rfl ?_ ?_
  · simp
  refine Run.callFn (r := encRel (notL (pairsL (fun _ _ a b => togB a b) L))) noX_local rfl rfl rfl rfl rfl rfl rfl ext_enters rfl (fun w' hA => ext_ok pe cp L w' (hL w' hA)) ?_
  have hsh : shortL L = L := by unfold shortL; rw [if_neg (by omega)]
  obtain ⟨PO, hPO⟩ : ∃ R, R = pairsL (fun i k a b => decide (i < k) && togB a b) L := ⟨_, rfl⟩
  obtain ⟨IN, hIN⟩ : ∃ R, R = pairsL (fun _ _ a b => togB a b) L := ⟨_, rfl⟩
  obtain ⟨EX, hEX⟩ : ∃ R, R = notL IN := ⟨_, rfl⟩
  rw [← hPO, ← hIN, ← hEX]
  refine RunF_sound tab_ok noX_local 100 [] _ _ rfl ?_ ?_
  · simp [relV_one', segsVals]
  refine Run.to (t' := [(10, .v (.slice pe L.length cp)), (11, .ptr 1 0), (12, .ptr 2 0), (13, .ptr 3 0), (14, .v (.int .i64 (0 : Int)))]) (h' := [(1, .cells 32 [.vals 65 (relV PO)]), (2, .cells 32 [.vals 65 (relV IN)]), (3, .cells 32 [.vals 65 (relV EX)])]) (n' := 4) ?_ ⟨rfl, rfl, rfl, rfl, rfl, trivial⟩ ⟨rfl, rfl, rfl, trivial⟩
  have hL5 := hL w5 (Agree.refl _ _)
  have hpn : PO.n = (L.length : Int) := by rw [hPO]; unfold pairsL; rw [hsh]; rfl
  have hin : IN.n = (L.length : Int) := by rw [hIN]; unfold pairsL; rw [hsh]; rfl
  have hri : rightL IN = IN := by
    rw [hIN]; unfold pairsL; rw [hsh]
    exact rightL_of _ (gen_checkI hle (fun h => atB_lt h))
  have hen : EX.n = (L.length : Int) := by rw [hEX, not_eq, hri, Rl.n_gen, hin]
  have hp1 : ∀ {a b : Nat} (ha : a < L.length) (hb : b < L.length), PO.has a b = (decide (a < b) && togB L[a] L[b]) := fun {a b} ha hb => by
    rw [hPO]; unfold pairsL
    rw [hsh, Rl.has_gen, atB_at ha hb]
    have : a < 64 ∧ b < 64 := by omega
    simp [this]
  have hi1 : ∀ {a b : Nat} (ha : a < L.length) (hb : b < L.length), IN.has a b = togB L[a] L[b] := fun {a b} ha hb => by
    rw [hIN]; unfold pairsL
    rw [hsh, Rl.has_gen, atB_at ha hb]
    have : a < 64 ∧ b < 64 := by omega
    simp [this]
  have he1 : ∀ {a b : Nat} (ha : a < L.length) (hb : b < L.length), EX.has a b = !togB L[a] L[b] := fun {a b} ha hb => by
    rw [hEX, not_eq, hri, Rl.has_gen, pNot, hin, hi1 ha hb]
    have : a < 64 ∧ b < 64 := by omega
    simp [this, ha, hb]
  clear hPO hIN hEX hri
  suffices H : ∀ (d a : Nat), a + d = L.length → ∀ σ, inT σ.t [(10, .v (.slice pe L.length cp)), (11, .ptr 1 0), (12, .ptr 2 0), (13, .ptr 3 0), (14, .v (.int .i64 (a : Int)))] → inT σ.h [(1, .cells 32 [.vals 65 (relV PO)]), (2, .cells 32 [.vals 65 (relV IN)]), (3, .cells 32 [.vals 65 (relV EX)])] → Run _ _ σ by
    exact H L.length 0 (by omega) _ ⟨rfl, rfl, rfl, rfl, rfl, trivial⟩ ⟨rfl, rfl, rfl, trivial⟩
  intro d
  induction d with
  | zero =>
    intro a ha σ ht hh
    refine Run.to ?_ ht hh (n' := 4)
    refine RunF_sound tab_ok noX_local 100 [false, true, true] _ _ rfl ?_ ?_
    · simp [hpn, hin, hen]
      omega
    refine Run.retB (Ds := []) tab_ok noX_local hw5 Tryd.func4 rfl trivial (fun M => ?_)
    show Value.bool (EX.n == (L.length : Int)) = _
    rw [hen]; simp
  | succ d ih =>
    intro a ha σ ht hh
    refine Run.to ?_ ht hh (n' := 4)
    have han : a < L.length := by omega
    have hvp := (hL5 a han).1
    have hae := hL5.ext a han
    have has := hL5.some a han
    have hat := hL5.field a han (evV_1 _)
    have hai := hL5.field a han (evV_2 _)
    refine RunF_sound tab_ok noX_local 100 [true] _ _ rfl ?_ ?_
    · simp; omega
    suffices H2 : ∀ (m b : Nat), b + m = L.length → ∀ σ, inT σ.t [(10, .v (.slice pe L.length cp)), (11, .ptr 1 0), (12, .ptr 2 0), (13, .ptr 3 0), (14, .v (.int .i64 (a : Int))), (15, .v (.int .i64 (b : Int)))] → inT σ.h [(1, .cells 32 [.vals 65 (relV PO)]), (2, .cells 32 [.vals 65 (relV IN)]), (3, .cells 32 [.vals 65 (relV EX)])] → Run _ _ σ by
      exact H2 L.length 0 (by omega) _ ⟨rfl, rfl, rfl, rfl, rfl, rfl, trivial⟩ ⟨rfl, rfl, rfl, trivial⟩
    clear ht hh
    intro m
    induction m with
    | zero =>
      intro b hb σ ht hh
      refine Run.to ?_ ht hh (n' := 4)
      refine RunF_sound tab_ok noX_local 100 [false] _ _ rfl ?_ ?_
      · simp; omega
      exact ih (a + 1) (by omega) _ ⟨rfl, rfl, rfl, rfl, i64_eq (wrap_succ (by omega)), trivial⟩ ⟨rfl, rfl, rfl, trivial⟩
    | succ m ihb =>
      intro b hb σ ht hh
      refine Run.to ?_ ht hh (n' := 4)
      have hbn : b < L.length := by omega
      have ha64 : a < 64 := by omega
      have hb64 : b < 64 := by omega
      have hwb := wrapn b (by omega)
      have hbt := hL5.field b hbn (evV_1 _)
      have hbi := hL5.field b hbn (evV_2 _)
      refine RunF_sound tab_ok noX_local 100 [true] _ _ rfl ?_ ?_
      · simp; omega
      refine Run.drawA noX_local rfl [] [(1, .cells 32 [.vals 65 (relV PO)]), (2, .cells 32 [.vals 65 (relV IN)]), (3, .cells 32 [.vals 65 (relV EX)])] rfl rfl ⟨rfl, rfl, rfl, trivial⟩ ?_
      refine RunOF_sound tab_ok noX_local rfl rfl 400 [] _ _ rfl ?_ ?_
      · simp [relV_get _ _ ha64, intAt_row _ _ ha64, hwb]
        omega
      refine RunO.done ?_
      have hval : ∀ (M : AM.Loc) (R : Rl), conc M (.v (.int .u64 (band .u64 (shrI .u64 (intAt (relV R) (0 + 1 - 0 + (a : Int).toNat * 1)) (IntKind.u64.wrap (b : Int))) 1))) = .int .u64 (if R.has a b = true then 1 else 0) := fun M R => by
        have e : intAt (relV R) (0 + 1 - 0 + (a : Int).toNat * 1) = un (R.row a) := by rw [Int.toNat_natCast, Nat.mul_one]; exact intAt_row _ _ ha64
        rw [e, hwb, shr_un, Int.toNat_natCast, bandb']; rfl
      obtain ⟨T, hT⟩ : ∃ T, T = togB L[a] L[b] := ⟨_, rfl⟩
      refine Run.toC (t' := [(10, .v (.slice pe L.length cp)), (11, .ptr 1 0), (12, .ptr 2 0), (13, .ptr 3 0), (14, .v (.int .i64 (a : Int))), (15, .v (.int .i64 (b : Int))), (16, .v (.int .u64 (if (decide (a < b) && T) = true then 1 else 0))), (17, .v (.int .u64 (if T = true then 1 else 0))), (18, .v (.int .u64 (if T = true then 0 else 1)))]) (h' := [(1, .cells 32 [.vals 65 (relV PO)]), (2, .cells 32 [.vals 65 (relV IN)]), (3, .cells 32 [.vals 65 (relV EX)])]) (n' := 4) ?_ ⟨inTC_same rfl, inTC_same rfl, inTC_same rfl, inTC_same rfl, inTC_same rfl, inTC_same rfl, ⟨_, rfl, fun M => ?_⟩, ⟨_, rfl, fun M => ?_⟩, ⟨_, rfl, fun M => ?_⟩, trivial⟩ ⟨rfl, rfl, rfl, trivial⟩
      rotate_left
      · rw [hval M PO, hp1 han hbn, ← hT]; rfl
      · rw [hval M IN, hi1 han hbn, ← hT]; rfl
      · rw [hval M EX, he1 han hbn, ← hT]
        cases T <;> rfl
      have hnx := ihb (b + 1) (by omega)
      have hth : T = true → L[a].thread = L[b].thread := fun h => by
        rw [h] at hT
        simp only [togB, Eq.comm (a := true), Bool.and_eq_true, decide_eq_true_eq] at hT
        exact hT.1
      clear hp1 hi1 he1 ih ihb
      cases T with
      | false =>
        simp only [Bool.and_false, Bool.false_eq_true, if_false]
        refine RunF_sound tab_ok noX_local 100 [] _ _ rfl ?_ ?_
        · simp
        refine Run.drawA noX_local rfl [] [] rfl rfl trivial ?_
        refine RunOF_sound tab_ok noX_local rfl rfl 400 [false, false, true, false] _ _ rfl ?_ ?_
        · simp
          decide
        refine RunO.done ?_
        refine RunF_sound tab_ok noX_local 100 [] _ _ rfl ?_ ?_
        · simp
        exact hnx _ ⟨rfl, rfl, rfl, rfl, rfl, i64_eq (wrap_succ (by omega)), trivial⟩ ⟨rfl, rfl, rfl, trivial⟩
      | true =>
        simp only [Bool.and_true, if_true]
        have hte := hth rfl
        by_cases hab : a < b
        · have hix := hidx hab hbn hT.symm
          rw [if_pos (decide_eq_true hab)]
          refine RunF_sound tab_ok noX_local 100 [] _ _ rfl ?_ ?_
          · simp
          refine Run.drawA noX_local rfl [] [] rfl rfl trivial ?_
          refine RunOF_sound tab_ok noX_local rfl rfl 400 [false, true, false, false, false, false, false] _ _ rfl ?_ ?_
          · simp [hat, hai, hbt, hbi, hte]
            have hS : ¬ S5 (pe.getD default).block := hpo _ hvp
            exact ⟨by decide, hab, ⟨hvp, han⟩, by rw [add_block, add_block]; exact hS, ⟨hvp, hbn⟩, by rw [add_block, add_block]; exact hS, ⟨hvp, han⟩, by rw [add_block, add_block]; exact hS, ⟨hvp, hbn⟩, by rw [add_block, add_block]; exact hS, hix⟩
          refine RunO.done ?_
          refine RunF_sound tab_ok noX_local 100 [] _ _ rfl ?_ ?_
          · simp
          exact hnx _ ⟨rfl, rfl, rfl, rfl, rfl, i64_eq (wrap_succ (by omega)), trivial⟩ ⟨rfl, rfl, rfl, trivial⟩
        · rw [if_neg (by rw [decide_eq_false hab]; exact Bool.false_ne_true)]
          refine RunF_sound tab_ok noX_local 100 [] _ _ rfl ?_ ?_
          · simp
          refine Run.drawA noX_local rfl [] [] rfl rfl trivial ?_
          refine RunOF_sound tab_ok noX_local rfl rfl 400 [false, false, true, true] _ _ rfl ?_ ?_
          · simp
            decide
          refine RunO.done ?_
          refine RunF_sound tab_ok noX_local 100 [false] _ _ rfl ?_ ?_
          · simp [hab]
          exact hnx _ ⟨rfl, rfl, rfl, rfl, rfl, i64_eq (wrap_succ (by omega)), trivial⟩ ⟨rfl, rfl, rfl, trivial⟩
theorem eventShapes_enters : Enters Tryd.prog 4 := enters_mk Tryd.func4 (by decide) rfl
end Go.Proofs.YtehimiadpgbhmaaDoor

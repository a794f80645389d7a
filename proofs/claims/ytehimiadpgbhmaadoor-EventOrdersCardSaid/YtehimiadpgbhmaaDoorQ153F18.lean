/-
  Own work, merged: J1, J2, T11, E3, T12, AM29, T13, O4.
-/
import Derived.AtR
import Derived.Below
import Derived.ChangeKeysEq
import Derived.KernelRfl
import Derived.Laws.AppendOwn
import Derived.Laws.BytesString
import Derived.Laws.Cells
import Derived.Laws.CopyRow
import Derived.Laws.Entries
import Derived.Laws.Rows
import Derived.Laws.Small
import Derived.Laws.StructEq
import Derived.Lib.TrailingZeros
import Derived.MapKept
import Derived.Maps.AppendAt
import Derived.Orders
import Derived.RangeFuncRecord
import Derived.Shelf.Lay
import Derived.Shelf.Strconv.Itoa3
import Derived.Test.YtehimiadpgbhmaaDoorChecked
import Derived.Test.YtehimiadpgbhmaaDoorProg
import Derived.Test.YtehimiadpgbhmaaDoorQ68E839
/-
  strconv.Itoa: the shelf's contracts laid here, with this seat's numbers. Own work; printed by a program of our own (tools/gen_lays.py).
-/
namespace Go.Proofs
open Go.Shelf
def Tryd.lays171_ren : Go.Shelf.Ren := ⟨fun | 171 => 49 | 243 => 56 | 246 => 60 | 283 => 61 | 284 => 62 | 285 => 63 | 286 => 64 | 129 => 66 | 317 => 65 | 318 => 67 | 319 => 68 | 320 => 69 | 337 => 70 | 338 => 54 | n => n, fun | 3 => 3 | 9 => 9 | 2 => 2 | 4 => 4 | 171 => 96 | 0 => 0 | 53 => 29 | 37 => 98 | 5 => 5 | 173 => 99 | 212 => 103 | 51 => 104 | 20 => 20 | 213 => 105 | 46 => 46 | 232 => 109 | 233 => 94 | n => n, fun | 17 => 1 | 18 => 2 | 19 => 0 | n => n⟩
theorem Tryd.lays171 : Lays.n171 Tryd.prog Tryd.lays171_ren where
  mixed := by kernel_rfl
  f129 := Tryd.func66.trans (congrArg some (by kernel_rfl))
  f171 := Tryd.func49.trans (congrArg some (by kernel_rfl))
  f243 := Tryd.func56.trans (congrArg some (by kernel_rfl))
  f246 := Tryd.func60.trans (congrArg some (by kernel_rfl))
  f283 := Tryd.func61.trans (congrArg some (by kernel_rfl))
  f284 := Tryd.func62.trans (congrArg some (by kernel_rfl))
  f285 := Tryd.func63.trans (congrArg some (by kernel_rfl))
  f286 := Tryd.func64.trans (congrArg some (by kernel_rfl))
  f317 := Tryd.func65.trans (congrArg some (by kernel_rfl))
  f318 := Tryd.func67.trans (congrArg some (by kernel_rfl))
  f319 := Tryd.func68.trans (congrArg some (by kernel_rfl))
  f320 := Tryd.func69.trans (congrArg some (by kernel_rfl))
  f337 := Tryd.func70.trans (congrArg some (by kernel_rfl))
  f338 := Tryd.func54.trans (congrArg some (by kernel_rfl))
  t0 := Tryd.underlying0
  a0 := Tryd.isAgg0
  z0 := Tryd.sizeOf0
  v0 := Tryd.zeroValue0
  t2 := Tryd.underlying2
  a2 := Tryd.isAgg2
  z2 := Tryd.sizeOf2
  v2 := Tryd.zeroValue2
  t3 := Tryd.underlying3
  a3 := Tryd.isAgg3
  z3 := Tryd.sizeOf3
  v3 := Tryd.zeroValue3
  t4 := Tryd.underlying4
  a4 := Tryd.isAgg4
  z4 := Tryd.sizeOf4
  v4 := Tryd.zeroValue4
  t5 := Tryd.underlying5
  a5 := Tryd.isAgg5
  z5 := Tryd.sizeOf5
  v5 := Tryd.zeroValue5
  t9 := Tryd.underlying9
  a9 := Tryd.isAgg9
  z9 := Tryd.sizeOf9
  v9 := Tryd.zeroValue9
  t20 := Tryd.underlying20
  a20 := Tryd.isAgg20
  z20 := Tryd.sizeOf20
  v20 := Tryd.zeroValue20
  t37 := Tryd.underlying98
  a37 := Tryd.isAgg98
  z37 := Tryd.sizeOf98
  v37 := Tryd.zeroValue98
  t46 := Tryd.underlying46
  a46 := Tryd.isAgg46
  z46 := Tryd.sizeOf46
  v46 := Tryd.zeroValue46
  t51 := Tryd.underlying104
  a51 := Tryd.isAgg104
  z51 := Tryd.sizeOf104
  v51 := Tryd.zeroValue104
  t53 := Tryd.underlying29
  a53 := Tryd.isAgg29
  z53 := Tryd.sizeOf29
  v53 := Tryd.zeroValue29
  t171 := Tryd.underlying96
  a171 := Tryd.isAgg96
  z171 := Tryd.sizeOf96
  v171 := Tryd.zeroValue96
  t173 := Tryd.underlying99
  a173 := Tryd.isAgg99
  z173 := Tryd.sizeOf99
  v173 := Tryd.zeroValue99
  t212 := Tryd.underlying103
  a212 := Tryd.isAgg103
  z212 := Tryd.sizeOf103
  v212 := Tryd.zeroValue103
  t213 := Tryd.underlying105
  a213 := Tryd.isAgg105
  z213 := Tryd.sizeOf105
  t232 := Tryd.underlying109
  a232 := Tryd.isAgg109
  z232 := Tryd.sizeOf109
  v232 := Tryd.zeroValue109
  t233 := Tryd.underlying94
  a233 := Tryd.isAgg94
  z233 := Tryd.sizeOf94
  v233 := Tryd.zeroValue94
  g17 := by kernel_rfl
  g18 := by kernel_rfl
  g19 := by kernel_rfl
end Go.Proofs

/-
  strconv.Itoa, as our calls know it. Own work.
-/
namespace Go.Proofs.YtehimiadpgbhmaaDoor
open Go.AM
set_option maxRecDepth 100000

theorem itoa_ok (i : Nat) (hi : i < 100) (w : World) : Gives Tryd.prog 49 [.int .i64 (i : Int)] w (.string ⟨(Lib.decDigits i).toArray⟩) :=
  Calls.mono' (Any.strconv_Itoa_small Tryd.lays171 i hi w) fun e w' ⟨h1, h2⟩ => ⟨h1, by rw [h2]; exact Agree.refl _ _⟩
theorem itoa_enters : Enters Tryd.prog 49 := enters_mk Tryd.func49 (by decide) rfl
end Go.Proofs.YtehimiadpgbhmaaDoor

/-
  The text of one event. Own work.
-/
namespace Go.Proofs.YtehimiadpgbhmaaDoor
open Go.AM
set_option maxRecDepth 100000

def sX : ByteArray := ⟨#[120]⟩
def evW : Ev := ⟨2, 0, 0, 0, true⟩
theorem text_ok (p : Pn) (w : World) (hP : SeesP w p) (h : p.locs = [sX]) : Gives Tryd.prog 30 [encP p, encEv evW] w (.string ⟨#[48, 58, 48, 58, 87, 120, 42]⟩) := by
  refine Gives.of_run Tryd.func30 rfl (by show 2 ≤ 63; decide) ?_
  have hone := pV_one p
  have hone2 := evV_one evW
  have hl : p.locs.length = 1 := by rw [h]; rfl
  obtain ⟨hpl, hc⟩ := hP.locs 0 (by omega)
  have h0 : p.locs[0] = sX := by simp [h]
  rw [h0] at hc
  have hc0 : w.cell? ((p.pl.getD default).add 0) = some (.string sX) := hc
  refine RunF_sound tab_ok noX_local 200 [true, true, true] _ _ rfl ?_ ?_
  · simp [hl, evW, hc]
    exact ⟨hpl, by decide⟩
  refine Run.toC (t' := [(2, .ptr 0 0), (3, .ptr 1 0), (5, .v (.string sX))]) (h' := [(0, .cells 39 [.vals 5 (pV p)]), (1, .cells 52 [.vals 5 (evV evW)])]) (n' := 2) ?_ ⟨inTC_same rfl, inTC_same rfl, ⟨_, rfl, fun M => ?_⟩, trivial⟩ ⟨rfl, rfl, trivial⟩
  rotate_left
  · simp [conc, hc, evW]
  refine Run.drawA noX_local rfl [] [(0, .cells 39 [.vals 5 (pV p)]), (1, .cells 52 [.vals 5 (evV evW)])] rfl rfl ⟨rfl, rfl, trivial⟩ ?_
  refine RunOF_sound tab_ok noX_local rfl rfl 400 [] _ _ rfl ?_ ?_
  · simp
  refine RunO.callFn (r := .string ⟨#[48]⟩) noX_local rfl rfl rfl rfl rfl rfl rfl rfl itoa_enters rfl (fun w' _ => by have h := itoa_ok 0 (by decide) w'; rw [show Lib.decDigits 0 = [48] by unfold Lib.decDigits; rfl] at h; exact h) ?_
  refine RunOF_sound tab_ok noX_local rfl rfl 400 [] _ _ rfl ?_ ?_
  · decide
  refine RunO.callFn (r := .string ⟨#[48]⟩) noX_local rfl rfl rfl rfl rfl rfl rfl rfl itoa_enters rfl (fun w' _ => by have h := itoa_ok 0 (by decide) w'; rw [show Lib.decDigits 0 = [48] by unfold Lib.decDigits; rfl] at h; exact h) ?_
  refine RunOF_sound tab_ok noX_local rfl rfl 400 [] _ _ rfl ?_ ?_
  · decide
  refine RunO.done ?_
  refine RunF_sound tab_ok noX_local 200 [false, true, true] _ _ rfl ?_ ?_
  · refine ⟨trivial, rfl, rfl, trivial, rfl, rfl, trivial, rfl, trivial, trivial, by decide, by decide, trivial, trivial, rfl, rfl, trivial, by decide, trivial, trivial, trivial, trivial⟩
  refine Run.retP tab_ok Tryd.func30 rfl trivial (fun M => ?_)
  exact congrArg Value.string (by decide)
theorem text_enters : Enters Tryd.prog 30 := enters_mk Tryd.func30 (by decide) rfl
end Go.Proofs.YtehimiadpgbhmaaDoor

/-
  The relations of events: pairs, Po, Loc, Int, Ext, Rmw. Own work.
-/
namespace Go.Proofs.YtehimiadpgbhmaaDoor
open Go.AM
set_option maxRecDepth 100000

/-- A test of two places of a list. -/
def atB (T : Int → Int → Ev → Ev → Bool) (xs : List Ev) (x y : Nat) : Bool := match xs[x]?, xs[y]? with | some a, some b => T x y a b | _, _ => false
theorem atB_lt {T : Int → Int → Ev → Ev → Bool} {xs : List Ev} {x y : Nat} (h : atB T xs x y = true) : x < xs.length ∧ y < xs.length := by
  unfold atB at h
  split at h
  · rename_i h1 h2
    exact ⟨(List.getElem?_eq_some_iff.1 h1).1, (List.getElem?_eq_some_iff.1 h2).1⟩
  · cases h
theorem atB_at {T : Int → Int → Ev → Ev → Bool} {xs : List Ev} {x y : Nat} (hx : x < xs.length) (hy : y < xs.length) : atB T xs x y = T x y xs[x] xs[y] := by
  unfold atB; rw [List.getElem?_eq_getElem hx, List.getElem?_eq_getElem hy]

def pairsL (T : Int → Int → Ev → Ev → Bool) (xs : List Ev) : Rl := Rl.gen ((shortL xs).length : Int) (atB T (shortL xs))

theorem pairs_ok (g : FuncId) (T : Int → Int → Ev → Ev → Bool) (p : Option Addr) (c : Nat) (xs : List Ev) (w : World) (hs : SeesV w p xs) (hent : Enters Tryd.prog g)
    (hg : ∀ w' i k a b, Gives Tryd.prog g [.int .i64 i, .int .i64 k, encEv a, encEv b] w' (.bool (T i k a b))) :
    Gives Tryd.prog 37 [.slice p xs.length c, .func (.func g) #[] #[]] w (encRel (pairsL T xs)) := by
  refine Gives.of_run Tryd.func37 rfl (by show 2 ≤ 47; decide) ?_
  refine RunF_sound tab_ok noX_local 100 [] _ _ rfl ?_ ?_
  · simp
  refine Run.callFn noX_local rfl rfl rfl rfl rfl rfl rfl short_enters rfl (fun w' _ => short_ok p c xs w') ?_
  obtain ⟨p', c', e1, hs'⟩ := short_form c hs
  have hle := shortL_le xs
  rw [e1]
  unfold pairsL
  generalize shortL xs = L at hs' hle
  have hlt := @atB_lt T L
  have hat := @atB_at T L
  generalize hq : atB T L = q at hlt hat
  refine RunF_sound tab_ok noX_local 100 [] _ _ rfl ?_ ?_
  · simp [fillL, Value.cells, segsVals, relV_tail_one, splice]
    try rfl
  suffices H : ∀ (d i : Nat), i + d = L.length → ∀ σ, inT σ.t [(0, .v (.slice p' L.length c')), (1, .v (.func (.func g) #[] #[])), (4, .ptr 0 0), (5, .ptr 1 0), (15, .v (.slice p' L.length c')), (16, .v (.int .i64 (L.length : Int))), (17, .v (.int .i64 (i : Int)))] →
      inT σ.h [(0, .cells 32 [.vals 65 (relV (Rl.void 0))]), (1, .cells 32 [.vals 65 (relV (Rl.gen (L.length : Int) (Rl.seen q i 0)))])] → Run _ _ σ by
    refine H L.length 0 (by omega) _ ⟨rfl, rfl, rfl, rfl, rfl, rfl, rfl, trivial⟩ ⟨rfl, ?_, trivial⟩
    rw [Rl.seen_0]; rfl
  intro d
  induction d with
  | zero =>
    intro i hi σ ht hh
    refine Run.to ?_ ht hh (n' := 12)
    refine RunF_sound tab_ok noX_local 100 [false] _ _ rfl ?_ ?_
    · simp [segsVals, relV_one']; omega
    refine Run.retP tab_ok Tryd.func37 rfl ?_ (fun M => ?_)
    · simp
    rw [Rl.seen_all (fun x y h => by have := hlt h; omega)]; rfl
  | succ d ih =>
    intro i hi σ ht hh
    refine Run.to ?_ ht hh (n' := 12)
    have hil : i < L.length := by omega
    have f1 := (hs' i hil).1
    have f2 := hs'.ext i hil
    have f3 := hs'.some i hil
    have f4 := evV_one L[i]
    refine RunF_sound tab_ok noX_local 100 [true] _ _ rfl ?_ ?_
    · simp only [fnC_w0, fnC_S0, Int.toNat_natCast, f2]
      simp [segsVals, f4]
      (repeat' refine And.intro ?_ ?_) <;> first | omega | exact f1 | exact f3
    suffices H2 : ∀ (e k : Nat), k + e = L.length → ∀ σ, inT σ.t [(0, .v (.slice p' L.length c')), (1, .v (.func (.func g) #[] #[])), (4, .ptr 0 0), (5, .ptr 1 0), (15, .v (.slice p' L.length c')), (16, .v (.int .i64 (L.length : Int))), (17, .v (.int .i64 (i : Int))), (6, .v (.int .i64 (i : Int))), (7, .ptr 12 0), (22, .v (.slice p' L.length c')), (23, .v (.int .i64 (L.length : Int))), (24, .v (.int .i64 (k : Int)))] →
        inT σ.h [(0, .cells 32 [.vals 65 (relV (Rl.void 0))]), (1, .cells 32 [.vals 65 (relV (Rl.gen (L.length : Int) (Rl.seen q i k)))]), (12, .cells 52 [.vals 5 (evV L[i])])] → Run _ _ σ by
      refine H2 L.length 0 (by omega) _ ⟨rfl, rfl, rfl, rfl, rfl, rfl, rfl, rfl, rfl, rfl, rfl, rfl, trivial⟩ ⟨rfl, rfl, ?_, trivial⟩
      simp only [fnC_w0, Int.toNat_natCast, f2]
      rfl
    intro e
    induction e with
    | zero =>
      intro k hk σ ht hh
      refine Run.to ?_ ht hh (n' := 13)
      refine RunF_sound tab_ok noX_local 100 [false] _ _ rfl ?_ ?_
      · simp; omega
      rw [Rl.seen_row (fun x y h => by have := hlt h; omega)]
      exact ih (i + 1) (by omega) _ ⟨rfl, rfl, rfl, rfl, rfl, rfl, i64_eq (wrap_succ (by omega)), trivial⟩ ⟨rfl, rfl, trivial⟩
    | succ e ihe =>
      intro k hk σ ht hh
      refine Run.to ?_ ht hh (n' := 13)
      have hkl : k < L.length := by omega
      have g1 := (hs' k hkl).1
      have g2 := hs'.ext k hkl
      have g3 := hs'.some k hkl
      have g4 := evV_one L[k]
      have hi' : i < 64 := by omega
      have hqe : q i k = T i k L[i] L[k] := hat hil hkl
      refine RunF_sound tab_ok noX_local 100 [true] _ _ rfl ?_ ?_
      · simp only [fnC_w0, fnC_S0, Int.toNat_natCast, g2]
        simp [segsVals, g4]
        (repeat' refine And.intro ?_ ?_) <;> first | omega | exact g1 | exact g3
      refine Run.callFv (cs := []) (f := g) (r := .bool (T i k L[i] L[k])) noX_local rfl rfl rfl rfl rfl rfl rfl hent rfl (fun w' hA => ?_) ?_
      · have := hg w' i k L[i] L[k]
        simp only [fnC_w0, Int.toNat_natCast, g2]
        exact this
      by_cases ct : T i k L[i] L[k] = true
      · refine RunF_sound tab_ok noX_local 100 [true] _ _ rfl ?_ ?_
        · simp [ct]
        refine Run.drawA noX_local rfl [3] [] rfl rfl trivial ?_
        refine RunOF_sound tab_ok noX_local rfl rfl 100 [] _ _ rfl ?_ ?_
        · simp [relV_get _ _ hi', intAt_row _ _ hi', okCell, Value.oneCell', inT]; omega
        refine RunO.done ?_
        refine RunF_sound tab_ok noX_local 100 [] _ _ rfl ?_ ?_
        · simp
        refine ihe (k + 1) (by omega) _ ⟨rfl, rfl, rfl, rfl, rfl, rfl, rfl, rfl, rfl, rfl, rfl, i64_eq (wrap_succ (by omega)), trivial⟩ ⟨rfl, congrArg (fun l => some (Blk.cells 32 [.vals 65 l])) ?_, rfl, trivial⟩
        simp [intAt_row _ _ hi', shl1_un, relV_set _ _ hi', Rl.seen_yes hi' (show k < 64 by omega) (show q i k = true by rw [hqe, ct])]
      · refine RunF_sound tab_ok noX_local 100 [false] _ _ rfl ?_ ?_
        · simpa using ct
        refine ihe (k + 1) (by omega) _ ⟨rfl, rfl, rfl, rfl, rfl, rfl, rfl, rfl, rfl, rfl, rfl, i64_eq (wrap_succ (by omega)), trivial⟩ ⟨rfl, ?_, rfl, trivial⟩
        rw [← Rl.seen_no (by rw [hqe]; simpa using ct)]; rfl
theorem pairs_enters : Enters Tryd.prog 37 := enters_mk Tryd.func37 (by decide) rfl

theorem po_ok (p : Option Addr) (c : Nat) (xs : List Ev) (w : World) (hs : SeesV w p xs) : Gives Tryd.prog 17 [.slice p xs.length c] w (encRel (pairsL (fun i k a b => decide (i < k) && togB a b) xs)) := by
  refine Gives.of_run Tryd.func17 rfl (by show 1 ≤ 5; decide) ?_
  generalize hX : pairsL (fun i k a b => decide (i < k) && togB a b) xs = X
  refine RunF_sound tab_ok noX_local 100 [] _ _ rfl ?_ ?_
  · simp
  refine Run.callM noX_local rfl rfl rfl rfl rfl rfl pairs_enters rfl (r := encRel X) (fun M w' _ hA => ?_) ?_
  · rw [← hX]; exact pairs_ok 38 _ p c xs w' (hs.agree hA (fun _ _ h => h)) po1_enters (fun w'' i k a b => po1_ok i k a b w'')
  refine RunF_sound tab_ok noX_local 100 [] _ _ rfl ?_ ?_
  · simp [segsVals, relV_one']
  refine Run.retP tab_ok Tryd.func17 rfl ?_ (fun M => ?_)
  · simp
  rfl
theorem po_enters : Enters Tryd.prog 17 := enters_mk Tryd.func17 (by decide) rfl

theorem int_ok (p : Option Addr) (c : Nat) (xs : List Ev) (w : World) (hs : SeesV w p xs) : Gives Tryd.prog 18 [.slice p xs.length c] w (encRel (pairsL (fun _ _ a b => togB a b) xs)) := by
  refine Gives.of_run Tryd.func18 rfl (by show 1 ≤ 5; decide) ?_
  generalize hX : pairsL (fun _ _ a b => togB a b) xs = X
  refine RunF_sound tab_ok noX_local 100 [] _ _ rfl ?_ ?_
  · simp
  refine Run.callM noX_local rfl rfl rfl rfl rfl rfl pairs_enters rfl (r := encRel X) (fun M w' _ hA => ?_) ?_
  · rw [← hX]; exact pairs_ok 40 _ p c xs w' (hs.agree hA (fun _ _ h => h)) int1_enters (fun w'' i k a b => int1_ok i k a b w'')
  refine RunF_sound tab_ok noX_local 100 [] _ _ rfl ?_ ?_
  · simp [segsVals, relV_one']
  refine Run.retP tab_ok Tryd.func18 rfl ?_ (fun M => ?_)
  · simp
  rfl
theorem int_enters : Enters Tryd.prog 18 := enters_mk Tryd.func18 (by decide) rfl

theorem rmw_ok (p : Option Addr) (c : Nat) (xs : List Ev) (w : World) (hs : SeesV w p xs) : Gives Tryd.prog 29 [.slice p xs.length c] w (encRel (pairsL rmwB xs)) := by
  refine Gives.of_run Tryd.func29 rfl (by show 1 ≤ 5; decide) ?_
  generalize hX : pairsL rmwB xs = X
  refine RunF_sound tab_ok noX_local 100 [] _ _ rfl ?_ ?_
  · simp
  refine Run.callM noX_local rfl rfl rfl rfl rfl rfl pairs_enters rfl (r := encRel X) (fun M w' _ hA => ?_) ?_
  · rw [← hX]; exact pairs_ok 48 _ p c xs w' (hs.agree hA (fun _ _ h => h)) rmw1_enters (fun w'' i k a b => rmw1_ok i k a b w'')
  refine RunF_sound tab_ok noX_local 100 [] _ _ rfl ?_ ?_
  · simp [segsVals, relV_one']
  refine Run.retP tab_ok Tryd.func29 rfl ?_ (fun M => ?_)
  · simp
  rfl
theorem rmw_enters : Enters Tryd.prog 29 := enters_mk Tryd.func29 (by decide) rfl

theorem ext_ok (p : Option Addr) (c : Nat) (xs : List Ev) (w : World) (hs : SeesV w p xs) : Gives Tryd.prog 19 [.slice p xs.length c] w (encRel (notL (pairsL (fun _ _ a b => togB a b) xs))) := by
  refine Gives.of_run Tryd.func19 rfl (by show 1 ≤ 6; decide) ?_
  refine RunF_sound tab_ok noX_local 100 [] _ _ rfl ?_ ?_
  · simp
  refine Run.callFn noX_local rfl rfl rfl rfl rfl rfl rfl int_enters rfl (fun w' hA => int_ok p c xs w' (hs.agree hA (fun _ _ h => h))) ?_
  generalize pairsL (fun _ _ a b => togB a b) xs = X
  refine RunF_sound tab_ok noX_local 100 [] _ _ rfl ?_ ?_
  · simp
  generalize hY : notL X = Y
  refine Run.callFn noX_local rfl rfl rfl rfl rfl rfl rfl not_enters rfl (r := encRel Y) (fun w' _ => by rw [← hY]; exact not_ok X w') ?_
  refine RunF_sound tab_ok noX_local 100 [] _ _ rfl ?_ ?_
  · simp [segsVals, relV_one']
  refine Run.retP tab_ok Tryd.func19 rfl ?_ (fun M => ?_)
  · simp
  rfl
theorem ext_enters : Enters Tryd.prog 19 := enters_mk Tryd.func19 (by decide) rfl
end Go.Proofs.YtehimiadpgbhmaaDoor

/-
  The documented example: its list, plain. Own work.
-/
namespace Go.Proofs.YtehimiadpgbhmaaDoor
open Go.AM
set_option maxRecDepth 100000

def sEAX : ByteArray := ⟨#[69, 65, 88]⟩
def op7 : Opn := ⟨7, 0, 0, 0, 0⟩
def L3 : List Ev := [⟨1, -1, 0, 0, false⟩, ⟨3, 0, 0, 0, true⟩, evW]
theorem regB0 : regB sEAX = true := by
  unfold regB sEAX
  rw [ByteArray.toList_eq]; rfl
theorem rises0 : risesB regB [sEAX] = true := by
  have h1 : stepB regB [sEAX] 0 = true := by
    unfold stepB
    simp [regB0]
  unfold risesB
  simp [h1]
theorem nameB0 : nameB sX = true := by
  have h1 : letB (byt sX 0) = true := by decide
  have h2 : sX.size = 1 := rfl
  unfold nameB nameN
  simp [h1, h2, nameFrom]
theorem rises1 : risesB nameB [sX] = true := by
  have h1 : stepB nameB [sX] 0 = true := by
    unfold stepB
    simp [nameB0]
  unfold risesB
  simp [h1]
theorem fits0 (rs : List ByteArray) (hr : rs.length = 1) : fitsB op7 rs 1 = true := by
  have hk : kindK op7.kind = (⟨true, false, true, false, 2⟩, true) := rfl
  unfold fitsB
  rw [hk, hr]
  simp [op7, inB]
theorem valid0 (p : Pn) (h1 : p.th = [[op7]]) (h2 : p.regs = [[sEAX]]) (h3 : p.locs = [sX]) (h4 : p.ri = [1]) (h5 : p.li = 1) : validN p = 0 := by
  have he : evsP p = 3 := by unfold evsP; rw [h1, h3]; rfl
  have hr : regsB p 0 = true := by unfold regsB; rw [h2, h4]; simp [rises0]
  have hf : fitsL p 0 = true := by
    unfold fitsL; rw [h1, h2, h3]
    simp [fits0 [sEAX] rfl]
  unfold validN
  simp [h1, h2, h3, h4, h5, he, hr, hf, rises1]
theorem list0 (p : Pn) (h1 : p.th = [[op7]]) (h2 : p.regs = [[sEAX]]) (h3 : p.locs = [sX]) (h4 : p.ri = [1]) (h5 : p.li = 1) : listZ p 0#64 = (.tup [.sl 0 5 0 3, .v (.int .i64 0)], [(0, .row 52 5 3 (evsR L3))]) := by
  have hv := valid0 p h1 h2 h3 h4 h5
  have hl : listF p.locs.length p.th 0#64 = L3 := by rw [h1, h3]; rfl
  unfold listZ
  rw [if_neg (by rw [hv]; simp), if_neg (by simp), hl]
  rfl
/-- The pair of the read and the write. -/
def R12 : Rl := (Rl.void 3).setRow 1 4#64
theorem rmw0 : pairsL rmwB L3 = R12 := by
  have h1 : shortL L3 = L3 := rfl
  unfold pairsL R12
  rw [h1]
  have h2 := Rl.gen_add 3 (fun _ _ => false) 1 2 (by decide) (by decide)
  rw [← Rl.gen_void] at h2
  have h3 : (Rl.void 3).row 1 ||| 1#64 <<< 2 = 4#64 := by decide
  rw [h3] at h2
  rw [h2]
  refine Rl.gen_congr fun a b ha hb => ?_
  unfold atB
  rcases a with _ | _ | _ | a <;> rcases b with _ | _ | _ | b <;> simp [L3, rmwB, togB, evW]
end Go.Proofs.YtehimiadpgbhmaaDoor

/-
  The abstract machine, twenty-ninth part: calls in a drawn region that hand over new blocks. Own work; over any program.
-/
namespace Go.AM
section
variable {C : Ctx} {held : List (Nat × Blk)} {n0 : Nat} {ops : Array Oper} {i : Nat} {ord : List (Nat × Bool)} {k : List Item} {σ : St} {o : Oper} {c : Call} {g : Operand} {f : FuncId} {caps xs : List AV}

theorem RunO.callH (hL : Local C.X) (z : AV) (h : List (Nat × Blk)) (m : Nat) (ho : ops[i]? = some o) (hop : o.op = .call c) (hc : c.callee = .value g) (hg : σ.ev g = some (.fn f caps)) (hxs : evs σ c.args.toList = some xs) (hw : wantOf ops σ o = some .yes) (hent : Enters C.P f)
    (hd : dstOK C.n o.dst = true) (hbel : σ.bel = true) (hge : hGe σ.nx m h = true) (hz : z.ge σ.nx = true) (hm : Nat.ble σ.nx m = true)
    (hfn : ∀ M w, (∀ id B, lk σ.h id = some B → BlkAt M w id B) → Agree C.S0 C.w0 w → GivesR C.P f (concL M (xs ++ caps)) w (Handed z h w))
    (hr : RunO C held n0 ops ord k (St.put ⟨σ.t, h ++ σ.h, m⟩ o.dst z)) : RunO C held n0 ops ((i, false) :: ord) k σ := by
  refine RunO.alone ho fun M0 M fp a w hM hn hR hS => ?_
  have h2 : c.args.map a.eval = (concL M xs).toArray := by apply Array.ext'; simpa using evs_conc hR.q hxs
  have hrun : (execOp a.eval o).run C.P w = .ok (.enter f (concL M (xs ++ caps)).toArray) w := by
    simp only [execOp, hop, resolve, hc, h2, hR.q.ev hg, conc, Deferred.ofValue]
    simp [invoke, hent _ _, concL_append]
  unfold OpW
  simp only [ho, if_pos (wantOf_yes hR.q hw), hrun]
  refine ⟨fun c e => (by rw [hop] at e; cases e), Calls.mono' (hfn M w hR.heap hR.agree) fun e w' ⟨v, h1, hh⟩ => ?_⟩
  obtain ⟨M', hv, hMM, hR'⟩ := hR.handed hL hh hbel hge hz (Nat.le_of_ble_eq_true hm)
  have hag : Agree (fun _ => False) w w' := hh.1
  subst hv
  refine ⟨_, h1, M', fp, _, ?_, ?_, hR'.put (z := z) (dstOK_lt hd), ?_, hr⟩
  · exact fun i hi => (hMM i (Nat.lt_of_lt_of_le hi hn)).trans (hM i hi)
  · have := Nat.le_of_ble_eq_true hm
    cases o.dst <;> exact Nat.le_trans hn this
  · refine ⟨?_, hS.2.trans hag (fun _ f _ => f.elim)⟩
    intro id B hB
    have := hS.1 id B hB
    exact this.same (hag.block _ this.lt (fun f => f))

/-- A function's value is not nil. -/
theorem Run.fnNil {rest : List Nat} {T : Tab} (hT : tabOK C.P T) {t u : TypeId} {x : Operand} {fv : Fn} {a b : Array Value} {ps rs : Array TypeId} {vd : Bool} (ho : ops[i]? = some o) (hop : o.op = .binOp .eql t x (.const .nilFunc) u) (hx : σ.ev x = some (.v (.func fv a b)))
    (ht : T.desc t = some (.func ps rs vd)) (hw : wantOf ops σ o = some .yes) (hd : dstOK C.n o.dst = true) (h : Run C (.inRegion ops rest :: k) (σ.put o.dst (.tt false))) : Run C (.inRegion ops (i :: rest) :: k) σ := by
  intro M fp ac w hR cs
  obtain ⟨m, s, z⟩ := h M fp _ w (hR.put (z := .tt false) (dstOK_lt hd)) cs
  refine ⟨m, .head (step_value ho (wantOf_yes hR.q hw) (fun c e => by rw [hop] at e; cases e) ?_) s, z⟩
  have hu := eq_func_fn (w := w) (tab_undP hT ht) fv a b
  have h1 := hR.q.ev hx
  simp only [conc] at h1
  have h2 : ac.eval (.const .nilFunc) = .nilFunc := rfl
  simp [execOp, hop, h1, h2, eqGuard, binOp, hu, conc]
end
end Go.AM

/-
  The documented example is as it should be. Own work.
-/
namespace Go.Proofs.YtehimiadpgbhmaaDoor
open Go.AM
set_option maxRecDepth 100000

theorem fwd {S S1 : Foot} {w w1 : World} {P : World → Prop} (hB : Base S w S1 w1) (h : ∀ w', Agree S w w' → P w') : ∀ w', Agree S1 w1 w' → P w' :=
  fun w' hA => h w' (hB.agree.trans hA fun i h1 h2 => hB.old i h1 h2)
theorem stands {M : AM.Loc} {S : Foot} {w : World} {id : Nat} {B : Blk} (hb : BlkAt M w id B) (hn : ¬ S (M id).1) : ∀ w', Agree S w w' → BlkAt M w' id B :=
  fun w' hA => BlkAt.same hb (hA.block _ hb.lt hn)

theorem szI64 : tab.size 2 = some 1 := rfl
theorem szSO : tab.size 61 = some 1 := rfl
theorem szSSO : tab.size 35 = some 1 := rfl
theorem szStr : tab.size 9 = some 1 := rfl
theorem szSS : tab.size 37 = some 1 := rfl
theorem szSSS : tab.size 36 = some 1 := rfl
theorem szSI : tab.size 23 = some 1 := rfl
theorem szA : tab.size 30 = some 64 := rfl
theorem szSSI : tab.size 26 = some 1 := rfl

set_option maxHeartbeats 4000000 in
theorem awake_ok (w : World) : Gives Tryd.prog 12 [] w (.bool true) := by
  refine Gives.of_run Tryd.func12 rfl (by show 0 ≤ 48; decide) ?_
  refine RunF_sound tab_ok noX_local 100 [] _ _ rfl ?_ ?_
  · simp [fillL, repL, splice, Value.cells, maxLen, szI64, opV]
  refine Run.to (t' := [(5, .sl 0 5 0 1)]) (h' := [(0, .row 60 5 1 (opV op7))]) (n' := 1) ?_ ⟨rfl, trivial⟩ ⟨rfl, trivial⟩
  refine Run.freeze (fun M1 => [(5, .v (.slice (some ⟨(M1 0).1, 0, none⟩) 1 (M1 0).2))]) [] 0 (fun M => ⟨⟨_, rfl, by simp [conc]⟩, trivial⟩) trivial ?_
  intro M1 w1 S1 hB hblk hoff _
  have hw1 := (Based.refl w).base hB
  have b5 := stands (hblk 0 _ rfl) (hoff 0 _ rfl rfl)
  clear hB hblk hoff
  refine RunF_sound tab_ok noX_local 100 [] _ _ rfl ?_ ?_
  · simp [fillL, repL, splice, Value.cells, maxLen]
  refine Run.to (t' := [(6, .sl 0 1 0 1), (7, .sl 1 1 0 1)]) (h' := [(0, .row 61 1 1 [.slice (some ⟨(M1 0).1, 0, none⟩) 1 (M1 0).2]), (1, .row 9 1 1 [.string sEAX])]) (n' := 2) ?_ ⟨rfl, rfl, trivial⟩ ⟨rfl, rfl, trivial⟩
  refine Run.freeze (fun M2 => [(6, .v (.slice (some ⟨(M2 0).1, 0, none⟩) 1 (M2 0).2)), (7, .v (.slice (some ⟨(M2 1).1, 0, none⟩) 1 (M2 1).2))]) [] 0 (fun M => ⟨⟨_, rfl, by simp [conc]⟩, ⟨_, rfl, by simp [conc]⟩, trivial⟩) trivial ?_
  intro M2 w2 S2 hB hblk hoff _
  have hw2 := hw1.base hB
  have b6 := stands (hblk 0 _ rfl) (hoff 0 _ rfl rfl)
  have b7 := stands (hblk 1 _ rfl) (hoff 1 _ rfl rfl)
  replace b5 := fwd hB b5
  clear hB hblk hoff
  refine RunF_sound tab_ok noX_local 100 [] _ _ rfl ?_ ?_
  · simp [fillL, repL, splice, Value.cells, maxLen]
  refine Run.to (t' := [(6, .v (.slice (some ⟨(M2 0).1, 0, none⟩) 1 (M2 0).2)), (8, .sl 0 1 0 1), (9, .sl 1 1 0 1), (10, .sl 2 1 0 1)]) (h' := [(0, .row 37 1 1 [.slice (some ⟨(M2 1).1, 0, none⟩) 1 (M2 1).2]), (1, .row 9 1 1 [.string sX]), (2, .row 2 1 1 [.int .i64 0])]) (n' := 3) ?_ ⟨rfl, rfl, rfl, rfl, trivial⟩ ⟨rfl, rfl, rfl, trivial⟩
  refine Run.freeze (fun M3 => [(6, .v (.slice (some ⟨(M2 0).1, 0, none⟩) 1 (M2 0).2)), (8, .v (.slice (some ⟨(M3 0).1, 0, none⟩) 1 (M3 0).2)), (9, .v (.slice (some ⟨(M3 1).1, 0, none⟩) 1 (M3 1).2)), (10, .v (.slice (some ⟨(M3 2).1, 0, none⟩) 1 (M3 2).2))]) [] 0 (fun M => ⟨⟨_, rfl, by simp [conc]⟩, ⟨_, rfl, by simp [conc]⟩, ⟨_, rfl, by simp [conc]⟩, ⟨_, rfl, by simp [conc]⟩, trivial⟩) trivial ?_
  intro M3 w3 S3 hB hblk hoff _
  have hw3 := hw2.base hB
  have b8 := stands (hblk 0 _ rfl) (hoff 0 _ rfl rfl)
  have b9 := stands (hblk 1 _ rfl) (hoff 1 _ rfl rfl)
  have b10 := stands (hblk 2 _ rfl) (hoff 2 _ rfl rfl)
  replace b5 := fwd hB b5
  replace b6 := fwd hB b6
  replace b7 := fwd hB b7
  clear hB hblk hoff
  refine RunF_sound tab_ok noX_local 2 [] _ _ rfl ?_ ?_
  · simp [fillL, repL, splice, Value.cells, maxLen]
  refine Run.to (t' := [(6, .v (.slice (some ⟨(M2 0).1, 0, none⟩) 1 (M2 0).2)), (8, .v (.slice (some ⟨(M3 0).1, 0, none⟩) 1 (M3 0).2)), (9, .v (.slice (some ⟨(M3 1).1, 0, none⟩) 1 (M3 1).2)), (11, .sl 0 1 0 1), (12, .sl 1 1 0 1)]) (h' := [(0, .row 23 1 1 [.slice (some ⟨(M3 2).1, 0, none⟩) 1 (M3 2).2]), (1, .row 2 1 1 [.int .i64 0])]) (n' := 2) ?_ ⟨rfl, rfl, rfl, rfl, rfl, trivial⟩ ⟨rfl, rfl, trivial⟩
  refine Run.freeze (fun M4 => [(6, .v (.slice (some ⟨(M2 0).1, 0, none⟩) 1 (M2 0).2)), (8, .v (.slice (some ⟨(M3 0).1, 0, none⟩) 1 (M3 0).2)), (9, .v (.slice (some ⟨(M3 1).1, 0, none⟩) 1 (M3 1).2)), (11, .v (.slice (some ⟨(M4 0).1, 0, none⟩) 1 (M4 0).2)), (12, .v (.slice (some ⟨(M4 1).1, 0, none⟩) 1 (M4 1).2))]) [] 0 (fun M => ⟨⟨_, rfl, by simp [conc]⟩, ⟨_, rfl, by simp [conc]⟩, ⟨_, rfl, by simp [conc]⟩, ⟨_, rfl, by simp [conc]⟩, ⟨_, rfl, by simp [conc]⟩, trivial⟩) trivial ?_
  intro M4 w4 S4 hB hblk hoff _
  have hw4 := hw3.base hB
  have b11 := stands (hblk 0 _ rfl) (hoff 0 _ rfl rfl)
  have b12 := stands (hblk 1 _ rfl) (hoff 1 _ rfl rfl)
  replace b5 := fwd hB b5
  replace b6 := fwd hB b6
  replace b7 := fwd hB b7
  replace b8 := fwd hB b8
  replace b9 := fwd hB b9
  replace b10 := fwd hB b10
  clear hB hblk hoff
  obtain ⟨X, hXd⟩ : ∃ X : Pn, X = ⟨[[op7]], [[sEAX]], [sX], [1], 1, some ⟨(M2 0).1, 0, none⟩, (M2 0).2, some ⟨(M3 0).1, 0, none⟩, (M3 0).2, some ⟨(M3 1).1, 0, none⟩, (M3 1).2, some ⟨(M4 0).1, 0, none⟩, (M4 0).2, some ⟨(M4 1).1, 0, none⟩, (M4 1).2⟩ := ⟨_, rfl⟩
  have hX : ∀ w', Agree S4 w4 w' → SeesP w' X := fun w' hA => by
    have k5 := row_cells (b5 w' hA)
    have k6 := row_cells (b6 w' hA) 0 _ rfl
    have k7 := row_cells (b7 w' hA) 0 _ rfl
    have k8 := row_cells (b8 w' hA) 0 _ rfl
    have k9 := row_cells (b9 w' hA) 0 _ rfl
    have k11 := row_cells (b11 w' hA) 0 _ rfl
    have one : ∀ {α : Type} {a : α} {i : Nat}, i < [a].length → i = 0 := fun {α a i} h => by simp at h; exact h
    subst hXd
    refine ⟨fun i hi => ?_, fun i hi => ?_, fun i hi => ?_, fun i hi => ?_, by show 1 ≤ 9223372036854775807; decide, fun l hl => by obtain rfl := List.mem_singleton.1 hl; show 1 ≤ 8796093022208; decide, by show 1 ≤ 9223372036854775807; decide, fun l hl => by obtain rfl := List.mem_singleton.1 hl; show 1 ≤ 9223372036854775807; decide, by show 1 ≤ 9223372036854775807; decide, by show 1 ≤ 9223372036854775807; decide, fun l hl => by obtain rfl := List.mem_singleton.1 hl; show 1 ≤ 9223372036854775807; decide, by show 1 ≤ 9223372036854775807; decide⟩
    · obtain rfl := one hi
      refine ⟨rfl, _, _, by rw [Option.getD_some, Addr.add_lit]; exact k6, fun j hj => ?_⟩
      obtain rfl := one hj
      refine ⟨rfl, fun j x hx => ?_⟩
      rw [Option.getD_some, Addr.add_lit, Nat.zero_mul, Nat.zero_add]
      exact k5 j x hx
    · obtain rfl := one hi
      refine ⟨rfl, _, _, by rw [Option.getD_some, Addr.add_lit]; exact k8, fun j hj => ?_⟩
      obtain rfl := one hj
      exact ⟨rfl, by rw [Option.getD_some, Addr.add_lit]; exact k7⟩
    · obtain rfl := one hi
      exact ⟨rfl, by rw [Option.getD_some, Addr.add_lit]; exact k9⟩
    · obtain rfl := one hi
      exact ⟨rfl, _, _, by rw [Option.getD_some, Addr.add_lit]; exact k11⟩
  refine RunF_sound tab_ok noX_local 100 [] _ _ rfl ?_ ?_
  · simp [fillL, splice, Value.cells, szSSO, szSS, szSSS, szSI, szSSI, Value.oneCell', z39, segsVals]
    all_goals (try exact ⟨⟨rfl, rfl, rfl, rfl, rfl⟩, rfl⟩)
  refine Run.to (t' := [(1, .ptr 0 0), (15, .v (encP X))]) (h' := [(0, .cells 39 [.vals 5 (pV X)])]) (n' := 1) ?_ ⟨rfl, by subst hXd; rfl, trivial⟩ ⟨by subst hXd; rfl, trivial⟩
  have e1 : X.th = [[op7]] := by subst hXd; rfl
  have e2 : X.regs = [[sEAX]] := by subst hXd; rfl
  have e3 : X.locs = [sX] := by subst hXd; rfl
  have e4 : X.ri = [1] := by subst hXd; rfl
  have e5 : X.li = 1 := by subst hXd; rfl
  clear hXd b5 b6 b7 b8 b9 b10 b11 b12
  have hone := pV_one X
  refine Run.callH noX_local (.tup [.sl 1 5 0 3, .v (.int .i64 0)]) [(1, .row 52 5 3 (evsR L3))] 2 rfl rfl rfl rfl rfl rfl list_enters rfl rfl rfl rfl rfl (fun M w' _ hA => ?_) ?_
  · have h1 := list_ok X 0#64 w' (hX w' hA)
    rw [list0 X e1 e2 e3 e4 e5] at h1
    exact h1.to [(1, 0)] rfl ⟨rfl, trivial⟩ rfl
  refine RunF_sound tab_ok noX_local 100 [] _ _ rfl ?_ ?_
  · simp
  refine Run.to (t' := [(1, .ptr 0 0), (2, .sl 1 5 0 3), (3, .v (.int .i64 0))]) (h' := [(0, .cells 39 [.vals 5 (pV X)]), (1, .row 52 5 3 (evsR L3))]) (n' := 2) ?_ ⟨rfl, rfl, rfl, trivial⟩ ⟨rfl, rfl, trivial⟩
  refine Run.freeze (fun M => [(1, .ptr 0 0), (2, .v (.slice (some ⟨(M 1).1, 0, none⟩) 3 (M 1).2)), (3, .v (.int .i64 0))]) [(0, .cells 39 [.vals 5 (pV X)])] 1 (fun M => ⟨⟨_, rfl, by simp [conc]⟩, ⟨_, rfl, by simp [conc]⟩, ⟨_, rfl, by simp [conc]⟩, trivial⟩) ⟨rfl, trivial⟩ ?_
  intro M5 w5 S5 hB hblk hoff _
  have hw5 := hw4.base hB
  have c1 := stands (hblk 1 _ rfl) (hoff 1 _ rfl rfl)
  have c0 := hoff 1 _ rfl rfl
  replace hX := fwd hB hX
  clear hB hblk hoff
  obtain ⟨pe, hpe⟩ : ∃ pe, pe = (⟨(M5 1).1, 0, none⟩ : Addr) := ⟨_, rfl⟩
  have hL : ∀ w', Agree S5 w5 w' → SeesV w' (some pe) L3 := fun w' hA i hi => by
    have k := row_cells (c1 w' hA)
    refine ⟨rfl, fun j x hx => ?_⟩
    rw [hpe, Option.getD_some, Addr.add_lit]
    have hi : i < 3 := hi
    have hj : j < 5 := by have := (List.getElem?_eq_some_iff.1 hx).1; simpa using this
    refine k (i * 5 + j) x ?_
    rcases (show i = 0 ∨ i = 1 ∨ i = 2 by omega) with rfl | rfl | rfl <;> rcases (show j = 0 ∨ j = 1 ∨ j = 2 ∨ j = 3 ∨ j = 4 by omega) with rfl | rfl | rfl | rfl | rfl <;> exact hx
  have hpo : ¬ S5 pe.block := by rw [hpe]; exact c0
  generalize (M5 1).2 = cp
  rw [← hpe]
  have hL5 := hL w5 (Agree.refl _ _)
  have x1 := hL5.ext 1 (by decide)
  have x2 := hL5.ext 2 (by decide)
  have q1 := hL5.some 1 (by decide)
  have q2 := hL5.some 2 (by decide)
  refine Run.drawA noX_local rfl [] [(0, .cells 39 [.vals 5 (pV X)])] rfl rfl ⟨rfl, trivial⟩ ?_
  refine RunOF_sound tab_ok noX_local rfl rfl 400 [true, true] _ _ rfl ?_ ?_
  · simp
    exact ⟨q1, by rw [add_block]; exact hpo⟩
  refine RunO.build tab_ok rfl rfl rfl rfl rfl rfl rfl ?_ ?_
  · simp [fillL, Value.cells, splice, szBool]
    try exact ⟨⟨rfl, rfl⟩, rfl⟩
  refine RunO.cmp rfl rfl rfl rfl rfl rfl rfl (b := true) (c := true) ((congrArg (fun l => EqT Tryd.prog 52 (List.toArray l) (evV ⟨3, 0, 0, 0, true⟩).toArray true) x1).mpr (eqEv ⟨3, 0, 0, 0, true⟩ ⟨3, 0, 0, 0, true⟩)) (.inl ⟨rfl, rfl⟩) ?_
  refine RunOF_sound tab_ok noX_local rfl rfl 400 [true, true] _ _ rfl ?_ ?_
  · simp
  refine RunO.build tab_ok rfl rfl rfl rfl rfl rfl rfl ?_ ?_
  · simp [fillL, Value.cells, splice, z30]
  refine RunO.build tab_ok rfl rfl rfl rfl rfl rfl rfl ?_ ?_
  · simp [fillL, Value.cells, splice, z30, szInt, szA, z32]
  refine RunO.callFn (r := encRel R12) noX_local rfl rfl rfl rfl rfl rfl rfl rfl rmw_enters rfl (fun w' hA => ?_) ?_
  · have h1 := rmw_ok (some pe) cp L3 w' (hL w' hA)
    rw [rmw0] at h1; exact h1
  refine RunOF_sound tab_ok noX_local rfl rfl 400 [] _ _ rfl ?_ ?_
  · simp
  refine RunO.cmp rfl rfl rfl rfl rfl rfl rfl (b := true) (c := true) ?_ (.inl ⟨rfl, rfl⟩) ?_
  · have h := eqRel R12 R12
    rw [decide_eq_true rfl] at h
    exact h
  refine RunOF_sound tab_ok noX_local rfl rfl 400 [true] _ _ rfl ?_ ?_
  · simp
    exact ⟨q2, by rw [add_block]; exact hpo⟩
  refine RunO.callFn (r := .string ⟨#[48, 58, 48, 58, 87, 120, 42]⟩) noX_local rfl rfl rfl rfl rfl rfl rfl rfl text_enters rfl (fun w' hA => (congrArg (fun l => Gives Tryd.prog 30 [encP X, .agg (List.toArray l)] w' (.string ⟨#[48, 58, 48, 58, 87, 120, 42]⟩)) x2).mpr (text_ok X w' (hX w' hA) e3)) ?_
  refine RunOF_sound tab_ok noX_local rfl rfl 400 [] _ _ rfl ?_ ?_
  · simp
  refine RunO.done ?_
  refine RunF_sound tab_ok noX_local 100 [] _ _ rfl ?_ ?_
  · simp
  exact Run.retB (Ds := []) tab_ok noX_local hw5 Tryd.func12 rfl trivial (fun M => congrArg Value.bool (beq_self_eq_true _))
theorem awake_enters : Enters Tryd.prog 12 := enters_mk Tryd.func12 (by decide) rfl
end Go.Proofs.YtehimiadpgbhmaaDoor

/-
  EventOrders, joined with its documented example. Own work.
-/
namespace Go.Proofs.YtehimiadpgbhmaaDoor
open Go.AM
set_option maxRecDepth 100000

theorem eventOrders_full (x : Xn) (w : World) (hX : SeesX w x) (hT : TabAt w) (h0w : 0 < w.heap.size) : Gives Tryd.prog 5 [encX x] w (.bool true) :=
  eventOrders_ok x w hX hT h0w (fun w' _ => awake_ok w') awake_enters
end Go.Proofs.YtehimiadpgbhmaaDoor

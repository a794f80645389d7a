/-
  Own work, merged: V2, X0, X1, X2, X3, X4, AM22, AM23, AM24, AM25, M1, M2, Q1, Q2.
-/
import Derived.AtR
import Derived.Below
import Derived.ChangeKeysEq
import Derived.KernelRfl
import Derived.Laws.AppendOwn
import Derived.Laws.BytesString
import Derived.Laws.Cells
import Derived.Laws.CopyRow
import Derived.Laws.Entries
import Derived.Laws.Rows
import Derived.Laws.Small
import Derived.Laws.StructEq
import Derived.Lib.TrailingZeros
import Derived.Maps.AppendAt
import Derived.Orders
import Derived.RangeFuncRecord
import Derived.Test.YtmammebifhmnhaaDoorProg
import Derived.Test.YtmammebifhmnhaaDoorQ5B2143
/-
  Meet, taken over from the texts of layer 2 by a program of our own (tools/closure.py). Own work.
-/
namespace Go.Proofs.YtmammebifhmnhaaDoor
open Go.AM
set_option maxRecDepth 100000

theorem and_ok (a b : BitVec 64) (w : World) : Gives Tryd.prog 98 [.int .u64 (un a), .int .u64 (un b)] w (.int .u64 (un (a &&& b))) := by
  refine Gives.of_run Tryd.func98 rfl (by show 2 ≤ 8; decide) ?_
  refine RunF_sound tab_ok noX_local 100 [] _ _ rfl ?_ ?_
  · simp
  exact Run.retP tab_ok Tryd.func98 rfl trivial (fun M => by show Value.int _ _ = _; rw [band_un])

theorem and_enters : Enters Tryd.prog 98 := enters_mk Tryd.func98 (by decide) rfl

theorem meet_ok (r s : Rl) (w : World) : Gives Tryd.prog 62 [encRel r, encRel s] w (encRel (opL (fun a b => a &&& b) r s)) := by
  refine Gives.of_run Tryd.func62 rfl (by show 2 ≤ 8; decide) ?_
  refine RunF_sound tab_ok noX_local 100 [] _ _ rfl ?_ ?_
  · simp
  refine Run.callM noX_local rfl rfl rfl rfl rfl rfl rowwise_enters rfl (fun M w' _ _ => rowwise_ok 98 (fun a b => a &&& b) and_enters and_ok r s w') ?_
  refine RunF_sound tab_ok noX_local 100 [] _ _ rfl ?_ ?_
  · simp [segsVals, relV_one']
  refine Run.retP tab_ok Tryd.func62 rfl ?_ (fun M => ?_)
  · simp
  rfl

theorem meet_enters : Enters Tryd.prog 62 := enters_mk Tryd.func62 (by decide) rfl

theorem meet_eq (r s : Rl) : opL (fun a b => a &&& b) r s = twoR 1 r s := opL_gen _ 1 (by decide) (fun R S x y _ => by rw [BitVec.getLsbD_and]; rfl) r s

end Go.Proofs.YtmammebifhmnhaaDoor

/-
  An execution as a value; lists of numbers in a world; the reads-from and coherence relations, in plain Lean. Own work.
-/
namespace Go.Proofs.YtmammebifhmnhaaDoor
open Go.AM
set_option maxRecDepth 100000

/-- A slice of numbers, as it lies in a world. -/
def SeesI (w : World) (p : Option Addr) (xs : List Int) : Prop :=
  ∀ i (h : i < xs.length), p = some (p.getD default) ∧ w.cell? ((p.getD default).add i) = some (.int .i64 xs[i])
theorem SeesI.agree {S : Nat → Prop} {w w' : World} {p : Option Addr} {xs : List Int} (h : SeesI w p xs) (hA : Agree S w w') (hS : ∀ a, p = some a → ¬ S a.block) : SeesI w' p xs := by
  intro i hi
  obtain ⟨h1, h2⟩ := h i hi
  exact ⟨h1, hA.cell h2 (by rw [add_block]; exact hS _ h1)⟩

/-- A slice of slices of numbers. -/
def SeesII (w : World) (p : Option Addr) (xss : List (List Int)) : Prop :=
  ∀ i (h : i < xss.length), p = some (p.getD default) ∧ ∃ q c, w.cell? ((p.getD default).add i) = some (.slice q xss[i].length c) ∧ SeesI w q xss[i]
theorem SeesII.agree {w w' : World} {p : Option Addr} {xss : List (List Int)} (h : SeesII w p xss) (hA : Agree (fun _ => False) w w') : SeesII w' p xss := by
  intro i hi
  obtain ⟨h1, q, c, h2, h3⟩ := h i hi
  exact ⟨h1, q, c, hA.cell h2 (fun h => h), h3.agree hA (fun _ _ h => h)⟩

/-- An execution: its events, whence reads read, and the orders; the rest is not looked at. -/
structure Xn where
  ev : List Ev
  from_ : List Int
  ord : List (List Int)
  pe : Option Addr
  ce : Nat
  u1 : Value
  pf : Option Addr
  cf : Nat
  po : Option Addr
  co : Nat
  u4 : Value
def xV (x : Xn) : List Value := [.slice x.pe x.ev.length x.ce, x.u1, .slice x.pf x.from_.length x.cf, .slice x.po x.ord.length x.co, x.u4]
def encX (x : Xn) : Value := .agg (xV x).toArray
structure SeesX (w : World) (x : Xn) : Prop where
  ev : SeesV w x.pe x.ev
  from_ : SeesI w x.pf x.from_
  ord : SeesII w x.po x.ord
  one1 : x.u1.oneCell' = true
  one4 : x.u4.oneCell' = true
  cap : x.from_.length ≤ x.cf
  lf : x.from_.length ≤ maxLen
  lo : x.ord.length ≤ maxLen
  lo2 : ∀ c ∈ x.ord, c.length ≤ maxLen
theorem SeesX.agree {w w' : World} {x : Xn} (h : SeesX w x) (hA : Agree (fun _ => False) w w') : SeesX w' x :=
  ⟨h.ev.agree hA (fun _ _ h => h), h.from_.agree hA (fun _ _ h => h), h.ord.agree hA, h.one1, h.one4, h.cap, h.lf, h.lo, h.lo2⟩
theorem xV_one {x : Xn} (h1 : x.u1.oneCell' = true) (h4 : x.u4.oneCell' = true) : (∀ c ∈ xV x, c.oneCell' = true) ↔ True := iff_true_intro fun c hc => by
  simp only [xV, List.mem_cons, List.not_mem_nil, or_false] at hc
  rcases hc with rfl | rfl | rfl | rfl | rfl
  · rfl
  · exact h1
  · rfl
  · rfl
  · exact h4
@[simp] theorem xV_0 (x : Xn) : (xV x)[0]? = some (.slice x.pe x.ev.length x.ce) := rfl
@[simp] theorem xV_2 (x : Xn) : (xV x)[2]? = some (.slice x.pf x.from_.length x.cf) := rfl
@[simp] theorem xV_3 (x : Xn) : (xV x)[3]? = some (.slice x.po x.ord.length x.co) := rfl
@[simp] theorem slOf_slice (p : Option Addr) (n c : Nat) : slOf (some (.slice p n c)) = (p, n, c) := rfl

/-- The pairs that the first k numbers say. -/
def rfP (n : Int) (fr : List Int) (k : Nat) : Rl := Rl.gen n fun x y => decide (y < k) && (decide ((x : Int) < n) && decide (fr[y]? = some (x : Int)))
def rfL (n : Nat) (fr : List Int) : Rl := rfP n fr (min n fr.length)
theorem rfP_0 (n : Int) (fr : List Int) : rfP n fr 0 = Rl.void n := by
  rw [Rl.gen_void]; exact Rl.gen_congr fun a b _ _ => by simp
theorem rfP_yes {n : Int} {fr : List Int} {k v : Nat} (hk : k < 64) (hv : v < 64) (hn : (v : Int) < n) (h : fr[k]? = some (v : Int)) : (rfP n fr k).setRow v ((rfP n fr k).row v ||| 1#64 <<< k) = rfP n fr (k + 1) := by
  unfold rfP
  rw [Rl.gen_add _ _ _ _ hv hk]
  refine Rl.gen_congr fun x y _ _ => ?_
  by_cases hy : y = k
  · subst hy
    rw [h]
    by_cases hx : x = v
    · subst hx; simp [hn]
    · have : ¬ (v : Int) = (x : Int) := by omega
      simp [hx, this]
  · have : decide (y < k + 1) = decide (y < k) := decide_eq_decide.2 (by omega)
    simp [hy, this]
theorem rfP_no {n : Int} {fr : List Int} {k : Nat} (h : ∀ v : Nat, (v : Int) < n → fr[k]? ≠ some (v : Int)) : rfP n fr k = rfP n fr (k + 1) := by
  unfold rfP
  refine Rl.gen_congr fun x y _ _ => ?_
  by_cases hy : y = k
  · subst hy
    by_cases hx : (x : Int) < n
    · simp [h x hx]
    · simp [hx]
  · have : decide (y < k + 1) = decide (y < k) := decide_eq_decide.2 (by omega)
    simp [this]

/-- One number more in a chain: it stands behind all that are ahead of it. -/
def cP (R : Rl) (s : BitVec 64) (b k : Nat) : Rl := Rl.by_ R.n fun a => if a < k ∧ s.getLsbD a = true then R.row a ||| 1#64 <<< b else R.row a
theorem cP_n (R : Rl) (s : BitVec 64) (b k : Nat) : (cP R s b k).n = R.n := by unfold cP; exact Rl.n_by _ _
theorem cP_0 (R : Rl) (s : BitVec 64) (b : Nat) : cP R s b 0 = R := by
  unfold cP
  conv => rhs; rw [← by_row R]
  exact Rl.by_congr fun x _ => by simp
theorem cP_at {R : Rl} {s : BitVec 64} {b k : Nat} (hk : k < 64) : (cP R s b k).row k = R.row k := by
  unfold cP; rw [Rl.row_by, if_pos hk, if_neg (by omega)]
theorem cP_yes {R : Rl} {s : BitVec 64} {b k : Nat} (hk : k < 64) (h : s.getLsbD k = true) : (cP R s b k).setRow k ((cP R s b k).row k ||| 1#64 <<< b) = cP R s b (k + 1) := by
  rw [cP_at hk]
  unfold cP
  rw [Rl.set_by]
  refine Rl.by_congr fun x _ => ?_
  by_cases e : k = x
  · subst e; simp [h]
  · rw [if_neg e]
    have : (x < k ∧ s.getLsbD x = true) ↔ (x < k + 1 ∧ s.getLsbD x = true) := by constructor <;> rintro ⟨h1, h2⟩ <;> exact ⟨by omega, h2⟩
    simp only [this]
theorem cP_no {R : Rl} {s : BitVec 64} {b k : Nat} (h : s.getLsbD k = false) : cP R s b k = cP R s b (k + 1) := by
  unfold cP
  refine Rl.by_congr fun x _ => ?_
  by_cases e : k = x
  · subst e; simp [h]
  · have : (x < k ∧ s.getLsbD x = true) ↔ (x < k + 1 ∧ s.getLsbD x = true) := by constructor <;> rintro ⟨h1, h2⟩ <;> exact ⟨by omega, h2⟩
    simp only [this]
def cStep (n : Nat) (z : Rl × BitVec 64) (v : Int) : Rl × BitVec 64 := if v < 0 ∨ v ≥ (n : Int) then z else (cP z.1 z.2 v.toNat n, z.2 ||| 1#64 <<< v.toNat)
def cChain (n : Nat) (R : Rl) (c : List Int) : Rl := (c.foldl (cStep n) (R, 0#64)).1
def coL (n : Nat) (ord : List (List Int)) : Rl := ord.foldl (cChain n) (Rl.void (n : Int))

theorem cStep_n (n : Nat) (z : Rl × BitVec 64) (v : Int) : (cStep n z v).1.n = z.1.n := by
  unfold cStep; split
  · rfl
  · exact cP_n _ _ _ _
theorem fold_n (n : Nat) : ∀ (c : List Int) (z : Rl × BitVec 64), (c.foldl (cStep n) z).1.n = z.1.n
  | [], z => rfl
  | v :: c, z => by rw [List.foldl_cons, fold_n n c, cStep_n]
theorem chain_n (n : Nat) (R : Rl) (c : List Int) : (cChain n R c).n = R.n := fold_n n c _
theorem coL_n (n : Nat) : ∀ (ord : List (List Int)) (R : Rl), (ord.foldl (cChain n) R).n = R.n
  | [], R => rfl
  | c :: ord, R => by rw [List.foldl_cons, coL_n n ord, chain_n]

/-- All pairs are below n. -/
def Below' (n : Nat) (R : Rl) : Prop := ∀ a b, R.has a b = true → a < n ∧ b < n
theorem cStep_below {n : Nat} (hn : n ≤ 64) {z : Rl × BitVec 64} {v : Int} (h : Below' n z.1) : Below' n (cStep n z v).1 := by
  unfold cStep
  split
  · exact h
  · rename_i hv
    intro a b hb
    have hv' : v.toNat < n := by omega
    rcases Nat.lt_or_ge a 64 with ha | ha
    · have hb : (Rl.row (cP z.1 z.2 v.toNat n) a).getLsbD b = true := hb
      unfold cP at hb
      rw [Rl.row_by, if_pos ha] at hb
      split at hb
      · rename_i h1
        rw [BitVec.getLsbD_or, Bool.or_eq_true] at hb
        rcases hb with hb | hb
        · exact h a b hb
        · rw [one_shl_get _ _ (by omega)] at hb
          simp at hb
          omega
      · exact h a b hb
    · rw [Rl.has, Rl.row_ge _ ha] at hb; simp at hb
theorem fold_below {n : Nat} (hn : n ≤ 64) : ∀ (c : List Int) (z : Rl × BitVec 64), Below' n z.1 → Below' n (c.foldl (cStep n) z).1
  | [], z, h => h
  | v :: c, z, h => by rw [List.foldl_cons]; exact fold_below hn c _ (cStep_below hn h)
theorem coL_below {n : Nat} (hn : n ≤ 64) : ∀ (ord : List (List Int)) (R : Rl), Below' n R → Below' n (ord.foldl (cChain n) R)
  | [], R, h => h
  | c :: ord, R, h => by rw [List.foldl_cons]; exact coL_below hn ord _ (fold_below hn c _ h)
theorem void_below (n : Nat) (m : Int) : Below' n (Rl.void m) := fun a b h => by rw [Rl.has, Rl.row_void] at h; simp at h
theorem rfL_below {n : Nat} (fr : List Int) : Below' n (rfL n fr) := fun a b h => by
  unfold rfL rfP at h
  rw [Rl.has_gen] at h
  simp at h
  omega
end Go.Proofs.YtmammebifhmnhaaDoor

/-
  Rf, here and in the reference. Own work.
-/
namespace Go.Proofs.YtmammebifhmnhaaDoor
open Go.AM
set_option maxRecDepth 100000

@[simp] theorem xV_len (x : Xn) : (xV x).length = 5 := rfl
@[simp] theorem intAt_cons (k : IntKind) (n : Int) (l : List Value) : intAt (.int k n :: l) 0 = n := rfl

theorem rfP_n (n : Int) (fr : List Int) (k : Nat) : (rfP n fr k).n = n := by unfold rfP; exact Rl.n_gen _ _

theorem map_add0 (p : Option Addr) : p.map (fun x => x.add 0) = p := by cases p <;> simp [AM.add_zero]

theorem rf_ok (x : Xn) (w : World) (hX : SeesX w x) : Gives Tryd.prog 57 [encX x] w (encRel (rfL (shortL x.ev).length x.from_)) := by
  refine Gives.of_run Tryd.func57 rfl (by show 1 ≤ 45; decide) ?_
  have hone := xV_one hX.one1 hX.one4
  refine RunF_sound tab_ok noX_local 200 [] _ _ rfl ?_ ?_
  · simp
  refine Run.callFn noX_local rfl rfl rfl rfl rfl rfl rfl short_enters rfl (fun w' _ => short_ok x.pe x.ce x.ev w') ?_
  obtain ⟨p', c', e1, _⟩ := short_form x.ce hX.ev
  have hle := shortL_le x.ev
  rw [e1]
  generalize (shortL x.ev).length = n at hle
  have hcap := hX.cap
  have hlf := hX.lf
  have hcells := hX.from_
  refine RunF_sound tab_ok noX_local 200 [] _ _ rfl ?_ ?_
  · simp [fillL, Value.cells, segsVals, relV_tail_one, splice]
    (repeat' refine And.intro ?_ ?_) <;> (try split) <;> omega
  obtain ⟨m, hm⟩ : ∃ m : Nat, m = min n x.from_.length := ⟨_, rfl⟩
  have hm2 : (if (x.from_.length : Int) < (n : Int) then (x.from_.length : Int) else (n : Int)) = (m : Int) := by split <;> omega
  suffices H : ∀ (d k : Nat), k + d = m → ∀ σ, inT σ.t [(2, .ptr 1 0), (3, .ptr 2 0), (19, .v (.slice x.pf m x.cf)), (20, .v (.int .i64 (m : Int))), (21, .v (.int .i64 (k : Int)))] →
      inT σ.h [(1, .cells 34 [.vals 65 (relV (Rl.void 0))]), (2, .cells 34 [.vals 65 (relV (rfP n x.from_ k))])] → Run _ _ σ by
    refine H m 0 (by omega) _ ⟨rfl, rfl, ?_, ?_, rfl, trivial⟩ ⟨rfl, ?_, trivial⟩
    · have e2 : ∀ z : Int, z = (m : Int) → some (AV.v (Value.slice (x.pf.map (fun a => a.add 0)) z.toNat x.cf)) = some (AV.v (Value.slice x.pf m x.cf)) := fun z hz => by rw [hz, map_add0]; rfl
      exact e2 _ hm2
    · have e3 : ∀ z : Int, z = (m : Int) → some (AV.v (Value.int .i64 (z.toNat : Int))) = some (AV.v (Value.int .i64 (m : Int))) := fun z hz => by rw [hz, Int.toNat_natCast]
      exact e3 _ hm2
    · rw [rfP_0]; rfl
  intro d
  induction d with
  | zero =>
    intro k hk σ ht hh
    refine Run.to ?_ ht hh (n' := 3)
    refine RunF_sound tab_ok noX_local 100 [false] _ _ rfl ?_ ?_
    · simp [relV_one', segsVals]; omega
    · refine Run.retP tab_ok Tryd.func57 rfl ?_ (fun M => ?_)
      · simp
      rw [rfL, ← hm, show m = k by omega]; rfl
  | succ d ih =>
    intro k hk σ ht hh
    refine Run.to ?_ ht hh (n' := 3)
    have hkl : k < x.from_.length := by omega
    have hk' : k < 64 := by omega
    obtain ⟨f1, f2⟩ := hcells k hkl
    have hget : x.from_[k]? = some x.from_[k] := List.getElem?_eq_getElem hkl
    generalize x.from_[k] = v at f2 hget
    have hnN : ∀ j, (rfP n x.from_ j).n = (n : Int) := fun j => rfP_n _ _ _
    by_cases c1 : v ≥ 0
    · obtain ⟨u, rfl⟩ := Int.eq_ofNat_of_zero_le c1
      by_cases c2 : (u : Int) < n
      · have hu : u < 64 := by omega
        refine RunF_sound tab_ok noX_local 100 [true, true, true] _ _ rfl ?_ ?_
        · simp only [fnC_w0, fnC_S0, Int.toNat_natCast, Nat.mul_one, f2]
          simp [hnN, c2]
          (repeat' refine And.intro ?_ ?_) <;> first | omega | exact f1
        simp only [fnC_w0, Int.toNat_natCast, Nat.mul_one, f2]
        refine Run.drawA noX_local rfl [] [(2, .cells 34 [.vals 65 (relV (rfP n x.from_ k))])] rfl rfl ⟨rfl, trivial⟩ ?_
        refine RunOF_sound tab_ok noX_local rfl rfl 9 [] _ _ rfl ?_ ?_
        · simp [relV_get _ _ hu, intAt_row _ _ hu]; omega
        refine RunO.effLast tab_ok noX_local rfl rfl rfl rfl ?_ (fun e => by cases e) rfl ?_
        · simp [okCell, Value.oneCell']; omega
        refine RunF_sound tab_ok noX_local 100 [] _ _ rfl ?_ ?_
        · simp
        refine ih (k + 1) (by omega) _ ⟨rfl, rfl, rfl, rfl, i64_eq (wrap_succ (by omega)), trivial⟩ ⟨rfl, congrArg (fun l => some (Blk.cells 34 [.vals 65 l])) ?_, trivial⟩
        have e1 : intAt (relV (rfP n x.from_ k)) (1 + u) = un ((rfP n x.from_ k).row u) := intAt_row _ _ hu
        simp [e1, shl1_un, relV_set _ _ hu, rfP_yes hk' hu c2 hget]
      · refine RunF_sound tab_ok noX_local 100 [true, true, false] _ _ rfl ?_ ?_
        · simp only [fnC_w0, fnC_S0, Int.toNat_natCast, Nat.mul_one, f2]
          simp [hnN]
          (repeat' refine And.intro ?_ ?_) <;> first | omega | exact f1
        refine ih (k + 1) (by omega) _ ⟨rfl, rfl, rfl, rfl, i64_eq (wrap_succ (by omega)), trivial⟩ ⟨rfl, ?_, trivial⟩
        rw [← rfP_no (fun z hz h => by rw [hget] at h; cases h; exact c2 hz)]; rfl
    · refine RunF_sound tab_ok noX_local 100 [true, false] _ _ rfl ?_ ?_
      · simp only [fnC_w0, fnC_S0, Int.toNat_natCast, Nat.mul_one, f2]
        simp
        (repeat' refine And.intro ?_ ?_) <;> first | omega | exact f1
      refine ih (k + 1) (by omega) _ ⟨rfl, rfl, rfl, rfl, i64_eq (wrap_succ (by omega)), trivial⟩ ⟨rfl, ?_, trivial⟩
      rw [← rfP_no (fun z hz h => by rw [hget] at h; cases h; exact c1 (Int.natCast_nonneg _))]; rfl
theorem rf_enters : Enters Tryd.prog 57 := enters_mk Tryd.func57 (by decide) rfl

theorem rfR_ok (x : Xn) (w : World) (hX : SeesX w x) : Gives Tryd.prog 33 [encX x] w (encRel (rfL (shortL x.ev).length x.from_)) := by
  refine Gives.of_run Tryd.func33 rfl (by show 1 ≤ 59; decide) ?_
  have hone := xV_one hX.one1 hX.one4
  refine RunF_sound tab_ok noX_local 200 [] _ _ rfl ?_ ?_
  · simp
  refine Run.callFn noX_local rfl rfl rfl rfl rfl rfl rfl shortR_enters rfl (fun w' _ => shortR_ok x.pe x.ce x.ev w') ?_
  obtain ⟨p', c', e1, _⟩ := short_form x.ce hX.ev
  have hle := shortL_le x.ev
  rw [e1]
  generalize (shortL x.ev).length = n at hle
  have hlf := hX.lf
  have hcells := hX.from_
  refine RunF_sound tab_ok noX_local 200 [] _ _ rfl ?_ ?_
  · simp [fillL, Value.cells, segsVals, relV_tail_one, splice]
    try rfl
  obtain ⟨m, hm⟩ : ∃ m : Nat, m = min n x.from_.length := ⟨_, rfl⟩
  suffices H : ∀ (d k : Nat), k + d = m → ∀ σ, inT σ.t [(1, .ptr 0 0), (2, .ptr 1 0), (3, .v (.int .i64 (n : Int))), (4, .ptr 2 0), (5, .v (.int .i64 (k : Int)))] →
      inT σ.h [(0, .cells 28 [.vals 5 (xV x)]), (1, .cells 34 [.vals 65 (relV (Rl.void 0))]), (2, .cells 34 [.vals 65 (relV (rfP n x.from_ k))])] → Run _ _ σ by
    refine H m 0 (by omega) _ ⟨rfl, rfl, rfl, rfl, rfl, trivial⟩ ⟨rfl, rfl, ?_, trivial⟩
    rw [rfP_0]; rfl
  intro d
  induction d with
  | zero =>
    intro k hk σ ht hh
    refine Run.to ?_ ht hh (n' := 3)
    have hkm : k = m := by omega
    by_cases c : k < n
    · have c2 : ¬ k < x.from_.length := by omega
      refine RunF_sound tab_ok noX_local 100 [true, false] _ _ rfl ?_ ?_
      · simp [relV_one', segsVals]; omega
      refine Run.retP tab_ok Tryd.func33 rfl ?_ (fun M => ?_)
      · simp
      rw [rfL, ← hm, ← hkm]; rfl
    · refine RunF_sound tab_ok noX_local 100 [false] _ _ rfl ?_ ?_
      · simp [relV_one', segsVals]; omega
      refine Run.retP tab_ok Tryd.func33 rfl ?_ (fun M => ?_)
      · simp
      rw [rfL, ← hm, ← hkm]; rfl
  | succ d ih =>
    intro k hk σ ht hh
    refine Run.to ?_ ht hh (n' := 3)
    have hkl : k < x.from_.length := by omega
    have hkn : k < n := by omega
    have hk' : k < 64 := by omega
    obtain ⟨f1, f2⟩ := hcells k hkl
    have hget : x.from_[k]? = some x.from_[k] := List.getElem?_eq_getElem hkl
    generalize x.from_[k] = v at f2 hget
    by_cases c1 : v ≥ 0
    · obtain ⟨u, rfl⟩ := Int.eq_ofNat_of_zero_le c1
      by_cases c2 : (u : Int) < n
      · have hu : u < 64 := by omega
        refine RunF_sound tab_ok noX_local 200 [true, true, true, true] _ _ rfl ?_ ?_
        · simp only [fnC_w0, fnC_S0, Int.toNat_natCast, Nat.mul_one]
          simp [f2, c2]
          (repeat' refine And.intro ?_ ?_) <;> first | omega | exact f1
        refine Run.drawA noX_local rfl [] [(0, .cells 28 [.vals 5 (xV x)]), (2, .cells 34 [.vals 65 (relV (rfP n x.from_ k))])] rfl rfl ⟨rfl, rfl, trivial⟩ ?_
        have e1 : intAt (relV (rfP n x.from_ k)) (1 + u) = un ((rfP n x.from_ k).row u) := intAt_row _ _ hu
        refine RunOF_sound tab_ok noX_local rfl rfl 19 [] _ _ rfl ?_ ?_
        · simp only [fnC_w0, fnC_S0, Int.toNat_natCast, Nat.mul_one]
          simp [f2, relV_get _ _ hu, intAt_row _ _ hu, wrapn k (by omega)]
          (repeat' refine And.intro ?_ ?_) <;> first | omega | exact f1
        refine RunO.effLast tab_ok noX_local rfl rfl rfl rfl ?_ (fun e => by cases e) rfl ?_
        · simp only [fnC_w0, Int.toNat_natCast, Nat.mul_one]
          simp [okCell, Value.oneCell', f2]; omega
        refine RunF_sound tab_ok noX_local 100 [] _ _ rfl ?_ ?_
        · simp
        refine ih (k + 1) (by omega) _ ⟨rfl, rfl, rfl, rfl, i64_eq (wrap_succ (by omega)), trivial⟩ ⟨rfl, rfl, congrArg (fun l => some (Blk.cells 34 [.vals 65 l])) ?_, trivial⟩
        simp [f2, e1, wrapn k (by omega), shl1_un, relV_set _ _ hu, rfP_yes hk' hu c2 hget]
      · refine RunF_sound tab_ok noX_local 200 [true, true, true, false] _ _ rfl ?_ ?_
        · simp only [fnC_w0, fnC_S0, Int.toNat_natCast, Nat.mul_one]
          simp [f2]
          (repeat' refine And.intro ?_ ?_) <;> first | omega | exact f1
        refine ih (k + 1) (by omega) _ ⟨rfl, rfl, rfl, rfl, i64_eq (wrap_succ (by omega)), trivial⟩ ⟨rfl, rfl, ?_, trivial⟩
        rw [← rfP_no (fun z hz h => by rw [hget] at h; cases h; exact c2 hz)]; rfl
    · refine RunF_sound tab_ok noX_local 200 [true, true, false] _ _ rfl ?_ ?_
      · simp only [fnC_w0, fnC_S0, Int.toNat_natCast, Nat.mul_one]
        simp [f2]
        (repeat' refine And.intro ?_ ?_) <;> first | omega | exact f1
      refine ih (k + 1) (by omega) _ ⟨rfl, rfl, rfl, rfl, i64_eq (wrap_succ (by omega)), trivial⟩ ⟨rfl, rfl, ?_, trivial⟩
      rw [← rfP_no (fun z hz h => by rw [hget] at h; cases h; exact c1 (Int.natCast_nonneg _))]; rfl
theorem rfR_enters : Enters Tryd.prog 33 := enters_mk Tryd.func33 (by decide) rfl
end Go.Proofs.YtmammebifhmnhaaDoor

/-
  Co, here and in the reference. Own work.
-/
namespace Go.Proofs.YtmammebifhmnhaaDoor
open Go.AM
set_option maxRecDepth 100000

theorem bit_eq (x : BitVec 64) (b : Int) : (band .u64 (shrI .u64 (un x) b) 1 == 1) = x.getLsbD b.toNat := by
  rw [shr_un, band1_un, Bool.eq_iff_iff, beq_iff_eq, un_eq1, bit_iff]
theorem bit1 (x : BitVec 64) (i : Nat) : (band .u64 (un (x >>> i)) 1 = 1) ↔ x.getLsbD i = true := by
  have h := bit_eq x (i : Int)
  rw [shr_un, Int.toNat_natCast, Bool.eq_iff_iff, beq_iff_eq] at h
  exact h

theorem slOf_of {o : Option Value} {p : Option Addr} {n c : Nat} (h : o = some (.slice p n c)) : slOf o = (p, n, c) := by rw [h]; rfl

theorem co_ok (x : Xn) (w : World) (hX : SeesX w x) : Gives Tryd.prog 58 [encX x] w (encRel (coL (shortL x.ev).length x.ord)) := by
  refine Gives.of_run Tryd.func58 rfl (by show 1 ≤ 63; decide) ?_
  have hone := xV_one hX.one1 hX.one4
  refine RunF_sound tab_ok noX_local 200 [] _ _ rfl ?_ ?_
  · simp
  refine Run.callFn noX_local rfl rfl rfl rfl rfl rfl rfl short_enters rfl (fun w' _ => short_ok x.pe x.ce x.ev w') ?_
  obtain ⟨p', c', e1, _⟩ := short_form x.ce hX.ev
  have hle := shortL_le x.ev
  rw [e1]
  generalize (shortL x.ev).length = n at hle
  have hlo := hX.lo
  have hlo2 := hX.lo2
  have hcells := hX.ord
  refine RunF_sound tab_ok noX_local 200 [] _ _ rfl ?_ ?_
  · simp [fillL, Value.cells, segsVals, relV_tail_one, splice]
    try rfl
  obtain ⟨Z, hZ⟩ : ∃ Z, Z = coL n x.ord := ⟨_, rfl⟩
  rw [← hZ]
  suffices H : ∀ (d i : Nat) (R : Rl), i + d = x.ord.length → R.n = (n : Int) → Z = (x.ord.drop i).foldl (cChain n) R → ∀ σ, inT σ.t [(2, .ptr 1 0), (3, .ptr 2 0), (16, .v (.slice x.po x.ord.length x.co)), (17, .v (.int .i64 (x.ord.length : Int))), (18, .v (.int .i64 (i : Int)))] →
      inT σ.h [(1, .cells 34 [.vals 65 (relV (Rl.void 0))]), (2, .cells 34 [.vals 65 (relV R)])] → Run _ _ σ by
    exact H x.ord.length 0 (Rl.void (n : Int)) (by omega) rfl (by rw [List.drop_zero]; exact hZ) _ ⟨rfl, rfl, rfl, rfl, rfl, trivial⟩ ⟨rfl, rfl, trivial⟩
  clear hZ
  intro d
  induction d with
  | zero =>
    intro i R hi hR hv σ ht hh
    refine Run.to ?_ ht hh (n' := 3)
    refine RunF_sound tab_ok noX_local 100 [false] _ _ rfl ?_ ?_
    · simp [relV_one', segsVals]; omega
    refine Run.retP tab_ok Tryd.func58 rfl ?_ (fun M => ?_)
    · simp
    rw [List.drop_eq_nil_of_le (by omega)] at hv
    rw [hv]; rfl
  | succ d ih =>
    intro i R hi hR hv σ ht hh
    refine Run.to ?_ ht hh (n' := 3)
    have hil : i < x.ord.length := by omega
    rw [List.drop_eq_getElem_cons hil, List.foldl_cons] at hv
    obtain ⟨f1, q, cq, f2, hin⟩ := hcells i hil
    have hcl := hlo2 x.ord[i] (List.getElem_mem hil)
    generalize x.ord[i] = C at *
    have f3 := slOf_of f2
    simp only [maxLen] at hcl hlo
    refine RunF_sound tab_ok noX_local 200 [true] _ _ rfl ?_ ?_
    · simp only [fnC_w0, fnC_S0, Int.toNat_natCast, Nat.mul_one, f2]
      simp
      (repeat' refine And.intro ?_ ?_) <;> first | omega | exact f1
    suffices H2 : ∀ (e j : Nat) (R : Rl) (s : BitVec 64), j + e = C.length → R.n = (n : Int) → Z = (x.ord.drop (i + 1)).foldl (cChain n) ((C.drop j).foldl (cStep n) (R, s)).1 → ∀ σ, inT σ.t [(2, .ptr 1 0), (3, .ptr 2 0), (16, .v (.slice x.po x.ord.length x.co)), (17, .v (.int .i64 (x.ord.length : Int))), (18, .v (.int .i64 (i : Int))), (6, .v (.int .u64 (un s))), (22, .v (.slice q C.length cq)), (23, .v (.int .i64 (C.length : Int))), (24, .v (.int .i64 (j : Int)))] →
        inT σ.h [(1, .cells 34 [.vals 65 (relV (Rl.void 0))]), (2, .cells 34 [.vals 65 (relV R)])] → Run _ _ σ by
      refine H2 C.length 0 R 0#64 (by omega) hR (by rw [List.drop_zero]; exact hv) _ ⟨rfl, rfl, rfl, rfl, rfl, rfl, ?_, ?_, rfl, trivial⟩ ⟨rfl, rfl, trivial⟩
      · simp only [fnC_w0, Int.toNat_natCast, Nat.mul_one, f3]; rfl
      · simp only [fnC_w0, Int.toNat_natCast, Nat.mul_one, f3]; rfl
    clear hv
    intro e
    induction e with
    | zero =>
      intro j R s hj hR hv σ ht hh
      refine Run.to ?_ ht hh (n' := 3)
      refine RunF_sound tab_ok noX_local 100 [false] _ _ rfl ?_ ?_
      · simp; omega
      rw [List.drop_eq_nil_of_le (by omega)] at hv
      exact ih (i + 1) R (by omega) hR hv _ ⟨rfl, rfl, rfl, rfl, i64_eq (wrap_succ (by omega)), trivial⟩ ⟨rfl, rfl, trivial⟩
    | succ e ihe =>
      intro j R s hj hR hv σ ht hh
      refine Run.to ?_ ht hh (n' := 3)
      have hjl : j < C.length := by omega
      rw [List.drop_eq_getElem_cons hjl, List.foldl_cons] at hv
      obtain ⟨g1, g2⟩ := hin j hjl
      generalize C[j] = v at *
      have hnR : intAt (relV R) 0 = (n : Int) := hR
      by_cases c1 : v < 0
      · rw [show cStep n (R, s) v = (R, s) by unfold cStep; rw [if_pos (.inl c1)]] at hv
        refine RunF_sound tab_ok noX_local 200 [true, true, true] _ _ rfl ?_ ?_
        · simp only [fnC_w0, fnC_S0, Int.toNat_natCast, Nat.mul_one, g2]
          simp [c1]
          (repeat' refine And.intro ?_ ?_) <;> first | omega | exact g1
        exact ihe (j + 1) R s (by omega) hR hv _ ⟨rfl, rfl, rfl, rfl, rfl, rfl, rfl, rfl, i64_eq (wrap_succ (by omega)), trivial⟩ ⟨rfl, rfl, trivial⟩
      by_cases c2 : v ≥ (n : Int)
      · rw [show cStep n (R, s) v = (R, s) by unfold cStep; rw [if_pos (.inr c2)]] at hv
        refine RunF_sound tab_ok noX_local 200 [true, false, true] _ _ rfl ?_ ?_
        · simp only [fnC_w0, fnC_S0, Int.toNat_natCast, Nat.mul_one, g2]
          simp [hR]
          (repeat' refine And.intro ?_ ?_) <;> first | omega | exact g1
        exact ihe (j + 1) R s (by omega) hR hv _ ⟨rfl, rfl, rfl, rfl, rfl, rfl, rfl, rfl, i64_eq (wrap_succ (by omega)), trivial⟩ ⟨rfl, rfl, trivial⟩
      obtain ⟨b, rfl⟩ : ∃ b : Nat, v = (b : Int) := ⟨v.toNat, by omega⟩
      rw [show cStep n (R, s) (b : Int) = (cP R s b n, s ||| 1#64 <<< b) by unfold cStep; rw [if_neg (by omega), Int.toNat_natCast]] at hv
      have hb : b < 64 := by omega
      refine RunF_sound tab_ok noX_local 200 [true, false, false] _ _ rfl ?_ ?_
      · simp only [fnC_w0, fnC_S0, Int.toNat_natCast, Nat.mul_one, g2]
        simp [hR]
        (repeat' refine And.intro ?_ ?_) <;> first | omega | exact g1
      suffices H3 : ∀ (y a : Nat), a + y = n → ∀ σ, inT σ.t [(2, .ptr 1 0), (3, .ptr 2 0), (16, .v (.slice x.po x.ord.length x.co)), (17, .v (.int .i64 (x.ord.length : Int))), (18, .v (.int .i64 (i : Int))), (6, .v (.int .u64 (un s))), (22, .v (.slice q C.length cq)), (23, .v (.int .i64 (C.length : Int))), (24, .v (.int .i64 (j : Int))), (8, .v (.int .i64 (b : Int))), (37, .v (.int .i64 (n : Int))), (38, .v (.int .i64 (a : Int)))] →
          inT σ.h [(1, .cells 34 [.vals 65 (relV (Rl.void 0))]), (2, .cells 34 [.vals 65 (relV (cP R s b a))])] → Run _ _ σ by
        refine H3 n 0 (by omega) _ ⟨rfl, rfl, rfl, rfl, rfl, rfl, rfl, rfl, rfl, ?_, i64_eq hnR, rfl, trivial⟩ ⟨rfl, ?_, trivial⟩
        · simp only [fnC_w0, Int.toNat_natCast, Nat.mul_one, g2]; rfl
        · rw [cP_0]; rfl
      intro y
      induction y with
      | zero =>
        intro a ha σ ht hh
        refine Run.to ?_ ht hh (n' := 3)
        refine RunF_sound tab_ok noX_local 200 [false] _ _ rfl ?_ ?_
        · simp; omega
        refine ihe (j + 1) (cP R s b n) (s ||| 1#64 <<< b) (by omega) ((cP_n _ _ _ _).trans hR) hv _ ⟨rfl, rfl, rfl, rfl, rfl, ?_, rfl, rfl, i64_eq (wrap_succ (by omega)), trivial⟩ ⟨rfl, ?_, trivial⟩
        · refine u64_eq ?_
          rw [shl1_un, bor_un, Int.toNat_natCast]
        · rw [show n = a by omega]; rfl
      | succ y ihy =>
        intro a ha σ ht hh
        refine Run.to ?_ ht hh (n' := 3)
        have ha' : a < 64 := by omega
        have hbit := bit1 s a
        by_cases c : s.getLsbD a = true
        · refine RunF_sound tab_ok noX_local 200 [true, true] _ _ rfl ?_ ?_
          · simp [hbit, c]; omega
          refine Run.drawA noX_local rfl [] [(2, .cells 34 [.vals 65 (relV (cP R s b a))])] rfl rfl ⟨rfl, trivial⟩ ?_
          refine RunOF_sound tab_ok noX_local rfl rfl 9 [] _ _ rfl ?_ ?_
          · simp [relV_get _ _ ha', intAt_row _ _ ha']; omega
          refine RunO.effLast tab_ok noX_local rfl rfl rfl rfl ?_ (fun e => by cases e) rfl ?_
          · simp [okCell, Value.oneCell']; omega
          refine RunF_sound tab_ok noX_local 100 [] _ _ rfl ?_ ?_
          · simp
          refine ihy (a + 1) (by omega) _ ⟨rfl, rfl, rfl, rfl, rfl, rfl, rfl, rfl, rfl, rfl, rfl, i64_eq (wrap_succ (by omega)), trivial⟩ ⟨rfl, congrArg (fun l => some (Blk.cells 34 [.vals 65 l])) ?_, trivial⟩
          have e1 : intAt (relV (cP R s b a)) (1 + a) = un ((cP R s b a).row a) := intAt_row _ _ ha'
          simp [e1, shl1_un, relV_set _ _ ha', cP_yes ha' c]
        · refine RunF_sound tab_ok noX_local 200 [true, false] _ _ rfl ?_ ?_
          · simp [hbit, c]; omega
          refine ihy (a + 1) (by omega) _ ⟨rfl, rfl, rfl, rfl, rfl, rfl, rfl, rfl, rfl, rfl, rfl, i64_eq (wrap_succ (by omega)), trivial⟩ ⟨rfl, ?_, trivial⟩
          rw [← cP_no (by simpa using c)]; rfl
theorem co_enters : Enters Tryd.prog 58 := enters_mk Tryd.func58 (by decide) rfl

theorem coR_ok (x : Xn) (w : World) (hX : SeesX w x) : Gives Tryd.prog 34 [encX x] w (encRel (coL (shortL x.ev).length x.ord)) := by
  refine Gives.of_run Tryd.func34 rfl (by show 1 ≤ 76; decide) ?_
  have hone := xV_one hX.one1 hX.one4
  refine RunF_sound tab_ok noX_local 200 [] _ _ rfl ?_ ?_
  · simp
  refine Run.callFn noX_local rfl rfl rfl rfl rfl rfl rfl shortR_enters rfl (fun w' _ => shortR_ok x.pe x.ce x.ev w') ?_
  obtain ⟨p', c', e1, _⟩ := short_form x.ce hX.ev
  have hle := shortL_le x.ev
  rw [e1]
  generalize (shortL x.ev).length = n at hle
  have hlo := hX.lo
  have hlo2 := hX.lo2
  have hcells := hX.ord
  refine RunF_sound tab_ok noX_local 200 [] _ _ rfl ?_ ?_
  · simp [fillL, Value.cells, segsVals, relV_tail_one, splice]
    try rfl
  obtain ⟨Z, hZ⟩ : ∃ Z, Z = coL n x.ord := ⟨_, rfl⟩
  rw [← hZ]
  suffices H : ∀ (d i : Nat) (R : Rl), i + d = x.ord.length → R.n = (n : Int) → Z = (x.ord.drop i).foldl (cChain n) R → ∀ σ, inT σ.t [(1, .ptr 0 0), (2, .ptr 1 0), (3, .v (.int .i64 (n : Int))), (4, .ptr 2 0), (5, .v (.int .i64 (i : Int)))] →
      inT σ.h [(0, .cells 28 [.vals 5 (xV x)]), (1, .cells 34 [.vals 65 (relV (Rl.void 0))]), (2, .cells 34 [.vals 65 (relV R)])] → Run _ _ σ by
    exact H x.ord.length 0 (Rl.void (n : Int)) (by omega) rfl (by rw [List.drop_zero]; exact hZ) _ ⟨rfl, rfl, rfl, rfl, rfl, trivial⟩ ⟨rfl, rfl, rfl, trivial⟩
  clear hZ
  intro d
  induction d with
  | zero =>
    intro i R hi hR hv σ ht hh
    refine Run.to ?_ ht hh (n' := 3)
    refine RunF_sound tab_ok noX_local 100 [false] _ _ rfl ?_ ?_
    · simp [relV_one', segsVals]; omega
    refine Run.retP tab_ok Tryd.func34 rfl ?_ (fun M => ?_)
    · simp
    rw [List.drop_eq_nil_of_le (by omega)] at hv
    rw [hv]; rfl
  | succ d ih =>
    intro i R hi hR hv σ ht hh
    refine Run.to ?_ ht hh (n' := 3)
    have hil : i < x.ord.length := by omega
    rw [List.drop_eq_getElem_cons hil, List.foldl_cons] at hv
    obtain ⟨f1, q, cq, f2, hin⟩ := hcells i hil
    have hcl := hlo2 x.ord[i] (List.getElem_mem hil)
    generalize x.ord[i] = C at *
    simp only [maxLen] at hcl hlo
    refine RunF_sound tab_ok noX_local 200 [true] _ _ rfl ?_ ?_
    · simp; omega
    suffices H2 : ∀ (e j : Nat) (R : Rl) (s : BitVec 64), j + e = C.length → R.n = (n : Int) → Z = (x.ord.drop (i + 1)).foldl (cChain n) ((C.drop j).foldl (cStep n) (R, s)).1 → ∀ σ, inT σ.t [(1, .ptr 0 0), (2, .ptr 1 0), (3, .v (.int .i64 (n : Int))), (4, .ptr 2 0), (5, .v (.int .i64 (i : Int))), (6, .v (.int .u64 (un s))), (7, .v (.int .i64 (j : Int)))] →
        inT σ.h [(0, .cells 28 [.vals 5 (xV x)]), (1, .cells 34 [.vals 65 (relV (Rl.void 0))]), (2, .cells 34 [.vals 65 (relV R)])] → Run _ _ σ by
      exact H2 C.length 0 R 0#64 (by omega) hR (by rw [List.drop_zero]; exact hv) _ ⟨rfl, rfl, rfl, rfl, rfl, rfl, rfl, trivial⟩ ⟨rfl, rfl, rfl, trivial⟩
    clear hv
    intro e
    induction e with
    | zero =>
      intro j R s hj hR hv σ ht hh
      refine Run.to ?_ ht hh (n' := 3)
      refine RunF_sound tab_ok noX_local 200 [false] _ _ rfl ?_ ?_
      · simp only [fnC_w0, fnC_S0, Int.toNat_natCast, Nat.mul_one]
        simp [f2]
        (repeat' refine And.intro ?_ ?_) <;> first | omega | exact f1
      rw [List.drop_eq_nil_of_le (by omega)] at hv
      exact ih (i + 1) R (by omega) hR hv _ ⟨rfl, rfl, rfl, rfl, i64_eq (wrap_succ (by omega)), trivial⟩ ⟨rfl, rfl, rfl, trivial⟩
    | succ e ihe =>
      intro j R s hj hR hv σ ht hh
      refine Run.to ?_ ht hh (n' := 3)
      have hjl : j < C.length := by omega
      rw [List.drop_eq_getElem_cons hjl, List.foldl_cons] at hv
      obtain ⟨g1, g2⟩ := hin j hjl
      generalize C[j] = v at *
      by_cases c1 : v < 0
      · rw [show cStep n (R, s) v = (R, s) by unfold cStep; rw [if_pos (.inl c1)]] at hv
        refine RunF_sound tab_ok noX_local 200 [true, true, true] _ _ rfl ?_ ?_
        · simp only [fnC_w0, fnC_S0, Int.toNat_natCast, Nat.mul_one]
          simp [f2, g2, c1]
          (repeat' refine And.intro ?_ ?_) <;> first | omega | exact f1 | exact g1
        exact ihe (j + 1) R s (by omega) hR hv _ ⟨rfl, rfl, rfl, rfl, rfl, rfl, i64_eq (wrap_succ (by omega)), trivial⟩ ⟨rfl, rfl, rfl, trivial⟩
      by_cases c2 : v ≥ (n : Int)
      · rw [show cStep n (R, s) v = (R, s) by unfold cStep; rw [if_pos (.inr c2)]] at hv
        refine RunF_sound tab_ok noX_local 200 [true, false, true] _ _ rfl ?_ ?_
        · simp only [fnC_w0, fnC_S0, Int.toNat_natCast, Nat.mul_one]
          simp [f2, g2]
          (repeat' refine And.intro ?_ ?_) <;> first | omega | exact f1 | exact g1
        exact ihe (j + 1) R s (by omega) hR hv _ ⟨rfl, rfl, rfl, rfl, rfl, rfl, i64_eq (wrap_succ (by omega)), trivial⟩ ⟨rfl, rfl, rfl, trivial⟩
      obtain ⟨b, rfl⟩ : ∃ b : Nat, v = (b : Int) := ⟨v.toNat, by omega⟩
      rw [show cStep n (R, s) (b : Int) = (cP R s b n, s ||| 1#64 <<< b) by unfold cStep; rw [if_neg (by omega), Int.toNat_natCast]] at hv
      have hb : b < 64 := by omega
      refine RunF_sound tab_ok noX_local 200 [true, false, false] _ _ rfl ?_ ?_
      · simp only [fnC_w0, fnC_S0, Int.toNat_natCast, Nat.mul_one]
        simp [f2, g2]
        (repeat' refine And.intro ?_ ?_) <;> first | omega | exact f1 | exact g1
      suffices H3 : ∀ (y a : Nat), a + y = n → ∀ σ, inT σ.t [(1, .ptr 0 0), (2, .ptr 1 0), (3, .v (.int .i64 (n : Int))), (4, .ptr 2 0), (5, .v (.int .i64 (i : Int))), (6, .v (.int .u64 (un s))), (7, .v (.int .i64 (j : Int))), (8, .v (.int .i64 (b : Int))), (9, .v (.int .i64 (a : Int)))] →
          inT σ.h [(0, .cells 28 [.vals 5 (xV x)]), (1, .cells 34 [.vals 65 (relV (Rl.void 0))]), (2, .cells 34 [.vals 65 (relV (cP R s b a))])] → Run _ _ σ by
        refine H3 n 0 (by omega) _ ⟨rfl, rfl, rfl, rfl, rfl, rfl, rfl, ?_, rfl, trivial⟩ ⟨rfl, rfl, ?_, trivial⟩
        · simp only [fnC_w0, Int.toNat_natCast, Nat.mul_one]
          have h8 : ∀ z : Option Addr × Nat × Nat, z = (q, C.length, cq) → w.cell? ((z.1.getD default).add j) = some (.int .i64 (b : Int)) := fun z hz => by rw [hz]; exact g2
          have h9 := h8 (slOf (w.cell? ((x.po.getD default).add i))) (slOf_of f2)
          have h10 : ∀ o : Option Value, o = some (.int .i64 (b : Int)) → some (AV.v (.int .i64 (match o with | some (.int _ m) => m | _ => 0))) = some (AV.v (.int .i64 (b : Int))) := fun o ho => by rw [ho]
          exact h10 _ h9
        · rw [cP_0]; rfl
      intro y
      induction y with
      | zero =>
        intro a ha σ ht hh
        refine Run.to ?_ ht hh (n' := 3)
        refine RunF_sound tab_ok noX_local 200 [false] _ _ rfl ?_ ?_
        · simp [wrapn b (by omega)]; omega
        refine ihe (j + 1) (cP R s b n) (s ||| 1#64 <<< b) (by omega) ((cP_n _ _ _ _).trans hR) hv _ ⟨rfl, rfl, rfl, rfl, rfl, ?_, i64_eq (wrap_succ (by omega)), trivial⟩ ⟨rfl, rfl, ?_, trivial⟩
        · refine u64_eq ?_
          rw [wrapn b (by omega), shl1_un, bor_un, Int.toNat_natCast]
        · rw [show n = a by omega]; rfl
      | succ y ihy =>
        intro a ha σ ht hh
        refine Run.to ?_ ht hh (n' := 3)
        have ha' : a < 64 := by omega
        have hbit := bit1 s a
        by_cases c : s.getLsbD a = true
        · refine RunF_sound tab_ok noX_local 200 [true, true] _ _ rfl ?_ ?_
          · simp [wrapn a (by omega), wrapn b (by omega), hbit, c, relV_get _ _ ha', intAt_row _ _ ha', okCell, Value.oneCell']; omega
          refine ihy (a + 1) (by omega) _ ⟨rfl, rfl, rfl, rfl, rfl, rfl, rfl, rfl, i64_eq (wrap_succ (by omega)), trivial⟩ ⟨rfl, rfl, congrArg (fun l => some (Blk.cells 34 [.vals 65 l])) ?_, trivial⟩
          have e1 : intAt (relV (cP R s b a)) (1 + a) = un ((cP R s b a).row a) := intAt_row _ _ ha'
          simp [e1, wrapn b (by omega), shl1_un, relV_set _ _ ha', cP_yes ha' c]
        · refine RunF_sound tab_ok noX_local 200 [true, false] _ _ rfl ?_ ?_
          · simp [wrapn a (by omega), hbit, c]; omega
          refine ihy (a + 1) (by omega) _ ⟨rfl, rfl, rfl, rfl, rfl, rfl, rfl, rfl, i64_eq (wrap_succ (by omega)), trivial⟩ ⟨rfl, rfl, ?_, trivial⟩
          rw [← cP_no (by simpa using c)]; rfl
theorem coR_enters : Enters Tryd.prog 34 := enters_mk Tryd.func34 (by decide) rfl
end Go.Proofs.YtmammebifhmnhaaDoor

/-
  Fr: plain laws. Own work.
-/
namespace Go.Proofs.YtmammebifhmnhaaDoor
open Go.AM
set_option maxRecDepth 100000

theorem right_below {n : Nat} (hn : n ≤ 64) {R : Rl} (hR : R.n = (n : Int)) (h : Below' n R) : rightL R = R := by
  refine rightL_of _ ?_
  unfold checkI
  have hg : ∀ i, i < 64 → good R i = true := fun i hi => (good_iff R i (by omega)).2 fun b hb ⟨h1, h2⟩ => by have := h i b h1; omega
  rw [if_neg (by omega), if_pos hg]

open Classical in
/-- The pairs of from-reads that are found by row i, column j. -/
noncomputable def frP (n : Nat) (F O : Rl) (i j : Nat) : Rl := Rl.gen (n : Int) fun a b => decide (∃ z, (z < i ∨ (z = i ∧ a < j)) ∧ F.has z a = true ∧ O.has z b = true ∧ a ≠ b)
noncomputable def frL (n : Nat) (F O : Rl) : Rl := frP n F O n 0
theorem frP_n (n : Nat) (F O : Rl) (i j : Nat) : (frP n F O i j).n = (n : Int) := by unfold frP; exact Rl.n_gen _ _
theorem frP_has {n : Nat} {F O : Rl} {i j a b : Nat} (ha : a < 64) (hb : b < 64) : (frP n F O i j).has a b = true ↔ ∃ z, (z < i ∨ (z = i ∧ a < j)) ∧ F.has z a = true ∧ O.has z b = true ∧ a ≠ b := by
  unfold frP; rw [Rl.has_gen]; simp [ha, hb]
theorem frP_0 (n : Nat) (F O : Rl) : frP n F O 0 0 = Rl.void (n : Int) := by
  apply Rl.ext_has
  · rw [frP_n]; rfl
  · intro a b ha hb
    rw [Bool.eq_iff_iff, frP_has ha hb, Rl.has, Rl.row_void]
    simp
theorem frP_yes {n : Nat} {F O : Rl} {i j : Nat} (hj : j < 64) (h : F.has i j = true) : (frP n F O i j).setRow j ((frP n F O i j).row j ||| (O.row i &&& ~~~(1#64 <<< j))) = frP n F O i (j + 1) := by
  apply Rl.ext_has
  · rw [Rl.n_setRow, frP_n, frP_n]
  · intro a b ha hb
    rw [Bool.eq_iff_iff, frP_has ha hb, Rl.has_setRow]
    by_cases e : j = a
    · subst e
      rw [if_pos ⟨rfl, hj⟩, BitVec.getLsbD_or, Bool.or_eq_true, BitVec.getLsbD_and, Bool.and_eq_true, BitVec.getLsbD_not, one_shl_get _ _ hj]
      have e1 : ((frP n F O i j).row j).getLsbD b = (frP n F O i j).has j b := rfl
      have e2 : (O.row i).getLsbD b = O.has i b := rfl
      rw [e1, e2, frP_has ha hb]
      constructor
      · rintro (⟨z, h1, h2⟩ | ⟨h1, h2⟩)
        · exact ⟨z, by omega, h2⟩
        · refine ⟨i, .inr ⟨rfl, by omega⟩, h, h1, ?_⟩
          simp at h2; omega
      · rintro ⟨z, h1, h2, h3, h4⟩
        by_cases hz : z = i
        · subst hz
          right
          refine ⟨h3, ?_⟩
          simp [hb]; omega
        · left
          exact ⟨z, by omega, h2, h3, h4⟩
    · rw [if_neg (by omega)]
      rw [frP_has ha hb]
      constructor
      · rintro ⟨z, h1, h2⟩; exact ⟨z, by omega, h2⟩
      · rintro ⟨z, h1, h2⟩; exact ⟨z, by omega, h2⟩
theorem frP_no {n : Nat} {F O : Rl} {i j : Nat} (h : F.has i j = false) : frP n F O i j = frP n F O i (j + 1) := by
  apply Rl.ext_has
  · rw [frP_n, frP_n]
  · intro a b ha hb
    rw [Bool.eq_iff_iff, frP_has ha hb, frP_has ha hb]
    constructor
    · rintro ⟨z, h1, h2⟩; exact ⟨z, by omega, h2⟩
    · rintro ⟨z, h1, h2, h3⟩
      by_cases hz : z = i ∧ a = j
      · rw [hz.1, hz.2, h] at h2; cases h2
      · exact ⟨z, by omega, h2, h3⟩
theorem frP_row {n : Nat} {F O : Rl} {i : Nat} (hF : Below' n F) : frP n F O i n = frP n F O (i + 1) 0 := by
  apply Rl.ext_has
  · rw [frP_n, frP_n]
  · intro a b ha hb
    rw [Bool.eq_iff_iff, frP_has ha hb, frP_has ha hb]
    constructor
    · rintro ⟨z, h1, h2⟩; exact ⟨z, by omega, h2⟩
    · rintro ⟨z, h1, h2, h3⟩
      have := hF z a h2
      exact ⟨z, by omega, h2, h3⟩

theorem onL_has {n : Nat} (hn : n ≤ 64) (a b : Nat) (ha : a < 64) (hb : b < 64) : (onL (n : Int) 18446744073709551615#64).has a b = true ↔ a < n ∧ a = b := by
  unfold onL
  rw [if_neg (by omega), Rl.has, Rl.row_by, if_pos ha]
  have h1 : (18446744073709551615#64).getLsbD a = true := by
    rw [show (18446744073709551615#64) = BitVec.allOnes 64 from by decide, BitVec.getLsbD_allOnes, decide_eq_true ha]
  rw [h1]
  by_cases c : (a : Int) < n
  · rw [if_pos ⟨c, rfl⟩, one_shl_get _ _ ha]
    simp; omega
  · rw [if_neg (by omega), BitVec.getLsbD_zero]
    simp; omega
theorem onL_below {n : Nat} (hn : n ≤ 64) : Below' n (onL (n : Int) 18446744073709551615#64) := fun a b h => by
  have h2 := Rl.has_lt _ h
  have := (onL_has hn a b h2.1 h2.2).1 h
  omega

/-- What the code says is what is found. -/
theorem fr_eq {n : Nat} (hn : n ≤ 64) {F O : Rl} (hF : F.n = (n : Int)) (hFb : Below' n F) (hO : O.n = (n : Int)) (hOb : Below' n O) :
    opL (fun a b => a &&& ~~~b) (composeL (invF (rightL F).n (edgesL (rightL F))) O) (onL F.n 18446744073709551615#64) = frL n F O := by
  have hFr := right_below hn hF hFb
  have hOr := right_below hn hO hOb
  have hIh := inverse_has F
  have hIn : (invF (rightL F).n (edgesL (rightL F))).n = (n : Int) := by rw [invF_n, hFr, hF]
  rw [hFr] at hIh hIn ⊢
  generalize invF F.n (edgesL F) = I at hIh hIn
  have hIb : Below' n I := fun a b h => by rw [hIh] at h; have := hFb b a h; omega
  have hIr := right_below hn hIn hIb
  have hCh := compose_has I O
  have h2 : twoL I O = (I, O) := by unfold twoL; rw [hIr, hOr, if_pos (by rw [hIn, hO])]
  have hCn : (composeL I O).n = (n : Int) := by unfold composeL; rw [cmpF_n, h2]; exact hIn
  rw [h2] at hCh
  have hCb : Below' n (composeL I O) := fun a b h => by
    rw [hCh] at h
    obtain ⟨c, _, hc⟩ := List.any_eq_true.1 h
    have hc := Bool.and_eq_true_iff.1 hc
    exact ⟨(hIb _ _ hc.1).1, (hOb _ _ hc.2).2⟩
  have hCr := right_below hn hCn hCb
  generalize composeL I O = C at *
  have hNb := onL_below hn
  have hNn : (onL (n : Int) 18446744073709551615#64).n = (n : Int) := by unfold onL; rw [if_neg (by omega)]; exact Rl.n_by _ _
  have hNr := right_below hn hNn hNb
  have hNh := onL_has hn
  rw [hF, minus_eq]
  generalize onL (n : Int) 18446744073709551615#64 = N at *
  have h3 : twoL C N = (C, N) := by unfold twoL; rw [hCr, hNr, if_pos (by rw [hCn, hNn])]
  unfold twoR
  rw [h3]
  apply Rl.ext_has
  · rw [Rl.n_gen, frL, frP_n, hCn]
  · intro a b ha hb
    rw [Bool.eq_iff_iff, frL, frP_has ha hb, Rl.has_gen]
    simp only [decide_eq_true (show a < 64 ∧ b < 64 from ⟨ha, hb⟩), Bool.true_and, pTwo, Bool.and_eq_true, Bool.not_eq_true', hCh, List.any_eq_true, List.mem_range, hIh]
    constructor
    · rintro ⟨⟨c, hc, h4, h5⟩, h6⟩
      have h7 := hFb c a h4
      refine ⟨c, .inl h7.1, h4, h5, fun e => ?_⟩
      rw [(hNh a b ha hb).2 ⟨h7.2, e⟩] at h6
      cases h6
    · rintro ⟨c, h4, h5, h6, h7⟩
      have h8 := hFb c a h5
      refine ⟨⟨c, by omega, h5, h6⟩, ?_⟩
      cases hh : N.has a b with
      | false => rfl
      | true => exact absurd ((hNh a b ha hb).1 hh).2 h7
end Go.Proofs.YtmammebifhmnhaaDoor

/-
  Fr, here and in the reference; EventReads. Own work; the orders of the reference's drawn region printed by a program of our own.
-/
namespace Go.Proofs.YtmammebifhmnhaaDoor
open Go.AM
set_option maxRecDepth 100000

theorem fr_ok (x : Xn) (w : World) (hX : SeesX w x) (hT : TabAt w) (h0 : 0 < w.heap.size) :
    Gives Tryd.prog 59 [encX x] w (encRel (frL (shortL x.ev).length (rfL (shortL x.ev).length x.from_) (coL (shortL x.ev).length x.ord))) := by
  refine Gives.of_run Tryd.func59 rfl (by show 1 ≤ 15; decide) ?_
  have hone := xV_one hX.one1 hX.one4
  have hle := shortL_le x.ev
  have hrf := fun w' (hA : Agree (fun _ => False) w w') => rf_ok x w' (hX.agree hA)
  have hco := fun w' (hA : Agree (fun _ => False) w w') => co_ok x w' (hX.agree hA)
  have heq := fr_eq hle (F := rfL (shortL x.ev).length x.from_) (O := coL (shortL x.ev).length x.ord) (by unfold rfL; exact rfP_n _ _ _) (rfL_below _) (coL_n _ _ _) (coL_below hle _ _ (void_below _ _))
  rw [← heq]
  clear heq
  generalize rfL (shortL x.ev).length x.from_ = F at *
  generalize coL (shortL x.ev).length x.ord = O at *
  have k1 : ∀ w', Agree (fun _ => False) w w' → Gives Tryd.prog 94 [encRel F] w' (encRel (invF (rightL F).n (edgesL (rightL F)))) := fun w' hA => inverse_ok F w' (hT.agree hA (fun f => f)) (Nat.lt_of_lt_of_le h0 hA.size)
  generalize invF (rightL F).n (edgesL (rightL F)) = I at *
  have k2 : ∀ w', Agree (fun _ => False) w w' → Gives Tryd.prog 93 [encRel I, encRel O] w' (encRel (composeL I O)) := fun w' hA => compose_ok I O w' (hT.agree hA (fun f => f)) (Nat.lt_of_lt_of_le h0 hA.size)
  generalize composeL I O = C at *
  have k3 : ∀ w', Gives Tryd.prog 69 [.int .i64 F.n, .int .u64 18446744073709551615] w' (encRel (onL F.n 18446744073709551615#64)) := fun w' => by
    have h := on_ok F.n 18446744073709551615#64 w'
    rw [show un 18446744073709551615#64 = 18446744073709551615 from by decide] at h
    exact h
  generalize onL F.n 18446744073709551615#64 = N at *
  have k4 : ∀ w', Gives Tryd.prog 53 [encRel C, encRel N] w' (encRel (opL (fun a b => a &&& ~~~b) C N)) := fun w' => minus_ok C N w'
  generalize opL (fun a b => a &&& ~~~b) C N = Y at *
  refine RunF_sound tab_ok noX_local 200 [] _ _ rfl ?_ ?_
  · simp
  refine Run.callFn (r := encRel F) noX_local rfl rfl rfl rfl rfl rfl rfl rf_enters rfl (fun w' hA => hrf w' hA) ?_
  refine RunF_sound tab_ok noX_local 200 [] _ _ rfl ?_ ?_
  · simp [segsVals, relV_one']
  refine Run.drawA noX_local rfl [] [(0, .cells 28 [.vals 5 (xV x)]), (2, .cells 34 [.vals 65 (relV F)])] rfl rfl ⟨rfl, by simp [splice, lk], trivial⟩ ?_
  refine RunOF_sound tab_ok noX_local rfl rfl 200 [] _ _ rfl ?_ ?_
  · simp
  refine RunO.callFn (r := encRel I) noX_local rfl rfl rfl rfl rfl rfl rfl rfl inverse_enters rfl (fun w' hA => k1 w' hA) ?_
  refine RunOF_sound tab_ok noX_local rfl rfl 200 [] _ _ rfl ?_ ?_
  · simp
  refine RunO.callFn (r := encRel O) noX_local rfl rfl rfl rfl rfl rfl rfl rfl co_enters rfl (fun w' hA => hco w' hA) ?_
  refine RunOF_sound tab_ok noX_local rfl rfl 200 [] _ _ rfl ?_ ?_
  · simp
  refine RunO.callFn (r := encRel C) noX_local rfl rfl rfl rfl rfl rfl rfl rfl compose_enters rfl (fun w' hA => k2 w' hA) ?_
  refine RunOF_sound tab_ok noX_local rfl rfl 200 [] _ _ rfl ?_ ?_
  · simp
  refine RunO.callFn (r := encRel N) noX_local rfl rfl rfl rfl rfl rfl rfl rfl on_enters rfl (fun w' _ => k3 w') ?_
  refine RunOF_sound tab_ok noX_local rfl rfl 200 [] _ _ rfl ?_ ?_
  · simp
  refine RunO.callFn (r := encRel Y) noX_local rfl rfl rfl rfl rfl rfl rfl rfl minus_enters rfl (fun w' _ => k4 w') ?_
  refine RunOF_sound tab_ok noX_local rfl rfl 200 [] _ _ rfl ?_ ?_
  · simp [segsVals, relV_one', inT, lk]
  refine RunO.done ?_
  refine RunF_sound tab_ok noX_local 100 [] _ _ rfl ?_ ?_
  · simp
  refine Run.retP tab_ok Tryd.func59 rfl ?_ (fun M => ?_)
  · simp
  rfl
theorem fr_enters : Enters Tryd.prog 59 := enters_mk Tryd.func59 (by decide) rfl

theorem frR_ok (x : Xn) (w : World) (hX : SeesX w x) :
    Gives Tryd.prog 35 [encX x] w (encRel (frL (shortL x.ev).length (rfL (shortL x.ev).length x.from_) (coL (shortL x.ev).length x.ord))) := by
  refine Gives.of_run Tryd.func35 rfl (by show 1 ≤ 53; decide) ?_
  have hone := xV_one hX.one1 hX.one4
  have hle := shortL_le x.ev
  have hrf := fun w' (hA : Agree (fun _ => False) w w') => rfR_ok x w' (hX.agree hA)
  have hco := fun w' (hA : Agree (fun _ => False) w w') => coR_ok x w' (hX.agree hA)
  have hFn : (rfL (shortL x.ev).length x.from_).n = ((shortL x.ev).length : Int) := by unfold rfL; exact rfP_n _ _ _
  have hFb := rfL_below (n := (shortL x.ev).length) x.from_
  have hOn : (coL (shortL x.ev).length x.ord).n = ((shortL x.ev).length : Int) := coL_n _ _ _
  generalize rfL (shortL x.ev).length x.from_ = F at *
  generalize coL (shortL x.ev).length x.ord = O at *
  generalize (shortL x.ev).length = n at *
  obtain ⟨Z, hZ⟩ : ∃ Z, Z = frL n F O := ⟨_, rfl⟩
  rw [← hZ]
  refine RunF_sound tab_ok noX_local 200 [] _ _ rfl ?_ ?_
  · simp
  refine' Run.join (todo' := _) [(2, .ptr 1 0), (3, .ptr 2 0), (4, .ptr 3 0)] [(1, .cells 34 [.vals 65 (relV (Rl.void 0))]), (2, .cells 34 [.vals 65 (relV F)]), (3, .cells 34 [.vals 65 (relV O)])] 4 ?_ ?_
  rotate_left
  · intro J
    have J2 : ∀ σ, inT σ.t [(2, .ptr 1 0), (3, .ptr 3 0), (4, .ptr 2 0)] → inT σ.h [(1, .cells 34 [.vals 65 (relV (Rl.void 0))]), (3, .cells 34 [.vals 65 (relV F)]), (2, .cells 34 [.vals 65 (relV O)])] → Run _ _ σ := fun σ ht hh =>
      Run.toR [(2, 3), (3, 2)] (t' := [(2, .ptr 1 0), (3, .ptr 2 0), (4, .ptr 3 0)]) (h' := [(1, .cells 34 [.vals 65 (relV (Rl.void 0))]), (2, .cells 34 [.vals 65 (relV F)]), (3, .cells 34 [.vals 65 (relV O)])]) (n' := 4)
        (J _ ⟨⟨_, rfl, fun M => rfl⟩, ⟨_, rfl, fun M => rfl⟩, ⟨_, rfl, fun M => rfl⟩, trivial⟩ ⟨rfl, rfl, rfl, trivial⟩) ⟨ht.1, ht.2.1, ht.2.2.1, trivial⟩ ⟨hh.1, hh.2.1, hh.2.2.1, trivial⟩ rfl
    refine Run.drawOrd noX_local rfl [(0, .cells 28 [.vals 5 (xV x)])] ⟨rfl, trivial⟩ fun l hl => ?_
    have h := hl
    rcases ord_fork' 4 5 rfl h with h | h
    · rcases ord_fork' 1 4 rfl h with h | h
      · rcases ord_fork' 3 4 rfl h with h | h
        · refine draw_leaf [] (LikeS.add 3 4 (LikeS.add 1 4 (LikeS.add 4 5 (LikeS.refl _)))) h rfl rfl ?_
          refine RunOF_sound tab_ok noX_local rfl rfl 200 [] _ _ rfl ?_ ?_
          · simp
          refine RunO.callFn (r := encRel F) noX_local rfl rfl rfl rfl rfl rfl rfl rfl rfR_enters rfl (fun w' hA => hrf w' hA) ?_
          refine RunOF_sound tab_ok noX_local rfl rfl 200 [] _ _ rfl ?_ ?_
          · simp
          refine RunO.callFn (r := encRel O) noX_local rfl rfl rfl rfl rfl rfl rfl rfl coR_enters rfl (fun w' hA => hco w' hA) ?_
          refine RunOF_sound tab_ok noX_local rfl rfl 200 [] _ _ rfl ?_ ?_
          · simp [inT, lk, segsVals, relV_one']
          refine RunO.done ?_
          refine J _ ?_ ?_
          · exact ⟨⟨_, rfl, fun M => rfl⟩, ⟨_, rfl, fun M => rfl⟩, ⟨_, rfl, fun M => rfl⟩, trivial⟩
          · refine ⟨?_, ?_, ?_, trivial⟩ <;> simp [lk]
        · rcases ord_fork' 3 5 rfl h with h | h
          · refine draw_leaf [] (LikeS.add 3 5 (LikeS.add 4 3 (LikeS.add 1 4 (LikeS.add 4 5 (LikeS.refl _))))) h rfl rfl ?_
            refine RunOF_sound tab_ok noX_local rfl rfl 200 [] _ _ rfl ?_ ?_
            · simp
            refine RunO.callFn (r := encRel F) noX_local rfl rfl rfl rfl rfl rfl rfl rfl rfR_enters rfl (fun w' hA => hrf w' hA) ?_
            refine RunOF_sound tab_ok noX_local rfl rfl 200 [] _ _ rfl ?_ ?_
            · simp [inT, lk]
            refine RunO.callFn (r := encRel O) noX_local rfl rfl rfl rfl rfl rfl rfl rfl coR_enters rfl (fun w' hA => hco w' hA) ?_
            refine RunOF_sound tab_ok noX_local rfl rfl 200 [] _ _ rfl ?_ ?_
            · simp [inT, lk, segsVals, relV_one']
            refine RunO.done ?_
            refine J _ ?_ ?_
            · exact ⟨⟨_, rfl, fun M => rfl⟩, ⟨_, rfl, fun M => rfl⟩, ⟨_, rfl, fun M => rfl⟩, trivial⟩
            · refine ⟨?_, ?_, ?_, trivial⟩ <;> simp [lk]
          · refine draw_leaf [] (LikeS.add 5 3 (LikeS.add 4 3 (LikeS.add 1 4 (LikeS.add 4 5 (LikeS.refl _))))) h rfl rfl ?_
            refine RunOF_sound tab_ok noX_local rfl rfl 200 [] _ _ rfl ?_ ?_
            · simp
            refine RunO.callFn (r := encRel F) noX_local rfl rfl rfl rfl rfl rfl rfl rfl rfR_enters rfl (fun w' hA => hrf w' hA) ?_
            refine RunOF_sound tab_ok noX_local rfl rfl 200 [] _ _ rfl ?_ ?_
            · simp [inT, lk]
            refine RunO.callFn (r := encRel O) noX_local rfl rfl rfl rfl rfl rfl rfl rfl coR_enters rfl (fun w' hA => hco w' hA) ?_
            refine RunOF_sound tab_ok noX_local rfl rfl 200 [] _ _ rfl ?_ ?_
            · simp [inT, lk, segsVals, relV_one']
            refine RunO.done ?_
            refine J _ ?_ ?_
            · exact ⟨⟨_, rfl, fun M => rfl⟩, ⟨_, rfl, fun M => rfl⟩, ⟨_, rfl, fun M => rfl⟩, trivial⟩
            · refine ⟨?_, ?_, ?_, trivial⟩ <;> simp [lk]
      · rcases ord_fork' 1 5 rfl h with h | h
        · rcases ord_fork' 3 5 rfl h with h | h
          · refine draw_leaf [] (LikeS.add 3 5 (LikeS.add 1 5 (LikeS.add 4 1 (LikeS.add 4 5 (LikeS.refl _))))) h rfl rfl ?_
            refine RunOF_sound tab_ok noX_local rfl rfl 200 [] _ _ rfl ?_ ?_
            · simp [inT, lk]
            refine RunO.callFn (r := encRel F) noX_local rfl rfl rfl rfl rfl rfl rfl rfl rfR_enters rfl (fun w' hA => hrf w' hA) ?_
            refine RunOF_sound tab_ok noX_local rfl rfl 200 [] _ _ rfl ?_ ?_
            · simp
            refine RunO.callFn (r := encRel O) noX_local rfl rfl rfl rfl rfl rfl rfl rfl coR_enters rfl (fun w' hA => hco w' hA) ?_
            refine RunOF_sound tab_ok noX_local rfl rfl 200 [] _ _ rfl ?_ ?_
            · simp [inT, lk, segsVals, relV_one']
            refine RunO.done ?_
            refine J _ ?_ ?_
            · exact ⟨⟨_, rfl, fun M => rfl⟩, ⟨_, rfl, fun M => rfl⟩, ⟨_, rfl, fun M => rfl⟩, trivial⟩
            · refine ⟨?_, ?_, ?_, trivial⟩ <;> simp [lk]
          · refine draw_leaf [] (LikeS.add 5 3 (LikeS.add 1 5 (LikeS.add 4 1 (LikeS.add 4 5 (LikeS.refl _))))) h rfl rfl ?_
            refine RunOF_sound tab_ok noX_local rfl rfl 200 [] _ _ rfl ?_ ?_
            · simp [inT, lk]
            refine RunO.callFn (r := encRel F) noX_local rfl rfl rfl rfl rfl rfl rfl rfl rfR_enters rfl (fun w' hA => hrf w' hA) ?_
            refine RunOF_sound tab_ok noX_local rfl rfl 200 [] _ _ rfl ?_ ?_
            · simp [inT, lk]
            refine RunO.callFn (r := encRel O) noX_local rfl rfl rfl rfl rfl rfl rfl rfl coR_enters rfl (fun w' hA => hco w' hA) ?_
            refine RunOF_sound tab_ok noX_local rfl rfl 200 [] _ _ rfl ?_ ?_
            · simp [inT, lk, segsVals, relV_one']
            refine RunO.done ?_
            refine J _ ?_ ?_
            · exact ⟨⟨_, rfl, fun M => rfl⟩, ⟨_, rfl, fun M => rfl⟩, ⟨_, rfl, fun M => rfl⟩, trivial⟩
            · refine ⟨?_, ?_, ?_, trivial⟩ <;> simp [lk]
        · refine draw_leaf [] (LikeS.add 5 1 (LikeS.add 4 1 (LikeS.add 4 5 (LikeS.refl _)))) h rfl rfl ?_
          refine RunOF_sound tab_ok noX_local rfl rfl 200 [] _ _ rfl ?_ ?_
          · simp [inT, lk]
          refine RunO.callFn (r := encRel F) noX_local rfl rfl rfl rfl rfl rfl rfl rfl rfR_enters rfl (fun w' hA => hrf w' hA) ?_
          refine RunOF_sound tab_ok noX_local rfl rfl 200 [] _ _ rfl ?_ ?_
          · simp
          refine RunO.callFn (r := encRel O) noX_local rfl rfl rfl rfl rfl rfl rfl rfl coR_enters rfl (fun w' hA => hco w' hA) ?_
          refine RunOF_sound tab_ok noX_local rfl rfl 200 [] _ _ rfl ?_ ?_
          · simp [inT, lk, segsVals, relV_one']
          refine RunO.done ?_
          refine J _ ?_ ?_
          · exact ⟨⟨_, rfl, fun M => rfl⟩, ⟨_, rfl, fun M => rfl⟩, ⟨_, rfl, fun M => rfl⟩, trivial⟩
          · refine ⟨?_, ?_, ?_, trivial⟩ <;> simp [lk]
    · rcases ord_fork' 1 5 rfl h with h | h
      · rcases ord_fork' 3 5 rfl h with h | h
        · refine draw_leaf [] (LikeS.add 3 5 (LikeS.add 1 5 (LikeS.add 5 4 (LikeS.refl _)))) h rfl rfl ?_
          refine RunOF_sound tab_ok noX_local rfl rfl 200 [] _ _ rfl ?_ ?_
          · simp
          refine RunO.callFn (r := encRel F) noX_local rfl rfl rfl rfl rfl rfl rfl rfl rfR_enters rfl (fun w' hA => hrf w' hA) ?_
          refine RunOF_sound tab_ok noX_local rfl rfl 200 [] _ _ rfl ?_ ?_
          · simp
          refine RunO.callFn (r := encRel O) noX_local rfl rfl rfl rfl rfl rfl rfl rfl coR_enters rfl (fun w' hA => hco w' hA) ?_
          refine RunOF_sound tab_ok noX_local rfl rfl 200 [] _ _ rfl ?_ ?_
          · simp [inT, lk, segsVals, relV_one']
          refine RunO.done ?_
          refine J2 _ ?_ ?_
          · exact ⟨rfl, rfl, rfl, trivial⟩
          · refine ⟨?_, ?_, ?_, trivial⟩ <;> simp [lk]
        · rcases ord_fork' 3 4 rfl h with h | h
          · refine draw_leaf [] (LikeS.add 3 4 (LikeS.add 5 3 (LikeS.add 1 5 (LikeS.add 5 4 (LikeS.refl _))))) h rfl rfl ?_
            refine RunOF_sound tab_ok noX_local rfl rfl 200 [] _ _ rfl ?_ ?_
            · simp
            refine RunO.callFn (r := encRel F) noX_local rfl rfl rfl rfl rfl rfl rfl rfl rfR_enters rfl (fun w' hA => hrf w' hA) ?_
            refine RunOF_sound tab_ok noX_local rfl rfl 200 [] _ _ rfl ?_ ?_
            · simp [inT, lk]
            refine RunO.callFn (r := encRel O) noX_local rfl rfl rfl rfl rfl rfl rfl rfl coR_enters rfl (fun w' hA => hco w' hA) ?_
            refine RunOF_sound tab_ok noX_local rfl rfl 200 [] _ _ rfl ?_ ?_
            · simp [inT, lk, segsVals, relV_one']
            refine RunO.done ?_
            refine J2 _ ?_ ?_
            · exact ⟨rfl, rfl, rfl, trivial⟩
            · refine ⟨?_, ?_, ?_, trivial⟩ <;> simp [lk]
          · refine draw_leaf [] (LikeS.add 4 3 (LikeS.add 5 3 (LikeS.add 1 5 (LikeS.add 5 4 (LikeS.refl _))))) h rfl rfl ?_
            refine RunOF_sound tab_ok noX_local rfl rfl 200 [] _ _ rfl ?_ ?_
            · simp
            refine RunO.callFn (r := encRel F) noX_local rfl rfl rfl rfl rfl rfl rfl rfl rfR_enters rfl (fun w' hA => hrf w' hA) ?_
            refine RunOF_sound tab_ok noX_local rfl rfl 200 [] _ _ rfl ?_ ?_
            · simp [inT, lk]
            refine RunO.callFn (r := encRel O) noX_local rfl rfl rfl rfl rfl rfl rfl rfl coR_enters rfl (fun w' hA => hco w' hA) ?_
            refine RunOF_sound tab_ok noX_local rfl rfl 200 [] _ _ rfl ?_ ?_
            · simp [inT, lk, segsVals, relV_one']
            refine RunO.done ?_
            refine J2 _ ?_ ?_
            · exact ⟨rfl, rfl, rfl, trivial⟩
            · refine ⟨?_, ?_, ?_, trivial⟩ <;> simp [lk]
      · rcases ord_fork' 1 4 rfl h with h | h
        · rcases ord_fork' 3 4 rfl h with h | h
          · refine draw_leaf [] (LikeS.add 3 4 (LikeS.add 1 4 (LikeS.add 5 1 (LikeS.add 5 4 (LikeS.refl _))))) h rfl rfl ?_
            refine RunOF_sound tab_ok noX_local rfl rfl 200 [] _ _ rfl ?_ ?_
            · simp [inT, lk]
            refine RunO.callFn (r := encRel F) noX_local rfl rfl rfl rfl rfl rfl rfl rfl rfR_enters rfl (fun w' hA => hrf w' hA) ?_
            refine RunOF_sound tab_ok noX_local rfl rfl 200 [] _ _ rfl ?_ ?_
            · simp
            refine RunO.callFn (r := encRel O) noX_local rfl rfl rfl rfl rfl rfl rfl rfl coR_enters rfl (fun w' hA => hco w' hA) ?_
            refine RunOF_sound tab_ok noX_local rfl rfl 200 [] _ _ rfl ?_ ?_
            · simp [inT, lk, segsVals, relV_one']
            refine RunO.done ?_
            refine J2 _ ?_ ?_
            · exact ⟨rfl, rfl, rfl, trivial⟩
            · refine ⟨?_, ?_, ?_, trivial⟩ <;> simp [lk]
          · refine draw_leaf [] (LikeS.add 4 3 (LikeS.add 1 4 (LikeS.add 5 1 (LikeS.add 5 4 (LikeS.refl _))))) h rfl rfl ?_
            refine RunOF_sound tab_ok noX_local rfl rfl 200 [] _ _ rfl ?_ ?_
            · simp [inT, lk]
            refine RunO.callFn (r := encRel F) noX_local rfl rfl rfl rfl rfl rfl rfl rfl rfR_enters rfl (fun w' hA => hrf w' hA) ?_
            refine RunOF_sound tab_ok noX_local rfl rfl 200 [] _ _ rfl ?_ ?_
            · simp [inT, lk]
            refine RunO.callFn (r := encRel O) noX_local rfl rfl rfl rfl rfl rfl rfl rfl coR_enters rfl (fun w' hA => hco w' hA) ?_
            refine RunOF_sound tab_ok noX_local rfl rfl 200 [] _ _ rfl ?_ ?_
            · simp [inT, lk, segsVals, relV_one']
            refine RunO.done ?_
            refine J2 _ ?_ ?_
            · exact ⟨rfl, rfl, rfl, trivial⟩
            · refine ⟨?_, ?_, ?_, trivial⟩ <;> simp [lk]
        · refine draw_leaf [] (LikeS.add 4 1 (LikeS.add 5 1 (LikeS.add 5 4 (LikeS.refl _)))) h rfl rfl ?_
          refine RunOF_sound tab_ok noX_local rfl rfl 200 [] _ _ rfl ?_ ?_
          · simp [inT, lk]
          refine RunO.callFn (r := encRel F) noX_local rfl rfl rfl rfl rfl rfl rfl rfl rfR_enters rfl (fun w' hA => hrf w' hA) ?_
          refine RunOF_sound tab_ok noX_local rfl rfl 200 [] _ _ rfl ?_ ?_
          · simp
          refine RunO.callFn (r := encRel O) noX_local rfl rfl rfl rfl rfl rfl rfl rfl coR_enters rfl (fun w' hA => hco w' hA) ?_
          refine RunOF_sound tab_ok noX_local rfl rfl 200 [] _ _ rfl ?_ ?_
          · simp [inT, lk, segsVals, relV_one']
          refine RunO.done ?_
          refine J2 _ ?_ ?_
          · exact ⟨rfl, rfl, rfl, trivial⟩
          · refine ⟨?_, ?_, ?_, trivial⟩ <;> simp [lk]
  refine RunF_sound tab_ok noX_local 200 [] _ _ rfl ?_ ?_
  · simp [fillL, Value.cells, segsVals, relV_tail_one, splice]
    try rfl
  suffices H : ∀ (d i : Nat), i + d = n → ∀ σ, inT σ.t [(2, .ptr 1 0), (3, .ptr 2 0), (4, .ptr 3 0), (5, .ptr 4 0), (6, .v (.int .i64 (i : Int)))] →
      inT σ.h [(1, .cells 34 [.vals 65 (relV (Rl.void 0))]), (2, .cells 34 [.vals 65 (relV F)]), (3, .cells 34 [.vals 65 (relV O)]), (4, .cells 34 [.vals 65 (relV (frP n F O i 0))])] → Run _ _ σ by
    refine H n 0 (by omega) _ ⟨rfl, rfl, rfl, rfl, rfl, trivial⟩ ⟨rfl, rfl, rfl, ?_, trivial⟩
    rw [frP_0, ← hFn]; rfl
  intro d
  induction d with
  | zero =>
    intro i hi σ ht hh
    refine Run.to ?_ ht hh (n' := 5)
    refine RunF_sound tab_ok noX_local 100 [false] _ _ rfl ?_ ?_
    · simp [relV_one', segsVals, hFn]; omega
    refine Run.retP tab_ok Tryd.func35 rfl ?_ (fun M => ?_)
    · simp
    rw [hZ, frL, show n = i by omega]; rfl
  | succ d ih =>
    intro i hi σ ht hh
    refine Run.to ?_ ht hh (n' := 5)
    have hi' : i < 64 := by omega
    refine RunF_sound tab_ok noX_local 100 [true] _ _ rfl ?_ ?_
    · simp [hFn]; omega
    suffices H2 : ∀ (e j : Nat), j + e = n → ∀ σ, inT σ.t [(2, .ptr 1 0), (3, .ptr 2 0), (4, .ptr 3 0), (5, .ptr 4 0), (6, .v (.int .i64 (i : Int))), (7, .v (.int .i64 (j : Int)))] →
        inT σ.h [(1, .cells 34 [.vals 65 (relV (Rl.void 0))]), (2, .cells 34 [.vals 65 (relV F)]), (3, .cells 34 [.vals 65 (relV O)]), (4, .cells 34 [.vals 65 (relV (frP n F O i j))])] → Run _ _ σ by
      exact H2 n 0 (by omega) _ ⟨rfl, rfl, rfl, rfl, rfl, rfl, trivial⟩ ⟨rfl, rfl, rfl, rfl, trivial⟩
    intro e
    induction e with
    | zero =>
      intro j hj σ ht hh
      refine Run.to ?_ ht hh (n' := 5)
      refine RunF_sound tab_ok noX_local 100 [false] _ _ rfl ?_ ?_
      · simp [hFn]; omega
      refine ih (i + 1) (by omega) _ ⟨rfl, rfl, rfl, rfl, i64_eq (wrap_succ (by omega)), trivial⟩ ⟨rfl, rfl, rfl, ?_, trivial⟩
      rw [← frP_row hFb, show j = n by omega]; rfl
    | succ e ihe =>
      intro j hj σ ht hh
      refine Run.to ?_ ht hh (n' := 5)
      have hj' : j < 64 := by omega
      have hbit := bit1 (F.row i) j
      by_cases c : (F.row i).getLsbD j = true
      · refine RunF_sound tab_ok noX_local 200 [true, true] _ _ rfl ?_ ?_
        · simp [hFn, wrapn j (by omega), relV_get _ _ hi', intAt_row _ _ hi', hbit, c]; omega
        refine Run.drawA noX_local rfl [] [(3, .cells 34 [.vals 65 (relV O)]), (4, .cells 34 [.vals 65 (relV (frP n F O i j))])] rfl rfl ⟨rfl, rfl, trivial⟩ ?_
        have e1 : intAt (relV (frP n F O i j)) (1 + j) = un ((frP n F O i j).row j) := intAt_row _ _ hj'
        have e2 : intAt (relV O) (1 + i) = un (O.row i) := intAt_row _ _ hi'
        refine RunOF_sound tab_ok noX_local rfl rfl 16 [] _ _ rfl ?_ ?_
        · simp [wrapn j (by omega), relV_get _ _ hj', relV_get _ _ hi', e1, e2]; omega
        refine RunO.effLast tab_ok noX_local rfl rfl rfl rfl ?_ (fun e => by cases e) rfl ?_
        · simp [okCell, Value.oneCell']; omega
        refine RunF_sound tab_ok noX_local 100 [] _ _ rfl ?_ ?_
        · simp
        refine ihe (j + 1) (by omega) _ ⟨rfl, rfl, rfl, rfl, rfl, i64_eq (wrap_succ (by omega)), trivial⟩ ⟨rfl, rfl, rfl, congrArg (fun l => some (Blk.cells 34 [.vals 65 l])) ?_, trivial⟩
        simp [e1, e2, wrapn j (by omega), shl1_un, relV_set _ _ hj', frP_yes hj' (show F.has i j = true from c)]
      · refine RunF_sound tab_ok noX_local 200 [true, false] _ _ rfl ?_ ?_
        · simp [hFn, wrapn j (by omega), relV_get _ _ hi', intAt_row _ _ hi', hbit, c]; omega
        refine ihe (j + 1) (by omega) _ ⟨rfl, rfl, rfl, rfl, rfl, i64_eq (wrap_succ (by omega)), trivial⟩ ⟨rfl, rfl, rfl, ?_, trivial⟩
        rw [← frP_no (show F.has i j = false by simpa [Rl.has] using c)]; rfl
theorem frR_enters : Enters Tryd.prog 35 := enters_mk Tryd.func35 (by decide) rfl
end Go.Proofs.YtmammebifhmnhaaDoor

/-
  The abstract machine, twenty-second part: calls that hand over blocks which they have made. Own work; over any program.
-/
namespace Go.AM

mutual
def AV.ge (n : Nat) : AV → Bool
  | .v _ => true
  | .tt _ => true
  | .ptr id _ => Nat.ble n id
  | .elt id _ _ => Nat.ble n id
  | .mp id => Nat.ble n id
  | .sl id _ _ _ => Nat.ble n id
  | .fn _ caps => geL n caps
  | .agg l => geL n l
  | .tup l => geL n l
def geL (n : Nat) : List AV → Bool
  | [] => true
  | x :: r => match x.ge n with | true => geL n r | false => false
end

mutual
theorem conc_congrG {M M' : Loc} {n : Nat} (h : ∀ i, n ≤ i → M' i = M i) : ∀ x : AV, x.ge n = true → conc M' x = conc M x
  | .v _, _ => by simp [conc]
  | .tt _, _ => by simp [conc]
  | .ptr id off, hb => by simp [AV.ge] at hb; simp [conc, h id hb]
  | .elt id off j, hb => by simp [AV.ge] at hb; simp [conc, h id hb]
  | .mp id, hb => by simp [AV.ge] at hb; simp [conc, h id hb]
  | .sl id sz off len, hb => by simp [AV.ge] at hb; simp [conc, h id hb]
  | .fn f caps, hb => by simp only [AV.ge] at hb; simp only [conc, concL_congrG h caps hb]
  | .agg l, hb => by simp only [AV.ge] at hb; simp only [conc, concL_congrG h l hb]
  | .tup l, hb => by simp only [AV.ge] at hb; simp only [conc, concL_congrG h l hb]
theorem concL_congrG {M M' : Loc} {n : Nat} (h : ∀ i, n ≤ i → M' i = M i) : ∀ l : List AV, geL n l = true → concL M' l = concL M l
  | [], _ => by simp [concL]
  | x :: r, hb => by
    simp only [geL] at hb
    split at hb
    · rename_i hx; simp only [concL, conc_congrG h x hx, concL_congrG h r hb]
    · cases hb
end

def geSegs (n : Nat) : List Seg → Bool
  | [] => true
  | .one x :: r => match x.ge n with | true => geSegs n r | false => false
  | .vals _ _ :: r => geSegs n r

theorem concSegs_congrG {M M' : Loc} {n : Nat} (h : ∀ i, n ≤ i → M' i = M i) : ∀ l : List Seg, geSegs n l = true → concSegs M' l = concSegs M l
  | [], _ => rfl
  | .one x :: r, hb => by
    simp only [geSegs] at hb
    split at hb
    · rename_i hx; simp only [concSegs, conc_congrG h x hx, concSegs_congrG h r hb]
    · cases hb
  | .vals _ vs :: r, hb => by simp only [geSegs] at hb; simp only [concSegs, concSegs_congrG h r hb]

def Blk.ge (n : Nat) : Blk → Bool
  | .cells _ segs => geSegs n segs
  | .row .. => true
  | .map _ => true
  | .rowA _ _ _ xs => geL n xs

/-- New blocks: numbered from n on, below m, over each other alone. -/
def hGe (n m : Nat) : List (Nat × Blk) → Bool
  | [] => true
  | (i, B) :: r => match Nat.ble n i, Nat.blt i m, B.ge n, B.bel m with | true, true, true, true => hGe n m r | _, _, _, _ => false

theorem hGe_lk {n m : Nat} : ∀ {l : List (Nat × Blk)} {i : Nat} {B : Blk}, hGe n m l = true → lk l i = some B → n ≤ i ∧ i < m ∧ B.ge n = true ∧ B.bel m = true
  | [], i, x, _, h => by cases h
  | (j, y) :: r, i, x, hb, h => by
    simp only [hGe] at hb
    split at hb
    · rename_i h1 h2 h3 h4
      simp only [lk] at h
      split at h
      · rename_i he
        have := Nat.eq_of_beq_eq_true he
        subst this; cases h
        exact ⟨Nat.le_of_ble_eq_true h1, by simpa using h2, h3, h4⟩
      · exact hGe_lk hb h
    · cases hb

theorem lk_append {α : Type} {i : Nat} : ∀ {a b : List (Nat × α)}, lk (a ++ b) i = match lk a i with | some x => some x | none => lk b i
  | [], b => rfl
  | (j, y) :: a, b => by
    simp only [List.cons_append, lk]
    split
    · rfl
    · exact lk_append

theorem BlkAt.congrG {M M' : Loc} {n : Nat} (h : ∀ i, n ≤ i → M' i = M i) {w : World} {id : Nat} (hid : n ≤ id) {B : Blk} (hB : B.ge n = true) (hb : BlkAt M w id B) : BlkAt M' w id B := by
  cases B with
  | cells e segs => exact ⟨by rw [h id hid, concSegs_congrG h segs hB]; exact hb.1, hb.2⟩
  | row e sz n vs =>
    obtain ⟨h1, cur, hc, h2⟩ := hb
    exact ⟨h1, cur, by rw [h id hid]; exact hc, by rw [h id hid]; exact h2⟩
  | map es => obtain ⟨a, ck, hc, h2⟩ := hb; exact ⟨a, ck, by rw [h id hid]; exact hc, h2⟩
  | rowA e sz n xs =>
    obtain ⟨h1, cur, hc, h2⟩ := hb
    exact ⟨h1, cur, by rw [h id hid]; exact hc, by rw [h id hid, concL_congrG h xs hB]; exact h2⟩

/-- What a call hands over: a value over blocks that it has made. -/
structure Handed (z : AV) (h : List (Nat × Blk)) (w : World) (v : Value) (w' : World) : Prop where
  agree : Agree (fun _ => False) w w'
  ex : ∃ M : Loc, conc M z = v ∧ (∀ id B, lk h id = some B → BlkAt M w' id B ∧ w.heap.size ≤ (M id).1) ∧ ∀ id id' B B', lk h id = some B → lk h id' = some B' → (M id).1 = (M id').1 → id = id'

theorem Rel.handed {C : Ctx} (hL : Local C.X) {M : Loc} {fp : Nat → Prop} {σ : St} {a : Act} {w w' : World} {v : Value} {z : AV} {h : List (Nat × Blk)} {m : Nat} (hR : Rel C M fp σ a w) (hh : Handed z h w v w')
    (hbel : σ.bel = true) (hge : hGe σ.nx m h = true) (hz : z.ge σ.nx = true) (hm : σ.nx ≤ m) : ∃ M', conc M' z = v ∧ (∀ i, i < σ.nx → M' i = M i) ∧ Rel C M' fp ⟨σ.t, h ++ σ.h, m⟩ a w' := by
  obtain ⟨hag, Mh, hv, hbl, hin⟩ := hh
  have hR' := hR.agree' hL hag
  unfold St.bel at hbel
  split at hbel <;> first | (cases hbel; done) | skip
  rename_i ht
  let M' : Loc := fun i => if i < σ.nx then M i else Mh i
  have hlo : ∀ i, i < σ.nx → M' i = M i := fun i hi => by simp only [M', if_pos hi]
  have hhi : ∀ i, σ.nx ≤ i → M' i = Mh i := fun i hi => by simp only [M', if_neg (Nat.not_lt.2 hi)]
  have key : ∀ id B, lk (h ++ σ.h) id = some B → (σ.nx ≤ id ∧ lk h id = some B) ∨ (id < σ.nx ∧ lk σ.h id = some B) := by
    intro id B hB
    rw [lk_append] at hB
    split at hB
    · rename_i x hx
      cases hB
      exact .inl ⟨(hGe_lk hge hx).1, hx⟩
    · exact .inr ⟨(lkh_below hbel hB).1, hB⟩
  refine ⟨M', by rw [conc_congrG hhi z hz]; exact hv, hlo, ?_⟩
  have hadr : ∀ id B, lk h id = some B → w.heap.size ≤ (M' id).1 := fun id B hB => by rw [hhi id (hGe_lk hge hB).1]; exact (hbl id B hB).2
  have hadr' : ∀ id B, lk σ.h id = some B → (M' id).1 = (M id).1 ∧ (M id).1 < w.heap.size := fun id B hB => ⟨by rw [hlo id (lkh_below hbel hB).1], (hR.heap id B hB).lt⟩
  refine { heap := ?_, inj := ?_, own := ?_, apart := ?_, agree := hR'.agree, outer := hR'.outer, fpok := hR'.fpok, size := hR'.size, frozen := hR'.frozen, tmps := ?_, defers := hR'.defers }
  · intro id B hB
    rcases key id B hB with ⟨h1, h2⟩ | ⟨h1, h2⟩
    · exact BlkAt.congrG hhi h1 (hGe_lk hge h2).2.2.1 (hbl id B h2).1
    · exact BlkAt.congr hlo h1 (lkh_below hbel h2).2 rfl (hR'.heap id B h2)
  · intro id id' B B' hB hB' e
    rcases key id B hB with ⟨h1, h2⟩ | ⟨h1, h2⟩ <;> rcases key id' B' hB' with ⟨h3, h4⟩ | ⟨h3, h4⟩
    · rw [hhi id h1, hhi id' h3] at e; exact hin _ _ _ _ h2 h4 e
    · have := hadr id B h2; have := hadr' id' B' h4; omega
    · have := hadr id' B' h4; have := hadr' id B h2; omega
    · rw [hlo id h1, hlo id' h3] at e; exact hR.inj _ _ _ _ h2 h4 e
  · intro id B hB hlt
    rcases key id B hB with ⟨h1, h2⟩ | ⟨h1, h2⟩
    · have := hadr id B h2; have := hR.agree.size; omega
    · rw [(hadr' id B h2).1] at hlt ⊢; exact hR.own id B h2 hlt
  · intro id B hB hf
    rcases key id B hB with ⟨h1, h2⟩ | ⟨h1, h2⟩
    · have := hadr id B h2; have := (hR.fpok _ hf).1; omega
    · rw [(hadr' id B h2).1] at hf; exact hR.apart id B h2 hf
  · intro i x hx
    rw [hR.tmps i x hx]
    congr 1
    exact (conc_congr hlo x (lk_below ht hx)).symm

section
variable {C : Ctx} {ops : Array Oper} {i : Nat} {rest : List Nat} {k : List Item} {σ : St} {o : Oper} {c : Call} {g : Operand} {f : FuncId} {caps xs : List AV} {z : AV} {h : List (Nat × Blk)} {m : Nat}

/-- A call that hands over new blocks. -/
theorem Run.callH (hL : Local C.X) (z : AV) (h : List (Nat × Blk)) (m : Nat) (ho : ops[i]? = some o) (hop : o.op = .call c) (hc : c.callee = .value g) (hg : σ.ev g = some (.fn f caps)) (hxs : evs σ c.args.toList = some xs) (hw : wantOf ops σ o = some .yes) (hent : Enters C.P f)
    (hd : dstOK C.n o.dst = true) (hbel : σ.bel = true) (hge : hGe σ.nx m h = true) (hz : z.ge σ.nx = true) (hm : Nat.ble σ.nx m = true)
    (hfn : ∀ M w, (∀ id B, lk σ.h id = some B → BlkAt M w id B) → Agree C.S0 C.w0 w → GivesR C.P f (concL M (xs ++ caps)) w (Handed z h w))
    (hr : Run C (.inRegion ops rest :: k) (St.put ⟨σ.t, h ++ σ.h, m⟩ o.dst z)) : Run C (.inRegion ops (i :: rest) :: k) σ := by
  refine Run.call (σ' := ⟨σ.t, h ++ σ.h, m⟩) (z := z) ho hop hc hg hxs hw hent hd ?_ hr
  intro M fp a w hR
  refine Calls.mono' (hfn M w hR.heap hR.agree) fun e w' ⟨v, h1, h2⟩ => ?_
  obtain ⟨M', hv, _, hR'⟩ := hR.handed hL h2 hbel hge hz (Nat.le_of_ble_eq_true hm)
  exact ⟨v, h1, M', fp, hR', hv⟩

theorem handed_of {M : Loc} {σ : St} {w0 w : World} {x : AV} {ρ : List (Nat × Nat)} (hag : Agree (fun _ => False) w0 w) (hheap : ∀ id B, lk σ.h id = some B → BlkAt M w id B)
    (hinj : ∀ id id' B B', lk σ.h id = some B → lk σ.h id' = some B' → (M id).1 = (M id').1 → id = id') (hown : ∀ id B, lk σ.h id = some B → w0.heap.size ≤ (M id).1)
    (hx : x = ren ρ z) (hh : inHR ρ σ.h h) (ha : apart ρ (keys h) = true) : Handed z h w0 (conc M x) w := by
  refine ⟨hag, fun i => M (ap ρ i), by rw [hx, conc_ren], fun id B hB => ⟨(hheap _ _ (inHR_lk hh _ _ hB)).ren, hown _ _ (inHR_lk hh _ _ hB)⟩, ?_⟩
  intro id id' B B' hB hB' e
  exact apart_spec ha (lk_keys hB) (lk_keys hB') (hinj _ _ _ _ (inHR_lk hh _ _ hB) (inHR_lk hh _ _ hB') e)

/-- The return of what has been made. -/
theorem Run.retH {P : Program} {T : Tab} (hT : tabOK P T) {f : FuncId} {fn : Func} {n : Nat} {w0 : World} {σ : St} {k : List Item} {p : Prop} {l : List AV} (ρ : List (Nat × Nat))
    (hf : P.funcs[f]? = some fn) (hres : resOf T w0 (fun _ => False) σ fn.results.toList = some (p, l)) (hp : p) (hx : resAV l = ren ρ z) (hh : inHR ρ σ.h h) (ha : apart ρ (keys h) = true) :
    Run (fnC P f n w0 (fun _ => False) noX (Handed z h w0)) (.code .ret :: k) σ :=
  Run.ret hT hf hres hp fun M fp a w hR => handed_of hR.agree hR.heap hR.inj (fun id B hB => Nat.le_of_not_lt fun hlt => (hR.own id B hB hlt).elim) hx hh ha

/-- The same behind ranges over functions, in a run that has begun anew. -/
theorem Run.retHB {P : Program} {T : Tab} (hT : tabOK P T) {f : FuncId} {fn : Func} {n : Nat} {w0 w1 : World} {S : Nat → Prop} {X : Res} (hX : Local X) {σ : St} {k : List Item} {p : Prop} {l : List AV} {Ds : List Nat} (ρ : List (Nat × Nat))
    (hB : Based w0 w1 S) (hf : P.funcs[f]? = some fn) (hres : resOf T w1 S σ fn.results.toList = some (p, l)) (hp : p) (hx : resAV l = ren ρ z) (hh : inHR ρ σ.h h) (ha : apart ρ (keys h) = true) :
    Run (fnM P f n w1 S X (Handed z h w0) Ds) (.code .ret :: k) σ :=
  Run.retM hT hX hf hres hp fun M fp a w hR => handed_of (hB.later hR.agree) hR.heap hR.inj
    (fun id B hB' => Nat.le_of_not_lt fun hlt => by
      have h1 := hR.own id B hB' (Nat.lt_of_lt_of_le hlt hB.agree.size)
      have := hB.new _ h1
      omega) hx hh ha

abbrev HandsZ (P : Program) (f : FuncId) (args : List Value) (w : World) (z : AV) (h : List (Nat × Blk)) : Prop := GivesR P f args w (Handed z h w)

theorem HandsZ.of_run {P : Program} {f : FuncId} {fn : Func} {c : Code} {args : List Value} {w : World} (hf : P.funcs[f]? = some fn) (hb : fn.body = some c)
    (hn : args.length ≤ fn.ntmps) (hr : Run (fnC P f fn.ntmps w (fun _ => False) noX (Handed z h w)) [.code c] ⟨argsT 0 args, [], 0⟩) : HandsZ P f args w z h := calls_of_run hf hb hn hr
end
end Go.AM

/-
  The abstract machine, twenty-third part: iterators that hand over blocks which they have made. Own work; over any program.
-/
namespace Go.AM

/-- A value over blocks of a footprint. -/
structure ItemAt (z : AV) (h : List (Nat × Blk)) (w : World) (v : Value) (F : Foot) : Prop where
  ex : ∃ M : Loc, conc M z = v ∧ (∀ id B, lk h id = some B → BlkAt M w id B) ∧ (∀ id id' B B', lk h id = some B → lk h id' = some B' → (M id).1 = (M id').1 → id = id') ∧ ∀ b, F b ↔ ∃ id B, lk h id = some B ∧ (M id).1 = b

/-- What a call of an iterator's argument does, the value handed over lying in blocks that go with it. -/
def YieldsH {α : Type} (P : Program) (y : Value) (J Js : List α → Res) (w1 : World) (fp1 : Foot) (pre : List α) (x : α) (z : AV) (h : List (Nat × Blk)) : Prop :=
  ∀ w fp F v, J pre w fp → ItemAt z h w v F → (∀ b, F b → ¬ fp b) → Grown fp1 w1 (fun b => fp b ∨ F b) w → CallsV P y [v] w fun r w' =>
    ∃ fp', Grown (fun b => fp b ∨ F b) w fp' w' ∧ (r = .bool true ∧ J (pre ++ [x]) w' fp' ∨ r = .bool false ∧ Js (pre ++ [x]) w' fp')

def disj (ρ : List (Nat × Nat)) (l r : List Nat) : Bool := l.all fun i => r.all fun j => !Nat.beq (ap ρ i) j

theorem disj_spec {ρ : List (Nat × Nat)} {l r : List Nat} (h : disj ρ l r = true) {i j : Nat} (hi : i ∈ l) (hj : j ∈ r) : ap ρ i ≠ j := by
  have := List.all_eq_true.1 (List.all_eq_true.1 h i hi) j hj
  intro e
  subst e
  simp at this

theorem Run.yieldH {α : Type} {C : Ctx} {k : List Item} {σ : St} {ops : Array Oper} {i : Nat} {rest : List Nat} {o : Oper} {c : Call} {g : Operand} {y : Value} {u z : AV} {h hrem : List (Nat × Blk)} {J Js : List α → Res} {pre : List α} {x : α} (ρ : List (Nat × Nat))
    (hX : C.X = J pre) (hy : YieldsH C.P y J Js C.w0 C.S0 pre x z h)
    (ho : ops[i]? = some o) (hop : o.op = .call c) (hc : c.callee = .value g) (hg : σ.ev g = some (.v y)) (hxs : evs σ c.args.toList = some [u]) (hu : u = ren ρ z) (hh : inHR ρ σ.h h) (ha : AM.apart ρ (keys h) = true)
    (hrm : inT σ.h hrem) (hdj : disj ρ (keys h) (keys hrem) = true) (hw : wantOf ops σ o = some .yes) (hd : dstOK C.n o.dst = true)
    (ht : Run (C.withX (J (pre ++ [x]))) (.inRegion ops rest :: k) (St.put ⟨σ.t, hrem, σ.nx⟩ o.dst (.tt true)))
    (hf : Run (C.withX (Js (pre ++ [x]))) (.inRegion ops rest :: k) (St.put ⟨σ.t, hrem, σ.nx⟩ o.dst (.tt false))) : Run C (.inRegion ops (i :: rest) :: k) σ := by
  refine Run.callV ho hop hc hg hxs hw fun M fp a w hR => ?_
  have h0 : J pre w fp := by rw [← hX]; exact hR.outer
  let F : Foot := fun b => ∃ id B, lk h id = some B ∧ (M (ap ρ id)).1 = b
  have hlk : ∀ id B, lk h id = some B → lk σ.h (ap ρ id) = some (renB ρ B) := fun id B hB => inHR_lk hh _ _ hB
  have hrl : ∀ id B, lk hrem id = some B → lk σ.h id = some B := fun id B hB => inT_lk hrm _ _ hB
  have hit : ItemAt z h w (conc M u) F := by
    refine ⟨fun i => M (ap ρ i), by rw [hu, conc_ren], fun id B hB => (hR.heap _ _ (hlk _ _ hB)).ren, fun id id' B B' hB hB' e => ?_, fun b => Iff.rfl⟩
    exact apart_spec ha (lk_keys hB) (lk_keys hB') (hR.inj _ _ _ _ (hlk _ _ hB) (hlk _ _ hB') e)
  have hFf : ∀ b, F b → ¬ fp b := by
    rintro b ⟨id, B, hB, rfl⟩
    exact hR.apart _ _ (hlk _ _ hB)
  have hgr : Grown C.S0 C.w0 (fun b => fp b ∨ F b) w := by
    refine ⟨hR.agree, fun b hb => ?_⟩
    rcases hb with hb | ⟨id, B, hB, rfl⟩
    · exact hR.fpok b hb
    · exact ⟨(hR.heap _ _ (hlk _ _ hB)).lt, hR.own _ _ (hlk _ _ hB)⟩
  show CallsV C.P y (concL M [u]) w _
  have e1 : concL M [u] = [conc M u] := by simp [concL]
  rw [e1]
  refine (hy w fp F _ h0 hit hFf hgr).mono fun r w' ⟨fp', hgr', hv⟩ cs => ?_
  have hnF : ∀ id B, lk hrem id = some B → ¬ (fp (M id).1 ∨ F (M id).1) := by
    intro id B hB hf
    rcases hf with hf | ⟨id', B', hB', e⟩
    · exact hR.apart _ _ (hrl _ _ hB) hf
    · exact disj_spec hdj (lk_keys hB') (lk_keys hB) (hR.inj _ _ _ _ (hlk _ _ hB') (hrl _ _ hB) e)
  have hrel : ∀ X : Res, X w' fp' → Rel (C.withX X) M fp' ⟨σ.t, hrem, σ.nx⟩ a w' := by
    intro X hX'
    refine { heap := ?_, inj := fun id id' B B' hB hB' e => hR.inj _ _ _ _ (hrl _ _ hB) (hrl _ _ hB') e, own := fun id B hB => hR.own _ _ (hrl _ _ hB), apart := ?_, agree := ?_, outer := hX', fpok := ?_, size := hR.size, frozen := hR.frozen, tmps := hR.tmps, defers := hR.defers }
    · intro id B hB
      exact (hR.heap _ _ (hrl _ _ hB)).same (hgr'.1.block _ (hR.heap _ _ (hrl _ _ hB)).lt (hnF _ _ hB))
    · intro id B hB hf
      exact hnF _ _ hB ((hgr'.2 _ hf).2 (hR.heap _ _ (hrl _ _ hB)).lt)
    · exact hR.agree.trans hgr'.1 (fun i hi hl => (hgr.2 i hi).2 hl)
    · intro b hb'
      exact ⟨(hgr'.2 b hb').1, fun hl => (hgr.2 b ((hgr'.2 b hb').2 (Nat.lt_of_lt_of_le hl hR.agree.size))).2 hl⟩
  rcases hv with ⟨rfl, hJ⟩ | ⟨rfl, hJ⟩
  · exact ht M fp' _ w' ((hrel _ hJ).put (C := C.withX _) (z := .tt true) (dstOK_lt hd)) cs
  · exact hf M fp' _ w' ((hrel _ hJ).put (C := C.withX _) (z := .tt false) (dstOK_lt hd)) cs

/-- An iterator whose values lie in blocks that go with them. -/
def IterH {α : Type} (P : Program) (f : FuncId) (caps : List Value) (K : Nat → Prop) (w0 : World) (xs : List α) (zf : α → AV) (hf : α → List (Nat × Blk)) : Prop :=
  ∀ (y : Value) (J Js : List α → Res) (w : World) (fp : Foot), (∀ pre, Local (J pre)) → (∀ pre, Local (Js pre)) → (∀ pre x, pre ++ [x] <+: xs → YieldsH P y J Js w fp pre x (zf x) (hf x)) →
    J [] w fp → (∀ b, fp b → b < w.heap.size) → (∀ b, fp b → ¬ K b) → Agree (fun b => ¬ K b) w0 w →
      GivesR P f (y :: caps) w fun _ w' => ∃ fp', Grown fp w fp' w' ∧ (J xs w' fp' ∨ ∃ pre, pre <+: xs ∧ Js pre w' fp')

theorem IterH.of_run {α : Type} {P : Program} {f : FuncId} {fn : Func} {c : Code} {caps : List Value} {K : Nat → Prop} {w0 : World} {xs : List α} {zf : α → AV} {hf' : α → List (Nat × Blk)} (hf : P.funcs[f]? = some fn) (hb : fn.body = some c)
    (hn : (caps.length + 1) ≤ fn.ntmps)
    (h : ∀ (y : Value) (J Js : List α → Res) (w : World) (fp : Foot), (∀ pre, Local (J pre)) → (∀ pre, Local (Js pre)) → (∀ pre x, pre ++ [x] <+: xs → YieldsH P y J Js w fp pre x (zf x) (hf' x)) →
      Agree (fun b => ¬ K b) w0 w → (∀ b, fp b → ¬ K b) → ∀ R : Value → World → Prop, (∀ v w' fp' pre, Grown fp w fp' w' → (pre = xs ∧ J pre w' fp' ∨ pre <+: xs ∧ Js pre w' fp') → R v w') →
        Run (fnC P f fn.ntmps w fp (J []) R) [.code c] ⟨argsT 0 (y :: caps), [], 0⟩) : IterH P f caps K w0 xs zf hf' := by
  intro y J Js w fp hJ hJs hy h0 hfp hK hag
  refine givesX_of_run (S0 := fp) (X := J []) hf hb (by simpa using hn) h0 (fun b hb => ⟨hfp b hb, fun _ => hb⟩) ?_
  refine h y J Js w fp hJ hJs hy hag hK _ fun v w' fp' pre hg hp => ?_
  rcases hp with ⟨rfl, hp⟩ | ⟨h1, h2⟩
  · exact ⟨fp', hg, .inl hp⟩
  · exact ⟨fp', hg, .inr ⟨pre, h1, h2⟩⟩

theorem Run.rangeFnH {α : Type} {C : Ctx} (hL : Local C.X) {k : List Item} {σ : St} {g : Operand} {p : Tmp} {assign body : Code} {f : FuncId} {vs : List Value} {z : AV}
    (hro : C.b.roundOf = none) (hg : σ.ev g = some z) (hz : ∀ M, conc M z = .func (.func f) #[] vs.toArray) (hent : Enters C.P f)
    (lo : Nat) (t : List (Nat × AV)) (htin : inT σ.t t) (hlo : keysLt lo t = true) (hp : Nat.ble lo p = true) (hp2 : Nat.blt p C.n.hi = true)
    {K : Nat → Prop} {xs : List α} {zf : α → AV} {hf : α → List (Nat × Blk)} (hit : IterH C.P f vs K C.w0 xs zf hf) (hK : ∀ b, K b → b < C.w0.heap.size ∧ ¬ C.S0 b)
    (Inv : List α → List (Nat × Blk) → Prop) (Stop : List α → Code → List (Nat × Blk) → Prop) (N m : Nat) (hNm : N ≤ m)
    (htb : tBelow N t = true) (hib : ∀ pre h, Inv pre h → hBelow N h = true) (hfge : ∀ x ∈ xs, hGe N m (hf x) = true) (hzge : ∀ x ∈ xs, (zf x).ge N = true)
    (h0 : List (Nat × Blk)) (hI0 : Inv [] h0) (hin : inT σ.h h0)
    (hround : ∀ D l a0 rc wy fpy pre x h, RoundIn (C.marked D) lo t l wy fpy → pre ++ [x] <+: xs → Inv pre h →
      Run (roundC (C.marked D) lo a0 l rc .ready wy fpy (roundR (C.marked D) t a0 l rc wy fpy (Inv (pre ++ [x])) (Stop (pre ++ [x])))) [.code assign, .beginRound, .code body] ⟨(p, zf x) :: t, hf x ++ h, m⟩)
    (hdone : ∀ D h, Inv xs h → Run (C.marked D) k ⟨t, h, N⟩)
    (hstop : ∀ D pre c h, pre <+: xs → Stop pre c h → Run (C.marked D) (.code c :: k) ⟨t, h, N⟩) :
    Run C (.code (.rangeFunc g #[p] assign body) :: k) σ := by
  intro M fp a w hR cs
  let D := w.heap.size
  let l := w.heap.size + 1
  let rc : Loop := { state := .ready, pending := none, fn := C.b.fn, tmps := a.tmps, params := #[p], assign, body, defers := D }
  let W1 : World := (w.alloc (.deferred (some []))).alloc (.loop rc)
  let y : Value := .func (.yield l) #[] #[]
  have he : (Instr.enterLoop C.b.fn a.tmps #[p] assign body C.b.roundOf).run C.P w = .ok (l, [mark D]) W1 := by rw [hro]; exact run_enterLoop_outer C.b.fn a.tmps #[p] assign body
  have hres : (resolve a.eval (rangeCall g l) 0).run C.P W1 = .ok { target := .fn (.func f) vs.toArray, args := #[y] } W1 := by
    simp [resolve, hR.q.ev hg, hz, Deferred.ofValue, y]
    rfl
  have hinv : (invoke (.fn (.func f) vs.toArray) #[y]).run C.P W1 = .ok (.enter f (y :: vs).toArray) W1 := by
    have : (#[y] ++ vs.toArray : Array Value) = (y :: vs).toArray := by simp
    simp only [invoke, this, hent _ _]
  have s1 := stepR_rangeFunc (P := C.P) (b := C.b) (a := a) (k := k) (cs := cs) (w := w) he hres hinv
  have hws : W1.heap.size = w.heap.size + 2 := by simp only [W1, World.size_alloc]
  have hold : ∀ b, b < w.heap.size → W1.heap[b]? = w.heap[b]? := by
    intro b hb
    rw [heap_alloc_old _ _ b (by rw [World.size_alloc]; omega), heap_alloc_old _ _ b hb]
  have hD : W1.heap[D]? = some (.deferred (some [])) := by
    rw [heap_alloc_old _ _ _ (by rw [World.size_alloc]; omega)]
    exact World.alloc_heap_new _ _
  have hl : W1.heap[l]? = some (.loop rc) := by
    have := World.alloc_heap_new (w.alloc (.deferred (some []))) (.loop rc)
    rw [show (w.alloc (.deferred (some []))).heap.size = l by simp only [World.size_alloc, l]] at this
    exact this
  have hblk : ∀ id B, lk h0 id = some B → lk σ.h id = some B := fun id B hB => inT_lk hin id B hB
  let J : List α → Res := fun pre w fp => ∃ h M fpX, Inv pre h ∧ LoopJ (C.marked D) t a.tmps l rc .ready none h M fpX w fp
  let Js : List α → Res := fun pre w fp => ∃ c h M fpX, Stop pre c h ∧ LoopJ (C.marked D) t a.tmps l rc .done (some c) h M fpX w fp
  have hLm : Local (C.marked D).X := markX_local hL D
  have hJl : ∀ pre, Local (J pre) := fun pre w w' fp ⟨h, M, fpX, h1, h2⟩ _ hs => ⟨h, M, fpX, h1, h2.moved hLm hs⟩
  have hJsl : ∀ pre, Local (Js pre) := fun pre w w' fp ⟨c, h, M, fpX, h1, h2⟩ _ hs => ⟨c, h, M, fpX, h1, h2.moved hLm hs⟩
  let fp1 : Foot := fun b => (fp b ∨ b = D) ∨ b = l ∨ ∃ id B, lk h0 id = some B ∧ (M id).1 = b
  have hfl : ∀ b, fp b → b < w.heap.size := fun b hb => (hR.fpok b hb).1
  have hml : ∀ id B, lk h0 id = some B → (M id).1 < w.heap.size := fun id B hB => (hR.heap _ _ (hblk _ _ hB)).lt
  have hwle : C.w0.heap.size ≤ w.heap.size := hR.agree.size
  have hfp1 : ∀ b, fp1 b → b < W1.heap.size ∧ (b < C.w0.heap.size → C.S0 b) := by
    intro b hb
    rw [hws]
    rcases hb with (hb | rfl) | rfl | ⟨id, B, hB, rfl⟩
    · exact ⟨by have := hfl b hb; omega, (hR.fpok b hb).2⟩
    · exact ⟨by simp only [D]; omega, fun h => by simp only [D] at h; omega⟩
    · exact ⟨by simp only [l]; omega, fun h => by simp only [l] at h; omega⟩
    · exact ⟨by have := hml _ _ hB; omega, hR.own _ _ (hblk _ _ hB)⟩
  have hW1 : Agree C.S0 C.w0 W1 := ⟨hR.agree.os, hR.agree.tape, hR.agree.output, by rw [hws]; omega, fun b hb hs => by rw [hold b (by omega)]; exact hR.agree.block b hb hs⟩
  have hJ0 : J [] W1 fp1 := by
    refine ⟨h0, M, fun b => fp b ∨ b = D, hI0, ?_⟩
    refine { tmps := fun i x hx => hR.tmps i x (inT_lk htin i x hx), heap := ?_, inj := ?_, own := ?_, apart := ?_, outer := ?_, fpok := ?_, rc := hl, lX := ?_, lnew := ?_, foot := fun b => Iff.rfl }
    · exact fun id B hB => (hR.heap _ _ (hblk _ _ hB)).same (hold _ (hml _ _ hB))
    · exact fun id id' B B' hB hB' e => hR.inj _ _ _ _ (hblk _ _ hB) (hblk _ _ hB') e
    · exact fun id B hB => hR.own _ _ (hblk _ _ hB)
    · intro id B hB
      have := hml _ _ hB
      refine ⟨fun hf => ?_, fun e => by simp only [l] at e; omega⟩
      rcases hf with hf | hf
      · exact hR.apart _ _ (hblk _ _ hB) hf
      · simp only [D] at hf; omega
    · exact ⟨fp, hL w W1 fp hR.outer hfl (fun b hb => hold b (hfl b hb)), fun hf => Nat.lt_irrefl _ (hfl _ hf), hD, fun b => Iff.rfl⟩
    · intro b hb
      exact hfp1 b (.inl hb)
    · intro hf
      rcases hf with hf | hf
      · have := hfl _ hf; simp only [l] at this; omega
      · simp only [l, D] at hf; omega
    · show C.w0.heap.size ≤ l
      simp only [l]; omega
  have hys : ∀ pre x, pre ++ [x] <+: xs → YieldsH C.P y J Js W1 fp1 pre x (zf x) (hf x) := by
    intro pre x hpx wy fpy F v hJy hitem hFf hgr
    obtain ⟨h, M', fpX, hinvp, hJ⟩ := hJy
    obtain ⟨Mi, hv, hbi, hji, hFi⟩ := hitem
    have hx := hpx.subset (show x ∈ pre ++ [x] by simp)
    have hge := hfge x hx
    have hzg := hzge x hx
    have hbel := hib _ _ hinvp
    have hag : Agree C.S0 C.w0 wy := hW1.trans hgr.1 (fun i hi hl => (hfp1 i hi).2 hl)
    let fpz : Foot := fun b => fpy b ∨ F b
    have hfy : ∀ b, fpz b → b < C.w0.heap.size → C.S0 b := fun b hb hlt => (hfp1 b ((hgr.2 b hb).2 (by have := hW1.size; omega))).2 hlt
    let M'' : Loc := fun i => if i < N then M' i else Mi i
    have hlow : ∀ i, i < N → M'' i = M' i := fun i hi => by simp only [M'', if_pos hi]
    have hhi : ∀ i, N ≤ i → M'' i = Mi i := fun i hi => by simp only [M'', if_neg (Nat.not_lt.2 hi)]
    have key : ∀ id B, lk (hf x ++ h) id = some B → (N ≤ id ∧ lk (hf x) id = some B) ∨ (id < N ∧ lk h id = some B) := by
      intro id B hB
      rw [lk_append] at hB
      split at hB
      · rename_i u hu
        cases hB
        exact .inl ⟨(hGe_lk hge hu).1, hu⟩
      · exact .inr ⟨(lkh_below hbel hB).1, hB⟩
    have hinF : ∀ id B, lk (hf x) id = some B → F (Mi id).1 := fun id B hB => (hFi _).2 ⟨id, B, hB, rfl⟩
    have hinY : ∀ id B, lk h id = some B → fpy (M' id).1 := fun id B hB => (hJ.foot _).2 (.inr (.inr ⟨id, B, hB, rfl⟩))
    have hrun := run_yield (P := C.P) (args := #[v]) hJ.rc (by simp [rc])
    refine ⟨{ target := .fn (.yield l) #[], args := #[v] }, _, by simp [Deferred.ofValue, y], by simp only [invoke]; exact hrun, ?_⟩
    intro c cs'
    have hpl : p < a.tmps.size := by rw [hR.size]; simpa using hp2
    let a' : Act := { tmps := a.tmps.setIfInBounds p v, defers := [] }
    have htm : (#[p].zip #[v]).foldl (fun tmps (q : Nat × Value) => tmps.setIfInBounds q.1 q.2) a.tmps = a.tmps.setIfInBounds p v := by simp
    have hI : RoundIn (C.marked D) lo t l wy fpz := ⟨hLm, .inl ((hJ.foot l).2 (.inr (.inl rfl))), hag, hfy, hJ.lnew, hlo⟩
    have hrel : Rel (roundC (C.marked D) lo a.tmps l rc .ready wy fpz (roundR (C.marked D) t a.tmps l rc wy fpz (Inv (pre ++ [x])) (Stop (pre ++ [x])))) M'' (fun b => fpX b ∨ b = l) ⟨(p, zf x) :: t, hf x ++ h, m⟩ a' wy := by
      refine { heap := ?_, inj := ?_, own := ?_, apart := ?_, agree := Agree.refl _ _, outer := ⟨fpX, hJ.outer, hJ.lX, hJ.rc, fun b => Iff.rfl⟩, fpok := ?_, size := ?_, frozen := ?_, tmps := ?_, defers := rfl }
      · intro id B hB
        rcases key id B hB with ⟨h1, h2⟩ | ⟨h1, h2⟩
        · exact BlkAt.congrG hhi h1 (hGe_lk hge h2).2.2.1 (hbi id B h2)
        · exact BlkAt.congr hlow h1 (lkh_below hbel h2).2 rfl (hJ.heap id B h2)
      · intro id id' B B' hB hB' e
        rcases key id B hB with ⟨h1, h2⟩ | ⟨h1, h2⟩ <;> rcases key id' B' hB' with ⟨h3, h4⟩ | ⟨h3, h4⟩
        · rw [hhi id h1, hhi id' h3] at e; exact hji _ _ _ _ h2 h4 e
        · rw [hhi id h1, hlow id' h3] at e; exact (hFf _ (hinF _ _ h2) (e ▸ hinY _ _ h4)).elim
        · rw [hlow id h1, hhi id' h3] at e; exact (hFf _ (hinF _ _ h4) (e ▸ hinY _ _ h2)).elim
        · rw [hlow id h1, hlow id' h3] at e; exact hJ.inj _ _ _ _ h2 h4 e
      · intro id B hB _
        rcases key id B hB with ⟨h1, h2⟩ | ⟨h1, h2⟩
        · rw [hhi id h1]; exact .inr (hinF _ _ h2)
        · rw [hlow id h1]; exact .inl (hinY _ _ h2)
      · intro id B hB hf'
        rcases key id B hB with ⟨h1, h2⟩ | ⟨h1, h2⟩
        · rw [hhi id h1] at hf'
          refine hFf _ (hinF _ _ h2) ((hJ.foot _).2 ?_)
          exact hf'.imp (fun h => h) .inl
        · rw [hlow id h1] at hf'
          exact hf'.elim (hJ.apart _ _ h2).1 (hJ.apart _ _ h2).2
      · intro b hb
        have hb' : fpy b := (hJ.foot b).2 (hb.imp id .inl)
        exact ⟨(hgr.2 b (.inl hb')).1, fun _ => .inl hb'⟩
      · show a'.tmps.size = C.n.hi
        simp only [a', Array.size_setIfInBounds]; exact hR.size
      · intro i hi
        show (a.tmps.setIfInBounds p v)[i]? = a.tmps[i]?
        have hi' : i < lo := hi
        have : p ≠ i := fun e => Nat.lt_irrefl i (Nat.lt_of_lt_of_le hi' (e ▸ Nat.le_of_ble_eq_true hp))
        rw [Array.getElem?_setIfInBounds, if_neg this]
      · intro i u hu
        simp only [lk] at hu
        show (a.tmps.setIfInBounds p v)[i]? = _
        split at hu
        · rename_i he
          have e := Nat.eq_of_beq_eq_true he
          subst e; cases hu
          rw [Array.getElem?_setIfInBounds, if_pos rfl, if_pos hpl, conc_congrG hhi _ hzg, hv]
        · rename_i he
          have hne : p ≠ i := fun e => by subst e; simp at he
          rw [Array.getElem?_setIfInBounds, if_neg hne, hJ.tmps i u hu, conc_congr hlow u (lk_below htb hu)]
    obtain ⟨m', s, zz⟩ := hround D l a.tmps rc wy fpz pre x h hI hpx hinvp M'' _ a' wy hrel (c :: cs')
    obtain ⟨r, w', rfl, fp', hg', hv'⟩ := zz c cs' rfl
    refine ⟨r, w', ⟨fp', hg', ?_⟩, ?_⟩
    · rcases hv' with ⟨hv', hh⟩ | ⟨hv', hh⟩
      · obtain ⟨h', M', fpX', e1, e2⟩ := hh; exact .inl ⟨hv', h', M', fpX', e1, e2⟩
      · obtain ⟨c', h', M', fpX', e1, e2⟩ := hh; exact .inr ⟨hv', c', h', M', fpX', e1, e2⟩
    · have hfr : Frame.round l C.b.fn ((#[p].zip #[v]).foldl (fun tmps (q : Nat × Value) => tmps.setIfInBounds q.1 q.2) a.tmps) assign body .normal =
          (roundC (C.marked D) lo a.tmps l rc .ready wy fpz (roundR (C.marked D) t a.tmps l rc wy fpz (Inv (pre ++ [x])) (Stop (pre ++ [x])))).b.atR a' [.code assign, .beginRound, .code body] := by
        rw [htm]; simp [Frame.round, Frame.atR, roundC, Ctx.marked, a']
      exact hfr ▸ s
  have hcall := hit y J Js W1 fp1 hJl hJsl hys hJ0 (fun b hb => (hfp1 b hb).1) (fun b hb hk => (hK b hk).2 ((hfp1 b hb).2 (hK b hk).1))
    ⟨hW1.os, hW1.tape, hW1.output, hW1.size, fun b hb hk => hW1.block b hb (fun hs => by
      have : K b := Classical.byContradiction hk
      exact (hK b this).2 hs)⟩
  obtain ⟨e, w', fr, ⟨v, rfl, fp', hgr, hend⟩, hsteps, _, hleave⟩ := hcall (C.b.atR { a with defers := [mark D] ++ a.defers } (.inRangeFunc l :: k) :: cs)
  have s2 := step_leave_returned (c := C.b.atR { a with defers := [mark D] ++ a.defers } (.inRangeFunc l :: k)) (cs := cs) hleave
  rw [finish_atR_inRangeFunc] at s2
  have hag : Agree C.S0 C.w0 w' := hW1.trans hgr.1 (fun i hi hl => (hfp1 i hi).2 hl)
  have key : ∀ (st : LoopState) (pd : Option Code) (h : List (Nat × Blk)) (M' : Loc) (fpX : Foot), st ≠ .busy → LoopJ (C.marked D) t a.tmps l rc st pd h M' fpX w' fp' →
      Run (C.marked D) ((pd.map Item.code).toList ++ k) ⟨t, h, N⟩ → ∃ m, Steps C.P (lone (C.b.atR a (.code (.rangeFunc g #[p] assign body) :: k)) cs w) m ∧ C.Z cs m := by
    intro st pd h M' fpX hst hJ hr
    obtain ⟨k1, k2, k3⟩ := hJ.record hLm (o := .loop { rc with state := .exhausted, pending := pd })
    have hrel : Rel (C.marked D) M' fpX ⟨t, h, N⟩ { a with defers := [mark D] ++ a.defers } (w'.putObj l (.loop { rc with state := .exhausted, pending := pd })) := by
      refine { heap := k1, inj := hJ.inj, own := hJ.own, apart := fun id B hB => (hJ.apart _ _ hB).1, agree := ?_, outer := k2, fpok := k3, size := hR.size, frozen := hR.frozen, tmps := hJ.tmps, defers := ?_ }
      · refine agree_putObj hag (fun h => ?_)
        have : C.w0.heap.size ≤ l := hJ.lnew
        exact absurd (show l < C.w0.heap.size from h) (by omega)
      · show [mark D] ++ a.defers = mark D :: C.ds
        rw [hR.defers]; rfl
    obtain ⟨m, s, zz⟩ := hr M' fpX _ _ hrel cs
    have s3 := stepR_endRangeFunc (P := C.P) (b := C.b) (a := { a with defers := [mark D] ++ a.defers }) (k := k) (cs := cs) (run_endLoop (P := C.P) hJ.rc hst)
    exact ⟨m, .head s1 (Steps.trans hsteps (.head s2 (.head s3 s))), zz⟩
  rcases hend with ⟨h, M', fpX, hI, hJ⟩ | ⟨pre, hpre, c, h, M', fpX, hS, hJ⟩
  · exact key .ready none h M' fpX (by simp) hJ (hdone D h hI)
  · exact key .done (some c) h M' fpX (by simp) hJ (hstop D pre c h hpre hS)
end Go.AM

/-
  The abstract machine, twenty-fourth part: functions that work on blocks which are handed to them; calls by what follows them. Own work; over any program.
-/
namespace Go.AM

def argsA : Nat → List AV → List (Nat × AV)
  | _, [] => []
  | i, x :: r => (i, x) :: argsA (i + 1) r

theorem argsA_lk : ∀ {l : List AV} {i j : Nat} {x : AV}, lk (argsA i l) j = some x → i ≤ j ∧ l[j - i]? = some x
  | [], i, j, x, h => by cases h
  | y :: r, i, j, x, h => by
    simp only [argsA, lk] at h
    split at h
    · rename_i he
      have e := Nat.eq_of_beq_eq_true he
      subst e; cases h
      exact ⟨Nat.le_refl _, by simp⟩
    · rename_i he
      obtain ⟨h1, h2⟩ := argsA_lk h
      refine ⟨by omega, ?_⟩
      rw [show j - i = (j - (i + 1)) + 1 by omega]; simpa using h2

theorem concL_get {M : Loc} : ∀ {l : List AV} {j : Nat} {x : AV}, l[j]? = some x → (concL M l)[j]? = some (conc M x)
  | y :: r, 0, x, h => by simp at h; subst h; simp [concL]
  | y :: r, j + 1, x, h => by simp at h; simp only [concL, List.getElem?_cons_succ]; exact concL_get h

theorem concL_length {M : Loc} : ∀ (l : List AV), (concL M l).length = l.length
  | [] => by simp [concL]
  | y :: r => by simp [concL, concL_length r]

/-- What a footprint and some blocks take up. -/
def footH (M : Loc) (fp : Foot) (h : List (Nat × Blk)) : Foot := fun b => fp b ∨ ∃ id B, lk h id = some B ∧ (M id).1 = b

/-- A call to which blocks are handed. -/
theorem givesO_of_run {P : Program} {f : FuncId} {fn : Func} {c : Code} {args : List AV} {h : List (Nat × Blk)} {nx : Nat} {M : Loc} {w : World} {X : Res} {fp : Foot} {R : Value → World → Prop} (hf : P.funcs[f]? = some fn) (hb : fn.body = some c)
    (hn : args.length ≤ fn.ntmps) (hX : X w fp) (hfp : ∀ b, fp b → b < w.heap.size)
    (hh : ∀ id B, lk h id = some B → BlkAt M w id B) (hi : ∀ id id' B B', lk h id = some B → lk h id' = some B' → (M id).1 = (M id').1 → id = id') (ha : ∀ id B, lk h id = some B → ¬ fp (M id).1)
    (hr : Run (fnC P f fn.ntmps w (footH M fp h) X R) [.code c] ⟨argsA 0 args, h, nx⟩) : GivesR P f (concL M args) w R := by
  intro cs
  let a : Act := { tmps := (concL M args).toArray ++ Array.replicate (fn.ntmps - (concL M args).length) undef, defers := [] }
  let b : Frame := { (default : Frame) with fn := f, kind := .normal, roundOf := none }
  have henter : Frame.enter P f (concL M args).toArray .normal = b.atR a [.code c] := by
    simp [Frame.enter, Frame.atR, hf, hb, b, a]
  have hR : Rel (fnC P f fn.ntmps w (footH M fp h) X R) M fp ⟨argsA 0 args, h, nx⟩ a w := by
    refine { heap := hh, inj := hi, own := fun id B hB _ => .inr ⟨id, B, hB, rfl⟩, apart := ha, agree := Agree.refl _ _, outer := hX,
             fpok := fun b hb => ⟨hfp b hb, fun _ => .inl hb⟩, size := by simp [a, fnC, concL_length]; omega, frozen := fun i hi => absurd hi (Nat.not_lt_zero _), tmps := ?_, defers := rfl }
    intro i x hx
    obtain ⟨_, h2⟩ := argsA_lk hx
    simp only [Nat.sub_zero] at h2
    have h3 := concL_get (M := M) h2
    have hlt := (List.getElem?_eq_some_iff.1 h3).1
    simp only [a]
    rw [Array.getElem?_append_left (by simpa using hlt)]
    simpa using h3
  obtain ⟨m, s, v, w', fr, rfl, h1, h2, h3⟩ := hr M fp a w hR cs
  rw [henter]
  exact ⟨.returned v, w', fr, ⟨v, rfl, h3⟩, s, h1, h2⟩

/-- A call, by what follows it. -/
theorem Run.callK {C : Ctx} {k : List Item} {σ : St} {ops : Array Oper} {i : Nat} {rest : List Nat} {o : Oper} {c : Call} {g : Operand} {f : FuncId} {caps xs : List AV}
    (ho : ops[i]? = some o) (hop : o.op = .call c) (hc : c.callee = .value g) (hg : σ.ev g = some (.fn f caps)) (hxs : evs σ c.args.toList = some xs) (hw : wantOf ops σ o = some .yes) (hent : Enters C.P f)
    (hd : dstOK C.n o.dst = true)
    (hcon : ∀ M fp a w, Rel C M fp σ a w → GivesR C.P f (concL M (xs ++ caps)) w (fun v w' => ∃ X' M' fp' σ' z, conc M' z = v ∧ Rel (C.withX X') M' fp' σ' a w' ∧ Run (C.withX X') (.inRegion ops rest :: k) (σ'.put o.dst z))) :
    Run C (.inRegion ops (i :: rest) :: k) σ := by
  intro M fp a w hR cs
  have hnd : ∀ c, o.op ≠ .defer c := fun c e => by rw [hop] at e; cases e
  have h2 : c.args.map a.eval = (concL M xs).toArray := by apply Array.ext'; simpa using evs_conc hR.q hxs
  have hr : (execOp a.eval o).run C.P w = .ok (.enter f (concL M (xs ++ caps)).toArray) w := by
    simp only [execOp, hop, resolve, hc, h2, hR.q.ev hg, conc, Deferred.ofValue]
    simp [invoke, hent _ _, concL_append]
  have s1 := step_call (b := C.b) (k := k) (cs := cs) (rest := rest) ho (wantOf_yes hR.q hw) hnd hr
  obtain ⟨e, w', fr, ⟨v, rfl, X', M', fp', σ', z, hz, hR', hrun⟩, hsteps, _, hleave⟩ := hcon M fp a w hR (C.b.atR a (.inRegion ops (i :: rest) :: k) :: cs)
  obtain ⟨m, s, e⟩ := hrun M' fp' _ w' (hR'.put (C := C.withX X') (z := z) (dstOK_lt hd)) cs
  have hfin : (C.b.atR a (.inRegion ops (i :: rest) :: k)).finish v = C.b.atR (a.put o.dst v) (.inRegion ops rest :: k) := by rw [Frame.finish_atR, ho]; rfl
  refine ⟨m, .head s1 (Steps.trans hsteps (.head (step_leave_returned hleave) ?_)), e⟩
  rw [hfin, ← hz]; exact s

theorem YieldsH.rebase {α : Type} {P : Program} {y : Value} {J Js : List α → Res} {w1 w2 : World} {fp1 fp2 : Foot} {pre : List α} {x : α} {z : AV} {h : List (Nat × Blk)} (hy : YieldsH P y J Js w1 fp1 pre x z h) (hg : Grown fp1 w1 fp2 w2) :
    YieldsH P y J Js w2 fp2 pre x z h := fun w fp F v h1 h2 h3 h4 => hy w fp F v h1 h2 h3 (hg.trans h4)

/-- What is handed over, numbered otherwise. -/
theorem Handed.to {z z' : AV} {h h' : List (Nat × Blk)} {w w' : World} {v : Value} (ρ : List (Nat × Nat)) (H : Handed z h w v w') (hz : z = ren ρ z') (hh : inHR ρ h h') (ha : AM.apart ρ (keys h') = true) : Handed z' h' w v w' := by
  obtain ⟨hag, M, hv, hb, hi⟩ := H
  refine ⟨hag, fun i => M (ap ρ i), by rw [← conc_ren, ← hz, hv], fun id B hB => ?_, fun id id' B B' hB hB' e => ?_⟩
  · have := hb _ _ (inHR_lk hh _ _ hB)
    exact ⟨this.1.ren, this.2⟩
  · exact apart_spec ha (lk_keys hB) (lk_keys hB') (hi _ _ _ _ (inHR_lk hh _ _ hB) (inHR_lk hh _ _ hB') e)
theorem HandsZ.to {P : Program} {f : FuncId} {args : List Value} {w : World} {z z' : AV} {h h' : List (Nat × Blk)} (ρ : List (Nat × Nat)) (H : HandsZ P f args w z h) (hz : z = ren ρ z') (hh : inHR ρ h h') (ha : AM.apart ρ (keys h') = true) : HandsZ P f args w z' h' :=
  Calls.mono' H fun _ _ ⟨v, h1, h2⟩ => ⟨v, h1, h2.to ρ hz hh ha⟩

/-- The return of whatever, by what the state says. -/
theorem Run.retS {P : Program} {T : Tab} (hT : tabOK P T) {f : FuncId} {fn : Func} {n : Nat} {w0 : World} {S0 : Nat → Prop} {X : Res} {R : Value → World → Prop} {σ : St} {k : List Item} {p : Prop} {l : List AV}
    (hf : P.funcs[f]? = some fn) (h : resOf T w0 S0 σ fn.results.toList = some (p, l)) (hp : p)
    (hR : ∀ M fp a w, Rel (fnC P f n w0 S0 X R) M fp σ a w → R (conc M (resAV l)) w) : Run (fnC P f n w0 S0 X R) (.code .ret :: k) σ := Run.ret hT hf h hp hR
/-! ### Parameters that stand still -/

/-- A function's surroundings in which the first temporaries are never written. -/
abbrev fnL (P : Program) (f : FuncId) (lo n : Nat) (t0 : Array Value) (w : World) (S0 : Nat → Prop) (X : Res) (R : Value → World → Prop) : Ctx := { fnC P f n w S0 X R with n := ⟨lo, n⟩, t0 := t0 }

theorem givesL_of_run {P : Program} {f : FuncId} {fn : Func} {c : Code} {args : List AV} {h : List (Nat × Blk)} {nx : Nat} {M : Loc} {w : World} {X : Res} {fp : Foot} {R : Value → World → Prop} (hf : P.funcs[f]? = some fn) (hb : fn.body = some c)
    (hn : args.length ≤ fn.ntmps) (hX : X w fp) (hfp : ∀ b, fp b → b < w.heap.size)
    (hh : ∀ id B, lk h id = some B → BlkAt M w id B) (hi : ∀ id id' B B', lk h id = some B → lk h id' = some B' → (M id).1 = (M id').1 → id = id') (ha : ∀ id B, lk h id = some B → ¬ fp (M id).1)
    (hr : Run (fnL P f args.length fn.ntmps (concL M args).toArray w (footH M fp h) X R) [.code c] ⟨argsA 0 args, h, nx⟩) : GivesR P f (concL M args) w R := by
  intro cs
  let a : Act := { tmps := (concL M args).toArray ++ Array.replicate (fn.ntmps - (concL M args).length) undef, defers := [] }
  let b : Frame := { (default : Frame) with fn := f, kind := .normal, roundOf := none }
  have henter : Frame.enter P f (concL M args).toArray .normal = b.atR a [.code c] := by
    simp [Frame.enter, Frame.atR, hf, hb, b, a]
  have hR : Rel (fnL P f args.length fn.ntmps (concL M args).toArray w (footH M fp h) X R) M fp ⟨argsA 0 args, h, nx⟩ a w := by
    refine { heap := hh, inj := hi, own := fun id B hB _ => .inr ⟨id, B, hB, rfl⟩, apart := ha, agree := Agree.refl _ _, outer := hX,
             fpok := fun b hb => ⟨hfp b hb, fun _ => .inl hb⟩, size := by simp [a, concL_length]; omega, frozen := fun i hi => ?_, tmps := ?_, defers := rfl }
    · have hi' : i < args.length := hi
      simp only [a]
      rw [Array.getElem?_append_left (by simpa [concL_length] using hi')]
    · intro i x hx
      obtain ⟨_, h2⟩ := argsA_lk hx
      simp only [Nat.sub_zero] at h2
      have h3 := concL_get (M := M) h2
      have hlt := (List.getElem?_eq_some_iff.1 h3).1
      simp only [a]
      rw [Array.getElem?_append_left (by simpa using hlt)]
      simpa using h3
  obtain ⟨m, s, v, w', fr, rfl, h1, h2, h3⟩ := hr M fp a w hR cs
  rw [henter]
  exact ⟨.returned v, w', fr, ⟨v, rfl, h3⟩, s, h1, h2⟩

theorem Run.retF {P : Program} {T : Tab} (hT : tabOK P T) {f : FuncId} {fn : Func} {lo n : Nat} {t0 : Array Value} {w0 : World} {S0 : Nat → Prop} {X : Res} {R : Value → World → Prop} {σ : St} {k : List Item} {p : Prop} {l : List AV}
    (hf : P.funcs[f]? = some fn) (h : resOf T w0 S0 σ fn.results.toList = some (p, l)) (hp : p)
    (hR : ∀ M fp a w, Rel (fnL P f lo n t0 w0 S0 X R) M fp σ a w → R (conc M (resAV l)) w) : Run (fnL P f lo n t0 w0 S0 X R) (.code .ret :: k) σ := by
  intro M fp a w hr cs
  refine ⟨_, .one (stepR_ret rfl), _, w, _, rfl, rfl, ⟨rfl, hr.defers, rfl, fn, hf, ?_⟩, hR M fp a w hr⟩
  exact results_run hT hr (fn := fn) h hp

/-- Where a parameter that stands still points. -/
theorem Rel.still {C : Ctx} {M : Loc} {fp : Nat → Prop} {σ : St} {a : Act} {w : World} (hR : Rel C M fp σ a w) {i id off b o : Nat} (hi : i < C.n.lo) (h0 : C.t0[i]? = some (.pointer (some ⟨b, o, none⟩))) (ht : lk σ.t i = some (.ptr id off)) : (M id).1 = b := by
  have h1 := hR.frozen i hi
  rw [hR.tmps i _ ht, h0] at h1
  simp only [conc, Option.some.injEq, Value.pointer.injEq, Addr.mk.injEq] at h1
  exact h1.1
end Go.AM

/-
  The abstract machine, twenty-fifth part: structs built in drawn regions, taken first. Own work; over any program.
-/
namespace Go.AM

theorem RunO.build {C : Ctx} {held : List (Nat × Blk)} {n0 : Nat} {ops : Array Oper} {i : Nat} {ord : List (Nat × Bool)} {k : List Item} {σ : St} {o : Oper} {T : Tab} {t : TypeId} {parts : Array (Nat × Operand)} {l : List (Nat × Value)} {p : Prop} {z : AV}
    (hT : tabOK C.P T) (hsel : noSel ops = true) (ho : ops[i]? = some o) (hop : o.op = .build t parts) (hl : plainParts σ parts.toList = some l) (hz : evBuild T t l = some (p, z)) (hw : wantOf ops σ o = some .yes) (hd : dstOK C.n o.dst = true)
    (hp : p) (h : RunO C held n0 ops ord k (σ.put o.dst z)) : RunO C held n0 ops ((i, true) :: ord) k σ := by
  refine RunO.first hsel ho hd (fun M0 M fp a w hM hR => .inl ⟨wantOf_yes hR.q hw, (fun c e => by rw [hop] at e; cases e), fun w' _ => ?_⟩) h
  have hc := plainParts_conc hR.q hl
  have e : (parts.map fun x => (x.1, a.eval x.2)).toList = l := by rw [← hc]; simp
  have := evBuild_run hT (M := M) (parts := parts.map fun x => (x.1, a.eval x.2)) (by rw [e]; exact hz) hp w'
  simp [execOp, hop, this]
end Go.AM

/-
  Values of the model's language; the small functions about them. Own work.
-/
namespace Go.Proofs.YtmammebifhmnhaaDoor
open Go.AM
set_option maxRecDepth 100000

def valR (r : Rl) : List Value := .int .i64 1 :: (relV r ++ [.int .u64 0])
def valS (s : BitVec 64) : List Value := .int .i64 2 :: (relV (Rl.void 0) ++ [.int .u64 (un s)])
def encVR (r : Rl) : Value := .agg (valR r).toArray
def encVS (s : BitVec 64) : Value := .agg (valS s).toArray
def encV0 : Value := .agg (Value.int .i64 0 :: (relV (Rl.void 0) ++ [.int .u64 0])).toArray

theorem d66 : List.drop 66 z46 = [.int .u64 0] := rfl
theorem t65 : List.take 65 z46.tail = relV (Rl.void 0) := rfl
theorem d67 : List.drop 67 z46 = [] := rfl
theorem sz1 : tab.size 34 = some 65 := rfl
theorem sz2 : tab.size 44 = some 1 := rfl
theorem sz3 : z46.length = 67 := rfl
theorem sz4 : tab.size 3 = some 1 := rfl

theorem valR_one (r : Rl) : ∀ c ∈ valR r, c.oneCell' = true := fun c hc => by
  simp only [valR, List.mem_cons, List.mem_append, List.not_mem_nil, or_false] at hc
  rcases hc with rfl | hc | rfl
  · rfl
  · exact (relV_one' r).2 trivial c hc
  · rfl

theorem valS_one (x : BitVec 64) : ∀ c ∈ valS x, c.oneCell' = true := fun c hc => by
  simp only [valS, List.mem_cons, List.mem_append, List.not_mem_nil, or_false] at hc
  rcases hc with rfl | hc | rfl
  · rfl
  · exact (relV_one' _).2 trivial c hc
  · rfl
theorem valR_len (r : Rl) : (valR r).length = 67 := by simp [valR]
theorem valS_len (x : BitVec 64) : (valS x).length = 67 := by simp [valS]
theorem one_lem (r : Rl) (x : BitVec 64) : (∀ a : Value, a ∈ relV r ∨ a = .int .u64 (un x) → a.oneCell' = true) ↔ True := iff_true_intro fun a ha => by
  rcases ha with h | rfl
  · exact (relV_one' r).2 trivial a h
  · rfl
theorem one_lem0 (r : Rl) : (∀ a : Value, a ∈ relV r ∨ a = .int .u64 0 → a.oneCell' = true) ↔ True := one_lem r 0#64

theorem isRel_ok (r : Rl) (w : World) : Gives Tryd.prog 64 [encRel r] w (encVR r) := by
  refine Gives.of_run Tryd.func64 rfl (by show 1 ≤ 5; decide) ?_
  refine RunF_sound tab_ok noX_local 100 [] _ _ rfl ?_ ?_
  · simp [segsVals, fillL, splice, Value.cells, sz1, sz2, sz3, d66]
    exact (one_lem0 r).2 trivial
  refine Run.retP tab_ok Tryd.func64 rfl ?_ (fun M => ?_)
  · simp [fillL, splice, Value.cells, sz1, sz3]
  · simp [fillL, splice, Value.cells, sz1, sz3, d66]
    rfl
theorem isRel_enters : Enters Tryd.prog 64 := enters_mk Tryd.func64 (by decide) rfl

theorem vrel_ok (r : Rl) (w : World) : Gives Tryd.prog 32 [encRel r] w (encVR r) := by
  refine Gives.of_run Tryd.func32 rfl (by show 1 ≤ 5; decide) ?_
  refine RunF_sound tab_ok noX_local 100 [] _ _ rfl ?_ ?_
  · simp [segsVals, fillL, splice, Value.cells, sz1, sz2, sz3, d66]
    exact (one_lem0 r).2 trivial
  refine Run.retP tab_ok Tryd.func32 rfl ?_ (fun M => ?_)
  · simp [fillL, splice, Value.cells, sz1, sz3]
  · simp [fillL, splice, Value.cells, sz1, sz3, d66]
    rfl
theorem vrel_enters : Enters Tryd.prog 32 := enters_mk Tryd.func32 (by decide) rfl

theorem isSet_ok (s : BitVec 64) (w : World) : Gives Tryd.prog 72 [.int .u64 (un s)] w (encVS s) := by
  refine Gives.of_run Tryd.func72 rfl (by show 1 ≤ 5; decide) ?_
  refine RunF_sound tab_ok noX_local 100 [] _ _ rfl ?_ ?_
  · simp [segsVals, fillL, splice, Value.cells, sz1, sz2, sz3, t65, d67]
    exact (one_lem _ s).2 trivial
  refine Run.retP tab_ok Tryd.func72 rfl ?_ (fun M => ?_)
  · simp [fillL, splice, Value.cells, sz2, sz3]
  · simp [fillL, splice, Value.cells, sz2, sz3, t65, d67]
    rfl
theorem isSet_enters : Enters Tryd.prog 72 := enters_mk Tryd.func72 (by decide) rfl

theorem vset_ok (s : BitVec 64) (w : World) : Gives Tryd.prog 39 [.int .u64 (un s)] w (encVS s) := by
  refine Gives.of_run Tryd.func39 rfl (by show 1 ≤ 5; decide) ?_
  refine RunF_sound tab_ok noX_local 100 [] _ _ rfl ?_ ?_
  · simp [segsVals, fillL, splice, Value.cells, sz1, sz2, sz3, t65, d67]
    exact (one_lem _ s).2 trivial
  refine Run.retP tab_ok Tryd.func39 rfl ?_ (fun M => ?_)
  · simp [fillL, splice, Value.cells, sz2, sz3]
  · simp [fillL, splice, Value.cells, sz2, sz3, t65, d67]
    rfl
theorem vset_enters : Enters Tryd.prog 39 := enters_mk Tryd.func39 (by decide) rfl


theorem every_ok (n : Int) (w : World) (h0 : 0 ≤ n) : Gives Tryd.prog 71 [.int .i64 n] w (.int .u64 (un (mask n))) := by
  refine Gives.of_run Tryd.func71 rfl (by show 1 ≤ 8; decide) ?_
  by_cases h : n ≥ 64
  · refine RunF_sound tab_ok noX_local 100 [true] _ _ rfl ?_ ?_
    · simp; omega
    refine Run.retP tab_ok Tryd.func71 rfl trivial (fun M => ?_)
    rw [mask, if_pos h]; rfl
  · refine RunF_sound tab_ok noX_local 100 [false] _ _ rfl ?_ ?_
    · simp; omega
    refine Run.retP tab_ok Tryd.func71 rfl trivial (fun M => ?_)
    rw [mask, if_neg h]
    show Value.int _ _ = _
    rw [shl1_un, sub1_un]
theorem every_enters : Enters Tryd.prog 71 := enters_mk Tryd.func71 (by decide) rfl

theorem size_ok (x : Xn) (w : World) (hX : SeesX w x) (hl : x.ev.length ≤ maxLen) : Gives Tryd.prog 70 [encX x] w (.int .i64 ((shortL x.ev).length : Int)) := by
  refine Gives.of_run Tryd.func70 rfl (by show 1 ≤ 10; decide) ?_
  have hone := xV_one hX.one1 hX.one4
  by_cases h : x.ev.length > 64
  · have e : shortL x.ev = [] := by unfold shortL; rw [if_pos h]
    rw [e]
    refine RunF_sound tab_ok noX_local 100 [true] _ _ rfl ?_ ?_
    · simp
      omega
    exact Run.retP tab_ok Tryd.func70 rfl trivial (fun M => rfl)
  · have e : shortL x.ev = x.ev := by unfold shortL; rw [if_neg h]
    rw [e]
    refine RunF_sound tab_ok noX_local 100 [false] _ _ rfl ?_ ?_
    · simp
      omega
    exact Run.retP tab_ok Tryd.func70 rfl trivial (fun M => rfl)
theorem size_enters : Enters Tryd.prog 70 := enters_mk Tryd.func70 (by decide) rfl

theorem wholeR_ok (n : Nat) (hn : n ≤ 64) (w : World) : Gives Tryd.prog 38 [.int .i64 (n : Int)] w (.int .u64 (un (mask (n : Int)))) := by
  refine Gives.of_run Tryd.func38 rfl (by show 1 ≤ 16; decide) ?_
  have hstep : ∀ k : Nat, k < 64 → mask (k : Int) ||| 1#64 <<< k = mask ((k + 1 : Nat) : Int) := fun k hk => by
    apply BitVec.eq_of_getLsbD_eq
    intro b hb
    rw [BitVec.getLsbD_or, mask_get _ _ (by omega), mask_get _ _ (by omega), one_shl_get _ _ hk, Bool.eq_iff_iff]
    simp
    omega
  refine RunF_sound tab_ok noX_local 100 [] _ _ rfl ?_ ?_
  · simp
  suffices H : ∀ (d k : Nat), k + d = n → ∀ σ, inT σ.t [(0, .v (.int .i64 (n : Int))), (3, .v (.int .u64 (un (mask (k : Int))))), (4, .v (.int .i64 (k : Int)))] → inT σ.h [] → Run _ _ σ by
    exact H n 0 (by omega) _ ⟨rfl, rfl, rfl, trivial⟩ trivial
  intro d
  induction d with
  | zero =>
    intro k hk σ ht hh
    obtain rfl : k = n := by omega
    refine Run.to ?_ ht hh (n' := 0)
    refine RunF_sound tab_ok noX_local 100 [false] _ _ rfl ?_ ?_
    · simp
    exact Run.retP tab_ok Tryd.func38 rfl trivial (fun M => rfl)
  | succ d ih =>
    intro k hk σ ht hh
    refine Run.to ?_ ht hh (n' := 0)
    have hw := wrapn k (by omega)
    refine RunF_sound tab_ok noX_local 100 [true] _ _ rfl ?_ ?_
    · simp [hw]; omega
    refine ih (k + 1) (by omega) _ ⟨rfl, u64_eq ?_, i64_eq (wrap_succ (by omega)), trivial⟩ trivial
    rw [hw, shl1_un, bor_un, Int.toNat_natCast, hstep k (by omega)]
theorem wholeR_enters : Enters Tryd.prog 38 := enters_mk Tryd.func38 (by decide) rfl

theorem bits4_ok (a b c : BitVec 64) (w : World) : Gives Tryd.prog 76 [.int .i64 4, .int .u64 (un a), .int .u64 (un b), .int .u64 (un c)] w (.int .u64 (un (a &&& b))) := by
  refine Gives.of_run Tryd.func76 rfl (by show 4 ≤ 28; decide) ?_
  refine RunF_sound tab_ok noX_local 100 [false, true] _ _ rfl ?_ ?_
  · simp
  refine Run.retP tab_ok Tryd.func76 rfl trivial (fun M => ?_)
  show Value.int _ _ = _
  rw [band_un]
theorem bits4_enters : Enters Tryd.prog 76 := enters_mk Tryd.func76 (by decide) rfl
end Go.Proofs.YtmammebifhmnhaaDoor

/-
  The parts of relations within threads and between them; the reference's pairs and diagonal. Own work.
-/
namespace Go.Proofs.YtmammebifhmnhaaDoor
open Go.AM
set_option maxRecDepth 100000

noncomputable def meetL (r s : Rl) : Rl := opL (fun a b => a &&& b) r s

theorem part_ok (r : Rl) (x : Xn) (b : Bool) (w : World) (hX : SeesX w x) :
    Gives Tryd.prog 68 [encRel r, encX x, .bool b] w (encVR (meetL r (standsL (if b then 3 else 4) x.ev))) := by
  refine Gives.of_run Tryd.func68 rfl (by show 3 ≤ 20; decide) ?_
  have hone := xV_one hX.one1 hX.one4
  cases b with
  | true =>
    refine RunF_sound tab_ok noX_local 100 [true] _ _ rfl ?_ ?_
    · simp [sz3]
    refine Run.drawA noX_local rfl [] [(0, .cells 34 [.vals 65 (relV r)]), (1, .cells 28 [.vals 5 (xV x)])] rfl rfl ⟨rfl, rfl, trivial⟩ ?_
    refine RunOF_sound tab_ok noX_local rfl rfl 100 [] _ _ rfl ?_ ?_
    · simp
    refine RunO.callFn (r := encRel (standsL 3 x.ev)) noX_local rfl rfl rfl rfl rfl rfl rfl rfl int_enters rfl (fun w' hA => ?_) ?_
    · have := int_ok x.pe x.ce x.ev w' (hX.ev.agree hA (fun _ _ h => h))
      rw [eqInt] at this
      exact this
    refine RunOF_sound tab_ok noX_local rfl rfl 100 [] _ _ rfl ?_ ?_
    · simp
    refine RunO.callFn (r := encRel (meetL r (standsL 3 x.ev))) noX_local rfl rfl rfl rfl rfl rfl rfl rfl meet_enters rfl (fun w' hA => meet_ok _ _ w') ?_
    refine RunOF_sound tab_ok noX_local rfl rfl 100 [] _ _ rfl ?_ ?_
    · simp
    refine RunO.callFn (r := encVR (meetL r (standsL 3 x.ev))) noX_local rfl rfl rfl rfl rfl rfl rfl rfl isRel_enters rfl (fun w' hA => isRel_ok _ w') ?_
    show RunO _ _ _ _ _ _ _
    simp only [if_true]
    generalize meetL r (standsL 3 x.ev) = Y
    refine RunOF_sound tab_ok noX_local rfl rfl 100 [] _ _ rfl ?_ ?_
    · simp [segsVals, inT]
      exact ⟨⟨⟨valR_len Y, valR_one Y⟩, rfl⟩, rfl, rfl⟩
    refine RunO.done ?_
    refine RunF_sound tab_ok noX_local 100 [] _ _ rfl ?_ ?_
    · simp
    refine Run.retP tab_ok Tryd.func68 rfl ?_ (fun M => rfl)
    simp [valR_len]
  | false =>
    refine RunF_sound tab_ok noX_local 100 [false] _ _ rfl ?_ ?_
    · simp [sz3]
    refine Run.drawA noX_local rfl [] [(0, .cells 34 [.vals 65 (relV r)]), (1, .cells 28 [.vals 5 (xV x)])] rfl rfl ⟨rfl, rfl, trivial⟩ ?_
    refine RunOF_sound tab_ok noX_local rfl rfl 100 [] _ _ rfl ?_ ?_
    · simp
    refine RunO.callFn (r := encRel (standsL 4 x.ev)) noX_local rfl rfl rfl rfl rfl rfl rfl rfl ext_enters rfl (fun w' hA => ?_) ?_
    · have := ext_ok x.pe x.ce x.ev w' (hX.ev.agree hA (fun _ _ h => h))
      rw [eqExt] at this
      exact this
    refine RunOF_sound tab_ok noX_local rfl rfl 100 [] _ _ rfl ?_ ?_
    · simp
    refine RunO.callFn (r := encRel (meetL r (standsL 4 x.ev))) noX_local rfl rfl rfl rfl rfl rfl rfl rfl meet_enters rfl (fun w' hA => meet_ok _ _ w') ?_
    refine RunOF_sound tab_ok noX_local rfl rfl 100 [] _ _ rfl ?_ ?_
    · simp
    refine RunO.callFn (r := encVR (meetL r (standsL 4 x.ev))) noX_local rfl rfl rfl rfl rfl rfl rfl rfl isRel_enters rfl (fun w' hA => isRel_ok _ w') ?_
    show RunO _ _ _ _ _ _ _
    simp only [Bool.false_eq_true, if_false]
    generalize meetL r (standsL 4 x.ev) = Y
    refine RunOF_sound tab_ok noX_local rfl rfl 100 [] _ _ rfl ?_ ?_
    · simp [segsVals, inT]
      exact ⟨⟨⟨valR_len Y, valR_one Y⟩, rfl⟩, rfl, rfl⟩
    refine RunO.done ?_
    refine RunF_sound tab_ok noX_local 100 [] _ _ rfl ?_ ?_
    · simp
    refine Run.retP tab_ok Tryd.func68 rfl ?_ (fun M => rfl)
    simp [valR_len]
theorem part_enters : Enters Tryd.prog 68 := enters_mk Tryd.func68 (by decide) rfl

def pairP (a b : Rl) (k : Nat) : Rl := Rl.by_ a.n fun i => if i < k then a.row i &&& b.row i else 0#64
theorem pairP_0 (a b : Rl) : pairP a b 0 = Rl.void a.n := by
  rw [Rl.void_by, pairP]
  exact Rl.by_congr fun i _ => by simp
theorem pairP_step (a b : Rl) (k : Nat) (hk : k < 64) : (pairP a b k).setRow k (a.row k &&& b.row k) = pairP a b (k + 1) := by
  unfold pairP
  rw [Rl.set_by]
  refine Rl.by_congr fun i _ => ?_
  by_cases h : k = i
  · subst h; simp
  · rw [if_neg h]
    have : (i < k) ↔ (i < k + 1) := by omega
    simp only [this]
theorem n_pairP (a b : Rl) (k : Nat) : (pairP a b k).n = a.n := Rl.n_by _ _

theorem pairs4_ok (a b : Rl) (n : Nat) (hn : a.n = (n : Int)) (hn64 : n ≤ 64) (w : World) :
    Gives Tryd.prog 36 [.int .i64 4, encRel a, encRel b] w (encRel (pairP a b n)) := by
  refine Gives.of_run Tryd.func36 rfl (by show 3 ≤ 35; decide) ?_
  refine RunF_sound tab_ok noX_local 100 [] _ _ rfl ?_ ?_
  · simp [segsVals, relV_tail_one, fillL, Value.cells, splice]
  suffices H : ∀ (d k : Nat), k + d = n → ∀ σ, inT σ.t [(0, .v (.int .i64 4)), (4, .ptr 0 0), (5, .ptr 1 0), (6, .ptr 2 0), (7, .ptr 3 0), (8, .v (.int .i64 (k : Int)))] →
      inT σ.h [(0, .cells 34 [.vals 65 (relV a)]), (1, .cells 34 [.vals 65 (relV b)]), (2, .cells 34 [.vals 65 (relV (Rl.void 0))]), (3, .cells 34 [.vals 65 (relV (pairP a b k))])] → Run _ _ σ by
    refine H n 0 (by omega) _ ⟨rfl, rfl, rfl, rfl, rfl, rfl, trivial⟩ ⟨rfl, rfl, rfl, ?_, trivial⟩
    have e0 : intAt (relV a).toArray.toList (0 + 0 - 0) = (n : Int) := by simp only [Nat.add_zero, Nat.sub_zero, intAt_0, hn]
    rw [pairP_0, hn, e0]; rfl
  intro d
  induction d with
  | zero =>
    intro k hk σ ht hh
    obtain rfl : k = n := by omega
    refine Run.to ?_ ht hh (n' := 4)
    refine RunF_sound tab_ok noX_local 100 [false] _ _ rfl ?_ ?_
    · simp [relV_one', segsVals, intAt_0, hn]
    refine Run.retP tab_ok Tryd.func36 rfl ?_ (fun M => ?_)
    · simp
    rfl
  | succ d ih =>
    intro k hk σ ht hh
    refine Run.to ?_ ht hh (n' := 4)
    have hk' : k < 64 := by omega
    refine RunF_sound tab_ok noX_local 100 [true] _ _ rfl ?_ ?_
    · simp [intAt_0, hn]; omega
    refine Run.drawA noX_local rfl [] [(0, .cells 34 [.vals 65 (relV a)]), (1, .cells 34 [.vals 65 (relV b)])] rfl rfl ⟨rfl, rfl, trivial⟩ ?_
    refine RunOF_sound tab_ok noX_local rfl rfl 100 [] _ _ rfl ?_ ?_
    · simp [relV_get _ _ hk', intAt_row _ _ hk', intAt_0, hn]; omega
    refine RunO.callFn (r := .int .u64 (un (mask (n : Int)))) noX_local rfl rfl rfl rfl rfl rfl rfl rfl wholeR_enters rfl (fun w' _ => ?_) ?_
    · simp only [Nat.add_zero, Nat.sub_zero, intAt_0, hn]
      exact wholeR_ok n hn64 w'
    refine RunOF_sound tab_ok noX_local rfl rfl 100 [] _ _ rfl ?_ ?_
    · simp
      trace_state
    refine RunO.callFn (r := .int .u64 (un (a.row k &&& b.row k))) noX_local rfl rfl rfl rfl rfl rfl rfl rfl bits4_enters rfl (fun w' _ => ?_) ?_
    · simp only [Nat.sub_zero, Nat.zero_add, Nat.mul_one, Int.toNat_natCast, intAt_row _ _ hk']
      exact bits4_ok _ _ _ w'
    refine RunOF_sound tab_ok noX_local rfl rfl 100 [] _ _ rfl ?_ ?_
    · simp [okCell, Value.oneCell', inT]
      exact ⟨by omega, by omega, rfl, rfl⟩
    refine RunO.done ?_
    refine RunF_sound tab_ok noX_local 100 [] _ _ rfl ?_ ?_
    · simp
    refine ih (k + 1) (by omega) _ ⟨rfl, rfl, rfl, rfl, rfl, i64_eq (wrap_succ (by omega)), trivial⟩ ⟨rfl, rfl, rfl, congrArg (fun l => some (Blk.cells 34 [.vals 65 l])) ?_, trivial⟩
    simp [relV_set _ _ hk', pairP_step _ _ _ hk']
theorem pairs4_enters : Enters Tryd.prog 36 := enters_mk Tryd.func36 (by decide) rfl

def diagP (n : Int) (s : BitVec 64) (k : Nat) : Rl := Rl.by_ n fun i => if i < k ∧ s.getLsbD i = true then 1#64 <<< i else 0#64
theorem diagP_0 (n : Int) (s : BitVec 64) : diagP n s 0 = Rl.void n := by
  rw [Rl.void_by, diagP]
  exact Rl.by_congr fun i _ => by simp
theorem diagP_yes (n : Int) (s : BitVec 64) (k : Nat) (h : s.getLsbD k = true) : (diagP n s k).setRow k (1#64 <<< k) = diagP n s (k + 1) := by
  unfold diagP
  rw [Rl.set_by]
  refine Rl.by_congr fun i _ => ?_
  by_cases e : k = i
  · subst e; simp [h]
  · rw [if_neg e]
    have : (i < k) ↔ (i < k + 1) := by omega
    simp only [this]
theorem diagP_no (n : Int) (s : BitVec 64) (k : Nat) (h : ¬ s.getLsbD k = true) : diagP n s k = diagP n s (k + 1) := by
  unfold diagP
  refine Rl.by_congr fun i _ => ?_
  by_cases e : k = i
  · subst e; simp [h]
  · have : (i < k) ↔ (i < k + 1) := by omega
    simp only [this]
theorem diagP_end (n : Nat) (hn : n ≤ 64) (s : BitVec 64) : diagP (n : Int) s n = onL (n : Int) s := by
  rw [onL, if_neg (by omega), diagP]
  refine Rl.by_congr fun i _ => ?_
  have : (i < n) ↔ ((i : Int) < (n : Int)) := by omega
  simp only [this]

theorem diag_ok (n : Nat) (hn : n ≤ 64) (s : BitVec 64) (w : World) :
    Gives Tryd.prog 37 [.int .i64 (n : Int), .int .u64 (un s)] w (encRel (onL (n : Int) s)) := by
  refine Gives.of_run Tryd.func37 rfl (by show 2 ≤ 27; decide) ?_
  refine RunF_sound tab_ok noX_local 100 [] _ _ rfl ?_ ?_
  · simp [segsVals, relV_tail_one, fillL, Value.cells, splice]
  suffices H : ∀ (d k : Nat), k + d = n → ∀ σ, inT σ.t [(0, .v (.int .i64 (n : Int))), (1, .v (.int .u64 (un s))), (4, .ptr 0 0), (5, .ptr 1 0), (6, .v (.int .i64 (k : Int)))] →
      inT σ.h [(0, .cells 34 [.vals 65 (relV (Rl.void 0))]), (1, .cells 34 [.vals 65 (relV (diagP (n : Int) s k))])] → Run _ _ σ by
    refine H n 0 (by omega) _ ⟨rfl, rfl, rfl, rfl, rfl, trivial⟩ ⟨rfl, ?_, trivial⟩
    rw [diagP_0]; rfl
  intro d
  induction d with
  | zero =>
    intro k hk σ ht hh
    obtain rfl : k = n := by omega
    refine Run.to ?_ ht hh (n' := 2)
    refine RunF_sound tab_ok noX_local 100 [false] _ _ rfl ?_ ?_
    · simp [relV_one', segsVals]
    refine Run.retP tab_ok Tryd.func37 rfl ?_ (fun M => ?_)
    · simp
    rw [diagP_end _ hn]; rfl
  | succ d ih =>
    intro k hk σ ht hh
    refine Run.to ?_ ht hh (n' := 2)
    have hk' : k < 64 := by omega
    have hw := wrapn k (by omega)
    by_cases c : s.getLsbD k = true
    · refine RunF_sound tab_ok noX_local 100 [true, true] _ _ rfl ?_ ?_
      · simp only [hw]
        simp [okCell, Value.oneCell', bit1, c]
        (repeat' refine And.intro ?_ ?_) <;> omega
      refine ih (k + 1) (by omega) _ ⟨rfl, rfl, rfl, rfl, i64_eq (wrap_succ (by omega)), trivial⟩ ⟨rfl, congrArg (fun l => some (Blk.cells 34 [.vals 65 l])) ?_, trivial⟩
      simp [hw, shl1_un, relV_set _ _ hk', diagP_yes _ _ _ c]
    · refine RunF_sound tab_ok noX_local 100 [true, false] _ _ rfl ?_ ?_
      · simp only [hw]
        simp [bit1, c]
        omega
      refine ih (k + 1) (by omega) _ ⟨rfl, rfl, rfl, rfl, i64_eq (wrap_succ (by omega)), trivial⟩ ⟨rfl, ?_, trivial⟩
      rw [← diagP_no _ _ _ c]; rfl
theorem diag_enters : Enters Tryd.prog 37 := enters_mk Tryd.func37 (by decide) rfl

/-! ### Two relations over the same numbers -/

theorem meet_pair {R S : Rl} {n : Nat} (hn : n ≤ 64) (hR : R.n = (n : Int)) (hS : S.n = (n : Int)) (rR : rightL R = R) (rS : rightL S = S) : meetL R S = pairP R S n := by
  have h2 : twoL R S = (R, S) := by unfold twoL; rw [rR, rS, if_pos (by rw [hR, hS])]
  rw [meetL, opL, h2]
  simp only [hR, Int.toNat_natCast]
  unfold rowP pairP
  refine Rl.by_congr fun i hi => ?_
  by_cases c : i < n
  · rw [if_pos c, if_pos c]
  · rw [if_neg c, if_neg c, row0_of rR (by omega)]

theorem stands_n (k : Int) (xs : List Ev) : (standsL k xs).n = ((shortL xs).length : Int) := by unfold standsL pairsL; exact Rl.n_gen _ _
theorem stands_right (k : Int) (xs : List Ev) : rightL (standsL k xs) = standsL k xs := by
  have hle := shortL_le xs
  unfold standsL pairsL
  generalize shortL xs = L at hle
  exact rightL_of _ (gen_checkI hle atB_lt)
theorem frL_n (n : Nat) (F O : Rl) : (frL n F O).n = (n : Int) := frP_n _ _ _ _ _
theorem frL_below {n : Nat} {F O : Rl} (hF : Below' n F) (hO : Below' n O) : Below' n (frL n F O) := fun a b h => by
  have ha : a < 64 := by
    rw [frL, frP, Rl.has_gen] at h
    have := (Bool.and_eq_true_iff.1 h).1
    exact (of_decide_eq_true this).1
  have hb : b < 64 := by
    rw [frL, frP, Rl.has_gen] at h
    have := (Bool.and_eq_true_iff.1 h).1
    exact (of_decide_eq_true this).2
  rw [frL, frP_has ha hb] at h
  obtain ⟨z, _, h1, h2, _⟩ := h
  exact ⟨(hF _ _ h1).2, (hO _ _ h2).2⟩
end Go.Proofs.YtmammebifhmnhaaDoor

/-
  The operations of relations that the axioms use, by their pairs. Own work.
-/
namespace Go.Proofs.YtmammebifhmnhaaDoor
open Go.AM
set_option maxRecDepth 100000

theorem or_ok (a b : BitVec 64) (w : World) : Gives Tryd.prog 97 [.int .u64 (un a), .int .u64 (un b)] w (.int .u64 (un (a ||| b))) := by
  refine Gives.of_run Tryd.func97 rfl (by show 2 ≤ 8; decide) ?_
  refine RunF_sound tab_ok noX_local 100 [] _ _ rfl ?_ ?_
  · simp
  exact Run.retP tab_ok Tryd.func97 rfl trivial (fun M => by show Value.int _ _ = _; rw [bor_un])
theorem or_enters : Enters Tryd.prog 97 := enters_mk Tryd.func97 (by decide) rfl
theorem union_ok (r s : Rl) (w : World) : Gives Tryd.prog 61 [encRel r, encRel s] w (encRel (opL (fun a b => a ||| b) r s)) := by
  refine Gives.of_run Tryd.func61 rfl (by show 2 ≤ 8; decide) ?_
  refine RunF_sound tab_ok noX_local 100 [] _ _ rfl ?_ ?_
  · simp
  refine Run.callM noX_local rfl rfl rfl rfl rfl rfl rowwise_enters rfl (fun M w' _ _ => rowwise_ok 97 (fun a b => a ||| b) or_enters or_ok r s w') ?_
  refine RunF_sound tab_ok noX_local 100 [] _ _ rfl ?_ ?_
  · simp [segsVals, relV_one']
  refine Run.retP tab_ok Tryd.func61 rfl ?_ (fun M => ?_)
  · simp
  rfl
theorem union_enters : Enters Tryd.prog 61 := enters_mk Tryd.func61 (by decide) rfl

theorem restrict_ok (r : Rl) (x y : BitVec 64) (w : World) : Gives Tryd.prog 51 [encRel r, .int .u64 (un x), .int .u64 (un y)] w (encRel (opL (fun a b => a &&& b) (rightL r) (crossL (rightL r).n x y))) := by
  refine Gives.of_run Tryd.func51 rfl (by show 3 ≤ 16; decide) ?_
  refine RunF_sound tab_ok noX_local 100 [] _ _ rfl ?_ ?_
  · simp
  refine Run.callFn noX_local rfl rfl rfl rfl rfl rfl rfl right_enters rfl (fun w' _ => right_ok r w') ?_
  generalize rightL r = R
  refine RunF_sound tab_ok noX_local 100 [] _ _ rfl ?_ ?_
  · simp [segsVals, relV_one']
  refine Run.drawA noX_local rfl [] [(0, .cells 34 [.vals 65 (relV R)])] rfl rfl ⟨by simp [splice, lk], trivial⟩ ?_
  refine RunOF_sound tab_ok noX_local rfl rfl 200 [] _ _ rfl ?_ ?_
  · simp
  refine RunO.callFn noX_local rfl rfl rfl rfl rfl rfl rfl rfl cross_enters rfl (fun w' _ => cross_ok R.n x y w') ?_
  refine RunO.callFn noX_local rfl rfl rfl rfl rfl rfl rfl rfl meet_enters rfl (fun w' _ => meet_ok R (crossL R.n x y) w') ?_
  refine RunOF_sound tab_ok noX_local rfl rfl 200 [] _ _ rfl ?_ ?_
  · simp [segsVals, relV_one', inT, lk]
  refine RunO.done ?_
  refine RunF_sound tab_ok noX_local 100 [] _ _ rfl ?_ ?_
  · simp
  refine Run.retP tab_ok Tryd.func51 rfl ?_ (fun M => ?_)
  · simp
  rfl
theorem restrict_enters : Enters Tryd.prog 51 := enters_mk Tryd.func51 (by decide) rfl


/-! ### Relations over n numbers, by their pairs -/

/-- A relation over n numbers. -/
structure Wd (n : Nat) (R : Rl) : Prop where
  sz : R.n = (n : Int)
  below : Below' n R

theorem Wd.right {n : Nat} {R : Rl} (hn : n ≤ 64) (h : Wd n R) : rightL R = R := right_below hn h.sz h.below
theorem Wd.two {n : Nat} {R S : Rl} (hn : n ≤ 64) (hR : Wd n R) (hS : Wd n S) : twoL R S = (R, S) := by
  unfold twoL; rw [hR.right hn, hS.right hn, if_pos (by rw [hR.sz, hS.sz])]
theorem Wd.ext {n : Nat} {R S : Rl} (hR : Wd n R) (hS : Wd n S) (h : ∀ a b, a < n → b < n → R.has a b = S.has a b) : R = S := by
  apply Rl.ext_has (by rw [hR.sz, hS.sz])
  intro a b _ _
  by_cases c : a < n ∧ b < n
  · exact h a b c.1 c.2
  · have h1 : R.has a b = false := by
      cases e : R.has a b with
      | false => rfl
      | true => exact absurd (hR.below a b e) c
    have h2 : S.has a b = false := by
      cases e : S.has a b with
      | false => rfl
      | true => exact absurd (hS.below a b e) c
    rw [h1, h2]

theorem op_row {n : Nat} (hn : n ≤ 64) {R S : Rl} (hR : Wd n R) (hS : Wd n S) (F : BitVec 64 → BitVec 64 → BitVec 64) {a : Nat} (ha : a < n) : (opL F R S).row a = F (R.row a) (S.row a) := by
  rw [opL, hR.two hn hS]
  simp only [hR.sz, Int.toNat_natCast]
  rw [rowP, Rl.row_by, if_pos (by omega), if_pos ha]
theorem op_n {n : Nat} (hn : n ≤ 64) {R S : Rl} (hR : Wd n R) (hS : Wd n S) (F : BitVec 64 → BitVec 64 → BitVec 64) : (opL F R S).n = (n : Int) := by
  rw [opL, hR.two hn hS]
  rw [rowP, Rl.n_by]; exact hR.sz
theorem op_high {n : Nat} (hn : n ≤ 64) {R S : Rl} (hR : Wd n R) (hS : Wd n S) (F : BitVec 64 → BitVec 64 → BitVec 64) {a b : Nat} (ha : ¬ a < n) : (opL F R S).has a b = false := by
  rw [opL, hR.two hn hS]
  simp only [hR.sz, Int.toNat_natCast]
  rw [← has_row, rowP, Rl.row_by]
  by_cases c : a < 64
  · rw [if_pos c, if_neg ha]
    cases e : (R.row a).getLsbD b with
    | false => rfl
    | true => exact absurd (hR.below a b e).1 ha
  · rw [if_neg c]; simp

theorem op_wd {n : Nat} (hn : n ≤ 64) {R S : Rl} (hR : Wd n R) (hS : Wd n S) (F : BitVec 64 → BitVec 64 → BitVec 64) (f : Bool → Bool → Bool) (hf : f false false = false)
    (hF : ∀ x y b, b < 64 → (F x y).getLsbD b = f (x.getLsbD b) (y.getLsbD b)) : Wd n (opL F R S) ∧ ∀ a b, a < n → b < n → (opL F R S).has a b = f (R.has a b) (S.has a b) := by
  have key : ∀ a b, a < n → (opL F R S).has a b = f (R.has a b) (S.has a b) := fun a b ha => by
    rw [← has_row, op_row hn hR hS F ha]
    by_cases hb : b < 64
    · rw [hF _ _ _ hb]; rfl
    · rw [BitVec.getLsbD_of_ge _ _ (by omega), ← has_row, ← has_row, BitVec.getLsbD_of_ge _ _ (by omega), BitVec.getLsbD_of_ge _ _ (by omega), hf]
  refine ⟨⟨op_n hn hR hS F, fun a b h => ?_⟩, fun a b ha _ => key a b ha⟩
  by_cases ha : a < n
  · refine ⟨ha, ?_⟩
    rw [key a b ha] at h
    cases e1 : R.has a b with
    | true => exact (hR.below a b e1).2
    | false =>
      cases e2 : S.has a b with
      | true => exact (hS.below a b e2).2
      | false => rw [e1, e2, hf] at h; cases h
  · rw [op_high hn hR hS F ha] at h; cases h

noncomputable def uniL (r s : Rl) : Rl := opL (fun a b => a ||| b) r s
noncomputable def minL (r s : Rl) : Rl := opL (fun a b => a &&& ~~~b) r s
noncomputable def resL (r : Rl) (x y : BitVec 64) : Rl := opL (fun a b => a &&& b) (rightL r) (crossL (rightL r).n x y)

theorem uni_wd {n : Nat} (hn : n ≤ 64) {R S : Rl} (hR : Wd n R) (hS : Wd n S) : Wd n (uniL R S) ∧ ∀ a b, a < n → b < n → (uniL R S).has a b = (R.has a b || S.has a b) :=
  op_wd hn hR hS _ (fun a b => a || b) rfl fun x y b _ => by rw [BitVec.getLsbD_or]
theorem meet_wd {n : Nat} (hn : n ≤ 64) {R S : Rl} (hR : Wd n R) (hS : Wd n S) : Wd n (meetL R S) ∧ ∀ a b, a < n → b < n → (meetL R S).has a b = (R.has a b && S.has a b) :=
  op_wd hn hR hS _ (fun a b => a && b) rfl fun x y b _ => by rw [BitVec.getLsbD_and]
theorem min_wd {n : Nat} (hn : n ≤ 64) {R S : Rl} (hR : Wd n R) (hS : Wd n S) : Wd n (minL R S) ∧ ∀ a b, a < n → b < n → (minL R S).has a b = (R.has a b && !S.has a b) :=
  op_wd hn hR hS _ (fun a b => a && !b) rfl fun x y b hb => by rw [BitVec.getLsbD_and, BitVec.getLsbD_not]; simp [hb]

theorem cross_wd {n : Nat} (hn : n ≤ 64) (x y : BitVec 64) : Wd n (crossL (n : Int) x y) ∧ ∀ a b, a < n → b < n → (crossL (n : Int) x y).has a b = (x.getLsbD a && y.getLsbD b) := by
  have hx : ¬ ((n : Int) < 0 ∨ (n : Int) > 64) := by omega
  have hh : ∀ a b, (crossL (n : Int) x y).has a b = (decide (a < n) && x.getLsbD a && (y.getLsbD b && decide (b < n))) := fun a b => by
    rw [← has_row, crossL, if_neg hx, Rl.row_by]
    by_cases c : a < 64
    · rw [if_pos c]
      by_cases d : (a : Int) < n ∧ x.getLsbD a = true
      · rw [if_pos d, BitVec.getLsbD_and, mask_get _ _ (by omega), d.2]
        have : a < n := by omega
        simp only [this, decide_true, Bool.true_and]
        congr 1
        apply decide_eq_decide.2; omega
      · rw [if_neg d]
        have : (decide (a < n) && x.getLsbD a) = false := by
          cases e : x.getLsbD a with
          | false => simp
          | true =>
            have : ¬ a < n := fun h => d ⟨by omega, e⟩
            simp [this]
        rw [this]; simp
    · rw [if_neg c]
      have : ¬ a < n := by omega
      simp [this]
  refine ⟨⟨by rw [crossL, if_neg hx, Rl.n_by], fun a b h => ?_⟩, fun a b ha hb => by rw [hh]; simp [ha, hb]⟩
  rw [hh] at h
  simp at h
  exact ⟨h.1.1, h.2.2⟩

theorem res_wd {n : Nat} (hn : n ≤ 64) {R : Rl} (hR : Wd n R) (x y : BitVec 64) : Wd n (resL R x y) ∧ ∀ a b, a < n → b < n → (resL R x y).has a b = (R.has a b && (x.getLsbD a && y.getLsbD b)) := by
  obtain ⟨h1, h2⟩ := cross_wd hn x y
  have hr := hR.right hn
  have e : resL R x y = meetL R (crossL (n : Int) x y) := by unfold resL meetL; rw [hr, hR.sz]
  obtain ⟨h3, h4⟩ := meet_wd hn hR h1
  rw [e]
  exact ⟨h3, fun a b ha hb => by rw [h4 a b ha hb, h2 a b ha hb]⟩

theorem com_wd {n : Nat} (hn : n ≤ 64) {R S : Rl} (hR : Wd n R) (hS : Wd n S) : Wd n (composeL R S) ∧ ∀ a b, a < n → b < n → (composeL R S).has a b = (List.range 64).any fun c => R.has a c && S.has c b := by
  have h2 := hR.two hn hS
  have hh := compose_has R S
  rw [h2] at hh
  refine ⟨⟨by unfold composeL; rw [cmpF_n, h2]; exact hR.sz, fun a b h => ?_⟩, fun a b _ _ => hh a b⟩
  rw [hh] at h
  obtain ⟨c, _, hc⟩ := List.any_eq_true.1 h
  have hc := Bool.and_eq_true_iff.1 hc
  exact ⟨(hR.below _ _ hc.1).1, (hS.below _ _ hc.2).2⟩

theorem stands_wd (k : Int) (xs : List Ev) : Wd (shortL xs).length (standsL k xs) := by
  refine ⟨stands_n k xs, fun a b h => ?_⟩
  unfold standsL pairsL at h
  rw [Rl.has_gen] at h
  exact atB_lt (Bool.and_eq_true_iff.1 h).2
theorem void_wd (n : Nat) : Wd n (Rl.void (n : Int)) := ⟨by simp [Rl.void], void_below n _⟩
noncomputable def kRf (x : Xn) : Rl := rfL (shortL x.ev).length x.from_
noncomputable def kCo (x : Xn) : Rl := coL (shortL x.ev).length x.ord
noncomputable def kFr (x : Xn) : Rl := frL (shortL x.ev).length (kRf x) (kCo x)
theorem kRf_wd (x : Xn) : Wd (shortL x.ev).length (kRf x) := ⟨rfP_n _ _ _, rfL_below _⟩
theorem kCo_wd (x : Xn) : Wd (shortL x.ev).length (kCo x) := ⟨by unfold kCo coL; rw [coL_n]; rfl, coL_below (shortL_le _) _ _ (void_below _ _)⟩
theorem kFr_wd (x : Xn) : Wd (shortL x.ev).length (kFr x) := ⟨frL_n _ _ _, frL_below (kRf_wd x).below (kCo_wd x).below⟩
end Go.Proofs.YtmammebifhmnhaaDoor

/-
  The world of an execution: how it is made. Own work.
-/
namespace Go.Proofs.YtmammebifhmnhaaDoor
open Go.AM
set_option maxRecDepth 100000

/-- A world: events, four relations, the memory events. -/
structure Wo where
  ev : List Ev
  pe : Option Addr
  ce : Nat
  p : Rl
  r : Rl
  c : Rl
  f : Rl
  m : BitVec 64
def woV (W : Wo) : List Value := .slice W.pe W.ev.length W.ce :: (relV W.p ++ (relV W.r ++ (relV W.c ++ (relV W.f ++ [.int .u64 (un W.m)]))))
theorem woV_len (W : Wo) : (woV W).length = 262 := by simp [woV]
theorem woV_one (W : Wo) : ∀ c ∈ woV W, c.oneCell' = true := fun c hc => by
  simp only [woV, List.mem_cons, List.mem_append, List.not_mem_nil, or_false] at hc
  rcases hc with rfl | h | h | h | h | rfl
  · rfl
  · exact (relV_one' _).2 trivial c h
  · exact (relV_one' _).2 trivial c h
  · exact (relV_one' _).2 trivial c h
  · exact (relV_one' _).2 trivial c h
  · rfl
noncomputable def woX (x : Xn) : Wo := ⟨x.ev, x.pe, x.ce, standsL 1 x.ev, kRf x, kCo x, kFr x, thoseL memB x.ev⟩

set_option maxHeartbeats 1000000 in
theorem look_ok (x : Xn) (w : World) (hX : SeesX w x) (hT : TabAt w) (h0w : 0 < w.heap.size) :
    HandsZ Tryd.prog 22 [encX x] w (.ptr 0 0) [(0, .cells 96 [.vals 262 (woV (woX x))])] := by
  refine HandsZ.of_run Tryd.func22 rfl (by show 1 ≤ 19; decide) ?_
  have hone := xV_one hX.one1 hX.one4
  have hev : ∀ {w'}, Agree (fun _ => False) w w' → SeesV w' x.pe x.ev := fun hA => hX.ev.agree hA (fun _ _ h => h)
  refine RunF_sound tab_ok noX_local 100 [] _ _ rfl ?_ ?_
  · simp
  refine Run.drawA noX_local rfl [] [(0, .cells 28 [.vals 5 (xV x)])] rfl rfl ⟨rfl, trivial⟩ ?_
  refine RunOF_sound tab_ok noX_local rfl rfl 100 [] _ _ rfl ?_ ?_
  · simp
  refine RunO.callFn (r := encRel (standsL 1 x.ev)) noX_local rfl rfl rfl rfl rfl rfl rfl rfl po_enters rfl (fun w' hA => by have := po_ok x.pe x.ce x.ev w' (hev hA); rw [eqPo] at this; exact this) ?_
  refine RunOF_sound tab_ok noX_local rfl rfl 100 [] _ _ rfl ?_ ?_
  · simp
  refine RunO.callFn (r := encRel (kRf x)) noX_local rfl rfl rfl rfl rfl rfl rfl rfl rf_enters rfl (fun w' hA => rf_ok x w' (hX.agree hA)) ?_
  refine RunOF_sound tab_ok noX_local rfl rfl 100 [] _ _ rfl ?_ ?_
  · simp
  refine RunO.callFn (r := encRel (kCo x)) noX_local rfl rfl rfl rfl rfl rfl rfl rfl co_enters rfl (fun w' hA => co_ok x w' (hX.agree hA)) ?_
  refine RunOF_sound tab_ok noX_local rfl rfl 100 [] _ _ rfl ?_ ?_
  · simp
  refine RunO.callFn (r := encRel (kFr x)) noX_local rfl rfl rfl rfl rfl rfl rfl rfl fr_enters rfl (fun w' hA => fr_ok x w' (hX.agree hA) (hT.agree hA (fun f => f)) (Nat.lt_of_lt_of_le h0w hA.size)) ?_
  refine RunOF_sound tab_ok noX_local rfl rfl 100 [] _ _ rfl ?_ ?_
  · simp
  refine RunO.callFn (r := .int .u64 (un (thoseL memB x.ev))) noX_local rfl rfl rfl rfl rfl rfl rfl rfl memorySet_enters rfl (fun w' hA => memorySet_ok x.pe x.ce x.ev w' (hev hA)) ?_
  have hW : woX x = ⟨x.ev, x.pe, x.ce, standsL 1 x.ev, kRf x, kCo x, kFr x, thoseL memB x.ev⟩ := rfl
  rw [hW]
  generalize standsL 1 x.ev = A1 at *
  generalize kRf x = A2 at *
  generalize kCo x = A3 at *
  generalize kFr x = A4 at *
  generalize thoseL memB x.ev = A5 at *
  refine RunOF_sound tab_ok noX_local rfl rfl 100 [] _ _ rfl ?_ ?_
  · simp
  refine RunO.build (p := True) (z := .v (.agg (woV ⟨x.ev, x.pe, x.ce, A1, A2, A3, A4, A5⟩).toArray)) tab_ok rfl rfl rfl rfl ?_ rfl rfl trivial ?_
  · refine congrArg some (Prod.ext (propext ⟨fun _ => trivial, fun _ => ?_⟩) ?_)
    · simp [fillL, splice, Value.cells, encRel, show tab.size 34 = some 65 from rfl, show tab.size 44 = some 1 from rfl, show tab.size 22 = some 1 from rfl, show z96.length = 262 from rfl]
    · simp [fillL, splice, Value.cells, encRel, show tab.size 34 = some 65 from rfl, show tab.size 44 = some 1 from rfl, show tab.size 22 = some 1 from rfl, show z96.length = 262 from rfl]
      simp [List.take_append, List.drop_append, List.take_of_length_le, List.drop_of_length_le, woV, show z96.length = 262 from rfl]
  have hl := woV_len ⟨x.ev, x.pe, x.ce, A1, A2, A3, A4, A5⟩
  have h1 := woV_one ⟨x.ev, x.pe, x.ce, A1, A2, A3, A4, A5⟩
  generalize woV ⟨x.ev, x.pe, x.ce, A1, A2, A3, A4, A5⟩ = WV at *
  refine RunOF_sound tab_ok noX_local rfl rfl 100 [] _ _ rfl ?_ ?_
  · simp [inT, hl]
    rfl
  refine RunO.done ?_
  refine RunF_sound tab_ok noX_local 100 [] _ _ rfl ?_ ?_
  · simp
  refine Run.retH tab_ok [(0, 1)] Tryd.func22 rfl trivial rfl ⟨rfl, trivial⟩ rfl
theorem look_enters : Enters Tryd.prog 22 := enters_mk Tryd.func22 (by decide) rfl
end Go.Proofs.YtmammebifhmnhaaDoor

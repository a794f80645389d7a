/-
  Relations row by row: On, Edges, two, Minus, Inverse, Compose: taken over from the texts of layer 2 by a program of our own (tools/closure.py). Own work.
-/
import Derived.Test.YtehimiadpgbhmaaDoorV0
import Derived.Test.YtehimiadpgbhmaaDoorAM18
namespace Go.AM
/-- All pairs from one set to another. -/
def crossL (n : Int) (from_ to : BitVec 64) : Rl :=
  if n < 0 ∨ n > 64 then Rl.void 0 else Rl.by_ n fun i => if (i : Int) < n ∧ from_.getLsbD i then to &&& mask n else 0#64

/-- Its beginning. -/
def crossP (n : Int) (from_ to : BitVec 64) (k : Nat) : Rl := Rl.by_ n fun i => if i < k ∧ from_.getLsbD i then to &&& mask n else 0#64

theorem crossP_end {n : Int} {from_ to : BitVec 64} {k : Nat} (h0 : ¬ n < 0) (h1 : ¬ n > 64) (h : (k : Int) = n) : crossP n from_ to k = crossL n from_ to := by
  rw [crossL, if_neg (by omega), crossP]
  exact Rl.by_congr fun i _ => by
    have : (i < k ∧ from_.getLsbD i = true) ↔ ((i : Int) < n ∧ from_.getLsbD i = true) := by
      constructor <;> rintro ⟨h2, h3⟩ <;> exact ⟨by omega, h3⟩
    simp only [this]

theorem crossP_yes {n : Int} {from_ to : BitVec 64} {k : Nat} (h : from_.getLsbD k = true) : (crossP n from_ to k).setRow k (to &&& mask n) = crossP n from_ to (k + 1) := by
  rw [crossP, Rl.set_by, crossP]
  exact Rl.by_congr fun i _ => by
    by_cases e : k = i
    · subst e; simp [h]
    · have : (i < k + 1) ↔ i < k := by omega
      simp only [this, e, if_false]

theorem crossP_no {n : Int} {from_ to : BitVec 64} {k : Nat} (h : ¬ from_.getLsbD k = true) : crossP n from_ to k = crossP n from_ to (k + 1) := by
  rw [crossP, crossP]
  exact Rl.by_congr fun i _ => by
    by_cases e : k = i
    · subst e; simp [h]
    · have : (i < k + 1) ↔ i < k := by omega
      simp only [this]

theorem crossP_0 (n : Int) (from_ to : BitVec 64) : crossP n from_ to 0 = Rl.void n := by
  rw [crossP, Rl.void_by]
  exact Rl.by_congr fun i _ => by simp

end Go.AM

namespace Go.Proofs.YtehimiadpgbhmaaDoor
open Go.AM
set_option maxRecDepth 100000

theorem cross_ok (n : Int) (x y : BitVec 64) (w : World) : Gives Tryd.prog 47 [.int .i64 n, .int .u64 (un x), .int .u64 (un y)] w (encRel (crossL n x y)) := by
  refine Gives.of_run Tryd.func47 rfl (by show 3 ≤ 36; decide) ?_
  by_cases h1 : n < 0
  · refine RunF_sound tab_ok noX_local 100 [true, true] _ _ rfl ?_ ?_
    · simp [h1, fillL, Value.cells, segsVals, relV_one']
    · refine Run.retP tab_ok Tryd.func47 rfl ?_ (fun M => ?_)
      · simp [fillL, Value.cells]
      rw [crossL, if_pos (.inl h1)]; rfl
  by_cases h2 : n > 64
  · refine RunF_sound tab_ok noX_local 100 [false, true] _ _ rfl ?_ ?_
    · simp [fillL, Value.cells, segsVals, relV_one']; omega
    · refine Run.retP tab_ok Tryd.func47 rfl ?_ (fun M => ?_)
      · simp [fillL, Value.cells]
      rw [crossL, if_pos (.inr h2)]; rfl
  refine RunF_sound tab_ok noX_local 100 [false, false] _ _ rfl ?_ ?_
  · simp [fillL, Value.cells, segsVals, relV_one']; omega
  suffices H : ∀ (d k : Nat), (k : Int) + d = n → ∀ σ, inT σ.t [(0, .v (.int .i64 n)), (1, .v (.int .u64 (un x))), (2, .v (.int .u64 (un y))), (6, .ptr 0 0), (7, .ptr 1 0), (18, .v (.int .i64 n)), (19, .v (.int .i64 (k : Int)))] →
      inT σ.h [(0, .cells 32 [.vals 65 (relV (Rl.void 0))]), (1, .cells 32 [.vals 65 (relV (crossP n x y k))])] → Run _ _ σ by
    refine H n.toNat 0 (by omega) _ ⟨rfl, rfl, rfl, rfl, rfl, rfl, rfl, trivial⟩ ⟨rfl, ?_, trivial⟩
    rw [crossP_0]
    rfl
  intro d
  induction d with
  | zero =>
    intro k hk σ ht hh
    refine Run.to ?_ ht hh (n' := 2)
    refine RunF_sound tab_ok noX_local 100 [false] _ _ rfl ?_ ?_
    · simp [relV_one', segsVals]; omega
    · refine Run.retP tab_ok Tryd.func47 rfl ?_ (fun M => ?_)
      · simp
      rw [← crossP_end h1 h2 (k := k) (by omega)]; rfl
  | succ d ih =>
    intro k hk σ ht hh
    refine Run.to ?_ ht hh (n' := 2)
    have hk' : k < 64 := by omega
    by_cases c : x.getLsbD k = true
    · have c' := (bit_iff x k).2 c
      refine RunF_sound tab_ok noX_local 100 [true, true] _ _ rfl ?_ ?_
      · simp [band1_un, c']; omega
      refine Run.callFn noX_local rfl rfl rfl rfl rfl rfl rfl whole_enters rfl (fun w' _ => whole_ok n w' (by omega)) ?_
      refine RunF_sound tab_ok noX_local 100 [] _ _ rfl ?_ ?_
      · simp [okCell, Value.oneCell']; omega
      refine ih (k + 1) (by omega) _ ⟨rfl, rfl, rfl, rfl, rfl, rfl, i64_eq (wrap_succ (by omega)), trivial⟩ ⟨rfl, congrArg (fun l => some (Blk.cells 32 [.vals 65 l])) ?_, trivial⟩
      rw [band_un]
      simp [relV_set _ _ hk', crossP_yes c]
    · have c' : ¬ (x >>> k &&& 1#64) = 1#64 := fun h => c ((bit_iff x k).1 h)
      refine RunF_sound tab_ok noX_local 100 [true, false] _ _ rfl ?_ ?_
      · simp [band1_un, c']; omega
      exact ih (k + 1) (by omega) _ ⟨rfl, rfl, rfl, rfl, rfl, rfl, i64_eq (wrap_succ (by omega)), trivial⟩ ⟨rfl, by rw [← crossP_no c]; rfl, trivial⟩

theorem cross_enters : Enters Tryd.prog 47 := enters_mk Tryd.func47 (by decide) rfl

/-- Each number of a set to itself. -/
def onP (n : Int) (s : BitVec 64) (k : Nat) : Rl := Rl.by_ n fun i => if (i : Int) < n ∧ s.getLsbD i then (if i < k then 1#64 <<< i else s &&& mask n) else 0#64

def onL (n : Int) (s : BitVec 64) : Rl := if n < 0 ∨ n > 64 then Rl.void 0 else Rl.by_ n fun i => if (i : Int) < n ∧ s.getLsbD i then 1#64 <<< i else 0#64

theorem onP_0 {n : Int} {s : BitVec 64} (h0 : ¬ n < 0) (h1 : ¬ n > 64) : crossL n s s = onP n s 0 := by
  rw [crossL, if_neg (by omega), onP]
  exact Rl.by_congr fun i _ => by simp

theorem onP_end {n : Int} {s : BitVec 64} {k : Nat} (h0 : ¬ n < 0) (h1 : ¬ n > 64) (h : (k : Int) = n) : onP n s k = onL n s := by
  rw [onL, if_neg (by omega), onP]
  refine Rl.by_congr fun i _ => ?_
  by_cases c : (i : Int) < n ∧ s.getLsbD i = true
  · rw [if_pos c, if_pos c, if_pos (by omega)]
  · rw [if_neg c, if_neg c]

theorem and_bit (x : BitVec 64) (i : Nat) (h : i < 64) (hx : x.getLsbD i = true) : x &&& 1#64 <<< i = 1#64 <<< i := by
  apply BitVec.eq_of_getLsbD_eq
  intro j hj
  simp only [BitVec.getLsbD_and, BitVec.getLsbD_shiftLeft, BitVec.getLsbD_one]
  by_cases e : j = i
  · subst e; simp [hx]
  · by_cases hlt : j < i
    · simp [hlt]
    · have : ¬ (j - i = 0) := by omega
      simp [this]

theorem onP_row {n : Int} {s : BitVec 64} {k : Nat} (hk : k < 64) : (onP n s k).row k = if (k : Int) < n ∧ s.getLsbD k then s &&& mask n else 0#64 := by
  rw [onP, Rl.row_by, if_pos hk]
  simp

theorem onP_step {n : Int} {s : BitVec 64} {k : Nat} (hk : k < 64) (h0 : (k : Int) < n) : (onP n s k).setRow k ((onP n s k).row k &&& 1#64 <<< k) = onP n s (k + 1) := by
  rw [onP_row hk, onP, Rl.set_by, onP]
  refine Rl.by_congr fun i hi => ?_
  by_cases e : k = i
  · subst e
    by_cases c : s.getLsbD k = true
    · rw [if_pos rfl, if_pos ⟨h0, c⟩, if_pos ⟨h0, c⟩, if_pos (Nat.lt_succ_self _)]
      refine and_bit _ _ hk ?_
      rw [BitVec.getLsbD_and, c, mask_get n k (by omega)]
      simp; omega
    · simp [c]
  · have : (i < k + 1) ↔ i < k := by omega
    simp only [this, e, if_false]

theorem crossL_bad {n : Int} {x y : BitVec 64} (h : n < 0 ∨ n > 64) : crossL n x y = Rl.void 0 := by rw [crossL, if_pos h]

theorem on_ok (n : Int) (x : BitVec 64) (w : World) : Gives Tryd.prog 28 [.int .i64 n, .int .u64 (un x)] w (encRel (onL n x)) := by
  refine Gives.of_run Tryd.func28 rfl (by show 2 ≤ 27; decide) ?_
  refine RunF_sound tab_ok noX_local 100 [] _ _ rfl ?_ ?_
  · simp
  refine Run.callFn noX_local rfl rfl rfl rfl rfl rfl rfl cross_enters rfl (fun w' _ => cross_ok n x x w') ?_
  by_cases hb : n < 0 ∨ n > 64
  · rw [crossL_bad hb]
    refine RunF_sound tab_ok noX_local 100 [] _ _ rfl ?_ ?_
    · simp [segsVals, relV_one']
    refine RunF_sound tab_ok noX_local 100 [false] _ _ rfl ?_ ?_
    · simp [segsVals, relV_one', Rl.void]
    · refine Run.retP tab_ok Tryd.func28 rfl ?_ (fun M => ?_)
      · simp
      rw [onL, if_pos hb]; rfl
  have h1 : ¬ n < 0 := by omega
  have h2 : ¬ n > 64 := by omega
  rw [onP_0 h1 h2]
  refine RunF_sound tab_ok noX_local 100 [] _ _ rfl ?_ ?_
  · simp [segsVals, relV_one']
  suffices H : ∀ (d k : Nat), (k : Int) + d = n → ∀ σ, inT σ.t [(4, .ptr 0 0), (5, .ptr 1 0), (12, .v (.int .i64 n)), (13, .v (.int .i64 (k : Int)))] →
      inT σ.h [(0, .cells 32 [.vals 65 (relV (Rl.void 0))]), (1, .cells 32 [.vals 65 (relV (onP n x k))])] → Run _ _ σ by
    exact H n.toNat 0 (by omega) _ ⟨rfl, rfl, rfl, rfl, trivial⟩ ⟨rfl, rfl, trivial⟩
  intro d
  induction d with
  | zero =>
    intro k hk σ ht hh
    refine Run.to ?_ ht hh (n' := 2)
    refine RunF_sound tab_ok noX_local 100 [false] _ _ rfl ?_ ?_
    · simp [relV_one', segsVals]; omega
    · refine Run.retP tab_ok Tryd.func28 rfl ?_ (fun M => ?_)
      · simp
      rw [← onP_end h1 h2 (k := k) (by omega)]; rfl
  | succ d ih =>
    intro k hk σ ht hh
    refine Run.to ?_ ht hh (n' := 2)
    have hk' : k < 64 := by omega
    refine RunF_sound tab_ok noX_local 100 [true] _ _ rfl ?_ ?_
    · simp; omega
    refine Run.drawA noX_local rfl [3] [] rfl rfl trivial ?_
    refine RunOF_sound tab_ok noX_local rfl rfl 100 [] _ _ rfl ?_ ?_
    · simp [relV_get _ _ hk', intAt_row _ _ hk', okCell, Value.oneCell', inT]; omega
    refine RunO.done ?_
    refine RunF_sound tab_ok noX_local 100 [] _ _ rfl ?_ ?_
    · simp
    refine ih (k + 1) (by omega) _ ⟨rfl, rfl, rfl, i64_eq (wrap_succ (by omega)), trivial⟩ ⟨rfl, congrArg (fun l => some (Blk.cells 32 [.vals 65 l])) ?_, trivial⟩
    simp [intAt_row _ _ hk', shl1_un, relV_set _ _ hk', onP_step hk' (show (k : Int) < n by omega)]

theorem on_enters : Enters Tryd.prog 28 := enters_mk Tryd.func28 (by decide) rfl

/-- A slice of pairs, as it lies in a world. -/
def SeesE (w : World) (p : Option Addr) (xs : List (Int × Int)) : Prop :=
  ∀ i (h : i < xs.length), p = some (p.getD default) ∧ extCells w ((p.getD default).add (i * 2)) 0 2 = [.int .i64 xs[i].1, .int .i64 xs[i].2] ∧ ∀ j, j < 2 → (w.cell? (((p.getD default).add (i * 2)).add j)).isSome

theorem SeesE.agree {S : Nat → Prop} {w w' : World} {p : Option Addr} {xs : List (Int × Int)} (h : SeesE w p xs) (hA : Agree S w w') (hS : ∀ a, p = some a → ¬ S a.block) : SeesE w' p xs := by
  intro i hi
  obtain ⟨h1, h2, h3⟩ := h i hi
  have hb : ∀ j, w'.cell? (((p.getD default).add (i * 2)).add j) = w.cell? (((p.getD default).add (i * 2)).add j) ∨ w.cell? (((p.getD default).add (i * 2)).add j) = none := by
    intro j
    cases hc : w.cell? (((p.getD default).add (i * 2)).add j) with
    | none => exact .inr rfl
    | some x => exact .inl (hA.cell hc (by rw [add_block, add_block]; exact hS _ h1))
  have hs : ∀ j, j < 2 → w'.cell? (((p.getD default).add (i * 2)).add j) = w.cell? (((p.getD default).add (i * 2)).add j) := by
    intro j hj
    rcases hb j with h | h
    · exact h
    · have := h3 j hj; rw [h] at this; cases this
  refine ⟨h1, ?_, fun j hj => by rw [hs j hj]; exact h3 j hj⟩
  rw [← h2]
  simp only [extCells, hs 0 (by omega), hs (0 + 1) (by omega)]

@[simp] theorem intAt_p0 (a b : Int) : intAt [.int .i64 a, .int .i64 b] 0 = a := rfl

@[simp] theorem intAt_p1 (a b : Int) : intAt [.int .i64 a, .int .i64 b] 1 = b := rfl

@[simp] theorem one_int (k : IntKind) (n : Int) : (Value.int k n).oneCell' = true := rfl

@[simp] theorem zedge : z83 = [.int .i64 0, .int .i64 0] := rfl

/-- The table of math/bits as its initialiser lays it. -/
def TabAt (w : World) : Prop := ∀ j, j < 64 → w.cell? ⟨0, j, none⟩ = some (.int .u8 ((Go.Lib.deBruijn64tab.getD j 0 : Nat) : Int))

theorem TabAt.agree {S : Nat → Prop} {w w' : World} (h : TabAt w) (hA : Agree S w w') (hS : ¬ S 0) : TabAt w' := fun j hj => hA.cell (h j hj) hS

def tzI (x : BitVec 64) : Int := if x = 0#64 then 64 else (tz x : Int)

theorem neg_un (x : BitVec 64) : IntKind.u64.wrap (0 - un x) = un (-x) := by
  have := sub_un 0#64 x
  rw [show un 0#64 - un x = 0 - un x by simp [un]] at this
  rw [this]; simp

theorem low_bit (x : BitVec 64) (h : x ≠ 0#64) : x &&& -x = 1#64 <<< tz x := by
  have h0 : x.toNat ≠ 0 := fun e => h (BitVec.eq_of_toNat_eq (by simpa using e))
  obtain ⟨h1, h2⟩ := Go.Lib.lowest_bit 64 x.toNat h0 x.isLt
  have hk := tz_lt x h
  apply BitVec.eq_of_toNat_eq
  rw [BitVec.toNat_and, BitVec.toNat_neg, BitVec.toNat_shiftLeft]
  have h3 : (1#64).toNat = 1 := rfl
  rw [h3, Nat.shiftLeft_eq, Nat.one_mul, Nat.mod_eq_of_lt (show 2 ^ 64 - x.toNat < 2 ^ 64 by omega), h1]
  show 2 ^ tz x = _
  rw [Nat.mod_eq_of_lt (Nat.pow_lt_pow_right (by decide) hk)]

theorem tz_key (x : BitVec 64) (h : x ≠ 0#64) : ∃ idx : Nat, idx < 64 ∧ Go.Lib.deBruijn64tab.getD idx 0 = tz x ∧
    shrI .u64 (IntKind.u64.wrap (band .u64 (un x) (IntKind.u64.wrap (0 - un x)) * 285870213051353865)) 58 = (idx : Int) := by
  have hk := tz_lt x h
  obtain ⟨hi, htab⟩ := Go.Lib.deBruijn64_at (tz x) hk
  refine ⟨_, hi, htab, ?_⟩
  rw [neg_un, band_un, low_bit x h, show (285870213051353865 : Int) = un 285870213051353865#64 from rfl, mul_un, shr_un]
  unfold un
  rw [BitVec.toNat_ushiftRight, Nat.shiftRight_eq_div_pow, BitVec.toNat_mul, BitVec.toNat_shiftLeft, Nat.shiftLeft_eq]
  simp only [BitVec.toNat_ofNat, Nat.reducePow, Nat.reduceMod, Nat.one_mul, show Int.toNat 58 = 58 from rfl]
  have e : 2 ^ tz x % 18446744073709551616 = 2 ^ tz x := Nat.mod_eq_of_lt (by have := Nat.pow_lt_pow_right (a := 2) (by decide) hk; simpa using this)
  rw [e]

theorem tz_ok0 (w : World) : Gives Tryd.prog 54 [.int .u64 (un 0#64)] w (.int .i64 64) := by
  refine Gives.of_run Tryd.func54 rfl (by show 1 ≤ 14; decide) ?_
  refine RunF_sound tab_ok noX_local 100 [true] _ _ rfl ?_ ?_
  · simp [un]
  · exact Run.retP tab_ok Tryd.func54 rfl trivial (fun M => rfl)

theorem addr_idx (idx : Nat) : (⟨0, 0, none⟩ : Addr).add ((idx : Int).toNat * 1) = ⟨0, idx, none⟩ := by rw [add_lit']; simp

theorem tz_okp (y : Int) (idx : Nat) (k : Nat) (hy : y ≠ 0) (hi : idx < 64) (hk : k < 64) (w : World) (hc : w.cell? ⟨0, idx, none⟩ = some (.int .u8 (k : Int)))
    (key : shrI .u64 (IntKind.u64.wrap (band .u64 y (IntKind.u64.wrap (0 - y)) * 285870213051353865)) 58 = (idx : Int)) :
    Gives Tryd.prog 54 [.int .u64 y] w (.int .i64 (k : Int)) := by
  refine Gives.of_run Tryd.func54 rfl (by show 1 ≤ 14; decide) ?_
  refine RunF_sound tab_ok noX_local 100 [false] _ _ rfl ?_ ?_
  · rw [key, addr_idx, fnC_w0, hc]
    simp [hy]
    omega
  · rw [key, addr_idx, fnC_w0, hc]
    refine Run.retP tab_ok Tryd.func54 rfl trivial (fun M => ?_)
    simp only []
    rw [wrap_i64 (by omega) (by omega)]
    rfl

theorem tz_ok (x : BitVec 64) (w : World) (hT : TabAt w) : Gives Tryd.prog 54 [.int .u64 (un x)] w (.int .i64 (tzI x)) := by
  by_cases h : x = 0#64
  · subst h
    exact tz_ok0 w
  · obtain ⟨idx, hi, htab, key⟩ := tz_key x h
    have hc := hT idx hi
    rw [htab] at hc
    have := tz_okp (un x) idx (tz x) (by simpa using h) hi (tz_lt x h) w hc key
    rw [tzI, if_neg h]; exact this

theorem tz_enters : Enters Tryd.prog 54 := enters_mk Tryd.func54 (by decide) rfl

/-- The pairs from a number on. -/
def restL (r : Rl) : Nat → Nat → List (Int × Int)
  | _, 0 => []
  | i, d + 1 => (bitsL (r.row i)).map (fun b : Nat => ((i : Int), (b : Int))) ++ restL r (i + 1) d

/-- The pairs of a right relation, in order. -/
def edgesL (r : Rl) : List (Int × Int) := restL r 0 r.n.toNat

/-- A relation that lies whole in a block. -/
def RelAt (w : World) (b : Nat) (r : Rl) : Prop := ∀ q x, (relV r)[q]? = some x → w.cell? ⟨b, q, none⟩ = some x

def encEd (e : Int × Int) : List Value := [.agg #[.int .i64 e.1, .int .i64 e.2]]

/-- What an iterator over pairs hands over. -/
def encEs (l : List (Int × Int)) : List (List Value) := l.map encEd

/-- The iterator's blocks: the table's, the relation's. -/
def edgesK (b : Nat) : Nat → Prop := fun k => k = 0 ∨ k = b

theorem RelAt.agree {S : Nat → Prop} {w w' : World} {b : Nat} {r : Rl} (h : RelAt w b r) (hA : Agree S w w') (hS : ¬ S b) : RelAt w' b r := fun q x hq => hA.cell (h q x hq) hS

theorem bits_restL (r : Rl) (i d : Nat) (y : BitVec 64) (hy : y ≠ 0#64) (tail : List (Int × Int)) :
    (bitsL y).map (fun b : Nat => ((i : Int), (b : Int))) ++ tail = ((i : Int), (tz y : Int)) :: ((bitsL (dropLow y)).map (fun b : Nat => ((i : Int), (b : Int))) ++ tail) := by
  rw [bitsL_cons y hy]; rfl

theorem edges_iter (r : Rl) (hn : 0 ≤ r.n ∧ r.n ≤ 64) (b : Nat) (w0 : World) (hb : RelAt w0 b r) (hT : TabAt w0) :
    Iter Tryd.prog 53 [.pointer (some ⟨b, 0, none⟩)] (edgesK b) w0 (encEs (edgesL r)) := by
  refine Iter.of_run Tryd.func53 rfl (by show 2 ≤ 28; decide) ?_
  intro y J Js w fp hJ hJs hy hag hfp R hR
  have hbw : RelAt w b r := hb.agree hag (fun h => h (.inr rfl))
  have hTw : TabAt w := hT.agree hag (fun h => h (.inl rfl))
  have hf0 : ¬ fp 0 := fun h => hfp 0 h (.inl rfl)
  have hfb : ¬ fp b := fun h => hfp b h (.inr rfl)
  have c0 : w.cell? ⟨b, 0, none⟩ = some (.int .i64 r.n) := hbw 0 _ rfl
  have hres : (Tryd.f53).results = #[] := rfl
  refine RunF_sound tab_ok (hJ []) 100 [] _ _ rfl ?_ ?_
  · simp only [fnC_w0, fnC_S0, add_lit', Nat.zero_add, c0]
    simp [hfb]
  simp only [fnC_w0, add_lit', Nat.zero_add, c0]
  -- the outer loop
  suffices H : ∀ (d i : Nat) (pre : List (List Value)), (i : Int) + d = r.n → pre ++ encEs (restL r i d) = encEs (edgesL r) →
      ∀ σ, inT σ.t [(0, .v y), (1, .v (.pointer (some ⟨b, 0, none⟩))), (6, .v (.int .i64 r.n)), (7, .v (.int .i64 (i : Int)))] → inT σ.h [] →
        Run (fnC Tryd.prog 53 (Tryd.f53).ntmps w fp (J pre) R) _ σ by
    exact H r.n.toNat 0 [] (by omega) rfl _ ⟨rfl, rfl, rfl, rfl, trivial⟩ trivial
  intro d
  induction d with
  | zero =>
    intro i pre hi hp σ ht hh
    refine Run.to ?_ ht hh (n' := 0)
    refine RunF_sound tab_ok (hJ pre) 100 [false] _ _ rfl ?_ ?_
    · simp; omega
    · refine Run.finI Tryd.func53 hres fun v w' fp' hg hX => hR v w' fp' pre hg (.inl ⟨?_, hX⟩)
      simpa [restL, encEs] using hp
  | succ d ih =>
    intro i pre hi hp σ ht hh
    refine Run.to ?_ ht hh (n' := 0)
    have hi' : i < 64 := by omega
    have c1 : w.cell? ⟨b, 1 + i, none⟩ = some (.int .u64 (un (r.row i))) := hbw _ _ (relV_get r i hi')
    refine RunF_sound tab_ok (hJ pre) 100 [true] _ _ rfl ?_ ?_
    · simp only [fnC_w0, fnC_S0, add_lit', Nat.zero_add, Int.toNat_natCast, Nat.mul_one, c1]
      simp [hfb]; omega
    simp only [fnC_w0, add_lit', Nat.zero_add, Int.toNat_natCast, Nat.mul_one, c1]
    -- the inner loop
    suffices H2 : ∀ (m : Nat) (x : BitVec 64) (pre : List (List Value)), (bitsL x).length = m → pre ++ encEs ((bitsL x).map (fun b : Nat => ((i : Int), (b : Int))) ++ restL r (i + 1) d) = encEs (edgesL r) →
        ∀ σ, inT σ.t [(0, .v y), (1, .v (.pointer (some ⟨b, 0, none⟩))), (6, .v (.int .i64 r.n)), (7, .v (.int .i64 (i : Int))), (3, .v (.int .i64 (i : Int))), (4, .v (.int .u64 (un x)))] → inT σ.h [] →
          Run (fnC Tryd.prog 53 (Tryd.f53).ntmps w fp (J pre) R) _ σ by
      exact H2 _ (r.row i) pre rfl hp _ ⟨rfl, rfl, rfl, rfl, rfl, rfl, trivial⟩ trivial
    intro m
    induction m with
    | zero =>
      intro x pre hm hp σ ht hh
      refine Run.to ?_ ht hh (n' := 0)
      have hx : x = 0#64 := by
        by_cases h : x = 0#64
        · exact h
        · rw [bitsL_cons x h] at hm; cases hm
      refine RunF_sound tab_ok (hJ pre) 100 [false] _ _ rfl ?_ ?_
      · simp [hx]
      refine ih (i + 1) pre (by omega) ?_ _ ⟨rfl, rfl, rfl, i64_eq (wrap_succ (by omega)), trivial⟩ trivial
      have : bitsL x = [] := List.length_eq_zero_iff.1 hm
      rw [this] at hp; exact hp
    | succ m ihm =>
      intro x pre hm hp σ ht hh
      refine Run.to ?_ ht hh (n' := 0)
      have hx : x ≠ 0#64 := fun h => by rw [h, bitsL_zero] at hm; cases hm
      refine RunF_sound tab_ok (hJ pre) 100 [true] _ _ rfl ?_ ?_
      · simp [hx]
      refine Run.callFn (hJ pre) rfl rfl rfl rfl rfl rfl rfl tz_enters rfl (fun w' hw' => tz_ok x w' (hTw.agree hw' hf0)) ?_
      have htz : tzI x = (tz x : Int) := by rw [tzI, if_neg hx]
      rw [bits_restL r i d x hx] at hp
      have hp' : (pre ++ [encEd ((i : Int), (tz x : Int))]) ++ encEs ((bitsL (dropLow x)).map (fun b : Nat => ((i : Int), (b : Int))) ++ restL r (i + 1) d) = encEs (edgesL r) := by
        rw [← hp]; simp [encEs]
      have hpx : pre ++ [encEd ((i : Int), (tz x : Int))] <+: encEs (edgesL r) := ⟨_, hp'⟩
      refine RunF_sound tab_ok (hJ pre) 100 [] _ _ rfl ?_ ?_
      · simp [fillL, Value.cells, splice]
      refine Run.yield (J := J) (Js := Js) rfl (hy pre _ hpx) rfl rfl rfl rfl rfl ?_ rfl rfl ?_ ?_
      · rw [htz]; rfl
      · refine RunF_sound tab_ok (hJ _) 100 [false] _ _ rfl ?_ ?_
        · simp
        refine ihm (dropLow x) _ ?_ hp' _ ⟨rfl, rfl, rfl, rfl, rfl, ?_, trivial⟩ trivial
        · rw [bitsL_cons x hx] at hm; simpa using hm
        · refine u64_eq ?_
          rw [sub1_un, band_un]; rfl
      · refine RunF_sound tab_ok (hJs _) 100 [true] _ _ rfl ?_ ?_
        · simp
        exact Run.retI Tryd.func53 hres fun v w' fp' hg hX => hR v w' fp' _ hg (.inr ⟨hpx, hX⟩)

theorem edgesIt_enters : Enters Tryd.prog 53 := enters_mk Tryd.func53 (by decide) rfl

/-- The iterator over a relation's pairs, as a value. -/
def edgesF (b : Nat) : Value := .func (.func 53) #[] #[.pointer (some ⟨b, 0, none⟩)]

theorem edges_ok (r : Rl) (w : World) : Makes Tryd.prog 45 [encRel r] w (fun v w' => ∃ b, v = edgesF b ∧ w.heap.size ≤ b ∧ RelAt w' b (rightL r)) := by
  refine Makes.of_run Tryd.func45 rfl (by show 1 ≤ 6; decide) ?_
  refine RunF_sound tab_ok noX_local 100 [] _ _ rfl ?_ ?_
  · simp
  refine Run.callFn noX_local rfl rfl rfl rfl rfl rfl rfl right_enters rfl (fun w' _ => right_ok r w') ?_
  refine RunF_sound tab_ok noX_local 100 [] _ _ rfl ?_ ?_
  · simp [segsVals, relV_one']
  refine Run.ret tab_ok Tryd.func45 rfl trivial fun M fp a w' hr => ⟨hr.agree, (M 0).1, rfl, ?_, ?_⟩
  · rcases Nat.lt_or_ge (M 0).1 w.heap.size with h | h
    · exact (hr.own 0 _ rfl h).elim
    · exact h
  · intro q x hq
    have hb : BlkAt M w' 0 (.cells 32 [.vals 65 (relV (rightL r))]) := hr.heap 0 _ rfl
    have := vals_cells hb (off := 0) (s0 := 0) rfl q x hq
    rwa [Nat.zero_add] at this

theorem edges_enters : Enters Tryd.prog 45 := enters_mk Tryd.func45 (by decide) rfl

/-! ### The reference's -/

theorem encEs_next {E : List (Int × Int)} {k : Nat} (hk : k ≤ E.length) {x : List Value} (h : encEs (E.take k) ++ [x] <+: encEs E) : ∃ hlt : k < E.length, x = encEd E[k] := by
  have hl := h.length_le
  simp only [encEs, List.length_append, List.length_map, List.length_take, List.length_singleton] at hl
  have hlt : k < E.length := by omega
  refine ⟨hlt, ?_⟩
  obtain ⟨t, ht⟩ := h
  have := congrArg (fun l => l[k]?) ht
  simp only [encEs] at this
  rw [List.append_assoc, List.getElem?_append_right (by simp; omega)] at this
  simp [Nat.min_eq_left hk, hlt] at this
  exact this

theorem encEs_succ {E : List (Int × Int)} {k : Nat} (hlt : k < E.length) : encEs (E.take k) ++ [encEd E[k]] = encEs (E.take (k + 1)) := by
  rw [List.take_succ_eq_append_getElem hlt, encEs, encEs, List.map_append]; rfl

theorem encEs_all {E : List (Int × Int)} {k : Nat} (hk : k ≤ E.length) (h : encEs E = encEs (E.take k)) : k = E.length := by
  have := congrArg List.length h
  simp only [encEs, List.length_map, List.length_take] at this
  omega

open Classical in
/-- Two relations over the same numbers, or two void ones. -/
noncomputable def twoL (r s : Rl) : Rl × Rl := if (rightL r).n = (rightL s).n then (rightL r, rightL s) else (Rl.void 0, Rl.void 0)

theorem rightL_void : rightL (Rl.void 0) = Rl.void 0 := by
  refine rightL_of _ ?_
  unfold checkI
  rw [if_neg (by simp [Rl.void]), if_pos good_void]

theorem twoL_n (r s : Rl) : (twoL r s).1.n = (twoL r s).2.n := by
  unfold twoL; split
  · assumption
  · rfl

theorem twoL_right (r s : Rl) : rightL (twoL r s).1 = (twoL r s).1 ∧ rightL (twoL r s).2 = (twoL r s).2 := by
  unfold twoL; split
  · exact ⟨rightL_idem _, rightL_idem _⟩
  · exact ⟨rightL_void, rightL_void⟩

theorem two_ok (r s : Rl) (w : World) : Gives Tryd.prog 44 [encRel r, encRel s] w (.tuple #[encRel (twoL r s).1, encRel (twoL r s).2]) := by
  refine Gives.of_run Tryd.func44 rfl (by show 2 ≤ 19; decide) ?_
  refine RunF_sound tab_ok noX_local 100 [] _ _ rfl ?_ ?_
  · simp
  refine Run.drawA noX_local rfl [0] [(1, .cells 32 [.vals 65 (relV s)])] rfl rfl ⟨rfl, trivial⟩ ?_
  refine RunOF_sound tab_ok noX_local rfl rfl 200 [] _ _ rfl ?_ ?_
  · simp
  refine RunO.callFn noX_local rfl rfl rfl rfl rfl rfl rfl rfl right_enters rfl (fun w' _ => right_ok r w') ?_
  refine RunO.callFn noX_local rfl rfl rfl rfl rfl rfl rfl rfl right_enters rfl (fun w' _ => right_ok s w') ?_
  refine RunOF_sound tab_ok noX_local rfl rfl 1 [] _ _ rfl ?_ ?_
  · simp [segsVals, relV_one', inT, lk]
  refine RunO.effLast tab_ok noX_local rfl rfl rfl rfl ?_ (fun e => by cases e) rfl ?_
  · simp [segsVals, relV_one']
  by_cases h : (rightL r).n = (rightL s).n
  · have e : twoL r s = (rightL r, rightL s) := by unfold twoL; rw [if_pos h]
    rw [e]
    refine RunF_sound tab_ok noX_local 100 [false] _ _ rfl ?_ ?_
    · simp [h]
    refine Run.drawA noX_local rfl [] [(1, .cells 32 [.vals 65 (relV (rightL s))]), (0, .cells 32 [.vals 65 (relV (rightL r))])] rfl rfl ⟨rfl, rfl, trivial⟩ ?_
    refine RunOF_sound tab_ok noX_local rfl rfl 200 [] _ _ rfl ?_ ?_
    · simp [segsVals, relV_one', inT, lk]
    refine RunO.done ?_
    refine RunF_sound tab_ok noX_local 100 [] _ _ rfl ?_ ?_
    · simp
    refine Run.retL tab_ok Tryd.func44 rfl ?_ (fun M => rfl)
    simp
  · have e : twoL r s = (Rl.void 0, Rl.void 0) := by unfold twoL; rw [if_neg h]
    rw [e]
    refine RunF_sound tab_ok noX_local 100 [true] _ _ rfl ?_ ?_
    · simp [fillL, Value.cells, segsVals, relV_one', h]
    refine Run.retL tab_ok Tryd.func44 rfl ?_ (fun M => ?_)
    · simp [fillL, Value.cells]
    · rfl

theorem two_enters : Enters Tryd.prog 44 := enters_mk Tryd.func44 (by decide) rfl

def rowP (F : BitVec 64 → BitVec 64 → BitVec 64) (r s : Rl) (k : Nat) : Rl := Rl.by_ r.n fun i => if i < k then F (r.row i) (s.row i) else r.row i

theorem rowP_0 (F : BitVec 64 → BitVec 64 → BitVec 64) (r s : Rl) : rowP F r s 0 = r := by
  unfold rowP
  conv => rhs; rw [← by_row r]
  exact Rl.by_congr fun i _ => by simp

theorem rowP_row (F : BitVec 64 → BitVec 64 → BitVec 64) (r s : Rl) (k : Nat) (hk : k < 64) : (rowP F r s k).row k = r.row k := by
  rw [rowP, Rl.row_by, if_pos hk, if_neg (by omega)]

theorem rowP_step (F : BitVec 64 → BitVec 64 → BitVec 64) (r s : Rl) (k : Nat) : (rowP F r s k).setRow k (F (r.row k) (s.row k)) = rowP F r s (k + 1) := by
  unfold rowP
  rw [Rl.set_by]
  refine Rl.by_congr fun i _ => ?_
  by_cases h : k = i
  · subst h; simp
  · rw [if_neg h]
    have : (i < k) ↔ (i < k + 1) := by omega
    simp only [this]

noncomputable def opL (F : BitVec 64 → BitVec 64 → BitVec 64) (r s : Rl) : Rl := rowP F (twoL r s).1 (twoL r s).2 (twoL r s).1.n.toNat

theorem twoL_b (r s : Rl) : 0 ≤ (twoL r s).1.n ∧ (twoL r s).1.n ≤ 64 := by
  rw [← (twoL_right r s).1]; exact rightL_n _

theorem rowwise_ok (g : FuncId) (F : BitVec 64 → BitVec 64 → BitVec 64) (hent : Enters Tryd.prog g) (hg : ∀ a b w, Gives Tryd.prog g [.int .u64 (un a), .int .u64 (un b)] w (.int .u64 (un (F a b)))) (r s : Rl) (w : World) :
    Gives Tryd.prog 42 [encRel r, encRel s, .func (.func g) #[] #[]] w (encRel (opL F r s)) := by
  refine Gives.of_run Tryd.func42 rfl (by show 3 ≤ 34; decide) ?_
  refine RunF_sound tab_ok noX_local 100 [] _ _ rfl ?_ ?_
  · simp
  refine Run.callFn noX_local rfl rfl rfl rfl rfl rfl rfl two_enters rfl (fun w' _ => two_ok r s w') ?_
  have hn := twoL_b r s
  unfold opL
  generalize (twoL r s).1 = R at hn
  generalize (twoL r s).2 = S at hn
  refine RunF_sound tab_ok noX_local 100 [] _ _ rfl ?_ ?_
  · simp [segsVals, relV_one']
  suffices H : ∀ (d k : Nat), (k : Int) + d = R.n → ∀ σ, inT σ.t [(2, .v (.func (.func g) #[] #[])), (3, .ptr 0 0), (4, .ptr 1 0), (6, .ptr 2 0), (15, .v (.int .i64 R.n)), (16, .v (.int .i64 (k : Int)))] →
      inT σ.h [(0, .cells 32 [.vals 65 (relV (rowP F R S k))]), (1, .cells 32 [.vals 65 (relV S)]), (2, .cells 32 [.vals 65 (relV (Rl.void 0))])] → Run _ _ σ by
    refine H R.n.toNat 0 (by omega) _ ⟨rfl, rfl, rfl, rfl, ?_, rfl, trivial⟩ ⟨?_, ?_, rfl, trivial⟩
    · simp [lk]
    · rw [rowP_0]; simp [lk]
    · simp [lk]
  intro d
  induction d with
  | zero =>
    intro k hk σ ht hh
    refine Run.to ?_ ht hh (n' := 3)
    refine RunF_sound tab_ok noX_local 100 [false] _ _ rfl ?_ ?_
    · simp [relV_one', segsVals]; omega
    · refine Run.retP tab_ok Tryd.func42 rfl ?_ (fun M => ?_)
      · simp
      have : R.n.toNat = k := by omega
      rw [this]; rfl
  | succ d ih =>
    intro k hk σ ht hh
    refine Run.to ?_ ht hh (n' := 3)
    have hk' : k < 64 := by omega
    refine RunF_sound tab_ok noX_local 100 [true] _ _ rfl ?_ ?_
    · simp; omega
    refine Run.drawA noX_local rfl [5] [(1, .cells 32 [.vals 65 (relV S)])] rfl rfl ⟨rfl, trivial⟩ ?_
    refine RunOF_sound tab_ok noX_local rfl rfl 100 [] _ _ rfl ?_ ?_
    · simp [relV_get _ _ hk', intAt_row _ _ hk']; omega
    refine RunO.callFv (cs := []) (f := g) (r := .int .u64 (un (F (R.row k) (S.row k)))) noX_local rfl rfl rfl rfl rfl rfl rfl rfl hent rfl (fun w' _ => ?_) ?_
    · have e1 : intAt (relV (rowP F R S k)) (1 - 0 + (k : Int).toNat * 1) = un (R.row k) := by
        rw [show 1 - 0 + (k : Int).toNat * 1 = 1 + k by simp, intAt_row _ _ hk', rowP_row F R S k hk']
      have e2 : intAt (relV S) (1 - 0 + (k : Int).toNat * 1) = un (S.row k) := by
        rw [show 1 - 0 + (k : Int).toNat * 1 = 1 + k by simp, intAt_row _ _ hk']
      have := hg (R.row k) (S.row k) w'
      rw [← e1, ← e2] at this
      exact this
    refine RunOF_sound tab_ok noX_local rfl rfl 100 [] _ _ rfl ?_ ?_
    · simp [okCell, Value.oneCell', inT, lk]; omega
    refine RunO.done ?_
    refine RunF_sound tab_ok noX_local 100 [] _ _ rfl ?_ ?_
    · simp
    refine ih (k + 1) (by omega) _ ⟨rfl, rfl, rfl, rfl, rfl, i64_eq (wrap_succ (by omega)), trivial⟩ ⟨congrArg (fun l => some (Blk.cells 32 [.vals 65 l])) ?_, rfl, rfl, trivial⟩
    simp [relV_set _ _ hk', rowP_step]

theorem rowwise_enters : Enters Tryd.prog 42 := enters_mk Tryd.func42 (by decide) rfl

theorem andn_ok (a b : BitVec 64) (w : World) : Gives Tryd.prog 43 [.int .u64 (un a), .int .u64 (un b)] w (.int .u64 (un (a &&& ~~~b))) := by
  refine Gives.of_run Tryd.func43 rfl (by show 2 ≤ 8; decide) ?_
  refine RunF_sound tab_ok noX_local 100 [] _ _ rfl ?_ ?_
  · simp
  exact Run.retP tab_ok Tryd.func43 rfl trivial (fun M => by show Value.int _ _ = _; rw [bandn_un])

theorem andn_enters : Enters Tryd.prog 43 := enters_mk Tryd.func43 (by decide) rfl

theorem minus_ok (r s : Rl) (w : World) : Gives Tryd.prog 25 [encRel r, encRel s] w (encRel (opL (fun a b => a &&& ~~~b) r s)) := by
  refine Gives.of_run Tryd.func25 rfl (by show 2 ≤ 8; decide) ?_
  refine RunF_sound tab_ok noX_local 100 [] _ _ rfl ?_ ?_
  · simp
  refine Run.callM noX_local rfl rfl rfl rfl rfl rfl rowwise_enters rfl (fun M w' _ _ => rowwise_ok 43 (fun a b => a &&& ~~~b) andn_enters andn_ok r s w') ?_
  refine RunF_sound tab_ok noX_local 100 [] _ _ rfl ?_ ?_
  · simp [segsVals, relV_one']
  refine Run.retP tab_ok Tryd.func25 rfl ?_ (fun M => ?_)
  · simp
  rfl

theorem minus_enters : Enters Tryd.prog 25 := enters_mk Tryd.func25 (by decide) rfl

def invF (n : Int) (l : List (Int × Int)) : Rl := l.foldl (fun o e => o.setRow e.2.toNat (o.row e.2.toNat ||| 1#64 <<< e.1.toNat)) (Rl.void n)

theorem invF_app (n : Int) (l : List (Int × Int)) (e : Int × Int) : invF n (l ++ [e]) = (invF n l).setRow e.2.toNat ((invF n l).row e.2.toNat ||| 1#64 <<< e.1.toNat) := by
  unfold invF; rw [List.foldl_append]; rfl

def cmpF (s : Rl) (n : Int) (l : List (Int × Int)) : Rl := l.foldl (fun o e => o.setRow e.1.toNat (o.row e.1.toNat ||| s.row e.2.toNat)) (Rl.void n)

theorem cmpF_app (s : Rl) (n : Int) (l : List (Int × Int)) (e : Int × Int) : cmpF s n (l ++ [e]) = (cmpF s n l).setRow e.1.toNat ((cmpF s n l).row e.1.toNat ||| s.row e.2.toNat) := by
  unfold cmpF; rw [List.foldl_append]; rfl

/-- Where the pairs are. -/
theorem restL_mem (r : Rl) : ∀ d i e, e ∈ restL r i d → ∃ a b : Nat, e = ((a : Int), (b : Int)) ∧ i ≤ a ∧ a < i + d ∧ r.has a b = true
  | 0, i, e, h => by cases h
  | d + 1, i, e, h => by
    rw [restL, List.mem_append] at h
    rcases h with h | h
    · obtain ⟨b, hb, rfl⟩ := List.mem_map.1 h
      exact ⟨i, b, rfl, Nat.le_refl _, by omega, (bitsL_mem _ _).1 hb⟩
    · obtain ⟨a, b, h1, h2, h3, h4⟩ := restL_mem r d (i + 1) e h
      exact ⟨a, b, h1, by omega, by omega, h4⟩

theorem edges_mem (r : Rl) (e : Int × Int) (h : e ∈ edgesL r) : ∃ a b : Nat, e = ((a : Int), (b : Int)) ∧ a < 64 ∧ b < 64 ∧ r.has a b = true := by
  obtain ⟨a, b, h1, h2, h3, h4⟩ := restL_mem r _ _ e h
  obtain ⟨h5, h6⟩ := Rl.has_lt r h4
  exact ⟨a, b, h1, h5, h6, h4⟩

/-- The blocks of Inverse. -/
def invBlk (r o : Rl) : List (Nat × Blk) := [(2, .cells 32 [.vals 65 (relV o)]), (1, .cells 32 [.vals 65 (relV (Rl.void 0))]), (0, .cells 32 [.vals 65 (relV r)])]

theorem inverse_ok (r : Rl) (w : World) (hT : TabAt w) (h0 : 0 < w.heap.size) : Gives Tryd.prog 27 [encRel r] w (encRel (invF (rightL r).n (edgesL (rightL r)))) := by
  refine Gives.of_run Tryd.func27 rfl (by show 1 ≤ 24; decide) ?_
  refine RunF_sound tab_ok noX_local 100 [] _ _ rfl ?_ ?_
  · simp
  refine Run.callFn noX_local rfl rfl rfl rfl rfl rfl rfl right_enters rfl (fun w' _ => right_ok r w') ?_
  refine RunF_sound tab_ok noX_local 100 [] _ _ rfl ?_ ?_
  · simp [fillL, Value.cells, segsVals, relV_tail_one, splice]
  refine Run.callR noX_local rfl rfl rfl rfl rfl rfl edges_enters rfl (fun M w' _ _ => edges_ok r w') ?_
  rintro v w2 w1 S1 hag hag2 ⟨bb, rfl, hbl, hRel⟩ hS1
  have hB1 := (Based.refl w).call hag hag2 hS1
  have hbw1 : bb < w1.heap.size := World.block_lt_of_cell? w1 _ (hRel 0 _ rfl)
  have hS1b : ¬ S1 bb := hS1.new bb hbl
  have hS10 : ¬ S1 0 := fun h => by have := hB1.new 0 h; omega
  have hw1 : 0 < w1.heap.size := by have := hB1.agree.size; omega
  have hn := rightL_n r
  have hit := edges_iter (rightL r) hn bb w1 hRel (hT.agree hB1.agree (fun f => f))
  have hmem := edges_mem (rightL r)
  generalize rightL r = R at *
  generalize edgesL R = E at *
  refine ⟨.fn 53 [.v (.pointer (some ⟨bb, 0, none⟩))], fun M => rfl, ?_⟩
  refine RunF_sound tab_ok noX_local 100 [] _ _ rfl ?_ ?_
  · simp
  refine Run.rangeFn noX_local rfl rfl (fun M => rfl) edgesIt_enters 4 [(3, .ptr 2 0), (2, .ptr 1 0)] ⟨rfl, rfl, trivial⟩ rfl rfl hit
    (fun k hk => by rcases hk with rfl | rfl; exact ⟨hw1, hS10⟩; exact ⟨hbw1, hS1b⟩) (fun x hx => by simp only [encEs, List.mem_map] at hx; obtain ⟨e, _, rfl⟩ := hx; rfl)
    (fun pre h => ∃ k, k ≤ E.length ∧ pre = encEs (E.take k) ∧ h = invBlk r (invF R.n (E.take k)))
    (fun _ _ _ => False) 12 (invBlk r (invF R.n [])) ⟨0, by omega, rfl, rfl⟩ ⟨?_, rfl, rfl, trivial⟩ ?_ ?_ ?_
  · show _ = some (Blk.cells 32 [.vals 65 (relV (Rl.void R.n))])
    rfl
  · rintro D l a0 rc wy fpy pre x h hI hpx ⟨k, hk, rfl, rfl⟩
    obtain ⟨hlt, rfl⟩ := encEs_next hk hpx
    obtain ⟨a, b, he, ha, hb, hab⟩ := hmem E[k] (List.getElem_mem hlt)
    have hts : E.take (k + 1) = E.take k ++ [E[k]] := List.take_succ_eq_append_getElem hlt
    have hstep : invF R.n (E.take (k + 1)) = (invF R.n (E.take k)).setRow b ((invF R.n (E.take k)).row b ||| 1#64 <<< a) := by
      rw [hts, invF_app, he]; simp
    have hnext : encEs (E.take k) ++ [encEd E[k]] = encEs (E.take (k + 1)) := encEs_succ hlt
    rw [he] at hnext ⊢
    generalize invF R.n (E.take k) = o at hstep ⊢
    refine RunF_sound tab_ok (roundX_local hI.loc l rc .ready) 100 [] _ _ rfl ?_ ?_
    · simp [segsVals]
    refine Run.beginRound hI.loc hI.lw ?_
    refine RunF_sound tab_ok (roundX_local hI.loc l rc .busy) 100 [] _ _ rfl ?_ ?_
    · simp
    refine Run.drawA (roundX_local hI.loc l rc .busy) rfl [4] [(12, .cells 83 [.vals 2 [.int .i64 (a : Int), .int .i64 (b : Int)]])] rfl rfl ⟨rfl, trivial⟩ ?_
    refine RunOF_sound tab_ok (roundX_local hI.loc l rc .busy) rfl rfl 100 [] _ _ rfl ?_ ?_
    · simp [relV_get _ _ hb, intAt_row _ _ hb, okCell, Value.oneCell', inT, lk]; omega
    refine RunO.done ?_
    refine RunF_sound tab_ok (roundX_local hI.loc l rc .busy) 100 [] _ _ rfl ?_ ?_
    · simp
    refine Run.roundEnd hI [] (invBlk r (invF R.n (E.take (k + 1)))) ⟨k + 1, by omega, hnext, rfl⟩ ⟨rfl, rfl, trivial⟩ ⟨?_, rfl, rfl, trivial⟩ rfl
    refine congrArg (fun l => some (Blk.cells 32 [.vals 65 l])) ?_
    rw [hstep]
    simp [intAt_row _ _ hb, shl1_un, relV_set _ _ hb]
  · rintro D h ⟨k, hk, hx, rfl⟩
    have hke := encEs_all hk hx
    have e1 : E.take k = E := List.take_of_length_le (by omega)
    rw [e1]
    refine RunF_sound tab_ok (markX_local noX_local D) 100 [] _ _ rfl ?_ ?_
    · simp [segsVals, relV_one']
    refine Run.retB (Ds := [D]) tab_ok noX_local hB1 Tryd.func27 rfl ?_ (fun M => ?_)
    · simp
    rfl
  · rintro D pre c h hpre hF
    exact hF.elim

theorem inverse_enters : Enters Tryd.prog 27 := enters_mk Tryd.func27 (by decide) rfl

def cmpBlk (r s o : Rl) : List (Nat × Blk) := [(3, .cells 32 [.vals 65 (relV o)]), (2, .cells 32 [.vals 65 (relV (Rl.void 0))]), (1, .cells 32 [.vals 65 (relV s)]), (0, .cells 32 [.vals 65 (relV r)])]

noncomputable def composeL (r s : Rl) : Rl := cmpF (twoL r s).2 (twoL r s).1.n (edgesL (twoL r s).1)

theorem compose_ok (r s : Rl) (w : World) (hT : TabAt w) (h0 : 0 < w.heap.size) : Gives Tryd.prog 26 [encRel r, encRel s] w (encRel (composeL r s)) := by
  refine Gives.of_run Tryd.func26 rfl (by show 2 ≤ 33; decide) ?_
  refine RunF_sound tab_ok noX_local 100 [] _ _ rfl ?_ ?_
  · simp
  refine Run.callFn noX_local rfl rfl rfl rfl rfl rfl rfl two_enters rfl (fun w' _ => two_ok r s w') ?_
  have hn := twoL_b r s
  have hrt := (twoL_right r s).1
  unfold composeL
  generalize (twoL r s).1 = R at hn hrt
  generalize (twoL r s).2 = S at hn hrt
  refine RunF_sound tab_ok noX_local 100 [] _ _ rfl ?_ ?_
  · simp [fillL, Value.cells, segsVals, relV_one', relV_tail_one, splice]
  refine Run.callR (Q := fun v w w' => ∃ b, v = edgesF b ∧ w.heap.size ≤ b ∧ RelAt w' b R) noX_local rfl rfl rfl rfl rfl rfl edges_enters rfl (fun M w' _ _ => ?_) ?_
  · have := edges_ok R w'
    rw [hrt] at this
    simp only [List.append_nil]
    exact this
  rintro v w2 w1 S1 hag hag2 ⟨bb, rfl, hbl, hRel⟩ hS1
  have hB1 := (Based.refl w).call hag hag2 hS1
  have hbw1 : bb < w1.heap.size := World.block_lt_of_cell? w1 _ (hRel 0 _ rfl)
  have hS1b : ¬ S1 bb := hS1.new bb hbl
  have hS10 : ¬ S1 0 := fun h => by have := hB1.new 0 h; omega
  have hw1 : 0 < w1.heap.size := by have := hB1.agree.size; omega
  have hit := edges_iter R hn bb w1 hRel (hT.agree hB1.agree (fun f => f))
  have hmem := edges_mem R
  generalize edgesL R = E at *
  refine ⟨.fn 53 [.v (.pointer (some ⟨bb, 0, none⟩))], fun M => rfl, ?_⟩
  refine RunF_sound tab_ok noX_local 100 [] _ _ rfl ?_ ?_
  · simp
  refine Run.rangeFn noX_local rfl rfl (fun M => rfl) edgesIt_enters 6 [(5, .ptr 3 0), (4, .ptr 2 0), (3, .ptr 1 0)] ⟨rfl, rfl, rfl, trivial⟩ rfl rfl hit
    (fun k hk => by rcases hk with rfl | rfl; exact ⟨hw1, hS10⟩; exact ⟨hbw1, hS1b⟩) (fun x hx => by simp only [encEs, List.mem_map] at hx; obtain ⟨e, _, rfl⟩ := hx; rfl)
    (fun pre h => ∃ k, k ≤ E.length ∧ pre = encEs (E.take k) ∧ h = cmpBlk R S (cmpF S R.n (E.take k)))
    (fun _ _ _ => False) 12 (cmpBlk R S (cmpF S R.n [])) ⟨0, by omega, rfl, rfl⟩ ⟨?_, rfl, ?_, ?_, trivial⟩ ?_ ?_ ?_
  · show _ = some (Blk.cells 32 [.vals 65 (relV (Rl.void R.n))])
    simp [lk]
    rfl
  · simp [lk]
  · simp [lk]
  · rintro D l a0 rc wy fpy pre x h hI hpx ⟨k, hk, rfl, rfl⟩
    obtain ⟨hlt, rfl⟩ := encEs_next hk hpx
    obtain ⟨a, b, he, ha, hb, hab⟩ := hmem E[k] (List.getElem_mem hlt)
    have hts : E.take (k + 1) = E.take k ++ [E[k]] := List.take_succ_eq_append_getElem hlt
    have hstep : cmpF S R.n (E.take (k + 1)) = (cmpF S R.n (E.take k)).setRow a ((cmpF S R.n (E.take k)).row a ||| S.row b) := by
      rw [hts, cmpF_app, he]; simp
    have hnext : encEs (E.take k) ++ [encEd E[k]] = encEs (E.take (k + 1)) := encEs_succ hlt
    rw [he] at hnext ⊢
    generalize cmpF S R.n (E.take k) = o at hstep ⊢
    refine RunF_sound tab_ok (roundX_local hI.loc l rc .ready) 100 [] _ _ rfl ?_ ?_
    · simp [segsVals]
    refine Run.beginRound hI.loc hI.lw ?_
    refine RunF_sound tab_ok (roundX_local hI.loc l rc .busy) 100 [] _ _ rfl ?_ ?_
    · simp
    refine Run.drawA (roundX_local hI.loc l rc .busy) rfl [4] [(12, .cells 83 [.vals 2 [.int .i64 (a : Int), .int .i64 (b : Int)]]), (1, .cells 32 [.vals 65 (relV S)])] rfl rfl ⟨rfl, rfl, trivial⟩ ?_
    refine RunOF_sound tab_ok (roundX_local hI.loc l rc .busy) rfl rfl 100 [] _ _ rfl ?_ ?_
    · simp [relV_get _ _ hb, relV_get _ _ ha, intAt_row _ _ hb, intAt_row _ _ ha, okCell, Value.oneCell', inT, lk]; omega
    refine RunO.done ?_
    refine RunF_sound tab_ok (roundX_local hI.loc l rc .busy) 100 [] _ _ rfl ?_ ?_
    · simp
    refine Run.roundEnd hI [] (cmpBlk R S (cmpF S R.n (E.take (k + 1)))) ⟨k + 1, by omega, hnext, rfl⟩ ⟨rfl, rfl, rfl, trivial⟩ ⟨?_, rfl, rfl, rfl, trivial⟩ rfl
    refine congrArg (fun l => some (Blk.cells 32 [.vals 65 l])) ?_
    rw [hstep]
    simp [intAt_row _ _ hb, intAt_row _ _ ha, relV_set _ _ ha]
  · rintro D h ⟨k, hk, hx, rfl⟩
    have hke := encEs_all hk hx
    have e1 : E.take k = E := List.take_of_length_le (by omega)
    rw [e1]
    refine RunF_sound tab_ok (markX_local noX_local D) 100 [] _ _ rfl ?_ ?_
    · simp [segsVals, relV_one']
    refine Run.retB (Ds := [D]) tab_ok noX_local hB1 Tryd.func26 rfl ?_ (fun M => ?_)
    · simp
    rfl
  · rintro D pre c h hpre hF
    exact hF.elim

theorem compose_enters : Enters Tryd.prog 26 := enters_mk Tryd.func26 (by decide) rfl

/-! ### Where the pairs of a fold are -/

theorem invF_n (n : Int) : ∀ l : List (Int × Int), (invF n l).n = n := by
  intro l
  unfold invF
  suffices H : ∀ (l : List (Int × Int)) (o : Rl), (l.foldl (fun o e => o.setRow e.2.toNat (o.row e.2.toNat ||| 1#64 <<< e.1.toNat)) o).n = o.n from H l _
  intro l
  induction l with
  | nil => intro o; rfl
  | cons e l ih => intro o; rw [List.foldl_cons, ih, Rl.n_setRow]

theorem cmpF_n (s : Rl) (n : Int) : ∀ l : List (Int × Int), (cmpF s n l).n = n := by
  intro l
  unfold cmpF
  suffices H : ∀ (l : List (Int × Int)) (o : Rl), (l.foldl (fun o e => o.setRow e.1.toNat (o.row e.1.toNat ||| s.row e.2.toNat)) o).n = o.n from H l _
  intro l
  induction l with
  | nil => intro o; rfl
  | cons e l ih => intro o; rw [List.foldl_cons, ih, Rl.n_setRow]

theorem invF_has (l : List (Int × Int)) (hl : ∀ e ∈ l, e.1.toNat < 64 ∧ e.2.toNat < 64) : ∀ (o : Rl) (x y : Nat),
    (l.foldl (fun o e => o.setRow e.2.toNat (o.row e.2.toNat ||| 1#64 <<< e.1.toNat)) o).has x y = (o.has x y || l.any fun e => decide (e.2.toNat = x) && decide (e.1.toNat = y)) := by
  induction l with
  | nil => intro o x y; simp
  | cons e l ih =>
    intro o x y
    have he := hl e (List.mem_cons_self ..)
    rw [List.foldl_cons, ih (fun e' h' => hl e' (List.mem_cons_of_mem _ h')), Rl.has_setRow, List.any_cons, ← Bool.or_assoc]
    congr 1
    by_cases hx : e.2.toNat = x
    · subst hx
      rw [if_pos ⟨rfl, he.2⟩, BitVec.getLsbD_or, one_shl_get _ _ he.1]
      have : ∀ a b : Nat, decide (a = b) = decide (b = a) := fun a b => decide_eq_decide.2 eq_comm
      rw [this y]
      simp [Rl.has]
    · rw [if_neg (by simp [hx])]; simp [hx]

theorem cmpF_has (s : Rl) (l : List (Int × Int)) (hl : ∀ e ∈ l, e.1.toNat < 64) : ∀ (o : Rl) (x y : Nat),
    (l.foldl (fun o e => o.setRow e.1.toNat (o.row e.1.toNat ||| s.row e.2.toNat)) o).has x y = (o.has x y || l.any fun e => decide (e.1.toNat = x) && s.has e.2.toNat y) := by
  induction l with
  | nil => intro o x y; simp
  | cons e l ih =>
    intro o x y
    have he := hl e (List.mem_cons_self ..)
    rw [List.foldl_cons, ih (fun e' h' => hl e' (List.mem_cons_of_mem _ h')), Rl.has_setRow, List.any_cons, ← Bool.or_assoc]
    congr 1
    by_cases hx : e.1.toNat = x
    · subst hx
      rw [if_pos ⟨rfl, he⟩, BitVec.getLsbD_or]
      simp [Rl.has]
    · rw [if_neg (by simp [hx])]; simp [hx]

theorem edges_has (r : Rl) (a b : Nat) : ((a : Int), (b : Int)) ∈ edgesL (rightL r) ↔ (rightL r).has a b = true := by
  have hn := rightL_n r
  constructor
  · intro h
    obtain ⟨a', b', h1, _, _, h4⟩ := edges_mem _ _ h
    simp only [Prod.mk.injEq, Int.natCast_inj] at h1
    rw [h1.1, h1.2]; exact h4
  · intro h
    have hb := right_has r a b h
    suffices H : ∀ d i, i ≤ a → a < i + d → ((a : Int), (b : Int)) ∈ restL (rightL r) i d from H _ 0 (Nat.zero_le _) (by omega)
    intro d
    induction d with
    | zero => intro i h1 h2; omega
    | succ d ih =>
      intro i h1 h2
      rw [restL, List.mem_append]
      by_cases he : i = a
      · subst he
        exact .inl (List.mem_map.2 ⟨b, (bitsL_mem _ _).2 h, rfl⟩)
      · exact .inr (ih (i + 1) (by omega) (by omega))

/-- Inverse, pair by pair. -/
theorem inverse_has (r : Rl) (x y : Nat) : (invF (rightL r).n (edgesL (rightL r))).has x y = (rightL r).has y x := by
  unfold invF
  rw [invF_has _ (fun e he => by obtain ⟨a, b, rfl, h1, h2, _⟩ := edges_mem _ _ he; exact ⟨by simpa using h1, by simpa using h2⟩), Rl.gen_void, Rl.has_gen]
  rw [Bool.and_false, Bool.false_or, Bool.eq_iff_iff, List.any_eq_true]
  constructor
  · rintro ⟨e, he, h⟩
    obtain ⟨a, b, rfl, _, _, h4⟩ := edges_mem _ _ he
    simp at h
    rw [← h.1, ← h.2]; exact h4
  · intro h
    exact ⟨((y : Int), (x : Int)), (edges_has r y x).2 h, by simp⟩

/-- Compose, pair by pair. -/
theorem compose_has (r s : Rl) (x y : Nat) : (composeL r s).has x y = (List.range 64).any fun c => (twoL r s).1.has x c && (twoL r s).2.has c y := by
  unfold composeL cmpF
  have hr := (twoL_right r s).1
  rw [cmpF_has _ _ (fun e he => by obtain ⟨a, b, rfl, h1, h2, _⟩ := edges_mem _ _ he; simpa using h1), Rl.gen_void, Rl.has_gen]
  rw [Bool.and_false, Bool.false_or, Bool.eq_iff_iff, List.any_eq_true, List.any_eq_true]
  constructor
  · rintro ⟨e, he, h⟩
    obtain ⟨a, b, rfl, _, hb, h4⟩ := edges_mem _ _ he
    simp at h
    exact ⟨b, List.mem_range.2 hb, by rw [← h.1, h4]; simpa using h.2⟩
  · rintro ⟨c, _, h⟩
    simp only [Bool.and_eq_true] at h
    refine ⟨((x : Int), (c : Int)), ?_, by simpa using h.2⟩
    rw [← hr]
    exact (edges_has _ x c).2 (by rw [hr]; exact h.1)

/-- Which pairs stand in an operation of two. -/
def pTwo (op : Nat) (R S : Rl) (x y : Nat) : Bool :=
  match op with
  | 0 => R.has x y || S.has x y
  | 1 => R.has x y && S.has x y
  | 2 => R.has x y && !S.has x y
  | _ => (List.range R.n.toNat).any fun c => R.has x c && S.has c y

noncomputable def twoR (op : Nat) (r s : Rl) : Rl := Rl.gen (twoL r s).1.n (pTwo op (twoL r s).1 (twoL r s).2)

/-- An operation row by row, pair by pair. -/
theorem opL_gen (F : BitVec 64 → BitVec 64 → BitVec 64) (op : Nat) (h0 : F 0#64 0#64 = 0#64) (hF : ∀ R S : Rl, ∀ x y, y < 64 → (F (R.row x) (S.row x)).getLsbD y = pTwo op R S x y) (r s : Rl) : opL F r s = twoR op r s := by
  have hr := twoL_right r s
  have hn := twoL_n r s
  have hb := twoL_b r s
  unfold opL twoR
  generalize (twoL r s).1 = R at hr hn hb
  generalize (twoL r s).2 = S at hr hn
  apply Rl.ext_has
  · rw [Rl.n_gen]; exact Rl.n_by _ _
  · intro x y hx hy
    rw [Rl.has_gen, decide_eq_true ⟨hx, hy⟩, Bool.true_and, ← hF R S x y hy]
    show ((rowP F R S R.n.toNat).row x).getLsbD y = _
    unfold rowP
    rw [Rl.row_by, if_pos hx]
    by_cases hlt : x < R.n.toNat
    · rw [if_pos hlt]
    · rw [if_neg hlt, row0_of hr.1 (by omega), row0_of hr.2 (show S.n ≤ (x : Int) by omega), h0]

theorem minus_eq (r s : Rl) : opL (fun a b => a &&& ~~~b) r s = twoR 2 r s := opL_gen _ 2 (by decide) (fun R S x y hy => by rw [BitVec.getLsbD_and, BitVec.getLsbD_not, decide_eq_true hy, Bool.true_and]; rfl) r s

theorem compose_eq (r s : Rl) : composeL r s = twoR 3 r s := by
  have hr := twoL_right r s
  have hb := twoL_b r s
  apply Rl.ext_has
  · unfold composeL twoR
    rw [cmpF_n, Rl.n_gen]
  · intro x y hx hy
    rw [compose_has]
    unfold twoR
    rw [Rl.has_gen, decide_eq_true ⟨hx, hy⟩, Bool.true_and]
    generalize (twoL r s).1 = R at hr hb
    generalize (twoL r s).2 = S at hr
    show _ = (List.range R.n.toNat).any fun c => R.has x c && S.has c y
    rw [Bool.eq_iff_iff, List.any_eq_true, List.any_eq_true]
    constructor
    · rintro ⟨c, _, h⟩
      have h1 := (Bool.and_eq_true_iff.1 h).1
      have := right_has R x c (by rw [hr.1]; exact h1)
      rw [hr.1] at this
      exact ⟨c, List.mem_range.2 (by omega), h⟩
    · rintro ⟨c, hc, h⟩
      have := List.mem_range.1 hc
      exact ⟨c, List.mem_range.2 (by omega), h⟩

theorem inverse_eq (r : Rl) : invF (rightL r).n (edgesL (rightL r)) = Rl.gen (rightL r).n fun x y => (rightL r).has y x := by
  apply Rl.ext_has
  · rw [invF_n, Rl.n_gen]
  · intro x y hx hy
    rw [inverse_has, Rl.has_gen, decide_eq_true ⟨hx, hy⟩, Bool.true_and]

end Go.Proofs.YtehimiadpgbhmaaDoor

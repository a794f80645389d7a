/-
  Own work, merged: AM21, N0, K2, K3, K4, K5, K6, K7, K9, J7, J8, J9, J10, J11, J12.
-/
import Derived.AtR
import Derived.Below
import Derived.ChangeKeysEq
import Derived.KernelRfl
import Derived.LaidMore
import Derived.Laws.AppendOwn
import Derived.Laws.BytesString
import Derived.Laws.Cells
import Derived.Laws.CopyRow
import Derived.Laws.Entries
import Derived.Laws.Externs
import Derived.Laws.IdiomStrings
import Derived.Laws.Rows
import Derived.Laws.Slices
import Derived.Laws.Small
import Derived.Laws.StructEq
import Derived.Lib.AppendIntMem
import Derived.Lib.ItoaMem
import Derived.Lib.ItoaNum
import Derived.Lib.LaidTab
import Derived.Lib.TrailingZeros
import Derived.Maps.AppendAt
import Derived.OpenShut
import Derived.Orders
import Derived.ProofKit
import Derived.RangeFuncRecord
import Derived.SevenTiedAt
import Derived.Shelf.Lay
import Derived.Shelf.Strconv.Itoa4
import Derived.Stop.Joined
import Derived.Test.YtpfanhbkjajocaaDoorCards
import Derived.Test.YtpfanhbkjajocaaDoorChecked
import Derived.Test.YtpfanhbkjajocaaDoorProg
import Derived.Test.YtpfanhbkjajocaaDoorRows
import Derived.Test.YtpfanhbkjajocaaDoorTie
import Derived.Test.YtpfanhbkjajocaaDoorQ9ACD5F
/-
  The abstract machine, twenty-first part: a call that the model answers itself. Own work; over any program.
-/
namespace Go.AM

/-- A call that is answered where it stands. -/
theorem Run.callX {C : Ctx} {k : List Item} {σ : St} {ops : Array Oper} {i : Nat} {rest : List Nat} {o : Oper} {c : Call} {g : Operand} {f : FuncId} {caps xs : List AV} {vs : List Value} {r : Value}
    (ho : ops[i]? = some o) (hop : o.op = .call c) (hc : c.callee = .value g) (hg : σ.ev g = some (.fn f caps)) (hxs : evs σ c.args.toList = some xs) (hvs : toVs (xs ++ caps) = some vs) (hw : wantOf ops σ o = some .yes)
    (hd : dstOK C.n o.dst = true) (hx : ∀ w, (callFunc f vs.toArray).run C.P w = .ok (.value r) w)
    (h : Run C (.inRegion ops rest :: k) (σ.put o.dst (.v r))) : Run C (.inRegion ops (i :: rest) :: k) σ := by
  intro M fp a w hR cs
  have hnd : ∀ c, o.op ≠ .defer c := fun c e => by rw [hop] at e; cases e
  have h2 : c.args.map a.eval = (concL M xs).toArray := by apply Array.ext'; simpa using evs_conc hR.q hxs
  have h3 : concL M (xs ++ caps) = vs := toVs_conc hvs
  have hr : (execOp a.eval o).run C.P w = .ok (.value r) w := by
    have h4 := hx w
    rw [← h3, concL_append] at h4
    simp only [execOp, hop, resolve, hc, h2, hR.q.ev hg, conc, Deferred.ofValue]
    simp [invoke, h4]
  obtain ⟨m, s, z⟩ := h M fp _ w (hR.put (z := .v r) (dstOK_lt hd)) cs
  exact ⟨m, .head (step_value ho (wantOf_yes hR.q hw) hnd hr) s, z⟩
end Go.AM

/-
  What word.Next, word.Parse and their references compute, in plain Lean. Own work.
-/
namespace Go.Proofs.YtpfanhbkjajocaaDoor
open Go.AM

/-- A byte as a digit; 99: it is none. -/
def dv (c : Int) : Int := if 48 ≤ c ∧ c ≤ 57 then c - 48 else if 97 ≤ c ∧ c ≤ 102 then c - 97 + 10 else if 65 ≤ c ∧ c ≤ 70 then c - 65 + 10 else 99
theorem dv_bounds (c : Int) : 0 ≤ dv c ∧ dv c ≤ 99 := by unfold dv; split <;> (try split) <;> (try split) <;> omega
def stp (b v d : Int) : Int := (v * b + d) % 18446744073709551616
def ovf (b v d : Int) : Bool := decide (v * b + d ≥ 18446744073709551616)

/-- The digits to a base from a place on. -/
def dgo (s : ByteArray) (b : Int) : Nat → Nat → Int → Bool → Int × Bool × Nat
  | 0, i, v, g => (v, g, i)
  | d + 1, i, v, g => if dv (tk s i) < b then dgo s b d (i + 1) (stp b v (dv (tk s i))) (g || ovf b v (dv (tk s i))) else (v, g, i)

theorem dgo_bounds (s : ByteArray) (b : Int) : ∀ (d i : Nat) (v : Int) (g : Bool), 0 ≤ v → v < 18446744073709551616 → 0 ≤ (dgo s b d i v g).1 ∧ (dgo s b d i v g).1 < 18446744073709551616 ∧ i ≤ (dgo s b d i v g).2.2 ∧ (dgo s b d i v g).2.2 ≤ i + d
  | 0, i, v, g, h0, h1 => ⟨h0, h1, Nat.le_refl _, Nat.le_refl _⟩
  | d + 1, i, v, g, h0, h1 => by
    unfold dgo
    split
    · have ih := dgo_bounds s b d (i + 1) (stp b v (dv (tk s i))) (g || ovf b v (dv (tk s i))) (by unfold stp; omega) (by unfold stp; omega)
      omega
    · exact ⟨h0, h1, Nat.le_refl _, Nat.le_add_right _ _⟩
theorem dgo_none (s : ByteArray) (b : Int) (d i : Nat) (v : Int) (g : Bool) : (dgo s b d i v g).2.2 = i ↔ d = 0 ∨ ¬ dv (tk s i) < b := by
  cases d with
  | zero => simp [dgo]
  | succ d =>
    unfold dgo
    split
    · rename_i h
      constructor
      · intro h2
        have h3 : ∀ (d i : Nat) (v : Int) (g : Bool), i ≤ (dgo s b d i v g).2.2 := by
          intro d
          induction d with
          | zero => intro i v g; exact Nat.le_refl _
          | succ d ih =>
            intro i v g
            unfold dgo
            split
            · have := ih (i + 1) (stp b v (dv (tk s i))) (g || ovf b v (dv (tk s i))); omega
            · exact Nat.le_refl _
        have := h3 d (i + 1) (stp b v (dv (tk s i))) (g || ovf b v (dv (tk s i)))
        omega
      · rintro (h2 | h2)
        · cases h2
        · exact absurd h h2
    · rename_i h
      exact ⟨fun _ => .inr h, fun _ => rfl⟩

def negS (s : ByteArray) (a : Nat) : Bool := decide (a < s.size) && decide (tk s a = 45)
def begS (s : ByteArray) (a : Nat) : Nat := if negS s a then a + 1 else a
def xS (s : ByteArray) (b : Nat) : Bool := decide (b + 1 < s.size) && (decide (tk s b = 48) && (decide (tk s (b + 1 : Nat) = 120) || decide (tk s (b + 1 : Nat) = 88)))
def hexS (s : ByteArray) (b : Nat) : Bool := xS s b && (decide (b + 2 < s.size) && decide (dv (tk s (b + 2 : Nat)) < 16))
def baseS (s : ByteArray) (b : Nat) : Int := if hexS s b then 16 else 10
def stS (s : ByteArray) (b : Nat) : Nat := if hexS s b then b + 2 else b
def runS (s : ByteArray) (b : Nat) : Int × Bool × Nat := dgo s (baseS s b) (s.size - stS s b) (stS s b) 0 false

/-- What Next answers at a place within the text. -/
def nextAt (s : ByteArray) (a : Nat) : T3 :=
  if (runS s (begS s a)).2.2 = stS s (begS s a) then (0, 0, 40)
  else if (runS s (begS s a)).2.1 || (negS s a && decide ((runS s (begS s a)).1 > 9223372036854775808)) then (0, 0, 41)
  else (IntKind.i64.wrap (if negS s a then IntKind.u64.wrap (0 - (runS s (begS s a)).1) else (runS s (begS s a)).1), ((runS s (begS s a)).2.2 - a : Nat), 0)
def nextS (s : ByteArray) (a : Int) : T3 := if a < 0 ∨ a > s.size then (0, 0, 40) else nextAt s a.toNat
/-- How many bytes the number has. -/
def lenS (s : ByteArray) : Int := ((runS s (begS s 0)).2.2 : Nat)
def parseS (s : ByteArray) : Int × Int :=
  if (nextS s 0).2.2 = 40 then (0, 40) else if lenS s ≠ s.size then (0, 40) else if (nextS s 0).2.2 ≠ 0 then (0, (nextS s 0).2.2) else ((nextS s 0).1, 0)

theorem get_cut (s : ByteArray) (a j : Nat) : (s.extract a s.size)[j]? = s[a + j]? := by
  simp only [getElem?_def, ByteArray.size_extract, ByteArray.getElem_extract, Nat.min_self]
  by_cases h : a + j < s.size
  · rw [dif_pos h, dif_pos (by omega)]
  · rw [dif_neg h, dif_neg (by omega)]
theorem tk_cut (s : ByteArray) (a j : Nat) : tk (s.extract a s.size) (j : Nat) = tk s (a + j : Nat) := by
  unfold tk
  simp only [Int.toNat_natCast, get_cut]

/-- The digits of what is left of a text are the text's. -/
theorem dgo_cut (s : ByteArray) (b : Int) (a : Nat) : ∀ (d i : Nat) (v : Int) (g : Bool), dgo s b d (a + i) v g = ((dgo (s.extract a s.size) b d i v g).1, (dgo (s.extract a s.size) b d i v g).2.1, a + (dgo (s.extract a s.size) b d i v g).2.2)
  | 0, i, v, g => rfl
  | d + 1, i, v, g => by
    have ht := tk_cut s a i
    have ih := dgo_cut s b a d (i + 1) (stp b v (dv (tk s (a + i : Nat)))) (g || ovf b v (dv (tk s (a + i : Nat))))
    unfold dgo
    rw [ht]
    split
    · rw [Nat.add_assoc]; exact ih
    · rfl
end Go.Proofs.YtpfanhbkjajocaaDoor

/-
  digit, CutPrefix, Mul64, Add64. Own work; the walks of digit printed by a program of our own.
-/
namespace Go.Proofs.YtpfanhbkjajocaaDoor
open Go.AM
set_option maxRecDepth 100000

theorem u8w {c : Int} (h0 : 0 ≤ c) (h1 : c < 256) : IntKind.u8.wrap c = c := by rw [wrap_u8]; omega

theorem digit_ok (c b : Int) (h0 : 0 ≤ c) (h1 : c < 256) (w : World) : Gives Tryd.prog 77 [.int .u8 c, .int .u64 b] w (.tuple #[.int .u64 (dv c), .bool (decide (dv c < b))]) := by
  refine Gives.of_run Tryd.func77 rfl (by show 2 ≤ 43; decide) ?_
  by_cases x0 : c < 48
  · have hv : dv c = 99 := by unfold dv; (repeat' split) <;> omega
    refine RunF_sound tab_ok noX_local 100 [false, false, false] _ _ rfl ?_ ?_
    · simp
      (repeat' refine And.intro ?_ ?_) <;> omega
    refine Run.retL tab_ok Tryd.func77 rfl trivial (fun M => ?_)
    simp [resAV, conc, concL, hv]
  by_cases x1 : c ≤ 57
  · have hv : dv c = c - 48 := by unfold dv; (repeat' split) <;> omega
    have hw : IntKind.u8.wrap (c - 48) = c - 48 := u8w (by omega) (by omega)
    have hw2 : IntKind.u64.wrap (c - 48) = c - 48 := by rw [wrap_u64] <;> omega
    refine RunF_sound tab_ok noX_local 100 [true, true] _ _ rfl ?_ ?_
    · simp
      (repeat' refine And.intro ?_ ?_) <;> omega
    refine Run.retL tab_ok Tryd.func77 rfl trivial (fun M => ?_)
    simp [resAV, conc, concL, hw, hw2, hv]
  by_cases x2 : c < 65
  · have hv : dv c = 99 := by unfold dv; (repeat' split) <;> omega
    refine RunF_sound tab_ok noX_local 100 [true, false, false, false] _ _ rfl ?_ ?_
    · simp
      (repeat' refine And.intro ?_ ?_) <;> omega
    refine Run.retL tab_ok Tryd.func77 rfl trivial (fun M => ?_)
    simp [resAV, conc, concL, hv]
  by_cases x3 : c ≤ 70
  · have hv : dv c = c - 65 + 10 := by unfold dv; (repeat' split) <;> omega
    have hw : IntKind.u8.wrap (c - 65) = c - 65 := u8w (by omega) (by omega)
    have hw2 : IntKind.u64.wrap (c - 65) = c - 65 := by rw [wrap_u64] <;> omega
    have hw3 : IntKind.u64.wrap (c - 65 + 10) = c - 65 + 10 := by rw [wrap_u64] <;> omega
    refine RunF_sound tab_ok noX_local 100 [true, false, false, true, true] _ _ rfl ?_ ?_
    · simp
      (repeat' refine And.intro ?_ ?_) <;> omega
    refine Run.retL tab_ok Tryd.func77 rfl trivial (fun M => ?_)
    simp [resAV, conc, concL, hw, hw2, hw3, hv]
  by_cases x4 : c < 97
  · have hv : dv c = 99 := by unfold dv; (repeat' split) <;> omega
    refine RunF_sound tab_ok noX_local 100 [true, false, false, true, false] _ _ rfl ?_ ?_
    · simp
      (repeat' refine And.intro ?_ ?_) <;> omega
    refine Run.retL tab_ok Tryd.func77 rfl trivial (fun M => ?_)
    simp [resAV, conc, concL, hv]
  by_cases x5 : c ≤ 102
  · have hv : dv c = c - 97 + 10 := by unfold dv; (repeat' split) <;> omega
    have hw : IntKind.u8.wrap (c - 97) = c - 97 := u8w (by omega) (by omega)
    have hw2 : IntKind.u64.wrap (c - 97) = c - 97 := by rw [wrap_u64] <;> omega
    have hw3 : IntKind.u64.wrap (c - 97 + 10) = c - 97 + 10 := by rw [wrap_u64] <;> omega
    refine RunF_sound tab_ok noX_local 100 [true, false, true, true] _ _ rfl ?_ ?_
    · simp
      (repeat' refine And.intro ?_ ?_) <;> omega
    refine Run.retL tab_ok Tryd.func77 rfl trivial (fun M => ?_)
    simp [resAV, conc, concL, hw, hw2, hw3, hv]
  have hv : dv c = 99 := by unfold dv; (repeat' split) <;> omega
  refine RunF_sound tab_ok noX_local 100 [true, false, true, false, true, false] _ _ rfl ?_ ?_
  · simp
    (repeat' refine And.intro ?_ ?_) <;> omega
  refine Run.retL tab_ok Tryd.func77 rfl trivial (fun M => ?_)
  simp [resAV, conc, concL, hv]
theorem digit_enters : Enters Tryd.prog 77 := enters_mk Tryd.func77 (by decide) rfl

/-- The sign. -/
def dash : ByteArray := ⟨#[45]⟩
def strt (s : ByteArray) : Bool := decide (0 < s.size) && decide (tk s 0 = 45)

theorem list1 (x : UInt8) : (ByteArray.mk #[x]).toList = [x] := by
  unfold ByteArray.toList
  rw [ByteArray.toList.loop]
  have : (ByteArray.mk #[x]).size = 1 := rfl
  simp [this]
  rw [ByteArray.toList.loop]
  simp [this]
  rfl

theorem cut1 (s : ByteArray) (h : 0 < s.size) : ((s.extract 0 1).toList == dash.toList) = decide (tk s 0 = 45) := by
  have e : s.extract 0 1 = ⟨#[s[0]]⟩ := by
    apply ByteArray.ext
    apply Array.ext
    · simp; omega
    · intro i h1 h2
      simp at h2
      subst h2
      simp [ByteArray.getElem_eq_getElem_data]
  rw [e]
  have ht : tk s 0 = ((s[0]).toNat : Int) := by
    unfold tk
    rw [show (0 : Int).toNat = 0 from rfl, getElem?_pos s 0 h]; rfl
  rw [ht, dash, list1, list1, Bool.eq_iff_iff, beq_iff_eq, decide_eq_true_eq, List.cons.injEq]
  constructor
  · rintro ⟨h2, _⟩
    rw [h2]; rfl
  · intro h2
    refine ⟨?_, rfl⟩
    apply UInt8.toNat_inj.1
    have : (s[0]).toNat = 45 := by omega
    rw [this]; rfl

theorem hasPrefix_ok (s : ByteArray) (hs : s.size ≤ maxLen) (w : World) : Gives Tryd.prog 93 [.string s, .string dash] w (.bool (strt s)) := by
  refine Gives.of_run Tryd.func93 rfl (by show 2 ≤ 18; decide) ?_
  have h1 : dash.size = 1 := rfl
  by_cases c : 0 < s.size
  · refine RunF_sound tab_ok noX_local 100 [true] _ _ rfl ?_ ?_
    · simp [h1]; omega
    refine Run.retP tab_ok Tryd.func93 rfl trivial (fun M => ?_)
    have := cut1 s c
    simp [resAV, conc, h1, strt, c, this]
  · refine RunF_sound tab_ok noX_local 100 [false] _ _ rfl ?_ ?_
    · simp [h1]; omega
    refine Run.retP tab_ok Tryd.func93 rfl trivial (fun M => ?_)
    simp [resAV, conc, strt, c]
theorem hasPrefix_enters : Enters Tryd.prog 93 := enters_mk Tryd.func93 (by decide) rfl

def restS (s : ByteArray) : ByteArray := if strt s then s.extract 1 s.size else s

theorem cutPrefix0_ok (s : ByteArray) (hs : s.size ≤ maxLen) (w : World) : Gives Tryd.prog 86 [.string s, .string dash] w (.tuple #[.string (restS s), .bool (strt s)]) := by
  refine Gives.of_run Tryd.func86 rfl (by show 2 ≤ 15; decide) ?_
  have h1 : dash.size = 1 := rfl
  refine RunF_sound tab_ok noX_local 100 [] _ _ rfl ?_ ?_
  · simp
  refine Run.callFn noX_local rfl rfl rfl rfl rfl rfl rfl hasPrefix_enters rfl (fun w' _ => hasPrefix_ok s hs w') ?_
  by_cases c : strt s = true
  · have c0 : 0 < s.size := by unfold strt at c; simp at c; exact c.1
    refine RunF_sound tab_ok noX_local 100 [false] _ _ rfl ?_ ?_
    · simp [h1, c]; omega
    refine Run.retL tab_ok Tryd.func86 rfl trivial (fun M => ?_)
    simp [resAV, conc, concL, h1, restS, c]
  · refine RunF_sound tab_ok noX_local 100 [true] _ _ rfl ?_ ?_
    · simp [c]
    refine Run.retL tab_ok Tryd.func86 rfl trivial (fun M => ?_)
    simp [resAV, conc, concL, restS, c]
theorem cutPrefix0_enters : Enters Tryd.prog 86 := enters_mk Tryd.func86 (by decide) rfl

theorem cutPrefix_ok (s : ByteArray) (hs : s.size ≤ maxLen) (w : World) : Gives Tryd.prog 76 [.string s, .string dash] w (.tuple #[.string (restS s), .bool (strt s)]) := by
  refine Gives.of_run Tryd.func76 rfl (by show 2 ≤ 11; decide) ?_
  refine RunF_sound tab_ok noX_local 100 [] _ _ rfl ?_ ?_
  · simp
  refine Run.callFn noX_local rfl rfl rfl rfl rfl rfl rfl cutPrefix0_enters rfl (fun w' _ => cutPrefix0_ok s hs w') ?_
  refine RunF_sound tab_ok noX_local 100 [] _ _ rfl ?_ ?_
  · simp
  exact Run.retL tab_ok Tryd.func76 rfl trivial (fun M => rfl)
theorem cutPrefix_enters : Enters Tryd.prog 76 := enters_mk Tryd.func76 (by decide) rfl

theorem mask32 {x : Int} (h0 : 0 ≤ x) (h1 : x < 18446744073709551616) : band .u64 x 4294967295 = x % 4294967296 := by
  obtain ⟨n, rfl⟩ := Int.eq_ofNat_of_zero_le h0
  have e : ((n : Nat) : Int) = un (BitVec.ofNat 64 n) := by unfold un; rw [BitVec.toNat_ofNat, Nat.mod_eq_of_lt (by omega)]
  have e2 : (4294967295 : Int) = un 4294967295#64 := rfl
  show band .u64 ((n : Nat) : Int) 4294967295 = ((n : Nat) : Int) % 4294967296
  rw [e, e2, band_un]
  unfold un
  rw [BitVec.toNat_and, BitVec.toNat_ofNat, Nat.mod_eq_of_lt (by omega), show (4294967295#64).toNat = 2 ^ 32 - 1 from rfl, Nat.and_two_pow_sub_one_eq_mod]
  omega
theorem shift32 {x : Int} (h0 : 0 ≤ x) : shrI .u64 x 32 = x / 4294967296 := by
  unfold shrI
  rw [show min (32 : Int).toNat (IntKind.u64).bits = 32 from rfl, Int.fdiv_eq_ediv_of_nonneg _ (by decide)]
  rfl
theorem u64w {x : Int} (h0 : 0 ≤ x) (h1 : x < 18446744073709551616) : IntKind.u64.wrap x = x := by rw [wrap_u64] <;> omega

theorem wrap_u64m (z : Int) : IntKind.u64.wrap z = z % 18446744073709551616 := by
  simp only [IntKind.wrap, IntKind.signed, IntKind.bits]
  simp

theorem mul64_ok (x b : Int) (h0 : 0 ≤ x) (h1 : x < 18446744073709551616) (hb : b = 10 ∨ b = 16) (w : World) :
    Gives Tryd.prog 78 [.int .u64 x, .int .u64 b] w (.tuple #[.int .u64 (x * b / 18446744073709551616), .int .u64 (x * b % 18446744073709551616)]) := by
  refine Gives.of_run Tryd.func78 rfl (by show 2 ≤ 51; decide) ?_
  have m1 := mask32 h0 h1
  have m2 := shift32 h0
  rcases hb with rfl | rfl
  · have c1 : shrI .u64 10 32 = 0 := by decide
    have c2 : band .u64 10 4294967295 = 10 := by decide
    refine RunF_sound tab_ok noX_local 100 [] _ _ rfl ?_ ?_
    · simp
    refine Run.retL tab_ok Tryd.func78 rfl trivial (fun M => ?_)
    simp only [resAV, conc, concL, c1, c2, m1, m2]
    have w1 : IntKind.u64.wrap (x % 4294967296 * 10) = x % 4294967296 * 10 := u64w (by omega) (by omega)
    have w2 : IntKind.u64.wrap (x / 4294967296 * 10) = x / 4294967296 * 10 := u64w (by omega) (by omega)
    have s1 : shrI .u64 (x % 4294967296 * 10) 32 = x % 4294967296 * 10 / 4294967296 := shift32 (by omega)
    have w3 : IntKind.u64.wrap (x / 4294967296 * 10 + x % 4294967296 * 10 / 4294967296) = x / 4294967296 * 10 + x % 4294967296 * 10 / 4294967296 := u64w (by omega) (by omega)
    have s2 : shrI .u64 (x / 4294967296 * 10 + x % 4294967296 * 10 / 4294967296) 32 = (x / 4294967296 * 10 + x % 4294967296 * 10 / 4294967296) / 4294967296 := shift32 (by omega)
    have s3 : band .u64 (x / 4294967296 * 10 + x % 4294967296 * 10 / 4294967296) 4294967295 = (x / 4294967296 * 10 + x % 4294967296 * 10 / 4294967296) % 4294967296 := mask32 (by omega) (by omega)
    have w4 : IntKind.u64.wrap (x / 4294967296 * 0) = 0 := by rw [Int.mul_zero]; rfl
    have w5 : IntKind.u64.wrap (x % 4294967296 * 0) = 0 := by rw [Int.mul_zero]; rfl
    rw [w1, w2, s1, w3, s2, s3, w4, w5, Int.zero_add, Int.add_zero]
    have w6 : IntKind.u64.wrap ((x / 4294967296 * 10 + x % 4294967296 * 10 / 4294967296) / 4294967296) = (x / 4294967296 * 10 + x % 4294967296 * 10 / 4294967296) / 4294967296 := u64w (by omega) (by omega)
    have w7 : IntKind.u64.wrap ((x / 4294967296 * 10 + x % 4294967296 * 10 / 4294967296) % 4294967296) = (x / 4294967296 * 10 + x % 4294967296 * 10 / 4294967296) % 4294967296 := u64w (by omega) (by omega)
    have s4 : shrI .u64 ((x / 4294967296 * 10 + x % 4294967296 * 10 / 4294967296) % 4294967296) 32 = 0 := by rw [shift32 (by omega)]; omega
    rw [w6, w7, s4, Int.add_zero, w6, wrap_u64m, show (x / 4294967296 * 10 + x % 4294967296 * 10 / 4294967296) / 4294967296 = x * 10 / 18446744073709551616 by omega]
  · have c1 : shrI .u64 16 32 = 0 := by decide
    have c2 : band .u64 16 4294967295 = 16 := by decide
    refine RunF_sound tab_ok noX_local 100 [] _ _ rfl ?_ ?_
    · simp
    refine Run.retL tab_ok Tryd.func78 rfl trivial (fun M => ?_)
    simp only [resAV, conc, concL, c1, c2, m1, m2]
    have w1 : IntKind.u64.wrap (x % 4294967296 * 16) = x % 4294967296 * 16 := u64w (by omega) (by omega)
    have w2 : IntKind.u64.wrap (x / 4294967296 * 16) = x / 4294967296 * 16 := u64w (by omega) (by omega)
    have s1 : shrI .u64 (x % 4294967296 * 16) 32 = x % 4294967296 * 16 / 4294967296 := shift32 (by omega)
    have w3 : IntKind.u64.wrap (x / 4294967296 * 16 + x % 4294967296 * 16 / 4294967296) = x / 4294967296 * 16 + x % 4294967296 * 16 / 4294967296 := u64w (by omega) (by omega)
    have s2 : shrI .u64 (x / 4294967296 * 16 + x % 4294967296 * 16 / 4294967296) 32 = (x / 4294967296 * 16 + x % 4294967296 * 16 / 4294967296) / 4294967296 := shift32 (by omega)
    have s3 : band .u64 (x / 4294967296 * 16 + x % 4294967296 * 16 / 4294967296) 4294967295 = (x / 4294967296 * 16 + x % 4294967296 * 16 / 4294967296) % 4294967296 := mask32 (by omega) (by omega)
    have w4 : IntKind.u64.wrap (x / 4294967296 * 0) = 0 := by rw [Int.mul_zero]; rfl
    have w5 : IntKind.u64.wrap (x % 4294967296 * 0) = 0 := by rw [Int.mul_zero]; rfl
    rw [w1, w2, s1, w3, s2, s3, w4, w5, Int.zero_add, Int.add_zero]
    have w6 : IntKind.u64.wrap ((x / 4294967296 * 16 + x % 4294967296 * 16 / 4294967296) / 4294967296) = (x / 4294967296 * 16 + x % 4294967296 * 16 / 4294967296) / 4294967296 := u64w (by omega) (by omega)
    have w7 : IntKind.u64.wrap ((x / 4294967296 * 16 + x % 4294967296 * 16 / 4294967296) % 4294967296) = (x / 4294967296 * 16 + x % 4294967296 * 16 / 4294967296) % 4294967296 := u64w (by omega) (by omega)
    have s4 : shrI .u64 ((x / 4294967296 * 16 + x % 4294967296 * 16 / 4294967296) % 4294967296) 32 = 0 := by rw [shift32 (by omega)]; omega
    rw [w6, w7, s4, Int.add_zero, w6, wrap_u64m, show (x / 4294967296 * 16 + x % 4294967296 * 16 / 4294967296) / 4294967296 = x * 16 / 18446744073709551616 by omega]
theorem mul64_enters : Enters Tryd.prog 78 := enters_mk Tryd.func78 (by decide) rfl
end Go.Proofs.YtpfanhbkjajocaaDoor

/-
  Next: what is left of a text; the walk of word.Next. Own work.
-/
namespace Go.Proofs.YtpfanhbkjajocaaDoor
open Go.AM
set_option maxRecDepth 100000

/-- r is the text s from b on. -/
structure From (s r : ByteArray) (b : Nat) : Prop where
  size : r.size = s.size - b
  at' : ∀ j : Nat, tk r (j : Nat) = tk s (b + j : Nat)

theorem dgo_from {s r : ByteArray} {b : Nat} (h : From s r b) (B : Int) : ∀ (d i : Nat) (v : Int) (g : Bool), dgo s B d (b + i) v g = ((dgo r B d i v g).1, (dgo r B d i v g).2.1, b + (dgo r B d i v g).2.2)
  | 0, i, v, g => rfl
  | d + 1, i, v, g => by
    have ht := h.at' i
    have ih := dgo_from h B d (i + 1) (stp B v (dv (tk s (b + i : Nat)))) (g || ovf B v (dv (tk s (b + i : Nat))))
    unfold dgo
    rw [ht]
    split
    · rw [Nat.add_assoc]; exact ih
    · rfl
theorem hexS_from {s r : ByteArray} {b : Nat} (h : From s r b) : hexS s b = hexS r 0 := by
  have h0 := h.at' 0
  have h1 := h.at' 1
  have h2 := h.at' 2
  have hs := h.size
  unfold hexS xS
  simp only [Nat.zero_add, h1, h2, Nat.add_zero] at h0 ⊢
  rw [h0, hs, show decide (1 < s.size - b) = decide (b + 1 < s.size) from decide_eq_decide.2 (by omega), show decide (2 < s.size - b) = decide (b + 2 < s.size) from decide_eq_decide.2 (by omega)]
theorem baseS_from {s r : ByteArray} {b : Nat} (h : From s r b) : baseS s b = baseS r 0 := by unfold baseS; rw [hexS_from h]
theorem stS_from {s r : ByteArray} {b : Nat} (h : From s r b) : stS s b = b + stS r 0 := by
  unfold stS; rw [hexS_from h]; split <;> omega
theorem runS_from {s r : ByteArray} {b : Nat} (h : From s r b) : runS s b = ((runS r 0).1, (runS r 0).2.1, b + (runS r 0).2.2) := by
  have hs := h.size
  unfold runS
  rw [baseS_from h, stS_from h, show s.size - (b + stS r 0) = r.size - stS r 0 by omega]
  exact dgo_from h _ _ _ _ _

theorem from_cut (s : ByteArray) (a : Nat) (h : a ≤ s.size) : From s (s.extract a s.size) a := ⟨by simp, fun j => tk_cut s a j⟩
theorem From.comp {s r q : ByteArray} {a b : Nat} (h : From s r a) (h' : From r q b) : From s q (a + b) := ⟨by rw [h'.size, h.size]; omega, fun j => by rw [h'.at' j, h.at' (b + j), Nat.add_assoc]⟩

theorem strt_size {s : ByteArray} (h : strt s = true) : 0 < s.size := by unfold strt at h; simp at h; exact h.1
theorem rest_from (s : ByteArray) : From s (restS s) (if strt s then 1 else 0) := by
  unfold restS
  split
  · rename_i h
    exact from_cut s 1 (strt_size h)
  · exact ⟨by omega, fun j => by rw [Nat.zero_add]⟩
theorem strt_cut (s : ByteArray) (a : Nat) (h : a ≤ s.size) : strt (s.extract a s.size) = negS s a := by
  have h1 := (from_cut s a h).size
  have h2 := tk_cut s a 0
  unfold strt negS
  rw [show tk (s.extract a s.size) 0 = tk s a from h2, h1, show decide (0 < s.size - a) = decide (a < s.size) from decide_eq_decide.2 (by omega)]

/-- What Next answers, of what is left. -/
def nextR (r : ByteArray) (ng : Bool) : T3 :=
  if (runS r 0).2.2 = stS r 0 then (0, 0, 40)
  else if (runS r 0).2.1 || (ng && decide ((runS r 0).1 > 9223372036854775808)) then (0, 0, 41)
  else (IntKind.i64.wrap (if ng then IntKind.u64.wrap (0 - (runS r 0).1) else (runS r 0).1), ((runS r 0).2.2 + (if ng then 1 else 0) : Nat), 0)

theorem begS_eq (s : ByteArray) (a : Nat) : begS s a = a + (if negS s a then 1 else 0) := by unfold begS; split <;> rfl

theorem nextAt_eq (s : ByteArray) (a : Nat) (h : a ≤ s.size) : nextAt s a = nextR (restS (s.extract a s.size)) (negS s a) := by
  have hf : From s (restS (s.extract a s.size)) (begS s a) := by
    have := (from_cut s a h).comp (rest_from (s.extract a s.size))
    rw [strt_cut s a h] at this
    rw [begS_eq]; exact this
  unfold nextAt nextR
  rw [runS_from hf, stS_from hf, begS_eq]
  generalize runS (restS (s.extract a s.size)) 0 = F
  generalize stS (restS (s.extract a s.size)) 0 = S0
  by_cases c : F.2.2 = S0
  · rw [if_pos c, if_pos (by show _ + F.2.2 = _ + S0; omega)]
  · rw [if_neg c, if_neg (by show ¬ (_ + F.2.2 = _ + S0); omega)]
    by_cases c2 : (F.2.1 || (negS s a && decide (F.1 > 9223372036854775808))) = true
    · rw [if_pos c2, if_pos c2]
    · rw [if_neg c2, if_neg c2]
      have : (a + (if negS s a = true then 1 else 0) + F.2.2 - a : Nat) = F.2.2 + (if negS s a = true then 1 else 0) := by omega
      rw [this]

theorem lenS_eq (s : ByteArray) : lenS s = (((runS (restS s) 0).2.2 + (if strt s then 1 else 0) : Nat) : Int) := by
  have h0 : strt s = negS s 0 := by unfold strt negS; rfl
  have hf := rest_from s
  unfold lenS
  rw [begS_eq, Nat.zero_add, ← h0, runS_from hf]
  show (((if strt s = true then 1 else 0) + (runS (restS s) 0).2.2 : Nat) : Int) = _
  rw [Nat.add_comm]

theorem base_or (r : ByteArray) (b : Nat) : baseS r b = 10 ∨ baseS r b = 16 := by unfold baseS; split <;> simp
theorem st_le (r : ByteArray) : stS r 0 ≤ r.size := by
  unfold stS
  split
  · rename_i h
    unfold hexS at h
    simp at h
    omega
  · omega

/-- One digit more: what Mul64 and Add64 say of it. -/
theorem ovf_eq {B v d : Int} (hB : B = 10 ∨ B = 16) (h0 : 0 ≤ v) (h1 : v < 18446744073709551616) (hd : 0 ≤ d) (hd' : d ≤ 99) :
    ovf B v d = (decide (v * B / 18446744073709551616 > 0) || decide ((v * B % 18446744073709551616 + d + 0) / 18446744073709551616 > 0)) ∧ (v * B % 18446744073709551616 + d + 0) % 18446744073709551616 = stp B v d := by
  unfold ovf stp
  rcases hB with rfl | rfl
  · refine ⟨?_, by omega⟩
    rw [Bool.eq_iff_iff]; simp; omega
  · refine ⟨?_, by omega⟩
    rw [Bool.eq_iff_iff]; simp; omega

theorem or32 (c : Int) (h0 : 0 ≤ c) (h1 : c < 256) : (bor .u8 c 32 == 120) = (decide (c = 120) || decide (c = 88)) := by
  obtain ⟨n, rfl⟩ := Int.eq_ofNat_of_zero_le h0
  have hn : n < 256 := by omega
  have : ∀ n : Fin 256, (bor .u8 ((n.1 : Nat) : Int) 32 == 120) = (decide (((n.1 : Nat) : Int) = 120) || decide (((n.1 : Nat) : Int) = 88)) := by decide +kernel
  exact this ⟨n, hn⟩
end Go.Proofs.YtpfanhbkjajocaaDoor

/-
  The walk of word.Next. Own work.
-/
namespace Go.Proofs.YtpfanhbkjajocaaDoor
open Go.AM
set_option maxRecDepth 100000

theorem hexS_iff {r : ByteArray} : hexS r 0 = true ↔ 2 < r.size ∧ tk r 0 = 48 ∧ (tk r 1 = 120 ∨ tk r 1 = 88) ∧ dv (tk r 2) < 16 := by
  unfold hexS xS
  simp
  constructor
  · rintro ⟨⟨_, a, b⟩, c, d⟩; exact ⟨c, a, b, d⟩
  · rintro ⟨c, a, b, d⟩; exact ⟨⟨by omega, a, b⟩, c, d⟩

theorem add64_ok (x d : Int) (h0 : 0 ≤ x) (hd : 0 ≤ d) (w : World) :
    (callFunc 79 [Value.int .u64 x, .int .u64 d, .int .u64 0].toArray).run Tryd.prog w = .ok (.value (.tuple #[.int .u64 ((x + d + 0) % 18446744073709551616), .int .u64 ((x + d + 0) / 18446744073709551616)])) w := by
  rw [run_callFunc_extern Tryd.func79 (by kernel_rfl) (by kernel_rfl) (by kernel_rfl) (e := add64Entry) (by kernel_rfl)]
  show ((add64Entry #[.int .u64 x, .int .u64 d, .int .u64 0]).run Tryd.prog w).andThen _ = _
  rw [run_add64 x d 0 h0 hd (by omega) (by omega)]
  rfl

theorem next_ok (s : ByteArray) (a : Int) (w : World) (hs : s.size ≤ maxLen) : Gives Tryd.prog 55 [.string s, .int .i64 a] w (tv (nextS s a)) := by
  refine Gives.of_run Tryd.func55 rfl (by show 2 ≤ 116; decide) ?_
  have hsz : (s.size : Int) ≤ 9223372036854775807 := by simp only [maxLen] at hs; omega
  unfold nextS
  by_cases h1 : a < 0
  · refine RunF_sound tab_ok noX_local 100 [true, true] _ _ rfl ?_ ?_
    · simp [h1]
    · refine Run.retL tab_ok Tryd.func55 rfl trivial (fun M => ?_)
      rw [if_pos (.inl h1)]; rfl
  by_cases h2 : a > s.size
  · refine RunF_sound tab_ok noX_local 100 [false, true] _ _ rfl ?_ ?_
    · simp; omega
    · refine Run.retL tab_ok Tryd.func55 rfl trivial (fun M => ?_)
      rw [if_pos (.inr h2)]; rfl
  rw [if_neg (by omega)]
  have hA : a.toNat ≤ s.size := by omega
  rw [nextAt_eq s a.toNat hA]
  refine RunF_sound tab_ok noX_local 200 [false, false] _ _ rfl ?_ ?_
  · simp; omega
  have hs1 : (s.extract a.toNat s.size).size ≤ maxLen := by simp only [ByteArray.size_extract]; omega
  refine Run.callFn noX_local rfl rfl rfl rfl rfl rfl rfl cutPrefix_enters rfl (fun w' _ => cutPrefix_ok _ hs1 w') ?_
  rw [strt_cut s a.toNat hA]
  have hrs : (restS (s.extract a.toNat s.size)).size ≤ s.size := by
    rw [(rest_from _).size]; simp only [ByteArray.size_extract]; omega
  have hrs2 : negS s a.toNat = true → (restS (s.extract a.toNat s.size)).size + 1 ≤ s.size := fun h => by
    have h3 : strt (s.extract a.toNat s.size) = true := (strt_cut s a.toNat hA).trans h
    have h4 := strt_size h3
    rw [(rest_from _).size, h3]; simp only [ByteArray.size_extract] at h4 ⊢; simp; omega
  generalize restS (s.extract a.toNat s.size) = r at hrs hrs2
  generalize negS s a.toNat = ng at hrs2
  clear hs1 h1 h2 hA
  have hB := base_or r 0
  have hSt := st_le r
  have hrsz : (r.size : Int) ≤ 9223372036854775807 := by omega
  refine' Run.join (todo' := _) [(7, .v (.string r)), (8, .v (.bool ng)), (9, .v (.int .u64 (baseS r 0))), (10, .v (.int .i64 (stS r 0 : Nat))), (13, .v (.int .u64 0)), (14, .v (.bool false)), (15, .v (.int .i64 (stS r 0 : Nat)))] [] 0 ?_ ?_
  rotate_left
  · intro H
    have b0 := tk_nonneg r 0
    have b1 := tk_nonneg r 1
    have b2 := tk_nonneg r 2
    have l1 := tk_lt r 1
    have l2 := tk_lt r 2
    have t0 : (((r[0]?.getD 0).toNat : Nat) : Int) = tk r 0 := rfl
    have t1 : (((r[1]?.getD 0).toNat : Nat) : Int) = tk r 1 := rfl
    have t2 : (((r[2]?.getD 0).toNat : Nat) : Int) = tk r 2 := rfl
    have ho : bor .u8 (tk r 1) 32 = 120 ↔ (tk r 1 = 120 ∨ tk r 1 = 88) := by
      have := or32 (tk r 1) b1 l1
      rw [Bool.eq_iff_iff] at this
      simpa using this
    by_cases c1 : r.size > 2
    · by_cases c2 : tk r 0 = 48
      · by_cases c3 : tk r 1 = 120 ∨ tk r 1 = 88
        · refine RunF_sound tab_ok noX_local 200 [true, true, true] _ _ rfl ?_ ?_
          · simp [t0, t1, ho, c2, c3]; omega
          refine Run.callFn noX_local rfl rfl rfl rfl rfl rfl rfl digit_enters rfl (fun w' _ => digit_ok (tk r 2) 16 b2 l2 w') ?_
          by_cases c4 : dv (tk r 2) < 16
          · have hx : hexS r 0 = true := hexS_iff.2 ⟨c1, c2, c3, c4⟩
            have hb : baseS r 0 = 16 := by unfold baseS; rw [hx]; rfl
            have hst : stS r 0 = 2 := by unfold stS; rw [hx]; rfl
            refine RunF_sound tab_ok noX_local 200 [true] _ _ rfl ?_ ?_
            · simp [c4]
            refine H _ ?_ trivial
            exact ⟨⟨_, rfl, fun M => rfl⟩, ⟨_, rfl, fun M => rfl⟩, ⟨_, rfl, fun M => by simp only [conc, hb]⟩, ⟨_, rfl, fun M => by simp only [conc, hst]; rfl⟩, ⟨_, rfl, fun M => rfl⟩, ⟨_, rfl, fun M => rfl⟩, ⟨_, rfl, fun M => by simp only [conc, hst]; rfl⟩, trivial⟩
          · have hx : hexS r 0 = false := Bool.eq_false_iff.2 fun h => c4 (hexS_iff.1 h).2.2.2
            have hb : baseS r 0 = 10 := by unfold baseS; rw [hx]; rfl
            have hst : stS r 0 = 0 := by unfold stS; rw [hx]; rfl
            refine RunF_sound tab_ok noX_local 200 [false] _ _ rfl ?_ ?_
            · simp; omega
            refine H _ ?_ trivial
            exact ⟨⟨_, rfl, fun M => rfl⟩, ⟨_, rfl, fun M => rfl⟩, ⟨_, rfl, fun M => by simp only [conc, hb]⟩, ⟨_, rfl, fun M => by simp only [conc, hst]; rfl⟩, ⟨_, rfl, fun M => rfl⟩, ⟨_, rfl, fun M => rfl⟩, ⟨_, rfl, fun M => by simp only [conc, hst]; rfl⟩, trivial⟩
        · have hx : hexS r 0 = false := Bool.eq_false_iff.2 fun h => c3 (hexS_iff.1 h).2.2.1
          have hb : baseS r 0 = 10 := by unfold baseS; rw [hx]; rfl
          have hst : stS r 0 = 0 := by unfold stS; rw [hx]; rfl
          refine RunF_sound tab_ok noX_local 200 [true, true, false] _ _ rfl ?_ ?_
          · simp [t0, t1, ho, c2]
            (repeat' refine And.intro ?_ ?_) <;> first | omega | simpa using c3
          refine H _ ?_ trivial
          exact ⟨⟨_, rfl, fun M => rfl⟩, ⟨_, rfl, fun M => rfl⟩, ⟨_, rfl, fun M => by simp only [conc, hb]⟩, ⟨_, rfl, fun M => by simp only [conc, hst]; rfl⟩, ⟨_, rfl, fun M => rfl⟩, ⟨_, rfl, fun M => rfl⟩, ⟨_, rfl, fun M => by simp only [conc, hst]; rfl⟩, trivial⟩
      · have hx : hexS r 0 = false := Bool.eq_false_iff.2 fun h => c2 (hexS_iff.1 h).2.1
        have hb : baseS r 0 = 10 := by unfold baseS; rw [hx]; rfl
        have hst : stS r 0 = 0 := by unfold stS; rw [hx]; rfl
        refine RunF_sound tab_ok noX_local 200 [true, false] _ _ rfl ?_ ?_
        · simp [t0, c2]; omega
        refine H _ ?_ trivial
        exact ⟨⟨_, rfl, fun M => rfl⟩, ⟨_, rfl, fun M => rfl⟩, ⟨_, rfl, fun M => by simp only [conc, hb]⟩, ⟨_, rfl, fun M => by simp only [conc, hst]; rfl⟩, ⟨_, rfl, fun M => rfl⟩, ⟨_, rfl, fun M => rfl⟩, ⟨_, rfl, fun M => by simp only [conc, hst]; rfl⟩, trivial⟩
    · have hx : hexS r 0 = false := Bool.eq_false_iff.2 fun h => c1 (hexS_iff.1 h).1
      have hb : baseS r 0 = 10 := by unfold baseS; rw [hx]; rfl
      have hst : stS r 0 = 0 := by unfold stS; rw [hx]; rfl
      refine RunF_sound tab_ok noX_local 200 [false] _ _ rfl ?_ ?_
      · simp; omega
      refine H _ ?_ trivial
      exact ⟨⟨_, rfl, fun M => rfl⟩, ⟨_, rfl, fun M => rfl⟩, ⟨_, rfl, fun M => by simp only [conc, hb]⟩, ⟨_, rfl, fun M => by simp only [conc, hst]; rfl⟩, ⟨_, rfl, fun M => rfl⟩, ⟨_, rfl, fun M => rfl⟩, ⟨_, rfl, fun M => by simp only [conc, hst]; rfl⟩, trivial⟩
  have hF : runS r 0 = dgo r (baseS r 0) (r.size - stS r 0) (stS r 0) 0 false := rfl
  unfold nextR
  generalize runS r 0 = F at hF
  generalize baseS r 0 = B at *
  generalize stS r 0 = S0 at *
  have hFb := dgo_bounds r B (r.size - S0) S0 0 false (by omega) (by omega)
  rw [← hF] at hFb
  refine' Run.join (todo' := _) [(8, .v (.bool ng)), (13, .v (.int .u64 F.1)), (14, .v (.bool F.2.1)), (15, .v (.int .i64 (F.2.2 : Nat))), (99, .v (.bool (((F.2.2 : Nat) : Int) == (S0 : Int))))] [] 0 ?_ ?_
  rotate_left
  · intro H
    suffices K : ∀ (d i : Nat) (v : Int) (g : Bool), i + d = r.size → F = dgo r B d i v g → 0 ≤ v → v < 18446744073709551616 → ∀ σ, inTC σ.t [(7, .v (.string r)), (8, .v (.bool ng)), (9, .v (.int .u64 B)), (10, .v (.int .i64 (S0 : Nat))), (13, .v (.int .u64 v)), (14, .v (.bool g)), (15, .v (.int .i64 (i : Nat)))] → inT σ.h [] → Run _ _ σ by
      exact K (r.size - S0) S0 0 false (by omega) hF (by omega) (by omega) _ ⟨⟨_, rfl, fun M => rfl⟩, ⟨_, rfl, fun M => rfl⟩, ⟨_, rfl, fun M => rfl⟩, ⟨_, rfl, fun M => rfl⟩, ⟨_, rfl, fun M => rfl⟩, ⟨_, rfl, fun M => rfl⟩, ⟨_, rfl, fun M => rfl⟩, trivial⟩ trivial
    intro d
    induction d with
    | zero =>
      intro i v g hi hv h0 h1 σ ht hh
      refine Run.toC ?_ ht hh (n' := 0)
      rw [dgo] at hv
      refine RunF_sound tab_ok noX_local 200 [false] _ _ rfl ?_ ?_
      · simp; omega
      refine H _ ?_ trivial
      exact ⟨⟨_, rfl, fun M => rfl⟩, ⟨_, rfl, fun M => by rw [hv]⟩, ⟨_, rfl, fun M => by rw [hv]⟩, ⟨_, rfl, fun M => by rw [hv]⟩, ⟨_, rfl, fun M => by rw [hv] <;> rfl⟩, trivial⟩
    | succ d ih =>
      intro i v g hi hv h0 h1 σ ht hh
      refine Run.toC ?_ ht hh (n' := 0)
      rw [dgo] at hv
      have hil : i < r.size := by omega
      have c0 := tk_nonneg r i
      have c1 := tk_lt r i
      have hd := dv_bounds (tk r i)
      refine RunF_sound tab_ok noX_local 200 [true] _ _ rfl ?_ ?_
      · simp; omega
      refine Run.callFn noX_local rfl rfl rfl rfl rfl rfl rfl digit_enters rfl (fun w' _ => digit_ok (tk r i) B c0 c1 w') ?_
      by_cases cd : dv (tk r i) < B
      · rw [if_pos cd] at hv
        refine RunF_sound tab_ok noX_local 200 [false] _ _ rfl ?_ ?_
        · simp [cd]
        refine Run.callFn noX_local rfl rfl rfl rfl rfl rfl rfl mul64_enters rfl (fun w' _ => mul64_ok v B h0 h1 hB w') ?_
        obtain ⟨ho, hst⟩ := ovf_eq hB h0 h1 hd.1 hd.2
        have hlo : 0 ≤ v * B % 18446744073709551616 := by omega
        generalize v * B % 18446744073709551616 = lo at *
        generalize v * B / 18446744073709551616 = hi' at *
        refine RunF_sound tab_ok noX_local 200 [] _ _ rfl ?_ ?_
        · simp
        refine Run.callX rfl rfl rfl rfl rfl rfl rfl rfl (fun w' => add64_ok lo (dv (tk r i)) hlo hd.1 w') ?_
        have hst0 : 0 ≤ stp B v (dv (tk r i)) := by unfold stp; omega
        have hst1 : stp B v (dv (tk r i)) < 18446744073709551616 := by unfold stp; omega
        cases g with
        | true =>
          rw [Bool.true_or] at hv
          refine RunF_sound tab_ok noX_local 200 [true, true] _ _ rfl ?_ ?_
          · simp
          refine ih (i + 1) _ _ (by omega) hv hst0 hst1 _ ?_ trivial
          exact ⟨⟨_, rfl, fun M => rfl⟩, ⟨_, rfl, fun M => rfl⟩, ⟨_, rfl, fun M => rfl⟩, ⟨_, rfl, fun M => rfl⟩, ⟨_, rfl, fun M => by simp only [conc, hst]; rfl⟩, ⟨_, rfl, fun M => rfl⟩, ⟨_, rfl, fun M => by simp only [conc, wrap_succ (show i < 9223372036854775807 by omega)]⟩, trivial⟩
        | false =>
          rw [Bool.false_or] at hv
          by_cases ch : hi' > 0
          · refine RunF_sound tab_ok noX_local 200 [false, true] _ _ rfl ?_ ?_
            · simp [ch]
            have hov : ovf B v (dv (tk r i)) = true := by rw [ho, decide_eq_true ch]; rfl
            refine ih (i + 1) _ _ (by omega) hv hst0 hst1 _ ?_ trivial
            exact ⟨⟨_, rfl, fun M => rfl⟩, ⟨_, rfl, fun M => rfl⟩, ⟨_, rfl, fun M => rfl⟩, ⟨_, rfl, fun M => rfl⟩, ⟨_, rfl, fun M => by simp only [conc, hst]; rfl⟩, ⟨_, rfl, fun M => by rw [hov] <;> rfl⟩, ⟨_, rfl, fun M => by simp only [conc, wrap_succ (show i < 9223372036854775807 by omega)]⟩, trivial⟩
          · refine RunF_sound tab_ok noX_local 200 [false, false] _ _ rfl ?_ ?_
            · simp [ch]
            have hov : ovf B v (dv (tk r i)) = decide ((lo + dv (tk r i) + 0) / 18446744073709551616 > 0) := by rw [ho, decide_eq_false ch]; rfl
            refine ih (i + 1) _ _ (by omega) hv hst0 hst1 _ ?_ trivial
            exact ⟨⟨_, rfl, fun M => rfl⟩, ⟨_, rfl, fun M => rfl⟩, ⟨_, rfl, fun M => rfl⟩, ⟨_, rfl, fun M => rfl⟩, ⟨_, rfl, fun M => by simp only [conc, hst]; rfl⟩, ⟨_, rfl, fun M => by rw [hov] <;> rfl⟩, ⟨_, rfl, fun M => by simp only [conc, wrap_succ (show i < 9223372036854775807 by omega)]⟩, trivial⟩
      · rw [if_neg cd] at hv
        refine RunF_sound tab_ok noX_local 200 [true] _ _ rfl ?_ ?_
        · simp [cd]
        refine H _ ?_ trivial
        exact ⟨⟨_, rfl, fun M => rfl⟩, ⟨_, rfl, fun M => by rw [hv]⟩, ⟨_, rfl, fun M => by rw [hv]⟩, ⟨_, rfl, fun M => by rw [hv]⟩, ⟨_, rfl, fun M => by rw [hv] <;> rfl⟩, trivial⟩
  clear hF
  obtain ⟨v, g, e⟩ := F
  simp only [] at hFb ⊢
  by_cases x1 : e = S0
  · refine RunF_sound tab_ok noX_local 200 [true] _ _ rfl ?_ ?_
    · simp [x1]
    refine Run.retL tab_ok Tryd.func55 rfl trivial (fun M => ?_)
    rw [if_pos x1]; rfl
  rw [if_neg x1]
  have x1' : ¬ ((e : Int) = S0) := by omega
  cases ng with
  | true =>
    have hrs3 := hrs2 rfl
    cases g with
    | true =>
      refine RunF_sound tab_ok noX_local 200 [false, true, true, true] _ _ rfl ?_ ?_
      · simp [x1']
      refine Run.retL tab_ok Tryd.func55 rfl trivial (fun M => ?_)
      rfl
    | false =>
      by_cases x2 : v > 9223372036854775808
      · refine RunF_sound tab_ok noX_local 200 [false, true, false, true] _ _ rfl ?_ ?_
        · simp [x1', x2]
        refine Run.retL tab_ok Tryd.func55 rfl trivial (fun M => ?_)
        rw [if_pos (by simp [x2])]; rfl
      · refine RunF_sound tab_ok noX_local 200 [false, true, false, false] _ _ rfl ?_ ?_
        · simp [x1', x2]
        refine Run.retL tab_ok Tryd.func55 rfl trivial (fun M => ?_)
        rw [if_neg (by simp [x2])]
        have := wrap_succ (show e < 9223372036854775807 by omega)
        simp only [resAV, conc, concL, this]
        rfl
  | false =>
    cases g with
    | true =>
      refine RunF_sound tab_ok noX_local 200 [false, false, true] _ _ rfl ?_ ?_
      · simp [x1']
      refine Run.retL tab_ok Tryd.func55 rfl trivial (fun M => ?_)
      rfl
    | false =>
      refine RunF_sound tab_ok noX_local 200 [false, false, false] _ _ rfl ?_ ?_
      · simp [x1']
      refine Run.retL tab_ok Tryd.func55 rfl trivial (fun M => ?_)
      rfl
theorem next_enters : Enters Tryd.prog 55 := enters_mk Tryd.func55 (by decide) rfl
end Go.Proofs.YtpfanhbkjajocaaDoor

/-
  word.length and word.Parse. Own work.
-/
namespace Go.Proofs.YtpfanhbkjajocaaDoor
open Go.AM
set_option maxRecDepth 100000

theorem length_ok (s : ByteArray) (w : World) (hs : s.size ≤ maxLen) : Gives Tryd.prog 75 [.string s] w (.int .i64 (lenS s)) := by
  refine Gives.of_run Tryd.func75 rfl (by show 1 ≤ 57; decide) ?_
  have hsz : (s.size : Int) ≤ 9223372036854775807 := by simp only [maxLen] at hs; omega
  rw [lenS_eq]
  refine RunF_sound tab_ok noX_local 200 [] _ _ rfl ?_ ?_
  · simp
  refine Run.callFn noX_local rfl rfl rfl rfl rfl rfl rfl cutPrefix_enters rfl (fun w' _ => cutPrefix_ok s hs w') ?_
  have hrs : (restS s).size ≤ s.size := by rw [(rest_from _).size]; omega
  have hrs2 : strt s = true → (restS s).size + 1 ≤ s.size := fun h => by
    have h4 := strt_size h
    rw [(rest_from _).size, h]; simp; omega
  generalize restS s = r at hrs hrs2
  generalize strt s = ng at hrs2
  have hB := base_or r 0
  have hSt := st_le r
  have hrsz : (r.size : Int) ≤ 9223372036854775807 := by omega
  refine' Run.join (todo' := _) [(3, .v (.string r)), (4, .v (.bool ng)), (5, .v (.int .u64 (baseS r 0))), (6, .v (.int .i64 (stS r 0 : Nat)))] [] 0 ?_ ?_
  rotate_left
  · intro H
    have b0 := tk_nonneg r 0
    have b1 := tk_nonneg r 1
    have b2 := tk_nonneg r 2
    have l1 := tk_lt r 1
    have l2 := tk_lt r 2
    have t0 : (((r[0]?.getD 0).toNat : Nat) : Int) = tk r 0 := rfl
    have t1 : (((r[1]?.getD 0).toNat : Nat) : Int) = tk r 1 := rfl
    have t2 : (((r[2]?.getD 0).toNat : Nat) : Int) = tk r 2 := rfl
    have ho : bor .u8 (tk r 1) 32 = 120 ↔ (tk r 1 = 120 ∨ tk r 1 = 88) := by
      have := or32 (tk r 1) b1 l1
      rw [Bool.eq_iff_iff] at this
      simpa using this
    by_cases c1 : r.size > 2
    · by_cases c2 : tk r 0 = 48
      · by_cases c3 : tk r 1 = 120 ∨ tk r 1 = 88
        · refine RunF_sound tab_ok noX_local 200 [true, true, true] _ _ rfl ?_ ?_
          · simp [t0, t1, ho, c2, c3]; omega
          refine Run.callFn noX_local rfl rfl rfl rfl rfl rfl rfl digit_enters rfl (fun w' _ => digit_ok (tk r 2) 16 b2 l2 w') ?_
          by_cases c4 : dv (tk r 2) < 16
          · have hx : hexS r 0 = true := hexS_iff.2 ⟨c1, c2, c3, c4⟩
            have hb : baseS r 0 = 16 := by unfold baseS; rw [hx]; rfl
            have hst : stS r 0 = 2 := by unfold stS; rw [hx]; rfl
            refine RunF_sound tab_ok noX_local 200 [true] _ _ rfl ?_ ?_
            · simp [c4]
            refine H _ ?_ trivial
            exact ⟨⟨_, rfl, fun M => rfl⟩, ⟨_, rfl, fun M => rfl⟩, ⟨_, rfl, fun M => by simp only [conc, hb]⟩, ⟨_, rfl, fun M => by simp only [conc, hst]; rfl⟩, trivial⟩
          · have hx : hexS r 0 = false := Bool.eq_false_iff.2 fun h => c4 (hexS_iff.1 h).2.2.2
            have hb : baseS r 0 = 10 := by unfold baseS; rw [hx]; rfl
            have hst : stS r 0 = 0 := by unfold stS; rw [hx]; rfl
            refine RunF_sound tab_ok noX_local 200 [false] _ _ rfl ?_ ?_
            · simp; omega
            refine H _ ?_ trivial
            exact ⟨⟨_, rfl, fun M => rfl⟩, ⟨_, rfl, fun M => rfl⟩, ⟨_, rfl, fun M => by simp only [conc, hb]⟩, ⟨_, rfl, fun M => by simp only [conc, hst]; rfl⟩, trivial⟩
        · have hx : hexS r 0 = false := Bool.eq_false_iff.2 fun h => c3 (hexS_iff.1 h).2.2.1
          have hb : baseS r 0 = 10 := by unfold baseS; rw [hx]; rfl
          have hst : stS r 0 = 0 := by unfold stS; rw [hx]; rfl
          refine RunF_sound tab_ok noX_local 200 [true, true, false] _ _ rfl ?_ ?_
          · simp [t0, t1, ho, c2]
            (repeat' refine And.intro ?_ ?_) <;> first | omega | simpa using c3
          refine H _ ?_ trivial
          exact ⟨⟨_, rfl, fun M => rfl⟩, ⟨_, rfl, fun M => rfl⟩, ⟨_, rfl, fun M => by simp only [conc, hb]⟩, ⟨_, rfl, fun M => by simp only [conc, hst]; rfl⟩, trivial⟩
      · have hx : hexS r 0 = false := Bool.eq_false_iff.2 fun h => c2 (hexS_iff.1 h).2.1
        have hb : baseS r 0 = 10 := by unfold baseS; rw [hx]; rfl
        have hst : stS r 0 = 0 := by unfold stS; rw [hx]; rfl
        refine RunF_sound tab_ok noX_local 200 [true, false] _ _ rfl ?_ ?_
        · simp [t0, c2]; omega
        refine H _ ?_ trivial
        exact ⟨⟨_, rfl, fun M => rfl⟩, ⟨_, rfl, fun M => rfl⟩, ⟨_, rfl, fun M => by simp only [conc, hb]⟩, ⟨_, rfl, fun M => by simp only [conc, hst]; rfl⟩, trivial⟩
    · have hx : hexS r 0 = false := Bool.eq_false_iff.2 fun h => c1 (hexS_iff.1 h).1
      have hb : baseS r 0 = 10 := by unfold baseS; rw [hx]; rfl
      have hst : stS r 0 = 0 := by unfold stS; rw [hx]; rfl
      refine RunF_sound tab_ok noX_local 200 [false] _ _ rfl ?_ ?_
      · simp; omega
      refine H _ ?_ trivial
      exact ⟨⟨_, rfl, fun M => rfl⟩, ⟨_, rfl, fun M => rfl⟩, ⟨_, rfl, fun M => by simp only [conc, hb]⟩, ⟨_, rfl, fun M => by simp only [conc, hst]; rfl⟩, trivial⟩
  have hF : runS r 0 = dgo r (baseS r 0) (r.size - stS r 0) (stS r 0) 0 false := rfl
  generalize runS r 0 = F at hF
  generalize baseS r 0 = B at *
  generalize stS r 0 = S0 at *
  have hFb := dgo_bounds r B (r.size - S0) S0 0 false (by omega) (by omega)
  rw [← hF] at hFb
  refine' Run.join (todo' := _) [(6, .v (.int .i64 (F.2.2 : Nat))), (53, .v (.bool ng))] [] 0 ?_ ?_
  rotate_left
  · intro H
    suffices K : ∀ (d i : Nat) (v : Int) (g : Bool), i + d = r.size → F = dgo r B d i v g → ∀ σ, inT σ.t [(3, .v (.string r)), (4, .v (.bool ng)), (5, .v (.int .u64 B)), (6, .v (.int .i64 (i : Nat)))] → inT σ.h [] → Run _ _ σ by
      exact K (r.size - S0) S0 0 false (by omega) hF _ ⟨rfl, rfl, rfl, rfl, trivial⟩ trivial
    intro d
    induction d with
    | zero =>
      intro i v g hi hv σ ht hh
      refine Run.to ?_ ht hh (n' := 0)
      rw [dgo] at hv
      refine RunF_sound tab_ok noX_local 200 [false] _ _ rfl ?_ ?_
      · simp; omega
      refine H _ ?_ trivial
      exact ⟨⟨_, rfl, fun M => by rw [hv]⟩, ⟨_, rfl, fun M => rfl⟩, trivial⟩
    | succ d ih =>
      intro i v g hi hv σ ht hh
      refine Run.to ?_ ht hh (n' := 0)
      rw [dgo] at hv
      have hil : i < r.size := by omega
      have c0 := tk_nonneg r i
      have c1 := tk_lt r i
      refine RunF_sound tab_ok noX_local 200 [true] _ _ rfl ?_ ?_
      · simp; omega
      refine Run.callFn noX_local rfl rfl rfl rfl rfl rfl rfl digit_enters rfl (fun w' _ => digit_ok (tk r i) B c0 c1 w') ?_
      by_cases cd : dv (tk r i) < B
      · rw [if_pos cd] at hv
        refine RunF_sound tab_ok noX_local 200 [false] _ _ rfl ?_ ?_
        · simp [cd]
        exact ih (i + 1) _ _ (by omega) hv _ ⟨rfl, rfl, rfl, i64_eq (wrap_succ (by omega)), trivial⟩ trivial
      · rw [if_neg cd] at hv
        refine RunF_sound tab_ok noX_local 200 [true] _ _ rfl ?_ ?_
        · simp [cd]
        refine H _ ?_ trivial
        exact ⟨⟨_, rfl, fun M => by rw [hv]⟩, ⟨_, rfl, fun M => rfl⟩, trivial⟩
  cases ng with
  | true =>
    have hrs3 := hrs2 rfl
    refine RunF_sound tab_ok noX_local 200 [true] _ _ rfl ?_ ?_
    · simp
    refine Run.retP tab_ok Tryd.func75 rfl trivial (fun M => ?_)
    have := wrap_succ (show F.2.2 < 9223372036854775807 by omega)
    simp only [resAV, conc, this]
    rfl
  | false =>
    refine RunF_sound tab_ok noX_local 200 [false] _ _ rfl ?_ ?_
    · simp
    exact Run.retP tab_ok Tryd.func75 rfl trivial (fun M => rfl)
theorem length_enters : Enters Tryd.prog 75 := enters_mk Tryd.func75 (by decide) rfl

theorem next_err (s : ByteArray) : (nextS s 0).2.2 = 40 ∨ (nextS s 0).2.2 = 41 ∨ ((nextS s 0).2.2 = 0 ∧ (nextS s 0).2.1 = lenS s) := by
  unfold nextS
  rw [if_neg (by omega)]
  unfold nextAt
  split
  · exact .inl rfl
  · split
    · exact .inr (.inl rfl)
    · exact .inr (.inr ⟨rfl, rfl⟩)

theorem parse_ok (s : ByteArray) (w : World) (hs : s.size ≤ maxLen) : Gives Tryd.prog 54 [.string s] w (.tuple #[.int .i64 (parseS s).1, .int .i64 (parseS s).2]) := by
  refine Gives.of_run Tryd.func54 rfl (by show 1 ≤ 33; decide) ?_
  have he := next_err s
  unfold parseS
  refine RunF_sound tab_ok noX_local 200 [] _ _ rfl ?_ ?_
  · simp
  refine Run.callFn noX_local rfl rfl rfl rfl rfl rfl rfl next_enters rfl (fun w' _ => next_ok s 0 w' hs) ?_
  have hlen : ∀ w', Gives Tryd.prog 75 [.string s] w' (.int .i64 (lenS s)) := fun w' => length_ok s w' hs
  generalize nextS s 0 = N at he
  generalize lenS s = l at he hlen
  obtain ⟨v, n, e⟩ := N
  simp only [] at he ⊢
  by_cases c1 : e = 40
  · refine RunF_sound tab_ok noX_local 200 [true] _ _ rfl ?_ ?_
    · simp [c1, tv]
    refine Run.retL tab_ok Tryd.func54 rfl trivial (fun M => ?_)
    rw [if_pos c1, c1]; rfl
  rw [if_neg c1]
  refine RunF_sound tab_ok noX_local 200 [false] _ _ rfl ?_ ?_
  · simp [c1, tv]
  refine Run.callFn noX_local rfl rfl rfl rfl rfl rfl rfl length_enters rfl (fun w' _ => hlen w') ?_
  by_cases c2 : l = s.size
  · rw [if_neg (by simpa using c2)]
    by_cases c3 : e = 0
    · rw [if_neg (by simpa using c3)]
      have hn : n = s.size := by
        rcases he with h | h | h
        · omega
        · omega
        · rw [h.2, c2]
      refine RunF_sound tab_ok noX_local 200 [false, false, false] _ _ rfl ?_ ?_
      · simp [c2, c3, hn]
      exact Run.retL tab_ok Tryd.func54 rfl trivial (fun M => rfl)
    · rw [if_pos (by simpa using c3)]
      refine RunF_sound tab_ok noX_local 200 [false, true] _ _ rfl ?_ ?_
      · simp [c2, c3]
      exact Run.retL tab_ok Tryd.func54 rfl trivial (fun M => rfl)
  · rw [if_pos (by simpa using c2)]
    refine RunF_sound tab_ok noX_local 200 [true] _ _ rfl ?_ ?_
    · simp [c2]
    exact Run.retL tab_ok Tryd.func54 rfl trivial (fun M => rfl)
theorem parse_enters : Enters Tryd.prog 54 := enters_mk Tryd.func54 (by decide) rfl
end Go.Proofs.YtpfanhbkjajocaaDoor

/-
  The reference's Next, whole and Parse. Own work.
-/
namespace Go.Proofs.YtpfanhbkjajocaaDoor
open Go.AM
set_option maxRecDepth 100000

theorem runS_ten {s : ByteArray} {b : Nat} (h : hexS s b = false) : runS s b = dgo s 10 (s.size - b) b 0 false ∧ stS s b = b := by
  have h1 : baseS s b = 10 := by unfold baseS; rw [h]; rfl
  have h2 : stS s b = b := by unfold stS; rw [h]; rfl
  exact ⟨by unfold runS; rw [h1, h2], h2⟩
theorem runS_hex {s : ByteArray} {b : Nat} (h : hexS s b = true) : runS s b = dgo s 16 (s.size - (b + 2)) (b + 2) 0 false ∧ stS s b = b + 2 := by
  have h1 : baseS s b = 16 := by unfold baseS; rw [h]; rfl
  have h2 : stS s b = b + 2 := by unfold stS; rw [h]; rfl
  exact ⟨by unfold runS; rw [h1, h2], h2⟩
theorem hexS_iff' {s : ByteArray} {b : Nat} : hexS s b = true ↔ xS s b = true ∧ b + 2 < s.size ∧ dv (tk s (b + 2 : Nat)) < 16 := by
  unfold hexS; simp [and_assoc]
theorem xS_iff {s : ByteArray} {b : Nat} : xS s b = true ↔ b + 1 < s.size ∧ tk s b = 48 ∧ (tk s (b + 1 : Nat) = 120 ∨ tk s (b + 1 : Nat) = 88) := by
  unfold xS; simp
theorem hex_run {s : ByteArray} {b : Nat} (h : hexS s b = true) : (runS s b).2.2 ≠ stS s b := by
  obtain ⟨_, h1, h2⟩ := hexS_iff'.1 h
  rw [(runS_hex h).1, (runS_hex h).2]
  intro h3
  rcases (dgo_none s 16 _ _ _ _).1 h3 with h4 | h4
  · omega
  · exact h4 h2
theorem ten_zero {s : ByteArray} {b : Nat} (h : (dgo s 10 (s.size - b) b 0 false).2.2 = b) : hexS s b = false := by
  rw [Bool.eq_false_iff]
  intro h2
  obtain ⟨h3, h4, _⟩ := hexS_iff'.1 h2
  have h5 := (xS_iff.1 h3).2.1
  rcases (dgo_none s 10 _ _ _ _).1 h with h6 | h6
  · omega
  · apply h6; rw [h5]; decide

end Go.Proofs.YtpfanhbkjajocaaDoor

/-
  What Next finds is what Parse says of those bytes; one byte more is no number. In plain Lean. Own work.
-/
namespace Go.Proofs.YtpfanhbkjajocaaDoor
open Go.AM

/-- q is k bytes of s from a on. -/
structure Win (s q : ByteArray) (a k : Nat) : Prop where
  size : q.size = k
  le : a + k ≤ s.size
  at' : ∀ j : Nat, j < k → tk q (j : Nat) = tk s (a + j : Nat)

theorem win_cut (s : ByteArray) (a k : Nat) (h : a + k ≤ s.size) : Win s (s.extract a (a + k)) a k := by
  refine ⟨by simp; omega, h, fun j hj => ?_⟩
  have hs : (s.extract a (a + k)).size = k := by simp; omega
  unfold tk
  simp only [Int.toNat_natCast]
  have e1 : (s.extract a (a + k))[j]? = s[a + j]? := by
    simp only [getElem?_def, ByteArray.getElem_extract]
    rw [dif_pos (by omega), dif_pos (by omega)]
  rw [e1]

theorem dgo_le (s : ByteArray) (B : Int) : ∀ (d i : Nat) (v : Int) (g : Bool), i ≤ (dgo s B d i v g).2.2
  | 0, i, v, g => Nat.le_refl _
  | d + 1, i, v, g => by
    unfold dgo
    split
    · have := dgo_le s B d (i + 1) (stp B v (dv (tk s i))) (g || ovf B v (dv (tk s i))); omega
    · exact Nat.le_refl _
theorem dgo_end (s : ByteArray) (B : Int) : ∀ (d i : Nat) (v : Int) (g : Bool), (dgo s B d i v g).2.2 ≤ i + d
  | 0, i, v, g => Nat.le_refl _
  | d + 1, i, v, g => by
    unfold dgo
    split
    · have := dgo_end s B d (i + 1) (stp B v (dv (tk s i))) (g || ovf B v (dv (tk s i))); omega
    · exact Nat.le_add_right _ _
theorem dgo_stop (s : ByteArray) (B : Int) (d i : Nat) (v : Int) (g : Bool) (h : (dgo s B d i v g).2.2 = i) : dgo s B d i v g = (v, g, i) := by
  rcases (dgo_none s B d i v g).1 h with rfl | h2
  · rfl
  · cases d with
    | zero => rfl
    | succ d => unfold dgo; rw [if_neg h2]

theorem dgo_win {s q : ByteArray} {a k : Nat} (h : Win s q a k) (B : Int) : ∀ (d' d i : Nat) (v : Int) (g : Bool), i + d' = k → (dgo s B d (a + i) v g).2.2 ≤ a + k → d' ≤ d →
    dgo q B d' i v g = ((dgo s B d (a + i) v g).1, (dgo s B d (a + i) v g).2.1, (dgo s B d (a + i) v g).2.2 - a)
  | 0, d, i, v, g, hk, he, _ => by
    have h1 := dgo_le s B d (a + i) v g
    rw [dgo_stop s B d (a + i) v g (by omega)]
    show (v, g, i) = (v, g, a + i - a)
    rw [Nat.add_sub_cancel_left]
  | d' + 1, 0, i, v, g, hk, he, hd => by omega
  | d' + 1, d + 1, i, v, g, hk, he, hd => by
    have ht := h.at' i (by omega)
    have ih := dgo_win h B d' d (i + 1)
    unfold dgo at he ⊢
    rw [ht]
    by_cases c : dv (tk s (a + i : Nat)) < B
    · rw [if_pos c] at he ⊢
      rw [if_pos c]
      rw [ih _ _ (by omega) he (by omega)]
      rfl
    · rw [if_neg c, if_neg c]
      show (v, g, i) = (v, g, a + i - a)
      rw [Nat.add_sub_cancel_left]

theorem hex_size {s : ByteArray} {b : Nat} (h : hexS s b = true) : b + 2 < s.size := (hexS_iff'.1 h).2.1
theorem hexS_eq (s : ByteArray) (b : Nat) : hexS s b = (decide (b + 2 < s.size) && (decide (tk s b = 48) && ((decide (tk s (b + 1 : Nat) = 120) || decide (tk s (b + 1 : Nat) = 88)) && decide (dv (tk s (b + 2 : Nat)) < 16)))) := by
  rw [Bool.eq_iff_iff, hexS_iff', xS_iff]
  simp
  omega

/-- The number that Next finds in a text, in a part of it. -/
theorem run_win {s q : ByteArray} {a k : Nat} (h : Win s q a k) (hn : (runS s (begS s a)).2.2 ≠ stS s (begS s a)) (hk : (runS s (begS s a)).2.2 ≤ a + k) :
    negS q 0 = negS s a ∧ begS q 0 + a = begS s a ∧ stS q (begS q 0) + a = stS s (begS s a) ∧ runS q (begS q 0) = ((runS s (begS s a)).1, (runS s (begS s a)).2.1, (runS s (begS s a)).2.2 - a) := by
  have hq := h.size
  have hle := h.le
  have hst0 : begS s a ≤ stS s (begS s a) := by unfold stS; split <;> omega
  have hb0 : a ≤ begS s a := by unfold begS; split <;> omega
  have hrun := dgo_le s (baseS s (begS s a)) (s.size - stS s (begS s a)) (stS s (begS s a)) 0 false
  have hr1 : stS s (begS s a) < (runS s (begS s a)).2.2 := Nat.lt_of_le_of_ne hrun (Ne.symm hn)
  have hk1 : 0 < k := by omega
  have hneg : negS q 0 = negS s a := by
    unfold negS
    have := h.at' 0 hk1
    rw [show tk q ((0 : Nat) : Int) = tk s a from this, hq]
    rw [show decide (0 < k) = decide (a < s.size) from decide_eq_decide.2 (by omega)]
  have hbeg : begS q 0 + a = begS s a := by
    unfold begS; rw [hneg]; split <;> omega
  have hhex : hexS q (begS q 0) = hexS s (begS s a) := by
    rw [← hbeg]
    by_cases hs2 : begS q 0 + 2 < k
    · have t0 := h.at' (begS q 0) (by omega)
      have t1 := h.at' (begS q 0 + 1) (by omega)
      have t2 := h.at' (begS q 0 + 2) hs2
      rw [hexS_eq, hexS_eq, hq, t0, t1, t2, Nat.add_comm (begS q 0) a, Nat.add_assoc, Nat.add_assoc]
      congr 1
      rw [decide_eq_decide]
      omega
    · have e1 : hexS q (begS q 0) = false := by
        cases hx : hexS q (begS q 0) with
        | false => rfl
        | true => have := hex_size hx; omega
      have e2 : hexS s (begS q 0 + a) = false := by
        cases hx : hexS s (begS q 0 + a) with
        | false => rfl
        | true =>
          rw [hbeg] at hx
          have : stS s (begS s a) = begS s a + 2 := by unfold stS; rw [if_pos hx]
          omega
      rw [e1, e2]
  have hst : stS q (begS q 0) + a = stS s (begS s a) := by
    unfold stS; rw [hhex]; split <;> omega
  have hbase : baseS q (begS q 0) = baseS s (begS s a) := by unfold baseS; rw [hhex]
  refine ⟨hneg, hbeg, hst, ?_⟩
  have hwin := dgo_win h (baseS s (begS s a)) (k - stS q (begS q 0)) (s.size - stS s (begS s a)) (stS q (begS q 0)) 0 false (by omega) (by
    rw [Nat.add_comm, hst]; exact hk) (by omega)
  rw [Nat.add_comm a, hst] at hwin
  unfold runS
  rw [hbase, hq]
  exact hwin

theorem next_win {s : ByteArray} {a : Int} (h : (nextS s a).2.2 = 0) : ∃ n : Nat, (nextS s a).2.1 = (n : Int) ∧ 0 ≤ a ∧ 1 ≤ n ∧ a.toNat + n ≤ s.size ∧
    ∀ k q, n ≤ k → Win s q a.toNat k → nextS q 0 = nextS s a ∧ lenS q = n := by
  unfold nextS at h
  by_cases ha : a < 0 ∨ a > s.size
  · rw [if_pos ha] at h; cases h
  rw [if_neg ha] at h
  have hns : nextS s a = nextAt s a.toNat := by unfold nextS; rw [if_neg ha]
  have hle : a.toNat ≤ s.size := by omega
  generalize hA : a.toNat = A at *
  have hn : (runS s (begS s A)).2.2 ≠ stS s (begS s A) := fun e => by unfold nextAt at h; rw [if_pos e] at h; cases h
  have hbig : ((runS s (begS s A)).2.1 || (negS s A && decide ((runS s (begS s A)).1 > 9223372036854775808))) = false := by
    cases hb : ((runS s (begS s A)).2.1 || (negS s A && decide ((runS s (begS s A)).1 > 9223372036854775808))) with
    | false => rfl
    | true => unfold nextAt at h; rw [if_neg hn, if_pos hb] at h; cases h
  have hst0 : begS s A ≤ stS s (begS s A) := by unfold stS; split <;> omega
  have hb0 : A ≤ begS s A := by unfold begS; split <;> omega
  have hrun := dgo_le s (baseS s (begS s A)) (s.size - stS s (begS s A)) (stS s (begS s A)) 0 false
  have hend := dgo_end s (baseS s (begS s A)) (s.size - stS s (begS s A)) (stS s (begS s A)) 0 false
  have hr1 : stS s (begS s A) < (runS s (begS s A)).2.2 := Nat.lt_of_le_of_ne hrun (Ne.symm hn)
  have hstl : stS s (begS s A) ≤ s.size := by
    by_cases c : stS s (begS s A) ≤ s.size
    · exact c
    · have h0 : s.size - stS s (begS s A) = 0 := by omega
      exfalso
      apply hn
      unfold runS
      rw [h0]; rfl
  have hE : (runS s (begS s A)).2.2 ≤ s.size := by unfold runS; omega
  refine ⟨(runS s (begS s A)).2.2 - A, ?_, by omega, by omega, by omega, fun k q hk hw => ?_⟩
  · rw [hns]; unfold nextAt
    rw [if_neg hn, hbig]; rfl
  · obtain ⟨e1, e2, e3, e4⟩ := run_win hw hn (by omega)
    have hnq : (runS q (begS q 0)).2.2 ≠ stS q (begS q 0) := by rw [e4]; show _ - A ≠ _; omega
    refine ⟨?_, ?_⟩
    · have h0 : nextS q 0 = nextAt q 0 := by unfold nextS; rw [if_neg (by omega)]; rfl
      rw [h0, hns]
      unfold nextAt
      rw [if_neg hn, if_neg hnq, e1, e4]
      rfl
    · unfold lenS; rw [e4]

/-- Those bytes are the number; one more, and it is none. -/
theorem parse_win {s : ByteArray} {a : Int} (h : (nextS s a).2.2 = 0) : ∃ n : Nat, (nextS s a).2.1 = (n : Int) ∧ 0 ≤ a ∧ 1 ≤ n ∧ a.toNat + n ≤ s.size ∧ parseS (s.extract a.toNat (a.toNat + n)) = ((nextS s a).1, 0) ∧
    (a.toNat + n ≠ s.size → parseS (s.extract a.toNat (a.toNat + (n + 1))) = (0, 40)) := by
  obtain ⟨n, h1, h2, h3, h4, h5⟩ := next_win h
  refine ⟨n, h1, h2, h3, h4, ?_, fun hne => ?_⟩
  · have hw := win_cut s a.toNat n h4
    obtain ⟨e1, e2⟩ := h5 n _ (Nat.le_refl _) hw
    unfold parseS
    rw [e1, h, e2, hw.size]
    simp
  · have hw := win_cut s a.toNat (n + 1) (by omega)
    obtain ⟨e1, e2⟩ := h5 (n + 1) _ (by omega) hw
    unfold parseS
    rw [e1, h, e2, hw.size]
    simp
    omega
theorem next_err0 {s : ByteArray} {a : Int} (h : (nextS s a).2.2 ≠ 0) : (nextS s a).1 = 0 ∧ (nextS s a).2.1 = 0 := by
  unfold nextS at h ⊢
  split at h
  · rename_i c; rw [if_pos c]; exact ⟨rfl, rfl⟩
  · rename_i c
    rw [if_neg c]
    unfold nextAt at h ⊢
    split at h
    · rename_i c2; rw [if_pos c2]; exact ⟨rfl, rfl⟩
    · rename_i c2
      rw [if_neg c2]
      split at h
      · rename_i c3; rw [if_pos c3]; exact ⟨rfl, rfl⟩
      · exact absurd rfl h
end Go.Proofs.YtpfanhbkjajocaaDoor

/-
  Texts of numbers, read: in plain Lean. Own work.
-/
namespace Go.Proofs.YtpfanhbkjajocaaDoor
open Go.AM

theorem tk_list (L : List UInt8) (i : Nat) : tk ⟨L.toArray⟩ (i : Int) = ((L[i]?.getD 0).toNat : Int) := by
  unfold tk
  rw [Int.toNat_natCast]
  have e : (⟨L.toArray⟩ : ByteArray)[i]? = L[i]? := by
    simp only [getElem?_def]
    by_cases h : i < L.length
    · rw [dif_pos h, dif_pos (show i < (⟨L.toArray⟩ : ByteArray).size from h)]; rfl
    · rw [dif_neg h, dif_neg (show ¬ i < (⟨L.toArray⟩ : ByteArray).size from h)]
  rw [e]
theorem tk_mid (P D : List UInt8) (c : UInt8) : tk ⟨(P ++ c :: D).toArray⟩ ((P.length : Nat) : Int) = (c.toNat : Int) := by
  rw [tk_list, List.getElem?_append_right (Nat.le_refl _)]
  simp

def dU (c : UInt8) : Int := dv (c.toNat : Int)
/-- Digits' value. -/
def hv (B : Int) (v : Int) (D : List UInt8) : Int := D.foldl (fun v c => v * B + dU c) v

theorem dU_nonneg (c : UInt8) : 0 ≤ dU c := (dv_bounds _).1
theorem hv_ge {B : Int} (hB : 1 ≤ B) : ∀ (D : List UInt8) (v : Int), 0 ≤ v → v ≤ hv B v D
  | [], v, _ => Int.le_refl _
  | c :: D, v, h => by
    have h1 := dU_nonneg c
    have h2 : v ≤ v * B := by
      have := Int.mul_le_mul_of_nonneg_left hB h
      omega
    have := hv_ge hB D (v * B + dU c) (by omega)
    show v ≤ hv B (v * B + dU c) D
    omega

theorem dgo_read {B : Int} (hB : 1 ≤ B) (T : List UInt8) (hT : ∀ c T', T = c :: T' → ¬ dU c < B) : ∀ (D P : List UInt8) (v : Int), 0 ≤ v → (∀ c ∈ D, dU c < B) → hv B v D < 18446744073709551616 →
    dgo ⟨(P ++ (D ++ T)).toArray⟩ B (D.length + T.length) P.length v false = (hv B v D, false, P.length + D.length)
  | [], P, v, hv0, _, _ => by
    cases T with
    | nil => rfl
    | cons t T =>
      have h1 : ¬ dv (t.toNat : Int) < B := hT t T rfl
      have h2 := tk_mid P T t
      show dgo _ B (0 + (T.length + 1)) P.length v false = _
      rw [Nat.zero_add]
      unfold dgo
      rw [List.nil_append, h2, if_neg h1]
      rfl
  | c :: D, P, v, hv0, hd, hlt => by
    have h1 := hd c List.mem_cons_self
    have h2 := tk_mid P (D ++ T) c
    have hge : v * B + dU c ≤ hv B (v * B + dU c) D := hv_ge hB D _ (by
      have := Int.mul_nonneg hv0 (show 0 ≤ B by omega)
      have := dU_nonneg c
      omega)
    have hlt' : hv B (v * B + dU c) D < 18446744073709551616 := hlt
    have hn0 : 0 ≤ v * B + dU c := by
      have := Int.mul_nonneg hv0 (show 0 ≤ B by omega)
      have := dU_nonneg c
      omega
    have e1 : stp B v (dU c) = v * B + dU c := by unfold stp; rw [Int.emod_eq_of_lt hn0 (by omega)]
    have e2 : ovf B v (dU c) = false := by unfold ovf; rw [decide_eq_false_iff_not]; omega
    have ih := dgo_read hB T hT D (P ++ [c]) (v * B + dU c) hn0 (fun x hx => hd x (List.mem_cons_of_mem _ hx)) hlt'
    rw [show (c :: D).length + T.length = (D.length + T.length) + 1 by simp; omega]
    unfold dgo
    rw [List.cons_append, h2]
    have h1' : dv (c.toNat : Int) < B := h1
    rw [if_pos h1']
    have e1' : stp B v (dv (c.toNat : Int)) = v * B + dU c := e1
    have e2' : ovf B v (dv (c.toNat : Int)) = false := e2
    rw [e1', e2', Bool.false_or]
    rw [show P ++ c :: (D ++ T) = P ++ [c] ++ (D ++ T) by simp, show P.length + 1 = (P ++ [c]).length by simp, ih]
    simp only [List.length_append, List.length_cons, List.length_nil, hv, List.foldl_cons]
    congr 2
    omega

theorem hv_app (B v : Int) (D E : List UInt8) : hv B v (D ++ E) = hv B (hv B v D) E := by simp [hv]
theorem dU_dgC (i : Nat) (h : i < 16) : dU (dgC i) = (i : Int) := by
  have key : ∀ i : Fin 16, dU (dgC i.val) = ((i.val : Nat) : Int) := by decide +kernel
  exact key ⟨i, h⟩
theorem hv_dig {b : Nat} (hb : 2 ≤ b) (hb16 : b ≤ 16) (u : Nat) : hv (b : Int) 0 (digB b u) = (u : Int) := by
  induction u using Nat.strongRecOn with
  | _ u ih =>
    by_cases h : u < b
    · rw [digB_lt h]
      show 0 * (b : Int) + dU (dgC u) = _
      rw [dU_dgC u (by omega)]; omega
    · have hlt : u / b < u := Nat.div_lt_self (by omega) (by omega)
      rw [digB_ge (by omega) hb, hv_app, ih _ hlt]
      have hm := Nat.mod_lt u (show 0 < b by omega)
      show ((u / b : Nat) : Int) * (b : Int) + dU (dgC (u % b)) = _
      rw [dU_dgC _ (by omega)]
      have := Nat.div_add_mod u b
      rw [← Int.natCast_mul, ← Int.natCast_add]
      congr 1
      rw [Nat.mul_comm]; exact this
theorem dig_all {b : Nat} (hb : 2 ≤ b) (hb16 : b ≤ 16) (u : Nat) : ∀ c ∈ digB b u, dU c < (b : Int) := by
  induction u using Nat.strongRecOn with
  | _ u ih =>
    intro c hc
    by_cases h : u < b
    · rw [digB_lt h] at hc
      simp at hc
      rw [hc, dU_dgC u (by omega)]; omega
    · have hlt : u / b < u := Nat.div_lt_self (by omega) (by omega)
      rw [digB_ge (by omega) hb] at hc
      rcases List.mem_append.1 hc with hc | hc
      · exact ih _ hlt c hc
      · have hm := Nat.mod_lt u (show 0 < b by omega)
        simp at hc
        rw [hc, dU_dgC _ (by omega)]; omega

/-- So many noughts. -/
def zer (n : Nat) : List UInt8 := List.replicate n 48
theorem hv_zer (B : Int) (n : Nat) : hv B 0 (zer n) = 0 := by
  induction n with
  | zero => rfl
  | succ n ih =>
    show hv B (0 * B + dU 48) (zer n) = 0
    have : dU 48 = 0 := by decide
    rw [this, Int.zero_mul, Int.add_zero, ih]
theorem zer_all {B : Int} (hB : 2 ≤ B) (n : Nat) : ∀ c ∈ zer n, dU c < B := fun c hc => by
  rw [List.eq_of_mem_replicate hc, show dU 48 = 0 by decide]; omega

theorem dU10 {c : UInt8} (h : dU c < 10) : 48 ≤ c.toNat ∧ c.toNat ≤ 57 := by
  unfold dU dv at h
  split at h
  · omega
  · split at h
    · omega
    · split at h <;> omega

theorem size_list (L : List UInt8) : (⟨L.toArray⟩ : ByteArray).size = L.length := rfl

/-- A decimal text, with what may stand behind it. -/
theorem next_dec (sg : Bool) (D T : List UInt8) (hD : D ≠ []) (hd : ∀ c ∈ D, dU c < 10) (hT : T = [] ∨ T = [32]) (hlt : hv 10 0 D < 18446744073709551616) (hbig : sg = true → hv 10 0 D ≤ 9223372036854775808) :
    nextS ⟨((if sg then [45] else []) ++ (D ++ T)).toArray⟩ 0 = (IntKind.i64.wrap (if sg then IntKind.u64.wrap (0 - hv 10 0 D) else hv 10 0 D), (((if sg then 1 else 0) + D.length : Nat) : Int), 0) ∧
      lenS ⟨((if sg then [45] else []) ++ (D ++ T)).toArray⟩ = (((if sg then 1 else 0) + D.length : Nat) : Int) := by
  obtain ⟨c0, D', rfl⟩ : ∃ c0 D', D = c0 :: D' := by cases D with | nil => exact absurd rfl hD | cons c D => exact ⟨c, D, rfl⟩
  have hc0 := dU10 (hd c0 List.mem_cons_self)
  have hTn : ∀ c T', T = c :: T' → ¬ dU c < 10 := by
    rintro c T' rfl
    rcases hT with h | h
    · cases h
    · cases h; decide
  have hneg : negS ⟨((if sg then [45] else []) ++ (c0 :: D' ++ T)).toArray⟩ 0 = sg := by
    unfold negS
    rw [show ((0 : Nat) : Int) = 0 from rfl, size_list]
    cases sg with
    | true =>
      have := tk_mid [] (c0 :: D' ++ T) 45
      simp only [List.nil_append, List.length_nil] at this
      simp only [if_true, List.cons_append, List.nil_append] at this ⊢
      rw [show tk _ 0 = _ from this]; simp
    | false =>
      have := tk_mid [] (D' ++ T) c0
      simp only [List.nil_append, List.length_nil] at this
      simp only [Bool.false_eq_true, if_false, List.nil_append, List.cons_append] at this ⊢
      rw [show tk _ 0 = _ from this]
      have : ¬ ((c0.toNat : Int) = 45) := by omega
      simp [this]
  have hbeg : begS ⟨((if sg then [45] else []) ++ (c0 :: D' ++ T)).toArray⟩ 0 = (if sg then [45] else [] : List UInt8).length := by
    unfold begS; rw [hneg]; cases sg <;> rfl
  generalize hP : (if sg then [45] else [] : List UInt8) = P at *
  have hPl : P.length = if sg then 1 else 0 := by rw [← hP]; cases sg <;> rfl
  have hhex : hexS ⟨(P ++ (c0 :: D' ++ T)).toArray⟩ P.length = false := by
    cases hx : hexS ⟨(P ++ (c0 :: D' ++ T)).toArray⟩ P.length with
    | false => rfl
    | true =>
      obtain ⟨h1, h2, h3⟩ := xS_iff.1 (hexS_iff'.1 hx).1
      rw [tk_list] at h3
      rw [size_list] at h1
      cases D' with
      | nil =>
        rcases hT with rfl | rfl
        · simp at h1
        · rw [List.getElem?_append_right (by omega)] at h3
          simp at h3
      | cons c1 D' =>
        have hc1 := dU10 (hd c1 (by simp))
        rw [List.getElem?_append_right (by omega)] at h3
        simp at h3
        omega
  have hbase : baseS ⟨(P ++ (c0 :: D' ++ T)).toArray⟩ P.length = 10 := by unfold baseS; rw [hhex]; rfl
  have hst : stS ⟨(P ++ (c0 :: D' ++ T)).toArray⟩ P.length = P.length := by unfold stS; rw [hhex]; rfl
  have hrun : runS ⟨(P ++ (c0 :: D' ++ T)).toArray⟩ P.length = (hv 10 0 (c0 :: D'), false, P.length + (c0 :: D').length) := by
    unfold runS
    rw [hbase, hst, size_list, show (P ++ (c0 :: D' ++ T)).length - P.length = (c0 :: D').length + T.length by simp; omega]
    exact dgo_read (by decide) T hTn (c0 :: D') P 0 (by decide) hd hlt
  refine ⟨?_, ?_⟩
  · unfold nextS
    rw [if_neg (by omega)]
    show nextAt _ 0 = _
    unfold nextAt
    rw [hbeg, hrun, hst, hneg]
    rw [if_neg (by show ¬ (P.length + (c0 :: D').length = P.length); simp)]
    have hb : (false || (sg && decide (hv 10 0 (c0 :: D') > 9223372036854775808))) = false := by
      cases sg with
      | false => rfl
      | true => have := hbig rfl; simp; omega
    rw [hb, if_neg (by decide)]
    simp only [Nat.sub_zero]
    rw [hPl]
  · unfold lenS
    rw [hbeg, hrun]
    simp only
    rw [hPl]

/-- A hexadecimal text, with what may stand behind it. -/
theorem next_hex (X : UInt8) (hX : X = 120 ∨ X = 88) (D T : List UInt8) (hD : D ≠ []) (hd : ∀ c ∈ D, dU c < 16) (hT : T = [] ∨ T = [32]) (hlt : hv 16 0 D < 18446744073709551616) :
    nextS ⟨([48, X] ++ (D ++ T)).toArray⟩ 0 = (IntKind.i64.wrap (hv 16 0 D), ((2 + D.length : Nat) : Int), 0) ∧ lenS ⟨([48, X] ++ (D ++ T)).toArray⟩ = ((2 + D.length : Nat) : Int) := by
  obtain ⟨c0, D', rfl⟩ : ∃ c0 D', D = c0 :: D' := by cases D with | nil => exact absurd rfl hD | cons c D => exact ⟨c, D, rfl⟩
  have hTn : ∀ c T', T = c :: T' → ¬ dU c < 16 := by
    rintro c T' rfl
    rcases hT with h | h
    · cases h
    · cases h; decide
  have hX' : (X.toNat : Int) = 120 ∨ (X.toNat : Int) = 88 := by rcases hX with rfl | rfl <;> decide
  have h0 : tk ⟨([48, X] ++ (c0 :: D' ++ T)).toArray⟩ ((0 : Nat) : Int) = 48 := by rw [tk_list]; rfl
  have h1 : tk ⟨([48, X] ++ (c0 :: D' ++ T)).toArray⟩ ((1 : Nat) : Int) = (X.toNat : Int) := by rw [tk_list]; rfl
  have h2 : tk ⟨([48, X] ++ (c0 :: D' ++ T)).toArray⟩ ((2 : Nat) : Int) = (c0.toNat : Int) := by rw [tk_list]; rfl
  have hneg : negS ⟨([48, X] ++ (c0 :: D' ++ T)).toArray⟩ 0 = false := by
    unfold negS; rw [h0]; simp
  have hbeg : begS ⟨([48, X] ++ (c0 :: D' ++ T)).toArray⟩ 0 = 0 := by unfold begS; rw [hneg]; rfl
  have hhex : hexS ⟨([48, X] ++ (c0 :: D' ++ T)).toArray⟩ 0 = true := by
    rw [hexS_iff', xS_iff, size_list]
    refine ⟨⟨by simp, h0, by rw [Nat.zero_add, h1]; exact hX'⟩, by simp, by rw [Nat.zero_add, h2]; exact hd c0 List.mem_cons_self⟩
  have hbase : baseS ⟨([48, X] ++ (c0 :: D' ++ T)).toArray⟩ 0 = 16 := by unfold baseS; rw [hhex]; rfl
  have hst : stS ⟨([48, X] ++ (c0 :: D' ++ T)).toArray⟩ 0 = 2 := by unfold stS; rw [hhex]; rfl
  have hrun : runS ⟨([48, X] ++ (c0 :: D' ++ T)).toArray⟩ 0 = (hv 16 0 (c0 :: D'), false, 2 + (c0 :: D').length) := by
    unfold runS
    rw [hbase, hst, size_list, show ([48, X] ++ (c0 :: D' ++ T)).length - 2 = (c0 :: D').length + T.length by simp; omega]
    exact dgo_read (by decide) T hTn (c0 :: D') [48, X] 0 (by decide) hd hlt
  refine ⟨?_, ?_⟩
  · unfold nextS
    rw [if_neg (by omega)]
    show nextAt _ 0 = _
    unfold nextAt
    rw [hbeg, hrun, hst, hneg]
    rw [if_neg (by show ¬ (2 + (c0 :: D').length = 2); simp)]
    rfl
  · unfold lenS
    rw [hbeg, hrun]
theorem parse_of {s : ByteArray} {v n : Int} (h : nextS s 0 = (v, n, 0)) (hl : lenS s = s.size) : parseS s = (v, 0) := by
  unfold parseS
  rw [h, hl]; simp
end Go.Proofs.YtpfanhbkjajocaaDoor

/-
  strconv.FormatUint at base 16: its own text, walked. Own work.
-/
namespace Go.Proofs.YtpfanhbkjajocaaDoor
open Go.AM
set_option maxRecDepth 100000

theorem un_of (v : Nat) (h : v < 2 ^ 64) : (v : Int) = un (BitVec.ofNat 64 v) := by
  unfold un; rw [BitVec.toNat_ofNat, Nat.mod_eq_of_lt h]
theorem band15 (v : Nat) (h : v < 2 ^ 64) : band .u64 (v : Int) 15 = ((v % 16 : Nat) : Int) := by
  rw [un_of v h, show (15 : Int) = un 15#64 from rfl, band_un]
  unfold un
  rw [BitVec.toNat_and, BitVec.toNat_ofNat, Nat.mod_eq_of_lt h]
  have := Nat.and_two_pow_sub_one_eq_mod v 4
  exact congrArg (fun n : Nat => (n : Int)) this
theorem shr4 (v : Nat) (h : v < 2 ^ 64) : shrI .u64 (v : Int) 4 = ((v / 16 : Nat) : Int) := by
  rw [un_of v h, shr_un]
  unfold un
  rw [BitVec.toNat_ushiftRight, BitVec.toNat_ofNat, Nat.mod_eq_of_lt h, Nat.shiftRight_eq_div_pow]
  rfl

def byV (l : List UInt8) : List Value := l.map fun b => Value.int .u8 (b.toNat : Int)
def rowB (i : Nat) (acc : List UInt8) : List Value := List.replicate i (.int .u8 0) ++ byV acc
theorem rowB_len (i : Nat) (acc : List UInt8) : (rowB i acc).length = i + acc.length := by simp [rowB, byV]
theorem rowB_set (i : Nat) (acc : List UInt8) (b : UInt8) : (rowB (i + 1) acc).set i (.int .u8 (b.toNat : Int)) = rowB i (b :: acc) := by
  unfold rowB byV
  rw [List.replicate_succ', List.append_assoc, List.set_append_right _ _ (by simp)]
  simp
theorem rowB_drop (i : Nat) (acc : List UInt8) : (rowB i acc).drop i = acc.map fun b => Value.int .u8 (b.toNat : Int) := by
  unfold rowB byV
  rw [List.drop_append_of_le_length (by simp)]
  simp

abbrev D36 : ByteArray := ⟨#[48, 49, 50, 51, 52, 53, 54, 55, 56, 57, 97, 98, 99, 100, 101, 102, 103, 104, 105, 106, 107, 108, 109, 110, 111, 112, 113, 114, 115, 116, 117, 118, 119, 120, 121, 122]⟩
theorem dig_at (i : Nat) (h : i < 16) : D36[i]?.getD 0 = dgC i := by
  have key : ∀ i : Fin 16, D36[i.val]?.getD 0 = dgC i.val := by decide +kernel
  exact key ⟨i, h⟩

set_option maxHeartbeats 1000000 in
theorem bits16_ok (u : Nat) (hu : u < 2 ^ 64) (w : World) (hT : TabAt w) : Gives Tryd.prog 90 [.slice none 0 0, .int .u64 (u : Int), .int .i64 16, .bool false, .bool false] w (.tuple #[.slice none 0 0, .string ⟨(digB 16 u).toArray⟩]) := by
  refine Gives.of_run Tryd.func90 rfl (by show 5 ≤ 102; decide) ?_
  refine RunF_sound tab_ok noX_local 200 [false, false, false, false] _ _ rfl ?_ ?_
  · simp
    rfl
  refine Run.callFn (r := .bool true) noX_local rfl rfl rfl rfl rfl rfl rfl two_enters rfl (fun w' _ => two_ok w') ?_
  refine RunF_sound tab_ok noX_local 100 [true] _ _ rfl ?_ ?_
  · simp
  refine Run.callFn (r := .int .i64 4) noX_local rfl rfl rfl rfl rfl rfl rfl tz16_enters rfl (fun w' hA => tz16_ok w' (hT.agree hA (fun h => h))) ?_
  refine RunF_sound tab_ok noX_local 100 [] _ _ rfl ?_ ?_
  · simp
  suffices H : ∀ (v i : Nat) (acc : List UInt8), v < 2 ^ 64 → i + acc.length = 65 → (digB 16 v).length + acc.length ≤ 64 → digB 16 v ++ acc = digB 16 u →
      ∀ σ, inT σ.t [(1, .v (.int .u64 (v : Int))), (3, .v (.bool false)), (4, .v (.bool false)), (10, .v (.slice none 0 0)), (12, .ptr 0 0), (13, .v (.int .i64 (i : Int))), (14, .v (.int .u64 4)), (15, .v (.int .u64 16)), (16, .v (.int .u64 15))] →
      inT σ.h [(0, .cells 121 [.vals 65 (rowB i acc)])] → Run _ _ σ by
    exact H u 65 [] hu rfl (by have := digB_len (b := 16) (by decide) u 64 hu (by decide); simpa using this) (by simp) _ ⟨rfl, rfl, rfl, rfl, rfl, rfl, rfl, rfl, rfl, trivial⟩ ⟨rfl, trivial⟩
  intro v
  induction v using Nat.strongRecOn with
  | _ v ih =>
    intro i acc hv hi hl he σ ht hh
    refine Run.to ?_ ht hh (n' := 1)
    have hne : 1 ≤ (digB 16 v).length := List.length_pos_iff.2 (digB_ne (by decide))
    obtain ⟨i, rfl⟩ : ∃ j, i = j + 1 := ⟨i - 1, by omega⟩
    have hwi : IntKind.i64.wrap (((i + 1 : Nat) : Int) - 1) = (i : Int) := by rw [wrap_i64 (by omega) (by omega)]; omega
    have hi65 : i < 65 := by omega
    by_cases hvb : v < 16
    · have hset : (rowB (i + 1) acc).set (0 - 0 + ((i : Int)).toNat * 1) (.int .u8 ((D36[(v : Int).toNat]?.getD 0).toNat : Int)) = rowB i (dgC v :: acc) := by
        rw [Int.toNat_natCast, Int.toNat_natCast, dig_at v hvb, Nat.sub_zero, Nat.zero_add, Nat.mul_one]
        exact rowB_set i acc (dgC v)
      refine RunF_sound tab_ok noX_local 100 [false, false, false] _ _ rfl ?_ ?_
      · simp only [hwi]
        simp [okCell, Value.oneCell']
        exact ⟨by omega, Nat.lt_of_lt_of_le hvb (show 16 ≤ 36 by decide), by omega⟩
      simp only [hwi, hset]
      refine Run.arrStr (dgC v :: acc) (n := i) (N := 65) tab_ok rfl rfl rfl rfl rfl rfl rfl rfl rfl rfl rfl rfl rfl rfl rfl rfl rfl rfl (rowB_drop i _) (by simp at hi ⊢; omega) (by simp) ?_
      refine RunF_sound tab_ok noX_local 100 [] _ _ rfl ?_ ?_
      · simp
      refine Run.retL tab_ok Tryd.func90 rfl trivial (fun M => ?_)
      rw [← he, digB_lt hvb]
      rfl
    · have hb15 := band15 v hv
      have hs4 := shr4 v hv
      have hlt : v % 16 < 16 := Nat.mod_lt _ (by decide)
      have hset : (rowB (i + 1) acc).set (0 - 0 + ((i : Int)).toNat * 1) (.int .u8 ((D36[((v % 16 : Nat) : Int).toNat]?.getD 0).toNat : Int)) = rowB i (dgC (v % 16) :: acc) := by
        rw [Int.toNat_natCast, Int.toNat_natCast, dig_at _ hlt, Nat.sub_zero, Nat.zero_add, Nat.mul_one]
        exact rowB_set i acc (dgC (v % 16))
      refine RunF_sound tab_ok noX_local 100 [true] _ _ rfl ?_ ?_
      · simp only [hwi, hb15]
        simp [okCell, Value.oneCell']
        exact ⟨by omega, ⟨by omega, Nat.lt_of_lt_of_le hlt (show 16 ≤ 36 by decide)⟩, by omega⟩
      simp only [hwi, hb15, hset]
      have hd : digB 16 v = digB 16 (v / 16) ++ [dgC (v % 16)] := digB_ge (by omega) (by decide)
      refine ih (v / 16) (by omega) i (dgC (v % 16) :: acc) (by omega) (by simp at hi ⊢; omega) ?_ ?_ _ ⟨?_, rfl, rfl, rfl, rfl, rfl, rfl, rfl, rfl, trivial⟩ ⟨rfl, trivial⟩
      · rw [hd, List.length_append] at hl
        simp at hl ⊢
        omega
      · rw [← he, hd]; simp
      · refine congrArg (fun z => some (AV.v (Value.int .u64 z))) ?_
        exact hs4
end Go.Proofs.YtpfanhbkjajocaaDoor

/-
  A value's three texts. Own work.
-/
namespace Go.Proofs.YtpfanhbkjajocaaDoor
open Go.AM
set_option maxRecDepth 100000

theorem bits_enters : Enters Tryd.prog 90 := enters_mk Tryd.func90 (by decide) rfl
theorem uint16I_ok (u : Nat) (hu : u < 2 ^ 64) (w : World) (hT : TabAt w) : Gives Tryd.prog 81 [.int .u64 (u : Int), .int .i64 16] w (.string ⟨(digB 16 u).toArray⟩) := by
  refine Gives.of_run Tryd.func81 rfl (by show 2 ≤ 32; decide) ?_
  refine RunF_sound tab_ok noX_local 100 [false] _ _ rfl ?_ ?_
  · simp
  refine Run.callFn (r := .tuple #[.slice none 0 0, .string ⟨(digB 16 u).toArray⟩]) noX_local rfl rfl rfl rfl rfl rfl rfl bits_enters rfl (fun w' hA => bits16_ok u hu w' (hT.agree hA (fun h => h))) ?_
  refine RunF_sound tab_ok noX_local 100 [] _ _ rfl ?_ ?_
  · simp
  exact Run.retP tab_ok Tryd.func81 rfl trivial (fun M => rfl)
theorem uint16_ok (u : Nat) (hu : u < 2 ^ 64) (w : World) (hT : TabAt w) : Gives Tryd.prog 72 [.int .u64 (u : Int), .int .i64 16] w (.string ⟨(digB 16 u).toArray⟩) := by
  refine Gives.of_run Tryd.func72 rfl (by show 2 ≤ 8; decide) ?_
  refine RunF_sound tab_ok noX_local 100 [] _ _ rfl ?_ ?_
  · simp
  refine Run.callFn (r := .string ⟨(digB 16 u).toArray⟩) noX_local rfl rfl rfl rfl rfl rfl rfl uintI_enters rfl (fun w' hA => uint16I_ok u hu w' (hT.agree hA (fun h => h))) ?_
  refine RunF_sound tab_ok noX_local 100 [] _ _ rfl ?_ ?_
  · simp
  exact Run.retP tab_ok Tryd.func72 rfl trivial (fun M => rfl)

/-- What an int64 is as a uint64. -/
def uN (v : Int) : Nat := (IntKind.u64.wrap v).toNat
theorem uN_eq (v : Int) : IntKind.u64.wrap v = (uN v : Int) := by
  unfold uN; rw [IntKind.wrap_u64]; omega
theorem uN_lt (v : Int) : uN v < 2 ^ 64 := by
  unfold uN; rw [IntKind.wrap_u64]; omega

def textB (v : Int) : ByteArray := ⟨(Lib.itoa v).toArray⟩
def hexB (v : Int) : ByteArray := ⟨(48 :: 120 :: digB 16 (uN v)).toArray⟩
def unsB (v : Int) : ByteArray := ⟨(digB 10 (uN v)).toArray⟩

theorem wtext_ok (v : Int) (h0 : -9223372036854775808 ≤ v) (h1 : v ≤ 9223372036854775807) (w : World) (hP : PowAt w) : Gives Tryd.prog 40 [.int .i64 v] w (.string (textB v)) := by
  refine Gives.of_run Tryd.func40 rfl (by show 1 ≤ 5; decide) ?_
  refine RunF_sound tab_ok noX_local 100 [] _ _ rfl ?_ ?_
  · simp
  refine Run.callFn (r := .string (textB v)) noX_local rfl rfl rfl rfl rfl rfl rfl int_enters rfl (fun w' hA => int10_ok v h0 h1 w' (hP.agree hA)) ?_
  refine RunF_sound tab_ok noX_local 100 [] _ _ rfl ?_ ?_
  · simp
  exact Run.retP tab_ok Tryd.func40 rfl trivial (fun M => rfl)
theorem wtext_enters : Enters Tryd.prog 40 := enters_mk Tryd.func40 (by decide) rfl

theorem uns_ok (v : Int) (w : World) (hP : PowAt w) : Gives Tryd.prog 44 [.int .i64 v] w (.string (unsB v)) := by
  refine Gives.of_run Tryd.func44 rfl (by show 1 ≤ 6; decide) ?_
  refine RunF_sound tab_ok noX_local 100 [] _ _ rfl ?_ ?_
  · simp
  rw [uN_eq]
  refine Run.callFn (r := .string (unsB v)) noX_local rfl rfl rfl rfl rfl rfl rfl uint_enters rfl (fun w' hA => uint10_ok _ (uN_lt v) w' (hP.agree hA)) ?_
  refine RunF_sound tab_ok noX_local 100 [] _ _ rfl ?_ ?_
  · simp
  exact Run.retP tab_ok Tryd.func44 rfl trivial (fun M => rfl)
theorem uns_enters : Enters Tryd.prog 44 := enters_mk Tryd.func44 (by decide) rfl

theorem zx_app (l : List UInt8) : (⟨#[48, 120]⟩ : ByteArray) ++ ⟨l.toArray⟩ = ⟨(48 :: 120 :: l).toArray⟩ := by apply ByteArray.ext; simp
theorem mi_app (l : List UInt8) : (⟨#[45]⟩ : ByteArray) ++ ⟨l.toArray⟩ = ⟨(45 :: l).toArray⟩ := by apply ByteArray.ext; simp

theorem hex_ok (v : Int) (w : World) (hT : TabAt w) : Gives Tryd.prog 42 [.int .i64 v] w (.string (hexB v)) := by
  refine Gives.of_run Tryd.func42 rfl (by show 1 ≤ 7; decide) ?_
  refine RunF_sound tab_ok noX_local 100 [] _ _ rfl ?_ ?_
  · simp
  have hl := digB_len (b := 16) (by decide) (uN v) 64 (uN_lt v) (by decide)
  rw [uN_eq]
  refine Run.callFn (r := .string ⟨(digB 16 (uN v)).toArray⟩) noX_local rfl rfl rfl rfl rfl rfl rfl uint_enters rfl (fun w' hA => uint16_ok _ (uN_lt v) w' (hT.agree hA (fun h => h))) ?_
  have hsz : (⟨(digB 16 (uN v)).toArray⟩ : ByteArray).size = (digB 16 (uN v)).length := rfl
  have hsz2 : (⟨#[48, 120]⟩ : ByteArray).size = 2 := rfl
  refine RunF_sound tab_ok noX_local 100 [] _ _ rfl ?_ ?_
  · simp [hsz, hsz2]
    omega
  exact Run.retP tab_ok Tryd.func42 rfl trivial (fun M => congrArg Value.string (zx_app _))
theorem hex_enters : Enters Tryd.prog 42 := enters_mk Tryd.func42 (by decide) rfl

theorem in_enters : Enters Tryd.prog 71 := enters_mk Tryd.func71 (by decide) rfl
theorem unsR_ok (v : Int) (w : World) : Gives Tryd.prog 45 [.int .i64 v] w (.string (unsB v)) := by
  refine Gives.of_run Tryd.func45 rfl (by show 1 ≤ 6; decide) ?_
  refine RunF_sound tab_ok noX_local 100 [] _ _ rfl ?_ ?_
  · simp
  rw [uN_eq]
  refine Run.callFn (r := .string (unsB v)) noX_local rfl rfl rfl rfl rfl rfl rfl in_enters rfl (fun w' _ => in_ok 10 (by decide) (by decide) _ (uN_lt v) w') ?_
  refine RunF_sound tab_ok noX_local 100 [] _ _ rfl ?_ ?_
  · simp
  exact Run.retP tab_ok Tryd.func45 rfl trivial (fun M => rfl)
theorem unsR_enters : Enters Tryd.prog 45 := enters_mk Tryd.func45 (by decide) rfl
theorem hexR_ok (v : Int) (w : World) : Gives Tryd.prog 43 [.int .i64 v] w (.string (hexB v)) := by
  refine Gives.of_run Tryd.func43 rfl (by show 1 ≤ 7; decide) ?_
  refine RunF_sound tab_ok noX_local 100 [] _ _ rfl ?_ ?_
  · simp
  have hl := digB_len (b := 16) (by decide) (uN v) 64 (uN_lt v) (by decide)
  rw [uN_eq]
  refine Run.callFn (r := .string ⟨(digB 16 (uN v)).toArray⟩) noX_local rfl rfl rfl rfl rfl rfl rfl in_enters rfl (fun w' _ => in_ok 16 (by decide) (by decide) _ (uN_lt v) w') ?_
  have hsz : (⟨(digB 16 (uN v)).toArray⟩ : ByteArray).size = (digB 16 (uN v)).length := rfl
  have hsz2 : (⟨#[48, 120]⟩ : ByteArray).size = 2 := rfl
  refine RunF_sound tab_ok noX_local 100 [] _ _ rfl ?_ ?_
  · simp [hsz, hsz2]
    omega
  exact Run.retP tab_ok Tryd.func43 rfl trivial (fun M => congrArg Value.string (zx_app _))
theorem hexR_enters : Enters Tryd.prog 43 := enters_mk Tryd.func43 (by decide) rfl
theorem textR_ok (v : Int) (h0 : -9223372036854775808 ≤ v) (h1 : v ≤ 9223372036854775807) (w : World) : Gives Tryd.prog 41 [.int .i64 v] w (.string (textB v)) := by
  refine Gives.of_run Tryd.func41 rfl (by show 1 ≤ 13; decide) ?_
  by_cases hv : v < 0
  · have hn : IntKind.u64.wrap (0 - IntKind.u64.wrap v) = ((v.natAbs : Nat) : Int) := by rw [IntKind.wrap_u64, IntKind.wrap_u64]; omega
    have hlt : v.natAbs < 2 ^ 64 := by omega
    have hl := digB_len (b := 10) (by decide) v.natAbs 64 hlt (by decide)
    refine RunF_sound tab_ok noX_local 100 [true] _ _ rfl ?_ ?_
    · simp [hv]
    simp only [hn]
    refine Run.callFn (r := .string ⟨(digB 10 v.natAbs).toArray⟩) noX_local rfl rfl rfl rfl rfl rfl rfl in_enters rfl (fun w' _ => in_ok 10 (by decide) (by decide) _ hlt w') ?_
    have hsz : (⟨(digB 10 v.natAbs).toArray⟩ : ByteArray).size = (digB 10 v.natAbs).length := rfl
    have hsz2 : (⟨#[45]⟩ : ByteArray).size = 1 := rfl
    refine RunF_sound tab_ok noX_local 100 [] _ _ rfl ?_ ?_
    · simp [hsz, hsz2]
      omega
    refine Run.retP tab_ok Tryd.func41 rfl trivial (fun M => (congrArg Value.string (mi_app _)).trans ?_)
    unfold textB Lib.itoa
    rw [if_pos hv, digB_10]
  · have hn : IntKind.u64.wrap v = ((v.toNat : Nat) : Int) := by rw [IntKind.wrap_u64]; omega
    have hlt : v.toNat < 2 ^ 64 := by omega
    refine RunF_sound tab_ok noX_local 100 [false] _ _ rfl ?_ ?_
    · simp [hv]
    rw [hn]
    refine Run.callFn (r := .string ⟨(digB 10 v.toNat).toArray⟩) noX_local rfl rfl rfl rfl rfl rfl rfl in_enters rfl (fun w' _ => in_ok 10 (by decide) (by decide) _ hlt w') ?_
    refine RunF_sound tab_ok noX_local 100 [] _ _ rfl ?_ ?_
    · simp
    refine Run.retP tab_ok Tryd.func41 rfl trivial (fun M => ?_)
    unfold textB Lib.itoa
    rw [if_neg hv, digB_10]
    rfl
theorem textR_enters : Enters Tryd.prog 41 := enters_mk Tryd.func41 (by decide) rfl

theorem wordTexts_ok (v : Int) (h0 : -9223372036854775808 ≤ v) (h1 : v ≤ 9223372036854775807) (w : World) (hT : TabAt w) (hP : PowAt w) : Gives Tryd.prog 6 [.int .i64 v] w (.bool true) := by
  refine Gives.of_run Tryd.func6 rfl (by show 1 ≤ 22; decide) ?_
  refine RunF_sound tab_ok noX_local 100 [] _ _ rfl ?_ ?_
  · simp
  refine Run.callFn (r := .string (textB v)) noX_local rfl rfl rfl rfl rfl rfl rfl wtext_enters rfl (fun w' hA => wtext_ok v h0 h1 w' (hP.agree hA)) ?_
  refine RunF_sound tab_ok noX_local 100 [] _ _ rfl ?_ ?_
  · simp
  refine Run.callFn (r := .string (textB v)) noX_local rfl rfl rfl rfl rfl rfl rfl textR_enters rfl (fun w' hA => textR_ok v h0 h1 w') ?_
  generalize textB v = s1
  refine RunF_sound tab_ok noX_local 100 [true] _ _ rfl ?_ ?_
  · simp
  refine Run.callFn (r := .string (hexB v)) noX_local rfl rfl rfl rfl rfl rfl rfl hex_enters rfl (fun w' hA => hex_ok v w' (hT.agree hA (fun h => h))) ?_
  refine RunF_sound tab_ok noX_local 100 [] _ _ rfl ?_ ?_
  · simp
  refine Run.callFn (r := .string (hexB v)) noX_local rfl rfl rfl rfl rfl rfl rfl hexR_enters rfl (fun w' hA => hexR_ok v w') ?_
  generalize hexB v = s2
  refine RunF_sound tab_ok noX_local 100 [true] _ _ rfl ?_ ?_
  · simp
  refine Run.callFn (r := .string (unsB v)) noX_local rfl rfl rfl rfl rfl rfl rfl uns_enters rfl (fun w' hA => uns_ok v w' (hP.agree hA)) ?_
  refine RunF_sound tab_ok noX_local 100 [] _ _ rfl ?_ ?_
  · simp
  refine Run.callFn (r := .string (unsB v)) noX_local rfl rfl rfl rfl rfl rfl rfl unsR_enters rfl (fun w' hA => unsR_ok v w') ?_
  generalize unsB v = s3
  refine RunF_sound tab_ok noX_local 100 [] _ _ rfl ?_ ?_
  · simp
  refine Run.retP tab_ok Tryd.func6 rfl ?_ (fun M => ?_)
  · trivial
  · simp [conc]
end Go.Proofs.YtpfanhbkjajocaaDoor

/-
  The examples that stand ahead of the statements of layer 4; WordLongest. Own work.
-/
namespace Go.Proofs.YtpfanhbkjajocaaDoor
open Go.AM
set_option maxRecDepth 100000

theorem ex_parse : parseS ⟨#[45, 48, 120, 49, 48]⟩ = (-16, 0) := by decide +kernel
theorem ex_next : nextS ⟨#[49, 50, 44]⟩ 0 = (12, 2, 0) := by decide +kernel
theorem ex_put : putS 64 = ⟨#[128, 1]⟩ := by decide +kernel
theorem ex_text : textB (-1) = ⟨#[45, 49]⟩ := by
  unfold textB Lib.itoa
  rw [if_pos (by decide), ← digB_10, digB_lt (by decide)]
  rfl
theorem ex_hex : hexB 255 = ⟨#[48, 120, 102, 102]⟩ := by
  have h : uN 255 = 255 := by decide +kernel
  unfold hexB
  rw [h, digB_ge (by decide) (by decide), digB_lt (by decide)]
  rfl
theorem ex_uns : unsB (-1) = ⟨#[49, 56, 52, 52, 54, 55, 52, 52, 48, 55, 51, 55, 48, 57, 53, 53, 49, 54, 49, 53]⟩ := by
  have h : uN (-1) = 18446744073709551615 := by decide +kernel
  unfold unsB
  rw [h]
  (repeat first | rw [digB_lt (by decide)] | rw [digB_ge (by decide) (by decide)])
  rfl

theorem works_ok (w : World) (hT : TabAt w) (hP : PowAt w) : Gives Tryd.prog 52 [] w (.bool true) := by
  refine Gives.of_run Tryd.func52 rfl (by show 0 ≤ 51; decide) ?_
  refine RunF_sound tab_ok noX_local 100 [] _ _ rfl ?_ ?_
  · simp
  refine Run.callFn (r := .tuple #[.int .i64 (-16), .int .i64 0]) noX_local rfl rfl rfl rfl rfl rfl rfl parse_enters rfl (fun w' _ => ?_) ?_
  · have := parse_ok ⟨#[45, 48, 120, 49, 48]⟩ w' (by decide)
    rw [ex_parse] at this
    exact this
  refine RunF_sound tab_ok noX_local 100 [] _ _ rfl ?_ ?_
  · simp
  refine Run.callFn (r := .tuple #[.int .i64 12, .int .i64 2, .int .i64 0]) noX_local rfl rfl rfl rfl rfl rfl rfl next_enters rfl (fun w' _ => ?_) ?_
  · have := next_ok ⟨#[49, 50, 44]⟩ 0 w' (by decide)
    rw [ex_next] at this
    exact this
  refine RunF_sound tab_ok noX_local 100 [true] _ _ rfl ?_ ?_
  · simp
  refine Run.callFn (r := .int .i64 0) noX_local rfl rfl rfl rfl rfl rfl rfl num_enters rfl (fun w' _ => num_ok 0 w') ?_
  refine RunF_sound tab_ok noX_local 100 [true, true, true] _ _ rfl ?_ ?_
  · simp
  refine Run.callFn (r := .int .i64 0) noX_local rfl rfl rfl rfl rfl rfl rfl num_enters rfl (fun w' _ => num_ok 0 w') ?_
  refine RunF_sound tab_ok noX_local 100 [true] _ _ rfl ?_ ?_
  · simp
  refine Run.callFn (r := .string ⟨#[45, 49]⟩) noX_local rfl rfl rfl rfl rfl rfl rfl wtext_enters rfl (fun w' hA => by rw [← ex_text]; exact wtext_ok (-1) (by decide) (by decide) w' (hP.agree hA)) ?_
  refine RunF_sound tab_ok noX_local 100 [true] _ _ rfl ?_ ?_
  · simp
  refine Run.callFn (r := .string ⟨#[48, 120, 102, 102]⟩) noX_local rfl rfl rfl rfl rfl rfl rfl hex_enters rfl (fun w' hA => by rw [← ex_hex]; exact hex_ok 255 w' (hT.agree hA (fun h => h))) ?_
  refine RunF_sound tab_ok noX_local 100 [true] _ _ rfl ?_ ?_
  · simp
  refine Run.callFn (r := .string ⟨#[49, 56, 52, 52, 54, 55, 52, 52, 48, 55, 51, 55, 48, 57, 53, 53, 49, 54, 49, 53]⟩) noX_local rfl rfl rfl rfl rfl rfl rfl uns_enters rfl (fun w' hA => by rw [← ex_uns]; exact uns_ok (-1) w' (hP.agree hA)) ?_
  refine RunF_sound tab_ok noX_local 100 [true] _ _ rfl ?_ ?_
  · simp
  refine Run.callFn (r := .string ⟨#[128, 1]⟩) noX_local rfl rfl rfl rfl rfl rfl rfl put_enters rfl (fun w' hA => by rw [← ex_put]; exact put_ok 64 w' (by decide) (by decide)) ?_
  refine RunF_sound tab_ok noX_local 100 [] _ _ rfl ?_ ?_
  · simp
  refine Run.retP tab_ok Tryd.func52 rfl trivial (fun M => ?_)
  simp [conc]
theorem works_enters : Enters Tryd.prog 52 := enters_mk Tryd.func52 (by decide) rfl

theorem longest_ok (s : ByteArray) (a : Int) (w : World) (hs : s.size ≤ maxLen) (hT : TabAt w) (hP : PowAt w) : Gives Tryd.prog 9 [.string s, .int .i64 a] w (.bool true) := by
  refine Gives.of_run Tryd.func9 rfl (by show 2 ≤ 88; decide) ?_
  refine RunF_sound tab_ok noX_local 100 [] _ _ rfl ?_ ?_
  · simp
  refine Run.callFn (r := .bool true) noX_local rfl rfl rfl rfl rfl rfl rfl works_enters rfl (fun w' hA => works_ok w' (hT.agree hA (fun h => h)) (hP.agree hA)) ?_
  refine RunF_sound tab_ok noX_local 100 [false] _ _ rfl ?_ ?_
  · simp
  have hnx := fun w' => next_ok s a w' hs
  have herr := fun h => next_err0 (s := s) (a := a) h
  have hwin := fun h => parse_win (s := s) (a := a) h
  generalize nextS s a = R at *
  obtain ⟨v, n0, e⟩ := R
  refine Run.callFn (r := .tuple #[.int .i64 v, .int .i64 n0, .int .i64 e]) noX_local rfl rfl rfl rfl rfl rfl rfl next_enters rfl (fun w' _ => hnx w') ?_
  refine RunF_sound tab_ok noX_local 100 [] _ _ rfl ?_ ?_
  · simp
  refine Run.callFn (r := .int .i64 e) noX_local rfl rfl rfl rfl rfl rfl rfl num_enters rfl (fun w' _ => num_ok e w') ?_
  by_cases he : e = 0
  · subst he
    obtain ⟨n, rfl, h0, h1, h2, h3, h4⟩ := hwin rfl
    obtain ⟨A, rfl⟩ := Int.eq_ofNat_of_zero_le h0
    rw [Int.toNat_natCast] at h2 h3 h4
    have hsz : s.size ≤ 9223372036854775807 := hs
    have hw1 : IntKind.i64.wrap ((A : Int) + (n : Int)) = ((A + n : Nat) : Int) := by rw [wrap_i64 (by omega) (by omega)]; omega
    have hw2 : IntKind.i64.wrap ((s.size : Int) - (A : Int)) = ((s.size - A : Nat) : Int) := by rw [wrap_i64 (by omega) (by omega)]; omega
    refine RunF_sound tab_ok noX_local 100 [false, false, false, false, false] _ _ rfl ?_ ?_
    · simp only [hw1, hw2, Int.toNat_natCast]
      simp
      omega
    have hq1 : (s.extract A (A + n)).size ≤ maxLen := by rw [ByteArray.size_extract]; omega
    have hq2 : (s.extract A (A + (n + 1))).size ≤ maxLen := by rw [ByteArray.size_extract]; omega
    have hp1 := fun w' => parse_ok (s.extract A (A + n)) w' hq1
    have hp2 := fun w' => parse_ok (s.extract A (A + (n + 1))) w' hq2
    rw [h3] at hp1
    simp only [hw1, Int.toNat_natCast]
    refine Run.callFn (r := .tuple #[.int .i64 v, .int .i64 0]) noX_local rfl rfl rfl rfl rfl rfl rfl parse_enters rfl (fun w' _ => hp1 w') ?_
    refine RunF_sound tab_ok noX_local 100 [] _ _ rfl ?_ ?_
    · simp
    refine Run.callFn (r := .int .i64 0) noX_local rfl rfl rfl rfl rfl rfl rfl num_enters rfl (fun w' _ => num_ok 0 w') ?_
    by_cases hend : A + n = s.size
    · refine RunF_sound tab_ok noX_local 100 [false, false, true] _ _ rfl ?_ ?_
      · simp only [hw1]
        simp
        omega
      exact Run.retP tab_ok Tryd.func9 rfl trivial (fun M => rfl)
    · have hw3 : IntKind.i64.wrap (((A + n : Nat) : Int) + 1) = ((A + (n + 1) : Nat) : Int) := by rw [wrap_i64 (by omega) (by omega)]; omega
      rw [h4 hend] at hp2
      refine RunF_sound tab_ok noX_local 100 [false, false, false] _ _ rfl ?_ ?_
      · simp only [hw1, hw3, Int.toNat_natCast]
        simp
        omega
      simp only [hw1, hw3, Int.toNat_natCast]
      refine Run.callFn (r := .tuple #[.int .i64 0, .int .i64 40]) noX_local rfl rfl rfl rfl rfl rfl rfl parse_enters rfl (fun w' _ => hp2 w') ?_
      refine RunF_sound tab_ok noX_local 100 [] _ _ rfl ?_ ?_
      · simp
      refine Run.callFn (r := .int .i64 40) noX_local rfl rfl rfl rfl rfl rfl rfl num_enters rfl (fun w' _ => num_ok 40 w') ?_
      refine RunF_sound tab_ok noX_local 100 [] _ _ rfl ?_ ?_
      · simp
      refine Run.retP tab_ok Tryd.func9 rfl trivial (fun M => ?_)
      simp [conc]
  · obtain ⟨rfl, rfl⟩ := herr he
    refine RunF_sound tab_ok noX_local 100 [true, true] _ _ rfl ?_ ?_
    · simp [he]
    refine Run.retP tab_ok Tryd.func9 rfl trivial (fun M => ?_)
    simp [conc]
end Go.Proofs.YtpfanhbkjajocaaDoor

/-
  WordCodes: the walk. Own work.
-/
namespace Go.Proofs.YtpfanhbkjajocaaDoor
open Go.AM
set_option maxRecDepth 100000

/-- A slice of int64s, as it lies in a world. -/
def SeesL (w : World) (p : Option Addr) (xs : List Int) : Prop :=
  ∀ i (h : i < xs.length), p = some (p.getD default) ∧ w.cell? ((p.getD default).add i) = some (.int .i64 xs[i])

def vB (v : Int) : List UInt8 := codB (zig v).toNat
def allV (xs : List Int) : List UInt8 := xs.flatMap vB
theorem allV_snoc (xs : List Int) (v : Int) : allV (xs ++ [v]) = allV xs ++ vB v := by simp [allV]

theorem cod_len2 : ∀ (d u j : Nat), u < 128 ^ (j + 1) → (cod d u).length ≤ j + 1
  | 0, u, j, h => by show 1 ≤ j + 1; omega
  | d + 1, u, j, h => by
    unfold cod
    split
    · rename_i hu
      cases j with
      | zero => simp at h; omega
      | succ j =>
        have h2 : u / 128 < 128 ^ (j + 1) := by
          rw [Nat.div_lt_iff_lt_mul (by decide)]
          rw [Nat.pow_succ] at h
          exact h
        have := cod_len2 d (u / 128) j h2
        simp only [List.length_cons]
        omega
    · simp
theorem vB_len (v : Int) : 1 ≤ (vB v).length ∧ (vB v).length ≤ 10 := by
  unfold vB codB
  rw [List.length_map]
  have h := (zig v).isLt
  have h2 : (zig v).toNat < 128 ^ (9 + 1) := Nat.lt_of_lt_of_le h (by decide)
  exact ⟨cod_pos _ _, cod_len2 10 _ 9 h2⟩
theorem allV_len (xs : List Int) : (allV xs).length ≤ 10 * xs.length := by
  induction xs with
  | nil => simp [allV]
  | cons x xs ih =>
    have := (vB_len x).2
    simp only [allV, List.flatMap_cons, List.length_append, List.length_cons] at ih ⊢
    omega
theorem putS_vB (v : Int) : putS v = ⟨(vB v).toArray⟩ := putS_cod v

theorem cod_byte : ∀ (d u : Nat) (c : Nat), c ∈ cod d u → c < 256
  | 0, u, c, h => by simp [cod] at h; omega
  | d + 1, u, c, h => by
    unfold cod at h
    split at h
    · simp at h
      rcases h with rfl | h
      · omega
      · exact cod_byte d _ c h
    · simp at h; omega

/-- A value's code stands in a text. -/
theorem codAt_mid (A B : List UInt8) (u : Nat) : codAt ⟨(A ++ codB u ++ B).toArray⟩ A.length (cod 10 u) := by
  intro j c hj
  have hlt : j < (cod 10 u).length := (List.getElem?_eq_some_iff.1 hj).1
  have hc : c < 256 := cod_byte 10 u c (List.mem_of_getElem? hj)
  have hl : (codB u).length = (cod 10 u).length := by simp [codB]
  have hsz : (⟨(A ++ codB u ++ B).toArray⟩ : ByteArray).size = (A ++ codB u ++ B).length := rfl
  have hin : A.length + j < (A ++ codB u ++ B).length := by simp only [List.length_append]; omega
  refine ⟨?_, by rw [hsz]; exact hin⟩
  rw [tk_list, List.append_assoc, List.getElem?_append_right (by omega), Nat.add_sub_cancel_left, List.getElem?_append_left (by omega)]
  simp only [codB, List.getElem?_map, hj, Option.map_some, Option.getD_some]
  rw [UInt8.toNat_ofNat_of_lt' (by simpa using hc)]

theorem take_at (A B : List UInt8) (v : Int) (h : -9223372036854775808 ≤ v) (h' : v ≤ 9223372036854775807) : takeP ⟨(A ++ vB v ++ B).toArray⟩ (A.length : Int) 10 0 0 = (v, ((vB v).length : Int), 0) := by
  have h2 := take_put ⟨(A ++ codB (zig v).toNat ++ B).toArray⟩ A.length 10 0 0 (zig v).toNat rfl (by decide) (by have := (zig v).isLt; simpa using this) (fun h => by omega) (codAt_mid A B _)
  have hd := dec_zig h h'
  simp only [Nat.pow_zero, Nat.mul_one, Nat.add_zero, Nat.zero_add] at h2
  rw [hd] at h2
  have hl : (vB v).length = (cod 10 (zig v).toNat).length := by simp [vB, codB]
  rw [hl]
  exact h2

theorem take_back (s : ByteArray) (a : Nat) (v n : Int) (h : takeP s (a : Int) 10 0 0 = (v, n, 0)) : n = ((vB v).length : Int) ∧ a + (vB v).length ≤ s.size ∧ s.extract a (a + (vB v).length) = ⟨(vB v).toArray⟩ ∧ -9223372036854775808 ≤ v ∧ v ≤ 9223372036854775807 := by
  obtain ⟨x, e1, e2, _, e4, e5⟩ := take_was s a 10 0 0 v n rfl (by decide) h
  simp only [Nat.pow_zero, Nat.mul_one, Nat.add_zero, Nat.zero_add] at e1 e2 e4 e5
  obtain ⟨z1, z2, z3⟩ := zig_dec x e2
  rw [← e5] at z1 z2 z3
  have hv : vB v = (cod 10 x).map UInt8.ofNat := by unfold vB codB; rw [z1]
  have hl : (vB v).length = (cod 10 x).length := by rw [hv, List.length_map]
  have hpos := cod_pos 10 x
  have hle : a + (cod 10 x).length ≤ s.size := by
    have := (e4 ((cod 10 x).length - 1) _ (List.getElem?_eq_getElem (by omega))).2
    omega
  refine ⟨by rw [hl]; exact e1, by rw [hl]; exact hle, ?_, z2, z3⟩
  have hsz : (s.extract a (a + (vB v).length)).size = (vB v).length := by rw [ByteArray.size_extract, hl]; omega
  apply ByteArray.ext_getElem
  · rw [hsz]; rfl
  · intro i h1 h2
    have hi : i < (cod 10 x).length := by rw [hsz, hl] at h1; exact h1
    have h3 := e4 i _ (List.getElem?_eq_getElem hi)
    have hb := cod_byte 10 x _ (List.getElem_mem hi)
    rw [ByteArray.getElem_extract]
    have h4 : s[a + i]?.getD 0 = s[a + i] := by rw [getElem?_pos s (a + i) h3.2]; rfl
    have h5 : ((s[a + i]).toNat : Int) = ((cod 10 x)[i] : Int) := by
      have := h3.1
      unfold tk at this
      rw [Int.toNat_natCast, h4] at this
      exact this
    have h6 : (vB v)[i]'(by rw [hl]; exact hi) = UInt8.ofNat (cod 10 x)[i] := by simp [hv]
    have h7 : (⟨(vB v).toArray⟩ : ByteArray)[i] = (vB v)[i]'(by rw [hl]; exact hi) := rfl
    rw [h7, h6]
    apply UInt8.toNat_inj.1
    rw [UInt8.toNat_ofNat_of_lt' (by simpa using hb)]
    omega
theorem take_none (s : ByteArray) (a : Int) : ∀ (d k : Nat) (u : Int), takeP s a d k u = err3 ∨ ∃ v n, takeP s a d k u = (v, n, 0)
  | 0, k, u => .inl rfl
  | d + 1, k, u => by
    unfold takeP
    split
    · split
      · exact .inl rfl
      · split
        · split
          · exact .inl rfl
          · exact .inr ⟨_, _, rfl⟩
        · exact take_none s a d (k + 1) _
    · exact .inl rfl
end Go.Proofs.YtpfanhbkjajocaaDoor

/-
  WordCodes: what it does. Own work.
-/
namespace Go.Proofs.YtpfanhbkjajocaaDoor
open Go.AM
set_option maxRecDepth 100000

theorem app_list (A B : List UInt8) : (⟨A.toArray⟩ : ByteArray) ++ ⟨B.toArray⟩ = ⟨(A ++ B).toArray⟩ := by apply ByteArray.ext; simp
theorem str_list (s : ByteArray) : s = ⟨s.data.toList.toArray⟩ := by apply ByteArray.ext; simp

set_option maxHeartbeats 2000000 in
theorem codes_ok (p : Option Addr) (cp : Nat) (xs : List Int) (s : ByteArray) (a : Int) (w : World) (hxs : SeesL w p xs) (hr : ∀ x ∈ xs, -9223372036854775808 ≤ x ∧ x ≤ 9223372036854775807) (hlen : xs.length ≤ 9223372036854775807)
    (hs : s.size ≤ 140737488355328) (hT : TabAt w) (hP : PowAt w) : Gives Tryd.prog 10 [.slice p xs.length cp, .string s, .int .i64 a] w (.bool true) := by
  refine Gives.of_run Tryd.func10 rfl (by show 3 ≤ 128; decide) ?_
  refine RunF_sound tab_ok noX_local 100 [] _ _ rfl ?_ ?_
  · simp
  refine Run.callFn (r := .bool true) noX_local rfl rfl rfl rfl rfl rfl rfl works_enters rfl (fun w' hA => works_ok w' (hT.agree hA (fun h => h)) (hP.agree hA)) ?_
  refine RunF_sound tab_ok noX_local 100 [false] _ _ rfl ?_ ?_
  · simp
  obtain ⟨S, rfl⟩ : ∃ S : List UInt8, s = ⟨S.toArray⟩ := ⟨s.data.toList, str_list s⟩
  have hSl : (⟨S.toArray⟩ : ByteArray).size = S.length := rfl
  have hbnd : ∀ k, k ≤ 1000 → (allV (xs.take k)).length ≤ 10000 := fun k hk => by
    have := allV_len (xs.take k)
    rw [List.length_take] at this
    omega
  have hstep : ∀ k (h : k < xs.length), allV (xs.take (k + 1)) = allV (xs.take k) ++ vB xs[k] := fun k h => by
    rw [List.take_succ_eq_append_getElem h, allV_snoc]
  obtain ⟨m, hm, hm1, hm2⟩ : ∃ m, m = min xs.length 1000 ∧ m ≤ xs.length ∧ m ≤ 1000 := ⟨_, rfl, by omega, by omega⟩
  suffices H2 : ∀ σ, inT σ.t [(0, .v (.slice p xs.length cp)), (1, .v (.string ⟨S.toArray⟩)), (2, .v (.int .i64 a)), (7, .v (.string ⟨(allV (xs.take m)).toArray⟩)), (9, .v (.int .i64 0)), (10, .v (.int .i64 0))] → inT σ.h [] → Run (fnP Tryd.prog 10 (Tryd.f10).ntmps w (.bool true)) _ σ by
    suffices H : ∀ (d k : Nat), k + d = m → ∀ σ, inT σ.t [(0, .v (.slice p xs.length cp)), (1, .v (.string ⟨S.toArray⟩)), (2, .v (.int .i64 a)), (7, .v (.string ⟨(allV (xs.take k)).toArray⟩)), (8, .v (.int .i64 (k : Int)))] → inT σ.h [] → Run (fnP Tryd.prog 10 (Tryd.f10).ntmps w (.bool true)) _ σ by
      exact H m 0 (by omega) _ ⟨rfl, rfl, rfl, rfl, rfl, trivial⟩ trivial
    intro d
    induction d with
    | zero =>
      intro k hk σ ht hh
      obtain rfl : k = m := by omega
      refine Run.to ?_ ht hh (n' := 0)
      by_cases hx : k < xs.length
      · refine RunF_sound tab_ok noX_local 100 [true, false] _ _ rfl ?_ ?_
        · simp
          omega
        exact H2 _ ⟨rfl, rfl, rfl, rfl, rfl, rfl, trivial⟩ trivial
      · refine RunF_sound tab_ok noX_local 100 [false] _ _ rfl ?_ ?_
        · simp
          omega
        exact H2 _ ⟨rfl, rfl, rfl, rfl, rfl, rfl, trivial⟩ trivial
    | succ d ih =>
      intro k hk σ ht hh
      have hx : k < xs.length := by omega
      obtain ⟨e1, e2⟩ := hxs k hx
      obtain ⟨b1, b2⟩ := hr _ (List.getElem_mem hx)
      have hl := hbnd k (by omega)
      have hl2 := (vB_len xs[k]).2
      have hsz : (⟨(allV (xs.take k)).toArray⟩ : ByteArray).size = (allV (xs.take k)).length := rfl
      have hst := hstep k hx
      refine Run.to ?_ ht hh (n' := 0)
      refine RunF_sound tab_ok noX_local 100 [true, true] _ _ rfl ?_ ?_
      · simp only [fnC_w0, fnC_S0, Int.toNat_natCast, Nat.zero_add, Nat.mul_one, e2]
        simp
        exact ⟨hx, by omega, e1, hx⟩
      simp only [fnC_w0, fnC_S0, Int.toNat_natCast, Nat.zero_add, Nat.mul_one, e2]
      refine Run.callFn (r := .string ⟨(vB xs[k]).toArray⟩) noX_local rfl rfl rfl rfl rfl rfl rfl put_enters rfl (fun w' _ => by rw [← putS_vB]; exact put_ok _ w' b1 b2) ?_
      have hsz2 : (⟨(vB xs[k]).toArray⟩ : ByteArray).size = (vB xs[k]).length := rfl
      refine RunF_sound tab_ok noX_local 100 [] _ _ rfl ?_ ?_
      · simp [hsz, hsz2]
        omega
      refine ih (k + 1) (by omega) _ ⟨rfl, rfl, rfl, ?_, i64_eq (wrap_succ (by omega)), trivial⟩ trivial
      rw [hst]
      exact congrArg (fun z => some (AV.v (Value.string z))) (app_list _ _)
  intro σ ht hh
  refine Run.to ?_ ht hh (n' := 0)
  have hbm := hbnd m hm2
  have hAl : (⟨(allV (xs.take m)).toArray⟩ : ByteArray).size = (allV (xs.take m)).length := rfl
  suffices F : ∀ σ, inT σ.t [(1, .v (.string ⟨S.toArray⟩)), (2, .v (.int .i64 a)), (82, .v (.string ⟨S.toArray⟩)), (83, .v (.int .i64 a))] → inT σ.h [] → Run (fnP Tryd.prog 10 (Tryd.f10).ntmps w (.bool true)) _ σ by
    suffices H : ∀ (d k : Nat), k + d = m → ∀ σ, inT σ.t [(0, .v (.slice p xs.length cp)), (1, .v (.string ⟨S.toArray⟩)), (2, .v (.int .i64 a)), (7, .v (.string ⟨(allV (xs.take m)).toArray⟩)), (9, .v (.int .i64 ((allV (xs.take k)).length : Int))), (10, .v (.int .i64 (k : Int)))] → inT σ.h [] → Run (fnP Tryd.prog 10 (Tryd.f10).ntmps w (.bool true)) _ σ by
      exact H m 0 (by omega) _ ⟨rfl, rfl, rfl, rfl, rfl, rfl, trivial⟩ trivial
    intro d
    induction d with
    | zero =>
      intro k hk σ ht hh
      obtain rfl : k = m := by omega
      refine Run.to ?_ ht hh (n' := 0)
      by_cases hx : k < xs.length
      · refine RunF_sound tab_ok noX_local 100 [true, false, false] _ _ rfl ?_ ?_
        · simp [hAl]
          omega
        exact F _ ⟨rfl, rfl, rfl, rfl, trivial⟩ trivial
      · refine RunF_sound tab_ok noX_local 100 [false, false] _ _ rfl ?_ ?_
        · simp [hAl]
          omega
        exact F _ ⟨rfl, rfl, rfl, rfl, trivial⟩ trivial
    | succ d ih =>
      intro k hk σ ht hh
      have hx : k < xs.length := by omega
      obtain ⟨e1, e2⟩ := hxs k hx
      obtain ⟨b1, b2⟩ := hr _ (List.getElem_mem hx)
      have hl := hbnd k (by omega)
      have hl2 := vB_len xs[k]
      have hst := hstep k hx
      obtain ⟨R, hR⟩ : ∃ R, allV (xs.take m) = allV (xs.take k) ++ vB xs[k] ++ R := by
        refine ⟨allV ((xs.take m).drop (k + 1)), ?_⟩
        rw [← hst]
        have : xs.take m = xs.take (k + 1) ++ (xs.take m).drop (k + 1) := by
          have h1 := (List.take_append_drop (k + 1) (xs.take m)).symm
          rwa [List.take_take, Nat.min_eq_left (by omega)] at h1
        rw [allV, allV, allV, ← List.flatMap_append, ← this]
      have htk := take_at (allV (xs.take k)) (R ++ S) xs[k] b1 b2
      have hZ : allV (xs.take k) ++ vB xs[k] ++ (R ++ S) = allV (xs.take m) ++ S := by rw [hR]; simp
      rw [hZ] at htk
      have hlA : (allV (xs.take m)).length = (allV (xs.take k)).length + (vB xs[k]).length + R.length := by rw [hR]; simp; omega
      have htake := fun w' => take_ok ⟨(allV (xs.take m) ++ S).toArray⟩ ((allV (xs.take k)).length : Int) w' (by
        show (allV (xs.take m) ++ S).length ≤ maxLen
        simp only [List.length_append, maxLen]
        omega)
      rw [if_neg (by show ¬ (_ ∨ ((allV (xs.take k)).length : Int) ≥ ((allV (xs.take m) ++ S).length : Int)); simp only [List.length_append]; omega), htk] at htake
      have hsl : allV (xs.take (k + 1)) = allV (xs.take k) ++ vB xs[k] := hst
      have hln : (allV (xs.take (k + 1))).length = (allV (xs.take k)).length + (vB xs[k]).length := by rw [hsl, List.length_append]
      clear hR hZ htk hst hsl
      refine Run.to ?_ ht hh (n' := 0)
      refine RunF_sound tab_ok noX_local 100 [true, true] _ _ rfl ?_ ?_
      · simp [hAl, hSl]
        omega
      simp only [app_list]
      generalize allV (xs.take m) ++ S = Z at *
      generalize (vB xs[k]).length = L at *
      refine Run.callFn (r := .tuple #[.int .i64 xs[k], .int .i64 (L : Int), .int .i64 0]) noX_local rfl rfl rfl rfl rfl rfl rfl take_enters rfl (fun w' _ => htake w') ?_
      refine RunF_sound tab_ok noX_local 100 [] _ _ rfl ?_ ?_
      · simp
      refine Run.callFn (r := .int .i64 0) noX_local rfl rfl rfl rfl rfl rfl rfl num_enters rfl (fun w' _ => num_ok 0 w') ?_
      refine RunF_sound tab_ok noX_local 100 [false, false, false, false] _ _ rfl ?_ ?_
      · simp only [fnC_w0, fnC_S0, Int.toNat_natCast, Nat.zero_add, Nat.mul_one, e2]
        simp
        exact ⟨⟨e1, hx⟩, by omega, by omega⟩
      refine ih (k + 1) (by omega) _ ⟨rfl, rfl, rfl, rfl, ?_, i64_eq (wrap_succ (by omega)), trivial⟩ trivial
      refine i64_eq ?_
      rw [hln, wrap_i64 (by omega) (by omega)]
      omega
  intro σ ht hh
  refine Run.to ?_ ht hh (n' := 0)
  have htake := fun w' => take_ok ⟨S.toArray⟩ a w' (by show S.length ≤ maxLen; simp only [maxLen]; rw [hSl] at hs; omega)
  have hcase : (if a < 0 ∨ a ≥ ((⟨S.toArray⟩ : ByteArray).size : Int) then err3 else takeP ⟨S.toArray⟩ a 10 0 0) = err3 ∨ ∃ (A : Nat) (v : Int), a = (A : Int) ∧ A < S.length ∧ (if a < 0 ∨ a ≥ ((⟨S.toArray⟩ : ByteArray).size : Int) then err3 else takeP ⟨S.toArray⟩ a 10 0 0) = (v, ((vB v).length : Int), 0) ∧
      A + (vB v).length ≤ S.length ∧ (⟨S.toArray⟩ : ByteArray).extract A (A + (vB v).length) = ⟨(vB v).toArray⟩ ∧ -9223372036854775808 ≤ v ∧ v ≤ 9223372036854775807 := by
    by_cases ha : a < 0 ∨ a ≥ ((⟨S.toArray⟩ : ByteArray).size : Int)
    · rw [if_pos ha]; exact .inl rfl
    · rw [if_neg ha]
      rw [hSl] at ha
      obtain ⟨A, rfl⟩ : ∃ A : Nat, a = (A : Int) := Int.eq_ofNat_of_zero_le (by omega)
      rcases take_none ⟨S.toArray⟩ (A : Int) 10 0 0 with h | ⟨v, n, h⟩
      · exact .inl h
      · obtain ⟨h1, h2, h3, h4, h5⟩ := take_back _ A v n h
        refine .inr ⟨A, v, rfl, by omega, ?_, h2, h3, h4, h5⟩
        rw [h, h1]
  generalize (if a < 0 ∨ a ≥ ((⟨S.toArray⟩ : ByteArray).size : Int) then err3 else takeP ⟨S.toArray⟩ a 10 0 0) = R at hcase htake
  rcases hcase with rfl | ⟨A, v, rfl, hA1, rfl, hA2, hA3, b1, b2⟩
  · refine Run.callFn (r := .tuple #[.int .i64 0, .int .i64 0, .int .i64 40]) noX_local rfl rfl rfl rfl rfl rfl rfl take_enters rfl (fun w' _ => htake w') ?_
    refine RunF_sound tab_ok noX_local 100 [] _ _ rfl ?_ ?_
    · simp
    refine Run.callFn (r := .int .i64 40) noX_local rfl rfl rfl rfl rfl rfl rfl num_enters rfl (fun w' _ => num_ok 40 w') ?_
    refine RunF_sound tab_ok noX_local 100 [true, true] _ _ rfl ?_ ?_
    · simp
    refine Run.retP tab_ok Tryd.func10 rfl trivial (fun M => ?_)
    simp [conc]
  · have hvl := (vB_len v).1
    rw [hSl] at hs
    have hw1 : IntKind.i64.wrap ((S.length : Int) - (A : Int)) = ((S.length - A : Nat) : Int) := by rw [wrap_i64 (by omega) (by omega)]; omega
    have hw2 : IntKind.i64.wrap ((A : Int) + ((vB v).length : Int)) = ((A + (vB v).length : Nat) : Int) := by rw [wrap_i64 (by omega) (by omega)]; omega
    have hput := fun w' => put_ok v w' b1 b2
    rw [putS_vB] at hput
    generalize hL : (vB v).length = L at *
    generalize vB v = V at *
    refine Run.callFn (r := .tuple #[.int .i64 v, .int .i64 (L : Int), .int .i64 0]) noX_local rfl rfl rfl rfl rfl rfl rfl take_enters rfl (fun w' _ => htake w') ?_
    refine RunF_sound tab_ok noX_local 100 [] _ _ rfl ?_ ?_
    · simp
    refine Run.callFn (r := .int .i64 0) noX_local rfl rfl rfl rfl rfl rfl rfl num_enters rfl (fun w' _ => num_ok 0 w') ?_
    refine RunF_sound tab_ok noX_local 100 [false] _ _ rfl ?_ ?_
    · simp
    refine Run.drawA noX_local rfl [] [] rfl rfl trivial ?_
    refine RunOF_sound tab_ok noX_local rfl rfl 100 [true, true, true, true] _ _ rfl ?_ ?_
    · simp only [hSl, hw1, hw2]
      simp
      omega
    simp only [hSl, hw2, Int.toNat_natCast, hA3]
    refine RunO.callFn (r := .string ⟨V.toArray⟩) noX_local rfl rfl rfl rfl rfl rfl rfl rfl put_enters rfl (fun w' _ => hput w') ?_
    refine RunOF_sound tab_ok noX_local rfl rfl 100 [] _ _ rfl ?_ ?_
    · simp
    refine RunO.done ?_
    refine RunF_sound tab_ok noX_local 100 [] _ _ rfl ?_ ?_
    · simp
    refine Run.retP tab_ok Tryd.func10 rfl trivial (fun M => ?_)
    simp [conc]
end Go.Proofs.YtpfanhbkjajocaaDoor

/-
  A list of int64s as an argument of a row, opened. Own work.
-/
namespace Go.Proofs.YtpfanhbkjajocaaDoor
open Go.ChangeShapes Go.WideShapes Go.ChangeAt Go.RowKit Go.AM

section
variable {H : Type} {enc : TypeId × Value → H} {w W : World} {base b0 : Nat} {sp : Nat → Bool} {held : Bool} {v : Value} {d : DataW H} {ps : List MemPlace}

theorem l_add_add (a : Addr) (i j : Nat) : (a.add i).add j = a.add (i + j) := by
  obtain ⟨b, o, x⟩ := a
  unfold Addr.add
  by_cases hi : i = 0
  · subst hi; simp
  · by_cases hj : j = 0
    · subst hj; simp [hi]
    · have : ¬ i + j = 0 := by omega
      simp [hi, hj, this, Nat.add_assoc]

set_option maxRecDepth 100000 in
theorem open_longs (hval : Value.okWide Tryd.prog W .any b0 78 v) (hd : DataW.Trod enc Tryd.prog w base sp held 78 v d ps) :
    ∃ (p : Option Addr) (c : Nat) (xs : List Int), v = .slice p xs.length c ∧ SeesL w p xs ∧ xs.length ≤ maxLen ∧ ∀ x ∈ xs, -9223372036854775808 ≤ x ∧ x ≤ 9223372036854775807 := by
  have hs := tab_undP tab_ok (t := 78) (d := .slice 2) rfl
  have hi := tab_undP tab_ok (t := 2) (d := .int .i64) rfl
  have c2 : Tryd.prog.cellsOf 2 = 1 := by kernel_rfl
  obtain ⟨p, len, cap, rfl⟩ := okWide_slice hs hval
  obtain ⟨fuel, hf⟩ := hd
  simp only [Value.cells] at hf
  rcases DataW.trod_slice hs hf with ⟨hcs, _⟩ | ⟨a, len', cap', elems, rest, n, _, hcs, hx, _, hlc, hcm, hle, hel, _, _⟩
  · simp at hcs
    obtain ⟨rfl, rfl, rfl⟩ := hcs
    exact ⟨none, 0, [], rfl, fun i h => by simp at h, Nat.zero_le _, fun x h => by cases h⟩
  · simp at hcs
    obtain ⟨rfl, rfl, rfl⟩ := hcs
    have key : ∀ i, i < len → ∃ z : Int, (-9223372036854775808 ≤ z ∧ z ≤ 9223372036854775807) ∧ w.cell? (a.add i) = some (.int .i64 z) := by
      intro i hi'
      have he := hel i hi'
      rw [c2, List.getElem?_eq_getElem (by omega)] at he
      simp only [Option.bind_eq_some_iff] at he
      obtain ⟨ds, hds, ht⟩ := he
      unfold World.cells? at hds
      split at hds
      · obtain ⟨m1, m2⟩ := mapM_some hds
        obtain ⟨u0, g0, g0'⟩ := m2 0 0 rfl
        obtain ⟨A, hA, _, hwf⟩ := DataW.trod_int hi ht
        rw [hA] at g0
        simp at g0
        subst g0
        rw [l_add_add, Nat.mul_one, Nat.add_zero] at g0'
        exact ⟨A, wf_i64 hwf, g0'⟩
      · cases hds
    obtain ⟨g, hg⟩ : ∃ g : Nat → Int, ∀ i, i < len → (-9223372036854775808 ≤ g i ∧ g i ≤ 9223372036854775807) ∧ w.cell? (a.add i) = some (.int .i64 (g i)) :=
      ⟨fun i => if h : i < len then (key i h).choose else 0, fun i h => by simp only [dif_pos h]; exact (key i h).choose_spec⟩
    refine ⟨some a, cap, (List.range len).map g, by simp, ?_, by simp; omega, fun x hx => ?_⟩
    · intro i hi'
      have hlt : i < len := by simpa using hi'
      have eg : ((List.range len).map g)[i] = g i := by simp
      rw [eg]
      exact ⟨rfl, (hg i hlt).2⟩
    · obtain ⟨i, hi, rfl⟩ := List.mem_map.1 hx
      exact (hg i (List.mem_range.1 hi)).1
end
end Go.Proofs.YtpfanhbkjajocaaDoor

/-
  Own work, merged: AM21, N0.
-/
import Derived.AtR
import Derived.Below
import Derived.ChangeKeysEq
import Derived.Laws.AppendOwn
import Derived.Laws.BytesString
import Derived.Laws.Cells
import Derived.Laws.CopyRow
import Derived.Laws.Entries
import Derived.Laws.Externs
import Derived.Laws.Rows
import Derived.Laws.Small
import Derived.Laws.StructEq
import Derived.Maps.AppendAt
import Derived.Orders
import Derived.RangeFuncRecord
import Derived.Test.YtpfanhbkjajocaaDoorQ383C47
/-
  The abstract machine, twenty-first part: a call that the model answers itself. Own work; over any program.
-/
namespace Go.AM

/-- A call that is answered where it stands. -/
theorem Run.callX {C : Ctx} {k : List Item} {σ : St} {ops : Array Oper} {i : Nat} {rest : List Nat} {o : Oper} {c : Call} {g : Operand} {f : FuncId} {caps xs : List AV} {vs : List Value} {r : Value}
    (ho : ops[i]? = some o) (hop : o.op = .call c) (hc : c.callee = .value g) (hg : σ.ev g = some (.fn f caps)) (hxs : evs σ c.args.toList = some xs) (hvs : toVs (xs ++ caps) = some vs) (hw : wantOf ops σ o = some .yes)
    (hd : dstOK C.n o.dst = true) (hx : ∀ w, (callFunc f vs.toArray).run C.P w = .ok (.value r) w)
    (h : Run C (.inRegion ops rest :: k) (σ.put o.dst (.v r))) : Run C (.inRegion ops (i :: rest) :: k) σ := by
  intro M fp a w hR cs
  have hnd : ∀ c, o.op ≠ .defer c := fun c e => by rw [hop] at e; cases e
  have h2 : c.args.map a.eval = (concL M xs).toArray := by apply Array.ext'; simpa using evs_conc hR.q hxs
  have h3 : concL M (xs ++ caps) = vs := toVs_conc hvs
  have hr : (execOp a.eval o).run C.P w = .ok (.value r) w := by
    have h4 := hx w
    rw [← h3, concL_append] at h4
    simp only [execOp, hop, resolve, hc, h2, hR.q.ev hg, conc, Deferred.ofValue]
    simp [invoke, h4]
  obtain ⟨m, s, z⟩ := h M fp _ w (hR.put (z := .v r) (dstOK_lt hd)) cs
  exact ⟨m, .head (step_value ho (wantOf_yes hR.q hw) hnd hr) s, z⟩
end Go.AM

/-
  What word.Next, word.Parse and their references compute, in plain Lean. Own work.
-/
namespace Go.Proofs.YtpfanhbkjajocaaDoor
open Go.AM

/-- A byte as a digit; 99: it is none. -/
def dv (c : Int) : Int := if 48 ≤ c ∧ c ≤ 57 then c - 48 else if 97 ≤ c ∧ c ≤ 102 then c - 97 + 10 else if 65 ≤ c ∧ c ≤ 70 then c - 65 + 10 else 99
theorem dv_bounds (c : Int) : 0 ≤ dv c ∧ dv c ≤ 99 := by unfold dv; split <;> (try split) <;> (try split) <;> omega
def stp (b v d : Int) : Int := (v * b + d) % 18446744073709551616
def ovf (b v d : Int) : Bool := decide (v * b + d ≥ 18446744073709551616)

/-- The digits to a base from a place on. -/
def dgo (s : ByteArray) (b : Int) : Nat → Nat → Int → Bool → Int × Bool × Nat
  | 0, i, v, g => (v, g, i)
  | d + 1, i, v, g => if dv (tk s i) < b then dgo s b d (i + 1) (stp b v (dv (tk s i))) (g || ovf b v (dv (tk s i))) else (v, g, i)

theorem dgo_bounds (s : ByteArray) (b : Int) : ∀ (d i : Nat) (v : Int) (g : Bool), 0 ≤ v → v < 18446744073709551616 → 0 ≤ (dgo s b d i v g).1 ∧ (dgo s b d i v g).1 < 18446744073709551616 ∧ i ≤ (dgo s b d i v g).2.2 ∧ (dgo s b d i v g).2.2 ≤ i + d
  | 0, i, v, g, h0, h1 => ⟨h0, h1, Nat.le_refl _, Nat.le_refl _⟩
  | d + 1, i, v, g, h0, h1 => by
    unfold dgo
    split
    · have ih := dgo_bounds s b d (i + 1) (stp b v (dv (tk s i))) (g || ovf b v (dv (tk s i))) (by unfold stp; omega) (by unfold stp; omega)
      omega
    · exact ⟨h0, h1, Nat.le_refl _, Nat.le_add_right _ _⟩
theorem dgo_none (s : ByteArray) (b : Int) (d i : Nat) (v : Int) (g : Bool) : (dgo s b d i v g).2.2 = i ↔ d = 0 ∨ ¬ dv (tk s i) < b := by
  cases d with
  | zero => simp [dgo]
  | succ d =>
    unfold dgo
    split
    · rename_i h
      constructor
      · intro h2
        have h3 : ∀ (d i : Nat) (v : Int) (g : Bool), i ≤ (dgo s b d i v g).2.2 := by
          intro d
          induction d with
          | zero => intro i v g; exact Nat.le_refl _
          | succ d ih =>
            intro i v g
            unfold dgo
            split
            · have := ih (i + 1) (stp b v (dv (tk s i))) (g || ovf b v (dv (tk s i))); omega
            · exact Nat.le_refl _
        have := h3 d (i + 1) (stp b v (dv (tk s i))) (g || ovf b v (dv (tk s i)))
        omega
      · rintro (h2 | h2)
        · cases h2
        · exact absurd h h2
    · rename_i h
      exact ⟨fun _ => .inr h, fun _ => rfl⟩

def negS (s : ByteArray) (a : Nat) : Bool := decide (a < s.size) && decide (tk s a = 45)
def begS (s : ByteArray) (a : Nat) : Nat := if negS s a then a + 1 else a
def xS (s : ByteArray) (b : Nat) : Bool := decide (b + 1 < s.size) && (decide (tk s b = 48) && (decide (tk s (b + 1 : Nat) = 120) || decide (tk s (b + 1 : Nat) = 88)))
def hexS (s : ByteArray) (b : Nat) : Bool := xS s b && (decide (b + 2 < s.size) && decide (dv (tk s (b + 2 : Nat)) < 16))
def baseS (s : ByteArray) (b : Nat) : Int := if hexS s b then 16 else 10
def stS (s : ByteArray) (b : Nat) : Nat := if hexS s b then b + 2 else b
def runS (s : ByteArray) (b : Nat) : Int × Bool × Nat := dgo s (baseS s b) (s.size - stS s b) (stS s b) 0 false

/-- What Next answers at a place within the text. -/
def nextAt (s : ByteArray) (a : Nat) : T3 :=
  if (runS s (begS s a)).2.2 = stS s (begS s a) then (0, 0, 40)
  else if (runS s (begS s a)).2.1 || (negS s a && decide ((runS s (begS s a)).1 > 9223372036854775808)) then (0, 0, 41)
  else (IntKind.i64.wrap (if negS s a then IntKind.u64.wrap (0 - (runS s (begS s a)).1) else (runS s (begS s a)).1), ((runS s (begS s a)).2.2 - a : Nat), 0)
def nextS (s : ByteArray) (a : Int) : T3 := if a < 0 ∨ a > s.size then (0, 0, 40) else nextAt s a.toNat
/-- How many bytes the number has. -/
def lenS (s : ByteArray) : Int := ((runS s (begS s 0)).2.2 : Nat)
def parseS (s : ByteArray) : Int × Int :=
  if (nextS s 0).2.2 = 40 then (0, 40) else if lenS s ≠ s.size then (0, 40) else if (nextS s 0).2.2 ≠ 0 then (0, (nextS s 0).2.2) else ((nextS s 0).1, 0)

theorem get_cut (s : ByteArray) (a j : Nat) : (s.extract a s.size)[j]? = s[a + j]? := by
  simp only [getElem?_def, ByteArray.size_extract, ByteArray.getElem_extract, Nat.min_self]
  by_cases h : a + j < s.size
  · rw [dif_pos h, dif_pos (by omega)]
  · rw [dif_neg h, dif_neg (by omega)]
theorem tk_cut (s : ByteArray) (a j : Nat) : tk (s.extract a s.size) (j : Nat) = tk s (a + j : Nat) := by
  unfold tk
  simp only [Int.toNat_natCast, get_cut]

/-- The digits of what is left of a text are the text's. -/
theorem dgo_cut (s : ByteArray) (b : Int) (a : Nat) : ∀ (d i : Nat) (v : Int) (g : Bool), dgo s b d (a + i) v g = ((dgo (s.extract a s.size) b d i v g).1, (dgo (s.extract a s.size) b d i v g).2.1, a + (dgo (s.extract a s.size) b d i v g).2.2)
  | 0, i, v, g => rfl
  | d + 1, i, v, g => by
    have ht := tk_cut s a i
    have ih := dgo_cut s b a d (i + 1) (stp b v (dv (tk s (a + i : Nat)))) (g || ovf b v (dv (tk s (a + i : Nat))))
    unfold dgo
    rw [ht]
    split
    · rw [Nat.add_assoc]; exact ih
    · rfl
end Go.Proofs.YtpfanhbkjajocaaDoor

/-
  Own work, merged: AM35.
-/
import Derived.AtR
import Derived.Below
import Derived.ChangeKeysEq
import Derived.KernelRfl
import Derived.Laws.AppendOwn
import Derived.Laws.BytesString
import Derived.Laws.Cells
import Derived.Laws.CopyRow
import Derived.Laws.Entries
import Derived.Laws.Externs
import Derived.Laws.IdiomStrings
import Derived.Laws.Rows
import Derived.Laws.Slices
import Derived.Laws.Small
import Derived.Laws.StructEq
import Derived.Lib.ItoaNum
import Derived.Lib.TrailingZeros
import Derived.Maps.AppendAt
import Derived.Orders
import Derived.RangeFuncRecord
import Derived.Test.YtpfanhbkjajocaaDoorProg
import Derived.Test.YtpfanhbkjajocaaDoorQ3EA75D
/-
  The abstract machine, thirty-fifth part: the tail of an array of bytes, as a string. Own work; over any program.
-/
namespace Go.AM
open Go.RowKit

theorem cells_vals {M : Loc} {w : World} {id e n : Nat} {vs : List Value} (hb : BlkAt M w id (.cells e [.vals n vs])) (j : Nat) (v : Value) (h : vs[j]? = some v) : w.cell? ⟨(M id).1, j, none⟩ = some v := by
  have h1 := hb.1
  simp [World.cell?, h1, concSegs, h]

theorem Run.arrStr {C : Ctx} {ops : Array Oper} {i j : Nat} {rest : List Nat} {k : List Item} {σ : St} {o1 o2 : Oper} {T : Tab} {ta tb ts te d1 id e N n : Nat} {vs : List Value} {x lo : Operand} (bs : List UInt8)
    (hT : tabOK C.P T) (ho1 : ops[i]? = some o1) (hop1 : o1.op = .slice ta x (some lo) none none) (hd1 : o1.dst = some d1) (ho2 : ops[j]? = some o2) (hop2 : o2.op = .convert tb ts (.tmp d1))
    (hx : σ.ev x = some (.ptr id 0)) (hlo : σ.ev lo = some (.v (.int .i64 (n : Int)))) (hb : lk σ.h id = some (.cells e [.vals N vs])) (hnone : lk σ.t d1 = none)
    (hta : T.desc ta = some (.array N te)) (hsz : T.size te = some 1) (htb : T.desc tb = some (.slice te)) (hte : T.desc te = some (.int .u8)) (hts : T.desc ts = some .string)
    (hw1 : wantOf ops σ o1 = some .yes) (hw2 : wantOf ops σ o2 = some .yes) (hk1 : dstOK C.n o1.dst = true) (hk2 : dstOK C.n o2.dst = true)
    (hl : vs.drop n = bs.map fun b => Value.int .u8 (b.toNat : Int)) (hn : n + bs.length = N) (h0 : bs ≠ [])
    (h : Run C (.inRegion ops rest :: k) (σ.put o2.dst (.v (.string ⟨bs.toArray⟩)))) : Run C (.inRegion ops (i :: j :: rest) :: k) σ := by
  intro M fp a w hR cs
  have hB := hR.heap _ _ hb
  have hbl : 0 < bs.length := List.length_pos_iff.2 h0
  let v1 : Value := .slice (some ⟨(M id).1, n, none⟩) bs.length bs.length
  have hR1 := hR.put (z := .v v1) (dstOK_lt hk1)
  have hRs : Rel C M fp σ (a.put o1.dst v1) w := by
    refine hR1.weaken ⟨fun q y hq => ?_, fun q y hq => ?_⟩
    · rw [hd1]
      show lk ((d1, AV.v v1) :: σ.t) q = some y
      simp only [lk]
      split
      · rename_i he
        have := Nat.eq_of_beq_eq_true he
        subst this
        rw [hnone] at hq; cases hq
      · exact hq
    · rw [hd1]; exact hq
  obtain ⟨m, s, z'⟩ := h M fp _ w (hRs.put (z := .v (.string ⟨bs.toArray⟩)) (dstOK_lt hk2)) cs
  have hal : C.P.arrayLen ta = N := by simp [Program.arrayLen, tab_undP hT hta]
  have hel : C.P.elem ta = te := by simp [Program.elem, tab_undP hT hta]
  have e1 : (execOp a.eval o1).run C.P w = .ok (.value v1) w := by
    have h2 := hR.q.ev hx
    have h3 := hR.q.ev hlo
    simp only [conc] at h2 h3
    have h4 := run_sliceAt_array_l (P := C.P) w ta ⟨(M id).1, 0, none⟩ (by rw [tab_undP hT hta, hal, hel]) .i64 (n : Int) (by omega) (by rw [hal]; omega)
    rw [hel, hal, tab_size hT hsz] at h4
    have hne : ¬ N = n := by omega
    have hNn : N - n = bs.length := by omega
    simp only [Result.andThen, slicedAt, if_neg hne, Nat.mul_one, Int.toNat_natCast, hNn, Addr.add_lit, Nat.zero_add] at h4
    simp [execOp, hop1, h2, h3, h4, v1]
  have e2 : (execOp (a.put o1.dst v1).eval o2).run C.P w = .ok (.value (.string ⟨bs.toArray⟩)) w := by
    have h4 := run_convert_bytes_back (P := C.P) w tb ts te ⟨(M id).1, n, none⟩ bs.length bs (tab_undP hT htb) (tab_undP hT hte) (tab_undP hT hts) (fun q hq => by
      rw [Addr.add_lit]
      refine cells_vals hB (n + q) _ ?_
      have := congrArg (fun l : List Value => l[q]?) hl
      simp only [List.getElem?_drop, List.getElem?_map, List.getElem?_eq_getElem hq, Option.map_some] at this
      exact this)
    have h5 : (a.put o1.dst v1).eval (.tmp d1) = v1 := by
      have h6 := hR1.q.ev (x := .tmp d1) (y := .v v1) (by rw [hd1]; show lk ((d1, AV.v v1) :: σ.t) d1 = _; simp [lk])
      simpa [conc] using h6
    simp [execOp, hop2, h5, v1, h4]
  exact ⟨m, .head (step_value ho1 (wantOf_yes hR.q hw1) (fun c e => by rw [hop1] at e; cases e) e1) (.head (step_value ho2 (wantOf_yes hRs.q hw2) (fun c e => by rw [hop2] at e; cases e) e2) s), z'⟩
end Go.AM

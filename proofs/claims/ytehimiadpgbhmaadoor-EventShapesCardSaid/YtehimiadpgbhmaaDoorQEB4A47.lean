/-
  Own work, merged: AMO, X5, S3.
-/
import Derived.AtR
import Derived.Below
import Derived.ChangeKeysEq
import Derived.KernelRfl
import Derived.Laws.AppendOwn
import Derived.Laws.BytesString
import Derived.Laws.Cells
import Derived.Laws.CopyRow
import Derived.Laws.Entries
import Derived.Laws.Rows
import Derived.Laws.Small
import Derived.Laws.StructEq
import Derived.Lib.TrailingZeros
import Derived.Maps.AppendAt
import Derived.OpenShut
import Derived.Orders
import Derived.ProofKit
import Derived.RangeFuncRecord
import Derived.Shelf.Lay
import Derived.Shelf.Strconv.Itoa3
import Derived.Test.YtehimiadpgbhmaaDoorChecked
import Derived.Test.YtehimiadpgbhmaaDoorProg
import Derived.Test.YtehimiadpgbhmaaDoorQCE9543
/-
  Arguments opened: plain lists. Own work; over any program.
-/
namespace Go.AM

theorem mapM_some {α β : Type} {f : α → Option β} : ∀ {l : List α} {ys : List β}, l.mapM f = some ys → ys.length = l.length ∧ ∀ (i : Nat) (a : α), l[i]? = some a → ∃ y, ys[i]? = some y ∧ f a = some y
  | [], ys, h => by
    simp at h
    subst h
    exact ⟨rfl, fun i a h => by simp at h⟩
  | x :: l, ys, h => by
    rw [List.mapM_cons] at h
    simp only [bind, Option.bind_eq_some_iff, pure, Option.some.injEq] at h
    obtain ⟨y, hy, ys', hys, rfl⟩ := h
    obtain ⟨h1, h2⟩ := mapM_some hys
    refine ⟨by simp [h1], fun i a hi => ?_⟩
    cases i with
    | zero => simp at hi; subst hi; exact ⟨y, by simp, hy⟩
    | succ i => simpa using h2 i a (by simpa using hi)

theorem wf_i64 {n : Int} (h : (Lit.int .i64 n).wf = true) : -9223372036854775808 ≤ n ∧ n ≤ 9223372036854775807 := by
  simp only [Lit.wf, IntKind.min, IntKind.max, IntKind.signed, IntKind.bits, Bool.and_eq_true, decide_eq_true_eq] at h
  simpa using h
theorem wf_u64 {n : Int} (h : (Lit.int .u64 n).wf = true) : n = un (BitVec.ofInt 64 n) := by
  simp only [Lit.wf, IntKind.min, IntKind.max, IntKind.signed, IntKind.bits, Bool.and_eq_true, decide_eq_true_eq] at h
  have h' : 0 ≤ n ∧ n ≤ 18446744073709551615 := by simpa using h
  rw [← wrap_u64_bv, wrap_u64] <;> omega

end Go.AM

/-
  EventReads; an execution as an argument, opened. Own work.
-/
namespace Go.Proofs.YtehimiadpgbhmaaDoor
open Go.ChangeShapes Go.WideShapes Go.ChangeAt Go.RowKit Go.AM
set_option maxRecDepth 100000

theorem reads_ok (x : Xn) (w : World) (hX : SeesX w x) (hT : TabAt w) (h0 : 0 < w.heap.size) : Gives Tryd.prog 3 [encX x] w (.bool true) := by
  refine Gives.of_run Tryd.func3 rfl (by show 1 ≤ 22; decide) ?_
  have hone := xV_one hX.one1 hX.one4
  have hcmp : ∀ R : Rl, EqT Tryd.prog 32 (relV R).toArray (relV R).toArray true := fun R => by have := eqRel R R; simpa using this
  obtain ⟨X0, g0, k0⟩ : ∃ X : Rl, (∀ w', Agree (fun _ => False) w w' → Gives Tryd.prog 6 [encX x] w' (encRel X)) ∧ (∀ w', Agree (fun _ => False) w w' → Gives Tryd.prog 7 [encX x] w' (encRel X)) :=
    ⟨_, fun w' hA => rf_ok x w' (hX.agree hA), fun w' hA => rfR_ok x w' (hX.agree hA)⟩
  obtain ⟨X1, g1, k1⟩ : ∃ X : Rl, (∀ w', Agree (fun _ => False) w w' → Gives Tryd.prog 8 [encX x] w' (encRel X)) ∧ (∀ w', Agree (fun _ => False) w w' → Gives Tryd.prog 9 [encX x] w' (encRel X)) :=
    ⟨_, fun w' hA => co_ok x w' (hX.agree hA), fun w' hA => coR_ok x w' (hX.agree hA)⟩
  obtain ⟨X2, g2, k2⟩ : ∃ X : Rl, (∀ w', Agree (fun _ => False) w w' → Gives Tryd.prog 10 [encX x] w' (encRel X)) ∧ (∀ w', Agree (fun _ => False) w w' → Gives Tryd.prog 11 [encX x] w' (encRel X)) :=
    ⟨_, fun w' hA => fr_ok x w' (hX.agree hA) (hT.agree hA (fun f => f)) (Nat.lt_of_lt_of_le h0 hA.size), fun w' hA => frR_ok x w' (hX.agree hA)⟩
  refine RunF_sound tab_ok noX_local 100 [] _ _ rfl ?_ ?_
  · simp [segsVals, hone]
  refine Run.drawA noX_local rfl [] [(0, .cells 28 [.vals 5 (xV x)])] rfl rfl ⟨rfl, trivial⟩ ?_
  refine RunOF_sound tab_ok noX_local rfl rfl 200 [] _ _ rfl ?_ ?_
  · simp
  refine RunO.callFn (r := encRel X0) noX_local rfl rfl rfl rfl rfl rfl rfl rfl rf_enters rfl (fun w' hA => g0 w' hA) ?_
  refine RunOF_sound tab_ok noX_local rfl rfl 200 [] _ _ rfl ?_ ?_
  · simp
  refine RunO.callFn (r := encRel X0) noX_local rfl rfl rfl rfl rfl rfl rfl rfl rfR_enters rfl (fun w' hA => k0 w' hA) ?_
  refine RunOF_sound tab_ok noX_local rfl rfl 200 [] _ _ rfl ?_ ?_
  · simp
  refine RunO.cmp rfl rfl rfl rfl rfl rfl rfl (b := true) (c := true) (hcmp X0) (.inl ⟨rfl, rfl⟩) ?_
  refine RunOF_sound tab_ok noX_local rfl rfl 200 [true] _ _ rfl ?_ ?_
  · simp
  refine RunO.callFn (r := encRel X1) noX_local rfl rfl rfl rfl rfl rfl rfl rfl co_enters rfl (fun w' hA => g1 w' hA) ?_
  refine RunOF_sound tab_ok noX_local rfl rfl 200 [] _ _ rfl ?_ ?_
  · simp
  refine RunO.callFn (r := encRel X1) noX_local rfl rfl rfl rfl rfl rfl rfl rfl coR_enters rfl (fun w' hA => k1 w' hA) ?_
  refine RunOF_sound tab_ok noX_local rfl rfl 200 [] _ _ rfl ?_ ?_
  · simp
  refine RunO.cmp rfl rfl rfl rfl rfl rfl rfl (b := true) (c := true) (hcmp X1) (.inl ⟨rfl, rfl⟩) ?_
  refine RunOF_sound tab_ok noX_local rfl rfl 200 [true] _ _ rfl ?_ ?_
  · simp
  refine RunO.callFn (r := encRel X2) noX_local rfl rfl rfl rfl rfl rfl rfl rfl fr_enters rfl (fun w' hA => g2 w' hA) ?_
  refine RunOF_sound tab_ok noX_local rfl rfl 200 [] _ _ rfl ?_ ?_
  · simp
  refine RunO.callFn (r := encRel X2) noX_local rfl rfl rfl rfl rfl rfl rfl rfl frR_enters rfl (fun w' hA => k2 w' hA) ?_
  refine RunOF_sound tab_ok noX_local rfl rfl 200 [] _ _ rfl ?_ ?_
  · simp
  refine RunO.cmp rfl rfl rfl rfl rfl rfl rfl (b := true) (c := true) (hcmp X2) (.inl ⟨rfl, rfl⟩) ?_
  refine RunOF_sound tab_ok noX_local rfl rfl 200 [] _ _ rfl ?_ ?_
  · simp
  refine RunO.done ?_
  refine RunF_sound tab_ok noX_local 100 [] _ _ rfl ?_ ?_
  · simp
  exact Run.retP tab_ok Tryd.func3 rfl trivial (fun M => rfl)

section
variable {H : Type} {enc : TypeId × Value → H} {w W : World} {base b0 : Nat} {sp : Nat → Bool} {held : Bool} {v : Value} {d : DataW H} {ps : List MemPlace}

theorem trod_struct5 {P : Program} {t : TypeId} {f0 f1 f2 f3 f4 : Field} {fuel : Nat} {cs : List Value} {x : DataW H × List MemPlace} (ht : P.underlying t = some (.struct #[f0, f1, f2, f3, f4])) (h : DataW.trod enc P w base sp held fuel t cs = some x) :
    ∃ y0 y1 y2 y3 y4 n, DataW.trod enc P w base sp held n f0.type ((cs.drop f0.offset).take (P.cellsOf f0.type)) = some y0 ∧
      DataW.trod enc P w base sp held n f1.type ((cs.drop f1.offset).take (P.cellsOf f1.type)) = some y1 ∧ DataW.trod enc P w base sp held n f2.type ((cs.drop f2.offset).take (P.cellsOf f2.type)) = some y2 ∧
      DataW.trod enc P w base sp held n f3.type ((cs.drop f3.offset).take (P.cellsOf f3.type)) = some y3 ∧ DataW.trod enc P w base sp held n f4.type ((cs.drop f4.offset).take (P.cellsOf f4.type)) = some y4 := by
  obtain ⟨xs, n, _, rfl, hl, hlen, hf⟩ := DataW.trod_struct ht h
  match xs, hlen with
  | [y0, y1, y2, y3, y4], _ => exact ⟨y0, y1, y2, y3, y4, n, by simpa using hf 0 f0 rfl, by simpa using hf 1 f1 rfl, by simpa using hf 2 f2 rfl, by simpa using hf 3 f3 rfl, by simpa using hf 4 f4 rfl⟩


theorem open_ints {fuel : Nat} {cs : List Value} {x : DataW H × List MemPlace} (hf : DataW.trod enc Tryd.prog w base sp held fuel 24 cs = some x) :
    ∃ (p : Option Addr) (c : Nat) (xs : List Int), cs = [.slice p xs.length c] ∧ SeesI w p xs ∧ xs.length ≤ c ∧ xs.length ≤ maxLen := by
  have hs := tab_undP tab_ok (t := 24) (d := .slice 3) rfl
  have hi := tab_undP tab_ok (t := 3) (d := .int .i64) rfl
  have c2 : Tryd.prog.cellsOf 3 = 1 := by kernel_rfl
  rcases DataW.trod_slice hs hf with ⟨hcs, _⟩ | ⟨a, len, cap, elems, rest, n, _, hcs, hx, _, hlc, hcm, hle, hel, _, _⟩
  · exact ⟨none, 0, [], hcs, fun i h => by simp at h, Nat.le_refl _, Nat.zero_le _⟩
  · have key : ∀ i, i < len → ∃ z : Int, w.cell? (a.add i) = some (.int .i64 z) := by
      intro i hi'
      have he := hel i hi'
      rw [c2, List.getElem?_eq_getElem (by omega)] at he
      simp only [Option.bind_eq_some_iff] at he
      obtain ⟨ds, hds, ht⟩ := he
      unfold World.cells? at hds
      split at hds
      · obtain ⟨m1, m2⟩ := mapM_some hds
        obtain ⟨u0, g0, g0'⟩ := m2 0 0 rfl
        obtain ⟨A, hA, _, _⟩ := DataW.trod_int hi ht
        rw [hA] at g0
        simp at g0
        subst g0
        rw [add_add, Nat.mul_one, Nat.add_zero] at g0'
        exact ⟨A, g0'⟩
      · cases hds
    obtain ⟨g, hg⟩ : ∃ g : Nat → Int, ∀ i, i < len → w.cell? (a.add i) = some (.int .i64 (g i)) :=
      ⟨fun i => if h : i < len then (key i h).choose else 0, fun i h => by simp only [dif_pos h]; exact (key i h).choose_spec⟩
    refine ⟨some a, cap, (List.range len).map g, by simp [hcs], ?_, by simp; omega, by simp; omega⟩
    intro i hi'
    have hlt : i < len := by simpa using hi'
    have eg : ((List.range len).map g)[i] = g i := by simp
    rw [eg]
    exact ⟨rfl, hg i hlt⟩

theorem open_intss {fuel : Nat} {cs : List Value} {x : DataW H × List MemPlace} (hf : DataW.trod enc Tryd.prog w base sp held fuel 25 cs = some x) :
    ∃ (p : Option Addr) (c : Nat) (xss : List (List Int)), cs = [.slice p xss.length c] ∧ SeesII w p xss ∧ xss.length ≤ maxLen ∧ ∀ C ∈ xss, C.length ≤ maxLen := by
  have hs := tab_undP tab_ok (t := 25) (d := .slice 24) rfl
  have c2 : Tryd.prog.cellsOf 24 = 1 := by kernel_rfl
  rcases DataW.trod_slice hs hf with ⟨hcs, _⟩ | ⟨a, len, cap, elems, rest, n, _, hcs, hx, _, hlc, hcm, hle, hel, _, _⟩
  · exact ⟨none, 0, [], hcs, fun i h => by simp at h, Nat.zero_le _, fun C h => by cases h⟩
  · have key : ∀ i, i < len → ∃ C : List Int, C.length ≤ maxLen ∧ ∃ q c, w.cell? (a.add i) = some (.slice q C.length c) ∧ SeesI w q C := by
      intro i hi'
      have he := hel i hi'
      rw [c2, List.getElem?_eq_getElem (by omega)] at he
      simp only [Option.bind_eq_some_iff] at he
      obtain ⟨ds, hds, ht⟩ := he
      unfold World.cells? at hds
      split at hds
      · obtain ⟨m1, m2⟩ := mapM_some hds
        obtain ⟨u0, g0, g0'⟩ := m2 0 0 rfl
        obtain ⟨q, c, C, hC, hSI, _, hlm⟩ := open_ints ht
        rw [hC] at g0
        simp at g0
        subst g0
        rw [add_add, Nat.mul_one, Nat.add_zero] at g0'
        exact ⟨C, hlm, q, c, g0', hSI⟩
      · cases hds
    obtain ⟨g, hg⟩ : ∃ g : Nat → List Int, ∀ i, i < len → (g i).length ≤ maxLen ∧ ∃ q c, w.cell? (a.add i) = some (.slice q (g i).length c) ∧ SeesI w q (g i) :=
      ⟨fun i => if h : i < len then (key i h).choose else [], fun i h => by simp only [dif_pos h]; exact (key i h).choose_spec⟩
    refine ⟨some a, cap, (List.range len).map g, by simp [hcs], ?_, by simp; omega, ?_⟩
    · intro i hi'
      have hlt : i < len := by simpa using hi'
      have eg : ((List.range len).map g)[i] = g i := by simp
      rw [eg]
      exact ⟨rfl, (hg i hlt).2⟩
    · intro C hC
      obtain ⟨i, hi, rfl⟩ := List.mem_map.1 hC
      exact (hg i (List.mem_range.1 hi)).1

theorem open_one {t e : TypeId} {fuel : Nat} {cs : List Value} {x : DataW H × List MemPlace} (hs : Tryd.prog.underlying t = some (.slice e)) (hf : DataW.trod enc Tryd.prog w base sp held fuel t cs = some x) :
    ∃ u : Value, cs = [u] ∧ u.oneCell' = true := by
  rcases DataW.trod_slice hs hf with ⟨hcs, _⟩ | ⟨a, len, cap, elems, rest, n, _, hcs, _⟩
  · exact ⟨_, hcs, rfl⟩
  · exact ⟨_, hcs, rfl⟩

theorem open_evs {fuel : Nat} {cs : List Value} {x : DataW H × List MemPlace} (hf : DataW.trod enc Tryd.prog w base sp held fuel 22 cs = some x) :
    ∃ (p : Option Addr) (c : Nat) (xs : List Ev), cs = [.slice p xs.length c] ∧ SeesV w p xs := by
  have hs := tab_undP tab_ok (t := 22) (d := .slice 52) rfl
  have hu := tab_undP tab_ok (t := 52) (d := .struct #[{ name := "Kind", type := 3, offset := 0, embedded := false, tag := "", pkgPath := "", byteOffset := 0 }, { name := "Thread", type := 3, offset := 1, embedded := false, tag := "", pkgPath := "", byteOffset := 8 }, { name := "Index", type := 3, offset := 2, embedded := false, tag := "", pkgPath := "", byteOffset := 16 }, { name := "Loc", type := 3, offset := 3, embedded := false, tag := "", pkgPath := "", byteOffset := 24 }, { name := "Locked", type := 4, offset := 4, embedded := false, tag := "", pkgPath := "", byteOffset := 32 }]) rfl
  have hi := tab_undP tab_ok (t := 3) (d := .int .i64) rfl
  have hbo := tab_undP tab_ok (t := 4) (d := .bool) rfl
  have c1 : Tryd.prog.cellsOf 52 = 5 := by kernel_rfl
  have c2 : Tryd.prog.cellsOf 3 = 1 := by kernel_rfl
  have c3 : Tryd.prog.cellsOf 4 = 1 := by kernel_rfl
  rcases DataW.trod_slice hs hf with ⟨hcs, _⟩ | ⟨a, len, cap, elems, rest, n, _, hcs, hx, _, hlc, hcm, hle, hel, _, _⟩
  · exact ⟨none, 0, [], hcs, fun i h => by simp at h⟩
  · have key : ∀ i, i < len → ∃ e : Ev, ∀ j x, (evV e)[j]? = some x → w.cell? (a.add (i * 5 + j)) = some x := by
      intro i hi'
      have he := hel i hi'
      rw [c1, List.getElem?_eq_getElem (by omega)] at he
      simp only [Option.bind_eq_some_iff] at he
      obtain ⟨cs', hcs', ht⟩ := he
      unfold World.cells? at hcs'
      split at hcs'
      · obtain ⟨m1, m2⟩ := mapM_some hcs'
        obtain ⟨u0, g0, g0'⟩ := m2 0 0 rfl
        obtain ⟨u1, g1, g1'⟩ := m2 1 1 rfl
        obtain ⟨u2, g2, g2'⟩ := m2 2 2 rfl
        obtain ⟨u3, g3, g3'⟩ := m2 3 3 rfl
        obtain ⟨u4, g4, g4'⟩ := m2 4 4 rfl
        obtain ⟨y0, y1, y2, y3, y4, n, h0, h1, h2, h3, h4⟩ := trod_struct5 hu ht
        simp only [c2, c3, List.drop_zero] at h0 h1 h2 h3 h4
        obtain ⟨A, hA, _, _⟩ := DataW.trod_int hi h0
        obtain ⟨B, hB, _, _⟩ := DataW.trod_int hi h1
        obtain ⟨C, hC, _, _⟩ := DataW.trod_int hi h2
        obtain ⟨D, hD, _, _⟩ := DataW.trod_int hi h3
        obtain ⟨E, hE, _⟩ := DataW.trod_bool hbo h4
        have e0 := congrArg (fun l : List Value => l[0]?) hA
        have e1 := congrArg (fun l : List Value => l[0]?) hB
        have e2 := congrArg (fun l : List Value => l[0]?) hC
        have e3 := congrArg (fun l : List Value => l[0]?) hD
        have e4 := congrArg (fun l : List Value => l[0]?) hE
        simp at e0 e1 e2 e3 e4
        rw [e0] at g0; rw [e1] at g1; rw [e2] at g2; rw [e3] at g3; rw [e4] at g4
        cases g0; cases g1; cases g2; cases g3; cases g4
        rw [add_add] at g0' g1' g2' g3' g4'
        refine ⟨⟨A, B, C, D, E⟩, fun j x hx => ?_⟩
        rcases (show j = 0 ∨ j = 1 ∨ j = 2 ∨ j = 3 ∨ j = 4 by have := (List.getElem?_eq_some_iff.1 hx).1; simp at this; omega) with rfl | rfl | rfl | rfl | rfl
        · cases hx; exact g0'
        · cases hx; exact g1'
        · cases hx; exact g2'
        · cases hx; exact g3'
        · cases hx; exact g4'
      · cases hcs'
    obtain ⟨g, hg⟩ : ∃ g : Nat → Ev, ∀ i, i < len → ∀ j x, (evV (g i))[j]? = some x → w.cell? (a.add (i * 5 + j)) = some x :=
      ⟨fun i => if h : i < len then (key i h).choose else ⟨0, 0, 0, 0, false⟩, fun i h => by simp only [dif_pos h]; exact (key i h).choose_spec⟩
    refine ⟨some a, cap, (List.range len).map g, by simp [hcs], ?_⟩
    intro i hi'
    have hlt : i < len := by simpa using hi'
    have eg : ((List.range len).map g)[i] = g i := by simp
    rw [eg]
    exact ⟨rfl, hg i hlt⟩

theorem open_exec (hval : Value.okWide Tryd.prog W .any b0 28 v) (hd : DataW.Trod enc Tryd.prog w base sp held 28 v d ps) : ∃ x : Xn, v = encX x ∧ SeesX w x := by
  have hu := tab_undP tab_ok (t := 28) (d := .struct #[{ name := "Events", type := 22, offset := 0, embedded := false, tag := "", pkgPath := "", byteOffset := 0 }, { name := "Values", type := 23, offset := 1, embedded := false, tag := "", pkgPath := "", byteOffset := 24 }, { name := "From", type := 24, offset := 2, embedded := false, tag := "", pkgPath := "", byteOffset := 48 }, { name := "Order", type := 25, offset := 3, embedded := false, tag := "", pkgPath := "", byteOffset := 72 }, { name := "Regs", type := 26, offset := 4, embedded := false, tag := "", pkgPath := "", byteOffset := 96 }]) rfl
  have c0 : Tryd.prog.cellsOf 28 = 5 := by kernel_rfl
  have c1 : Tryd.prog.cellsOf 22 = 1 := by kernel_rfl
  have c2 : Tryd.prog.cellsOf 23 = 1 := by kernel_rfl
  have c3 : Tryd.prog.cellsOf 24 = 1 := by kernel_rfl
  have c4 : Tryd.prog.cellsOf 25 = 1 := by kernel_rfl
  have c5 : Tryd.prog.cellsOf 26 = 1 := by kernel_rfl
  obtain ⟨cs, rfl, hsz⟩ := okWide_struct hu hval
  obtain ⟨fuel, hf⟩ := hd
  obtain ⟨xs, n, _, _, hl, hlen, _⟩ := DataW.trod_struct hu hf
  obtain ⟨y0, y1, y2, y3, y4, n, h0, h1, h2, h3, h4⟩ := trod_struct5 hu hf
  simp only [Value.cells, c0, c1, c2, c3, c4, c5, List.drop_zero] at hl h0 h1 h2 h3 h4
  obtain ⟨pe, ce, ev, e0, s0⟩ := open_evs h0
  obtain ⟨u1, e1, o1⟩ := open_one (tab_undP tab_ok (t := 23) (d := .slice 2) rfl) h1
  obtain ⟨pf, cf, fr, e2, s2, l2, m2⟩ := open_ints h2
  obtain ⟨po, co, ord, e3, s3, m3, k3⟩ := open_intss h3
  obtain ⟨u4, e4, o4⟩ := open_one (tab_undP tab_ok (t := 26) (d := .slice 23) rfl) h4
  refine ⟨⟨ev, fr, ord, pe, ce, u1, pf, cf, po, co, u4⟩, ?_, ⟨s0, s2, s3, o1, o4, l2, m2, m3, k3⟩⟩
  unfold encX xV
  congr 1
  apply Array.ext'
  show cs.toList = _
  have hl5 : cs.toList.length = 5 := hl
  generalize cs.toList = L at *
  match L, hl5 with
  | [a0, a1, a2, a3, a4], _ =>
    simp at e0 e1 e2 e3 e4
    rw [e0, e1, e2, e3, e4]
end
end Go.Proofs.YtehimiadpgbhmaaDoor

/-
  A program as an argument, opened. Own work.
-/
namespace Go.Proofs.YtehimiadpgbhmaaDoor
open Go.ChangeShapes Go.WideShapes Go.ChangeAt Go.RowKit Go.AM
set_option maxRecDepth 100000

section
variable {H : Type} {enc : TypeId × Value → H} {w W : World} {base b0 : Nat} {sp : Nat → Bool} {held : Bool} {v : Value} {d : DataW H} {ps : List MemPlace}

/-- A slice, opened by what opens its elements. -/
theorem open_sliceG {α : Type} [Inhabited α] {t e : TypeId} {k : Nat} (hs : Tryd.prog.underlying t = some (.slice e)) (hk : Tryd.prog.cellsOf e = k) (Q : Addr → α → Prop) (D : α → DataW H → Prop)
    (hE : ∀ n cs a x, cs.length = k → (∀ j u, cs[j]? = some u → w.cell? (a.add j) = some u) → DataW.trod enc Tryd.prog w base sp held n e cs = some x → ∃ y, Q a y ∧ D y x.1)
    {fuel : Nat} {cs : List Value} {x : DataW H × List MemPlace} (hf : DataW.trod enc Tryd.prog w base sp held fuel t cs = some x) :
    ∃ (p : Option Addr) (c : Nat) (xs : List α), cs = [.slice p xs.length c] ∧ (∀ i (h : i < xs.length), p = some (p.getD default) ∧ Q ((p.getD default).add (i * k)) xs[i]) ∧ xs.length ≤ maxLen ∧
      ((∃ es rest, x.1 = .slice es rest ∧ es.length = xs.length ∧ ∀ y ∈ xs, ∃ d ∈ es, D y d) ∨ xs = []) := by
  rcases DataW.trod_slice hs hf with ⟨hcs, _⟩ | ⟨a, len, cap, elems, rest, n, _, hcs, hx, _, hlc, hcm, hle, hel, _, _⟩
  · exact ⟨none, 0, [], hcs, fun i h => by simp at h, Nat.zero_le _, .inr rfl⟩
  · have key : ∀ i, i < len → ∃ y : α, Q (a.add (i * k)) y ∧ ∃ d ∈ elems.map (·.1), D y d := by
      intro i hi'
      have he := hel i hi'
      rw [hk, List.getElem?_eq_getElem (by omega)] at he
      simp only [Option.bind_eq_some_iff] at he
      obtain ⟨ds, hds, ht⟩ := he
      unfold World.cells? at hds
      split at hds
      · obtain ⟨m1, m2⟩ := mapM_some hds
        have hlen : ds.length = k := by simpa using m1
        obtain ⟨y, hy, hD⟩ := hE n ds (a.add (i * k)) _ hlen (fun j u hu => by
          have hj : j < k := by have := (List.getElem?_eq_some_iff.1 hu).1; omega
          obtain ⟨u0, g0, g0'⟩ := m2 j j (by simp [hj])
          rw [g0] at hu; cases hu
          rw [add_add] at g0' ⊢; exact g0') ht
        exact ⟨y, hy, _, List.mem_map.2 ⟨_, List.getElem_mem _, rfl⟩, hD⟩
      · cases hds
    obtain ⟨g, hg⟩ : ∃ g : Nat → α, ∀ i, i < len → Q (a.add (i * k)) (g i) ∧ ∃ d ∈ elems.map (·.1), D (g i) d :=
      ⟨fun i => if h : i < len then (key i h).choose else default, fun i h => by simp only [dif_pos h]; exact (key i h).choose_spec⟩
    refine ⟨some a, cap, (List.range len).map g, by simp [hcs], ?_, by simp; omega, .inl ⟨elems.map (·.1), rest.map (·.1), by rw [hx], by simp [hle], ?_⟩⟩
    · intro i hi'
      have hlt : i < len := by simpa using hi'
      have eg : ((List.range len).map g)[i] = g i := by simp
      rw [eg]
      exact ⟨rfl, (hg i hlt).1⟩
    · intro y hy
      obtain ⟨i, hi, rfl⟩ := List.mem_map.1 hy
      exact (hg i (List.mem_range.1 hi)).2

theorem one_at {cs : List Value} {u : Value} {a : Addr} (hcs : cs = [u]) (hc : ∀ j u, cs[j]? = some u → w.cell? (a.add j) = some u) : w.cell? a = some u := by
  have h := hc 0 u (by rw [hcs]; rfl)
  rwa [show a.add 0 = a by simp [Addr.add]] at h

theorem open_strs {fuel : Nat} {cs : List Value} {x : DataW H × List MemPlace} (hf : DataW.trod enc Tryd.prog w base sp held fuel 37 cs = some x) :
    ∃ (p : Option Addr) (c : Nat) (xs : List ByteArray), cs = [.slice p xs.length c] ∧ SeesS w p xs ∧ xs.length ≤ maxLen := by
  haveI : Inhabited ByteArray := ⟨⟨#[]⟩⟩
  obtain ⟨p, c, xs, h1, h2, h3, _⟩ := open_sliceG (tab_undP tab_ok (t := 37) (d := .slice 9) rfl) (k := 1) (by kernel_rfl) (fun a s => w.cell? a = some (.string s)) (fun _ _ => True) (fun n cs a x _ hc hx => by
    obtain ⟨s, hs, _⟩ := DataW.trod_string (tab_undP tab_ok (t := 9) (d := .string) rfl) hx
    exact ⟨s, one_at hs hc, trivial⟩) hf
  exact ⟨p, c, xs, h1, fun i hi => ⟨(h2 i hi).1, by have := (h2 i hi).2; rwa [Nat.mul_one] at this⟩, h3⟩
theorem open_strss {fuel : Nat} {cs : List Value} {x : DataW H × List MemPlace} (hf : DataW.trod enc Tryd.prog w base sp held fuel 36 cs = some x) :
    ∃ (p : Option Addr) (c : Nat) (xs : List (List ByteArray)), cs = [.slice p xs.length c] ∧ SeesLL SeesS w p xs ∧ xs.length ≤ maxLen ∧ ∀ l ∈ xs, l.length ≤ maxLen := by
  obtain ⟨p, c, xs, h1, h2, h3, _⟩ := open_sliceG (tab_undP tab_ok (t := 36) (d := .slice 37) rfl) (k := 1) (by kernel_rfl) (fun a (l : List ByteArray) => (∃ q c, w.cell? a = some (.slice q l.length c) ∧ SeesS w q l) ∧ l.length ≤ maxLen) (fun _ _ => True) (fun n cs a x _ hc hx => by
    obtain ⟨q, c, l, hs, hS, hm⟩ := open_strs hx
    exact ⟨l, ⟨⟨q, c, one_at hs hc, hS⟩, hm⟩, trivial⟩) hf
  refine ⟨p, c, xs, h1, fun i hi => ⟨(h2 i hi).1, by have := (h2 i hi).2.1; rwa [Nat.mul_one] at this⟩, h3, fun l hl => ?_⟩
  obtain ⟨i, hi, rfl⟩ := List.getElem_of_mem hl
  exact (h2 i hi).2.2
theorem open_ops {fuel : Nat} {cs : List Value} {x : DataW H × List MemPlace} (hf : DataW.trod enc Tryd.prog w base sp held fuel 61 cs = some x) :
    ∃ (p : Option Addr) (c : Nat) (xs : List Opn), cs = [.slice p xs.length c] ∧ SeesO w p xs ∧ xs.length ≤ maxLen ∧ ((∃ es rest, x.1 = .slice es rest ∧ es.length = xs.length) ∨ xs = []) := by
  haveI : Inhabited Opn := ⟨⟨0, 0, 0, 0, 0⟩⟩
  have hu := tab_undP tab_ok (t := 60) (d := .struct #[{ name := "Kind", type := 3, offset := 0, embedded := false, tag := "", pkgPath := "", byteOffset := 0 }, { name := "Reg", type := 3, offset := 1, embedded := false, tag := "", pkgPath := "", byteOffset := 8 }, { name := "Src", type := 3, offset := 2, embedded := false, tag := "", pkgPath := "", byteOffset := 16 }, { name := "Loc", type := 3, offset := 3, embedded := false, tag := "", pkgPath := "", byteOffset := 24 }, { name := "Imm", type := 2, offset := 4, embedded := false, tag := "", pkgPath := "", byteOffset := 32 }]) rfl
  have hi := tab_undP tab_ok (t := 3) (d := .int .i64) rfl
  have hi6 := tab_undP tab_ok (t := 2) (d := .int .i64) rfl
  have c2 : Tryd.prog.cellsOf 3 = 1 := by kernel_rfl
  have c3 : Tryd.prog.cellsOf 2 = 1 := by kernel_rfl
  obtain ⟨p, c, xs, h1, h2, h3, h4⟩ := open_sliceG (tab_undP tab_ok (t := 61) (d := .slice 60) rfl) (k := 5) (by kernel_rfl) (fun a (o : Opn) => ∀ j x, (opV o)[j]? = some x → w.cell? (a.add j) = some x) (fun _ _ => True) (fun n cs a x hlen hc hx => by
    obtain ⟨y0, y1, y2, y3, y4, n, h0, h1, h2, h3, h4⟩ := trod_struct5 hu hx
    simp only [c2, c3, List.drop_zero] at h0 h1 h2 h3 h4
    obtain ⟨A, hA, _, _⟩ := DataW.trod_int hi h0
    obtain ⟨B, hB, _, _⟩ := DataW.trod_int hi h1
    obtain ⟨C, hC, _, _⟩ := DataW.trod_int hi h2
    obtain ⟨D, hD, _, _⟩ := DataW.trod_int hi h3
    obtain ⟨E, hE, _, _⟩ := DataW.trod_int hi6 h4
    refine ⟨⟨A, B, C, D, E⟩, fun j u hu' => hc j u ?_, trivial⟩
    match cs, hlen with
    | [a0, a1, a2, a3, a4], _ =>
      simp at hA hB hC hD hE
      rw [hA, hB, hC, hD, hE]
      exact hu') hf
  refine ⟨p, c, xs, h1, fun i hi => ⟨(h2 i hi).1, fun j x hx => by have := (h2 i hi).2 j x hx; rwa [add_add] at this⟩, h3, ?_⟩
  rcases h4 with ⟨es, rest, g1, g2, _⟩ | h4
  · exact .inl ⟨es, rest, g1, g2⟩
  · exact .inr h4
theorem open_opss {fuel : Nat} {cs : List Value} {x : DataW H × List MemPlace} (hf : DataW.trod enc Tryd.prog w base sp held fuel 35 cs = some x) :
    ∃ (p : Option Addr) (c : Nat) (xs : List (List Opn)), cs = [.slice p xs.length c] ∧ SeesLL SeesO w p xs ∧ xs.length ≤ maxLen ∧ ((∃ es rest, x.1 = .slice es rest ∧ ∀ l ∈ xs, (∃ fs rs, (DataW.slice fs rs : DataW H) ∈ es ∧ fs.length = l.length) ∨ l = []) ∨ xs = []) := by
  obtain ⟨p, c, xs, h1, h2, h3, h4⟩ := open_sliceG (tab_undP tab_ok (t := 35) (d := .slice 61) rfl) (k := 1) (by kernel_rfl) (fun a (l : List Opn) => ∃ q c, w.cell? a = some (.slice q l.length c) ∧ SeesO w q l) (fun l d => (∃ fs rs, d = .slice fs rs ∧ fs.length = l.length) ∨ l = []) (fun n cs a x _ hc hx => by
    obtain ⟨q, c, l, hs, hS, _, hd⟩ := open_ops hx
    exact ⟨l, ⟨q, c, one_at hs hc, hS⟩, hd⟩) hf
  refine ⟨p, c, xs, h1, fun i hi => ⟨(h2 i hi).1, by have := (h2 i hi).2; rwa [Nat.mul_one] at this⟩, h3, ?_⟩
  rcases h4 with ⟨es, rest, g1, _, g3⟩ | h4
  · refine .inl ⟨es, rest, g1, fun l hl => ?_⟩
    obtain ⟨d, hd, h⟩ := g3 l hl
    rcases h with ⟨fs, rs, rfl, e⟩ | h
    · exact .inl ⟨fs, rs, hd, e⟩
    · exact .inr h
  · exact .inr h4
theorem open_len {t e : TypeId} {fuel : Nat} {cs : List Value} {x : DataW H × List MemPlace} (hs : Tryd.prog.underlying t = some (.slice e)) (hf : DataW.trod enc Tryd.prog w base sp held fuel t cs = some x) :
    ∃ (p : Option Addr) (n c : Nat), cs = [.slice p n c] ∧ n ≤ maxLen := by
  rcases DataW.trod_slice hs hf with ⟨hcs, _⟩ | ⟨a, len, cap, elems, rest, n, _, hcs, _, _, hlc, hcm, _⟩
  · exact ⟨none, 0, 0, hcs, Nat.zero_le _⟩
  · exact ⟨some a, len, cap, hcs, Nat.le_trans hlc hcm⟩
theorem open_lens {fuel : Nat} {cs : List Value} {x : DataW H × List MemPlace} (hf : DataW.trod enc Tryd.prog w base sp held fuel 26 cs = some x) :
    ∃ (p : Option Addr) (c : Nat) (xs : List Nat), cs = [.slice p xs.length c] ∧ SeesN w p xs ∧ xs.length ≤ maxLen ∧ ∀ n ∈ xs, n ≤ maxLen := by
  obtain ⟨p, c, xs, h1, h2, h3, _⟩ := open_sliceG (tab_undP tab_ok (t := 26) (d := .slice 23) rfl) (k := 1) (by kernel_rfl) (fun a (l : Nat) => (∃ q c, w.cell? a = some (.slice q l c)) ∧ l ≤ maxLen) (fun _ _ => True) (fun n cs a x _ hc hx => by
    obtain ⟨q, l, c, hs, hm⟩ := open_len (tab_undP tab_ok (t := 23) (d := .slice 2) rfl) hx
    exact ⟨l, ⟨⟨q, c, one_at hs hc⟩, hm⟩, trivial⟩) hf
  refine ⟨p, c, xs, h1, fun i hi => ⟨(h2 i hi).1, by have := (h2 i hi).2.1; rwa [Nat.mul_one] at this⟩, h3, fun l hl => ?_⟩
  obtain ⟨i, hi, rfl⟩ := List.getElem_of_mem hl
  exact (h2 i hi).2.2

theorem trod_struct5b {P : Program} {t : TypeId} {f0 f1 f2 f3 f4 : Field} {fuel : Nat} {cs : List Value} {x : DataW H × List MemPlace} (ht : P.underlying t = some (.struct #[f0, f1, f2, f3, f4])) (h : DataW.trod enc P w base sp held fuel t cs = some x) :
    ∃ y0 y1 y2 y3 y4 n, x.1 = .agg [y0.1, y1.1, y2.1, y3.1, y4.1] ∧ DataW.trod enc P w base sp held n f0.type ((cs.drop f0.offset).take (P.cellsOf f0.type)) = some y0 ∧
      DataW.trod enc P w base sp held n f1.type ((cs.drop f1.offset).take (P.cellsOf f1.type)) = some y1 ∧ DataW.trod enc P w base sp held n f2.type ((cs.drop f2.offset).take (P.cellsOf f2.type)) = some y2 ∧
      DataW.trod enc P w base sp held n f3.type ((cs.drop f3.offset).take (P.cellsOf f3.type)) = some y3 ∧ DataW.trod enc P w base sp held n f4.type ((cs.drop f4.offset).take (P.cellsOf f4.type)) = some y4 := by
  obtain ⟨xs, n, _, rfl, hl, hlen, hf⟩ := DataW.trod_struct ht h
  match xs, hlen with
  | [y0, y1, y2, y3, y4], _ => exact ⟨y0, y1, y2, y3, y4, n, rfl, by simpa using hf 0 f0 rfl, by simpa using hf 1 f1 rfl, by simpa using hf 2 f2 rfl, by simpa using hf 3 f3 rfl, by simpa using hf 4 f4 rfl⟩

/-- A program, opened; what its threads weigh. -/
theorem open_prog (hval : Value.okWide Tryd.prog W .any b0 39 v) (hd : DataW.Trod enc Tryd.prog w base sp held 39 v d ps) : ∃ x : Pn, v = encP x ∧ ((∀ l ∈ x.th, l.length ≤ 8796093022208) → SeesP w x) ∧ ∃ d0 d1 d2 d3 d4, d = .agg [d0, d1, d2, d3, d4] ∧
    ((∃ es rest, d0 = .slice es rest ∧ ∀ l ∈ x.th, (∃ fs rs, (DataW.slice fs rs : DataW H) ∈ es ∧ fs.length = l.length) ∨ l = []) ∨ x.th = []) := by
  have hu := tab_undP tab_ok (t := 39) (d := .struct #[{ name := "Threads", type := 35, offset := 0, embedded := false, tag := "", pkgPath := "", byteOffset := 0 }, { name := "Regs", type := 36, offset := 1, embedded := false, tag := "", pkgPath := "", byteOffset := 24 }, { name := "Locs", type := 37, offset := 2, embedded := false, tag := "", pkgPath := "", byteOffset := 48 }, { name := "RegInit", type := 26, offset := 3, embedded := false, tag := "", pkgPath := "", byteOffset := 72 }, { name := "LocInit", type := 23, offset := 4, embedded := false, tag := "", pkgPath := "", byteOffset := 96 }]) rfl
  have c0 : Tryd.prog.cellsOf 39 = 5 := by kernel_rfl
  have c1 : Tryd.prog.cellsOf 35 = 1 := by kernel_rfl
  have c2 : Tryd.prog.cellsOf 36 = 1 := by kernel_rfl
  have c3 : Tryd.prog.cellsOf 37 = 1 := by kernel_rfl
  have c4 : Tryd.prog.cellsOf 26 = 1 := by kernel_rfl
  have c5 : Tryd.prog.cellsOf 23 = 1 := by kernel_rfl
  obtain ⟨cs, rfl, hsz⟩ := okWide_struct hu hval
  obtain ⟨fuel, hf⟩ := hd
  obtain ⟨xs, n, _, _, hl, hlen, _⟩ := DataW.trod_struct hu hf
  obtain ⟨y0, y1, y2, y3, y4, n, hd5, h0, h1, h2, h3, h4⟩ := trod_struct5b hu hf
  simp only [Value.cells, c0, c1, c2, c3, c4, c5, List.drop_zero] at hl h0 h1 h2 h3 h4
  obtain ⟨pt, ct, th, e0, s0, m0, r0⟩ := open_opss h0
  obtain ⟨pr, cr, rg, e1, s1, m1, k1⟩ := open_strss h1
  obtain ⟨pl, cl, lo, e2, s2, m2⟩ := open_strs h2
  obtain ⟨pi, ci, ri, e3, s3, m3, k3⟩ := open_lens h3
  obtain ⟨pq, li, cq, e4, m4⟩ := open_len (tab_undP tab_ok (t := 23) (d := .slice 2) rfl) h4
  refine ⟨⟨th, rg, lo, ri, li, pt, ct, pr, cr, pl, cl, pi, ci, pq, cq⟩, ?_, fun hb => ⟨s0, s1, s2, s3, m0, hb, m1, k1, m2, m3, k3, m4⟩, y0.1, y1.1, y2.1, y3.1, y4.1, hd5, r0⟩
  unfold encP pV
  congr 1
  apply Array.ext'
  show cs.toList = _
  have hl5 : cs.toList.length = 5 := hl
  generalize cs.toList = L at *
  match L, hl5 with
  | [a0, a1, a2, a3, a4], _ =>
    simp at e0 e1 e2 e3 e4
    rw [e0, e1, e2, e3, e4]
theorem weightsAll_mem {P : Program} {e : TypeId} {n : Nat} {d : DataW H} : ∀ (l : List (DataW H)), d ∈ l → n ∈ DataW.weights P e d → n ∈ DataW.weightsAll P e l
  | [], h, _ => by cases h
  | c :: l, h, hn => by
    rw [DataW.weightsAll, List.mem_append]
    rcases List.mem_cons.1 h with rfl | h
    · exact .inl hn
    · exact .inr (weightsAll_mem l h hn)
end
end Go.Proofs.YtehimiadpgbhmaaDoor

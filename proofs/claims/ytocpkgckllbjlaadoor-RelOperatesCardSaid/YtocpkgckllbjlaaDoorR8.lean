/-
  Arguments of the rows on relations, opened. Own work.
-/
import Derived.Test.YtocpkgckllbjlaaDoorR7
import Derived.Test.YtocpkgckllbjlaaDoorAMO
namespace Go.Proofs.YtocpkgckllbjlaaDoor
open Go.ChangeShapes Go.WideShapes Go.ChangeAt Go.RowKit Go.AM

section
variable {H : Type} {enc : TypeId × Value → H} {w W : World} {base b0 : Nat} {sp : Nat → Bool} {held : Bool} {v : Value} {d : DataW H} {ps : List MemPlace}

theorem open_rel (hval : Value.okWide Tryd.prog W .any b0 25 v) (hd : DataW.Trod enc Tryd.prog w base sp held 25 v d ps) : ∃ r : Rl, v = encRel r := by
  have hu := tab_undP tab_ok (t := 25) (d := .struct #[{ name := "N", type := 3, offset := 0, embedded := false, tag := "", pkgPath := "", byteOffset := 0 }, { name := "Rows", type := 23, offset := 1, embedded := false, tag := "", pkgPath := "", byteOffset := 8 }]) rfl
  have hi := tab_undP tab_ok (t := 3) (d := .int .i64) rfl
  have ha := tab_undP tab_ok (t := 23) (d := .array 64 22) rfl
  have hq := tab_undP tab_ok (t := 22) (d := .int .u64) rfl
  have c1 : Tryd.prog.cellsOf 25 = 65 := by kernel_rfl
  have c2 : Tryd.prog.cellsOf 3 = 1 := by kernel_rfl
  have c3 : Tryd.prog.cellsOf 23 = 64 := by kernel_rfl
  have c4 : Tryd.prog.cellsOf 22 = 1 := by kernel_rfl
  obtain ⟨cs, rfl, hsz⟩ := okWide_struct hu hval
  obtain ⟨fuel, hf⟩ := hd
  obtain ⟨y0, y1, n, _, hl, h0, h1⟩ := trod_struct2 hu hf
  simp only [Value.cells, c1, c2, c3, List.drop_zero] at hl h0 h1
  obtain ⟨N, hN, _, _⟩ := DataW.trod_int hi h0
  obtain ⟨xs, m, _, _, hl2, hlen, hel⟩ := DataW.trod_array ha h1
  have hrow : ∀ i, i < 64 → ∃ z : BitVec 64, cs.toList[1 + i]? = some (.int .u64 (un z)) := by
    intro i hi'
    have he := hel i hi'
    rw [c4, List.getElem?_eq_getElem (by omega)] at he
    obtain ⟨k, hk, _, hw⟩ := DataW.trod_int hq he
    refine ⟨BitVec.ofInt 64 k, ?_⟩
    rw [← wf_u64 hw]
    have := congrArg (fun l : List Value => l[0]?) hk
    simp only [List.getElem?_take, List.getElem?_drop, List.getElem?_cons_zero] at this
    rw [if_pos (by omega), if_pos (by omega)] at this
    rw [← this]; congr 1; omega
  obtain ⟨f, hf2⟩ : ∃ f : Nat → BitVec 64, ∀ i, i < 64 → cs.toList[1 + i]? = some (.int .u64 (un (f i))) :=
    ⟨fun i => if h : i < 64 then (hrow i h).choose else 0#64, fun i h => by simp only [dif_pos h]; exact (hrow i h).choose_spec⟩
  refine ⟨Rl.by_ N f, ?_⟩
  have hn : cs.toList[0]? = some (.int .i64 N) := by
    have := congrArg (fun l : List Value => l[0]?) hN
    simpa using this
  rw [encRel]
  congr 1
  apply Array.ext'
  show cs.toList = relV _
  apply List.ext_getElem?
  intro j
  cases j with
  | zero => rw [hn]; rfl
  | succ j =>
    by_cases hj : j < 64
    · rw [Nat.add_comm, relV_get _ _ hj, Rl.row_by, if_pos hj]
      exact hf2 j hj
    · rw [List.getElem?_eq_none (by omega), List.getElem?_eq_none (by rw [relV_length]; omega)]

theorem open_edges (hval : Value.okWide Tryd.prog W .any b0 29 v) (hd : DataW.Trod enc Tryd.prog w base sp held 29 v d ps) :
    ∃ (p : Option Addr) (c : Nat) (xs : List (Int × Int)), v = .slice p xs.length c ∧ SeesE w p xs ∧ (p = none → xs = [] ∧ c = 0) ∧ xs.length ≤ maxLen ∧ ((∃ es rest, d = .slice es rest ∧ es.length = xs.length) ∨ xs = []) := by
  have hs := tab_undP tab_ok (t := 29) (d := .slice 67) rfl
  have hu := tab_undP tab_ok (t := 67) (d := .struct #[{ name := "A", type := 3, offset := 0, embedded := false, tag := "", pkgPath := "", byteOffset := 0 }, { name := "B", type := 3, offset := 1, embedded := false, tag := "", pkgPath := "", byteOffset := 8 }]) rfl
  have hi := tab_undP tab_ok (t := 3) (d := .int .i64) rfl
  have c1 : Tryd.prog.cellsOf 67 = 2 := by kernel_rfl
  have c2 : Tryd.prog.cellsOf 3 = 1 := by kernel_rfl
  obtain ⟨p, len, cap, rfl⟩ := okWide_slice hs hval
  obtain ⟨fuel, hf⟩ := hd
  simp only [Value.cells] at hf
  rcases DataW.trod_slice hs hf with ⟨hcs, _⟩ | ⟨a, len', cap', elems, rest, n, _, hcs, hx, _, hlc, hcm, hle, hel, _, _⟩
  · simp at hcs
    obtain ⟨rfl, rfl, rfl⟩ := hcs
    exact ⟨none, 0, [], rfl, fun i h => by simp at h, fun _ => ⟨rfl, rfl⟩, Nat.zero_le _, .inr rfl⟩
  · simp at hcs
    obtain ⟨rfl, rfl, rfl⟩ := hcs
    have key : ∀ i, i < len → ∃ A B : Int, w.cell? (a.add (i * 2)) = some (.int .i64 A) ∧ w.cell? (a.add (i * 2 + 1)) = some (.int .i64 B) := by
      intro i hi'
      have he := hel i hi'
      rw [c1, List.getElem?_eq_getElem (by omega)] at he
      simp only [Option.bind_eq_some_iff] at he
      obtain ⟨cs, hcs, ht⟩ := he
      unfold World.cells? at hcs
      split at hcs
      · obtain ⟨m1, m2⟩ := mapM_some hcs
        obtain ⟨u0, g0, g0'⟩ := m2 0 0 rfl
        obtain ⟨u1, g1, g1'⟩ := m2 1 1 rfl
        obtain ⟨y0, y1, n, _, _, h0, h1⟩ := trod_struct2 hu ht
        simp only [c2, List.drop_zero] at h0 h1
        obtain ⟨A, hA, _, _⟩ := DataW.trod_int hi h0
        obtain ⟨B, hB, _, _⟩ := DataW.trod_int hi h1
        have e0 := congrArg (fun l : List Value => l[0]?) hA
        have e1 := congrArg (fun l : List Value => l[0]?) hB
        simp at e0 e1
        rw [e0] at g0
        rw [e1] at g1
        cases g0; cases g1
        rw [add_add] at g0' g1'
        exact ⟨A, B, g0', g1'⟩
      · cases hcs
    obtain ⟨g, hg⟩ : ∃ g : Nat → Int × Int, ∀ i, i < len → w.cell? (a.add (i * 2)) = some (.int .i64 (g i).1) ∧ w.cell? (a.add (i * 2 + 1)) = some (.int .i64 (g i).2) :=
      ⟨fun i => if h : i < len then ((key i h).choose, (key i h).choose_spec.choose) else (0, 0), fun i h => by simp only [dif_pos h]; exact (key i h).choose_spec.choose_spec⟩
    refine ⟨some a, cap, (List.range len).map g, by simp, ?_, fun h => (by cases h), by simp; omega, .inl ⟨elems.map (·.1), rest.map (·.1), ?_, by simp [hle]⟩⟩
    · intro i hi'
      have hlt : i < len := by simpa using hi'
      obtain ⟨k1, k2⟩ := hg i hlt
      have eg : ((List.range len).map g)[i] = g i := by simp
      rw [eg]
      refine ⟨rfl, ?_, ?_⟩
      · simp only [extCells, Option.getD_some, add_add, Nat.add_zero, Nat.zero_add, k1, k2]
      · intro j hj
        rcases (show j = 0 ∨ j = 1 by omega) with rfl | rfl
        · simp only [Option.getD_some, add_add, Nat.add_zero, k1, Option.isSome_some]
        · simp only [Option.getD_some, add_add, k2, Option.isSome_some]
    · simp only [Prod.mk.injEq] at hx; exact hx.1
end
end Go.Proofs.YtocpkgckllbjlaaDoor

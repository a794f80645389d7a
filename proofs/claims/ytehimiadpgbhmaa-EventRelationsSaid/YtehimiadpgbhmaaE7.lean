/-
  Lists of events as arguments of a row, opened. Own work.
-/
import Derived.Test.YtehimiadpgbhmaaE6
import Derived.Test.YtehimiadpgbhmaaAMO
namespace Go.Proofs.Ytehimiadpgbhmaa
open Go.ChangeShapes Go.WideShapes Go.ChangeAt Go.RowKit Go.AM

section
variable {H : Type} {enc : TypeId × Value → H} {w W : World} {base b0 : Nat} {sp : Nat → Bool} {held : Bool} {v : Value} {d : DataW H} {ps : List MemPlace}

theorem trod_struct5 {P : Program} {t : TypeId} {f0 f1 f2 f3 f4 : Field} {fuel : Nat} {cs : List Value} {x : DataW H × List MemPlace} (ht : P.underlying t = some (.struct #[f0, f1, f2, f3, f4])) (h : DataW.trod enc P w base sp held fuel t cs = some x) :
    ∃ y0 y1 y2 y3 y4 n, DataW.trod enc P w base sp held n f0.type ((cs.drop f0.offset).take (P.cellsOf f0.type)) = some y0 ∧
      DataW.trod enc P w base sp held n f1.type ((cs.drop f1.offset).take (P.cellsOf f1.type)) = some y1 ∧ DataW.trod enc P w base sp held n f2.type ((cs.drop f2.offset).take (P.cellsOf f2.type)) = some y2 ∧
      DataW.trod enc P w base sp held n f3.type ((cs.drop f3.offset).take (P.cellsOf f3.type)) = some y3 ∧ DataW.trod enc P w base sp held n f4.type ((cs.drop f4.offset).take (P.cellsOf f4.type)) = some y4 := by
  obtain ⟨xs, n, _, rfl, hl, hlen, hf⟩ := DataW.trod_struct ht h
  match xs, hlen with
  | [y0, y1, y2, y3, y4], _ => exact ⟨y0, y1, y2, y3, y4, n, by simpa using hf 0 f0 rfl, by simpa using hf 1 f1 rfl, by simpa using hf 2 f2 rfl, by simpa using hf 3 f3 rfl, by simpa using hf 4 f4 rfl⟩

theorem open_events (hval : Value.okWide Try.prog W .any b0 22 v) (hd : DataW.Trod enc Try.prog w base sp held 22 v d ps) :
    ∃ (p : Option Addr) (c : Nat) (xs : List Ev), v = .slice p xs.length c ∧ SeesV w p xs ∧ (p = none → xs = [] ∧ c = 0) ∧ xs.length ≤ maxLen ∧ ((∃ es rest, d = .slice es rest ∧ es.length = xs.length) ∨ xs = []) := by
  have hs := tab_undP tab_ok (t := 22) (d := .slice 24) rfl
  have hu := tab_undP tab_ok (t := 24) (d := .struct #[{ name := "Kind", type := 3, offset := 0, embedded := false, tag := "", pkgPath := "", byteOffset := 0 }, { name := "Thread", type := 3, offset := 1, embedded := false, tag := "", pkgPath := "", byteOffset := 8 }, { name := "Index", type := 3, offset := 2, embedded := false, tag := "", pkgPath := "", byteOffset := 16 }, { name := "Loc", type := 3, offset := 3, embedded := false, tag := "", pkgPath := "", byteOffset := 24 }, { name := "Locked", type := 4, offset := 4, embedded := false, tag := "", pkgPath := "", byteOffset := 32 }]) rfl
  have hi := tab_undP tab_ok (t := 3) (d := .int .i64) rfl
  have hbo := tab_undP tab_ok (t := 4) (d := .bool) rfl
  have c1 : Try.prog.cellsOf 24 = 5 := by kernel_rfl
  have c2 : Try.prog.cellsOf 3 = 1 := by kernel_rfl
  have c3 : Try.prog.cellsOf 4 = 1 := by kernel_rfl
  obtain ⟨p, len, cap, rfl⟩ := okWide_slice hs hval
  obtain ⟨fuel, hf⟩ := hd
  simp only [Value.cells] at hf
  rcases DataW.trod_slice hs hf with ⟨hcs, _⟩ | ⟨a, len', cap', elems, rest, n, _, hcs, hx, _, hlc, hcm, hle, hel, _, _⟩
  · simp at hcs
    obtain ⟨rfl, rfl, rfl⟩ := hcs
    exact ⟨none, 0, [], rfl, fun i h => by simp at h, fun _ => ⟨rfl, rfl⟩, Nat.zero_le _, .inr rfl⟩
  · simp at hcs
    obtain ⟨rfl, rfl, rfl⟩ := hcs
    have key : ∀ i, i < len → ∃ e : Ev, ∀ j x, (evV e)[j]? = some x → w.cell? (a.add (i * 5 + j)) = some x := by
      intro i hi'
      have he := hel i hi'
      rw [c1, List.getElem?_eq_getElem (by omega)] at he
      simp only [Option.bind_eq_some_iff] at he
      obtain ⟨cs, hcs, ht⟩ := he
      unfold World.cells? at hcs
      split at hcs
      · obtain ⟨m1, m2⟩ := mapM_some hcs
        obtain ⟨u0, g0, g0'⟩ := m2 0 0 rfl
        obtain ⟨u1, g1, g1'⟩ := m2 1 1 rfl
        obtain ⟨u2, g2, g2'⟩ := m2 2 2 rfl
        obtain ⟨u3, g3, g3'⟩ := m2 3 3 rfl
        obtain ⟨u4, g4, g4'⟩ := m2 4 4 rfl
        obtain ⟨y0, y1, y2, y3, y4, n, h0, h1, h2, h3, h4⟩ := trod_struct5 hu ht
        simp only [c2, c3, List.drop_zero] at h0 h1 h2 h3 h4
        obtain ⟨A, hA, _, _⟩ := DataW.trod_int hi h0
        obtain ⟨B, hB, _, _⟩ := DataW.trod_int hi h1
        obtain ⟨C, hC, _, _⟩ := DataW.trod_int hi h2
        obtain ⟨D, hD, _, _⟩ := DataW.trod_int hi h3
        obtain ⟨E, hE, _⟩ := DataW.trod_bool hbo h4
        have e0 := congrArg (fun l : List Value => l[0]?) hA
        have e1 := congrArg (fun l : List Value => l[0]?) hB
        have e2 := congrArg (fun l : List Value => l[0]?) hC
        have e3 := congrArg (fun l : List Value => l[0]?) hD
        have e4 := congrArg (fun l : List Value => l[0]?) hE
        simp at e0 e1 e2 e3 e4
        rw [e0] at g0; rw [e1] at g1; rw [e2] at g2; rw [e3] at g3; rw [e4] at g4
        cases g0; cases g1; cases g2; cases g3; cases g4
        rw [add_add] at g0' g1' g2' g3' g4'
        refine ⟨⟨A, B, C, D, E⟩, fun j x hx => ?_⟩
        rcases (show j = 0 ∨ j = 1 ∨ j = 2 ∨ j = 3 ∨ j = 4 by have := (List.getElem?_eq_some_iff.1 hx).1; simp at this; omega) with rfl | rfl | rfl | rfl | rfl
        · cases hx; exact g0'
        · cases hx; exact g1'
        · cases hx; exact g2'
        · cases hx; exact g3'
        · cases hx; exact g4'
      · cases hcs
    obtain ⟨g, hg⟩ : ∃ g : Nat → Ev, ∀ i, i < len → ∀ j x, (evV (g i))[j]? = some x → w.cell? (a.add (i * 5 + j)) = some x :=
      ⟨fun i => if h : i < len then (key i h).choose else ⟨0, 0, 0, 0, false⟩, fun i h => by simp only [dif_pos h]; exact (key i h).choose_spec⟩
    refine ⟨some a, cap, (List.range len).map g, by simp, ?_, fun h => (by cases h), by simp; omega, .inl ⟨elems.map (·.1), rest.map (·.1), ?_, by simp [hle]⟩⟩
    · intro i hi'
      have hlt : i < len := by simpa using hi'
      have eg : ((List.range len).map g)[i] = g i := by simp
      rw [eg]
      exact ⟨rfl, hg i hlt⟩
    · simp only [Prod.mk.injEq] at hx; exact hx.1
end
end Go.Proofs.Ytehimiadpgbhmaa

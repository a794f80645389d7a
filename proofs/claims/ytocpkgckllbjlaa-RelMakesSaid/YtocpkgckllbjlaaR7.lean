/-
  RelMakes: what it does. Own work.
-/
import Derived.Test.YtocpkgckllbjlaaR6
namespace Go.Proofs.Ytocpkgckllbjlaa
open Go.AM
set_option maxRecDepth 100000

/-- Pairs, as cells. -/
def encE : List (Int × Int) → List Value
  | [] => []
  | e :: l => .int .i64 e.1 :: .int .i64 e.2 :: encE l
theorem encE_length : ∀ l : List (Int × Int), (encE l).length = l.length * 2
  | [] => rfl
  | e :: l => by simp [encE, encE_length l]; omega
theorem encE_get : ∀ (l : List (Int × Int)) (i : Nat) (h : i < l.length), (encE l)[i * 2]? = some (.int .i64 l[i].1) ∧ (encE l)[i * 2 + 1]? = some (.int .i64 l[i].2)
  | [], i, h => by simp at h
  | e :: l, 0, h => by simp [encE]
  | e :: l, i + 1, h => by
    have := encE_get l i (by simpa using h)
    rw [show (i + 1) * 2 = i * 2 + 2 by omega]
    simpa [encE] using this
theorem encE_one (l : List (Int × Int)) : ∀ c ∈ encE l, c.oneCell' = true := by
  induction l with
  | nil => intro c h; cases h
  | cons e l ih =>
    intro c h
    simp only [encE, List.mem_cons] at h
    rcases h with rfl | rfl | h
    · rfl
    · rfl
    · exact ih c h

theorem seesE_row {M : AM.Loc} {w : World} {id e n : Nat} {vs : List Value} (hb : BlkAt M w id (.row e 2 n vs)) {xs : List (Int × Int)} (h : ∀ i (h : i < xs.length), vs[i * 2]? = some (.int .i64 xs[i].1) ∧ vs[i * 2 + 1]? = some (.int .i64 xs[i].2)) :
    SeesE w (some ⟨(M id).1, 0, none⟩) xs := by
  intro i hi
  obtain ⟨h1, h2⟩ := h i hi
  have c1 := row_cells hb _ _ h1
  have c2 := row_cells hb _ _ h2
  rw [Nat.zero_add] at c1 c2
  refine ⟨rfl, ?_, ?_⟩
  · simp [extCells, Addr.add_lit, c1, c2]
  · intro j hj
    rcases (show j = 0 ∨ j = 1 by omega) with rfl | rfl
    · simp [Addr.add_lit, c1]
    · simp [Addr.add_lit, c2]

theorem add_add (a : Addr) (i j : Nat) : (a.add i).add j = a.add (i + j) := by
  obtain ⟨b, o, x⟩ := a
  unfold Addr.add
  split <;> split <;> simp_all <;> omega

theorem ext_enc (w : World) (a : Addr) : ∀ (xs : List (Int × Int)) (k : Nat), (∀ i (h : i < xs.length), extCells w (a.add ((k + i) * 2)) 0 2 = [.int .i64 xs[i].1, .int .i64 xs[i].2]) → extCells w a (k * 2) (xs.length * 2) = encE xs
  | [], _, _ => rfl
  | e :: l, k, h => by
    have h0 := h 0 (by simp)
    simp only [extCells, Nat.add_zero, List.getElem_cons_zero, List.cons.injEq, and_true, Nat.zero_add, add_add] at h0
    have ih := ext_enc w a l (k + 1) (fun i hi => by
      have := h (i + 1) (by simpa using hi)
      rw [show k + 1 + i = k + (i + 1) by omega]
      simpa using this)
    rw [show (e :: l).length * 2 = l.length * 2 + 1 + 1 by simp; omega]
    simp only [extCells, encE]
    rw [h0.1, h0.2, show k * 2 + 1 + 1 = (k + 1) * 2 by omega, ih]

theorem SeesE.ext {w : World} {a : Addr} {xs : List (Int × Int)} (h : SeesE w (some a) xs) : extCells w a 0 (xs.length * 2) = encE xs := by
  have := ext_enc w a xs 0 (fun i hi => by simpa using (h i hi).2.1)
  simpa using this
theorem SeesE.some' {w : World} {a : Addr} {xs : List (Int × Int)} (h : SeesE w (some a) xs) : ∀ j, j < xs.length * 2 → (w.cell? (a.add j)).isSome := by
  intro j hj
  have := (h (j / 2) (by omega)).2.2 (j % 2) (by omega)
  rw [Option.getD_some, add_add, show j / 2 * 2 + j % 2 = j by omega] at this
  exact this

theorem makes_ok (r : Rl) (n : Int) (p : Option Addr) (c : Nat) (xs : List (Int × Int)) (x y : BitVec 64) (w : World) (hs : SeesE w p xs) (hp : p = none → xs = [] ∧ c = 0) (hl : xs.length < maxLen) (hl2 : (xs.length + 1) * 16 ≤ 140737488355328) :
    Gives Try.prog 3 [encRel r, .int .i64 n, .slice p xs.length c, .int .u64 (un x), .int .u64 (un y)] w (.bool true) := by
  refine Gives.of_run Try.func3 rfl (by show 5 ≤ 90; decide) ?_
  suffices H : ∀ σ, inT σ.t [(1, .v (.int .i64 n)), (2, .v (.slice p xs.length c)), (3, .v (.int .u64 (un x))), (4, .v (.int .u64 (un y))), (5, .ptr 0 0), (11, .sl 4 2 0 (xs.length + 1)), (12, .ptr 5 0), (13, .v (.int .i64 (ofL n xs).2)), (14, .ptr 6 0), (15, .v (.int .i64 (ofL n xs).2))] →
      inT σ.h [(0, .cells 25 [.vals 65 (relV r)]), (4, .row 29 2 (xs.length + 1) (encE xs ++ [.int .i64 (-7), .int .i64 (-7)])), (5, .cells 25 [.vals 65 (relV (ofL n xs).1)]), (6, .cells 25 [.vals 65 (relV (ofL n xs).1)])] → Run _ _ σ by
    cases p with
    | none =>
      obtain ⟨rfl, rfl⟩ := hp rfl
      refine RunF_sound tab_ok noX_local 200 [] _ _ rfl ?_ ?_
      · simp [fillL, Value.cells, splice, repL, maxLen]
      refine Run.callM noX_local rfl rfl rfl rfl rfl rfl of_enters rfl (r := ofV (ofL n [])) (fun M w' hb hA => ?_) ?_
      · have hrow := hb 3 _ rfl
        have := of_ok n (some ⟨(M 3).1, 0, none⟩) (M 3).2 [] w' (fun i hi => by simp at hi) (by simp)
        show Gives Try.prog _ _ _ _
        simpa [concL, conc] using this
      refine RunF_sound tab_ok noX_local 200 [] _ _ rfl ?_ ?_
      · simp [relV_one', segsVals]
      refine Run.callFn noX_local rfl rfl rfl rfl rfl rfl rfl ofR_enters rfl (r := ofV (ofL n [])) (fun w' hA => ofR_ok n none 0 [] w' (fun i hi => by simp at hi) (by simp)) ?_
      refine RunF_sound tab_ok noX_local 200 [] _ _ rfl ?_ ?_
      · simp [relV_one', segsVals]
      generalize ofL n [] = R at *
      refine Run.toR [(4, 3), (5, 4), (6, 5)] (n' := 7) (H ⟨[(1, .v (.int .i64 n)), (2, .v (.slice none 0 0)), (3, .v (.int .u64 (un x))), (4, .v (.int .u64 (un y))), (5, .ptr 0 0), (11, .sl 4 2 0 (0 + 1)), (12, .ptr 5 0), (13, .v (.int .i64 R.2)), (14, .ptr 6 0), (15, .v (.int .i64 R.2))], [(0, .cells 25 [.vals 65 (relV r)]), (4, .row 29 2 (0 + 1) (encE [] ++ [.int .i64 (-7), .int .i64 (-7)])), (5, .cells 25 [.vals 65 (relV R.1)]), (6, .cells 25 [.vals 65 (relV R.1)])], 7⟩ ⟨rfl, rfl, rfl, rfl, rfl, rfl, rfl, rfl, rfl, rfl, trivial⟩ ⟨rfl, rfl, rfl, rfl, trivial⟩) ⟨rfl, rfl, rfl, rfl, rfl, rfl, rfl, rfl, rfl, rfl, trivial⟩ ⟨rfl, rfl, rfl, rfl, trivial⟩ rfl
    | some a =>
      have hx := hs.ext
      have hx2 := hs.some'
      have h1 := encE_one xs
      have hrowv : (List.take ((0 + xs.length) * 2) (List.take (0 * 2) ([] : List Value) ++ extCells w a 0 (xs.length * 2)) ++ [Value.int .i64 (-7), .int .i64 (-7)]) = encE xs ++ [.int .i64 (-7), .int .i64 (-7)] := by
        rw [hx]; simp [← encE_length]
      refine RunF_sound tab_ok noX_local 200 [] _ _ rfl ?_ ?_
      · simp [hx, fillL, Value.cells, splice, repL]
        exact ⟨⟨⟨hx2, by omega, by omega⟩, h1⟩, by simp only [maxLen]; omega, by omega, by omega⟩
      refine Run.callM noX_local rfl rfl rfl rfl rfl rfl of_enters rfl (r := ofV (ofL n xs)) (fun M w' hb hA => ?_) ?_
      · have hrow : BlkAt M w' 4 (.row 29 2 (0 + xs.length + 1) (encE xs ++ [.int .i64 (-7), .int .i64 (-7)])) := by rw [← hrowv]; exact hb 4 _ rfl
        have := of_ok n (some ⟨(M 4).1, 0, none⟩) (M 4).2 xs w' (seesE_row hrow (fun i hi => ?_)) (by omega)
        · show Gives Try.prog _ _ _ _
          simpa [concL, conc] using this
        · have e := encE_get xs i hi
          have hlt : i * 2 + 1 < (encE xs).length := by rw [encE_length]; omega
          rw [List.getElem?_append_left (by omega), List.getElem?_append_left (by omega)]
          exact e
      refine RunF_sound tab_ok noX_local 200 [] _ _ rfl ?_ ?_
      · simp [relV_one', segsVals]
      refine Run.callFn noX_local rfl rfl rfl rfl rfl rfl rfl ofR_enters rfl (r := ofV (ofL n xs)) (fun w' hA => ofR_ok n (some a) c xs w' (hs.agree hA (fun _ _ h => h)) (by omega)) ?_
      refine RunF_sound tab_ok noX_local 200 [] _ _ rfl ?_ ?_
      · simp [relV_one', segsVals]
      generalize ofL n xs = R at *
      refine H _ ⟨rfl, rfl, rfl, rfl, rfl, ?_, rfl, rfl, rfl, rfl, trivial⟩ ⟨rfl, ?_, rfl, rfl, trivial⟩
      · exact congrArg (fun k => some (AV.sl 4 2 0 (k + 1))) (Nat.zero_add _)
      · rw [← hrowv]
        exact congrArg (fun k => some (Blk.row 29 2 (k + 1) _)) (Nat.zero_add _)
  generalize ofL n xs = R
  intro σ ht hh
  refine Run.to ?_ ht hh (n' := 7)
  refine Run.drawA noX_local rfl [] [(0, .cells 25 [.vals 65 (relV r)]), (4, .row 29 2 (xs.length + 1) (encE xs ++ [.int .i64 (-7), .int .i64 (-7)])), (5, .cells 25 [.vals 65 (relV R.1)]), (6, .cells 25 [.vals 65 (relV R.1)])] rfl rfl ⟨rfl, rfl, rfl, rfl, trivial⟩ ?_
  refine RunOF_sound tab_ok noX_local rfl rfl 200 [] _ _ rfl ?_ ?_
  · simp
  refine RunO.callFn noX_local rfl rfl rfl rfl rfl rfl rfl rfl check_enters rfl (fun w' _ => check_ok r w') ?_
  refine RunOF_sound tab_ok noX_local rfl rfl 200 [] _ _ rfl ?_ ?_
  · simp
  refine RunO.callFn noX_local rfl rfl rfl rfl rfl rfl rfl rfl num_enters rfl (fun w' _ => num_ok _ w') ?_
  refine RunOF_sound tab_ok noX_local rfl rfl 200 [] _ _ rfl ?_ ?_
  · simp
  refine RunO.callFn noX_local rfl rfl rfl rfl rfl rfl rfl rfl checkR_enters rfl (fun w' _ => checkR_ok r w') ?_
  refine RunOF_sound tab_ok noX_local rfl rfl 200 [false] _ _ rfl ?_ ?_
  · simp
  have hcmp : EqT Try.prog 25 (relV R.1).toArray (relV R.1).toArray true := by have := eqRel R.1 R.1; simpa using this
  refine RunO.cmp rfl rfl rfl rfl rfl rfl rfl (b := true) (c := false) hcmp (.inr ⟨rfl, rfl⟩) ?_
  refine RunOF_sound tab_ok noX_local rfl rfl 200 [false] _ _ rfl ?_ ?_
  · simp
  refine RunO.callFn noX_local rfl rfl rfl rfl rfl rfl rfl rfl num_enters rfl (fun w' _ => num_ok _ w') ?_
  refine RunOF_sound tab_ok noX_local rfl rfl 200 [false] _ _ rfl ?_ ?_
  · simp
  refine RunO.callM noX_local rfl rfl rfl rfl rfl rfl rfl sameEdges_enters rfl (r := .bool true) (fun M w' hb hA => ?_) ?_
  · have hrow := hb 4 _ rfl
    have := sameEdges_ok (some ⟨(M 4).1, 0, none⟩) p (M 4).2 c xs xs w' (seesE_row hrow (fun i hi => ?_)) (hs.agree hA (fun _ _ h => h)) (by omega)
    · show Gives Try.prog _ _ _ _
      simpa [concL, conc] using this
    · have e := encE_get xs i hi
      have hlt : i * 2 + 1 < (encE xs).length := by rw [encE_length]; omega
      rw [List.getElem?_append_left (by omega), List.getElem?_append_left (by omega)]
      exact e
  have hget : (encE xs ++ [Value.int .i64 (-7), .int .i64 (-7)])[xs.length * 2]? = some (.int .i64 (-7)) := by
    rw [List.getElem?_append_right (by rw [encE_length]; omega), encE_length]; simp
  have hint : intAt (encE xs ++ [Value.int .i64 (-7), .int .i64 (-7)]) (xs.length * 2) = -7 := by
    unfold intAt; rw [hget]
  refine RunOF_sound tab_ok noX_local rfl rfl 200 [false] _ _ rfl ?_ ?_
  · simp [hget, hint]; omega
  refine RunO.done ?_
  refine RunF_sound tab_ok noX_local 200 [false] _ _ rfl ?_ ?_
  · simp [hint]
  refine Run.callFn noX_local rfl rfl rfl rfl rfl rfl rfl cross_enters rfl (fun w' _ => cross_ok n x y w') ?_
  refine RunF_sound tab_ok noX_local 200 [] _ _ rfl ?_ ?_
  · simp
  refine Run.callFn noX_local rfl rfl rfl rfl rfl rfl rfl crossR_enters rfl (fun w' _ => crossR_ok n x y w') ?_
  refine RunF_sound tab_ok noX_local 200 [] _ _ rfl ?_ ?_
  · simp
  have hcmp2 : ∀ R : Rl, EqT Try.prog 25 (relV R).toArray (relV R).toArray true := fun R => by have := eqRel R R; simpa using this
  refine Run.cmp rfl rfl rfl rfl rfl rfl (b := true) (c := true) (hcmp2 (crossL n x y)) (.inl ⟨rfl, rfl⟩) ?_
  refine RunF_sound tab_ok noX_local 200 [true] _ _ rfl ?_ ?_
  · simp
  refine Run.callFn noX_local rfl rfl rfl rfl rfl rfl rfl on_enters rfl (fun w' _ => on_ok n x w') ?_
  refine RunF_sound tab_ok noX_local 200 [] _ _ rfl ?_ ?_
  · simp
  refine Run.callFn noX_local rfl rfl rfl rfl rfl rfl rfl onR_enters rfl (fun w' _ => onR_ok n x w') ?_
  refine RunF_sound tab_ok noX_local 200 [] _ _ rfl ?_ ?_
  · simp
  refine Run.cmp rfl rfl rfl rfl rfl rfl (b := true) (c := true) (hcmp2 (onL n x)) (.inl ⟨rfl, rfl⟩) ?_
  refine RunF_sound tab_ok noX_local 200 [] _ _ rfl ?_ ?_
  · simp
  exact Run.retP tab_ok Try.func3 rfl trivial (fun M => rfl)
theorem makes_enters : Enters Try.prog 3 := enters_mk Try.func3 (by decide) rfl
end Go.Proofs.Ytocpkgckllbjlaa

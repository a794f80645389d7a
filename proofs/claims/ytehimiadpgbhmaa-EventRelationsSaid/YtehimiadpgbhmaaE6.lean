/-
  EventRelations: the walk. Own work.
-/
import Derived.Test.YtehimiadpgbhmaaE5
namespace Go.Proofs.Ytehimiadpgbhmaa
open Go.AM
set_option maxRecDepth 100000

/-- What a function says of a list of events, wherever it lies. -/
abbrev SaysE (f : FuncId) (more : List Value) (xs : List Ev) (r : Value) : Prop := ∀ (p : Option Addr) (c : Nat) (w : World), SeesV w p xs → Gives Try.prog f (.slice p xs.length c :: more) w r

theorem rels_core (xs : List Ev) (kd : Int) (p : Option Addr) (c : Nat) (w : World) (hs : SeesV w p xs) (hp : p = none → xs = [] ∧ c = 0) (hl : xs.length < maxLen) (hl2 : (xs.length + 1) * 40 ≤ 140737488355328)
    (U1 U2 U3 : BitVec 64) (X1 X2 X3 X4 X5 : Rl)
    (a1 : SaysE 4 [.int .i64 kd] xs (.int .u64 (un U1))) (b1 : SaysE 5 [.int .i64 kd] xs (.int .u64 (un U1)))
    (a2 : SaysE 6 [] xs (.int .u64 (un U2))) (b2 : SaysE 7 [] xs (.int .u64 (un U2)))
    (a3 : SaysE 8 [] xs (.int .u64 (un U3))) (b3 : SaysE 9 [] xs (.int .u64 (un U3)))
    (a4 : SaysE 10 [] xs (encRel X1)) (b4 : SaysE 11 [.int .i64 1] xs (encRel X1))
    (a5 : SaysE 12 [] xs (encRel X2)) (b5 : SaysE 11 [.int .i64 2] xs (encRel X2))
    (a6 : SaysE 13 [] xs (encRel X3)) (b6 : SaysE 11 [.int .i64 3] xs (encRel X3))
    (a7 : SaysE 14 [] xs (encRel X4)) (b7 : SaysE 11 [.int .i64 4] xs (encRel X4))
    (a8 : SaysE 15 [] xs (encRel X5)) (b8 : SaysE 11 [.int .i64 5] xs (encRel X5)) :
    Gives Try.prog 3 [.slice p xs.length c, .int .i64 kd] w (.bool true) := by
  refine Gives.of_run Try.func3 rfl (by show 2 ≤ 93; decide) ?_
  suffices H : ∀ σ, inT σ.t [(0, .v (.slice p xs.length c)), (1, .v (.int .i64 kd)), (4, .tt false), (5, .sl 3 5 0 xs.length), (16, .sl 3 5 0 xs.length), (17, .v (.int .i64 kd))] →
      inT σ.h [(3, .row 24 5 (xs.length + 1) (encEs xs ++ evV ⟨99, 0, 0, 0, false⟩))] → Run _ _ σ by
    cases p with
    | none =>
      obtain ⟨rfl, rfl⟩ := hp rfl
      refine RunF_sound tab_ok noX_local 200 [] _ _ rfl ?_ ?_
      · simp [fillL, Value.cells, splice, repL, maxLen]
        exact ⟨by simp [show tab.size 4 = some 1 from rfl], rfl, fun a ha => (evV_one _).2 trivial a (List.mem_of_mem_tail ha)⟩
      refine Run.toR [(3, 2)] (n' := 5) (H ⟨[(0, .v (.slice none 0 0)), (1, .v (.int .i64 kd)), (4, .tt false), (5, .sl 3 5 0 0), (16, .sl 3 5 0 0), (17, .v (.int .i64 kd))], [(3, .row 24 5 (0 + 1) (encEs [] ++ evV ⟨99, 0, 0, 0, false⟩))], 5⟩ ⟨rfl, rfl, rfl, rfl, rfl, rfl, trivial⟩ ⟨rfl, trivial⟩) ?_ ?_ rfl
      · exact ⟨rfl, rfl, rfl, rfl, rfl, rfl, trivial⟩
      · exact ⟨rfl, trivial⟩
    | some a =>
      have hx := hs.ext_all
      have hx2 := hs.some_all
      have h1 := encEs_one xs
      refine RunF_sound tab_ok noX_local 200 [] _ _ rfl ?_ ?_
      · simp [hx, fillL, Value.cells, splice, repL]
        exact ⟨⟨⟨hx2, by omega, by omega⟩, h1⟩, by simp [show tab.size 4 = some 1 from rfl], by simp only [maxLen]; omega, ⟨by omega, by omega⟩, rfl, fun a ha => (evV_one _).2 trivial a (List.mem_of_mem_tail ha)⟩
      refine H _ ⟨rfl, rfl, rfl, rfl, rfl, rfl, trivial⟩ ⟨?_, trivial⟩
      have hrowv : (List.take ((0 + xs.length) * 5) (List.take (0 * 5) ([] : List Value) ++ extCells w a 0 (xs.length * 5)) ++ evV ⟨99, 0, 0, 0, false⟩) = encEs xs ++ evV ⟨99, 0, 0, 0, false⟩ := by
        rw [hx]; simp [← encEs_length]
      rw [← hrowv]
      exact congrArg (fun k => some (Blk.row 24 5 (k + 1) _)) (Nat.zero_add _)
  intro σ ht hh
  refine Run.to ?_ ht hh (n' := 5)
  have hrow : ∀ {M : AM.Loc} {w' : World}, BlkAt M w' 3 (.row 24 5 (xs.length + 1) (encEs xs ++ evV ⟨99, 0, 0, 0, false⟩)) → SeesV w' (some ⟨(M 3).1, 0, none⟩) xs := fun hb => seesV_row hb fun i hi j hj => by
    rw [List.getElem?_append_left (by rw [encEs_length]; omega)]
    exact encEs_get xs i hi j hj
  have hcmp : ∀ R : Rl, EqT Try.prog 33 (relV R).toArray (relV R).toArray true := fun R => by have := eqRel R R; simpa using this
  refine Run.callM noX_local rfl rfl rfl rfl rfl rfl of_enters rfl (r := .int .u64 (un U1)) (fun M w' hb hA => ?_) ?_
  · have := a1 (some ⟨(M 3).1, 0, none⟩) (M 3).2 w' (hrow (hb 3 _ rfl))
    show Gives Try.prog _ _ _ _
    simpa [concL, conc] using this
  refine RunF_sound tab_ok noX_local 200 [] _ _ rfl ?_ ?_
  · simp
  refine Run.callFn noX_local rfl rfl rfl rfl rfl rfl rfl ofR_enters rfl (fun w' hA => b1 p c w' (hs.agree hA (fun _ _ h => h))) ?_
  refine RunF_sound tab_ok noX_local 200 [true] _ _ rfl ?_ ?_
  · simp
  refine Run.callM noX_local rfl rfl rfl rfl rfl rfl memorySet_enters rfl (r := .int .u64 (un U2)) (fun M w' hb hA => ?_) ?_
  · have := a2 (some ⟨(M 3).1, 0, none⟩) (M 3).2 w' (hrow (hb 3 _ rfl))
    show Gives Try.prog _ _ _ _
    simpa [concL, conc] using this
  refine RunF_sound tab_ok noX_local 200 [] _ _ rfl ?_ ?_
  · simp
  refine Run.callFn noX_local rfl rfl rfl rfl rfl rfl rfl memoryR_enters rfl (fun w' hA => b2 p c w' (hs.agree hA (fun _ _ h => h))) ?_
  refine RunF_sound tab_ok noX_local 200 [true] _ _ rfl ?_ ?_
  · simp
  refine Run.callM noX_local rfl rfl rfl rfl rfl rfl lockedSet_enters rfl (r := .int .u64 (un U3)) (fun M w' hb hA => ?_) ?_
  · have := a3 (some ⟨(M 3).1, 0, none⟩) (M 3).2 w' (hrow (hb 3 _ rfl))
    show Gives Try.prog _ _ _ _
    simpa [concL, conc] using this
  refine RunF_sound tab_ok noX_local 200 [] _ _ rfl ?_ ?_
  · simp
  refine Run.callFn noX_local rfl rfl rfl rfl rfl rfl rfl lockedR_enters rfl (fun w' hA => b3 p c w' (hs.agree hA (fun _ _ h => h))) ?_
  refine RunF_sound tab_ok noX_local 200 [true] _ _ rfl ?_ ?_
  · simp
  refine Run.callM noX_local rfl rfl rfl rfl rfl rfl po_enters rfl (r := encRel X1) (fun M w' hb hA => ?_) ?_
  · have := a4 (some ⟨(M 3).1, 0, none⟩) (M 3).2 w' (hrow (hb 3 _ rfl))
    show Gives Try.prog _ _ _ _
    simpa [concL, conc] using this
  refine RunF_sound tab_ok noX_local 200 [] _ _ rfl ?_ ?_
  · simp
  refine Run.callFn noX_local rfl rfl rfl rfl rfl rfl rfl refRel_enters rfl (fun w' hA => b4 p c w' (hs.agree hA (fun _ _ h => h))) ?_
  refine RunF_sound tab_ok noX_local 200 [] _ _ rfl ?_ ?_
  · simp
  refine Run.cmp rfl rfl rfl rfl rfl rfl (b := true) (c := true) (hcmp X1) (.inl ⟨rfl, rfl⟩) ?_
  refine RunF_sound tab_ok noX_local 200 [true] _ _ rfl ?_ ?_
  · simp
  refine Run.callM noX_local rfl rfl rfl rfl rfl rfl loc_enters rfl (r := encRel X2) (fun M w' hb hA => ?_) ?_
  · have := a5 (some ⟨(M 3).1, 0, none⟩) (M 3).2 w' (hrow (hb 3 _ rfl))
    show Gives Try.prog _ _ _ _
    simpa [concL, conc] using this
  refine RunF_sound tab_ok noX_local 200 [] _ _ rfl ?_ ?_
  · simp
  refine Run.callFn noX_local rfl rfl rfl rfl rfl rfl rfl refRel_enters rfl (fun w' hA => b5 p c w' (hs.agree hA (fun _ _ h => h))) ?_
  refine RunF_sound tab_ok noX_local 200 [] _ _ rfl ?_ ?_
  · simp
  refine Run.cmp rfl rfl rfl rfl rfl rfl (b := true) (c := true) (hcmp X2) (.inl ⟨rfl, rfl⟩) ?_
  refine RunF_sound tab_ok noX_local 200 [true] _ _ rfl ?_ ?_
  · simp
  refine Run.callM noX_local rfl rfl rfl rfl rfl rfl int_enters rfl (r := encRel X3) (fun M w' hb hA => ?_) ?_
  · have := a6 (some ⟨(M 3).1, 0, none⟩) (M 3).2 w' (hrow (hb 3 _ rfl))
    show Gives Try.prog _ _ _ _
    simpa [concL, conc] using this
  refine RunF_sound tab_ok noX_local 200 [] _ _ rfl ?_ ?_
  · simp
  refine Run.callFn noX_local rfl rfl rfl rfl rfl rfl rfl refRel_enters rfl (fun w' hA => b6 p c w' (hs.agree hA (fun _ _ h => h))) ?_
  refine RunF_sound tab_ok noX_local 200 [] _ _ rfl ?_ ?_
  · simp
  refine Run.cmp rfl rfl rfl rfl rfl rfl (b := true) (c := true) (hcmp X3) (.inl ⟨rfl, rfl⟩) ?_
  refine RunF_sound tab_ok noX_local 200 [true] _ _ rfl ?_ ?_
  · simp
  refine Run.callM noX_local rfl rfl rfl rfl rfl rfl ext_enters rfl (r := encRel X4) (fun M w' hb hA => ?_) ?_
  · have := a7 (some ⟨(M 3).1, 0, none⟩) (M 3).2 w' (hrow (hb 3 _ rfl))
    show Gives Try.prog _ _ _ _
    simpa [concL, conc] using this
  refine RunF_sound tab_ok noX_local 200 [] _ _ rfl ?_ ?_
  · simp
  refine Run.callFn noX_local rfl rfl rfl rfl rfl rfl rfl refRel_enters rfl (fun w' hA => b7 p c w' (hs.agree hA (fun _ _ h => h))) ?_
  refine RunF_sound tab_ok noX_local 200 [] _ _ rfl ?_ ?_
  · simp
  refine Run.cmp rfl rfl rfl rfl rfl rfl (b := true) (c := true) (hcmp X4) (.inl ⟨rfl, rfl⟩) ?_
  refine RunF_sound tab_ok noX_local 200 [true] _ _ rfl ?_ ?_
  · simp
  refine Run.callM noX_local rfl rfl rfl rfl rfl rfl rmw_enters rfl (r := encRel X5) (fun M w' hb hA => ?_) ?_
  · have := a8 (some ⟨(M 3).1, 0, none⟩) (M 3).2 w' (hrow (hb 3 _ rfl))
    show Gives Try.prog _ _ _ _
    simpa [concL, conc] using this
  refine RunF_sound tab_ok noX_local 200 [] _ _ rfl ?_ ?_
  · simp
  refine Run.callFn noX_local rfl rfl rfl rfl rfl rfl rfl refRel_enters rfl (fun w' hA => b8 p c w' (hs.agree hA (fun _ _ h => h))) ?_
  refine RunF_sound tab_ok noX_local 200 [] _ _ rfl ?_ ?_
  · simp
  refine Run.cmp rfl rfl rfl rfl rfl rfl (b := true) (c := true) (hcmp X5) (.inl ⟨rfl, rfl⟩) ?_
  refine RunF_sound tab_ok noX_local 200 [true] _ _ rfl ?_ ?_
  · simp
  refine Run.callM noX_local rfl rfl rfl rfl rfl rfl sameEvents_enters rfl (r := .bool true) (fun M w' hb hA => ?_) ?_
  · have := sameEvents_ok (some ⟨(M 3).1, 0, none⟩) p (M 3).2 c xs xs w' (hrow (hb 3 _ rfl)) (hs.agree hA (fun _ _ h => h)) (by omega)
    show Gives Try.prog _ _ _ _
    simpa [concL, conc] using this
  have hget : (encEs xs ++ evV ⟨99, 0, 0, 0, false⟩)[xs.length * 5]? = some (.int .i64 99) := by
    rw [List.getElem?_append_right (by rw [encEs_length]; omega), encEs_length]; simp
  have hint : intAt (encEs xs ++ evV ⟨99, 0, 0, 0, false⟩) (xs.length * 5) = 99 := by
    unfold intAt; rw [hget]
  refine RunF_sound tab_ok noX_local 200 [true] _ _ rfl ?_ ?_
  · have hw := wrap_succ (k := xs.length) (by simp only [maxLen] at hl; omega)
    simp [hget, hint, hw]; omega
  refine Run.retP tab_ok Try.func3 rfl trivial (fun M => ?_)
  simp [resAV, conc, hint]
end Go.Proofs.Ytehimiadpgbhmaa

/-
  rel.Edges and the reference's Edges. Own work.
-/
import Derived.Test.YtocpkgckllbjlaaDoorB4
namespace Go.Proofs.YtocpkgckllbjlaaDoor
open Go.AM
set_option maxRecDepth 100000

/-- The iterator over a relation's pairs, as a value. -/
def edgesF (b : Nat) : Value := .func (.func 71) #[] #[.pointer (some ⟨b, 0, none⟩)]

theorem edges_ok (r : Rl) (w : World) : Makes Tryd.prog 13 [encRel r] w (fun v w' => ∃ b, v = edgesF b ∧ w.heap.size ≤ b ∧ RelAt w' b (rightL r)) := by
  refine Makes.of_run Tryd.func13 rfl (by show 1 ≤ 6; decide) ?_
  refine RunF_sound tab_ok noX_local 100 [] _ _ rfl ?_ ?_
  · simp
  refine Run.callFn noX_local rfl rfl rfl rfl rfl rfl rfl right_enters rfl (fun w' _ => right_ok r w') ?_
  refine RunF_sound tab_ok noX_local 100 [] _ _ rfl ?_ ?_
  · simp [fillL, Value.cells, segsVals, relV_one']
  refine Run.ret tab_ok Tryd.func13 rfl trivial fun M fp a w' hr => ⟨hr.agree, (M 0).1, rfl, ?_, ?_⟩
  · rcases Nat.lt_or_ge (M 0).1 w.heap.size with h | h
    · exact (hr.own 0 _ rfl h).elim
    · exact h
  · intro q x hq
    have hb : BlkAt M w' 0 (.cells 25 [.vals 65 (relV (rightL r))]) := hr.heap 0 _ rfl
    have := vals_cells hb (off := 0) (s0 := 0) rfl q x hq
    rwa [Nat.zero_add] at this
theorem edges_enters : Enters Tryd.prog 13 := enters_mk Tryd.func13 (by decide) rfl

/-! ### The reference's -/
/-- Some pairs of a row. -/
def rowFrom (r : Rl) (i : Nat) : Nat → Nat → List (Int × Int)
  | _, 0 => []
  | b, e + 1 => (if r.has i b then [((i : Int), (b : Int))] else []) ++ rowFrom r i (b + 1) e

theorem rowFrom_filter (r : Rl) (i : Nat) : ∀ e b, rowFrom r i b e = ((List.range' b e).filter fun j => r.has i j).map (fun j : Nat => ((i : Int), (j : Int)))
  | 0, _ => rfl
  | e + 1, b => by
    rw [rowFrom, rowFrom_filter r i e, List.range'_succ, List.filter_cons]
    split <;> simp

theorem rowFrom_all (r : Rl) (i : Nat) : rowFrom (rightL r) i 0 (rightL r).n.toNat = (bitsL ((rightL r).row i)).map (fun j : Nat => ((i : Int), (j : Int))) := by
  have hn := rightL_n r
  obtain ⟨m, hm⟩ : ∃ m : Nat, (rightL r).n.toNat = m := ⟨_, rfl⟩
  rw [hm, rowFrom_filter]
  congr 1
  unfold bitsL
  have e : List.range 64 = List.range' 0 m ++ List.range' (0 + m) (64 - m) := by
    rw [List.range'_append_1, List.range_eq_range', show m + (64 - m) = 64 by omega]
  rw [e, List.filter_append]
  have : (List.range' (0 + m) (64 - m)).filter (fun j => ((rightL r).row i).getLsbD j) = [] := by
    rw [List.filter_eq_nil_iff]
    intro j hj hb
    have := List.mem_range'_1.1 hj
    have := (right_has r i j hb).2
    omega
  rw [this, List.append_nil]
  rfl

/-- What is known of a list of pairs that grows. -/
def lstV : Nat → AV
  | 0 => .v (.slice none 0 0)
  | k + 1 => .sl 9 2 0 (k + 1)
def lstB (l : List (Int × Int)) : Nat → List (Nat × Blk)
  | 0 => []
  | k + 1 => [(9, .row 67 2 (k + 1) (encE l))]

theorem encE_append : ∀ (l m : List (Int × Int)), encE (l ++ m) = encE l ++ encE m
  | [], _ => rfl
  | e :: l, m => by simp [encE, encE_append l m]

theorem encE_app (l : List (Int × Int)) (n : Nat) (hl : l.length = n) (x : Int × Int) : (encE l).take (n * 2) ++ [.int .i64 x.1, .int .i64 x.2] = encE (l ++ [x]) := by
  rw [List.take_of_length_le (by rw [encE_length, hl]; exact Nat.le_refl _), encE_append]; rfl

/-- A slice of pairs that was made behind a world. -/
def NewE (w : World) (xs : List (Int × Int)) (v : Value) (w' : World) : Prop := ∃ p c, v = .slice p xs.length c ∧ xs.length ≤ c ∧ SeesE w' p xs ∧ ∀ a, p = some a → w.heap.size ≤ a.block ∧ a.block < w'.heap.size

theorem edgesR_ok (r : Rl) (w : World) : Makes Tryd.prog 14 [encRel r] w (NewE w (edgesL (rightL r))) := by
  refine Makes.of_run Tryd.func14 rfl (by show 1 ≤ 31; decide) ?_
  refine RunF_sound tab_ok noX_local 100 [] _ _ rfl ?_ ?_
  · simp
  refine Run.callFn noX_local rfl rfl rfl rfl rfl rfl rfl rightR_enters rfl (fun w' _ => rightR_ok r w') ?_
  have hn := rightL_n r
  have hrow := rowFrom_all r
  generalize rightL r = R at hn hrow
  have hrest : ∀ i d, (restL R i d).length ≤ 64 * d := fun i d => by rw [restL_len]; exact sumL_le R d i
  generalize hL : edgesL R = L
  have hLn : L.length ≤ 4096 := by rw [← hL, edgesL]; have := hrest 0 R.n.toNat; omega
  refine RunF_sound tab_ok noX_local 100 [] _ _ rfl ?_ ?_
  · simp [fillL, Value.cells, segsVals, relV_one']
  suffices H : ∀ (d i n : Nat) (l : List (Int × Int)), l.length = n → (i : Int) + d = R.n → L = l ++ restL R i d →
      Run _ _ ⟨[(1, .ptr 0 0), (3, lstV n), (4, .v (.int .i64 (i : Int)))], (0, .cells 25 [.vals 65 (relV R)]) :: lstB l n, 10⟩ by
    refine Run.to (H R.n.toNat 0 0 [] rfl (by omega) (by rw [← hL]; rfl)) ⟨rfl, rfl, rfl, trivial⟩ ⟨?_, trivial⟩
    simp [splice, lk]
  intro d
  induction d with
  | zero =>
    intro i n l hln hi hl
    have hl' : L = l := by simpa [restL] using hl
    subst hl'
    cases n with
    | zero =>
      refine RunF_sound tab_ok noX_local 100 [false] _ _ rfl ?_ ?_
      · simp; omega
      have h0 : L = [] := List.length_eq_zero_iff.1 hln
      subst h0
      refine Run.ret tab_ok Tryd.func14 rfl trivial fun M fp a w' hr => ⟨hr.agree, none, 0, rfl, Nat.le_refl _, fun i hi => absurd hi (Nat.not_lt_zero _), fun a h => by cases h⟩
    | succ n =>
      refine RunF_sound tab_ok noX_local 100 [false] _ _ rfl ?_ ?_
      · simp; omega
      refine Run.ret tab_ok Tryd.func14 rfl trivial fun M fp a w' hr => ⟨hr.agree, some ⟨(M 9).1, 0, none⟩, (M 9).2 - 0, ?_, ?_, seesE_row (hr.heap 9 _ rfl) (fun i hi => encE_get L i hi), ?_⟩
      · rw [hln]; simp [resAV, conc]
      · obtain ⟨_, _, _, hc, _⟩ := hr.heap 9 _ rfl; rw [hln]; exact hc
      · intro a ha
        cases ha
        refine ⟨?_, (hr.heap 9 _ rfl).lt⟩
        rcases Nat.lt_or_ge (M 9).1 w.heap.size with h | h
        · exact (hr.own 9 _ rfl h).elim
        · exact h
  | succ d ih =>
    intro i n l hln hi hl
    refine RunF_sound tab_ok noX_local 100 [true] _ _ rfl ?_ ?_
    · simp; omega
    suffices H2 : ∀ (e b n : Nat) (l : List (Int × Int)), l.length = n → (b : Int) + e = R.n → L = l ++ (rowFrom R i b e ++ restL R (i + 1) d) →
        Run _ _ ⟨[(1, .ptr 0 0), (3, lstV n), (4, .v (.int .i64 (i : Int))), (5, .v (.int .i64 (b : Int)))], (0, .cells 25 [.vals 65 (relV R)]) :: lstB l n, 10⟩ by
      refine Run.to (H2 R.n.toNat 0 n l hln (by omega) ?_) ⟨rfl, rfl, rfl, rfl, trivial⟩ ?_
      · rw [hl, restL, hrow]
      · cases n <;> exact ⟨rfl, by first | trivial | exact ⟨rfl, trivial⟩⟩
    intro e
    induction e with
    | zero =>
      intro b n l hln hb hl
      refine RunF_sound tab_ok noX_local 100 [false] _ _ rfl ?_ ?_
      · simp; omega
      refine Run.to (ih (i + 1) n l hln (by omega) (by rw [hl]; rfl)) ⟨rfl, rfl, i64_eq (wrap_succ (by omega)), trivial⟩ ?_
      cases n <;> exact ⟨rfl, by first | trivial | exact ⟨rfl, trivial⟩⟩
    | succ e ihe =>
      intro b n l hln hb hl
      have hnl : n ≤ 4096 := by
        have := congrArg List.length hl
        rw [List.length_append, hln] at this
        omega
      refine RunF_sound tab_ok noX_local 100 [true] _ _ rfl ?_ ?_
      · simp; omega
      refine Run.callFn noX_local rfl rfl rfl rfl rfl rfl rfl hasR_enters rfl (fun w' _ => hasR_ok R hn i b w') ?_
      have hI : hasI R i b = R.has i b := by simp [hasI]; intro; omega
      rw [rowFrom] at hl
      by_cases c : R.has i b = true
      · rw [if_pos c] at hl
        cases n with
        | zero =>
          refine RunF_sound tab_ok noX_local 100 [true] _ _ rfl ?_ ?_
          · simp [hI, c, maxLen, fillL, repL, splice, Value.cells, Value.oneCell']
          refine Run.toR [(9, 11)] (ihe (b + 1) 1 (l ++ [((i : Int), (b : Int))]) (by simp [hln]) (by omega) (by rw [hl]; simp)) ⟨rfl, rfl, rfl, i64_eq (wrap_succ (by omega)), trivial⟩ ⟨rfl, ?_, trivial⟩ rfl
          refine congrArg (fun l => some (Blk.row 67 2 1 l)) ?_
          have : l = [] := List.length_eq_zero_iff.1 hln
          subst this
          rfl
        | succ n =>
          refine RunF_sound tab_ok noX_local 100 [true] _ _ rfl ?_ ?_
          · simp [hI, c, maxLen, fillL, repL, splice, Value.cells, Value.oneCell']; omega
          refine Run.toR [(9, 11)] (ihe (b + 1) (n + 2) (l ++ [((i : Int), (b : Int))]) (by simp [hln]) (by omega) (by rw [hl]; simp)) ⟨rfl, rfl, rfl, i64_eq (wrap_succ (by omega)), trivial⟩ ⟨rfl, ?_, trivial⟩ rfl
          refine congrArg (fun l => some (Blk.row 67 2 (n + 2) l)) ?_
          exact encE_app l (n + 1) hln ((i : Int), (b : Int))
      · rw [if_neg c, List.nil_append] at hl
        refine RunF_sound tab_ok noX_local 100 [false] _ _ rfl ?_ ?_
        · simp [hI, c]
        refine Run.to (ihe (b + 1) n l hln (by omega) hl) ⟨rfl, rfl, rfl, i64_eq (wrap_succ (by omega)), trivial⟩ ?_
        cases n <;> exact ⟨rfl, by first | trivial | exact ⟨rfl, trivial⟩⟩
theorem edgesR_enters : Enters Tryd.prog 14 := enters_mk Tryd.func14 (by decide) rfl
end Go.Proofs.YtocpkgckllbjlaaDoor

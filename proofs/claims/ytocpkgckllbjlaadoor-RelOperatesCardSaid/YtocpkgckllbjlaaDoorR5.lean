/-
  What Of does, here and in the reference; lists of pairs compared. Own work.
-/
import Derived.Test.YtocpkgckllbjlaaDoorR4
namespace Go.Proofs.YtocpkgckllbjlaaDoor
open Go.AM
set_option maxRecDepth 100000

/-- A slice of pairs, as it lies in a world. -/
def SeesE (w : World) (p : Option Addr) (xs : List (Int × Int)) : Prop :=
  ∀ i (h : i < xs.length), p = some (p.getD default) ∧ extCells w ((p.getD default).add (i * 2)) 0 2 = [.int .i64 xs[i].1, .int .i64 xs[i].2] ∧ ∀ j, j < 2 → (w.cell? (((p.getD default).add (i * 2)).add j)).isSome

theorem SeesE.agree {S : Nat → Prop} {w w' : World} {p : Option Addr} {xs : List (Int × Int)} (h : SeesE w p xs) (hA : Agree S w w') (hS : ∀ a, p = some a → ¬ S a.block) : SeesE w' p xs := by
  intro i hi
  obtain ⟨h1, h2, h3⟩ := h i hi
  have hb : ∀ j, w'.cell? (((p.getD default).add (i * 2)).add j) = w.cell? (((p.getD default).add (i * 2)).add j) ∨ w.cell? (((p.getD default).add (i * 2)).add j) = none := by
    intro j
    cases hc : w.cell? (((p.getD default).add (i * 2)).add j) with
    | none => exact .inr rfl
    | some x => exact .inl (hA.cell hc (by rw [add_block, add_block]; exact hS _ h1))
  have hs : ∀ j, j < 2 → w'.cell? (((p.getD default).add (i * 2)).add j) = w.cell? (((p.getD default).add (i * 2)).add j) := by
    intro j hj
    rcases hb j with h | h
    · exact h
    · have := h3 j hj; rw [h] at this; cases this
  refine ⟨h1, ?_, fun j hj => by rw [hs j hj]; exact h3 j hj⟩
  rw [← h2]
  simp only [extCells, hs 0 (by omega), hs (0 + 1) (by omega)]

def badE (n : Int) (e : Int × Int) : Prop := e.1 < 0 ∨ e.1 ≥ n ∨ e.2 < 0 ∨ e.2 ≥ n
instance (n : Int) (e : Int × Int) : Decidable (badE n e) := by unfold badE; infer_instance

def ofGo (n : Int) (r : Rl) : List (Int × Int) → Rl × Int
  | [] => (r, 0)
  | e :: l => if badE n e then (Rl.void 0, 4) else ofGo n (r.setRow e.1.toNat (r.row e.1.toNat ||| 1#64 <<< e.2.toNat)) l
def ofL (n : Int) (xs : List (Int × Int)) : Rl × Int := if n < 0 ∨ n > 64 then (Rl.void 0, 4) else ofGo n (Rl.void n) xs
def ofV (x : Rl × Int) : Value := .tuple #[encRel x.1, .int .i64 x.2]

@[simp] theorem intAt_p0 (a b : Int) : intAt [.int .i64 a, .int .i64 b] 0 = a := rfl
@[simp] theorem intAt_p1 (a b : Int) : intAt [.int .i64 a, .int .i64 b] 1 = b := rfl
@[simp] theorem one_int (k : IntKind) (n : Int) : (Value.int k n).oneCell' = true := rfl
@[simp] theorem zedge : z67 = [.int .i64 0, .int .i64 0] := rfl

theorem of_ok (n : Int) (p : Option Addr) (c : Nat) (xs : List (Int × Int)) (w : World) (hs : SeesE w p xs) (hl : xs.length ≤ maxLen) : Gives Tryd.prog 65 [.int .i64 n, .slice p xs.length c] w (ofV (ofL n xs)) := by
  refine Gives.of_run Tryd.func65 rfl (by show 2 ≤ 58; decide) ?_
  by_cases h1 : n < 0
  · refine RunF_sound tab_ok noX_local 100 [true, true] _ _ rfl ?_ ?_
    · simp [h1, fillL, Value.cells, segsVals, relV_one']
    · refine Run.retL tab_ok Tryd.func65 rfl ?_ (fun M => ?_)
      · simp [fillL, Value.cells]
      rw [ofL, if_pos (.inl h1)]; rfl
  by_cases h2 : n > 64
  · refine RunF_sound tab_ok noX_local 100 [false, true] _ _ rfl ?_ ?_
    · simp [fillL, Value.cells, segsVals, relV_one']; omega
    · refine Run.retL tab_ok Tryd.func65 rfl ?_ (fun M => ?_)
      · simp [fillL, Value.cells]
      rw [ofL, if_pos (.inr h2)]; rfl
  rw [ofL, if_neg (by omega)]
  generalize hR : ofGo n (Rl.void n) xs = R
  have hmax : (xs.length : Int) ≤ 9223372036854775807 := by simp only [maxLen] at hl; omega
  refine RunF_sound tab_ok noX_local 100 [false, false] _ _ rfl ?_ ?_
  · simp [fillL, Value.cells, segsVals, relV_one']; omega
  suffices H : ∀ (d k : Nat) (r : Rl), k + d = xs.length → R = ofGo n r (xs.drop k) → ∀ σ, inT σ.t [(0, .v (.int .i64 n)), (4, .ptr 0 0), (6, .ptr 1 0), (18, .v (.slice p xs.length c)), (19, .v (.int .i64 (xs.length : Int))), (20, .v (.int .i64 (k : Int)))] →
      inT σ.h [(0, .cells 25 [.vals 65 (relV (Rl.void 0))]), (1, .cells 25 [.vals 65 (relV r)])] → Run _ _ σ by
    exact H xs.length 0 (Rl.void n) (by omega) hR.symm _ ⟨rfl, rfl, rfl, rfl, rfl, rfl, trivial⟩ ⟨rfl, rfl, trivial⟩
  intro d
  induction d with
  | zero =>
    intro k r hk hv σ ht hh
    refine Run.to ?_ ht hh (n' := 2)
    refine RunF_sound tab_ok noX_local 100 [false] _ _ rfl ?_ ?_
    · simp [relV_one', segsVals]; omega
    · refine Run.retL tab_ok Tryd.func65 rfl ?_ (fun M => ?_)
      · simp
      rw [hv, List.drop_eq_nil_of_le (by omega)]; rfl
  | succ d ih =>
    intro k r hk hv σ ht hh
    refine Run.to ?_ ht hh (n' := 2)
    have hk' : k < xs.length := by omega
    obtain ⟨e1, e2, e3⟩ := hs k hk'
    obtain ⟨a, rfl⟩ : ∃ a, p = some a := ⟨_, e1⟩
    simp only [Option.getD_some] at e2 e3
    rw [List.drop_eq_getElem_cons hk', ofGo] at hv
    generalize xs[k] = e at *
    obtain ⟨A, B⟩ := e
    simp only at hv e2
    by_cases bad : badE n (A, B)
    · rw [if_pos bad] at hv
      unfold badE at bad
      by_cases b1 : A < 0
      · refine RunF_sound tab_ok noX_local 200 [true, true, true] _ _ rfl ?_ ?_
        · simp [e2, segsVals, fillL, Value.cells, relV_one']; exact ⟨by omega, e3, by omega⟩
        · refine Run.retL tab_ok Tryd.func65 rfl ?_ (fun M => ?_)
          · simp [fillL, Value.cells]
          rw [hv]; rfl
      by_cases b2 : A ≥ n
      · refine RunF_sound tab_ok noX_local 200 [true, false, true, true] _ _ rfl ?_ ?_
        · simp [e2, segsVals, fillL, Value.cells, relV_one']; exact ⟨by omega, e3, by omega, by omega⟩
        · refine Run.retL tab_ok Tryd.func65 rfl ?_ (fun M => ?_)
          · simp [fillL, Value.cells]
          rw [hv]; rfl
      by_cases b3 : B < 0
      · refine RunF_sound tab_ok noX_local 200 [true, false, false, true, true] _ _ rfl ?_ ?_
        · simp [e2, segsVals, fillL, Value.cells, relV_one']; exact ⟨by omega, e3, by omega, by omega, by omega⟩
        · refine Run.retL tab_ok Tryd.func65 rfl ?_ (fun M => ?_)
          · simp [fillL, Value.cells]
          rw [hv]; rfl
      have b4 : B ≥ n := by simp only at bad; omega
      refine RunF_sound tab_ok noX_local 200 [true, false, false, false, true] _ _ rfl ?_ ?_
      · simp [e2, segsVals, fillL, Value.cells, relV_one']; exact ⟨by omega, e3, by omega, by omega, by omega, by omega⟩
      · refine Run.retL tab_ok Tryd.func65 rfl ?_ (fun M => ?_)
        · simp [fillL, Value.cells]
        rw [hv]; rfl
    · rw [if_neg bad] at hv
      simp only [badE, not_or] at bad
      obtain ⟨b1, b2, b3, b4⟩ := bad
      refine RunF_sound tab_ok noX_local 200 [true, false, false, false, false] _ _ rfl ?_ ?_
      · simp [e2, segsVals]; exact ⟨by omega, e3, by omega, by omega, by omega, by omega⟩
      refine Run.drawA noX_local rfl [4] [(2, .cells 67 [.vals 2 [.int .i64 A, .int .i64 B]])] rfl rfl ⟨congrArg (fun l => some (Blk.cells 67 [.vals 2 l])) e2, trivial⟩ ?_
      refine RunOF_sound tab_ok noX_local rfl rfl 100 [] _ _ rfl ?_ ?_
      · have hA : A.toNat < 64 := by omega
        simp [relV_get _ _ hA, intAt_row _ _ hA, okCell, Value.oneCell', inT, lk, e2]; omega
      refine RunO.done ?_
      refine RunF_sound tab_ok noX_local 100 [] _ _ rfl ?_ ?_
      · simp
      refine ih (k + 1) _ (by omega) hv _ ⟨rfl, rfl, rfl, rfl, rfl, i64_eq (wrap_succ (by omega)), trivial⟩ ⟨rfl, congrArg (fun l => some (Blk.cells 25 [.vals 65 l])) ?_, trivial⟩
      have hA : A.toNat < 64 := by omega
      simp [intAt_row _ _ hA, shl1_un, relV_set _ _ hA]
theorem of_enters : Enters Tryd.prog 65 := enters_mk Tryd.func65 (by decide) rfl

theorem eqEdge (a b c d : Int) : EqT Tryd.prog 67 #[.int .i64 a, .int .i64 b] #[.int .i64 c, .int .i64 d] (decide (a = c ∧ b = d)) := by
  refine ⟨by kernel_rfl, fun w => ?_⟩
  have hu := tab_undP tab_ok (t := 67) (d := .struct #[{ name := "A", type := 3, offset := 0, embedded := false, tag := "", pkgPath := "", byteOffset := 0 }, { name := "B", type := 3, offset := 1, embedded := false, tag := "", pkgPath := "", byteOffset := 8 }]) rfl
  have hf : Tryd.prog.fieldsOf 67 = #[{ name := "A", type := 3, offset := 0, embedded := false, tag := "", pkgPath := "", byteOffset := 0 }, { name := "B", type := 3, offset := 1, embedded := false, tag := "", pkgPath := "", byteOffset := 8 }] := by simp [Program.fieldsOf, hu]
  rw [run_equalIn_struct w 9999 _ _ _ (by rw [hf]; exact hu) (by kernel_rfl), hf]
  have hi := tab_undP tab_ok (t := 3) (d := .int .i64) rfl
  have p0 : ∀ x y : Int, (part 3 #[.int .i64 x, .int .i64 y] 0).run Tryd.prog w = .ok (.int .i64 x) w := fun x y => part_run tab_ok (t := 3) (vs := #[.int .i64 x, .int .i64 y]) (j := 0) (p := _) (x := .int .i64 x) rfl rfl w
  have p1 : ∀ x y : Int, (part 3 #[.int .i64 x, .int .i64 y] 1).run Tryd.prog w = .ok (.int .i64 y) w := fun x y => part_run tab_ok (t := 3) (vs := #[.int .i64 x, .int .i64 y]) (j := 1) (p := _) (x := .int .i64 y) rfl rfl w
  have he : ∀ x y : Int, (Op.equalIn 9999 3 (.int .i64 x) (.int .i64 y)).run Tryd.prog w = .ok (x == y) w := fun x y => run_equalIn_int w 9998 _ _ _ _ _ hi
  by_cases h1 : a = c <;> by_cases h2 : b = d <;> simp [Op.eqFields, p0, p1, he, h1, h2]

end Go.Proofs.YtocpkgckllbjlaaDoor

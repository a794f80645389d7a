/-
  Events as values; lists of them in a world; short (E0 without SameEvents, for cuts that lack it). Own work.
-/
import Derived.Test.YtehimiadpgbhmaaDoorV0
namespace Go.Proofs.YtehimiadpgbhmaaDoor
open Go.AM
set_option maxRecDepth 100000

/-- An event. -/
structure Ev where
  kind : Int
  thread : Int
  index : Int
  loc : Int
  locked : Bool
  deriving DecidableEq

def evV (e : Ev) : List Value := [.int .i64 e.kind, .int .i64 e.thread, .int .i64 e.index, .int .i64 e.loc, .bool e.locked]
def encEv (e : Ev) : Value := .agg (evV e).toArray

@[simp] theorem evV_len (e : Ev) : (evV e).length = 5 := rfl
@[simp] theorem intAt_k (e : Ev) : intAt (evV e) 0 = e.kind := rfl
@[simp] theorem intAt_t (e : Ev) : intAt (evV e) 1 = e.thread := rfl
@[simp] theorem intAt_i (e : Ev) : intAt (evV e) 2 = e.index := rfl
@[simp] theorem intAt_l (e : Ev) : intAt (evV e) 3 = e.loc := rfl
@[simp] theorem boolAt_l (e : Ev) : boolAt (evV e) 4 = e.locked := rfl
@[simp] theorem evV_0 (e : Ev) : (evV e)[0]? = some (.int .i64 e.kind) := rfl
@[simp] theorem evV_1 (e : Ev) : (evV e)[1]? = some (.int .i64 e.thread) := rfl
@[simp] theorem evV_2 (e : Ev) : (evV e)[2]? = some (.int .i64 e.index) := rfl
@[simp] theorem evV_3 (e : Ev) : (evV e)[3]? = some (.int .i64 e.loc) := rfl
@[simp] theorem evV_4 (e : Ev) : (evV e)[4]? = some (.bool e.locked) := rfl
theorem evV_one (e : Ev) : (∀ c ∈ evV e, c.oneCell' = true) ↔ True := iff_true_intro fun c hc => by
  simp only [evV, List.mem_cons, List.not_mem_nil, or_false] at hc
  rcases hc with rfl | rfl | rfl | rfl | rfl <;> rfl
@[simp] theorem zev : z52 = evV ⟨0, 0, 0, 0, false⟩ := rfl
@[simp] theorem splice_ev (e d : Ev) : splice (evV e) 0 (evV d) = evV d := rfl

/-- A slice of events, as it lies in a world. -/
def SeesV (w : World) (p : Option Addr) (xs : List Ev) : Prop :=
  ∀ i (h : i < xs.length), p = some (p.getD default) ∧ ∀ j x, (evV xs[i])[j]? = some x → w.cell? ((p.getD default).add (i * 5 + j)) = some x

theorem SeesV.agree {S : Nat → Prop} {w w' : World} {p : Option Addr} {xs : List Ev} (h : SeesV w p xs) (hA : Agree S w w') (hS : ∀ a, p = some a → ¬ S a.block) : SeesV w' p xs := by
  intro i hi
  obtain ⟨h1, h2⟩ := h i hi
  exact ⟨h1, fun j x hx => hA.cell (h2 j x hx) (by rw [add_block]; exact hS _ h1)⟩

theorem add_add (a : Addr) (i j : Nat) : (a.add i).add j = a.add (i + j) := by
  obtain ⟨b, o, x⟩ := a
  unfold Addr.add
  by_cases hi : i = 0
  · subst hi; simp
  · by_cases hj : j = 0
    · subst hj; simp [hi]
    · have : ¬ i + j = 0 := by omega
      simp [hi, hj, this, Nat.add_assoc]

theorem SeesV.ext {w : World} {p : Option Addr} {xs : List Ev} (h : SeesV w p xs) (i : Nat) (hi : i < xs.length) : extCells w ((p.getD default).add (i * 5)) 0 5 = evV xs[i] := by
  have h2 := (h i hi).2
  have c : ∀ j x, (evV xs[i])[j]? = some x → w.cell? (((p.getD default).add (i * 5)).add j) = some x := fun j x hx => by rw [add_add]; exact h2 j x hx
  simp only [extCells, c 0 _ (evV_0 _), c (0 + 1) _ (evV_1 _), c (0 + 1 + 1) _ (evV_2 _), c (0 + 1 + 1 + 1) _ (evV_3 _), c (0 + 1 + 1 + 1 + 1) _ (evV_4 _)]
  rfl
theorem SeesV.some {w : World} {p : Option Addr} {xs : List Ev} (h : SeesV w p xs) (i : Nat) (hi : i < xs.length) : ∀ j, j < 5 → (w.cell? (((p.getD default).add (i * 5)).add j)).isSome := by
  have h2 := (h i hi).2
  have c : ∀ j x, (evV xs[i])[j]? = Option.some x → w.cell? (((p.getD default).add (i * 5)).add j) = Option.some x := fun j x hx => by rw [add_add]; exact h2 j x hx
  intro j hj
  rcases (show j = 0 ∨ j = 1 ∨ j = 2 ∨ j = 3 ∨ j = 4 by omega) with rfl | rfl | rfl | rfl | rfl
  · rw [c 0 _ (evV_0 _)]; rfl
  · rw [c 1 _ (evV_1 _)]; rfl
  · rw [c 2 _ (evV_2 _)]; rfl
  · rw [c 3 _ (evV_3 _)]; rfl
  · rw [c 4 _ (evV_4 _)]; rfl
theorem SeesV.field {w : World} {p : Option Addr} {xs : List Ev} (h : SeesV w p xs) (i : Nat) (hi : i < xs.length) {j : Nat} {x : Value} (hx : (evV xs[i])[j]? = Option.some x) : w.cell? (((p.getD default).add (i * 5)).add j) = Option.some x := by
  rw [add_add]; exact (h i hi).2 j x hx

theorem evP0 (e : Ev) (w : World) : (part 3 (evV e).toArray 0).run Tryd.prog w = .ok (.int .i64 e.kind) w :=
  part_run tab_ok (t := 3) (vs := (evV e).toArray) (j := 0) (p := _) (x := .int .i64 e.kind) rfl (by simp) w
theorem evP1 (e : Ev) (w : World) : (part 3 (evV e).toArray 1).run Tryd.prog w = .ok (.int .i64 e.thread) w :=
  part_run tab_ok (t := 3) (vs := (evV e).toArray) (j := 1) (p := _) (x := .int .i64 e.thread) rfl (by simp) w
theorem evP2 (e : Ev) (w : World) : (part 3 (evV e).toArray 2).run Tryd.prog w = .ok (.int .i64 e.index) w :=
  part_run tab_ok (t := 3) (vs := (evV e).toArray) (j := 2) (p := _) (x := .int .i64 e.index) rfl (by simp) w
theorem evP3 (e : Ev) (w : World) : (part 3 (evV e).toArray 3).run Tryd.prog w = .ok (.int .i64 e.loc) w :=
  part_run tab_ok (t := 3) (vs := (evV e).toArray) (j := 3) (p := _) (x := .int .i64 e.loc) rfl (by simp) w
theorem evP4 (e : Ev) (w : World) : (part 4 (evV e).toArray 4).run Tryd.prog w = .ok (.bool e.locked) w :=
  part_run tab_ok (t := 4) (vs := (evV e).toArray) (j := 4) (p := _) (x := .bool e.locked) rfl (by simp) w
theorem eqEv (a b : Ev) : EqT Tryd.prog 52 (evV a).toArray (evV b).toArray (decide (a = b)) := by
  refine ⟨by kernel_rfl, fun w => ?_⟩
  have hi := tab_undP tab_ok (t := 3) (d := .int .i64) rfl
  have hb := tab_undP tab_ok (t := 4) (d := .bool) rfl
  have hu := tab_undP tab_ok (t := 52) (d := .struct #[{ name := "Kind", type := 3, offset := 0, embedded := false, tag := "", pkgPath := "", byteOffset := 0 }, { name := "Thread", type := 3, offset := 1, embedded := false, tag := "", pkgPath := "", byteOffset := 8 }, { name := "Index", type := 3, offset := 2, embedded := false, tag := "", pkgPath := "", byteOffset := 16 }, { name := "Loc", type := 3, offset := 3, embedded := false, tag := "", pkgPath := "", byteOffset := 24 }, { name := "Locked", type := 4, offset := 4, embedded := false, tag := "", pkgPath := "", byteOffset := 32 }]) rfl
  have hf : Tryd.prog.fieldsOf 52 = #[{ name := "Kind", type := 3, offset := 0, embedded := false, tag := "", pkgPath := "", byteOffset := 0 }, { name := "Thread", type := 3, offset := 1, embedded := false, tag := "", pkgPath := "", byteOffset := 8 }, { name := "Index", type := 3, offset := 2, embedded := false, tag := "", pkgPath := "", byteOffset := 16 }, { name := "Loc", type := 3, offset := 3, embedded := false, tag := "", pkgPath := "", byteOffset := 24 }, { name := "Locked", type := 4, offset := 4, embedded := false, tag := "", pkgPath := "", byteOffset := 32 }] := by simp [Program.fieldsOf, hu]
  rw [run_equalIn_struct w 9999 _ _ _ (by rw [hf]; exact hu) (by kernel_rfl), hf]
  have he : ∀ x y : Int, (Op.equalIn 9999 3 (.int .i64 x) (.int .i64 y)).run Tryd.prog w = .ok (x == y) w := fun x y => run_equalIn_int w 9998 _ _ _ _ _ hi
  have hg : ∀ x y : Bool, (Op.equalIn 9999 4 (.bool x) (.bool y)).run Tryd.prog w = .ok (x == y) w := fun x y => run_equalIn_bool w 9998 _ _ _ hb
  have e : decide (a = b) = ((a.kind == b.kind) && ((a.thread == b.thread) && ((a.index == b.index) && ((a.loc == b.loc) && ((a.locked == b.locked) && true))))) := by
    obtain ⟨a1, a2, a3, a4, a5⟩ := a
    obtain ⟨b1, b2, b3, b4, b5⟩ := b
    rw [Bool.eq_iff_iff, decide_eq_true_eq, Ev.mk.injEq]
    simp
  rw [e]
  exact eqFields_cons (by decide) (evP0 a w) (evP0 b w) (he _ _) fun _ => eqFields_cons (by decide) (evP1 a w) (evP1 b w) (he _ _) fun _ => eqFields_cons (by decide) (evP2 a w) (evP2 b w) (he _ _) fun _ =>
    eqFields_cons (by decide) (evP3 a w) (evP3 b w) (he _ _) fun _ => eqFields_cons (by decide) (evP4 a w) (evP4 b w) (hg _ _) fun _ => by simp [Op.eqFields]

def shortL (xs : List Ev) : List Ev := if xs.length > 64 then [] else xs
theorem shortL_le (xs : List Ev) : (shortL xs).length ≤ 64 := by
  unfold shortL
  split
  · simp
  · omega

/-- The short one, as a value. -/
def shortV (p : Option Addr) (c : Nat) (xs : List Ev) : Value := if xs.length > 64 then .slice none 0 0 else .slice p xs.length c

theorem short_ok (p : Option Addr) (c : Nat) (xs : List Ev) (w : World) : Gives Tryd.prog 23 [.slice p xs.length c] w (shortV p c xs) := by
  refine Gives.of_run Tryd.func23 rfl (by show 1 ≤ 7; decide) ?_
  by_cases h : xs.length > 64
  · refine RunF_sound tab_ok noX_local 100 [true] _ _ rfl ?_ ?_
    · simp; omega
    refine Run.retP tab_ok Tryd.func23 rfl trivial (fun M => ?_)
    rw [shortV, if_pos h]; rfl
  · refine RunF_sound tab_ok noX_local 100 [false] _ _ rfl ?_ ?_
    · simp; omega
    refine Run.retP tab_ok Tryd.func23 rfl trivial (fun M => ?_)
    rw [shortV, if_neg h]; rfl
theorem short_enters : Enters Tryd.prog 23 := enters_mk Tryd.func23 (by decide) rfl

theorem shortR_ok (p : Option Addr) (c : Nat) (xs : List Ev) (w : World) : Gives Tryd.prog 24 [.slice p xs.length c] w (shortV p c xs) := by
  refine Gives.of_run Tryd.func24 rfl (by show 1 ≤ 7; decide) ?_
  by_cases h : xs.length > 64
  · refine RunF_sound tab_ok noX_local 100 [true] _ _ rfl ?_ ?_
    · simp; omega
    refine Run.retP tab_ok Tryd.func24 rfl trivial (fun M => ?_)
    rw [shortV, if_pos h]; rfl
  · refine RunF_sound tab_ok noX_local 100 [false] _ _ rfl ?_ ?_
    · simp; omega
    refine Run.retP tab_ok Tryd.func24 rfl trivial (fun M => ?_)
    rw [shortV, if_neg h]; rfl
theorem shortR_enters : Enters Tryd.prog 24 := enters_mk Tryd.func24 (by decide) rfl

/-- What is short is a slice of what is short. -/
theorem short_form {w : World} {p : Option Addr} {xs : List Ev} (c : Nat) (h : SeesV w p xs) : ∃ p' c', shortV p c xs = .slice p' (shortL xs).length c' ∧ SeesV w p' (shortL xs) := by
  unfold shortV shortL
  split
  · exact ⟨none, 0, rfl, fun i hi => absurd hi (Nat.not_lt_zero _)⟩
  · exact ⟨p, c, rfl, h⟩

end Go.Proofs.YtehimiadpgbhmaaDoor

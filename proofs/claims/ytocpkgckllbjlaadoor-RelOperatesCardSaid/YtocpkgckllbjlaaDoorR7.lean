/-
  RelMakes: what it does. Own work.
-/
import Derived.Test.YtocpkgckllbjlaaDoorR6
namespace Go.Proofs.YtocpkgckllbjlaaDoor
open Go.AM
set_option maxRecDepth 100000

/-- Pairs, as cells. -/
def encE : List (Int × Int) → List Value
  | [] => []
  | e :: l => .int .i64 e.1 :: .int .i64 e.2 :: encE l
theorem encE_length : ∀ l : List (Int × Int), (encE l).length = l.length * 2
  | [] => rfl
  | e :: l => by simp [encE, encE_length l]; omega
theorem encE_get : ∀ (l : List (Int × Int)) (i : Nat) (h : i < l.length), (encE l)[i * 2]? = some (.int .i64 l[i].1) ∧ (encE l)[i * 2 + 1]? = some (.int .i64 l[i].2)
  | [], i, h => by simp at h
  | e :: l, 0, h => by simp [encE]
  | e :: l, i + 1, h => by
    have := encE_get l i (by simpa using h)
    rw [show (i + 1) * 2 = i * 2 + 2 by omega]
    simpa [encE] using this
theorem encE_one (l : List (Int × Int)) : ∀ c ∈ encE l, c.oneCell' = true := by
  induction l with
  | nil => intro c h; cases h
  | cons e l ih =>
    intro c h
    simp only [encE, List.mem_cons] at h
    rcases h with rfl | rfl | h
    · rfl
    · rfl
    · exact ih c h

theorem seesE_row {M : AM.Loc} {w : World} {id e n : Nat} {vs : List Value} (hb : BlkAt M w id (.row e 2 n vs)) {xs : List (Int × Int)} (h : ∀ i (h : i < xs.length), vs[i * 2]? = some (.int .i64 xs[i].1) ∧ vs[i * 2 + 1]? = some (.int .i64 xs[i].2)) :
    SeesE w (some ⟨(M id).1, 0, none⟩) xs := by
  intro i hi
  obtain ⟨h1, h2⟩ := h i hi
  have c1 := row_cells hb _ _ h1
  have c2 := row_cells hb _ _ h2
  rw [Nat.zero_add] at c1 c2
  refine ⟨rfl, ?_, ?_⟩
  · simp [extCells, Addr.add_lit, c1, c2]
  · intro j hj
    rcases (show j = 0 ∨ j = 1 by omega) with rfl | rfl
    · simp [Addr.add_lit, c1]
    · simp [Addr.add_lit, c2]

theorem add_add (a : Addr) (i j : Nat) : (a.add i).add j = a.add (i + j) := by
  obtain ⟨b, o, x⟩ := a
  unfold Addr.add
  split <;> split <;> simp_all <;> omega

theorem ext_enc (w : World) (a : Addr) : ∀ (xs : List (Int × Int)) (k : Nat), (∀ i (h : i < xs.length), extCells w (a.add ((k + i) * 2)) 0 2 = [.int .i64 xs[i].1, .int .i64 xs[i].2]) → extCells w a (k * 2) (xs.length * 2) = encE xs
  | [], _, _ => rfl
  | e :: l, k, h => by
    have h0 := h 0 (by simp)
    simp only [extCells, Nat.add_zero, List.getElem_cons_zero, List.cons.injEq, and_true, Nat.zero_add, add_add] at h0
    have ih := ext_enc w a l (k + 1) (fun i hi => by
      have := h (i + 1) (by simpa using hi)
      rw [show k + 1 + i = k + (i + 1) by omega]
      simpa using this)
    rw [show (e :: l).length * 2 = l.length * 2 + 1 + 1 by simp; omega]
    simp only [extCells, encE]
    rw [h0.1, h0.2, show k * 2 + 1 + 1 = (k + 1) * 2 by omega, ih]

theorem SeesE.ext {w : World} {a : Addr} {xs : List (Int × Int)} (h : SeesE w (some a) xs) : extCells w a 0 (xs.length * 2) = encE xs := by
  have := ext_enc w a xs 0 (fun i hi => by simpa using (h i hi).2.1)
  simpa using this
theorem SeesE.some' {w : World} {a : Addr} {xs : List (Int × Int)} (h : SeesE w (some a) xs) : ∀ j, j < xs.length * 2 → (w.cell? (a.add j)).isSome := by
  intro j hj
  have := (h (j / 2) (by omega)).2.2 (j % 2) (by omega)
  rw [Option.getD_some, add_add, show j / 2 * 2 + j % 2 = j by omega] at this
  exact this

end Go.Proofs.YtocpkgckllbjlaaDoor

/-
  EventRelations: what it does. Own work.
-/
import Derived.Test.YtehimiadpgbhmaaE4
namespace Go.Proofs.Ytehimiadpgbhmaa
open Go.AM
set_option maxRecDepth 100000

theorem gen_checkI {n : Nat} (hn : n ≤ 64) {q : Nat → Nat → Bool} (h : ∀ {x y : Nat}, q x y = true → x < n ∧ y < n) : checkI (Rl.gen (n : Int) q) = 0 := by
  have hN : (Rl.gen (n : Int) q).n = (n : Int) := Rl.n_gen _ _
  unfold checkI
  have hg : ∀ i, i < 64 → good (Rl.gen (n : Int) q) i = true := fun i hi => (good_iff _ i (by rw [hN]; omega)).2 fun b hb ⟨h1, h2⟩ => by
    rw [Rl.has_gen] at h1
    simp only [Bool.and_eq_true] at h1
    have := h h1.2
    rw [hN] at h2
    omega
  rw [if_neg (by rw [hN]; omega), if_pos hg]

theorem eqExt (xs : List Ev) : notL (pairsL (fun _ _ a b => togB a b) xs) = standsL 4 xs := by
  have hle := shortL_le xs
  unfold standsL pairsL
  generalize shortL xs = L at hle
  have hlt := @atB_lt (fun _ _ a b => togB a b) L
  have hr : rightL (Rl.gen (L.length : Int) (atB (fun _ _ a b => togB a b) L)) = Rl.gen (L.length : Int) (atB (fun _ _ a b => togB a b) L) := rightL_of _ (gen_checkI hle hlt)
  unfold notL
  rw [hr]
  apply Rl.ext_has
  · rw [n_notP]; rfl
  · intro a b ha hb
    have hN : (Rl.gen (L.length : Int) (atB (fun _ _ a b => togB a b) L)).n = (L.length : Int) := Rl.n_gen _ _
    rw [Rl.has_gen, Rl.has, notP, Rl.row_by, if_pos ha, hN]
    have hrow : ((Rl.gen (L.length : Int) (atB (fun _ _ a b => togB a b) L)).row a).getLsbD b = atB (fun _ _ a b => togB a b) L a b := by
      have := Rl.has_gen (L.length : Int) (atB (fun _ _ a b => togB a b) L) a b
      rw [Rl.has] at this
      rw [this]; simp [ha, hb]
    simp only [Int.toNat_natCast]
    by_cases h1 : a < L.length
    · rw [if_pos h1, BitVec.getLsbD_and, BitVec.getLsbD_not, mask_get _ _ (by omega), hrow]
      by_cases h2 : b < L.length
      · rw [atB_at h1 h2, atB_at h1 h2]
        simp [standsB, hb, ha, h2]
      · have : atB (fun i j a b => standsB 4 i j a b) L a b = false := by
          cases hh : atB (fun i j a b => standsB 4 i j a b) L a b with
          | false => rfl
          | true => exact absurd (atB_lt hh).2 h2
        rw [this]; simp [h2]
    · rw [if_neg h1, hrow]
      have h3 : ∀ T, atB T L a b = false := fun T => by
        cases hh : atB T L a b with
        | false => rfl
        | true => exact absurd (atB_lt hh).1 h1
      rw [h3, h3]; simp

/-- Events, as cells. -/
def encEs : List Ev → List Value
  | [] => []
  | e :: l => evV e ++ encEs l
theorem encEs_length : ∀ l : List Ev, (encEs l).length = l.length * 5
  | [] => rfl
  | e :: l => by simp [encEs, encEs_length l]; omega
theorem encEs_get : ∀ (l : List Ev) (i : Nat) (h : i < l.length) (j : Nat), j < 5 → (encEs l)[i * 5 + j]? = (evV l[i])[j]?
  | [], i, h, _, _ => by simp at h
  | e :: l, 0, h, j, hj => by
    simp only [encEs, Nat.zero_mul, Nat.zero_add, List.getElem_cons_zero]
    rw [List.getElem?_append_left (by simpa using hj)]
  | e :: l, i + 1, h, j, hj => by
    have := encEs_get l i (by simpa using h) j hj
    simp only [encEs, List.getElem_cons_succ]
    rw [List.getElem?_append_right (by simp; omega), show (i + 1) * 5 + j - (evV e).length = i * 5 + j by simp; omega]
    exact this
theorem encEs_one (l : List Ev) : ∀ c ∈ encEs l, c.oneCell' = true := by
  induction l with
  | nil => intro c h; cases h
  | cons e l ih =>
    intro c h
    simp only [encEs, List.mem_append] at h
    rcases h with h | h
    · exact (evV_one e).2 trivial c h
    · exact ih c h

theorem seesV_row {M : AM.Loc} {w : World} {id e n : Nat} {vs : List Value} (hb : BlkAt M w id (.row e 5 n vs)) {xs : List Ev} (h : ∀ i (h : i < xs.length) j, j < 5 → vs[i * 5 + j]? = (evV xs[i])[j]?) :
    SeesV w (some ⟨(M id).1, 0, none⟩) xs := by
  intro i hi
  refine ⟨rfl, fun j x hx => ?_⟩
  have hj : j < 5 := by have := (List.getElem?_eq_some_iff.1 hx).1; simpa using this
  have c1 := row_cells hb _ _ ((h i hi j hj).trans hx)
  rw [Nat.zero_add] at c1
  simpa [Addr.add_lit] using c1

theorem ext_ev (w : World) (a : Addr) : ∀ (xs : List Ev) (k : Nat), (∀ i (h : i < xs.length) j x, (evV xs[i])[j]? = some x → w.cell? (a.add ((k + i) * 5 + j)) = some x) → extCells w a (k * 5) (xs.length * 5) = encEs xs
  | [], _, _ => rfl
  | e :: l, k, h => by
    have c := fun j x hx => h 0 (by simp) j x hx
    simp only [List.getElem_cons_zero, Nat.add_zero] at c
    have ih := ext_ev w a l (k + 1) (fun i hi j x hx => by
      have := h (i + 1) (by simpa using hi) j x (by simpa using hx)
      rwa [show k + 1 + i = k + (i + 1) by omega])
    rw [show (e :: l).length * 5 = l.length * 5 + 1 + 1 + 1 + 1 + 1 by simp; omega]
    have c0 := c 0 _ (evV_0 e); have c1 := c 1 _ (evV_1 e); have c2 := c 2 _ (evV_2 e); have c3 := c 3 _ (evV_3 e); have c4 := c 4 _ (evV_4 e)
    simp only [Nat.add_zero] at c0
    simp only [extCells, c0, c1, c2, c3, c4, show k * 5 + 1 + 1 = k * 5 + 2 from rfl, show k * 5 + 2 + 1 = k * 5 + 3 from rfl, show k * 5 + 3 + 1 = k * 5 + 4 from rfl, show k * 5 + 4 + 1 = (k + 1) * 5 by omega, ih]
    rfl

theorem SeesV.ext_all {w : World} {a : Addr} {xs : List Ev} (h : SeesV w (Option.some a) xs) : extCells w a 0 (xs.length * 5) = encEs xs := by
  have := ext_ev w a xs 0 (fun i hi j x hx => by rw [Nat.zero_add]; exact (h i hi).2 j x hx)
  simpa using this

theorem SeesV.some_all {w : World} {a : Addr} {xs : List Ev} (h : SeesV w (Option.some a) xs) : ∀ j, j < xs.length * 5 → (w.cell? (a.add j)).isSome := by
  intro j hj
  have h1 : j / 5 < xs.length := by omega
  have h2 := (h (j / 5) h1).2 (j % 5)
  have h3 : j % 5 < (evV xs[j / 5]).length := by simp; omega
  have := h2 _ (List.getElem?_eq_getElem h3)
  rw [show j / 5 * 5 + j % 5 = j by omega] at this
  rw [show (Option.some a).getD default = a from rfl] at this
  rw [this]; rfl
end Go.Proofs.Ytehimiadpgbhmaa

/-
  What the reference's Check does. Own work.
-/
import Derived.Test.YtocpkgckllbjlaaDoorR3
namespace Go.Proofs.YtocpkgckllbjlaaDoor
open Go.AM
set_option maxRecDepth 100000

/-- May a pair stand in a relation? -/
def okBit (r : Rl) (a b : Nat) : Prop := ¬ (r.has a b = true ∧ ((a : Int) ≥ r.n ∨ (b : Int) ≥ r.n))

theorem good_iff (r : Rl) (a : Nat) (h0 : 0 ≤ r.n) : good r a = true ↔ ∀ b, b < 64 → okBit r a b := by
  unfold good okBit Rl.has
  constructor
  · intro h b hb hbad
    simp only [Bool.not_eq_true', Bool.or_eq_false_iff, Bool.and_eq_false_iff, decide_eq_false_iff_not, bne_eq_false_iff_eq] at h
    obtain ⟨h1, h2⟩ := h
    rcases hbad.2 with h3 | h3
    · rcases h1 with h4 | h4
      · exact h4 h3
      · rw [h4] at hbad; simp at hbad
    · have := congrArg (fun x => BitVec.getLsbD x b) h2
      simp only [BitVec.getLsbD_and, BitVec.getLsbD_not, hbad.1, mask_get _ _ h0, BitVec.getLsbD_zero] at this
      simp at this
      omega
  · intro h
    simp only [Bool.not_eq_true', Bool.or_eq_false_iff, Bool.and_eq_false_iff, decide_eq_false_iff_not, bne_eq_false_iff_eq]
    constructor
    · by_cases c : (a : Int) ≥ r.n
      · right
        apply BitVec.eq_of_getLsbD_eq
        intro b hb
        have := h b hb
        rw [BitVec.getLsbD_zero]
        cases hh : (r.row a).getLsbD b
        · rfl
        · exact absurd ⟨hh, .inl c⟩ this
      · exact .inl c
    · apply BitVec.eq_of_getLsbD_eq
      intro b hb
      rw [BitVec.getLsbD_zero, BitVec.getLsbD_and, BitVec.getLsbD_not, mask_get _ _ h0]
      cases hh : (r.row a).getLsbD b
      · rfl
      · have := h b hb
        have h3 : (b : Int) < r.n := by
          rcases Int.lt_or_le (b : Int) r.n with h3 | h3
          · exact h3
          · exact absurd ⟨hh, .inr h3⟩ this
        simp [hb, h3]

theorem bit_has (r : Rl) (a b : Nat) : ((r.row a) >>> b &&& 1#64) = 1#64 ↔ r.has a b = true := bit_iff _ _

theorem checkR_ok (r : Rl) (w : World) : Gives Tryd.prog 74 [encRel r] w (.int .i64 (checkI r)) := by
  refine Gives.of_run Tryd.func74 rfl (by show 1 ≤ 41; decide) ?_
  by_cases h1 : r.n < 0
  · refine RunF_sound tab_ok noX_local 100 [true, true] _ _ rfl ?_ ?_
    · simp [h1]
    · refine Run.retP tab_ok Tryd.func74 rfl trivial (fun M => ?_)
      rw [checkI, if_pos (.inl h1)]; rfl
  by_cases h2 : r.n > 64
  · refine RunF_sound tab_ok noX_local 100 [false, true] _ _ rfl ?_ ?_
    · simp; omega
    · refine Run.retP tab_ok Tryd.func74 rfl trivial (fun M => ?_)
      rw [checkI, if_pos (.inr h2)]; rfl
  have h0 : 0 ≤ r.n := by omega
  have bad : ∀ a b, a < 64 → b < 64 → ¬ okBit r a b → checkI r = 20 := by
    intro a b ha hb h
    rw [checkI, if_neg (by omega), if_neg (fun h' => h ((good_iff r a h0).1 (h' a ha) b hb))]
  refine RunF_sound tab_ok noX_local 100 [false, false] _ _ rfl ?_ ?_
  · simp; omega
  suffices H : ∀ (d k : Nat), k + d = 64 → (∀ i, i < k → good r i = true) → ∀ σ, inT σ.t [(1, .ptr 0 0), (3, .v (.int .i64 (k : Int)))] → inT σ.h [(0, .cells 25 [.vals 65 (relV r)])] → Run _ _ σ by
    exact H 64 0 (by omega) (fun i hi => by omega) _ ⟨rfl, rfl, trivial⟩ ⟨rfl, trivial⟩
  intro d
  induction d with
  | zero =>
    intro k hk hg σ ht hh
    refine Run.to ?_ ht hh (n' := 1)
    refine RunF_sound tab_ok noX_local 100 [false] _ _ rfl ?_ ?_
    · simp; omega
    · refine Run.retP tab_ok Tryd.func74 rfl trivial (fun M => ?_)
      rw [checkI, if_neg (by omega), if_pos (fun i hi => hg i (by omega))]; rfl
  | succ d ih =>
    intro k hk hg σ ht hh
    refine Run.to ?_ ht hh (n' := 1)
    have hk' : k < 64 := by omega
    refine RunF_sound tab_ok noX_local 100 [true] _ _ rfl ?_ ?_
    · simp; omega
    suffices H : ∀ (e b : Nat), b + e = 64 → (∀ j, j < b → okBit r k j) → ∀ σ, inT σ.t [(1, .ptr 0 0), (3, .v (.int .i64 (k : Int))), (4, .v (.int .i64 (b : Int)))] → inT σ.h [(0, .cells 25 [.vals 65 (relV r)])] → Run _ _ σ by
      exact H 64 0 (by omega) (fun i hi => by omega) _ ⟨rfl, rfl, rfl, trivial⟩ ⟨rfl, trivial⟩
    intro e
    induction e with
    | zero =>
      intro b hb hg2 σ ht hh
      refine Run.to ?_ ht hh (n' := 1)
      refine RunF_sound tab_ok noX_local 100 [false] _ _ rfl ?_ ?_
      · simp; omega
      refine ih (k + 1) (by omega) ?_ _ ⟨rfl, i64_eq (wrap_succ (by omega)), trivial⟩ ⟨rfl, trivial⟩
      intro i hi
      rcases Nat.lt_or_ge i k with h | h
      · exact hg i h
      · obtain rfl : i = k := by omega
        exact (good_iff r i h0).2 fun j hj => hg2 j (by omega)
    | succ e ih2 =>
      intro b hb hg2 σ ht hh
      refine Run.to ?_ ht hh (n' := 1)
      have hb' : b < 64 := by omega
      have nxt : okBit r k b → ∀ j, j < b + 1 → okBit r k j := by
        intro h j hj
        rcases Nat.lt_or_ge j b with h' | h'
        · exact hg2 j h'
        · obtain rfl : j = b := by omega
          exact h
      by_cases c : r.has k b = true
      · have c' := (bit_has r k b).2 c
        by_cases c1 : (k : Int) ≥ r.n
        · refine RunF_sound tab_ok noX_local 100 [true, true, true] _ _ rfl ?_ ?_
          · simp [relV_get _ _ hk', intAt_row _ _ hk', band1_un, c']; omega
          · refine Run.retP tab_ok Tryd.func74 rfl trivial (fun M => ?_)
            rw [bad k b hk' hb' (fun h => h ⟨c, .inl c1⟩)]; rfl
        · by_cases c2 : (b : Int) ≥ r.n
          · refine RunF_sound tab_ok noX_local 100 [true, true, false, true] _ _ rfl ?_ ?_
            · simp [relV_get _ _ hk', intAt_row _ _ hk', band1_un, c']; omega
            · refine Run.retP tab_ok Tryd.func74 rfl trivial (fun M => ?_)
              rw [bad k b hk' hb' (fun h => h ⟨c, .inr c2⟩)]; rfl
          · refine RunF_sound tab_ok noX_local 200 [true, true, false, false] _ _ rfl ?_ ?_
            · simp [relV_get _ _ hk', intAt_row _ _ hk', band1_un, c']; omega
            · have hn := nxt (fun h => h.2.elim c1 c2)
              exact ih2 (b + 1) (by omega) hn _ ⟨rfl, rfl, i64_eq (wrap_succ (by omega)), trivial⟩ ⟨rfl, trivial⟩
      · have c' : ¬ ((r.row k) >>> b &&& 1#64) = 1#64 := fun h => c ((bit_has r k b).1 h)
        refine RunF_sound tab_ok noX_local 100 [true, false] _ _ rfl ?_ ?_
        · simp [relV_get _ _ hk', intAt_row _ _ hk', band1_un, c']; omega
        · exact ih2 (b + 1) (by omega) (nxt (fun h => c h.1)) _ ⟨rfl, rfl, i64_eq (wrap_succ (by omega)), trivial⟩ ⟨rfl, trivial⟩

theorem checkR_enters : Enters Tryd.prog 74 := enters_mk Tryd.func74 (by decide) rfl
end Go.Proofs.YtocpkgckllbjlaaDoor

/-
  The abstract machine, thirteenth part: owned blocks renumbered; what a loop gives up. Own work; over any program.
-/
import Derived.Test.YtehimiadpgbhmaaDoorAM12
namespace Go.AM

def ap : List (Nat × Nat) → Nat → Nat
  | [], i => i
  | (j, k) :: r, i => match Nat.beq i j with | true => k | false => ap r i

mutual
def ren (ρ : List (Nat × Nat)) : AV → AV
  | .v x => .v x
  | .tt b => .tt b
  | .ptr id off => .ptr (ap ρ id) off
  | .elt id off j => .elt (ap ρ id) off j
  | .sl id sz off len => .sl (ap ρ id) sz off len
  | .fn f caps => .fn f (renL ρ caps)
  | .agg l => .agg (renL ρ l)
  | .tup l => .tup (renL ρ l)
def renL (ρ : List (Nat × Nat)) : List AV → List AV
  | [] => []
  | x :: r => ren ρ x :: renL ρ r
end

mutual
theorem conc_ren (ρ : List (Nat × Nat)) (M : Loc) : ∀ x : AV, conc M (ren ρ x) = conc (fun i => M (ap ρ i)) x
  | .v _ => by simp [ren, conc]
  | .tt _ => by simp [ren, conc]
  | .ptr id off => by simp [ren, conc]
  | .elt id off j => by simp [ren, conc]
  | .sl id sz off len => by simp [ren, conc]
  | .fn f caps => by simp [ren, conc, concL_ren ρ M caps]
  | .agg l => by simp [ren, conc, concL_ren ρ M l]
  | .tup l => by simp [ren, conc, concL_ren ρ M l]
theorem concL_ren (ρ : List (Nat × Nat)) (M : Loc) : ∀ l : List AV, concL M (renL ρ l) = concL (fun i => M (ap ρ i)) l
  | [] => by simp [renL, concL]
  | x :: r => by simp [renL, concL, conc_ren ρ M x, concL_ren ρ M r]
end

def renSegs (ρ : List (Nat × Nat)) : List Seg → List Seg
  | [] => []
  | .one x :: r => .one (ren ρ x) :: renSegs ρ r
  | .vals n vs :: r => .vals n vs :: renSegs ρ r

theorem concSegs_ren (ρ : List (Nat × Nat)) (M : Loc) : ∀ l : List Seg, concSegs M (renSegs ρ l) = concSegs (fun i => M (ap ρ i)) l
  | [] => rfl
  | .one x :: r => by simp [renSegs, concSegs, conc_ren, concSegs_ren ρ M r]
  | .vals n vs :: r => by simp [renSegs, concSegs, concSegs_ren ρ M r]

theorem segsOK_ren (ρ : List (Nat × Nat)) : ∀ l : List Seg, segsOK (renSegs ρ l) → segsOK l
  | [], _ => trivial
  | .one _ :: r, h => segsOK_ren ρ r h
  | .vals _ _ :: r, h => ⟨h.1, segsOK_ren ρ r h.2⟩

def renB (ρ : List (Nat × Nat)) : Blk → Blk
  | .cells e segs => .cells e (renSegs ρ segs)
  | .row e sz n vs => .row e sz n vs

theorem BlkAt.ren {ρ : List (Nat × Nat)} {M : Loc} {w : World} {id : Nat} {B : Blk} (h : BlkAt M w (ap ρ id) (renB ρ B)) : BlkAt (fun i => M (ap ρ i)) w id B := by
  cases B with
  | cells e segs => exact ⟨by rw [← concSegs_ren]; exact h.1, segsOK_ren ρ _ h.2⟩
  | row e sz n vs => exact h

/-- The check at a loop's head, with the blocks' numbers turned. -/
def inTR (ρ : List (Nat × Nat)) (l : List (Nat × AV)) : List (Nat × AV) → Prop
  | [] => True
  | (i, x) :: r => lk l i = some (ren ρ x) ∧ inTR ρ l r
def inHR (ρ : List (Nat × Nat)) (l : List (Nat × Blk)) : List (Nat × Blk) → Prop
  | [] => True
  | (i, B) :: r => lk l (ap ρ i) = some (renB ρ B) ∧ inHR ρ l r

theorem inTR_lk {ρ : List (Nat × Nat)} {l : List (Nat × AV)} : ∀ {l' : List (Nat × AV)}, inTR ρ l l' → ∀ i x, lk l' i = some x → lk l i = some (ren ρ x)
  | [], _, i, x, h => by cases h
  | (j, y) :: r, hin, i, x, h => by
    simp only [lk] at h
    split at h
    · rename_i he
      have := Nat.eq_of_beq_eq_true he
      subst this; cases h; exact hin.1
    · exact inTR_lk hin.2 i x h

theorem inHR_lk {ρ : List (Nat × Nat)} {l : List (Nat × Blk)} : ∀ {l' : List (Nat × Blk)}, inHR ρ l l' → ∀ i B, lk l' i = some B → lk l (ap ρ i) = some (renB ρ B)
  | [], _, i, x, h => by cases h
  | (j, y) :: r, hin, i, x, h => by
    simp only [lk] at h
    split at h
    · rename_i he
      have := Nat.eq_of_beq_eq_true he
      subst this; cases h; exact hin.1
    · exact inHR_lk hin.2 i x h

def keys : List (Nat × Blk) → List Nat
  | [] => []
  | (i, _) :: r => i :: keys r

theorem lk_keys {i : Nat} {B : Blk} : ∀ {l : List (Nat × Blk)}, lk l i = some B → i ∈ keys l
  | [], h => by cases h
  | (j, y) :: r, h => by
    simp only [lk] at h
    simp only [keys, List.mem_cons]
    split at h
    · rename_i he; exact .inl (Nat.eq_of_beq_eq_true he)
    · exact .inr (lk_keys h)

/-- No two of some numbers come to one. -/
def apart (ρ : List (Nat × Nat)) (l : List Nat) : Bool := l.all fun i => l.all fun j => Nat.beq i j || !Nat.beq (ap ρ i) (ap ρ j)

theorem apart_spec {ρ : List (Nat × Nat)} {l : List Nat} (h : apart ρ l = true) {i j : Nat} (hi : i ∈ l) (hj : j ∈ l) (e : ap ρ i = ap ρ j) : i = j := by
  have := List.all_eq_true.1 (List.all_eq_true.1 h i hi) j hj
  simp only [Bool.or_eq_true, Bool.not_eq_true'] at this
  rcases this with h1 | h1
  · exact Nat.eq_of_beq_eq_true h1
  · rw [e] at h1; simp at h1

theorem Run.toR {C : Ctx} {todo : List Item} {σ : St} (ρ : List (Nat × Nat)) {t' : List (Nat × AV)} {h' : List (Nat × Blk)} {n' : Nat} (h : Run C todo ⟨t', h', n'⟩) (ht : inTR ρ σ.t t') (hh : inHR ρ σ.h h') (ha : apart ρ (keys h') = true) :
    Run C todo σ := by
  intro M fp a w hR cs
  refine h (fun i => M (ap ρ i)) fp a w ?_ cs
  refine { heap := ?_, inj := ?_, own := ?_, apart := ?_, agree := hR.agree, outer := hR.outer, fpok := hR.fpok, size := hR.size, frozen := hR.frozen, tmps := ?_, defers := hR.defers }
  · intro id B hB; exact (hR.heap _ _ (inHR_lk hh _ _ hB)).ren
  · intro id id' B B' hB hB' e
    exact apart_spec ha (lk_keys hB) (lk_keys hB') (hR.inj _ _ _ _ (inHR_lk hh _ _ hB) (inHR_lk hh _ _ hB') e)
  · intro id B hB; exact hR.own _ _ (inHR_lk hh _ _ hB)
  · intro id B hB; exact hR.apart _ _ (inHR_lk hh _ _ hB)
  · intro i x hx; rw [hR.tmps i _ (inTR_lk ht i x hx), conc_ren]

end Go.AM

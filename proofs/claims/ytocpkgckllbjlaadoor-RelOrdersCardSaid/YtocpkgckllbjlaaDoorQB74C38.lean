/-
  Own work, merged: L4, L5, AM25, L6, AM29, AM30, AM31, AM33, AM34, AM37, AM38, X3, L7, M1, M2.
-/
import Derived.AtR
import Derived.Below
import Derived.ChangeKeysEq
import Derived.KernelRfl
import Derived.LaidMore
import Derived.Laws.AppendOwn
import Derived.Laws.BytesString
import Derived.Laws.Cells
import Derived.Laws.CopyRow
import Derived.Laws.Entries
import Derived.Laws.Rows
import Derived.Laws.Small
import Derived.Laws.StructEq
import Derived.Lib.LaidTab
import Derived.Lib.TrailingZeros
import Derived.Maps.AppendAt
import Derived.OpenShut
import Derived.Orders
import Derived.ProofKit
import Derived.RangeFuncRecord
import Derived.SevenTiedAt
import Derived.Stop.Joined
import Derived.Test.YtocpkgckllbjlaaDoorCards
import Derived.Test.YtocpkgckllbjlaaDoorProg
import Derived.Test.YtocpkgckllbjlaaDoorRows
import Derived.Test.YtocpkgckllbjlaaDoorTie
import Derived.Test.YtocpkgckllbjlaaDoorQFD0869
/-
  RelLaws answers true. Own work.
-/
namespace Go.Proofs.YtocpkgckllbjlaaDoor
open Go.AM
set_option maxRecDepth 100000

def invR (R : Rl) : Rl := Rl.gen R.n fun x y => R.has y x
def notR (R : Rl) : Rl := Rl.gen R.n (pNot R)

theorem invR_n (R : Rl) : (invR R).n = R.n := Rl.n_gen _ _
theorem invR_has (R : Rl) (a b : Nat) : (invR R).has a b = true ↔ R.has b a = true := by
  unfold invR
  rw [Rl.has_gen]
  constructor
  · intro h; simp at h; exact h.2
  · intro h; have := Rl.has_lt R h; simp [h, this]
theorem invR_rt {R : Rl} (hR : Rt R) : Rt (invR R) := ⟨by rw [invR_n]; exact hR.lo, by rw [invR_n]; exact hR.hi, fun a b h => by
  rw [invR_n]
  have := hR.lt _ _ ((invR_has R a b).1 h)
  exact ⟨this.2, this.1⟩⟩
theorem notR_n (R : Rl) : (notR R).n = R.n := Rl.n_gen _ _
theorem notR_has {R : Rl} (hR : Rt R) (a b : Nat) : (notR R).has a b = true ↔ ((a : Int) < R.n ∧ (b : Int) < R.n) ∧ ¬ R.has a b = true := by
  unfold notR
  rw [Rl.has_gen]
  unfold pNot
  have := hR.hi
  constructor
  · intro h; simp at h; simp [h]
  · rintro ⟨⟨h1, h2⟩, h3⟩; simp [h3]; omega
theorem notR_rt {R : Rl} (hR : Rt R) : Rt (notR R) := ⟨by rw [notR_n]; exact hR.lo, by rw [notR_n]; exact hR.hi, fun a b h => by
  rw [notR_n]; exact ((notR_has hR a b).1 h).1⟩

theorem inverseT {r : Rl} (hr : Rt r) (w : World) (hT : TabAt w) (h0 : 0 < w.heap.size) : Gives Tryd.prog 26 [encRel r] w (encRel (invR r)) := by
  have := inverse_ok r w hT h0
  rwa [inverse_eq, hr.right] at this
theorem notT {r : Rl} (hr : Rt r) (w : World) : Gives Tryd.prog 28 [encRel r] w (encRel (notR r)) := by
  have := not_ok r w
  rwa [not_eq, hr.right] at this
theorem void_rt {n : Int} (h0 : 0 ≤ n) (h1 : n ≤ 64) : Rt (Rl.void n) := ⟨h0, h1, fun a b h => by rw [void_has] at h; cases h⟩

theorem countP_or_and {α : Type} (p q : α → Bool) : ∀ l : List α, l.countP (fun x => p x || q x) + l.countP (fun x => p x && q x) = l.countP p + l.countP q
  | [] => rfl
  | x :: l => by
    have := countP_or_and p q l
    simp only [List.countP_cons]
    cases p x <;> cases q x <;> simp <;> omega

theorem bits_count (R : Rl) (i : Nat) : (bitsL (R.row i)).length = (List.range 64).countP fun j => R.has i j := by
  unfold bitsL
  rw [List.countP_eq_length_filter]
  rfl

theorem sum_or_and {R S : Rl} (hR : Rt R) (hS : Rt S) (hn : R.n = S.n) : ∀ d i, sumL (twoR 0 R S) i d + sumL (twoR 1 R S) i d = sumL R i d + sumL S i d
  | 0, _ => rfl
  | d + 1, i => by
    have := sum_or_and hR hS hn d (i + 1)
    simp only [sumL, bits_count]
    have e0 : (fun j => (twoR 0 R S).has i j) = fun j => R.has i j || S.has i j := by funext j; rw [twoR_has 0 hR hS hn]; rfl
    have e1 : (fun j => (twoR 1 R S).has i j) = fun j => R.has i j && S.has i j := by funext j; rw [twoR_has 1 hR hS hn]; rfl
    rw [e0, e1]
    have := countP_or_and (fun j => R.has i j) (fun j => S.has i j) (List.range 64)
    omega

theorem countT {r : Rl} (hr : Rt r) (w : World) : Gives Tryd.prog 15 [encRel r] w (.int .i64 (sumL r 0 64 : Int)) := by
  have := count_ok r w
  rwa [hr.right] at this

theorem relLaws_ok (r s t : Rl) (w : World) (hT : TabAt w) (h0 : 0 < w.heap.size) : Gives Tryd.prog 11 [encRel r, encRel s, encRel t] w (.bool true) := by
  have hTA : ∀ w', Agree (fun _ => False) w w' → TabAt w' ∧ 0 < w'.heap.size := fun w' hA => ⟨hT.agree hA (fun f => f), Nat.lt_of_lt_of_le h0 hA.size⟩
  have hwk : ∀ w', Agree (fun _ => False) w w' → Gives Tryd.prog 62 [] w' (.bool true) := fun w' hA => works_ok w' (hTA w' hA).1 (hTA w' hA).2
  by_cases cr : checkI r = 0
  · by_cases cs : checkI s = 0
    · by_cases ct : checkI t = 0
      · by_cases hn : r.n = s.n
        · by_cases hn2 : s.n = t.n
          · have hr := rt_check cr
            have hs := rt_check cs
            have ht := rt_check ct
            have hrt : r.n = t.n := hn.trans hn2
            have U : ∀ (a b : Rl) w', Agree (fun _ => False) w w' → Gives Tryd.prog 21 [encRel a, encRel b] w' (encRel (twoR 0 a b)) := fun a b w' _ => unionT a b w'
            have M : ∀ (a b : Rl) w', Agree (fun _ => False) w w' → Gives Tryd.prog 23 [encRel a, encRel b] w' (encRel (twoR 1 a b)) := fun a b w' _ => meetT a b w'
            have D : ∀ (a b : Rl) w', Agree (fun _ => False) w w' → Gives Tryd.prog 24 [encRel a, encRel b] w' (encRel (twoR 2 a b)) := fun a b w' _ => minusT a b w'
            have K : ∀ (a b : Rl) w', Agree (fun _ => False) w w' → Gives Tryd.prog 25 [encRel a, encRel b] w' (encRel (twoR 3 a b)) := fun a b w' hA => composeT a b w' (hTA w' hA).1 (hTA w' hA).2
            have N : ∀ (a : Rl), Rt a → ∀ w', Agree (fun _ => False) w w' → Gives Tryd.prog 28 [encRel a] w' (encRel (notR a)) := fun a ha w' _ => notT ha w'
            have I : ∀ (a : Rl), Rt a → ∀ w', Agree (fun _ => False) w w' → Gives Tryd.prog 26 [encRel a] w' (encRel (invR a)) := fun a ha w' hA => inverseT ha w' (hTA w' hA).1 (hTA w' hA).2
            have C : ∀ (a : Rl), Rt a → ∀ w', Agree (fun _ => False) w w' → Gives Tryd.prog 15 [encRel a] w' (.int .i64 (sumL a 0 64 : Int)) := fun a ha w' _ => countT ha w'
            have hu := twoR_rt 0 hr hs hn
            have hun := twoR_n 0 hr hs hn
            have hm := twoR_rt 1 hr hs hn
            have hmn := twoR_n 1 hr hs hn
            have hc := twoR_rt 3 hr hs hn
            have hcn := twoR_n 3 hr hs hn
            have hst := twoR_rt 0 hs ht hn2
            have hstn := twoR_n 0 hs ht hn2
            have hcst := twoR_rt 3 hs ht hn2
            have hcstn := twoR_n 3 hs ht hn2
            have hmrt := twoR_rt 1 hr ht hrt
            have hmrtn := twoR_n 1 hr ht hrt
            have hcrt := twoR_rt 3 hr ht hrt
            have hcrtn := twoR_n 3 hr ht hrt
            have hnr := notR_rt hr
            have hns := notR_rt hs
            have hnu := notR_rt hu
            have hir := invR_rt hr
            have his := invR_rt hs
            have hone := onL_rt hr.lo hr.hi (s := 18446744073709551615#64)
            have honen := onL_n hr.lo hr.hi (s := 18446744073709551615#64)
            have hv := void_rt hr.lo hr.hi
            have ones : ∀ a, a < 64 → (18446744073709551615#64).getLsbD a = true := fun a ha => by
              have : 18446744073709551615#64 = BitVec.allOnes 64 := rfl
              rw [this, BitVec.getLsbD_allOnes, decide_eq_true ha]
            have e61 : twoR 0 r s = twoR 0 s r := rl_ext (by rw [hun, twoR_n 0 hs hr hn.symm, hn]) fun a b => by rw [union_has hr hs hn, union_has hs hr hn.symm]; exact or_comm
            have e67 : twoR 1 r s = twoR 1 s r := rl_ext (by rw [hmn, twoR_n 1 hs hr hn.symm, hn]) fun a b => by rw [meet_has hr hs hn, meet_has hs hr hn.symm]; exact and_comm
            have e77 : notR (twoR 0 r s) = twoR 1 (notR r) (notR s) := rl_ext (by rw [notR_n, hun, twoR_n 1 hnr hns (by rw [notR_n, notR_n, hn]), notR_n]) fun a b => by
              rw [notR_has hu, hun, union_has hr hs hn, meet_has hnr hns (by rw [notR_n, notR_n, hn]), notR_has hr, notR_has hs, hn]
              grind
            have e84 : notR (notR r) = r := rl_ext (by rw [notR_n, notR_n]) fun a b => by
              rw [notR_has hnr, notR_n, notR_has hr]
              have := hr.lt a b
              grind
            have e94 : twoR 2 r s = twoR 1 r (notR s) := rl_ext (by rw [twoR_n 2 hr hs hn, twoR_n 1 hr hns (by rw [notR_n, hn])]) fun a b => by
              rw [minus_has hr hs hn, meet_has hr hns (by rw [notR_n, hn]), notR_has hs, ← hn]
              have := hr.lt a b
              grind
            have e102 : twoR 1 r (notR r) = Rl.void r.n := rl_ext (by rw [twoR_n 1 hr hnr (notR_n r).symm]; rfl) fun a b => by
              rw [meet_has hr hnr (notR_n r).symm, notR_has hr, void_has]
              grind
            have e112 : twoR 0 (twoR 0 r s) t = twoR 0 r (twoR 0 s t) := rl_ext (by rw [twoR_n 0 hu ht (hun.trans hrt), hun, twoR_n 0 hr hst (hn.trans hstn.symm)]) fun a b => by
              rw [union_has hu ht (hun.trans hrt), union_has hr hs hn, union_has hr hst (hn.trans hstn.symm), union_has hs ht hn2]
              grind
            have e124 : twoR 1 r (twoR 0 s t) = twoR 0 (twoR 1 r s) (twoR 1 r t) := rl_ext (by rw [twoR_n 1 hr hst (hn.trans hstn.symm), twoR_n 0 hm hmrt (hmn.trans hmrtn.symm), hmn]) fun a b => by
              rw [meet_has hr hst (hn.trans hstn.symm), union_has hs ht hn2, union_has hm hmrt (hmn.trans hmrtn.symm), meet_has hr hs hn, meet_has hr ht hrt]
              grind
            have k137 : (sumL (twoR 0 r s) 0 64 : Int) + (sumL (twoR 1 r s) 0 64 : Int) = (sumL r 0 64 : Int) + (sumL s 0 64 : Int) := by
              have := sum_or_and hr hs hn 64 0
              omega
            have e150 : twoR 3 (twoR 3 r s) t = twoR 3 r (twoR 3 s t) := rl_ext (by rw [twoR_n 3 hc ht (hcn.trans hrt), hcn, twoR_n 3 hr hcst (hn.trans hcstn.symm)]) fun a b => by
              rw [comp_has hc ht (hcn.trans hrt), comp_has hr hcst (hn.trans hcstn.symm)]
              constructor
              · rintro ⟨y, h1, h2⟩
                obtain ⟨x, h3, h4⟩ := (comp_has hr hs hn _ _).1 h1
                exact ⟨x, h3, (comp_has hs ht hn2 _ _).2 ⟨y, h4, h2⟩⟩
              · rintro ⟨x, h1, h2⟩
                obtain ⟨y, h3, h4⟩ := (comp_has hs ht hn2 _ _).1 h2
                exact ⟨y, (comp_has hr hs hn _ _).2 ⟨x, h1, h3⟩, h4⟩
            have e162 : twoR 3 r (twoR 0 s t) = twoR 0 (twoR 3 r s) (twoR 3 r t) := rl_ext (by rw [twoR_n 3 hr hst (hn.trans hstn.symm), twoR_n 0 hc hcrt (hcn.trans hcrtn.symm), hcn]) fun a b => by
              rw [comp_has hr hst (hn.trans hstn.symm), union_has hc hcrt (hcn.trans hcrtn.symm), comp_has hr hs hn, comp_has hr ht hrt]
              constructor
              · rintro ⟨y, h1, h2⟩
                rcases (union_has hs ht hn2 _ _).1 h2 with h | h
                · exact .inl ⟨y, h1, h⟩
                · exact .inr ⟨y, h1, h⟩
              · rintro (⟨y, h1, h2⟩ | ⟨y, h1, h2⟩)
                · exact ⟨y, h1, (union_has hs ht hn2 _ _).2 (.inl h2)⟩
                · exact ⟨y, h1, (union_has hs ht hn2 _ _).2 (.inr h2)⟩
            have e169 : twoR 3 r (onL r.n 18446744073709551615#64) = r := rl_ext (twoR_n 3 hr hone honen.symm) fun a b => by
              rw [comp_has hr hone honen.symm]
              constructor
              · rintro ⟨y, h1, h2⟩
                obtain ⟨rfl, _⟩ := (onL_all_has hr.lo hr.hi _ _).1 h2
                exact h1
              · intro h
                have := hr.lt a b h
                have h64 := hr.hi
                exact ⟨b, h, (onL_all_has hr.lo hr.hi _ _).2 ⟨rfl, this.2, ones b (by omega)⟩⟩
            have e176 : twoR 3 (onL r.n 18446744073709551615#64) r = r := rl_ext (by rw [twoR_n 3 hone hr honen, honen]) fun a b => by
              rw [comp_has hone hr honen]
              constructor
              · rintro ⟨y, h1, h2⟩
                obtain ⟨rfl, _⟩ := (onL_all_has hr.lo hr.hi _ _).1 h1
                exact h2
              · intro h
                have := hr.lt a b h
                have h64 := hr.hi
                exact ⟨a, (onL_all_has hr.lo hr.hi _ _).2 ⟨rfl, this.1, ones a (by omega)⟩, h⟩
            have e183 : twoR 3 r (Rl.void r.n) = Rl.void r.n := rl_ext (twoR_n 3 hr hv rfl) fun a b => by
              rw [comp_has hr hv rfl, void_has]
              constructor
              · rintro ⟨y, _, h⟩; rw [void_has] at h; cases h
              · intro h; cases h
            have hin : (invR s).n = (invR r).n := by rw [invR_n, invR_n, hn]
            have e192 : invR (twoR 3 r s) = twoR 3 (invR s) (invR r) := rl_ext (by rw [invR_n, hcn, twoR_n 3 his hir hin, invR_n, hn]) fun a b => by
              rw [invR_has, comp_has hr hs hn, comp_has his hir hin]
              constructor
              · rintro ⟨y, h1, h2⟩; exact ⟨y, (invR_has s a y).2 h2, (invR_has r y b).2 h1⟩
              · rintro ⟨y, h1, h2⟩; exact ⟨y, (invR_has r y b).1 h2, (invR_has s a y).1 h1⟩
            have e198 : invR (invR r) = r := rl_ext (by rw [invR_n, invR_n]) fun a b => by rw [invR_has, invR_has]
            have k206 : domL (rightL (invR r)) = ranL r := by unfold ranL invR; rw [hr.right]
            exact laws_6 r s t _ _ _ _ _ _ _ _ _ _ _ _ _ _ _ _ _ _ _ _ _ _ _ _ _ _ _ _ _ _ _ _ _ _ _ _ _ _ _ _ _ _ _ _ _ _ _ _ w cr cs ct hn hn2 k137 k206 hwk (fun w' _ => all_ok w') (fun w' _ => on_ok _ _ w') (U r s) (M r s) (U s r) e61 (M s r) e67 (N _ hu) (N r hr) (N s hs) (M _ _) e77
              (N r hr) (N _ hnr) e84 (D r s) (N s hs) (M _ _) e94 (N r hr) (M _ _) e102 (U _ _) (U _ _) (U _ _) e112 (U _ _) (M _ _) (M _ _) (U _ _) e124 (C _ hu) (C _ hm) (C _ hr) (C _ hs)
              (K r s) (K _ _) (K _ _) (K _ _) e150 (U _ _) (K _ _) (K _ _) (U _ _) e162 (K _ _) e169 (K _ _) e176 (K _ _) e183 (I _ hc) (I _ hs) (I _ hr) (K _ _) e192 (I _ hr) (I _ hir) e198 (I _ hr)
              (fun w' _ => domain_ok _ w') (fun w' hA => range_ok r w' (hTA w' hA).1 (hTA w' hA).2)
          · exact laws_5 r s t w cr cs ct hn hn2 hwk
        · exact laws_4 r s t w cr cs ct hn hwk
      · exact laws_3 r s t w cr cs ct hwk
    · exact laws_2 r s t w cr cs hwk
  · exact laws_1 r s t w cr hwk
end Go.Proofs.YtocpkgckllbjlaaDoor

/-
  The reduction: plain; Reduce walked. Own work.
-/
namespace Go.Proofs.YtocpkgckllbjlaaDoor
open Go.AM
set_option maxRecDepth 100000

/-- What is between two numbers. -/
noncomputable def mid (P : Rl) (a b : Nat) : Nat := (List.range 64).countP fun c => P.has a c && P.has c b

theorem mid_lt {P : Rl} {a b a' b' c : Nat} (hs : ∀ z, P.has a' z = true → P.has z b' = true → P.has a z = true ∧ P.has z b = true) (h1 : P.has a c = true) (h2 : P.has c b = true) (hn : ¬ (P.has a' c = true ∧ P.has c b' = true)) : mid P a' b' < mid P a b := by
  unfold mid
  refine countP_lt (fun x _ hx => ?_) ⟨c, ?_, ?_, ?_⟩
  · simp only [Bool.and_eq_true] at hx ⊢
    exact hs x hx.1 hx.2
  · exact List.mem_range.2 (Rl.has_lt _ h2).1
  · simp [h1, h2]
  · cases h : (P.has a' c && P.has c b') with
    | false => rfl
    | true => simp only [Bool.and_eq_true] at h; exact absurd h hn

/-- What is left of an acyclic relation. -/
noncomputable def redR (R : Rl) : Rl := twoR 2 R (twoR 3 R (clos R))

theorem redR_n {R : Rl} (hR : Rt R) : (redR R).n = R.n := by
  unfold redR
  rw [twoR_n 2 hR (twoR_rt 3 hR (clos_rt hR) (clos_n R).symm) (twoR_n 3 hR (clos_rt hR) (clos_n R).symm).symm]
theorem redR_has {R : Rl} (hR : Rt R) (a b : Nat) : (redR R).has a b = true ↔ R.has a b = true ∧ ¬ ∃ c, R.has a c = true ∧ (clos R).has c b = true := by
  unfold redR
  rw [minus_has hR (twoR_rt 3 hR (clos_rt hR) (clos_n R).symm) (twoR_n 3 hR (clos_rt hR) (clos_n R).symm).symm, comp_has hR (clos_rt hR) (clos_n R).symm]
theorem redR_rt {R : Rl} (hR : Rt R) : Rt (redR R) := ⟨by rw [redR_n hR]; exact hR.lo, by rw [redR_n hR]; exact hR.hi, fun a b h => by
  rw [redR_n hR]; exact hR.lt _ _ ((redR_has hR a b).1 h).1⟩

theorem clos_first {R : Rl} (hR : Rt R) {a b : Nat} (h : (clos R).has a b = true) : R.has a b = true ∨ ∃ c, R.has a c = true ∧ (clos R).has c b = true := by
  have h' := (clos_has hR a b).1 h
  clear h
  induction h' with
  | single h => exact .inl h
  | @tail c d h1 h2 ih =>
    rcases ih with h | ⟨z, h3, h4⟩
    · exact .inr ⟨c, h, clos_sub hR _ _ h2⟩
    · exact .inr ⟨z, h3, clos_trans hR _ _ _ h4 (clos_sub hR _ _ h2)⟩

theorem red_clos {R : Rl} (hR : Rt R) (hac : irB (clos R) = true) : clos (redR R) = clos R := by
  have hx := redR_rt hR
  have hirr : ∀ i, ¬ (clos R).has i i = true := by
    intro i h
    have := irB_false h
    rw [this] at hac; cases hac
  have ht := clos_trans hR
  have key : ∀ m a b, mid (clos R) a b = m → (clos R).has a b = true → (clos (redR R)).has a b = true := by
    intro m
    induction m using Nat.strongRecOn with
    | _ m ih =>
      intro a b hm hab
      by_cases hc : ∃ c, (clos R).has a c = true ∧ (clos R).has c b = true
      · obtain ⟨c, h1, h2⟩ := hc
        have l1 : mid (clos R) a c < m := by
          rw [← hm]
          exact mid_lt (c := c) (fun z hz1 hz2 => ⟨hz1, ht _ _ _ hz2 h2⟩) h1 h2 (fun h => hirr c h.2)
        have l2 : mid (clos R) c b < m := by
          rw [← hm]
          exact mid_lt (c := c) (fun z hz1 hz2 => ⟨ht _ _ _ h1 hz1, hz2⟩) h1 h2 (fun h => hirr c h.1)
        exact clos_trans hx _ _ _ (ih _ l1 a c rfl h1) (ih _ l2 c b rfl h2)
      · have hr : R.has a b = true := by
          rcases clos_first hR hab with h | ⟨c, h1, h2⟩
          · exact h
          · exact absurd ⟨c, clos_sub hR _ _ h1, h2⟩ hc
        exact clos_sub hx _ _ ((redR_has hR a b).2 ⟨hr, fun ⟨c, h1, h2⟩ => hc ⟨c, clos_sub hR _ _ h1, h2⟩⟩)
  refine rl_ext (by rw [clos_n, clos_n, redR_n hR]) fun a b => ⟨fun h => ?_, fun h => key _ a b rfl h⟩
  exact clos_least hx (fun a b h => clos_sub hR a b ((redR_has hR a b).1 h).1) ht a b h

/-- Without one of its pairs what is left leads to less. -/
theorem red_less {R S : Rl} (hR : Rt R) (hS : Rt S) {a b : Nat} (hab : (redR R).has a b = true) (hs : ∀ x y, S.has x y = true → (redR R).has x y = true ∧ ¬ (x = a ∧ y = b)) : clos S ≠ clos R := by
  intro e
  have h1 : (clos S).has a b = true := by rw [e]; exact clos_sub hR _ _ ((redR_has hR a b).1 hab).1
  rcases clos_first hS h1 with h | ⟨c, h2, h3⟩
  · exact (hs a b h).2 ⟨rfl, rfl⟩
  · rw [e] at h3
    exact ((redR_has hR a b).1 hab).2 ⟨c, ((redR_has hR a c).1 (hs a c h2).1).1, h3⟩

open Classical in
/-- What Reduce hands back. -/
noncomputable def redL (r : Rl) : Rl := if irB (clos (rightL r)) = true then twoR 2 r (twoR 3 r (clos (rightL r))) else Rl.void 0

theorem reduce_ok (r : Rl) (w : World) (hT : TabAt w) (h0 : 0 < w.heap.size) : Gives Tryd.prog 51 [encRel r] w (.tuple #[encRel (redL r), .bool (irB (clos (rightL r)))]) := by
  refine Gives.of_run Tryd.func51 rfl (by show 1 ≤ 14; decide) ?_
  refine RunF_sound tab_ok noX_local 100 [] _ _ rfl ?_ ?_
  · simp
  refine Run.callFn noX_local rfl rfl rfl rfl rfl rfl rfl acyclic_enters rfl (fun w' _ => acyclic_ok r w') ?_
  have hred : redL r = if irB (clos (rightL r)) = true then twoR 2 r (twoR 3 r (clos (rightL r))) else Rl.void 0 := rfl
  obtain ⟨Pl, g1⟩ : ∃ P : Rl, P = clos (rightL r) := ⟨_, rfl⟩
  obtain ⟨Q, g2⟩ : ∃ Q : Rl, Q = twoR 3 r Pl := ⟨_, rfl⟩
  obtain ⟨D, g3⟩ : ∃ D : Rl, D = twoR 2 r Q := ⟨_, rfl⟩
  have k1 : ∀ w', Gives Tryd.prog 34 [encRel r] w' (encRel Pl) := fun w' => by rw [g1]; exact plus_ok r w'
  have k2 : ∀ w', Agree (fun _ => False) w w' → Gives Tryd.prog 25 [encRel r, encRel Pl] w' (encRel Q) := fun w' hA => by rw [g2]; exact composeT r Pl w' (hT.agree hA (fun f => f)) (Nat.lt_of_lt_of_le h0 hA.size)
  have k3 : ∀ w', Gives Tryd.prog 24 [encRel r, encRel Q] w' (encRel D) := fun w' => by rw [g3]; exact minusT r Q w'
  rw [← g1, ← g2, ← g3] at hred
  rw [← g1]
  by_cases c : irB Pl = true
  · rw [if_pos c] at hred
    rw [c, hred]
    refine RunF_sound tab_ok noX_local 100 [false] _ _ rfl ?_ ?_
    · simp
    refine Run.drawA noX_local rfl [] [(0, .cells 25 [.vals 65 (relV r)])] rfl rfl ⟨rfl, trivial⟩ ?_
    refine RunOF_sound tab_ok noX_local rfl rfl 200 [] _ _ rfl ?_ ?_
    · simp
    refine RunO.callFn (r := encRel Pl) noX_local rfl rfl rfl rfl rfl rfl rfl rfl plus_enters rfl (fun w' hA => k1 w') ?_
    refine RunOF_sound tab_ok noX_local rfl rfl 200 [] _ _ rfl ?_ ?_
    · simp
    refine RunO.callFn (r := encRel Q) noX_local rfl rfl rfl rfl rfl rfl rfl rfl compose_enters rfl (fun w' hA => k2 w' hA) ?_
    refine RunOF_sound tab_ok noX_local rfl rfl 200 [] _ _ rfl ?_ ?_
    · simp
    refine RunO.callFn (r := encRel D) noX_local rfl rfl rfl rfl rfl rfl rfl rfl minus_enters rfl (fun w' hA => k3 w') ?_
    refine RunOF_sound tab_ok noX_local rfl rfl 200 [] _ _ rfl ?_ ?_
    · simp [segsVals, relV_one', inT, lk]
    refine RunO.done ?_
    refine RunF_sound tab_ok noX_local 100 [] _ _ rfl ?_ ?_
    · simp
    refine Run.retL tab_ok Tryd.func51 rfl ?_ (fun M => ?_)
    · simp
    rfl
  · rw [if_neg c] at hred
    rw [Bool.eq_false_iff.2 c, hred]
    refine RunF_sound tab_ok noX_local 100 [true] _ _ rfl ?_ ?_
    · simp [segsVals, relV_one', fillL, Value.cells]
    refine Run.retL tab_ok Tryd.func51 rfl ?_ (fun M => ?_)
    · simp [fillL, Value.cells]
    rfl
theorem reduce_enters : Enters Tryd.prog 51 := enters_mk Tryd.func51 (by decide) rfl
end Go.Proofs.YtocpkgckllbjlaaDoor

/-
  The abstract machine, twenty-fifth part: structs built in drawn regions, taken first. Own work; over any program.
-/
namespace Go.AM

theorem RunO.build {C : Ctx} {held : List (Nat × Blk)} {n0 : Nat} {ops : Array Oper} {i : Nat} {ord : List (Nat × Bool)} {k : List Item} {σ : St} {o : Oper} {T : Tab} {t : TypeId} {parts : Array (Nat × Operand)} {l : List (Nat × Value)} {p : Prop} {z : AV}
    (hT : tabOK C.P T) (hsel : noSel ops = true) (ho : ops[i]? = some o) (hop : o.op = .build t parts) (hl : plainParts σ parts.toList = some l) (hz : evBuild T t l = some (p, z)) (hw : wantOf ops σ o = some .yes) (hd : dstOK C.n o.dst = true)
    (hp : p) (h : RunO C held n0 ops ord k (σ.put o.dst z)) : RunO C held n0 ops ((i, true) :: ord) k σ := by
  refine RunO.first hsel ho hd (fun M0 M fp a w hM hR => .inl ⟨wantOf_yes hR.q hw, (fun c e => by rw [hop] at e; cases e), fun w' _ => ?_⟩) h
  have hc := plainParts_conc hR.q hl
  have e : (parts.map fun x => (x.1, a.eval x.2)).toList = l := by rw [← hc]; simp
  have := evBuild_run hT (M := M) (parts := parts.map fun x => (x.1, a.eval x.2)) (by rw [e]; exact hz) hp w'
  simp [execOp, hop, this]
end Go.AM

/-
  RelReduces walked up to the pairs, over opaque values. Own work; printed by a program of our own (tools/gen_rel.py).
-/
namespace Go.Proofs.YtocpkgckllbjlaaDoor
open Go.AM
set_option maxRecDepth 100000

theorem hcmpL {X V : Rl} {L : List Value} (h : X = V) (hL : L = relV V) : EqT Tryd.prog 25 (relV X).toArray L.toArray true := by rw [hL]; exact hcmpE h

theorem oneB (b : Bool) : (Value.bool b).oneCell' = true := rfl

/-- The blocks while the pairs are gone through. -/
def redB (r X P : Rl) (k : Nat) : List (Nat × Blk) :=
  [(4, .cells 3 [.one (.v (.int .i64 (k : Int)))]), (3, .cells 25 [.vals 65 (relV P)]), (2, .cells 25 [.vals 65 (relV X)]), (1, .cells 4 [.one (.tt false)]), (0, .cells 25 [.vals 65 (relV r)])]

set_option maxHeartbeats 1000000 in
theorem reduces_1 (r : Rl) (X : Rl) (w : World)
    (cr : checkI r = 0)
    (g11 : ∀ w', Agree (fun _ => False) w w' → Gives Tryd.prog 62 [] w' (.bool true))
    (gred : ∀ w', Agree (fun _ => False) w w' → Gives Tryd.prog 51 [encRel r] w' (.tuple #[encRel X, .bool false]))
    (e22 : X = (Rl.void 0))
    (g30 : ∀ w', Agree (fun _ => False) w w' → Gives Tryd.prog 46 [encRel r] w' (.bool false))
    : Gives Tryd.prog 9 [encRel r] w (.bool true) := by
  refine Gives.of_run Tryd.func9 rfl (by show 1 ≤ 85; decide) ?_
  refine RunF_sound tab_ok noX_local 400 [] _ _ rfl ?_ ?_
  · simp [okCell, ofConst, *]
  refine Run.callFn (r := .bool true) noX_local rfl rfl rfl rfl rfl rfl rfl works_enters rfl (fun w' hA => g11 w' hA) ?_
  refine RunF_sound tab_ok noX_local 400 [false] _ _ rfl ?_ ?_
  · simp [*]
  refine Run.callFn (r := .tuple #[encRel X, .bool false]) noX_local rfl rfl rfl rfl rfl rfl rfl reduce_enters rfl (fun w' hA => gred w' hA) ?_
  refine RunF_sound tab_ok noX_local 400 [true] _ _ rfl ?_ ?_
  · simp [segsVals, relV_one', fillL, Value.cells, *]
  refine Run.cmp rfl rfl rfl rfl rfl rfl (b := true) (c := true) (hcmpL e22 (by rw [relV_void]; rfl)) (.inl ⟨rfl, rfl⟩) ?_
  refine RunF_sound tab_ok noX_local 400 [true] _ _ rfl ?_ ?_
  · simp [*]
  refine Run.callFn (r := .int .i64 (checkI r)) noX_local rfl rfl rfl rfl rfl rfl rfl check_enters rfl (fun w' _ => check_ok r w') ?_
  refine RunF_sound tab_ok noX_local 400 [] _ _ rfl ?_ ?_
  · simp [*]
  refine Run.callFn (r := .int .i64 (checkI r)) noX_local rfl rfl rfl rfl rfl rfl rfl num_enters rfl (fun w' _ => num_ok _ w') ?_
  refine RunF_sound tab_ok noX_local 400 [true] _ _ rfl ?_ ?_
  · simp [*]
  refine Run.callFn (r := .bool false) noX_local rfl rfl rfl rfl rfl rfl rfl acyclic_enters rfl (fun w' hA => g30 w' hA) ?_
  refine RunF_sound tab_ok noX_local 400 [] _ _ rfl ?_ ?_
  · simp [okCell, oneB, *]
  refine Run.retP tab_ok Tryd.func9 rfl ?_ (fun M => by simp [conc, *])
  · simp

set_option maxHeartbeats 1000000 in
theorem reduces_3 (r : Rl) (X : Rl) (X42 : Rl) (X44 : Rl) (X50 : Rl) (w : World)
    (cr : checkI r = 0) (hT : TabAt w) (h0 : 0 < w.heap.size) (hX : rightL X = X ∧ True) (hpair : ∀ a b : Nat, X.has a b = true → ∃ O Y Z : Rl, (∀ w2 p c, SeesE w2 p [((a : Int), (b : Int))] → Gives Tryd.prog 65 [.int .i64 r.n, .slice p 1 c] w2 (ofV (O, 0))) ∧ (∀ w2, Gives Tryd.prog 24 [encRel X, encRel O] w2 (encRel Y)) ∧ (∀ w2, Gives Tryd.prog 34 [encRel Y] w2 (encRel Z)) ∧ Z ≠ X42)
    (g11 : ∀ w', Agree (fun _ => False) w w' → Gives Tryd.prog 62 [] w' (.bool true))
    (gred : ∀ w', Agree (fun _ => False) w w' → Gives Tryd.prog 51 [encRel r] w' (.tuple #[encRel X, .bool true]))
    (g42 : ∀ w', Agree (fun _ => False) w w' → Gives Tryd.prog 34 [encRel r] w' (encRel X42))
    (g44 : ∀ w', Agree (fun _ => False) w w' → Gives Tryd.prog 34 [encRel X] w' (encRel X44))
    (e46 : X44 = X42)
    (g50 : ∀ w', Agree (fun _ => False) w w' → Gives Tryd.prog 24 [encRel X, encRel r] w' (encRel X50))
    (e54 : X50 = (Rl.void r.n))
    : Gives Tryd.prog 9 [encRel r] w (.bool true) := by
  refine Gives.of_run Tryd.func9 rfl (by show 1 ≤ 85; decide) ?_
  refine RunF_sound tab_ok noX_local 400 [] _ _ rfl ?_ ?_
  · simp [okCell, ofConst, *]
  refine Run.callFn (r := .bool true) noX_local rfl rfl rfl rfl rfl rfl rfl works_enters rfl (fun w' hA => g11 w' hA) ?_
  refine RunF_sound tab_ok noX_local 400 [false] _ _ rfl ?_ ?_
  · simp [*]
  refine Run.callFn (r := .tuple #[encRel X, .bool true]) noX_local rfl rfl rfl rfl rfl rfl rfl reduce_enters rfl (fun w' hA => gred w' hA) ?_
  refine RunF_sound tab_ok noX_local 400 [false] _ _ rfl ?_ ?_
  · simp [segsVals, relV_one', *]
  refine Run.callFn (r := .int .i64 (checkI r)) noX_local rfl rfl rfl rfl rfl rfl rfl check_enters rfl (fun w' _ => check_ok r w') ?_
  refine RunF_sound tab_ok noX_local 400 [] _ _ rfl ?_ ?_
  · simp [*]
  refine Run.callFn (r := .int .i64 (checkI r)) noX_local rfl rfl rfl rfl rfl rfl rfl num_enters rfl (fun w' _ => num_ok _ w') ?_
  refine RunF_sound tab_ok noX_local 400 [false] _ _ rfl ?_ ?_
  · simp [*]
  refine Run.callFn (r := encRel X42) noX_local rfl rfl rfl rfl rfl rfl rfl plus_enters rfl (fun w' hA => g42 w' hA) ?_
  refine Run.to (t' := [(1, .ptr 0 0), (2, .ptr 1 0), (3, .ptr 2 0), (42, .v (encRel X42))]) (h' := [(0, .cells 25 [.vals 65 (relV r)]), (1, .cells 4 [.one (.tt false)]), (2, .cells 25 [.vals 65 (relV X)])]) (n' := 3) ?_ ⟨rfl, rfl, rfl, rfl, trivial⟩ ⟨rfl, rfl, rfl, trivial⟩
  refine RunF_sound tab_ok noX_local 400 [] _ _ rfl ?_ ?_
  · simp [segsVals, relV_one', *]
  refine Run.to (t' := [(1, .ptr 0 0), (2, .ptr 1 0), (3, .ptr 2 0), (5, .ptr 3 0)]) (h' := [(0, .cells 25 [.vals 65 (relV r)]), (1, .cells 4 [.one (.tt false)]), (2, .cells 25 [.vals 65 (relV X)]), (3, .cells 25 [.vals 65 (relV X42)])]) (n' := 4) ?_ ⟨rfl, rfl, rfl, rfl, trivial⟩ ⟨rfl, rfl, rfl, rfl, trivial⟩
  refine Run.drawA noX_local rfl [] [(0, .cells 25 [.vals 65 (relV r)]), (1, .cells 4 [.one (.tt false)]), (2, .cells 25 [.vals 65 (relV X)]), (3, .cells 25 [.vals 65 (relV X42)])] rfl rfl ⟨rfl, rfl, rfl, rfl, trivial⟩ ?_
  refine RunOF_sound tab_ok noX_local rfl rfl 400 [] _ _ rfl ?_ ?_
  · simp [*]
  refine RunO.callFn (r := encRel X44) noX_local rfl rfl rfl rfl rfl rfl rfl rfl plus_enters rfl (fun w' hA => g44 w' hA) ?_
  refine RunOF_sound tab_ok noX_local rfl rfl 400 [] _ _ rfl ?_ ?_
  · simp [*]
  refine RunO.cmp rfl rfl rfl rfl rfl rfl rfl (b := true) (c := false) (hcmpE e46) (.inr ⟨rfl, rfl⟩) ?_
  refine RunOF_sound tab_ok noX_local rfl rfl 400 [false] _ _ rfl ?_ ?_
  · simp [*]
  refine RunO.build tab_ok rfl rfl rfl rfl rfl rfl rfl ?_ ?_
  · simp [fillL, Value.cells, splice, *]
  refine RunOF_sound tab_ok noX_local rfl rfl 400 [] _ _ rfl ?_ ?_
  · simp [*]
  refine RunO.callFn (r := encRel X50) noX_local rfl rfl rfl rfl rfl rfl rfl rfl minus_enters rfl (fun w' hA => g50 w' hA) ?_
  refine RunOF_sound tab_ok noX_local rfl rfl 400 [] _ _ rfl ?_ ?_
  · simp [*]
  refine RunO.cmp rfl rfl rfl rfl rfl rfl rfl (b := true) (c := false) (hcmpL e54 (by rw [relV_void]; rfl)) (.inr ⟨rfl, rfl⟩) ?_
  refine RunOF_sound tab_ok noX_local rfl rfl 400 [] _ _ rfl ?_ ?_
  · simp [*]
  refine RunO.done ?_
  refine RunF_sound tab_ok noX_local 400 [false] _ _ rfl ?_ ?_
  · simp [okCell, ofConst, *]
  obtain ⟨hXr, hXl⟩ := hX
  have hn := rightL_n X
  refine Run.callR noX_local rfl rfl rfl rfl rfl rfl edges_enters rfl (fun M w' _ _ => edges_ok X w') ?_
  rintro v w2 w1 S1 hag hag2 ⟨bb, rfl, hbl, hRel⟩ hS1
  have hB1 := (Based.refl w).call hag hag2 hS1
  have hbw1 : bb < w1.heap.size := World.block_lt_of_cell? w1 _ (hRel 0 _ rfl)
  have hS1b : ¬ S1 bb := hS1.new bb hbl
  have hS10 : ¬ S1 0 := fun h => by have := hB1.new 0 h; omega
  have hw1 : 0 < w1.heap.size := by have := hB1.agree.size; omega
  have hit := edges_iter (rightL X) hn bb w1 hRel (hT.agree hB1.agree (fun f => f))
  have hmem := edges_mem (rightL X)
  have hlen : (edgesL (rightL X)).length ≤ 4096 := by rw [edgesL, restL_len]; have := sumL_le (rightL X) (rightL X).n.toNat 0; omega
  rw [hXr] at hit hmem hlen
  generalize edgesL X = E at *
  refine ⟨.fn 71 [.v (.pointer (some ⟨bb, 0, none⟩))], fun M => rfl, ?_⟩
  refine RunF_sound tab_ok noX_local 100 [] _ _ rfl ?_ ?_
  · simp
  refine Run.rangeFn noX_local rfl rfl (fun M => rfl) edgesIt_enters 8 [(6, .ptr 4 0), (5, .ptr 3 0), (3, .ptr 2 0), (2, .ptr 1 0), (1, .ptr 0 0)] ⟨rfl, rfl, rfl, rfl, rfl, trivial⟩ rfl rfl hit
    (fun k hk => by rcases hk with rfl | rfl; exact ⟨hw1, hS10⟩; exact ⟨hbw1, hS1b⟩) (fun x hx => by simp only [encEs, List.mem_map] at hx; obtain ⟨e, _, rfl⟩ := hx; rfl)
    (fun pre h => ∃ k, k ≤ E.length ∧ k < 40 ∧ pre = encEs (E.take k) ∧ h = redB r X X42 k)
    (fun _ c h => c = .exit 0 ∧ ∃ k, h = redB r X X42 k) 12 (redB r X X42 0) ⟨0, by omega, by omega, rfl, rfl⟩ ⟨rfl, rfl, rfl, rfl, rfl, trivial⟩ ?_ ?_ ?_
  · rintro D l a0 rc wy fpy pre x h hI hpx ⟨k, hk, hk40, rfl, rfl⟩
    obtain ⟨hlt, rfl⟩ := encEs_next hk hpx
    obtain ⟨a, b, he, ha, hb, hab⟩ := hmem E[k] (List.getElem_mem hlt)
    obtain ⟨O, Y, Z, go, gy, gz, hz⟩ := hpair a b hab
    have hnext : encEs (E.take k) ++ [encEd E[k]] = encEs (E.take (k + 1)) := encEs_succ hlt
    rw [he] at hnext ⊢
    refine RunF_sound tab_ok (roundX_local hI.loc l rc .ready) 100 [] _ _ rfl ?_ ?_
    · simp [segsVals]
    refine Run.beginRound hI.loc hI.lw ?_
    refine RunF_sound tab_ok (roundX_local hI.loc l rc .busy) 100 [] _ _ rfl ?_ ?_
    · simp [fillL, Value.cells, splice, repL, maxLen]
    refine Run.callM (r := ofV (O, 0)) (roundX_local hI.loc l rc .busy) rfl rfl rfl rfl rfl rfl of_enters rfl (fun M w' hM hA => ?_) ?_
    · have hb' := hM 13 _ rfl
      refine go w' (some ⟨(M 13).1, 0, none⟩) ((M 13).2 - 0) (seesE_row hb' (fun i hi => ?_))
      rcases i with _ | i
      · exact ⟨rfl, rfl⟩
      · exact absurd hi (by simp)
    refine RunF_sound tab_ok (roundX_local hI.loc l rc .busy) 100 [] _ _ rfl ?_ ?_
    · simp [segsVals, relV_one']
    refine Run.drawA (roundX_local hI.loc l rc .busy) rfl [] [(14, .cells 25 [.vals 65 (relV O)]), (3, .cells 25 [.vals 65 (relV X42)]), (2, .cells 25 [.vals 65 (relV X)])] rfl rfl ⟨rfl, rfl, rfl, trivial⟩ ?_
    refine RunOF_sound tab_ok (roundX_local hI.loc l rc .busy) rfl rfl 200 [] _ _ rfl ?_ ?_
    · simp
    refine RunO.callFn (r := .int .i64 0) (roundX_local hI.loc l rc .busy) rfl rfl rfl rfl rfl rfl rfl rfl num_enters rfl (fun w' _ => num_ok 0 w') ?_
    refine RunOF_sound tab_ok (roundX_local hI.loc l rc .busy) rfl rfl 200 [false] _ _ rfl ?_ ?_
    · simp
    refine RunO.callFn (r := encRel Y) (roundX_local hI.loc l rc .busy) rfl rfl rfl rfl rfl rfl rfl rfl minus_enters rfl (fun w' _ => gy w') ?_
    refine RunOF_sound tab_ok (roundX_local hI.loc l rc .busy) rfl rfl 200 [] _ _ rfl ?_ ?_
    · simp
    refine RunO.callFn (r := encRel Z) (roundX_local hI.loc l rc .busy) rfl rfl rfl rfl rfl rfl rfl rfl plus_enters rfl (fun w' _ => gz w') ?_
    refine RunOF_sound tab_ok (roundX_local hI.loc l rc .busy) rfl rfl 200 [] _ _ rfl ?_ ?_
    · simp
    refine RunO.cmp rfl rfl rfl rfl rfl rfl rfl (b := false) (c := false) (hcmpN hz) (.inl ⟨rfl, rfl⟩) ?_
    refine RunOF_sound tab_ok (roundX_local hI.loc l rc .busy) rfl rfl 200 [] _ _ rfl ?_ ?_
    · simp
    refine RunO.done ?_
    have hwr : IntKind.i64.wrap ((k : Int) + 1) = ((k + 1 : Nat) : Int) := wrap_succ (by omega)
    by_cases c40 : ((k + 1 : Nat) : Int) ≥ 40
    · refine RunF_sound tab_ok (roundX_local hI.loc l rc .busy) 100 [false, true] _ _ rfl ?_ ?_
      · simp [okCell, hwr]; omega
      refine Run.roundExit hI [] (redB r X X42 (k + 1)) rfl ⟨rfl, k + 1, rfl⟩ ⟨rfl, rfl, rfl, rfl, rfl, trivial⟩ ⟨?_, rfl, rfl, rfl, rfl, trivial⟩ rfl
      exact congrArg (fun z : Int => some (Blk.cells 3 [.one (.v (.int .i64 z))])) hwr
    · refine RunF_sound tab_ok (roundX_local hI.loc l rc .busy) 100 [false, false] _ _ rfl ?_ ?_
      · simp [okCell, hwr]; omega
      refine Run.roundEnd hI [] (redB r X X42 (k + 1)) ⟨k + 1, by omega, by omega, hnext, rfl⟩ ⟨rfl, rfl, rfl, rfl, rfl, trivial⟩ ⟨?_, rfl, rfl, rfl, rfl, trivial⟩ rfl
      exact congrArg (fun z : Int => some (Blk.cells 3 [.one (.v (.int .i64 z))])) hwr
  · rintro D h ⟨k, hk, _, hx, rfl⟩
    refine RunF_sound tab_ok (markX_local noX_local D) 100 [] _ _ rfl ?_ ?_
    · simp [okCell, ofConst]
    refine Run.retB (Ds := [D]) tab_ok noX_local hB1 Tryd.func9 rfl ?_ (fun M => ?_)
    · simp
    rfl
  · rintro D pre c h hpre ⟨rfl, k, rfl⟩
    refine RunF_sound tab_ok (markX_local noX_local D) 100 [] _ _ rfl ?_ ?_
    · simp [okCell, ofConst]
    refine Run.retB (Ds := [D]) tab_ok noX_local hB1 Tryd.func9 rfl ?_ (fun M => ?_)
    · simp
    rfl

set_option maxHeartbeats 1000000 in
theorem reduces_2 (r : Rl) (X : Rl) (w : World)
    (cr : checkI r ≠ 0)
    (g11 : ∀ w', Agree (fun _ => False) w w' → Gives Tryd.prog 62 [] w' (.bool true))
    (gred : ∀ w', Agree (fun _ => False) w w' → Gives Tryd.prog 51 [encRel r] w' (.tuple #[encRel X, .bool true]))
    (e40 : X = (Rl.void 0))
    : Gives Tryd.prog 9 [encRel r] w (.bool true) := by
  refine Gives.of_run Tryd.func9 rfl (by show 1 ≤ 85; decide) ?_
  refine RunF_sound tab_ok noX_local 400 [] _ _ rfl ?_ ?_
  · simp [okCell, ofConst, *]
  refine Run.callFn (r := .bool true) noX_local rfl rfl rfl rfl rfl rfl rfl works_enters rfl (fun w' hA => g11 w' hA) ?_
  refine RunF_sound tab_ok noX_local 400 [false] _ _ rfl ?_ ?_
  · simp [*]
  refine Run.callFn (r := .tuple #[encRel X, .bool true]) noX_local rfl rfl rfl rfl rfl rfl rfl reduce_enters rfl (fun w' hA => gred w' hA) ?_
  refine RunF_sound tab_ok noX_local 400 [false] _ _ rfl ?_ ?_
  · simp [segsVals, relV_one', *]
  refine Run.callFn (r := .int .i64 (checkI r)) noX_local rfl rfl rfl rfl rfl rfl rfl check_enters rfl (fun w' _ => check_ok r w') ?_
  refine RunF_sound tab_ok noX_local 400 [] _ _ rfl ?_ ?_
  · simp [*]
  refine Run.callFn (r := .int .i64 (checkI r)) noX_local rfl rfl rfl rfl rfl rfl rfl num_enters rfl (fun w' _ => num_ok _ w') ?_
  refine RunF_sound tab_ok noX_local 400 [true] _ _ rfl ?_ ?_
  · simp [fillL, Value.cells, *]
  refine Run.cmp rfl rfl rfl rfl rfl rfl (b := true) (c := true) (hcmpL e40 (by rw [relV_void]; rfl)) (.inl ⟨rfl, rfl⟩) ?_
  refine RunF_sound tab_ok noX_local 400 [] _ _ rfl ?_ ?_
  · simp [okCell, oneB, *]
  refine Run.retP tab_ok Tryd.func9 rfl ?_ (fun M => by simp [conc, *])
  · simp

end Go.Proofs.YtocpkgckllbjlaaDoor

/-
  The abstract machine, twenty-ninth part: calls in a drawn region that hand over new blocks. Own work; over any program.
-/
namespace Go.AM
section
variable {C : Ctx} {held : List (Nat × Blk)} {n0 : Nat} {ops : Array Oper} {i : Nat} {ord : List (Nat × Bool)} {k : List Item} {σ : St} {o : Oper} {c : Call} {g : Operand} {f : FuncId} {caps xs : List AV}

theorem RunO.callH (hL : Local C.X) (z : AV) (h : List (Nat × Blk)) (m : Nat) (ho : ops[i]? = some o) (hop : o.op = .call c) (hc : c.callee = .value g) (hg : σ.ev g = some (.fn f caps)) (hxs : evs σ c.args.toList = some xs) (hw : wantOf ops σ o = some .yes) (hent : Enters C.P f)
    (hd : dstOK C.n o.dst = true) (hbel : σ.bel = true) (hge : hGe σ.nx m h = true) (hz : z.ge σ.nx = true) (hm : Nat.ble σ.nx m = true)
    (hfn : ∀ M w, (∀ id B, lk σ.h id = some B → BlkAt M w id B) → Agree C.S0 C.w0 w → GivesR C.P f (concL M (xs ++ caps)) w (Handed z h w))
    (hr : RunO C held n0 ops ord k (St.put ⟨σ.t, h ++ σ.h, m⟩ o.dst z)) : RunO C held n0 ops ((i, false) :: ord) k σ := by
  refine RunO.alone ho fun M0 M fp a w hM hn hR hS => ?_
  have h2 : c.args.map a.eval = (concL M xs).toArray := by apply Array.ext'; simpa using evs_conc hR.q hxs
  have hrun : (execOp a.eval o).run C.P w = .ok (.enter f (concL M (xs ++ caps)).toArray) w := by
    simp only [execOp, hop, resolve, hc, h2, hR.q.ev hg, conc, Deferred.ofValue]
    simp [invoke, hent _ _, concL_append]
  unfold OpW
  simp only [ho, if_pos (wantOf_yes hR.q hw), hrun]
  refine ⟨fun c e => (by rw [hop] at e; cases e), Calls.mono' (hfn M w hR.heap hR.agree) fun e w' ⟨v, h1, hh⟩ => ?_⟩
  obtain ⟨M', hv, hMM, hR'⟩ := hR.handed hL hh hbel hge hz (Nat.le_of_ble_eq_true hm)
  have hag : Agree (fun _ => False) w w' := hh.1
  subst hv
  refine ⟨_, h1, M', fp, _, ?_, ?_, hR'.put (z := z) (dstOK_lt hd), ?_, hr⟩
  · exact fun i hi => (hMM i (Nat.lt_of_lt_of_le hi hn)).trans (hM i hi)
  · have := Nat.le_of_ble_eq_true hm
    cases o.dst <;> exact Nat.le_trans hn this
  · refine ⟨?_, hS.2.trans hag (fun _ f _ => f.elim)⟩
    intro id B hB
    have := hS.1 id B hB
    exact this.same (hag.block _ this.lt (fun f => f))

/-- A function's value is not nil. -/
theorem Run.fnNil {rest : List Nat} {T : Tab} (hT : tabOK C.P T) {t u : TypeId} {x : Operand} {fv : Fn} {a b : Array Value} {ps rs : Array TypeId} {vd : Bool} (ho : ops[i]? = some o) (hop : o.op = .binOp .eql t x (.const .nilFunc) u) (hx : σ.ev x = some (.v (.func fv a b)))
    (ht : T.desc t = some (.func ps rs vd)) (hw : wantOf ops σ o = some .yes) (hd : dstOK C.n o.dst = true) (h : Run C (.inRegion ops rest :: k) (σ.put o.dst (.tt false))) : Run C (.inRegion ops (i :: rest) :: k) σ := by
  intro M fp ac w hR cs
  obtain ⟨m, s, z⟩ := h M fp _ w (hR.put (z := .tt false) (dstOK_lt hd)) cs
  refine ⟨m, .head (step_value ho (wantOf_yes hR.q hw) (fun c e => by rw [hop] at e; cases e) ?_) s, z⟩
  have hu := eq_func_fn (w := w) (tab_undP hT ht) fv a b
  have h1 := hR.q.ev hx
  simp only [conc] at h1
  have h2 : ac.eval (.const .nilFunc) = .nilFunc := rfl
  simp [execOp, hop, h1, h2, eqGuard, binOp, hu, conc]
end
end Go.AM

/-
  The abstract machine, thirtieth part: a struct of one function. Own work; over any program.
-/
namespace Go.AM

theorem Run.buildF {C : Ctx} {ops : Array Oper} {i : Nat} {rest : List Nat} {k : List Item} {σ : St} {o : Oper} {T : Tab} {t : TypeId} {n : Nat} {x : Operand} {g : FuncId} {p : Prop} {z : AV}
    (hT : tabOK C.P T) (ho : ops[i]? = some o) (hop : o.op = .build t #[(n, x)]) (hx : σ.ev x = some (.fn g [])) (hz : evBuild T t [(n, .func (.func g) #[] #[])] = some (p, z)) (hw : wantOf ops σ o = some .yes) (hd : dstOK C.n o.dst = true)
    (hp : p) (h : Run C (.inRegion ops rest :: k) (σ.put o.dst z)) : Run C (.inRegion ops (i :: rest) :: k) σ := by
  intro M fp a w hR cs
  obtain ⟨m, s, z'⟩ := h M fp _ w (hR.put (z := z) (dstOK_lt hd)) cs
  refine ⟨m, .head (step_value ho (wantOf_yes hR.q hw) (fun c e => by rw [hop] at e; cases e) ?_) s, z'⟩
  have h1 := hR.q.ev hx
  have h2 : a.eval x = .func (.func g) #[] #[] := by rw [h1]; simp [conc, concL]
  have := evBuild_run hT (M := M) (parts := #[(n, a.eval x)]) (by rw [h2]; exact hz) hp w
  simp [execOp, hop, this]
end Go.AM

/-
  The abstract machine, thirty-first part: a plain function's value read as a function. Own work; over any program.
-/
namespace Go.AM

theorem Run.asFn {C : Ctx} {k : List Item} {σ : St} {g : FuncId} (i : Nat) (hi : lk σ.t i = some (.v (.func (.func g) #[] #[]))) (h : Run C k ⟨(i, .fn g []) :: σ.t, σ.h, σ.nx⟩) : Run C k σ := by
  intro M fp a w hR cs
  refine h M fp a w ⟨hR.toRelH, hR.size, hR.frozen, fun j x hx => ?_, hR.defers⟩ cs
  by_cases e : j = i
  · subst e
    have e1 : Nat.beq j j = true := Nat.beq_refl j
    simp only [lk, e1, Option.some.injEq] at hx
    subst hx
    have := hR.tmps _ _ hi
    simpa [conc, concL] using this
  · have e1 : Nat.beq j i = false := by
      cases h2 : Nat.beq j i with
      | false => rfl
      | true => exact absurd (Nat.eq_of_beq_eq_true h2) e
    simp only [lk, e1] at hx
    exact hR.tmps _ _ hx

/-- One cell of any type of one cell, loaded out of an owned block. -/
theorem Run.loadOne {C : Ctx} {ops : Array Oper} {i : Nat} {rest : List Nat} {k : List Item} {σ : St} {o : Oper} {T : Tab} {t id off s0 n e : Nat} {ti : TI} {segs : List Seg} {vs : List Value} {v : Value} {x : Operand}
    (hT : tabOK C.P T) (ho : ops[i]? = some o) (hop : o.op = .load t x) (hx : σ.ev x = some (.ptr id off)) (hi : lk T t = some ti) (h1 : oneCellTy ti.d = true) (hb : lk σ.h id = some (.cells e segs)) (hs : segAt segs 0 off = some (s0, .vals n vs)) (hv : vs[off - s0]? = some v)
    (hw : wantOf ops σ o = some .yes) (hd : dstOK C.n o.dst = true) (h : Run C (.inRegion ops rest :: k) (σ.put o.dst (.v v))) : Run C (.inRegion ops (i :: rest) :: k) σ := by
  intro M fp a w hR cs
  obtain ⟨m, s, z'⟩ := h M fp _ w (hR.put (z := .v v) (dstOK_lt hd)) cs
  refine ⟨m, .head (step_value ho (wantOf_yes hR.q hw) (fun c e => by rw [hop] at e; cases e) ?_) s, z'⟩
  have hB := hR.heap _ _ hb
  obtain ⟨_, hle, _⟩ := segAt_cell (M := M) hB.2 (Nat.zero_le _) hs
  have h2 := hR.q.ev hx
  simp only [conc] at h2
  have h3 := run_loadVar_one (w := w) hT hi h1 (vals_cells hB hs _ _ hv)
  rw [show s0 + (off - s0) = off by omega] at h3
  simp [execOp, hop, h2, Instr.loadAt, Instr.sureAddr, conc, h3]

/-- Less is known, along an order. -/
theorem RunO.to {C : Ctx} {held : List (Nat × Blk)} {n0 : Nat} {ops : Array Oper} {ord : List (Nat × Bool)} {k : List Item} {σ : St} (t' : List (Nat × AV)) (h' : List (Nat × Blk)) (n' : Nat)
    (h : RunO C held n0 ops ord k ⟨t', h', n'⟩) (ht : inT σ.t t') (hh : inT σ.h h') (hn : n0 ≤ n') : RunO C held n0 ops ord k σ :=
  fun M0 M fp a w hM _ hR hS => h M0 M fp a w hM hn (hR.weaken ⟨inT_lk ht, inT_lk hh⟩) hS
end Go.AM

/-
  The abstract machine, thirty-third part: a range over a function whose outer part turns. Own work; over any program.
-/
namespace Go.AM
open Go.RowKit

theorem old_alloc (w : World) (o : Obj) {b : Nat} (hb : b < w.heap.size) : (w.alloc o).heap[b]? = w.heap[b]? := by
  first | exact heap_alloc_old _ _ hb | exact heap_alloc_old _ _ b hb

def roundRX {S : Type} (C : Ctx) (XS : S → Res) (D : Nat) (t : List (Nat × AV)) (a0 : Array Value) (l : Nat) (rc : Loop) (wy : World) (fpy : Foot) (Next : S → List (Nat × Blk) → Prop) (Stop : S → Code → List (Nat × Blk) → Prop) : Value → World → Prop := fun v w' =>
  ∃ fp', Grown fpy wy fp' w' ∧ (v = .bool true ∧ (∃ s h M fpX, Next s h ∧ LoopJ ((C.withX (XS s)).marked D) t a0 l rc .ready none h M fpX w' fp') ∨
    v = .bool false ∧ (∃ s c h M fpX, Stop s c h ∧ LoopJ ((C.withX (XS s)).marked D) t a0 l rc .done (some c) h M fpX w' fp'))

def plainT : List (Nat × AV) → Bool
  | [] => true
  | (_, .v _) :: r => plainT r
  | (_, .tt _) :: r => plainT r
  | _ :: _ => false

theorem plainT_lk : ∀ {l : List (Nat × AV)} {i : Nat} {x : AV}, plainT l = true → lk l i = some x → ∀ M M' : Loc, conc M x = conc M' x
  | [], i, x, _, h => by cases h
  | (j, y) :: r, i, x, hb, h => by
    simp only [lk] at h
    split at h
    · cases h
      cases y with
      | v _ => intro M M'; simp [conc]
      | tt _ => intro M M'; simp [conc]
      | _ => simp [plainT] at hb
    · cases y with
      | v _ => exact plainT_lk (show plainT r = true from hb) h
      | tt _ => exact plainT_lk (show plainT r = true from hb) h
      | _ => simp [plainT] at hb

theorem lkA {α : Type} {i : Nat} : ∀ {a b : List (Nat × α)}, lk (a ++ b) i = match lk a i with | some x => some x | none => lk b i
  | [], b => rfl
  | (j, y) :: a, b => by
    simp only [List.cons_append, lk]
    split
    · rfl
    · exact lkA

theorem Run.rangeFnX {C : Ctx} {S : Type} (XS : S → Res) (hLS : ∀ s, Local (XS s)) (s0 : S) (hX0 : C.X = XS s0) {k : List Item} {σ : St} {g : Operand} {ps : Array Tmp} {assign body : Code} {f : FuncId} {vs : List Value} {z : AV}
    (hro : C.b.roundOf = none) (hg : σ.ev g = some z) (hz : ∀ M, conc M z = .func (.func f) #[] vs.toArray) (hent : Enters C.P f)
    (lo : Nat) (tv t : List (Nat × AV)) (hvin : inT σ.t tv) (hvp : plainT tv = true) (htin : inT σ.t t) (hlo : keysLt lo t = true) (hps : psOK lo C.n.hi ps.toList = true)
    {K : Nat → Prop} {xs : List (List Value)} (hit : Iter C.P f vs K C.w0 xs) (hK : ∀ b, K b → b < C.w0.heap.size ∧ ¬ C.S0 b) (hlen : ∀ x ∈ xs, x.length = ps.size)
    (Inv : List (List Value) → S → List (Nat × Blk) → Prop) (Stop : List (List Value) → S → Code → List (Nat × Blk) → Prop) (N : Nat)
    (h0 : List (Nat × Blk)) (hI0 : Inv [] s0 h0) (hin : inT σ.h h0)
    (hround : ∀ D l a0 rc wy fpy pre x s h, RoundIn ((C.withX (XS s)).marked D) lo t l wy fpy → pre ++ [x] <+: xs → Inv pre s h →
      Run (roundC ((C.withX (XS s)).marked D) lo a0 l rc .ready wy fpy (roundRX C XS D t a0 l rc wy fpy (Inv (pre ++ [x])) (Stop (pre ++ [x])))) [.code assign, .beginRound, .code body] ⟨parT (ps.toList.zip x) (tv ++ t), h, N⟩)
    (hdone : ∀ D s h, Inv xs s h → Run ((C.withX (XS s)).marked D) k ⟨tv ++ t, h, N⟩)
    (hstop : ∀ D pre s c h, pre <+: xs → Stop pre s c h → Run ((C.withX (XS s)).marked D) (.code c :: k) ⟨tv ++ t, h, N⟩) :
    Run C (.code (.rangeFunc g ps assign body) :: k) σ := by
  have hL : Local C.X := by rw [hX0]; exact hLS s0
  intro M fp a w hR cs
  let D := w.heap.size
  let l := w.heap.size + 1
  let rc : Loop := { state := .ready, pending := none, fn := C.b.fn, tmps := a.tmps, params := ps, assign, body, defers := D }
  let W1 : World := (w.alloc (.deferred (some []))).alloc (.loop rc)
  let y : Value := .func (.yield l) #[] #[]
  have he : (Instr.enterLoop C.b.fn a.tmps ps assign body C.b.roundOf).run C.P w = .ok (l, [mark D]) W1 := by rw [hro]; exact run_enterLoop_outer C.b.fn a.tmps ps assign body
  have hres : (resolve a.eval (rangeCall g l) 0).run C.P W1 = .ok { target := .fn (.func f) vs.toArray, args := #[y] } W1 := by
    simp [resolve, hR.q.ev hg, hz, Deferred.ofValue, y]
    rfl
  have hinv : (invoke (.fn (.func f) vs.toArray) #[y]).run C.P W1 = .ok (.enter f (y :: vs).toArray) W1 := by
    have : (#[y] ++ vs.toArray : Array Value) = (y :: vs).toArray := by simp
    simp only [invoke, this, hent _ _]
  have s1 := stepR_rangeFunc (P := C.P) (b := C.b) (a := a) (k := k) (cs := cs) (w := w) he hres hinv
  have hws : W1.heap.size = w.heap.size + 2 := by simp only [W1, World.size_alloc]
  have hold : ∀ b, b < w.heap.size → W1.heap[b]? = w.heap[b]? := by
    intro b hb
    simp only [W1]
    rw [old_alloc _ _ (by rw [World.size_alloc]; omega), old_alloc _ _ hb]
  have hD : W1.heap[D]? = some (.deferred (some [])) := by
    simp only [W1, D]
    rw [old_alloc _ _ (by rw [World.size_alloc]; omega)]
    exact World.alloc_heap_new _ _
  have hl : W1.heap[l]? = some (.loop rc) := by
    have := World.alloc_heap_new (w.alloc (.deferred (some []))) (.loop rc)
    rw [show (w.alloc (.deferred (some []))).heap.size = l by simp only [World.size_alloc, l]] at this
    exact this
  have hblk : ∀ id B, lk h0 id = some B → lk σ.h id = some B := fun id B hB => inT_lk hin id B hB
  let J : List (List Value) → Res := fun pre w fp => ∃ s h M fpX, Inv pre s h ∧ LoopJ ((C.withX (XS s)).marked D) t a.tmps l rc .ready none h M fpX w fp
  let Js : List (List Value) → Res := fun pre w fp => ∃ s c h M fpX, Stop pre s c h ∧ LoopJ ((C.withX (XS s)).marked D) t a.tmps l rc .done (some c) h M fpX w fp
  have hLm : ∀ s, Local ((C.withX (XS s)).marked D).X := fun s => markX_local (hLS s) D
  have hJl : ∀ pre, Local (J pre) := fun pre w w' fp ⟨s, h, M, fpX, h1, h2⟩ _ hs => ⟨s, h, M, fpX, h1, h2.moved (hLm s) hs⟩
  have hJsl : ∀ pre, Local (Js pre) := fun pre w w' fp ⟨s, c, h, M, fpX, h1, h2⟩ _ hs => ⟨s, c, h, M, fpX, h1, h2.moved (hLm s) hs⟩
  let fp1 : Foot := fun b => (fp b ∨ b = D) ∨ b = l ∨ ∃ id B, lk h0 id = some B ∧ (M id).1 = b
  have hfl : ∀ b, fp b → b < w.heap.size := fun b hb => (hR.fpok b hb).1
  have hml : ∀ id B, lk h0 id = some B → (M id).1 < w.heap.size := fun id B hB => (hR.heap _ _ (hblk _ _ hB)).lt
  have hwle : C.w0.heap.size ≤ w.heap.size := hR.agree.size
  have hfp1 : ∀ b, fp1 b → b < W1.heap.size ∧ (b < C.w0.heap.size → C.S0 b) := by
    intro b hb
    rw [hws]
    rcases hb with (hb | rfl) | rfl | ⟨id, B, hB, rfl⟩
    · exact ⟨by have := hfl b hb; omega, (hR.fpok b hb).2⟩
    · exact ⟨by simp only [D]; omega, fun h => by simp only [D] at h; omega⟩
    · exact ⟨by simp only [l]; omega, fun h => by simp only [l] at h; omega⟩
    · exact ⟨by have := hml _ _ hB; omega, hR.own _ _ (hblk _ _ hB)⟩
  have hW1 : Agree C.S0 C.w0 W1 := ⟨hR.agree.os, hR.agree.tape, hR.agree.output, by rw [hws]; omega, fun b hb hs => by rw [hold b (by omega)]; exact hR.agree.block b hb hs⟩
  have hJ0 : J [] W1 fp1 := by
    refine ⟨s0, h0, M, fun b => fp b ∨ b = D, hI0, ?_⟩
    refine { tmps := fun i x hx => hR.tmps i x (inT_lk htin i x hx), heap := ?_, inj := ?_, own := ?_, apart := ?_, outer := ?_, fpok := ?_, rc := hl, lX := ?_, lnew := ?_, foot := fun b => Iff.rfl }
    · exact fun id B hB => (hR.heap _ _ (hblk _ _ hB)).same (hold _ (hml _ _ hB))
    · exact fun id id' B B' hB hB' e => hR.inj _ _ _ _ (hblk _ _ hB) (hblk _ _ hB') e
    · exact fun id B hB => hR.own _ _ (hblk _ _ hB)
    · intro id B hB
      have := hml _ _ hB
      refine ⟨fun hf => ?_, fun e => by simp only [l] at e; omega⟩
      rcases hf with hf | hf
      · exact hR.apart _ _ (hblk _ _ hB) hf
      · simp only [D] at hf; omega
    · exact ⟨fp, hX0 ▸ hL w W1 fp hR.outer hfl (fun b hb => hold b (hfl b hb)), fun hf => Nat.lt_irrefl _ (hfl _ hf), hD, fun b => Iff.rfl⟩
    · intro b hb
      exact hfp1 b (.inl hb)
    · intro hf
      rcases hf with hf | hf
      · have := hfl _ hf; simp only [l] at this; omega
      · simp only [l, D] at hf; omega
    · show C.w0.heap.size ≤ l
      simp only [l]; omega
  have hvt : ∀ M' : Loc, (∀ i x, lk t i = some x → a.tmps[i]? = some (conc M' x)) → ∀ i x, lk (tv ++ t) i = some x → a.tmps[i]? = some (conc M' x) := fun M' h i x hx => by
    rw [lkA] at hx
    split at hx
    · rename_i z hz
      cases hx
      rw [plainT_lk hvp hz M' M]
      exact hR.tmps i x (inT_lk hvin i x hz)
    · exact h i x hx
  have hys : ∀ pre x, pre ++ [x] <+: xs → Yields C.P y J Js W1 fp1 pre x := by
    intro pre x hpx wy fpy hJy hgr
    obtain ⟨sx, h, M', fpX, hinvp, hJ⟩ := hJy
    have hx : x.length = ps.size := hlen x (hpx.subset (by simp))
    have hag : Agree C.S0 C.w0 wy := hW1.trans hgr.1 (fun i hi hl => (hfp1 i hi).2 hl)
    have hfy : ∀ b, fpy b → b < C.w0.heap.size → C.S0 b := fun b hb hlt => (hfp1 b ((hgr.2 b hb).2 (by have := hW1.size; omega))).2 hlt
    have hrun := run_yield (P := C.P) (args := x.toArray) hJ.rc (by simpa using hx)
    refine ⟨{ target := .fn (.yield l) #[], args := x.toArray }, _, by simp [Deferred.ofValue, y], by simp only [invoke]; exact hrun, ?_⟩
    intro c cs'
    have hpr := parT_run (M := M') (lo := lo) (ps.toList.zip x) (tv ++ t) a.tmps (fun q hq => by
      have := psOK_mem hps q.1 (List.of_mem_zip hq).1
      rw [hR.size]; exact this) (hvt M' hJ.tmps)
    have htm : (ps.zip x.toArray).foldl (fun tmps (q : Nat × Value) => tmps.setIfInBounds q.1 q.2) a.tmps = (ps.toList.zip x).foldl (fun tm q => tm.setIfInBounds q.1 q.2) a.tmps := by
      rw [← Array.foldl_toList]; simp
    let a' : Act := { tmps := (ps.toList.zip x).foldl (fun tm q => tm.setIfInBounds q.1 q.2) a.tmps, defers := [] }
    have hI : RoundIn ((C.withX (XS sx)).marked D) lo t l wy fpy := ⟨hLm sx, (hJ.foot l).2 (.inr (.inl rfl)), hag, hfy, hJ.lnew, hlo⟩
    have hrel : Rel (roundC ((C.withX (XS sx)).marked D) lo a.tmps l rc .ready wy fpy (roundRX C XS D t a.tmps l rc wy fpy (Inv (pre ++ [x])) (Stop (pre ++ [x])))) M' (fun b => fpX b ∨ b = l) ⟨parT (ps.toList.zip x) (tv ++ t), h, N⟩ a' wy := by
      refine { heap := hJ.heap, inj := hJ.inj, own := ?_, apart := ?_, agree := Agree.refl _ _, outer := ⟨fpX, hJ.outer, hJ.lX, hJ.rc, fun b => Iff.rfl⟩, fpok := ?_, size := ?_, frozen := hpr.2.1, tmps := hpr.2.2, defers := rfl }
      · exact fun id B hB _ => (hJ.foot _).2 (.inr (.inr ⟨id, B, hB, rfl⟩))
      · exact fun id B hB hf => hf.elim (hJ.apart _ _ hB).1 (hJ.apart _ _ hB).2
      · intro b hb
        have hb' : fpy b := (hJ.foot b).2 (hb.imp id .inl)
        exact ⟨(hgr.2 b hb').1, fun _ => hb'⟩
      · show a'.tmps.size = C.n.hi
        simp only [a']; rw [hpr.1, hR.size]
    obtain ⟨m, s, zz⟩ := hround D l a.tmps rc wy fpy pre x sx h hI hpx hinvp M' _ a' wy hrel (c :: cs')
    obtain ⟨v, w', rfl, fp', hg', hv⟩ := zz c cs' rfl
    refine ⟨v, w', ⟨fp', hg', ?_⟩, ?_⟩
    · rcases hv with ⟨hv, hh⟩ | ⟨hv, hh⟩
      · exact .inl ⟨hv, hh⟩
      · exact .inr ⟨hv, hh⟩
    · have hfr : Frame.round l C.b.fn ((ps.zip x.toArray).foldl (fun tmps (q : Nat × Value) => tmps.setIfInBounds q.1 q.2) a.tmps) assign body .normal =
          (roundC ((C.withX (XS sx)).marked D) lo a.tmps l rc .ready wy fpy (roundRX C XS D t a.tmps l rc wy fpy (Inv (pre ++ [x])) (Stop (pre ++ [x])))).b.atR a' [.code assign, .beginRound, .code body] := by
        rw [htm]; simp [Frame.round, Frame.atR, roundC, Ctx.marked, a']
      exact hfr ▸ s
  have hcall := hit y J Js W1 fp1 hJl hJsl hys hJ0 (fun b hb => (hfp1 b hb).1) (fun b hb hk => (hK b hk).2 ((hfp1 b hb).2 (hK b hk).1))
    ⟨hW1.os, hW1.tape, hW1.output, hW1.size, fun b hb hk => hW1.block b hb (fun hs => by
      have : K b := Classical.byContradiction hk
      exact (hK b this).2 hs)⟩
  obtain ⟨e, w', fr, ⟨v, rfl, fp', hgr, hend⟩, hsteps, _, hleave⟩ := hcall (C.b.atR { a with defers := [mark D] ++ a.defers } (.inRangeFunc l :: k) :: cs)
  have s2 := step_leave_returned (c := C.b.atR { a with defers := [mark D] ++ a.defers } (.inRangeFunc l :: k)) (cs := cs) hleave
  rw [finish_atR_inRangeFunc] at s2
  have hag : Agree C.S0 C.w0 w' := hW1.trans hgr.1 (fun i hi hl => (hfp1 i hi).2 hl)
  have key : ∀ (sx : S) (st : LoopState) (pd : Option Code) (h : List (Nat × Blk)) (M' : Loc) (fpX : Foot), st ≠ .busy → LoopJ ((C.withX (XS sx)).marked D) t a.tmps l rc st pd h M' fpX w' fp' →
      Run ((C.withX (XS sx)).marked D) ((pd.map Item.code).toList ++ k) ⟨tv ++ t, h, N⟩ → ∃ m, Steps C.P (lone (C.b.atR a (.code (.rangeFunc g ps assign body) :: k)) cs w) m ∧ C.Z cs m := by
    intro sx st pd h M' fpX hst hJ hr
    obtain ⟨k1, k2, k3⟩ := hJ.record (hLm sx) (o := .loop { rc with state := .exhausted, pending := pd })
    have hrel : Rel ((C.withX (XS sx)).marked D) M' fpX ⟨tv ++ t, h, N⟩ { a with defers := [mark D] ++ a.defers } (w'.putObj l (.loop { rc with state := .exhausted, pending := pd })) := by
      refine { heap := k1, inj := hJ.inj, own := hJ.own, apart := fun id B hB => (hJ.apart _ _ hB).1, agree := ?_, outer := k2, fpok := k3, size := hR.size, frozen := hR.frozen, tmps := hvt M' hJ.tmps, defers := ?_ }
      · refine agree_putObj hag (fun h => ?_)
        have : C.w0.heap.size ≤ l := hJ.lnew
        exact absurd (show l < C.w0.heap.size from h) (by omega)
      · show [mark D] ++ a.defers = mark D :: C.ds
        rw [hR.defers]; rfl
    obtain ⟨m, s, zz⟩ := hr M' fpX _ _ hrel cs
    have s3 := stepR_endRangeFunc (P := C.P) (b := C.b) (a := { a with defers := [mark D] ++ a.defers }) (k := k) (cs := cs) (run_endLoop (P := C.P) hJ.rc hst)
    exact ⟨m, .head s1 (Steps.trans hsteps (.head s2 (.head s3 s))), zz⟩
  rcases hend with ⟨sx, h, M', fpX, hI, hJ⟩ | ⟨pre, hpre, sx, c, h, M', fpX, hS, hJ⟩
  · exact key sx .ready none h M' fpX (by simp) hJ (hdone D sx h hI)
  · exact key sx .done (some c) h M' fpX (by simp) hJ (hstop D pre sx c h hpre hS)


/-- A round may end in more ways. -/
theorem Run.roundMono {C : Ctx} {lo : Nat} {a0 : Array Value} {l : Nat} {rc : Loop} {st : LoopState} {wy : World} {fpy : Foot} {Rr Rr' : Value → World → Prop} {todo : List Item} {σ : St} (h : ∀ v w, Rr v w → Rr' v w)
    (hr : Run (roundC C lo a0 l rc st wy fpy Rr) todo σ) : Run (roundC C lo a0 l rc st wy fpy Rr') todo σ := fun M fp a w hR cs => by
  obtain ⟨m, s, z⟩ := hr M fp a w { heap := hR.heap, inj := hR.inj, own := hR.own, apart := hR.apart, agree := hR.agree, outer := hR.outer, fpok := hR.fpok, size := hR.size, frozen := hR.frozen, tmps := hR.tmps, defers := hR.defers } cs
  refine ⟨m, s, fun c cs' e => ?_⟩
  obtain ⟨v, w', e1, h1⟩ := z c cs' e
  exact ⟨v, w', e1, h _ _ h1⟩
theorem roundRX_of {S : Type} {C : Ctx} {XS : S → Res} {D : Nat} {t : List (Nat × AV)} {a0 : Array Value} {l : Nat} {rc : Loop} {wy : World} {fpy : Foot} {Next : S → List (Nat × Blk) → Prop} {Stop : S → Code → List (Nat × Blk) → Prop} (s : S) :
    ∀ v w, roundR ((C.withX (XS s)).marked D) t a0 l rc wy fpy (Next s) (Stop s) v w → roundRX C XS D t a0 l rc wy fpy Next Stop v w := by
  rintro v w ⟨fp', hg, ⟨hv, h⟩ | ⟨hv, c, h⟩⟩
  · exact ⟨fp', hg, .inl ⟨hv, s, h⟩⟩
  · exact ⟨fp', hg, .inr ⟨hv, s, c, h⟩⟩
end Go.AM

/-
  The abstract machine, thirty-fourth part: function values that turn the outer part, called in rounds; a run begun anew where some blocks are given up. Own work; over any program.
-/
namespace Go.AM
open Go.RowKit

/-- A later base of the same run. -/
structure Base (S : Foot) (w : World) (S1 : Foot) (w1 : World) : Prop where
  agree : Agree S w w1
  old : ∀ b, S1 b → b < w.heap.size → S b

theorem Base.refl (S : Foot) (w : World) : Base S w S w := ⟨Agree.refl _ _, fun _ h _ => h⟩

theorem Base.trans {S S1 S2 : Foot} {w w1 w2 : World} (h : Base S w S1 w1) (k : Base S1 w1 S2 w2) : Base S w S2 w2 :=
  ⟨h.agree.trans k.agree (fun i hi hl => h.old i hi hl), fun b hb hl => h.old b (k.old b hb (Nat.lt_of_lt_of_le hl h.agree.size)) hl⟩

theorem Base.grown {S S1 fp' : Foot} {w w1 w' : World} (h : Base S w S1 w1) (k : Grown S1 w1 fp' w') : Grown S w fp' w' :=
  ⟨h.agree.trans k.1 (fun i hi hl => h.old i hi hl), fun b hb => ⟨(k.2 b hb).1, fun hl => h.old b ((k.2 b hb).2 (Nat.lt_of_lt_of_le hl h.agree.size)) hl⟩⟩

theorem Base.call {S S1 S3 : Foot} {w w1 w2 w3 : World} (h : Base S w S1 w1) (k : Agree S1 w1 w2) (l : Agree (fun _ => False) w2 w3) (hs : Since w1 S1 w2 S3) : Base S w S3 w3 :=
  ⟨(h.agree.trans k (fun i hi hl => h.old i hi hl)).trans l (fun _ f _ => f.elim), fun b hb hl => h.old b (Classical.byContradiction fun hn => hs.old b (Nat.lt_of_lt_of_le hl h.agree.size) hn hb) hl⟩

theorem RoundIn.base {C : Ctx} {lo : Nat} {t : List (Nat × AV)} {l : Nat} {wy : World} {fpy : Foot} (h : RoundIn C lo t l wy fpy) : Base C.S0 C.w0 fpy wy := ⟨h.w0, h.fy⟩

theorem Based.base {w0 w1 w2 : World} {S S2 : Foot} (h : Based w0 w1 S) (k : Base S w1 S2 w2) : Based w0 w2 S2 :=
  ⟨h.later k.agree, fun b hb => by
    rcases Nat.lt_or_ge b w1.heap.size with hl | hl
    · exact h.new b (k.old b hb hl)
    · exact Nat.le_trans h.agree.size hl⟩

/-- What a call of a function value does to the outer part. -/
def Does (P : Program) (y : Value) (x : List Value) (X : Res) (Q : Value → Res) (S : Foot) (w0 : World) : Prop :=
  ∀ w fp, X w fp → Grown S w0 fp w → CallsV P y x w fun v w' => ∃ fp', Grown fp w fp' w' ∧ Q v w' fp'

section
variable {P : Program} {y : Value} {x : List Value} {X : Res} {Q : Value → Res} {S S1 : Foot} {w0 w1 : World}

theorem Does.at (h : Does P y x X Q S w0) (hb : Base S w0 S1 w1) : Does P y x X Q S1 w1 := fun w fp hX hg => h w fp hX (hb.grown hg)

theorem Does.mark (h : Does P y x X Q S w0) (D : Nat) : Does P y x (markX X D) (fun v => markX (Q v) D) S w0 := by
  rintro w fp ⟨fpX, h1, h2, h3, h4⟩ hg
  refine (h w fpX h1 ⟨hg.1, fun b hb => hg.2 b ((h4 b).2 (.inl hb))⟩).mono fun v w' ⟨fp', k, q⟩ => ?_
  have hD : D < w.heap.size := (Array.getElem?_eq_some_iff.1 h3).1
  have hD' : ¬ fp' D := fun hf => h2 ((k.2 D hf).2 hD)
  refine ⟨fun b => fp' b ∨ b = D, ⟨⟨k.1.os, k.1.tape, k.1.output, k.1.size, fun b hb hs => k.1.block b hb (fun hf => hs ((h4 b).2 (.inl hf)))⟩, ?_⟩, fp', q, hD', ?_, fun b => Iff.rfl⟩
  · rintro b (hb | rfl)
    · exact ⟨(k.2 b hb).1, fun hl => (h4 b).2 (.inl ((k.2 b hb).2 hl))⟩
    · exact ⟨Nat.lt_of_lt_of_le hD k.1.size, fun _ => (h4 b).2 (.inr rfl)⟩
  · rw [k.1.block D hD h2]; exact h3

theorem Does.round (h : Does P y x X Q S w0) (l : Nat) (rc : Loop) (st : LoopState) : Does P y x (roundX X l rc st) (fun v => roundX (Q v) l rc st) S w0 := by
  rintro w fp ⟨fpX, h1, h2, h3, h4⟩ hg
  refine (h w fpX h1 ⟨hg.1, fun b hb => hg.2 b ((h4 b).2 (.inl hb))⟩).mono fun v w' ⟨fp', k, q⟩ => ?_
  have hD : l < w.heap.size := (Array.getElem?_eq_some_iff.1 h3).1
  have hD' : ¬ fp' l := fun hf => h2 ((k.2 l hf).2 hD)
  refine ⟨fun b => fp' b ∨ b = l, ⟨⟨k.1.os, k.1.tape, k.1.output, k.1.size, fun b hb hs => k.1.block b hb (fun hf => hs ((h4 b).2 (.inl hf)))⟩, ?_⟩, fp', q, hD', ?_, fun b => Iff.rfl⟩
  · rintro b (hb | rfl)
    · exact ⟨(k.2 b hb).1, fun hl => (h4 b).2 (.inl ((k.2 b hb).2 hl))⟩
    · exact ⟨Nat.lt_of_lt_of_le hD k.1.size, fun _ => (h4 b).2 (.inr rfl)⟩
  · rw [k.1.block l hD h2]; exact h3

def marksX (X : Res) : List Nat → Res
  | [] => X
  | D :: Ds => markX (marksX X Ds) D

theorem marksX_local (hX : Local X) : ∀ Ds : List Nat, Local (marksX X Ds)
  | [] => hX
  | D :: Ds => markX_local (marksX_local hX Ds) D

theorem Does.marks (h : Does P y x X Q S w0) : ∀ Ds : List Nat, Does P y x (marksX X Ds) (fun v => marksX (Q v) Ds) S w0
  | [] => h
  | D :: Ds => (Does.marks h Ds).mark D

theorem marksX_mono {X X' : Res} (h : ∀ w fp, X w fp → X' w fp) : ∀ (Ds : List Nat) w fp, marksX X Ds w fp → marksX X' Ds w fp
  | [], w, fp, hX => h w fp hX
  | D :: Ds, w, fp, ⟨fpX, h1, h2⟩ => ⟨fpX, marksX_mono h Ds w fpX h1, h2⟩

theorem marksX_ex {X : Res} : ∀ (Ds : List Nat) w fp, marksX X Ds w fp → ∃ fp', X w fp'
  | [], w, fp, hX => ⟨fp, hX⟩
  | D :: Ds, w, _, ⟨fpX, h1, _⟩ => marksX_ex Ds w fpX h1
end

/-- A function's surroundings behind some ranges, opened. -/
abbrev opM (P : Program) (f : FuncId) (lo n : Nat) (t0 : Array Value) (w : World) (S0 : Foot) (X : Res) (R : Value → World → Prop) (Ds : List Nat) : Ctx :=
  { fnC P f n w S0 (marksX X Ds) R with ds := Ds.map mark, n := ⟨lo, n⟩, t0 := t0 }

theorem opM_eq {P : Program} {f : FuncId} {n : Nat} {w : World} {S0 : Foot} {X : Res} {R : Value → World → Prop} : ∀ Ds : List Nat, opM P f 0 n #[] w S0 X R Ds = fnM P f n w S0 X R Ds
  | [] => rfl
  | D :: Ds => by
    show (opM P f 0 n #[] w S0 X R Ds).marked D = (fnM P f n w S0 X R Ds).marked D
    rw [opM_eq Ds]

theorem Run.thaw (C : Ctx) {lo hi lo' : Nat} {t0 t0' : Array Value} {todo : List Item} {σ : St} (hlo : lo' = 0) (h : Run { C with n := ⟨lo', hi⟩, t0 := t0' } todo σ) : Run { C with n := ⟨lo, hi⟩, t0 := t0 } todo σ := fun M fp a w hR cs =>
  h M fp a w { heap := hR.heap, inj := hR.inj, own := hR.own, apart := hR.apart, agree := hR.agree, outer := hR.outer, fpok := hR.fpok, size := hR.size, frozen := fun i hi => absurd (show i < lo' from hi) (by omega), tmps := hR.tmps, defers := hR.defers } cs

/-- A call of a function value that turns the outer part. -/
theorem Run.ask {C : Ctx} {k : List Item} {σ : St} {ops : Array Oper} {i : Nat} {rest : List Nat} {o : Oper} {c : Call} {g : Operand} {y : Value} {xs : List AV} {x : List Value} {Q : Value → Res}
    (hy : Does C.P y x C.X Q C.S0 C.w0)
    (ho : ops[i]? = some o) (hop : o.op = .call c) (hc : c.callee = .value g) (hg : σ.ev g = some (.v y)) (hxs : evs σ c.args.toList = some xs) (hx : toVs xs = some x) (hw : wantOf ops σ o = some .yes) (hd : dstOK C.n o.dst = true)
    (h : ∀ v w fp, Q v w fp → ∃ z X', (∀ M, conc M z = v) ∧ X' w fp ∧ Run (C.withX X') (.inRegion ops rest :: k) (σ.put o.dst z)) : Run C (.inRegion ops (i :: rest) :: k) σ := by
  refine Run.callV ho hop hc hg hxs hw fun M fp a w hR => ?_
  rw [toVs_conc hx]
  refine (hy w fp hR.outer ⟨hR.agree, hR.fpok⟩).mono fun v w' ⟨fp', hgr, hv⟩ cs => ?_
  obtain ⟨z, X', hz, hX', hr⟩ := h v w' fp' hv
  have := hr M fp' _ w' ((hR.grown hgr hX').put (C := C.withX X') (z := z) (dstOK_lt hd)) cs
  rwa [hz] at this

/-- The same in a round. -/
theorem Run.askRound {P : Program} {f : FuncId} {lo lo1 n l : Nat} {t0 a0 : Array Value} {w0 wy : World} {S0 fpy : Foot} {X : Res} {R Rr : Value → World → Prop} {Ds : List Nat} {rc : Loop} {k : List Item} {σ : St} {ops : Array Oper} {i : Nat} {rest : List Nat} {o : Oper} {c : Call} {g : Operand} {y : Value} {xs : List AV} {x : List Value} {Q : Value → Res}
    (hy : Does P y x X Q fpy wy)
    (ho : ops[i]? = some o) (hop : o.op = .call c) (hc : c.callee = .value g) (hg : σ.ev g = some (.v y)) (hxs : evs σ c.args.toList = some xs) (hx : toVs xs = some x) (hw : wantOf ops σ o = some .yes) (hd : dstOK ⟨lo1, n⟩ o.dst = true)
    (h : ∀ v w fp, Q v w fp → ∃ z X', (∀ M, conc M z = v) ∧ (∀ w fp, Q v w fp → X' w fp) ∧ Run (roundC (opM P f lo n t0 w0 S0 X' R Ds) lo1 a0 l rc .busy wy fpy Rr) (.inRegion ops rest :: k) (σ.put o.dst z)) :
    Run (roundC (opM P f lo n t0 w0 S0 X R Ds) lo1 a0 l rc .busy wy fpy Rr) (.inRegion ops (i :: rest) :: k) σ := by
  refine Run.ask (Q := fun v => roundX (marksX (Q v) Ds) l rc .busy) ((hy.marks Ds).round l rc .busy) ho hop hc hg hxs hx hw hd ?_
  rintro v w fp ⟨fpX, h1, h2, h3, h4⟩
  obtain ⟨fp1, hq⟩ := marksX_ex Ds w fpX h1
  obtain ⟨z, X', hz, hm, hr⟩ := h v w fp1 hq
  exact ⟨z, roundX (marksX X' Ds) l rc .busy, hz, ⟨fpX, marksX_mono hm Ds w fpX h1, h2, h3, h4⟩, hr⟩

/-- A range over an iterator in an iterator: the outer part turns. -/
theorem Run.rangeFnM {P : Program} {fu : FuncId} {lo0 n : Nat} {t0 : Array Value} {w0 : World} {S0 : Foot} {R : Value → World → Prop} {Ds : List Nat} {S : Type} (XS : S → Res) (hLS : ∀ s, Local (XS s)) (s0 : S) {k : List Item} {σ : St} {g : Operand} {ps : Array Tmp} {assign body : Code} {f : FuncId} {vs : List Value} {z : AV}
    (hg : σ.ev g = some z) (hz : ∀ M, conc M z = .func (.func f) #[] vs.toArray) (hent : Enters P f)
    (lo : Nat) (tv t : List (Nat × AV)) (hvin : inT σ.t tv) (hvp : plainT tv = true) (htin : inT σ.t t) (hlo : keysLt lo t = true) (hps : psOK lo n ps.toList = true)
    {K : Nat → Prop} {xs : List (List Value)} (hit : Iter P f vs K w0 xs) (hK : ∀ b, K b → b < w0.heap.size ∧ ¬ S0 b) (hlen : ∀ x ∈ xs, x.length = ps.size)
    (Inv : List (List Value) → S → List (Nat × Blk) → Prop) (Stop : List (List Value) → S → Code → List (Nat × Blk) → Prop) (N : Nat)
    (h0 : List (Nat × Blk)) (hI0 : Inv [] s0 h0) (hin : inT σ.h h0)
    (hround : ∀ D l a0 rc wy fpy pre x s h Rr, (∀ s', RoundIn (opM P fu lo0 n t0 w0 S0 (XS s') R (D :: Ds)) lo t l wy fpy) → pre ++ [x] <+: xs → Inv pre s h →
      (∀ s' v w', roundR (opM P fu lo0 n t0 w0 S0 (XS s') R (D :: Ds)) t a0 l rc wy fpy (Inv (pre ++ [x]) s') (Stop (pre ++ [x]) s') v w' → Rr v w') →
      Run (roundC (opM P fu lo0 n t0 w0 S0 (XS s) R (D :: Ds)) lo a0 l rc .ready wy fpy Rr) [.code assign, .beginRound, .code body] ⟨parT (ps.toList.zip x) (tv ++ t), h, N⟩)
    (hdone : ∀ D s h, Inv xs s h → Run (opM P fu lo0 n t0 w0 S0 (XS s) R (D :: Ds)) k ⟨tv ++ t, h, N⟩)
    (hstop : ∀ D pre s c h, pre <+: xs → Stop pre s c h → Run (opM P fu lo0 n t0 w0 S0 (XS s) R (D :: Ds)) (.code c :: k) ⟨tv ++ t, h, N⟩) :
    Run (opM P fu lo0 n t0 w0 S0 (XS s0) R Ds) (.code (.rangeFunc g ps assign body) :: k) σ := by
  refine Run.rangeFnX (fun s => marksX (XS s) Ds) (fun s => marksX_local (hLS s) Ds) s0 rfl rfl hg hz hent lo tv t hvin hvp htin hlo hps hit hK hlen Inv Stop N h0 hI0 hin ?_ ?_ ?_
  · intro D l a0 rc wy fpy pre x s h hI hp hinv
    refine hround D l a0 rc wy fpy pre x s h _ (fun s' => ⟨markX_local (marksX_local (hLS s') Ds) D, hI.lw, hI.w0, hI.fy, hI.ln, hI.lo⟩) hp hinv fun s' v w' hr => ?_
    exact roundRX_of s' v w' hr
  · exact hdone
  · exact hstop

/-- An iterator's return behind ranges. -/
theorem Run.retIM {P : Program} {T : Tab} (hT : tabOK P T) {f : FuncId} {fn : Func} {lo n : Nat} {t0 : Array Value} {w0 : World} {S0 : Foot} {X : Res} (hX : Local X) {R : Value → World → Prop} {σ : St} {k : List Item} {Ds : List Nat}
    (hf : P.funcs[f]? = some fn) (hres : fn.results = #[]) (hR : ∀ v w' fp', Grown S0 w0 fp' w' → X w' fp' → R v w') : Run (opM P f lo n t0 w0 S0 X R Ds) (.code .ret :: k) σ := by
  refine Run.thaw (opM P f 0 n #[] w0 S0 X R Ds) (hi := n) (lo' := 0) (t0' := #[]) rfl ?_
  show Run (opM P f 0 n #[] w0 S0 X R Ds) (.code .ret :: k) σ
  rw [opM_eq]
  exact Run.retM (p := True) (l := []) hT hX hf (by rw [hres]; rfl) trivial fun M fp a w hr => hR _ w fp ⟨hr.agree, hr.fpok⟩ hr.outer

theorem Run.finIM {P : Program} {T : Tab} (hT : tabOK P T) {f : FuncId} {fn : Func} {lo n : Nat} {t0 : Array Value} {w0 : World} {S0 : Foot} {X : Res} (hX : Local X) {R : Value → World → Prop} {σ : St} {Ds : List Nat}
    (hf : P.funcs[f]? = some fn) (hres : fn.results = #[]) (hR : ∀ v w' fp', Grown S0 w0 fp' w' → X w' fp' → R v w') : Run (opM P f lo n t0 w0 S0 X R Ds) [] σ := by
  refine Run.thaw (opM P f 0 n #[] w0 S0 X R Ds) (hi := n) (lo' := 0) (t0' := #[]) rfl ?_
  show Run (opM P f 0 n #[] w0 S0 X R Ds) [] σ
  rw [opM_eq]
  exact Run.finM (p := True) (l := []) hT hX hf (by rw [hres]; rfl) trivial fun M fp a w hr => hR _ w fp ⟨hr.agree, hr.fpok⟩ hr.outer

/-- One cell of any type of one cell, loaded out of old memory. -/
theorem Run.loadExt {C : Ctx} {ops : Array Oper} {i : Nat} {rest : List Nat} {k : List Item} {σ : St} {o : Oper} {T : Tab} {t : Nat} {ti : TI} {a : Addr} {v : Value} {x : Operand}
    (hT : tabOK C.P T) (ho : ops[i]? = some o) (hop : o.op = .load t x) (hx : σ.ev x = some (.v (.pointer (some a)))) (hi : lk T t = some ti) (h1 : oneCellTy ti.d = true) (hc : C.w0.cell? a = some v) (hs : ¬ C.S0 a.block)
    (hw : wantOf ops σ o = some .yes) (hd : dstOK C.n o.dst = true) (h : Run C (.inRegion ops rest :: k) (σ.put o.dst (.v v))) : Run C (.inRegion ops (i :: rest) :: k) σ := by
  intro M fp ac w hR cs
  obtain ⟨m, s, z'⟩ := h M fp _ w (hR.put (z := .v v) (dstOK_lt hd)) cs
  refine ⟨m, .head (step_value ho (wantOf_yes hR.q hw) (fun c e => by rw [hop] at e; cases e) ?_) s, z'⟩
  have h2 := hR.q.ev hx
  simp only [conc] at h2
  have h3 := run_loadVar_one (w := w) hT hi h1 (hR.agree.cell hc hs)
  simp [execOp, hop, h2, Instr.loadAt, Instr.sureAddr, conc, h3]

/-! ### A run begun anew; some blocks are given up -/

def inTM (M : Loc) (t : List (Nat × AV)) : List (Nat × AV) → Prop
  | [] => True
  | (i, x) :: r => (∃ y, lk t i = some y ∧ conc M y = conc M x) ∧ inTM M t r

theorem inTM_lk {M : Loc} {t : List (Nat × AV)} : ∀ {l : List (Nat × AV)} {i : Nat} {x : AV}, inTM M t l → lk l i = some x → ∃ y, lk t i = some y ∧ conc M y = conc M x
  | [], i, x, _, h => by cases h
  | (j, z) :: r, i, x, hb, h => by
    simp only [lk] at h
    split at h
    · rename_i he
      have e := Nat.eq_of_beq_eq_true he
      subst e; cases h
      exact hb.1
    · exact inTM_lk hb.2 h

theorem Run.anew {C : Ctx} {todo : List Item} {σ : St} (lo : Nat) (T' : Loc → List (Nat × AV)) (h' : List (Nat × Blk)) (nx : Nat) (ht : ∀ M, inTM M σ.t (T' M)) (hh : inT σ.h h')
    (h : ∀ M w S1 t0, Base C.S0 C.w0 S1 w → (∀ id B, lk σ.h id = some B → BlkAt M w id B) → (∀ id B, lk σ.h id = some B → lk h' id = none → ¬ S1 (M id).1) →
      (∀ i x, lk σ.t i = some x → t0[i]? = some (conc M x)) → Run { C with w0 := w, S0 := S1, n := ⟨lo, C.n.hi⟩, t0 := t0 } todo ⟨T' M, h', nx⟩) : Run C todo σ := by
  intro M fp a w hR cs
  have hk : ∀ id B, lk h' id = some B → lk σ.h id = some B := fun id B hB => inT_lk hh id B hB
  refine h M w (fun b => fp b ∨ ∃ id B, lk h' id = some B ∧ (M id).1 = b) a.tmps ⟨hR.agree, ?_⟩ hR.heap ?_ hR.tmps M fp a w ?_ cs
  · rintro b (hb | ⟨id, B, hB, rfl⟩) hl
    · exact (hR.fpok b hb).2 hl
    · exact hR.own _ _ (hk _ _ hB) hl
  · rintro id B hB hn (hf | ⟨id', B', hB', e⟩)
    · exact hR.apart _ _ hB hf
    · have := hR.inj _ _ _ _ (hk _ _ hB') hB e
      subst this
      rw [hB'] at hn; cases hn
  · refine { heap := fun id B hB => hR.heap _ _ (hk _ _ hB), inj := fun id id' B B' hB hB' e => hR.inj _ _ _ _ (hk _ _ hB) (hk _ _ hB') e, own := fun id B hB _ => .inr ⟨id, B, hB, rfl⟩,
             apart := fun id B hB => hR.apart _ _ (hk _ _ hB), agree := Agree.refl _ _, outer := hR.outer, fpok := fun b hb => ⟨(hR.fpok b hb).1, fun _ => .inl hb⟩, size := hR.size, frozen := fun i _ => rfl,
             tmps := fun i x hx => ?_, defers := hR.defers }
    obtain ⟨y, hy, e⟩ := inTM_lk (ht M) hx
    rw [hR.tmps i y hy, e]
end Go.AM

/-
  The abstract machine, thirty-seventh part: a range over an iterator that hands over blocks, of which the outer part takes some; blocks given to the outer part. Own work; over any program.
-/
namespace Go.AM
open Go.RowKit

theorem Run.rangeFnHX {α : Type} {C : Ctx} {S : Type} (XS : S → Res) (hLS : ∀ s, Local (XS s)) (s0 : S) (hX0 : C.X = XS s0) {k : List Item} {σ : St} {g : Operand} {p : Tmp} {assign body : Code} {f : FuncId} {vs : List Value} {z : AV}
    (hro : C.b.roundOf = none) (hg : σ.ev g = some z) (hz : ∀ M, conc M z = .func (.func f) #[] vs.toArray) (hent : Enters C.P f)
    (lo : Nat) (t : List (Nat × AV)) (htin : inT σ.t t) (hlo : keysLt lo t = true) (hp : Nat.ble lo p = true) (hp2 : Nat.blt p C.n.hi = true)
    {K : Nat → Prop} {xs : List α} {zf : α → AV} {hf : α → List (Nat × Blk)} (hit : IterH C.P f vs K C.w0 xs zf hf) (hK : ∀ b, K b → b < C.w0.heap.size ∧ ¬ C.S0 b)
    (Inv : List α → S → List (Nat × Blk) → Prop) (Stop : List α → S → Code → List (Nat × Blk) → Prop) (N m : Nat)
    (htb : tBelow N t = true) (hib : ∀ pre s h, Inv pre s h → hBelow N h = true) (hfge : ∀ x ∈ xs, hGe N m (hf x) = true) (hzge : ∀ x ∈ xs, (zf x).ge N = true)
    (h0 : List (Nat × Blk)) (hI0 : Inv [] s0 h0) (hin : inT σ.h h0)
    (hround : ∀ D l a0 rc wy fpy pre x s h, (∀ s', RoundIn ((C.withX (XS s')).marked D) lo t l wy fpy) → pre ++ [x] <+: xs → Inv pre s h →
      Run (roundC ((C.withX (XS s)).marked D) lo a0 l rc .ready wy fpy (roundRX C XS D t a0 l rc wy fpy (Inv (pre ++ [x])) (Stop (pre ++ [x])))) [.code assign, .beginRound, .code body] ⟨(p, zf x) :: t, hf x ++ h, m⟩)
    (hdone : ∀ D s h, Inv xs s h → Run ((C.withX (XS s)).marked D) k ⟨t, h, N⟩)
    (hstop : ∀ D pre s c h, pre <+: xs → Stop pre s c h → Run ((C.withX (XS s)).marked D) (.code c :: k) ⟨t, h, N⟩) :
    Run C (.code (.rangeFunc g #[p] assign body) :: k) σ := by
  have hL : Local C.X := by rw [hX0]; exact hLS s0
  intro M fp a w hR cs
  let D := w.heap.size
  let l := w.heap.size + 1
  let rc : Loop := { state := .ready, pending := none, fn := C.b.fn, tmps := a.tmps, params := #[p], assign, body, defers := D }
  let W1 : World := (w.alloc (.deferred (some []))).alloc (.loop rc)
  let y : Value := .func (.yield l) #[] #[]
  have he : (Instr.enterLoop C.b.fn a.tmps #[p] assign body C.b.roundOf).run C.P w = .ok (l, [mark D]) W1 := by rw [hro]; exact run_enterLoop_outer C.b.fn a.tmps #[p] assign body
  have hres : (resolve a.eval (rangeCall g l) 0).run C.P W1 = .ok { target := .fn (.func f) vs.toArray, args := #[y] } W1 := by
    simp [resolve, hR.q.ev hg, hz, Deferred.ofValue, y]
    rfl
  have hinv : (invoke (.fn (.func f) vs.toArray) #[y]).run C.P W1 = .ok (.enter f (y :: vs).toArray) W1 := by
    have : (#[y] ++ vs.toArray : Array Value) = (y :: vs).toArray := by simp
    simp only [invoke, this, hent _ _]
  have s1 := stepR_rangeFunc (P := C.P) (b := C.b) (a := a) (k := k) (cs := cs) (w := w) he hres hinv
  have hws : W1.heap.size = w.heap.size + 2 := by simp only [W1, World.size_alloc]
  have hold : ∀ b, b < w.heap.size → W1.heap[b]? = w.heap[b]? := by
    intro b hb
    rw [old_alloc _ _ (by rw [World.size_alloc]; omega), old_alloc _ _ hb]
  have hD : W1.heap[D]? = some (.deferred (some [])) := by
    rw [old_alloc _ _ (by rw [World.size_alloc]; omega)]
    exact World.alloc_heap_new _ _
  have hl : W1.heap[l]? = some (.loop rc) := by
    have := World.alloc_heap_new (w.alloc (.deferred (some []))) (.loop rc)
    rw [show (w.alloc (.deferred (some []))).heap.size = l by simp only [World.size_alloc, l]] at this
    exact this
  have hblk : ∀ id B, lk h0 id = some B → lk σ.h id = some B := fun id B hB => inT_lk hin id B hB
  let J : List α → Res := fun pre w fp => ∃ s h M fpX, Inv pre s h ∧ LoopJ ((C.withX (XS s)).marked D) t a.tmps l rc .ready none h M fpX w fp
  let Js : List α → Res := fun pre w fp => ∃ s c h M fpX, Stop pre s c h ∧ LoopJ ((C.withX (XS s)).marked D) t a.tmps l rc .done (some c) h M fpX w fp
  have hLm : ∀ s, Local ((C.withX (XS s)).marked D).X := fun s => markX_local (hLS s) D
  have hJl : ∀ pre, Local (J pre) := fun pre w w' fp ⟨s, h, M, fpX, h1, h2⟩ _ hs => ⟨s, h, M, fpX, h1, h2.moved (hLm s) hs⟩
  have hJsl : ∀ pre, Local (Js pre) := fun pre w w' fp ⟨s, c, h, M, fpX, h1, h2⟩ _ hs => ⟨s, c, h, M, fpX, h1, h2.moved (hLm s) hs⟩
  let fp1 : Foot := fun b => (fp b ∨ b = D) ∨ b = l ∨ ∃ id B, lk h0 id = some B ∧ (M id).1 = b
  have hfl : ∀ b, fp b → b < w.heap.size := fun b hb => (hR.fpok b hb).1
  have hml : ∀ id B, lk h0 id = some B → (M id).1 < w.heap.size := fun id B hB => (hR.heap _ _ (hblk _ _ hB)).lt
  have hwle : C.w0.heap.size ≤ w.heap.size := hR.agree.size
  have hfp1 : ∀ b, fp1 b → b < W1.heap.size ∧ (b < C.w0.heap.size → C.S0 b) := by
    intro b hb
    rw [hws]
    rcases hb with (hb | rfl) | rfl | ⟨id, B, hB, rfl⟩
    · exact ⟨by have := hfl b hb; omega, (hR.fpok b hb).2⟩
    · exact ⟨by simp only [D]; omega, fun h => by simp only [D] at h; omega⟩
    · exact ⟨by simp only [l]; omega, fun h => by simp only [l] at h; omega⟩
    · exact ⟨by have := hml _ _ hB; omega, hR.own _ _ (hblk _ _ hB)⟩
  have hW1 : Agree C.S0 C.w0 W1 := ⟨hR.agree.os, hR.agree.tape, hR.agree.output, by rw [hws]; omega, fun b hb hs => by rw [hold b (by omega)]; exact hR.agree.block b hb hs⟩
  have hJ0 : J [] W1 fp1 := by
    refine ⟨s0, h0, M, fun b => fp b ∨ b = D, hI0, ?_⟩
    refine { tmps := fun i x hx => hR.tmps i x (inT_lk htin i x hx), heap := ?_, inj := ?_, own := ?_, apart := ?_, outer := ?_, fpok := ?_, rc := hl, lX := ?_, lnew := ?_, foot := fun b => Iff.rfl }
    · exact fun id B hB => (hR.heap _ _ (hblk _ _ hB)).same (hold _ (hml _ _ hB))
    · exact fun id id' B B' hB hB' e => hR.inj _ _ _ _ (hblk _ _ hB) (hblk _ _ hB') e
    · exact fun id B hB => hR.own _ _ (hblk _ _ hB)
    · intro id B hB
      have := hml _ _ hB
      refine ⟨fun hf => ?_, fun e => by simp only [l] at e; omega⟩
      rcases hf with hf | hf
      · exact hR.apart _ _ (hblk _ _ hB) hf
      · simp only [D] at hf; omega
    · exact ⟨fp, hX0 ▸ hL w W1 fp hR.outer hfl (fun b hb => hold b (hfl b hb)), fun hf => Nat.lt_irrefl _ (hfl _ hf), hD, fun b => Iff.rfl⟩
    · intro b hb
      exact hfp1 b (.inl hb)
    · intro hf
      rcases hf with hf | hf
      · have := hfl _ hf; simp only [l] at this; omega
      · simp only [l, D] at hf; omega
    · show C.w0.heap.size ≤ l
      simp only [l]; omega
  have hys : ∀ pre x, pre ++ [x] <+: xs → YieldsH C.P y J Js W1 fp1 pre x (zf x) (hf x) := by
    intro pre x hpx wy fpy F v hJy hitem hFf hgr
    obtain ⟨sx, h, M', fpX, hinvp, hJ⟩ := hJy
    obtain ⟨Mi, hv, hbi, hji, hFi⟩ := hitem
    have hx := hpx.subset (show x ∈ pre ++ [x] by simp)
    have hge := hfge x hx
    have hzg := hzge x hx
    have hbel := hib _ _ _ hinvp
    have hag : Agree C.S0 C.w0 wy := hW1.trans hgr.1 (fun i hi hl => (hfp1 i hi).2 hl)
    let fpz : Foot := fun b => fpy b ∨ F b
    have hfy : ∀ b, fpz b → b < C.w0.heap.size → C.S0 b := fun b hb hlt => (hfp1 b ((hgr.2 b hb).2 (by have := hW1.size; omega))).2 hlt
    let M'' : Loc := fun i => if i < N then M' i else Mi i
    have hlow : ∀ i, i < N → M'' i = M' i := fun i hi => by simp only [M'', if_pos hi]
    have hhi : ∀ i, N ≤ i → M'' i = Mi i := fun i hi => by simp only [M'', if_neg (Nat.not_lt.2 hi)]
    have key : ∀ id B, lk (hf x ++ h) id = some B → (N ≤ id ∧ lk (hf x) id = some B) ∨ (id < N ∧ lk h id = some B) := by
      intro id B hB
      rw [lk_append] at hB
      split at hB
      · rename_i u hu
        cases hB
        exact .inl ⟨(hGe_lk hge hu).1, hu⟩
      · exact .inr ⟨(lkh_below hbel hB).1, hB⟩
    have hinF : ∀ id B, lk (hf x) id = some B → F (Mi id).1 := fun id B hB => (hFi _).2 ⟨id, B, hB, rfl⟩
    have hinY : ∀ id B, lk h id = some B → fpy (M' id).1 := fun id B hB => (hJ.foot _).2 (.inr (.inr ⟨id, B, hB, rfl⟩))
    have hrun := run_yield (P := C.P) (args := #[v]) hJ.rc (by simp [rc])
    refine ⟨{ target := .fn (.yield l) #[], args := #[v] }, _, by simp [Deferred.ofValue, y], by simp only [invoke]; exact hrun, ?_⟩
    intro c cs'
    have hpl : p < a.tmps.size := by rw [hR.size]; simpa using hp2
    let a' : Act := { tmps := a.tmps.setIfInBounds p v, defers := [] }
    have htm : (#[p].zip #[v]).foldl (fun tmps (q : Nat × Value) => tmps.setIfInBounds q.1 q.2) a.tmps = a.tmps.setIfInBounds p v := by simp
    have hI : ∀ s', RoundIn ((C.withX (XS s')).marked D) lo t l wy fpz := fun s' => ⟨hLm s', .inl ((hJ.foot l).2 (.inr (.inl rfl))), hag, hfy, hJ.lnew, hlo⟩
    have hrel : Rel (roundC ((C.withX (XS sx)).marked D) lo a.tmps l rc .ready wy fpz (roundRX C XS D t a.tmps l rc wy fpz (Inv (pre ++ [x])) (Stop (pre ++ [x])))) M'' (fun b => fpX b ∨ b = l) ⟨(p, zf x) :: t, hf x ++ h, m⟩ a' wy := by
      refine { heap := ?_, inj := ?_, own := ?_, apart := ?_, agree := Agree.refl _ _, outer := ⟨fpX, hJ.outer, hJ.lX, hJ.rc, fun b => Iff.rfl⟩, fpok := ?_, size := ?_, frozen := ?_, tmps := ?_, defers := rfl }
      · intro id B hB
        rcases key id B hB with ⟨h1, h2⟩ | ⟨h1, h2⟩
        · exact BlkAt.congrG hhi h1 (hGe_lk hge h2).2.2.1 (hbi id B h2)
        · exact BlkAt.congr hlow h1 (lkh_below hbel h2).2 rfl (hJ.heap id B h2)
      · intro id id' B B' hB hB' e
        rcases key id B hB with ⟨h1, h2⟩ | ⟨h1, h2⟩ <;> rcases key id' B' hB' with ⟨h3, h4⟩ | ⟨h3, h4⟩
        · rw [hhi id h1, hhi id' h3] at e; exact hji _ _ _ _ h2 h4 e
        · rw [hhi id h1, hlow id' h3] at e; exact (hFf _ (hinF _ _ h2) (e ▸ hinY _ _ h4)).elim
        · rw [hlow id h1, hhi id' h3] at e; exact (hFf _ (hinF _ _ h4) (e ▸ hinY _ _ h2)).elim
        · rw [hlow id h1, hlow id' h3] at e; exact hJ.inj _ _ _ _ h2 h4 e
      · intro id B hB _
        rcases key id B hB with ⟨h1, h2⟩ | ⟨h1, h2⟩
        · rw [hhi id h1]; exact .inr (hinF _ _ h2)
        · rw [hlow id h1]; exact .inl (hinY _ _ h2)
      · intro id B hB hf'
        rcases key id B hB with ⟨h1, h2⟩ | ⟨h1, h2⟩
        · rw [hhi id h1] at hf'
          refine hFf _ (hinF _ _ h2) ((hJ.foot _).2 ?_)
          exact hf'.imp (fun h => h) .inl
        · rw [hlow id h1] at hf'
          exact hf'.elim (hJ.apart _ _ h2).1 (hJ.apart _ _ h2).2
      · intro b hb
        have hb' : fpy b := (hJ.foot b).2 (hb.imp id .inl)
        exact ⟨(hgr.2 b (.inl hb')).1, fun _ => .inl hb'⟩
      · show a'.tmps.size = C.n.hi
        simp only [a', Array.size_setIfInBounds]; exact hR.size
      · intro i hi
        show (a.tmps.setIfInBounds p v)[i]? = a.tmps[i]?
        have hi' : i < lo := hi
        have : p ≠ i := fun e => Nat.lt_irrefl i (Nat.lt_of_lt_of_le hi' (e ▸ Nat.le_of_ble_eq_true hp))
        rw [Array.getElem?_setIfInBounds, if_neg this]
      · intro i u hu
        simp only [lk] at hu
        show (a.tmps.setIfInBounds p v)[i]? = _
        split at hu
        · rename_i he
          have e := Nat.eq_of_beq_eq_true he
          subst e; cases hu
          rw [Array.getElem?_setIfInBounds, if_pos rfl, if_pos hpl, conc_congrG hhi _ hzg, hv]
        · rename_i he
          have hne : p ≠ i := fun e => by subst e; simp at he
          rw [Array.getElem?_setIfInBounds, if_neg hne, hJ.tmps i u hu, conc_congr hlow u (lk_below htb hu)]
    obtain ⟨m', s, zz⟩ := hround D l a.tmps rc wy fpz pre x sx h hI hpx hinvp M'' _ a' wy hrel (c :: cs')
    obtain ⟨r, w', rfl, fp', hg', hv'⟩ := zz c cs' rfl
    refine ⟨r, w', ⟨fp', hg', ?_⟩, ?_⟩
    · rcases hv' with ⟨hv', hh⟩ | ⟨hv', hh⟩
      · exact .inl ⟨hv', hh⟩
      · exact .inr ⟨hv', hh⟩
    · have hfr : Frame.round l C.b.fn ((#[p].zip #[v]).foldl (fun tmps (q : Nat × Value) => tmps.setIfInBounds q.1 q.2) a.tmps) assign body .normal =
          (roundC ((C.withX (XS sx)).marked D) lo a.tmps l rc .ready wy fpz (roundRX C XS D t a.tmps l rc wy fpz (Inv (pre ++ [x])) (Stop (pre ++ [x])))).b.atR a' [.code assign, .beginRound, .code body] := by
        rw [htm]; simp [Frame.round, Frame.atR, roundC, Ctx.marked, a']
      exact hfr ▸ s
  have hcall := hit y J Js W1 fp1 hJl hJsl hys hJ0 (fun b hb => (hfp1 b hb).1) (fun b hb hk => (hK b hk).2 ((hfp1 b hb).2 (hK b hk).1))
    ⟨hW1.os, hW1.tape, hW1.output, hW1.size, fun b hb hk => hW1.block b hb (fun hs => by
      have : K b := Classical.byContradiction hk
      exact (hK b this).2 hs)⟩
  obtain ⟨e, w', fr, ⟨v, rfl, fp', hgr, hend⟩, hsteps, _, hleave⟩ := hcall (C.b.atR { a with defers := [mark D] ++ a.defers } (.inRangeFunc l :: k) :: cs)
  have s2 := step_leave_returned (c := C.b.atR { a with defers := [mark D] ++ a.defers } (.inRangeFunc l :: k)) (cs := cs) hleave
  rw [finish_atR_inRangeFunc] at s2
  have hag : Agree C.S0 C.w0 w' := hW1.trans hgr.1 (fun i hi hl => (hfp1 i hi).2 hl)
  have key : ∀ (sx : S) (st : LoopState) (pd : Option Code) (h : List (Nat × Blk)) (M' : Loc) (fpX : Foot), st ≠ .busy → LoopJ ((C.withX (XS sx)).marked D) t a.tmps l rc st pd h M' fpX w' fp' →
      Run ((C.withX (XS sx)).marked D) ((pd.map Item.code).toList ++ k) ⟨t, h, N⟩ → ∃ m, Steps C.P (lone (C.b.atR a (.code (.rangeFunc g #[p] assign body) :: k)) cs w) m ∧ C.Z cs m := by
    intro sx st pd h M' fpX hst hJ hr
    obtain ⟨k1, k2, k3⟩ := hJ.record (hLm sx) (o := .loop { rc with state := .exhausted, pending := pd })
    have hrel : Rel ((C.withX (XS sx)).marked D) M' fpX ⟨t, h, N⟩ { a with defers := [mark D] ++ a.defers } (w'.putObj l (.loop { rc with state := .exhausted, pending := pd })) := by
      refine { heap := k1, inj := hJ.inj, own := hJ.own, apart := fun id B hB => (hJ.apart _ _ hB).1, agree := ?_, outer := k2, fpok := k3, size := hR.size, frozen := hR.frozen, tmps := hJ.tmps, defers := ?_ }
      · refine agree_putObj hag (fun h => ?_)
        have : C.w0.heap.size ≤ l := hJ.lnew
        exact absurd (show l < C.w0.heap.size from h) (by omega)
      · show [mark D] ++ a.defers = mark D :: C.ds
        rw [hR.defers]; rfl
    obtain ⟨m, s, zz⟩ := hr M' fpX _ _ hrel cs
    have s3 := stepR_endRangeFunc (P := C.P) (b := C.b) (a := { a with defers := [mark D] ++ a.defers }) (k := k) (cs := cs) (run_endLoop (P := C.P) hJ.rc hst)
    exact ⟨m, .head s1 (Steps.trans hsteps (.head s2 (.head s3 s))), zz⟩
  rcases hend with ⟨sx, h, M', fpX, hI, hJ⟩ | ⟨pre, hpre, sx, c, h, M', fpX, hS, hJ⟩
  · exact key sx .ready none h M' fpX (by simp) hJ (hdone D sx h hI)
  · exact key sx .done (some c) h M' fpX (by simp) hJ (hstop D pre sx c h hpre hS)

/-- The outer part takes a footprint in. -/
def Joins (X : Res) (F : Foot) (X' : Res) (w : World) : Prop := ∀ fp, X w fp → (∀ b, F b → ¬ fp b) → X' w (fun b => fp b ∨ F b)

theorem Joins.mark {X X' : Res} {F : Foot} {w : World} (h : Joins X F X' w) (D : Nat) : Joins (markX X D) F (markX X' D) w := by
  rintro fp ⟨fpX, h1, h2, h3, h4⟩ hF
  refine ⟨fun b => fpX b ∨ F b, h fpX h1 (fun b hb hf => hF b hb ((h4 b).2 (.inl hf))), ?_, h3, fun b => ?_⟩
  · rintro (hf | hf)
    · exact h2 hf
    · exact hF D hf ((h4 D).2 (.inr rfl))
  · show fp b ∨ F b ↔ (fpX b ∨ F b) ∨ b = D
    rw [h4 b]
    constructor
    · rintro ((h | h) | h)
      · exact .inl (.inl h)
      · exact .inr h
      · exact .inl (.inr h)
    · rintro ((h | h) | h)
      · exact .inl (.inl h)
      · exact .inr h
      · exact .inl (.inr h)

theorem Joins.round {X X' : Res} {F : Foot} {w : World} (h : Joins X F X' w) (l : Nat) (rc : Loop) (st : LoopState) : Joins (roundX X l rc st) F (roundX X' l rc st) w := by
  rintro fp ⟨fpX, h1, h2, h3, h4⟩ hF
  refine ⟨fun b => fpX b ∨ F b, h fpX h1 (fun b hb hf => hF b hb ((h4 b).2 (.inl hf))), ?_, h3, fun b => ?_⟩
  · rintro (hf | hf)
    · exact h2 hf
    · exact hF l hf ((h4 l).2 (.inr rfl))
  · show fp b ∨ F b ↔ (fpX b ∨ F b) ∨ b = l
    rw [h4 b]
    constructor
    · rintro ((h | h) | h)
      · exact .inl (.inl h)
      · exact .inr h
      · exact .inl (.inr h)
    · rintro ((h | h) | h)
      · exact .inl (.inl h)
      · exact .inr h
      · exact .inl (.inr h)

/-- The outer part, seen otherwise. -/
theorem Run.toX {C : Ctx} {todo : List Item} {σ : St} (X' : Res) (hX : ∀ w fp, C.X w fp → X' w fp) (h : Run (C.withX X') todo σ) : Run C todo σ := fun M fp a w hR cs =>
  h M fp a w { heap := hR.heap, inj := hR.inj, own := hR.own, apart := hR.apart, agree := hR.agree, outer := hX _ _ hR.outer, fpok := hR.fpok, size := hR.size, frozen := hR.frozen, tmps := hR.tmps, defers := hR.defers } cs

/-- An owned block is given to the outer part. -/
theorem Run.give {C : Ctx} {todo : List Item} {σ : St} (id : Nat) {B : Blk} (X' : Loc → Res) (T' : Loc → List (Nat × AV)) (h' : List (Nat × Blk)) (nx : Nat) (hB : lk σ.h id = some B) (hh : inT σ.h h') (hn : lk h' id = none) (ht : ∀ M, inTM M σ.t (T' M))
    (hj : ∀ M w, BlkAt M w id B → Joins C.X (fun b => b = (M id).1) (X' M) w)
    (h : ∀ M, Run (C.withX (X' M)) todo ⟨T' M, h', nx⟩) : Run C todo σ := by
  intro M fp a w hR cs
  have hk : ∀ i B, lk h' i = some B → lk σ.h i = some B := fun i B hB => inT_lk hh i B hB
  have hb := hR.heap _ _ hB
  refine h M M (fun b => fp b ∨ b = (M id).1) a w ?_ cs
  refine { heap := fun i B hB => hR.heap _ _ (hk _ _ hB), inj := fun i j B B' hB hB' e => hR.inj _ _ _ _ (hk _ _ hB) (hk _ _ hB') e, own := fun i B hB => hR.own _ _ (hk _ _ hB),
           apart := ?_, agree := hR.agree, outer := hj M w hb fp hR.outer (fun b hb => by rw [hb]; exact hR.apart _ _ hB), fpok := ?_, size := hR.size, frozen := hR.frozen, tmps := fun i x hx => ?_, defers := hR.defers }
  · rintro i Bi hi (hf | hf)
    · exact hR.apart _ _ (hk _ _ hi) hf
    · have := hR.inj _ _ _ _ (hk _ _ hi) hB hf
      subst this
      rw [hi] at hn; cases hn
  · rintro b (hf | rfl)
    · exact hR.fpok b hf
    · exact ⟨hb.lt, hR.own _ _ hB⟩
  · obtain ⟨y, hy, e⟩ := inTM_lk (ht M) hx
    rw [hR.tmps i y hy, e]
end Go.AM

/-
  The abstract machine, thirty-eighth part: operations that turn the outer part; blocks given to it along an order. Own work; over any program.
-/
namespace Go.AM
open Go.RowKit

section
variable {C : Ctx} {ops : Array Oper} {i : Nat} {rest : List Nat} {k : List Item} {σ : St} {o : Oper}

/-- An operation that turns the outer part and gives a plain value. -/
theorem Run.opX (ho : ops[i]? = some o) (hnd : ∀ c, o.op ≠ .defer c) (hw : wantOf ops σ o = some .yes) (hd : dstOK C.n o.dst = true)
    (h : ∀ M fp a w, Rel C M fp σ a w → ∃ v w' fp' X', (execOp a.eval o).run C.P w = .ok (.value v) w' ∧ Grown fp w fp' w' ∧ X' w' fp' ∧ Run (C.withX X') (.inRegion ops rest :: k) (σ.put o.dst (.v v))) :
    Run C (.inRegion ops (i :: rest) :: k) σ := by
  intro M fp a w hR cs
  obtain ⟨v, w', fp', X', hr, hg, hX, hrun⟩ := h M fp a w hR
  obtain ⟨m, s, z⟩ := hrun M fp' _ w' ((hR.grown hg hX).put (C := C.withX X') (z := .v v) (dstOK_lt hd)) cs
  exact ⟨m, .head (step_value ho (wantOf_yes hR.q hw) hnd hr) s, z⟩

/-- One that gives nothing. -/
theorem Run.effX (ho : ops[i]? = some o) (hnd : ∀ c, o.op ≠ .defer c) (hw : wantOf ops σ o = some .yes) (hdst : o.dst = none)
    (h : ∀ M fp a w, Rel C M fp σ a w → ∃ w' fp' X', (execOp a.eval o).run C.P w = .ok .skip w' ∧ Grown fp w fp' w' ∧ X' w' fp' ∧ Run (C.withX X') (.inRegion ops rest :: k) σ) :
    Run C (.inRegion ops (i :: rest) :: k) σ := by
  intro M fp a w hR cs
  obtain ⟨w', fp', X', hr, hg, hX, hrun⟩ := h M fp a w hR
  obtain ⟨m, s, z⟩ := hrun M fp' _ w' (hR.grown hg hX) cs
  refine ⟨m, .head (step_skipped ho (wantOf_yes hR.q hw) hnd hr) ?_, z⟩
  rw [hdst]; exact s

/-- A load out of the outer part. -/
theorem Run.loadX {T : Tab} {t : Nat} {ti : TI} {a : Addr} {x : Operand} {Q : Value → Prop} (hT : tabOK C.P T) (ho : ops[i]? = some o) (hop : o.op = .load t x) (hx : σ.ev x = some (.v (.pointer (some a)))) (hi : lk T t = some ti) (h1 : oneCellTy ti.d = true)
    (hX : ∀ w fp, C.X w fp → ∃ v, Q v ∧ w.cell? a = some v) (hw : wantOf ops σ o = some .yes) (hd : dstOK C.n o.dst = true) (h : ∀ v, Q v → Run C (.inRegion ops rest :: k) (σ.put o.dst (.v v))) :
    Run C (.inRegion ops (i :: rest) :: k) σ := by
  intro M fp ac w hR cs
  obtain ⟨v, hq, hc⟩ := hX w fp hR.outer
  obtain ⟨m, s, z'⟩ := h v hq M fp _ w (hR.put (z := .v v) (dstOK_lt hd)) cs
  refine ⟨m, .head (step_value ho (wantOf_yes hR.q hw) (fun c e => by rw [hop] at e; cases e) ?_) s, z'⟩
  have h2 := hR.q.ev hx
  simp only [conc] at h2
  have h3 := run_loadVar_one (w := w) hT hi h1 hc
  simp [execOp, hop, h2, Instr.loadAt, Instr.sureAddr, conc, h3]

theorem Grown.row {fp : Foot} {w : World} {g : Nat} {cs : Array Value} (hf : fp g) (hfp : ∀ b, fp b → b < w.heap.size) : Grown fp w fp (w.setRow g cs) :=
  ⟨⟨rfl, rfl, rfl, by simp, fun b _ hb => setRow_other _ _ _ _ (fun e => hb (e ▸ hf))⟩, fun b hb => ⟨by simpa using hfp b hb, fun _ => hb⟩⟩

/-- A cell of the outer part is written. -/
theorem Run.storeX {T : Tab} {t : Nat} {ti : TI} {g off : Nat} {v : Value} {x y : Operand} {X' : Res} (hT : tabOK C.P T) (ho : ops[i]? = some o) (hop : o.op = .store t x y) (hdst : o.dst = none) (hx : σ.ev x = some (.v (.pointer (some ⟨g, off, none⟩)))) (hy : σ.ev y = some (.v v))
    (hi : lk T t = some ti) (hs : ti.size = 1) (hv : v.oneCell' = true)
    (hX : ∀ w fp, C.X w fp → (∀ b, fp b → b < w.heap.size) → fp g ∧ ∃ cur e, w.heap[g]? = some (.cells cur e (0, 0)) ∧ off < cur.size ∧ X' (w.setRow g (cur.toList.take off ++ [v] ++ cur.toList.drop (off + 1)).toArray) fp)
    (hw : wantOf ops σ o = some .yes) (h : Run (C.withX X') (.inRegion ops rest :: k) σ) : Run C (.inRegion ops (i :: rest) :: k) σ := by
  refine Run.effX ho (fun c e => by rw [hop] at e; cases e) hw hdst fun M fp a w hR => ?_
  obtain ⟨hf, cur, e, hc, hlt, hX'⟩ := hX w fp hR.outer (fun b hb => (hR.fpok b hb).1)
  have ex := hR.q.ev hx
  have ey := hR.q.ev hy
  simp only [conc] at ex ey
  obtain ⟨c1, c2⟩ := okCell_one (M := M) (x := .v v) hv
  simp only [conc] at c1 c2
  have hrun := run_storeVar (P := C.P) hT hi (v := v) (by rw [c2, hs]; rfl) hc (o := off) (by omega) (by rw [c2]; simpa using hv)
  rw [c2, hs] at hrun
  refine ⟨_, fp, X', ?_, Grown.row hf (fun b hb => (hR.fpok b hb).1), hX', h⟩
  simp [execOp, hop, ex, ey, Instr.storeAt, Instr.sureAddr, hrun]

/-- An owned block is given to the outer part, along an order. -/
theorem RunO.give {held : List (Nat × Blk)} {n0 : Nat} {ord : List (Nat × Bool)} (id : Nat) {B : Blk} (X' : Loc → Res) (T' : Loc → List (Nat × AV)) (h' : List (Nat × Blk)) (nx : Nat) (hnx : n0 ≤ nx) (hB : lk σ.h id = some B) (hh : inT σ.h h') (hn : lk h' id = none) (ht : ∀ M, inTM M σ.t (T' M))
    (hj : ∀ M w, BlkAt M w id B → Joins C.X (fun b => b = (M id).1) (X' M) w)
    (h : ∀ M, RunO (C.withX (X' M)) held n0 ops ord k ⟨T' M, h', nx⟩) : RunO C held n0 ops ord k σ := by
  intro M0 M fp a w hM _ hR hS
  have hk : ∀ i B, lk h' i = some B → lk σ.h i = some B := fun i B hB => inT_lk hh i B hB
  have hb := hR.heap _ _ hB
  refine h M M0 M (fun b => fp b ∨ b = (M id).1) a w hM hnx ?_ hS
  refine { heap := fun i B hB => hR.heap _ _ (hk _ _ hB), inj := fun i j B B' hB hB' e => hR.inj _ _ _ _ (hk _ _ hB) (hk _ _ hB') e, own := fun i B hB => hR.own _ _ (hk _ _ hB),
           apart := ?_, agree := hR.agree, outer := hj M w hb fp hR.outer (fun b hb => by rw [hb]; exact hR.apart _ _ hB), fpok := ?_, size := hR.size, frozen := hR.frozen, tmps := fun i x hx => ?_, defers := hR.defers }
  · rintro i Bi hi (hf | hf)
    · exact hR.apart _ _ (hk _ _ hi) hf
    · have := hR.inj _ _ _ _ (hk _ _ hi) hB hf
      subst this
      rw [hi] at hn; cases hn
  · rintro b (hf | rfl)
    · exact hR.fpok b hf
    · exact ⟨hb.lt, hR.own _ _ hB⟩
  · obtain ⟨y, hy, e⟩ := inTM_lk (ht M) hx
    rw [hR.tmps i y hy, e]

/-- The last one, if it waits for all others, by what follows it. -/
theorem RunO.aloneLastZ {held : List (Nat × Blk)} {n0 : Nat} (hla : Nat.beq i (lastOf ops) = true) (ho : ops[i]? = some o)
    (h : ∀ M fp a w, Rel C M fp σ a w → OpW C.P ops i (fun a' w' => ∀ cs, ∃ m, Steps C.P (lone (C.b.atR a' k) cs w') m ∧ C.Z cs m) a w) :
    RunO C held n0 ops [(i, false)] k σ := by
  intro M0 M fp a w hM hn hR hS done listed hl hc
  simp only [chk, ho, Bool.and_eq_true, Bool.not_eq_true'] at hc
  obtain ⟨⟨⟨hc0, hc1⟩, hc2⟩, hc3⟩ := hc
  have hi : i < ops.size := (Array.getElem?_eq_some_iff.1 ho).1
  have hir : i ∈ Region.ready .any ops listed := mem_ready.2 ⟨hl.unlisted.2 ⟨hi, hc0⟩, o, ho, hl.rdy.1 hc1⟩
  refine ⟨fun e => (by rw [e] at hir; cases hir), fun j hj => ?_⟩
  obtain ⟨hun, oj, hoj, haft⟩ := mem_ready.1 hj
  have hji : j = i := by
    have := others_spec hc2 j oj (by simpa using hoj)
    simp only [Nat.zero_add] at this
    rcases this with h1 | h1 | h1
    · exact h1
    · have := (hl.unlisted.1 hun).2; rw [h1] at this; cases this
    · rw [hl.rdy.2 haft] at h1; cases h1
  subst hji
  refine (h M fp a w hR).mono ?_
  intro a' w' h3
  refine ⟨.inr (Nat.eq_of_beq_eq_true hla), ?_, h3⟩
  simp only [List.all_eq_true, List.mem_range] at hc3
  apply List.eq_nil_iff_forall_not_mem.2
  intro q hq
  obtain ⟨h0, oq, hoq, _⟩ := mem_ready.1 hq
  have := ((hl.set hi ho (hl.rdy.1 hc1)).unlisted.1 h0)
  rw [hc3 q this.1] at this
  cases this.2

/-- A call, the last of its region, by what follows it. -/
theorem RunO.callLast {held : List (Nat × Blk)} {n0 : Nat} {c : Call} {g : Operand} {f : FuncId} {caps xs : List AV} (hla : Nat.beq i (lastOf ops) = true) (ho : ops[i]? = some o) (hop : o.op = .call c) (hc : c.callee = .value g) (hg : σ.ev g = some (.fn f caps)) (hxs : evs σ c.args.toList = some xs) (hw : wantOf ops σ o = some .yes)
    (hent : Enters C.P f) (hd : dstOK C.n o.dst = true)
    (hcon : ∀ M fp a w, Rel C M fp σ a w → GivesR C.P f (concL M (xs ++ caps)) w (fun v w' => ∃ X' M' fp' σ' z, conc M' z = v ∧ Rel (C.withX X') M' fp' σ' a w' ∧ Run (C.withX X') k (σ'.put o.dst z))) :
    RunO C held n0 ops [(i, false)] k σ := by
  refine RunO.aloneLastZ hla ho fun M fp a w hR => ?_
  have h2 : c.args.map a.eval = (concL M xs).toArray := by apply Array.ext'; simpa using evs_conc hR.q hxs
  have hrun : (execOp a.eval o).run C.P w = .ok (.enter f (concL M (xs ++ caps)).toArray) w := by
    simp only [execOp, hop, resolve, hc, h2, hR.q.ev hg, conc, Deferred.ofValue]
    simp [invoke, hent _ _, concL_append]
  unfold OpW
  simp only [ho, if_pos (wantOf_yes hR.q hw), hrun]
  refine ⟨fun c e => (by rw [hop] at e; cases e), Calls.mono' (hcon M fp a w hR) fun e w' ⟨v, h1, X', M', fp', σ', z, hz, hR', hr⟩ => ⟨v, h1, fun cs => ?_⟩⟩
  have := hr M' fp' _ w' (hR'.put (C := C.withX X') (z := z) (dstOK_lt hd)) cs
  rwa [hz] at this

/-- One that comes up alone and turns the outer part. -/
theorem RunO.aloneX {held : List (Nat × Blk)} {n0 : Nat} {ord : List (Nat × Bool)} (ho : ops[i]? = some o)
    (h : ∀ M0 M fp a w, (∀ i, i < n0 → M i = M0 i) → n0 ≤ σ.nx → Rel C M fp σ a w → HS C M0 held w →
      OpW C.P ops i (fun a' w' => ∃ X' M' fp' σ', (∀ i, i < n0 → M' i = M0 i) ∧ n0 ≤ σ'.nx ∧ Rel (C.withX X') M' fp' σ' a' w' ∧ HS C M0 held w' ∧ RunO (C.withX X') held n0 ops ord k σ') a w) :
    RunO C held n0 ops ((i, false) :: ord) k σ := by
  intro M0 M fp a w hM hn hR hS done listed hl hc
  simp only [chk, ho, Bool.and_eq_true, Bool.not_eq_true'] at hc
  obtain ⟨⟨⟨hc0, hc1⟩, hc2⟩, hc3⟩ := hc
  have hi : i < ops.size := (Array.getElem?_eq_some_iff.1 ho).1
  have hir : i ∈ Region.ready .any ops listed := mem_ready.2 ⟨hl.unlisted.2 ⟨hi, hc0⟩, o, ho, hl.rdy.1 hc1⟩
  refine ⟨fun e => (by rw [e] at hir; cases hir), fun j hj => ?_⟩
  obtain ⟨hun, oj, hoj, haft⟩ := mem_ready.1 hj
  have hji : j = i := by
    have := others_spec hc2 j oj (by simpa using hoj)
    simp only [Nat.zero_add] at this
    rcases this with h1 | h1 | h1
    · exact h1
    · have := (hl.unlisted.1 hun).2; rw [h1] at this; cases this
    · rw [hl.rdy.2 haft] at h1; cases h1
  subst hji
  refine (h M0 M fp a w hM hn hR hS).mono ?_
  rintro a' w' ⟨X', M', fp', σ', h1, h2, h3, h4, h5⟩
  exact ⟨.inl h4, h5 M0 M' fp' a' w' h1 h2 h3 h4 (j :: done) _ (hl.set hi ho (hl.rdy.1 hc1)) hc3⟩

/-- A call that turns the outer part, along an order. -/
theorem RunO.callG {held : List (Nat × Blk)} {n0 : Nat} {ord : List (Nat × Bool)} {c : Call} {g : Operand} {f : FuncId} {caps xs : List AV} (hbel : hBelow n0 held = true) (hin : inT σ.h held) (ho : ops[i]? = some o) (hop : o.op = .call c) (hc : c.callee = .value g) (hg : σ.ev g = some (.fn f caps)) (hxs : evs σ c.args.toList = some xs)
    (hw : wantOf ops σ o = some .yes) (hent : Enters C.P f) (hd : dstOK C.n o.dst = true)
    (hcon : ∀ M fp a w, Rel C M fp σ a w → GivesR C.P f (concL M (xs ++ caps)) w (fun v w' => ∃ X' fp', Grown fp w fp' w' ∧ X' w' fp' ∧ RunO (C.withX X') held n0 ops ord k (σ.put o.dst (.v v)))) :
    RunO C held n0 ops ((i, false) :: ord) k σ := by
  refine RunO.aloneX ho fun M0 M fp a w hM hn hR hS => ?_
  have h2 : c.args.map a.eval = (concL M xs).toArray := by apply Array.ext'; simpa using evs_conc hR.q hxs
  have hrun : (execOp a.eval o).run C.P w = .ok (.enter f (concL M (xs ++ caps)).toArray) w := by
    simp only [execOp, hop, resolve, hc, h2, hR.q.ev hg, conc, Deferred.ofValue]
    simp [invoke, hent _ _, concL_append]
  unfold OpW
  simp only [ho, if_pos (wantOf_yes hR.q hw), hrun]
  refine ⟨fun c e => (by rw [hop] at e; cases e), Calls.mono' (hcon M fp a w hR) fun e w' ⟨v, h1, X', fp', hgr, hX, hr⟩ => ⟨v, h1, X', M, fp', _, hM, by cases o.dst <;> exact hn, ?_, ?_, hr⟩⟩
  · exact (hR.grown hgr hX).put (C := C.withX X') (z := .v v) (dstOK_lt hd)
  · refine ⟨fun id B hB => ?_, hS.2.trans hgr.1 (fun b hb hl => (hR.fpok b hb).2 hl)⟩
    have h3 := hS.1 id B hB
    have h4 := hR.apart id B (inT_lk hin id B hB)
    rw [hM id (lkh_below hbel hB).1] at h4
    exact h3.same (hgr.1.block _ h3.lt h4)

/-- append to a plain slice of ints or the like in the outer part: in its place, or in a new block. -/
theorem append_plain {P : Program} {T : Tab} (hT : tabOK P T) {t ty e : TypeId} {ti : TI} (hd : T.desc t = some (.slice e)) (hi : lk T e = some ti) (h1 : ti.size = 1) (hz1 : ti.zero.cells.size = 1) {w : World} {g n cap : Nat} {cur : Array Value} (hg : w.heap[g]? = some (.cells cur e (0, 0)))
    (hnc : n ≤ cap) (hcs : cur.size = cap) {a : Addr} {c : Nat} {u : Value} (hu : w.cell? a = some u) (hu1 : u.oneCell' = true) (h63 : n + 1 ≤ maxLen) (hb : (n + 1) * ti.bytes ≤ 140737488355328) :
    (n + 1 ≤ cap ∧ (Builtin.append_ #[t, t] ty #[.slice (some ⟨g, 0, none⟩) n cap, .slice (some a) 1 c]).run P w = .ok (.slice (some ⟨g, 0, none⟩) (n + 1) cap) (w.setRow g (cur.toList.take n ++ [u] ++ cur.toList.drop (n + 1)).toArray)) ∨
    ∃ cap' cs, n + 1 ≤ cap' ∧ cap' ≤ maxLen ∧ cs.size = cap' ∧ (Builtin.append_ #[t, t] ty #[.slice (some ⟨g, 0, none⟩) n cap, .slice (some a) 1 c]).run P w = .ok (.slice (some ⟨w.heap.size, 0, none⟩) (n + 1) cap') (w.drew.alloc (.cells cs e)) := by
  obtain ⟨_, xi, hxi, hxs, hxb, hxz⟩ := hT e ti hi
  have hund : P.underlying t = some (.slice e) := by
    unfold Tab.desc at hd
    split at hd
    · rename_i hh; cases hd; exact (hT t _ hh).1
    · cases hd
  have hnews : ∀ j x, [u][j]? = some x → w.cell? (a.add j) = some x := by
    intro j x hj
    cases j with
    | zero => simp at hj; subst hj; simpa [Addr.add] using hu
    | succ j => simp at hj
  have hml : maxLen = 9223372036854775807 := rfl
  by_cases hr : n + 1 ≤ cap
  · left
    have := run_append_room (P := P) w t ty e xi hund hxi g n cap cur hg a 1 c [u] (by simp [hxs, h1]) hnews (by simpa using hu1) hr (by simp [hxs, h1]; omega)
    rw [hxs, h1, Nat.mul_one] at this
    exact ⟨hr, this⟩
  · right
    have holds : ∀ j x, (cur.toList.take n)[j]? = some x → w.cell? ((⟨g, 0, none⟩ : Addr).add j) = some x := by
      intro j x hj
      rw [List.getElem?_take] at hj
      split at hj
      · rw [Addr.add_lit, Nat.zero_add, cell_of_row w _ _ _ _ _ hg]; simpa using hj
      · cases hj
    have := run_append_grow (P := P) w t ty e xi ti.zero hund hxi hxz ⟨g, 0, none⟩ n cap (cur.toList.take n) (by simp [hxs, h1]; omega) holds a 1 c [u] (by simp [hxs, h1]) hnews (by omega) (by omega) (growslice_fits (by omega) (by rw [hxb]; exact hb))
    have hge := grownCap_ge w (n + 1) cap e
    refine ⟨_, _, hge, grownCap_le_maxLen w (n + 1) cap e h63, ?_, this⟩
    simp only [Array.size_append, List.size_toArray, size_zeroCells, hz1, List.length_take, Array.length_toList, List.length_singleton]
    omega
end
end Go.AM

/-
  The first orders collected: a row of rows. Own work.
-/
namespace Go.Proofs.YtocpkgckllbjlaaDoor
open Go.AM
set_option maxRecDepth 100000

/-- A list of numbers that lies somewhere: where, its capacity, the list. -/
abbrev Ent := Nat × Nat × List Nat
def slV (e : Ent) : Value := .slice (some ⟨e.1, 0, none⟩) e.2.2.length e.2.1
def EntAt (w : World) (e : Ent) : Prop := BlkAt (fun _ => (e.1, e.2.1)) w 0 (.row 3 1 e.2.2.length (encN e.2.2))
def rowsX (s : List Ent) : Res := fun w fp => (∀ b, fp b ↔ ∃ e ∈ s, e.1 = b) ∧ (s.map fun e => e.1).Nodup ∧ ∀ e ∈ s, EntAt w e

theorem rowsX_local (s : List Ent) : Local (rowsX s) := fun _ _ _ ⟨h1, h2, h3⟩ _ hs =>
  ⟨h1, h2, fun e he => BlkAt.same (h3 e he) (hs e.1 ((h1 e.1).2 ⟨e, he, rfl⟩))⟩

theorem rowsX_join {M : AM.Loc} {w : World} {id : Nat} {l : List Nat} (s : List Ent) (hb : BlkAt M w id (.row 3 1 l.length (encN l))) : Joins (rowsX s) (fun b => b = (M id).1) (rowsX (s ++ [((M id).1, (M id).2, l)])) w := by
  rintro fp ⟨h1, h2, h3⟩ hF
  refine ⟨fun b => ?_, ?_, fun e he => ?_⟩
  · show fp b ∨ b = (M id).1 ↔ _
    rw [h1 b]
    constructor
    · rintro (⟨e, he, rfl⟩ | rfl)
      · exact ⟨e, by simp [he], rfl⟩
      · exact ⟨_, List.mem_append_right _ (List.mem_singleton.2 rfl), rfl⟩
    · rintro ⟨e, he, rfl⟩
      rcases List.mem_append.1 he with he | he
      · exact .inl ⟨e, he, rfl⟩
      · rw [List.mem_singleton] at he; subst he; exact .inr rfl
  · rw [List.map_append, List.nodup_append]
    refine ⟨h2, by simp, ?_⟩
    intro a ha b hb' e
    simp only [List.map_cons, List.map_nil, List.mem_singleton] at hb'
    subst hb'
    obtain ⟨q, hq, rfl⟩ := List.mem_map.1 ha
    exact hF _ rfl ((h1 _).2 ⟨q, hq, e⟩)
  · rcases List.mem_append.1 he with he | he
    · exact h3 e he
    · rw [List.mem_singleton] at he; subst he; exact hb

def lz (id : Nat) : List Ent → AV
  | [] => .v (.slice none 0 0)
  | _ :: s => .sl id 1 0 (s.length + 1)
def lr (id : Nat) : List Ent → List (Nat × Blk)
  | [] => []
  | e :: s => [(id, .row 47 1 (s.length + 1) ((e :: s).map slV))]
theorem lz_app (id : Nat) (s : List Ent) (e : Ent) : lz id (s ++ [e]) = .sl id 1 0 (s.length + 1) := by cases s <;> simp [lz]
theorem lr_app (id : Nat) (s : List Ent) (e : Ent) : lr id (s ++ [e]) = [(id, .row 47 1 (s.length + 1) ((s ++ [e]).map slV))] := by cases s <;> simp [lr]

/-- What lies in the blocks of orders. -/
def oB (most : Int) (s : List Ent) : List (Nat × Blk) := (0, .cells 3 [.one (.v (.int .i64 most))]) :: (1, .cells 53 [.one (lz 2 s)]) :: lr 2 s

/-- A row of lists, as it lies in a world. -/
def SeesL (w : World) (p : Option Addr) (s : List Ent) : Prop :=
  (∀ i (h : i < s.length), p = some (p.getD default) ∧ w.cell? ((p.getD default).add i) = some (slV s[i])) ∧ ∀ e ∈ s, EntAt w e

set_option maxHeartbeats 1000000 in
theorem orders_ok (r : Rl) (b : Nat) (m : Nat) (hm : 0 < m ∧ m ≤ 1000000) (w : World) (hb : RelAt w b r) (hT : TabAt w) (h0 : 0 < w.heap.size) :
    GivesR Tryd.prog 54 [extendsF b, .int .i64 (m : Int)] w (fun v w' => Agree (fun _ => False) w w' ∧ ∃ (s : List Ent) (p : Option Addr) (c : Nat), v = .slice p s.length c ∧ s.map (fun e => e.2.2) = (ordersL r).take m ∧ SeesL w' p s ∧ (∀ a, p = some a → w.heap.size ≤ a.block) ∧ (∀ e ∈ s, w.heap.size ≤ e.1) ∧ (s.map fun e => e.1).Nodup ∧ ∀ a, p = some a → ∀ e ∈ s, e.1 ≠ a.block) := by
  have hbl : b < w.heap.size := World.block_lt_of_cell? w _ (hb 0 _ rfl)
  have hit := extends_iter r b w hb hT h0
  generalize ordersL r = os at *
  refine givesX_of_run (S0 := fun _ => False) (X := rowsX []) (fp := fun _ => False) Tryd.func54 rfl (by show 2 ≤ 20; decide) ⟨fun b => ⟨fun h => h.elim, fun ⟨e, he, _⟩ => (by cases he)⟩, List.nodup_nil, fun e he => (by cases he)⟩ (fun b h => h.elim) ?_
  obtain ⟨R, hR⟩ : ∃ R : Value → World → Prop, R = fun (v : Value) (w' : World) => Agree (fun _ => False) w w' ∧ ∃ (s : List Ent) (p : Option Addr) (c : Nat), v = .slice p s.length c ∧ s.map (fun e => e.2.2) = os.take m ∧ SeesL w' p s ∧ (∀ a, p = some a → w.heap.size ≤ a.block) ∧ (∀ e ∈ s, w.heap.size ≤ e.1) ∧ (s.map fun e => e.1).Nodup ∧ ∀ a, p = some a → ∀ e ∈ s, e.1 ≠ a.block := ⟨_, rfl⟩
  rw [← hR]
  have hm9 : ¬ ((m : Int) ≤ 0) := by omega
  refine RunF_sound tab_ok (rowsX_local []) 100 [false] _ _ rfl ?_ ?_
  · simp [okCell, argsT.ofConst', ofConst, Value.oneCell']
    omega
  have hret : ∀ (D : Nat) (s : List Ent) (σ : St), s.map (fun e => e.2.2) = os.take m → inT σ.t [(4, lz 2 s)] → inT σ.h (oB m s) → Run (fnM Tryd.prog 54 (Tryd.f54).ntmps w (fun _ => False) (rowsX s) R [D]) [.code .ret] σ := by
    intro D s σ hs ht hh
    refine Run.to ?_ ht hh (n' := 3)
    rcases s with _ | ⟨e, s⟩
    · refine Run.retM tab_ok (rowsX_local []) Tryd.func54 rfl trivial fun M fp a w' hr => ?_
      rw [hR]
      exact ⟨hr.agree, [], none, 0, rfl, hs, ⟨fun i h => absurd h (Nat.not_lt_zero _), fun e he => (by cases he)⟩, fun a h => (by cases h), fun e he => (by cases he), List.nodup_nil, fun a h => (by cases h)⟩
    · refine Run.retM tab_ok (rowsX_local (e :: s)) Tryd.func54 rfl trivial fun M fp a w' hr => ?_
      rw [hR]
      refine ⟨hr.agree, e :: s, some ⟨(M 2).1, 0, none⟩, (M 2).2 - 0, by simp [conc, resAV, lz], hs, ⟨fun i h => ⟨rfl, ?_⟩, (show rowsX (e :: s) w' fp from hr.outer).2.2⟩, fun a h => ?_, fun e' he => ?_, (show rowsX (e :: s) w' fp from hr.outer).2.1, fun a h e' he => ?_⟩
      rotate_left
      · cases h
        exact Nat.le_of_not_lt fun hlt => hr.own 2 _ rfl hlt
      · exact Nat.le_of_not_lt fun hlt => (hr.fpok e'.1 (((show rowsX (e :: s) w' fp from hr.outer).1 _).2 ⟨e', he, rfl⟩)).2 hlt
      · cases h
        intro hh
        exact hr.apart 2 _ rfl (((show rowsX (e :: s) w' fp from hr.outer).1 _).2 ⟨e', he, hh⟩)
      have := row_cells (hr.heap 2 _ rfl) i (slV (e :: s)[i]) (by rw [List.getElem?_map, List.getElem?_eq_getElem h]; rfl)
      rw [Option.getD_some, Addr.add_lit]
      exact this
  refine Run.rangeFnHX rowsX rowsX_local [] rfl rfl rfl (fun M => rfl) extendsIt_enters 6 [(3, .ptr 0 0), (5, .ptr 1 0)] ⟨rfl, rfl, trivial⟩ rfl rfl rfl hit (fun j hj => by rcases hj with rfl | rfl; exact ⟨h0, fun h => h⟩; exact ⟨hbl, fun h => h⟩)
    (fun pre s h => pre.length < m ∧ s.map (fun e => e.2.2) = pre ∧ h = oB m s) (fun pre s c h => c = .exit 0 ∧ pre.length = m ∧ s.map (fun e => e.2.2) = pre ∧ h = oB m s) 3 51 rfl ?_ (fun _ _ => rfl) (fun _ _ => rfl) (oB m []) ⟨hm.1, rfl, rfl⟩ ?_ ?_ ?_ ?_
  · rintro pre s h ⟨_, _, rfl⟩
    cases s <;> rfl
  · exact ⟨rfl, rfl, trivial⟩
  · rintro D l a0 rc wy fpy pre x s h hRI hpx ⟨hlt, hs, rfl⟩
    have hsl : s.length = pre.length := by rw [← hs]; simp
    refine RunF_sound tab_ok (roundX_local (hRI s).loc l rc .ready) 100 [] _ _ rfl ?_ ?_
    · simp
    refine Run.beginRound (hRI s).loc (hRI s).lw ?_
    refine Run.give 50 (B := .row 3 1 x.length (encN x)) (fun M => roundX (markX (rowsX (s ++ [((M 50).1, (M 50).2, x)])) D) l rc .busy) (fun M => [(3, .ptr 0 0), (5, .ptr 1 0), (6, .v (slV ((M 50).1, (M 50).2, x)))]) (oB m s) 51 rfl ?_ ?_ ?_ ?_ ?_
    · cases s with
      | nil => exact ⟨rfl, rfl, trivial⟩
      | cons e s => exact ⟨rfl, rfl, rfl, trivial⟩
    · cases s <;> rfl
    · exact fun M => ⟨⟨_, rfl, rfl⟩, ⟨_, rfl, rfl⟩, ⟨_, rfl, by simp [conc, slV]⟩, trivial⟩
    · exact fun M w hb => ((rowsX_join s hb).mark D).round l rc .busy
    intro M
    generalize hE : (((M 50).1, (M 50).2, x) : Ent) = E
    have hEx : E.2.2 = x := by rw [← hE]
    have hs' : (s ++ [E]).map (fun e => e.2.2) = pre ++ [x] := by rw [List.map_append, hs]; simp [hEx]
    have hpl : (pre ++ [x]).length = s.length + 1 := by simp [hsl]
    have hml : maxLen = 9223372036854775807 := rfl
    clear hE
    have hloc : Local (roundX (markX (rowsX (s ++ [E])) D) l rc .busy) := roundX_local (markX_local (rowsX_local _) D) l rc .busy
    suffices Y : ∀ σ, inT σ.t [(3, .ptr 0 0), (5, .ptr 1 0), (18, .v (.bool (decide (((s.length + 1 : Nat) : Int) ≥ (m : Int)))))] → inT σ.h [(0, .cells 3 [.one (.v (.int .i64 (m : Int)))]), (1, .cells 53 [.one (.sl 52 1 0 (s.length + 1))]), (52, .row 47 1 (s.length + 1) ((s ++ [E]).map slV))] →
        Run (roundC ((Ctx.withX (fnC Tryd.prog 54 (Tryd.f54).ntmps w (fun _ => False) (rowsX []) R) (rowsX (s ++ [E]))).marked D) 6 a0 l rc .busy wy fpy (roundRX (fnC Tryd.prog 54 (Tryd.f54).ntmps w (fun _ => False) (rowsX []) R) rowsX D [(3, .ptr 0 0), (5, .ptr 1 0)] a0 l rc wy fpy (fun s h => (pre ++ [x]).length < m ∧ s.map (fun e => e.2.2) = pre ++ [x] ∧ h = oB m s) (fun s c h => c = .exit 0 ∧ (pre ++ [x]).length = m ∧ s.map (fun e => e.2.2) = pre ++ [x] ∧ h = oB m s))) _ σ by
      cases s with
      | nil =>
        refine RunF_sound tab_ok hloc 100 [] _ _ rfl ?_ ?_
        · simp [slV, maxLen, fillL, repL, splice, Value.cells, Value.oneCell', okCell]
        exact Y _ ⟨rfl, rfl, rfl, trivial⟩ ⟨rfl, rfl, rfl, trivial⟩
      | cons e0 s =>
        refine RunF_sound tab_ok hloc 100 [] _ _ rfl ?_ ?_
        · simp [slV, maxLen, fillL, repL, splice, Value.cells, Value.oneCell', okCell]
          simp at hsl
          omega
        refine Y _ ⟨rfl, rfl, rfl, trivial⟩ ⟨rfl, rfl, ?_, trivial⟩
        exact congrArg (fun z => some (Blk.row 47 1 (s.length + 1 + 1) z)) (show ((e0 :: s).map slV).take ((s.length + 1) * 1) ++ [slV E] = (e0 :: s ++ [E]).map slV by rw [List.take_of_length_le (by simp), List.map_append]; rfl)
    intro σ ht hh
    refine Run.to ?_ ht hh (n' := 53)
    by_cases c : s.length + 1 < m
    · refine RunF_sound tab_ok hloc 100 [false] _ _ rfl ?_ ?_
      · simp; omega
      refine Run.roundMono (roundRX_of (s ++ [E])) (Run.roundEnd (hRI (s ++ [E])) [(2, 52)] (oB m (s ++ [E])) ⟨by omega, hs', rfl⟩ ⟨rfl, rfl, trivial⟩ ?_ ?_)
      · unfold oB; rw [lz_app, lr_app]; exact ⟨rfl, rfl, rfl, trivial⟩
      · unfold oB; rw [lr_app]; rfl
    · refine RunF_sound tab_ok hloc 100 [true] _ _ rfl ?_ ?_
      · simp; omega
      refine Run.roundMono (roundRX_of (s ++ [E])) (Run.roundExit (hRI (s ++ [E])) [(2, 52)] (oB m (s ++ [E])) rfl ⟨rfl, by omega, hs', rfl⟩ ⟨rfl, rfl, trivial⟩ ?_ ?_)
      · unfold oB; rw [lz_app, lr_app]; exact ⟨rfl, rfl, rfl, trivial⟩
      · unfold oB; rw [lr_app]; rfl
  · rintro D s h ⟨hlt, hs, rfl⟩
    have hoe : s.map (fun e => e.2.2) = os.take m := by rw [hs, List.take_of_length_le (by omega)]
    cases s with
    | nil =>
      refine RunF_sound tab_ok (markX_local (rowsX_local []) D) 100 [] _ _ rfl ?_ ?_
      · simp
      exact hret D [] _ hoe ⟨rfl, trivial⟩ ⟨rfl, rfl, trivial⟩
    | cons e s =>
      refine RunF_sound tab_ok (markX_local (rowsX_local (e :: s)) D) 100 [] _ _ rfl ?_ ?_
      · simp
      exact hret D (e :: s) _ hoe ⟨rfl, trivial⟩ ⟨rfl, rfl, rfl, trivial⟩
  · rintro D pre s c h hpre ⟨rfl, hl, hs, rfl⟩
    have hoe : s.map (fun e => e.2.2) = os.take m := by
      rw [hs]
      obtain ⟨t, rfl⟩ := hpre
      rw [← hl]; simp
    cases s with
    | nil =>
      refine RunF_sound tab_ok (markX_local (rowsX_local []) D) 100 [] _ _ rfl ?_ ?_
      · simp
      exact hret D [] _ hoe ⟨rfl, trivial⟩ ⟨rfl, rfl, trivial⟩
    | cons e s =>
      refine RunF_sound tab_ok (markX_local (rowsX_local (e :: s)) D) 100 [] _ _ rfl ?_ ?_
      · simp
      exact hret D (e :: s) _ hoe ⟨rfl, trivial⟩ ⟨rfl, rfl, rfl, trivial⟩
end Go.Proofs.YtocpkgckllbjlaaDoor

/-
  RelReduces answers true. Own work.
-/
namespace Go.Proofs.YtocpkgckllbjlaaDoor
open Go.AM
set_option maxRecDepth 100000

theorem void0_rt : Rt (Rl.void 0) := void_rt (by decide) (by decide)

theorem clos_void_has (a b : Nat) : ¬ (clos (Rl.void 0)).has a b = true := by
  intro h
  have := (clos_rt void0_rt).lt a b h
  rw [clos_n, void_n] at this
  omega
theorem ac_void : irB (clos (Rl.void 0)) = true := irB_true fun i => Bool.eq_false_iff.2 (clos_void_has i i)

theorem rightL_bad {r : Rl} (h : checkI r ≠ 0) : rightL r = Rl.void 0 := by unfold rightL; rw [if_neg h]

theorem two_void (op : Nat) {S : Rl} (hS : Rt S) : twoR op (Rl.void 0) S = Rl.void 0 := by
  by_cases hn : (Rl.void 0).n = S.n
  · refine rl_ext (by rw [twoR_n op void0_rt hS hn]) fun a b => ?_
    constructor
    · intro h
      have := (twoR_rt op void0_rt hS hn).lt a b h
      rw [twoR_n op void0_rt hS hn, void_n] at this
      omega
    · intro h; rw [void_has] at h; cases h
  · exact twoR_void op _ _ (by rw [void0_rt.right, hS.right]; exact hn)

theorem one_has {n : Int} {a b : Nat} (ha : a < 64) (hb : b < 64) (x y : Nat) : ((Rl.void n).setRow a (1#64 <<< b)).has x y = true ↔ x = a ∧ y = b := by
  rw [Rl.has_setRow]
  split
  · rename_i h
    rw [one_shl_get b y hb]
    simp [h.1]
  · rename_i h
    rw [void_has]
    constructor
    · intro h; cases h
    · rintro ⟨rfl, _⟩; exact absurd ⟨rfl, ha⟩ h

theorem of_one {n : Int} {a b : Nat} (hn : 0 ≤ n ∧ n ≤ 64) (ha : (a : Int) < n) (hb : (b : Int) < n) : ofL n [((a : Int), (b : Int))] = ((Rl.void n).setRow a (1#64 <<< b), 0) := by
  unfold ofL
  rw [if_neg (by omega)]
  have hb' : ¬ badE n ((a : Int), (b : Int)) := by unfold badE; simp only; omega
  rw [ofGo, if_neg hb', ofGo, Rl.row_void]
  simp

theorem relReduces_ok (r : Rl) (w : World) (hT : TabAt w) (h0 : 0 < w.heap.size) : Gives Tryd.prog 9 [encRel r] w (.bool true) := by
  have hTA : ∀ w', Agree (fun _ => False) w w' → TabAt w' ∧ 0 < w'.heap.size := fun w' hA => ⟨hT.agree hA (fun f => f), Nat.lt_of_lt_of_le h0 hA.size⟩
  have hwk : ∀ w', Agree (fun _ => False) w w' → Gives Tryd.prog 62 [] w' (.bool true) := fun w' hA => works_ok w' (hTA w' hA).1 (hTA w' hA).2
  have hrd : ∀ w', Agree (fun _ => False) w w' → Gives Tryd.prog 51 [encRel r] w' (.tuple #[encRel (redL r), .bool (irB (clos (rightL r)))]) := fun w' hA => reduce_ok r w' (hTA w' hA).1 (hTA w' hA).2
  have hac : ∀ w', Agree (fun _ => False) w w' → Gives Tryd.prog 46 [encRel r] w' (.bool (irB (clos (rightL r)))) := fun w' _ => acyclic_ok r w'
  by_cases c : irB (clos (rightL r)) = true
  · rw [c] at hrd
    by_cases cr : checkI r = 0
    · have hr := rt_check cr
      have e0 : redL r = redR r := by unfold redL; rw [if_pos c, hr.right]; rfl
      rw [e0] at hrd
      have hx := redR_rt hr
      have hxn := redR_n hr
      have k46 : clos (redR r) = clos r := red_clos hr (by rw [hr.right] at c; exact c)
      have k54 : twoR 2 (redR r) r = Rl.void r.n := rl_ext (by rw [twoR_n 2 hx hr hxn, hxn]; rfl) fun a b => by
        rw [minus_has hx hr hxn, redR_has hr, void_has]
        constructor
        · rintro ⟨⟨h1, _⟩, h2⟩; exact absurd h1 h2
        · intro h; cases h
      refine reduces_3 r (redR r) (clos r) (clos (redR r)) (twoR 2 (redR r) r) w cr hT h0 ⟨hx.right, trivial⟩ ?_ hwk hrd (fun w' _ => plusT hr w') (fun w' _ => plusT hx w') k46 (fun w' _ => minusT _ _ w') k54
      intro a b hab
      have hlt := hx.lt a b hab
      rw [hxn] at hlt
      have h64 := hr.hi
      have ha : a < 64 := by omega
      have hb : b < 64 := by omega
      have hO : Rt ((Rl.void r.n).setRow a (1#64 <<< b)) := ⟨by rw [Rl.n_setRow]; exact hr.lo, by rw [Rl.n_setRow]; exact hr.hi, fun x y h => by
        rw [Rl.n_setRow]
        obtain ⟨rfl, rfl⟩ := (one_has ha hb x y).1 h
        exact hlt⟩
      have hOn : ((Rl.void r.n).setRow a (1#64 <<< b)).n = r.n := by rw [Rl.n_setRow]; rfl
      have hY := twoR_rt 2 hx hO (hxn.trans hOn.symm)
      refine ⟨_, _, _, fun w2 p c hs => ?_, fun w2 => minusT _ _ w2, fun w2 => plusT hY w2, ?_⟩
      · have := of_ok r.n p c [((a : Int), (b : Int))] w2 hs (by simp [maxLen])
        rw [of_one ⟨hr.lo, hr.hi⟩ hlt.1 hlt.2] at this
        exact this
      · refine red_less hr hY hab fun x y h => ?_
        rw [minus_has hx hO (hxn.trans hOn.symm), one_has ha hb] at h
        exact h
    · have e0 : redL r = Rl.void 0 := by
        unfold redL
        rw [if_pos c, twoR_right, twoR_right 3, rightL_bad cr, (clos_rt void0_rt).right, two_void 3 (clos_rt void0_rt), void0_rt.right, two_void 2 void0_rt]
      rw [e0] at hrd
      exact reduces_2 r (Rl.void 0) w cr hwk hrd rfl
  · have cr : checkI r = 0 := by
      by_cases cr : checkI r = 0
      · exact cr
      · exact absurd (by rw [rightL_bad cr]; exact ac_void) c
    have e0 : redL r = Rl.void 0 := by unfold redL; rw [if_neg c]
    rw [e0, Bool.eq_false_iff.2 c] at hrd
    rw [Bool.eq_false_iff.2 c] at hac
    exact reduces_1 r (Rl.void 0) w cr hwk hrd rfl hac
end Go.Proofs.YtocpkgckllbjlaaDoor

/-
  How far numbers are from a goal: plain. Own work; no program in sight.
-/
namespace Go.Proofs.YtocpkgckllbjlaaDoor
open Go.AM

/-- Walks of so many steps. -/
def W (R : Rl) : Nat → Nat → Nat → Prop
  | 0, a, b => a = b
  | n + 1, a, b => ∃ c, R.has a c = true ∧ W R n c b

open Classical in
noncomputable def dst (R : Rl) (g : Nat) : Nat → Nat → Nat
  | 0, _ => 0
  | n + 1, b => if dst R g n b ≠ 0 then dst R g n b else if 1 ≤ n ∧ W R n b g then n else 0

theorem dst_spec (R : Rl) (g : Nat) : ∀ n b, (dst R g n b = 0 ∧ ∀ m, 1 ≤ m → m < n → ¬ W R m b g) ∨
    (1 ≤ dst R g n b ∧ dst R g n b < n ∧ W R (dst R g n b) b g ∧ ∀ m, 1 ≤ m → m < dst R g n b → ¬ W R m b g)
  | 0, b => .inl ⟨rfl, fun m _ h => absurd h (Nat.not_lt_zero _)⟩
  | n + 1, b => by
    rcases dst_spec R g n b with ⟨h1, h2⟩ | ⟨h1, h2, h3, h4⟩
    · by_cases c : 1 ≤ n ∧ W R n b g
      · have e : dst R g (n + 1) b = n := by rw [dst, if_neg (by simp [h1]), if_pos c]
        rw [e]
        exact .inr ⟨c.1, Nat.lt_succ_self _, c.2, h2⟩
      · have e : dst R g (n + 1) b = 0 := by rw [dst, if_neg (by simp [h1]), if_neg c]
        refine .inl ⟨e, fun m hm hl hw => ?_⟩
        rcases Nat.lt_or_ge m n with h | h
        · exact h2 m hm h hw
        · obtain rfl : m = n := by omega
          exact c ⟨hm, hw⟩
    · have e : dst R g (n + 1) b = dst R g n b := by rw [dst, if_pos (by omega)]
      rw [e]
      exact .inr ⟨h1, by omega, h3, h4⟩

/-- What is found next. -/
def nxP (R : Rl) (g n b : Nat) : Prop := dst R g n b = 0 ∧ W R n b g
/-- From where one goes on. -/
def nwP (R : Rl) (g : Nat) : Nat → Nat → Prop
  | 0, _ => False
  | 1, b => b = g
  | n + 2, b => nxP R g (n + 1) b

theorem now_step (R : Rl) (g n b : Nat) (hn : 1 ≤ n) (hb : dst R g n b = 0) : (∃ x, nwP R g n x ∧ R.has b x = true) ↔ W R n b g := by
  match n, hn with
  | 1, _ =>
    constructor
    · rintro ⟨x, hx, h⟩
      exact ⟨x, h, hx⟩
    · rintro ⟨x, h, hx⟩
      exact ⟨x, hx, h⟩
  | k + 2, _ =>
    constructor
    · rintro ⟨x, hx, h⟩
      exact ⟨x, h, hx.2⟩
    · rintro ⟨c, h, hc⟩
      refine ⟨c, ⟨?_, hc⟩, h⟩
      rcases dst_spec R g (k + 1) c with h1 | ⟨h1, h2, h3, _⟩
      · exact h1.1
      · rcases dst_spec R g (k + 2) b with h4 | h4
        · exact absurd ⟨c, h, h3⟩ (h4.2 (dst R g (k + 1) c + 1) (by omega) (by omega))
        · omega

open Classical in
theorem dst_next (R : Rl) (g n b : Nat) (hn : 1 ≤ n) : dst R g (n + 1) b = if nxP R g n b then n else dst R g n b := by
  unfold nxP
  by_cases h : dst R g n b = 0
  · by_cases hw : W R n b g
    · rw [if_pos ⟨h, hw⟩, dst, if_neg (by simp [h]), if_pos ⟨hn, hw⟩]
    · rw [if_neg (fun h' => hw h'.2), dst, if_neg (by simp [h]), if_neg (fun h' => hw h'.2), h]
  · rw [if_neg (fun h' => h h'.1), dst, if_pos h]

theorem dst_closed (R : Rl) (g n : Nat) (hn : 2 ≤ n) (he : ∀ x, ¬ nwP R g n x) : ∀ m, 1 ≤ m → ∀ b, W R m b g → dst R g n b ≠ 0
  | 1, _, b, hw, h0 => by
    rcases dst_spec R g n b with h | h
    · exact h.2 1 (by omega) (by omega) hw
    · omega
  | m + 2, _, b, ⟨c, hbc, hc⟩, h0 => by
    have hc0 := dst_closed R g n hn he (m + 1) (by omega) c hc
    rcases dst_spec R g n c with h | ⟨h1, h2, h3, h4⟩
    · exact hc0 h.1
    · rcases dst_spec R g n b with h | h
      · rcases Nat.lt_or_ge (dst R g n c + 1) n with hl | hl
        · exact h.2 _ (by omega) hl ⟨c, hbc, h3⟩
        · obtain ⟨k, rfl⟩ : ∃ k, n = k + 2 := ⟨n - 2, by omega⟩
          have e : dst R g (k + 2) c = k + 1 := by omega
          rw [e] at h3 h4
          refine he c ⟨?_, h3⟩
          rcases dst_spec R g (k + 1) c with h5 | ⟨h5, h6, h7, _⟩
          · exact h5.1
          · exact absurd h7 (h4 _ h5 h6)
      · omega

theorem least_ex (p : Nat → Prop) (h : ∃ n, p n) : ∃ n, p n ∧ ∀ m, m < n → ¬ p m := by
  obtain ⟨n, hn⟩ := h
  induction n using Nat.strongRecOn with
  | _ n ih =>
    by_cases c : ∃ m, m < n ∧ p m
    · obtain ⟨m, hm, hp⟩ := c
      exact ih m hm hp
    · exact ⟨n, hn, fun m hm hp => c ⟨m, hm, hp⟩⟩

open Classical in
/-- How many steps, at least one, lead to the goal; 0: there is no way. -/
noncomputable def distR (R : Rl) (g b : Nat) : Nat := if h : ∃ m, 1 ≤ m ∧ W R m b g then (least_ex _ h).choose else 0

theorem distR_zero {R : Rl} {g b : Nat} (h : ∀ m, 1 ≤ m → ¬ W R m b g) : distR R g b = 0 := by
  unfold distR
  rw [dif_neg (fun ⟨m, h1, h2⟩ => h m h1 h2)]
theorem distR_at {R : Rl} {g b k : Nat} (h1 : 1 ≤ k) (h2 : W R k b g) (h3 : ∀ m, 1 ≤ m → m < k → ¬ W R m b g) : distR R g b = k := by
  have h : ∃ m, 1 ≤ m ∧ W R m b g := ⟨k, h1, h2⟩
  unfold distR
  rw [dif_pos h]
  obtain ⟨h4, h5⟩ := (least_ex _ h).choose_spec
  rcases Nat.lt_trichotomy ((least_ex _ h).choose) k with hl | hl | hl
  · exact absurd h4.2 (h3 _ h4.1 hl)
  · exact hl
  · exact absurd ⟨h1, h2⟩ (h5 k hl)
theorem distR_spec (R : Rl) (g b : Nat) : (distR R g b = 0 ∧ ∀ m, 1 ≤ m → ¬ W R m b g) ∨ (1 ≤ distR R g b ∧ W R (distR R g b) b g ∧ ∀ m, 1 ≤ m → m < distR R g b → ¬ W R m b g) := by
  by_cases h : ∃ m, 1 ≤ m ∧ W R m b g
  · obtain ⟨k, ⟨h1, h2⟩, h3⟩ := least_ex _ h
    have h3' : ∀ m, 1 ≤ m → m < k → ¬ W R m b g := fun m hm hl hw => h3 m hl ⟨hm, hw⟩
    rw [distR_at h1 h2 h3']
    exact .inr ⟨h1, h2, h3'⟩
  · have h' : ∀ m, 1 ≤ m → ¬ W R m b g := fun m h1 h2 => h ⟨m, h1, h2⟩
    exact .inl ⟨distR_zero h', h'⟩

theorem dst_final (R : Rl) (g n : Nat) (hn : 2 ≤ n) (he : ∀ x, ¬ nwP R g n x) (b : Nat) : dst R g n b = distR R g b := by
  rcases dst_spec R g n b with h | ⟨h1, h2, h3, h4⟩
  · rw [h.1, distR_zero fun m hm hw => dst_closed R g n hn he m hm b hw h.1]
  · rw [distR_at h1 h3 h4]

/-! ### Words -/
open Classical in
noncomputable def bitsP (p : Nat → Prop) : BitVec 64 := bitsB fun b => decide (p b)
theorem bitsP_get (p : Nat → Prop) (j : Nat) : (bitsP p).getLsbD j = true ↔ j < 64 ∧ p j := by
  unfold bitsP
  rw [bitsB_get]
  simp
theorem bits_ext {x y : BitVec 64} (h : ∀ j, j < 64 → (x.getLsbD j = true ↔ y.getLsbD j = true)) : x = y :=
  BitVec.eq_of_getLsbD_eq fun j hj => Bool.eq_iff_iff.2 (h j hj)

def orI (I : Rl) (l : List Nat) (acc : BitVec 64) : BitVec 64 := l.foldl (fun a b => a ||| I.row b) acc
theorem orI_get (I : Rl) (j : Nat) : ∀ (l : List Nat) (acc : BitVec 64), (orI I l acc).getLsbD j = true ↔ acc.getLsbD j = true ∨ ∃ b ∈ l, I.has b j = true
  | [], acc => by simp [orI]
  | b :: l, acc => by
    have := orI_get I j l (acc ||| I.row b)
    simp only [orI, List.foldl_cons] at this ⊢
    rw [this, BitVec.getLsbD_or]
    simp only [Bool.or_eq_true, List.mem_cons, exists_eq_or_imp]
    rw [or_assoc]; rfl

def setL (f : Nat → Nat) (l : List Nat) (n : Nat) : Nat → Nat := l.foldl (fun f b => fun x => if x = b then n else f x) f
theorem setL_at (n : Nat) : ∀ (l : List Nat) (f : Nat → Nat) (x : Nat), setL f l n x = if x ∈ l then n else f x
  | [], f, x => by simp [setL]
  | b :: l, f, x => by
    have := setL_at n l (fun x => if x = b then n else f x) x
    simp only [setL, List.foldl_cons] at this ⊢
    rw [this]
    by_cases h1 : x ∈ l
    · simp [h1]
    · by_cases h2 : x = b
      · simp [h2]
      · simp [h1, h2]

/-- How many have no number yet. -/
noncomputable def unseen (R : Rl) (g n : Nat) : Nat := (List.range 64).countP fun b => dst R g n b == 0
theorem unseen_le (R : Rl) (g n : Nat) (hn : 1 ≤ n) : unseen R g (n + 1) ≤ unseen R g n := by
  unfold unseen
  refine List.countP_mono_left fun b _ h => ?_
  rw [dst_next R g n b hn] at h
  split at h
  · simp at h; omega
  · exact h
theorem unseen_lt (R : Rl) (g n : Nat) (hn : 1 ≤ n) {b : Nat} (hb : b < 64) (h : nxP R g n b) : unseen R g (n + 1) < unseen R g n := by
  unfold unseen
  refine countP_lt (fun x _ hx => ?_) ⟨b, List.mem_range.2 hb, ?_, ?_⟩
  · rw [dst_next R g n x hn] at hx
    split at hx
    · simp at hx; omega
    · exact hx
  · simp [h.1]
  · rw [dst_next R g n b hn, if_pos h]
    simp; omega
theorem unseen_64 (R : Rl) (g n : Nat) : unseen R g n ≤ 64 := by
  unfold unseen
  have := List.countP_le_length (p := fun b => dst R g n b == 0) (l := List.range 64)
  simpa using this
end Go.Proofs.YtocpkgckllbjlaaDoor

/-
  far walked. Own work.
-/
namespace Go.Proofs.YtocpkgckllbjlaaDoor
open Go.AM
set_option maxRecDepth 100000

def outV (f : Nat → Nat) : List Value := (List.range 64).map fun b => .int .i64 (f b : Int)
@[simp] theorem outV_length (f : Nat → Nat) : (outV f).length = 64 := by simp [outV]
theorem outV_get (f : Nat → Nat) (i : Nat) (h : i < 64) : (outV f)[i]? = some (.int .i64 (f i : Int)) := by simp [outV, h]
theorem outV_set (f : Nat → Nat) (b n : Nat) : (outV f).set b (.int .i64 (n : Int)) = outV (fun x => if x = b then n else f x) := by
  apply List.ext_getElem?
  intro i
  rcases Nat.lt_or_ge i 64 with hi | hi
  · rw [outV_get _ i hi]
    by_cases e : b = i
    · subst e
      rw [List.getElem?_set_self (by simpa using hi)]; simp
    · rw [List.getElem?_set_ne e, outV_get _ i hi, if_neg (fun h => e h.symm)]
  · rw [List.getElem?_eq_none (by simpa using hi), List.getElem?_eq_none (by simpa using hi)]
theorem outV_one (f : Nat → Nat) : ∀ c ∈ outV f, c.oneCell' = true := by
  intro c hc
  simp only [outV, List.mem_map] at hc
  obtain ⟨b, _, rfl⟩ := hc; rfl
theorem outV_one' (f : Nat → Nat) : (∀ c ∈ outV f, c.oneCell' = true) ↔ True := iff_true_intro (outV_one f)
theorem outV_zero : outV (fun _ => 0) = List.replicate 64 (.int .i64 0) := by simp [outV, List.map_const']

abbrev farT (x now : BitVec 64) (n : Nat) : List (Nat × AV) := [(4, .ptr 1 0), (5, .ptr 2 0), (6, .ptr 3 0), (7, .v (.int .u64 (un now))), (8, .v (.int .u64 (un x))), (9, .v (.int .i64 (n : Int)))]
abbrev farB (R I : Rl) (f : Nat → Nat) : List (Nat × Blk) := [(0, .cells 25 [.vals 65 (relV R)]), (1, .cells 88 [.vals 64 (outV fun _ => 0)]), (2, .cells 88 [.vals 64 (outV f)]), (3, .cells 25 [.vals 65 (relV I)])]

theorem far_ok (R : Rl) (hR : Rt R) (g : Nat) (hg : g < 64) (w : World) (hT : TabAt w) (h0 : 0 < w.heap.size) :
    Gives Tryd.prog 88 [encRel R, .int .i64 (g : Int)] w (.agg (outV (distR R g)).toArray) := by
  refine Gives.of_run Tryd.func88 rfl (by show 2 ≤ 52; decide) ?_
  have z64 : z88.length = 64 := rfl
  refine RunF_sound tab_ok noX_local 100 [] _ _ rfl ?_ ?_
  · simp [segsVals, relV_one', z64]
  have hIh := invR_has R
  refine Run.callFn (r := encRel (invR R)) noX_local rfl rfl rfl rfl rfl rfl rfl inverse_enters rfl (fun w' hA => inverseT hR w' (hT.agree hA (fun f => f)) (Nat.lt_of_lt_of_le h0 hA.size)) ?_
  generalize invR R = I at hIh
  refine RunF_sound tab_ok noX_local 100 [] _ _ rfl ?_ ?_
  · simp [segsVals, relV_one', relV_tail_one]
  have nlt : ∀ n x, nwP R g n x → x < 64 := by
    intro n x hx
    match n, hx with
    | 1, hx => exact hx ▸ hg
    | k + 2, hx => exact (Rl.has_lt R hx.2.choose_spec.1).1
  have nxlt : ∀ n b, 1 ≤ n → nxP R g n b → b < 64 := fun n b hn h => nlt (n + 1) b (by obtain ⟨k, rfl⟩ : ∃ k, n = k + 1 := ⟨n - 1, by omega⟩; exact h)
  suffices H : ∀ (μ n : Nat) (now x : BitVec 64) (f : Nat → Nat), 1 ≤ n → n + μ ≤ 140 → 2 * unseen R g n + (if now = 0#64 then 0 else 1) ≤ μ → now = bitsP (nwP R g n) → x = bitsP (fun b => dst R g n b ≠ 0) → f = dst R g n →
      Run _ _ ⟨farT x now n, farB R I f, 4⟩ by
    have d1 : dst R g 1 = fun _ => 0 := by
      funext b
      rcases dst_spec R g 1 b with h | h
      · exact h.1
      · omega
    refine Run.to (H 129 1 (1#64 <<< g) 0#64 (fun _ => 0) (by omega) (by omega) ?_ ?_ ?_ d1.symm) ⟨rfl, rfl, rfl, ?_, rfl, rfl, trivial⟩ ⟨rfl, rfl, rfl, rfl, trivial⟩
    · have := unseen_64 R g 1
      split <;> omega
    · refine bits_ext fun j hj => ?_
      rw [one_shl_get g j hg, bitsP_get]
      simp [nwP, hj]
    · refine bits_ext fun j hj => ?_
      rw [bitsP_get, d1]
      simp
    · exact u64_eq (by rw [shl1_un]; simp)
  intro μ
  induction μ with
  | zero =>
    intro n now x f hn hle hμ hnow hx hf
    have hz : now = 0#64 := by
      by_cases h : now = 0#64
      · exact h
      · rw [if_neg h] at hμ; omega
    have hend : outV f = outV (distR R g) := by
      have hn2 : 2 ≤ n := by
        rcases Nat.lt_or_ge n 2 with h | h
        · obtain rfl : n = 1 := by omega
          have h1 : (bitsP (nwP R g 1)).getLsbD g = true := (bitsP_get _ _).2 ⟨hg, rfl⟩
          rw [← hnow, hz] at h1
          simp at h1
        · exact h
      have he : ∀ x, ¬ nwP R g n x := fun x hx' => by
        have h1 : (bitsP (nwP R g n)).getLsbD x = true := (bitsP_get _ _).2 ⟨nlt n x hx', hx'⟩
        rw [← hnow, hz] at h1
        simp at h1
      congr 1
      funext b
      rw [hf]; exact dst_final R g n hn2 he b
    refine RunF_sound tab_ok noX_local 100 [false] _ _ rfl ?_ ?_
    · simp [hz, segsVals, outV_one']
    refine Run.retP tab_ok Tryd.func88 rfl ?_ (fun M => ?_)
    · simp [segsVals]
    rw [← hend]; rfl
  | succ μ ih =>
    intro n now x f hn hle hμ hnow hx hf
    by_cases hz : now = 0#64
    · have hend : outV f = outV (distR R g) := by
        have hn2 : 2 ≤ n := by
          rcases Nat.lt_or_ge n 2 with h | h
          · obtain rfl : n = 1 := by omega
            have h1 : (bitsP (nwP R g 1)).getLsbD g = true := (bitsP_get _ _).2 ⟨hg, rfl⟩
            rw [← hnow, hz] at h1
            simp at h1
          · exact h
        have he : ∀ x, ¬ nwP R g n x := fun x hx' => by
          have h1 : (bitsP (nwP R g n)).getLsbD x = true := (bitsP_get _ _).2 ⟨nlt n x hx', hx'⟩
          rw [← hnow, hz] at h1
          simp at h1
        congr 1
        funext b
        rw [hf]; exact dst_final R g n hn2 he b
      refine RunF_sound tab_ok noX_local 100 [false] _ _ rfl ?_ ?_
      · simp [hz, segsVals, outV_one']
      refine Run.retP tab_ok Tryd.func88 rfl ?_ (fun M => ?_)
      · simp [segsVals]
      rw [← hend]; rfl
    · have hbits : ∀ b, b ∈ bitsL now ↔ b < 64 ∧ nwP R g n b := fun b => by rw [bitsL_mem, hnow, bitsP_get]
      refine RunF_sound tab_ok noX_local 100 [true] _ _ rfl ?_ ?_
      · simp [hz]
      suffices H2 : ∀ (m : Nat) (y acc : BitVec 64), (bitsL y).length = m → orI I (bitsL y) acc = orI I (bitsL now) 0#64 →
          Run _ _ ⟨[(4, .ptr 1 0), (5, .ptr 2 0), (6, .ptr 3 0), (7, .v (.int .u64 (un y))), (8, .v (.int .u64 (un x))), (9, .v (.int .i64 (n : Int))), (10, .v (.int .u64 (un acc)))], farB R I f, 4⟩ by
        exact Run.to (H2 _ now 0#64 rfl rfl) ⟨rfl, rfl, rfl, rfl, rfl, rfl, rfl, trivial⟩ ⟨rfl, rfl, rfl, rfl, trivial⟩
      intro m
      induction m with
      | zero =>
        intro y acc hm hacc
        have hy : y = 0#64 := by
          by_cases h : y = 0#64
          · exact h
          · rw [bitsL_cons y h] at hm; cases hm
        rw [hy, bitsL_zero] at hacc
        have hnx : ∀ j, (acc &&& ~~~x).getLsbD j = true ↔ j < 64 ∧ nxP R g n j := by
          intro j
          rw [BitVec.getLsbD_and, BitVec.getLsbD_not, Bool.and_eq_true]
          have h1 : acc.getLsbD j = true ↔ ∃ b, nwP R g n b ∧ R.has j b = true := by
            have : acc = orI I (bitsL now) 0#64 := hacc
            rw [this, orI_get]
            simp only [BitVec.getLsbD_zero, Bool.false_eq_true, false_or]
            constructor
            · rintro ⟨b, hb, h⟩; exact ⟨b, ((hbits b).1 hb).2, (hIh b j).1 h⟩
            · rintro ⟨b, hb, h⟩; exact ⟨b, (hbits b).2 ⟨nlt n b hb, hb⟩, (hIh b j).2 h⟩
          have h2 : x.getLsbD j = true ↔ j < 64 ∧ dst R g n j ≠ 0 := by rw [hx, bitsP_get]
          rw [h1]
          constructor
          · rintro ⟨h3, h4⟩
            simp only [Bool.and_eq_true, decide_eq_true_eq, Bool.not_eq_true'] at h4
            have h5 : dst R g n j = 0 := by
              by_cases h : dst R g n j = 0
              · exact h
              · rw [h2.2 ⟨h4.1, h⟩] at h4; cases h4.2
            exact ⟨h4.1, h5, (now_step R g n j hn h5).1 h3⟩
          · rintro ⟨hj, h5, h6⟩
            refine ⟨(now_step R g n j hn h5).2 h6, ?_⟩
            have : x.getLsbD j = false := Bool.eq_false_iff.2 fun h => (h2.1 h).2 h5
            rw [this, decide_eq_true hj]; rfl
        generalize hnxt : acc &&& ~~~x = nxt at hnx
        have hnb : ∀ b, b ∈ bitsL nxt ↔ b < 64 ∧ nxP R g n b := fun b => by rw [bitsL_mem]; exact hnx b
        refine RunF_sound tab_ok noX_local 100 [false] _ _ rfl ?_ ?_
        · simp [hy]
        suffices H3 : ∀ (m : Nat) (l : BitVec 64) (f' : Nat → Nat), (bitsL l).length = m → setL f' (bitsL l) n = dst R g (n + 1) →
            Run _ _ ⟨[(4, .ptr 1 0), (5, .ptr 2 0), (6, .ptr 3 0), (8, .v (.int .u64 (un (x ||| nxt)))), (9, .v (.int .i64 (n : Int))), (10, .v (.int .u64 (un nxt))), (11, .v (.int .u64 (un l)))], farB R I f', 4⟩ by
          refine Run.to (H3 _ nxt f rfl ?_) ⟨rfl, rfl, rfl, u64_eq (by simp [hnxt]), rfl, u64_eq (by simp [hnxt]), u64_eq (by simp [hnxt]), trivial⟩ ⟨rfl, rfl, rfl, rfl, trivial⟩
          funext b
          rw [setL_at, dst_next R g n b hn, hf]
          by_cases h : nxP R g n b
          · rw [if_pos h, if_pos ((hnb b).2 ⟨nxlt n b hn h, h⟩)]
          · rw [if_neg h, if_neg fun h' => h ((hnb b).1 h').2]
        intro m3
        induction m3 with
        | zero =>
          intro l f' hl hset
          have hl0 : l = 0#64 := by
            by_cases h : l = 0#64
            · exact h
            · rw [bitsL_cons l h] at hl; cases hl
          rw [hl0, bitsL_zero] at hset
          refine RunF_sound tab_ok noX_local 100 [false] _ _ rfl ?_ ?_
          · simp [hl0]
          refine Run.to (ih (n + 1) nxt (x ||| nxt) f' (by omega) (by omega) ?_ ?_ ?_ hset) ⟨rfl, rfl, rfl, rfl, rfl, i64_eq (wrap_succ (by omega)), trivial⟩ ⟨rfl, rfl, rfl, rfl, trivial⟩
          · have hu := unseen_le R g n hn
            rw [if_neg hz] at hμ
            split
            · omega
            · rename_i hnz
              have : ∃ b, b < 64 ∧ nxP R g n b := by
                have hb : tz nxt ∈ bitsL nxt := by rw [bitsL_cons nxt hnz]; simp
                exact ⟨_, (hnb _).1 hb⟩
              obtain ⟨b, hb, hbn⟩ := this
              have := unseen_lt R g n hn hb hbn
              omega
          · refine bits_ext fun j hj => ?_
            rw [hnx, bitsP_get]
            obtain ⟨k, rfl⟩ : ∃ k, n = k + 1 := ⟨n - 1, by omega⟩
            rfl
          · refine bits_ext fun j hj => ?_
            rw [BitVec.getLsbD_or, Bool.or_eq_true, hnx, hx, bitsP_get, bitsP_get, dst_next R g n j hn]
            by_cases h : nxP R g n j
            · rw [if_pos h]
              simp [h, hj]; omega
            · rw [if_neg h]
              simp [h]
        | succ m3 ih3 =>
          intro l f' hl hset
          have hl0 : l ≠ 0#64 := fun h => by rw [h, bitsL_zero] at hl; cases hl
          have htl := tz_lt l hl0
          rw [bitsL_cons l hl0] at hset hl
          refine RunF_sound tab_ok noX_local 100 [true] _ _ rfl ?_ ?_
          · simp [hl0]
          refine Run.callFn (r := .int .i64 (tz l : Int)) noX_local rfl rfl rfl rfl rfl rfl rfl tz_enters rfl (fun w' hw' => by have := tz_ok l w' (hT.agree hw' (fun f => f)); rwa [tzI, if_neg hl0] at this) ?_
          refine RunF_sound tab_ok noX_local 100 [] _ _ rfl ?_ ?_
          · simp [okCell, Value.oneCell']; omega
          refine Run.to (ih3 (dropLow l) (fun y => if y = tz l then n else f' y) (by simpa using hl) hset) ⟨rfl, rfl, rfl, rfl, rfl, rfl, u64_eq (by rw [sub1_un, band_un]; rfl), trivial⟩ ⟨rfl, rfl, ?_, rfl, trivial⟩
          refine congrArg (fun l => some (Blk.cells 88 [.vals 64 l])) ?_
          rw [← outV_set]
          simp
      | succ m ihm =>
        intro y acc hm hacc
        have hy : y ≠ 0#64 := fun h => by rw [h, bitsL_zero] at hm; cases hm
        have hty := tz_lt y hy
        rw [bitsL_cons y hy] at hacc hm
        refine RunF_sound tab_ok noX_local 100 [true] _ _ rfl ?_ ?_
        · simp [hy]
        refine Run.callFn (r := .int .i64 (tz y : Int)) noX_local rfl rfl rfl rfl rfl rfl rfl tz_enters rfl (fun w' hw' => by have := tz_ok y w' (hT.agree hw' (fun f => f)); rwa [tzI, if_neg hy] at this) ?_
        refine RunF_sound tab_ok noX_local 100 [] _ _ rfl ?_ ?_
        · simp [relV_get _ _ hty, intAt_row _ _ hty]; omega
        refine Run.to (ihm (dropLow y) (acc ||| I.row (tz y)) (by simpa using hm) hacc) ⟨rfl, rfl, rfl, u64_eq (by rw [sub1_un, band_un]; rfl), rfl, rfl, u64_eq ?_, trivial⟩ ⟨rfl, rfl, rfl, rfl, trivial⟩
        have e1 : intAt (relV I) (1 + tz y) = un (I.row (tz y)) := intAt_row _ _ hty
        simp [e1]
theorem far_enters : Enters Tryd.prog 88 := enters_mk Tryd.func88 (by decide) rfl
end Go.Proofs.YtocpkgckllbjlaaDoor

/-
  Own work, merged: L4, L5, AM25, L6, L7.
-/
import Derived.AtR
import Derived.Below
import Derived.ChangeKeysEq
import Derived.KernelRfl
import Derived.LaidMore
import Derived.Laws.AppendOwn
import Derived.Laws.BytesString
import Derived.Laws.Cells
import Derived.Laws.CopyRow
import Derived.Laws.Entries
import Derived.Laws.Rows
import Derived.Laws.Small
import Derived.Laws.StructEq
import Derived.Lib.LaidTab
import Derived.Lib.TrailingZeros
import Derived.Maps.AppendAt
import Derived.OpenShut
import Derived.Orders
import Derived.ProofKit
import Derived.RangeFuncRecord
import Derived.SevenTiedAt
import Derived.Stop.Joined
import Derived.Test.YtocpkgckllbjlaaDoorCards
import Derived.Test.YtocpkgckllbjlaaDoorProg
import Derived.Test.YtocpkgckllbjlaaDoorRows
import Derived.Test.YtocpkgckllbjlaaDoorTie
import Derived.Test.YtocpkgckllbjlaaDoorQDFD2D0
/-
  RelLaws answers true. Own work.
-/
namespace Go.Proofs.YtocpkgckllbjlaaDoor
open Go.AM
set_option maxRecDepth 100000

def invR (R : Rl) : Rl := Rl.gen R.n fun x y => R.has y x
def notR (R : Rl) : Rl := Rl.gen R.n (pNot R)

theorem invR_n (R : Rl) : (invR R).n = R.n := Rl.n_gen _ _
theorem invR_has (R : Rl) (a b : Nat) : (invR R).has a b = true ↔ R.has b a = true := by
  unfold invR
  rw [Rl.has_gen]
  constructor
  · intro h; simp at h; exact h.2
  · intro h; have := Rl.has_lt R h; simp [h, this]
theorem invR_rt {R : Rl} (hR : Rt R) : Rt (invR R) := ⟨by rw [invR_n]; exact hR.lo, by rw [invR_n]; exact hR.hi, fun a b h => by
  rw [invR_n]
  have := hR.lt _ _ ((invR_has R a b).1 h)
  exact ⟨this.2, this.1⟩⟩
theorem notR_n (R : Rl) : (notR R).n = R.n := Rl.n_gen _ _
theorem notR_has {R : Rl} (hR : Rt R) (a b : Nat) : (notR R).has a b = true ↔ ((a : Int) < R.n ∧ (b : Int) < R.n) ∧ ¬ R.has a b = true := by
  unfold notR
  rw [Rl.has_gen]
  unfold pNot
  have := hR.hi
  constructor
  · intro h; simp at h; simp [h]
  · rintro ⟨⟨h1, h2⟩, h3⟩; simp [h3]; omega
theorem notR_rt {R : Rl} (hR : Rt R) : Rt (notR R) := ⟨by rw [notR_n]; exact hR.lo, by rw [notR_n]; exact hR.hi, fun a b h => by
  rw [notR_n]; exact ((notR_has hR a b).1 h).1⟩

theorem inverseT {r : Rl} (hr : Rt r) (w : World) (hT : TabAt w) (h0 : 0 < w.heap.size) : Gives Tryd.prog 26 [encRel r] w (encRel (invR r)) := by
  have := inverse_ok r w hT h0
  rwa [inverse_eq, hr.right] at this
theorem notT {r : Rl} (hr : Rt r) (w : World) : Gives Tryd.prog 28 [encRel r] w (encRel (notR r)) := by
  have := not_ok r w
  rwa [not_eq, hr.right] at this
theorem void_rt {n : Int} (h0 : 0 ≤ n) (h1 : n ≤ 64) : Rt (Rl.void n) := ⟨h0, h1, fun a b h => by rw [void_has] at h; cases h⟩

theorem countP_or_and {α : Type} (p q : α → Bool) : ∀ l : List α, l.countP (fun x => p x || q x) + l.countP (fun x => p x && q x) = l.countP p + l.countP q
  | [] => rfl
  | x :: l => by
    have := countP_or_and p q l
    simp only [List.countP_cons]
    cases p x <;> cases q x <;> simp <;> omega

theorem bits_count (R : Rl) (i : Nat) : (bitsL (R.row i)).length = (List.range 64).countP fun j => R.has i j := by
  unfold bitsL
  rw [List.countP_eq_length_filter]
  rfl

theorem sum_or_and {R S : Rl} (hR : Rt R) (hS : Rt S) (hn : R.n = S.n) : ∀ d i, sumL (twoR 0 R S) i d + sumL (twoR 1 R S) i d = sumL R i d + sumL S i d
  | 0, _ => rfl
  | d + 1, i => by
    have := sum_or_and hR hS hn d (i + 1)
    simp only [sumL, bits_count]
    have e0 : (fun j => (twoR 0 R S).has i j) = fun j => R.has i j || S.has i j := by funext j; rw [twoR_has 0 hR hS hn]; rfl
    have e1 : (fun j => (twoR 1 R S).has i j) = fun j => R.has i j && S.has i j := by funext j; rw [twoR_has 1 hR hS hn]; rfl
    rw [e0, e1]
    have := countP_or_and (fun j => R.has i j) (fun j => S.has i j) (List.range 64)
    omega

theorem countT {r : Rl} (hr : Rt r) (w : World) : Gives Tryd.prog 15 [encRel r] w (.int .i64 (sumL r 0 64 : Int)) := by
  have := count_ok r w
  rwa [hr.right] at this

theorem relLaws_ok (r s t : Rl) (w : World) (hT : TabAt w) (h0 : 0 < w.heap.size) : Gives Tryd.prog 11 [encRel r, encRel s, encRel t] w (.bool true) := by
  have hTA : ∀ w', Agree (fun _ => False) w w' → TabAt w' ∧ 0 < w'.heap.size := fun w' hA => ⟨hT.agree hA (fun f => f), Nat.lt_of_lt_of_le h0 hA.size⟩
  have hwk : ∀ w', Agree (fun _ => False) w w' → Gives Tryd.prog 62 [] w' (.bool true) := fun w' hA => works_ok w' (hTA w' hA).1 (hTA w' hA).2
  by_cases cr : checkI r = 0
  · by_cases cs : checkI s = 0
    · by_cases ct : checkI t = 0
      · by_cases hn : r.n = s.n
        · by_cases hn2 : s.n = t.n
          · have hr := rt_check cr
            have hs := rt_check cs
            have ht := rt_check ct
            have hrt : r.n = t.n := hn.trans hn2
            have U : ∀ (a b : Rl) w', Agree (fun _ => False) w w' → Gives Tryd.prog 21 [encRel a, encRel b] w' (encRel (twoR 0 a b)) := fun a b w' _ => unionT a b w'
            have M : ∀ (a b : Rl) w', Agree (fun _ => False) w w' → Gives Tryd.prog 23 [encRel a, encRel b] w' (encRel (twoR 1 a b)) := fun a b w' _ => meetT a b w'
            have D : ∀ (a b : Rl) w', Agree (fun _ => False) w w' → Gives Tryd.prog 24 [encRel a, encRel b] w' (encRel (twoR 2 a b)) := fun a b w' _ => minusT a b w'
            have K : ∀ (a b : Rl) w', Agree (fun _ => False) w w' → Gives Tryd.prog 25 [encRel a, encRel b] w' (encRel (twoR 3 a b)) := fun a b w' hA => composeT a b w' (hTA w' hA).1 (hTA w' hA).2
            have N : ∀ (a : Rl), Rt a → ∀ w', Agree (fun _ => False) w w' → Gives Tryd.prog 28 [encRel a] w' (encRel (notR a)) := fun a ha w' _ => notT ha w'
            have I : ∀ (a : Rl), Rt a → ∀ w', Agree (fun _ => False) w w' → Gives Tryd.prog 26 [encRel a] w' (encRel (invR a)) := fun a ha w' hA => inverseT ha w' (hTA w' hA).1 (hTA w' hA).2
            have C : ∀ (a : Rl), Rt a → ∀ w', Agree (fun _ => False) w w' → Gives Tryd.prog 15 [encRel a] w' (.int .i64 (sumL a 0 64 : Int)) := fun a ha w' _ => countT ha w'
            have hu := twoR_rt 0 hr hs hn
            have hun := twoR_n 0 hr hs hn
            have hm := twoR_rt 1 hr hs hn
            have hmn := twoR_n 1 hr hs hn
            have hc := twoR_rt 3 hr hs hn
            have hcn := twoR_n 3 hr hs hn
            have hst := twoR_rt 0 hs ht hn2
            have hstn := twoR_n 0 hs ht hn2
            have hcst := twoR_rt 3 hs ht hn2
            have hcstn := twoR_n 3 hs ht hn2
            have hmrt := twoR_rt 1 hr ht hrt
            have hmrtn := twoR_n 1 hr ht hrt
            have hcrt := twoR_rt 3 hr ht hrt
            have hcrtn := twoR_n 3 hr ht hrt
            have hnr := notR_rt hr
            have hns := notR_rt hs
            have hnu := notR_rt hu
            have hir := invR_rt hr
            have his := invR_rt hs
            have hone := onL_rt hr.lo hr.hi (s := 18446744073709551615#64)
            have honen := onL_n hr.lo hr.hi (s := 18446744073709551615#64)
            have hv := void_rt hr.lo hr.hi
            have ones : ∀ a, a < 64 → (18446744073709551615#64).getLsbD a = true := fun a ha => by
              have : 18446744073709551615#64 = BitVec.allOnes 64 := rfl
              rw [this, BitVec.getLsbD_allOnes, decide_eq_true ha]
            have e61 : twoR 0 r s = twoR 0 s r := rl_ext (by rw [hun, twoR_n 0 hs hr hn.symm, hn]) fun a b => by rw [union_has hr hs hn, union_has hs hr hn.symm]; exact or_comm
            have e67 : twoR 1 r s = twoR 1 s r := rl_ext (by rw [hmn, twoR_n 1 hs hr hn.symm, hn]) fun a b => by rw [meet_has hr hs hn, meet_has hs hr hn.symm]; exact and_comm
            have e77 : notR (twoR 0 r s) = twoR 1 (notR r) (notR s) := rl_ext (by rw [notR_n, hun, twoR_n 1 hnr hns (by rw [notR_n, notR_n, hn]), notR_n]) fun a b => by
              rw [notR_has hu, hun, union_has hr hs hn, meet_has hnr hns (by rw [notR_n, notR_n, hn]), notR_has hr, notR_has hs, hn]
              grind
            have e84 : notR (notR r) = r := rl_ext (by rw [notR_n, notR_n]) fun a b => by
              rw [notR_has hnr, notR_n, notR_has hr]
              have := hr.lt a b
              grind
            have e94 : twoR 2 r s = twoR 1 r (notR s) := rl_ext (by rw [twoR_n 2 hr hs hn, twoR_n 1 hr hns (by rw [notR_n, hn])]) fun a b => by
              rw [minus_has hr hs hn, meet_has hr hns (by rw [notR_n, hn]), notR_has hs, ← hn]
              have := hr.lt a b
              grind
            have e102 : twoR 1 r (notR r) = Rl.void r.n := rl_ext (by rw [twoR_n 1 hr hnr (notR_n r).symm]; rfl) fun a b => by
              rw [meet_has hr hnr (notR_n r).symm, notR_has hr, void_has]
              grind
            have e112 : twoR 0 (twoR 0 r s) t = twoR 0 r (twoR 0 s t) := rl_ext (by rw [twoR_n 0 hu ht (hun.trans hrt), hun, twoR_n 0 hr hst (hn.trans hstn.symm)]) fun a b => by
              rw [union_has hu ht (hun.trans hrt), union_has hr hs hn, union_has hr hst (hn.trans hstn.symm), union_has hs ht hn2]
              grind
            have e124 : twoR 1 r (twoR 0 s t) = twoR 0 (twoR 1 r s) (twoR 1 r t) := rl_ext (by rw [twoR_n 1 hr hst (hn.trans hstn.symm), twoR_n 0 hm hmrt (hmn.trans hmrtn.symm), hmn]) fun a b => by
              rw [meet_has hr hst (hn.trans hstn.symm), union_has hs ht hn2, union_has hm hmrt (hmn.trans hmrtn.symm), meet_has hr hs hn, meet_has hr ht hrt]
              grind
            have k137 : (sumL (twoR 0 r s) 0 64 : Int) + (sumL (twoR 1 r s) 0 64 : Int) = (sumL r 0 64 : Int) + (sumL s 0 64 : Int) := by
              have := sum_or_and hr hs hn 64 0
              omega
            have e150 : twoR 3 (twoR 3 r s) t = twoR 3 r (twoR 3 s t) := rl_ext (by rw [twoR_n 3 hc ht (hcn.trans hrt), hcn, twoR_n 3 hr hcst (hn.trans hcstn.symm)]) fun a b => by
              rw [comp_has hc ht (hcn.trans hrt), comp_has hr hcst (hn.trans hcstn.symm)]
              constructor
              · rintro ⟨y, h1, h2⟩
                obtain ⟨x, h3, h4⟩ := (comp_has hr hs hn _ _).1 h1
                exact ⟨x, h3, (comp_has hs ht hn2 _ _).2 ⟨y, h4, h2⟩⟩
              · rintro ⟨x, h1, h2⟩
                obtain ⟨y, h3, h4⟩ := (comp_has hs ht hn2 _ _).1 h2
                exact ⟨y, (comp_has hr hs hn _ _).2 ⟨x, h1, h3⟩, h4⟩
            have e162 : twoR 3 r (twoR 0 s t) = twoR 0 (twoR 3 r s) (twoR 3 r t) := rl_ext (by rw [twoR_n 3 hr hst (hn.trans hstn.symm), twoR_n 0 hc hcrt (hcn.trans hcrtn.symm), hcn]) fun a b => by
              rw [comp_has hr hst (hn.trans hstn.symm), union_has hc hcrt (hcn.trans hcrtn.symm), comp_has hr hs hn, comp_has hr ht hrt]
              constructor
              · rintro ⟨y, h1, h2⟩
                rcases (union_has hs ht hn2 _ _).1 h2 with h | h
                · exact .inl ⟨y, h1, h⟩
                · exact .inr ⟨y, h1, h⟩
              · rintro (⟨y, h1, h2⟩ | ⟨y, h1, h2⟩)
                · exact ⟨y, h1, (union_has hs ht hn2 _ _).2 (.inl h2)⟩
                · exact ⟨y, h1, (union_has hs ht hn2 _ _).2 (.inr h2)⟩
            have e169 : twoR 3 r (onL r.n 18446744073709551615#64) = r := rl_ext (twoR_n 3 hr hone honen.symm) fun a b => by
              rw [comp_has hr hone honen.symm]
              constructor
              · rintro ⟨y, h1, h2⟩
                obtain ⟨rfl, _⟩ := (onL_all_has hr.lo hr.hi _ _).1 h2
                exact h1
              · intro h
                have := hr.lt a b h
                have h64 := hr.hi
                exact ⟨b, h, (onL_all_has hr.lo hr.hi _ _).2 ⟨rfl, this.2, ones b (by omega)⟩⟩
            have e176 : twoR 3 (onL r.n 18446744073709551615#64) r = r := rl_ext (by rw [twoR_n 3 hone hr honen, honen]) fun a b => by
              rw [comp_has hone hr honen]
              constructor
              · rintro ⟨y, h1, h2⟩
                obtain ⟨rfl, _⟩ := (onL_all_has hr.lo hr.hi _ _).1 h1
                exact h2
              · intro h
                have := hr.lt a b h
                have h64 := hr.hi
                exact ⟨a, (onL_all_has hr.lo hr.hi _ _).2 ⟨rfl, this.1, ones a (by omega)⟩, h⟩
            have e183 : twoR 3 r (Rl.void r.n) = Rl.void r.n := rl_ext (twoR_n 3 hr hv rfl) fun a b => by
              rw [comp_has hr hv rfl, void_has]
              constructor
              · rintro ⟨y, _, h⟩; rw [void_has] at h; cases h
              · intro h; cases h
            have hin : (invR s).n = (invR r).n := by rw [invR_n, invR_n, hn]
            have e192 : invR (twoR 3 r s) = twoR 3 (invR s) (invR r) := rl_ext (by rw [invR_n, hcn, twoR_n 3 his hir hin, invR_n, hn]) fun a b => by
              rw [invR_has, comp_has hr hs hn, comp_has his hir hin]
              constructor
              · rintro ⟨y, h1, h2⟩; exact ⟨y, (invR_has s a y).2 h2, (invR_has r y b).2 h1⟩
              · rintro ⟨y, h1, h2⟩; exact ⟨y, (invR_has r y b).1 h2, (invR_has s a y).1 h1⟩
            have e198 : invR (invR r) = r := rl_ext (by rw [invR_n, invR_n]) fun a b => by rw [invR_has, invR_has]
            have k206 : domL (rightL (invR r)) = ranL r := by unfold ranL invR; rw [hr.right]
            exact laws_6 r s t _ _ _ _ _ _ _ _ _ _ _ _ _ _ _ _ _ _ _ _ _ _ _ _ _ _ _ _ _ _ _ _ _ _ _ _ _ _ _ _ _ _ _ _ _ _ _ _ w cr cs ct hn hn2 k137 k206 hwk (fun w' _ => all_ok w') (fun w' _ => on_ok _ _ w') (U r s) (M r s) (U s r) e61 (M s r) e67 (N _ hu) (N r hr) (N s hs) (M _ _) e77
              (N r hr) (N _ hnr) e84 (D r s) (N s hs) (M _ _) e94 (N r hr) (M _ _) e102 (U _ _) (U _ _) (U _ _) e112 (U _ _) (M _ _) (M _ _) (U _ _) e124 (C _ hu) (C _ hm) (C _ hr) (C _ hs)
              (K r s) (K _ _) (K _ _) (K _ _) e150 (U _ _) (K _ _) (K _ _) (U _ _) e162 (K _ _) e169 (K _ _) e176 (K _ _) e183 (I _ hc) (I _ hs) (I _ hr) (K _ _) e192 (I _ hr) (I _ hir) e198 (I _ hr)
              (fun w' _ => domain_ok _ w') (fun w' hA => range_ok r w' (hTA w' hA).1 (hTA w' hA).2)
          · exact laws_5 r s t w cr cs ct hn hn2 hwk
        · exact laws_4 r s t w cr cs ct hn hwk
      · exact laws_3 r s t w cr cs ct hwk
    · exact laws_2 r s t w cr cs hwk
  · exact laws_1 r s t w cr hwk
end Go.Proofs.YtocpkgckllbjlaaDoor

/-
  The reduction: plain; Reduce walked. Own work.
-/
namespace Go.Proofs.YtocpkgckllbjlaaDoor
open Go.AM
set_option maxRecDepth 100000

/-- What is between two numbers. -/
noncomputable def mid (P : Rl) (a b : Nat) : Nat := (List.range 64).countP fun c => P.has a c && P.has c b

theorem mid_lt {P : Rl} {a b a' b' c : Nat} (hs : ∀ z, P.has a' z = true → P.has z b' = true → P.has a z = true ∧ P.has z b = true) (h1 : P.has a c = true) (h2 : P.has c b = true) (hn : ¬ (P.has a' c = true ∧ P.has c b' = true)) : mid P a' b' < mid P a b := by
  unfold mid
  refine countP_lt (fun x _ hx => ?_) ⟨c, ?_, ?_, ?_⟩
  · simp only [Bool.and_eq_true] at hx ⊢
    exact hs x hx.1 hx.2
  · exact List.mem_range.2 (Rl.has_lt _ h2).1
  · simp [h1, h2]
  · cases h : (P.has a' c && P.has c b') with
    | false => rfl
    | true => simp only [Bool.and_eq_true] at h; exact absurd h hn

/-- What is left of an acyclic relation. -/
noncomputable def redR (R : Rl) : Rl := twoR 2 R (twoR 3 R (clos R))

theorem redR_n {R : Rl} (hR : Rt R) : (redR R).n = R.n := by
  unfold redR
  rw [twoR_n 2 hR (twoR_rt 3 hR (clos_rt hR) (clos_n R).symm) (twoR_n 3 hR (clos_rt hR) (clos_n R).symm).symm]
theorem redR_has {R : Rl} (hR : Rt R) (a b : Nat) : (redR R).has a b = true ↔ R.has a b = true ∧ ¬ ∃ c, R.has a c = true ∧ (clos R).has c b = true := by
  unfold redR
  rw [minus_has hR (twoR_rt 3 hR (clos_rt hR) (clos_n R).symm) (twoR_n 3 hR (clos_rt hR) (clos_n R).symm).symm, comp_has hR (clos_rt hR) (clos_n R).symm]
theorem redR_rt {R : Rl} (hR : Rt R) : Rt (redR R) := ⟨by rw [redR_n hR]; exact hR.lo, by rw [redR_n hR]; exact hR.hi, fun a b h => by
  rw [redR_n hR]; exact hR.lt _ _ ((redR_has hR a b).1 h).1⟩

theorem clos_first {R : Rl} (hR : Rt R) {a b : Nat} (h : (clos R).has a b = true) : R.has a b = true ∨ ∃ c, R.has a c = true ∧ (clos R).has c b = true := by
  have h' := (clos_has hR a b).1 h
  clear h
  induction h' with
  | single h => exact .inl h
  | @tail c d h1 h2 ih =>
    rcases ih with h | ⟨z, h3, h4⟩
    · exact .inr ⟨c, h, clos_sub hR _ _ h2⟩
    · exact .inr ⟨z, h3, clos_trans hR _ _ _ h4 (clos_sub hR _ _ h2)⟩

theorem red_clos {R : Rl} (hR : Rt R) (hac : irB (clos R) = true) : clos (redR R) = clos R := by
  have hx := redR_rt hR
  have hirr : ∀ i, ¬ (clos R).has i i = true := by
    intro i h
    have := irB_false h
    rw [this] at hac; cases hac
  have ht := clos_trans hR
  have key : ∀ m a b, mid (clos R) a b = m → (clos R).has a b = true → (clos (redR R)).has a b = true := by
    intro m
    induction m using Nat.strongRecOn with
    | _ m ih =>
      intro a b hm hab
      by_cases hc : ∃ c, (clos R).has a c = true ∧ (clos R).has c b = true
      · obtain ⟨c, h1, h2⟩ := hc
        have l1 : mid (clos R) a c < m := by
          rw [← hm]
          exact mid_lt (c := c) (fun z hz1 hz2 => ⟨hz1, ht _ _ _ hz2 h2⟩) h1 h2 (fun h => hirr c h.2)
        have l2 : mid (clos R) c b < m := by
          rw [← hm]
          exact mid_lt (c := c) (fun z hz1 hz2 => ⟨ht _ _ _ h1 hz1, hz2⟩) h1 h2 (fun h => hirr c h.1)
        exact clos_trans hx _ _ _ (ih _ l1 a c rfl h1) (ih _ l2 c b rfl h2)
      · have hr : R.has a b = true := by
          rcases clos_first hR hab with h | ⟨c, h1, h2⟩
          · exact h
          · exact absurd ⟨c, clos_sub hR _ _ h1, h2⟩ hc
        exact clos_sub hx _ _ ((redR_has hR a b).2 ⟨hr, fun ⟨c, h1, h2⟩ => hc ⟨c, clos_sub hR _ _ h1, h2⟩⟩)
  refine rl_ext (by rw [clos_n, clos_n, redR_n hR]) fun a b => ⟨fun h => ?_, fun h => key _ a b rfl h⟩
  exact clos_least hx (fun a b h => clos_sub hR a b ((redR_has hR a b).1 h).1) ht a b h

/-- Without one of its pairs what is left leads to less. -/
theorem red_less {R S : Rl} (hR : Rt R) (hS : Rt S) {a b : Nat} (hab : (redR R).has a b = true) (hs : ∀ x y, S.has x y = true → (redR R).has x y = true ∧ ¬ (x = a ∧ y = b)) : clos S ≠ clos R := by
  intro e
  have h1 : (clos S).has a b = true := by rw [e]; exact clos_sub hR _ _ ((redR_has hR a b).1 hab).1
  rcases clos_first hS h1 with h | ⟨c, h2, h3⟩
  · exact (hs a b h).2 ⟨rfl, rfl⟩
  · rw [e] at h3
    exact ((redR_has hR a b).1 hab).2 ⟨c, ((redR_has hR a c).1 (hs a c h2).1).1, h3⟩

open Classical in
/-- What Reduce hands back. -/
noncomputable def redL (r : Rl) : Rl := if irB (clos (rightL r)) = true then twoR 2 r (twoR 3 r (clos (rightL r))) else Rl.void 0

theorem reduce_ok (r : Rl) (w : World) (hT : TabAt w) (h0 : 0 < w.heap.size) : Gives Tryd.prog 51 [encRel r] w (.tuple #[encRel (redL r), .bool (irB (clos (rightL r)))]) := by
  refine Gives.of_run Tryd.func51 rfl (by show 1 ≤ 14; decide) ?_
  refine RunF_sound tab_ok noX_local 100 [] _ _ rfl ?_ ?_
  · simp
  refine Run.callFn noX_local rfl rfl rfl rfl rfl rfl rfl acyclic_enters rfl (fun w' _ => acyclic_ok r w') ?_
  have hred : redL r = if irB (clos (rightL r)) = true then twoR 2 r (twoR 3 r (clos (rightL r))) else Rl.void 0 := rfl
  obtain ⟨Pl, g1⟩ : ∃ P : Rl, P = clos (rightL r) := ⟨_, rfl⟩
  obtain ⟨Q, g2⟩ : ∃ Q : Rl, Q = twoR 3 r Pl := ⟨_, rfl⟩
  obtain ⟨D, g3⟩ : ∃ D : Rl, D = twoR 2 r Q := ⟨_, rfl⟩
  have k1 : ∀ w', Gives Tryd.prog 34 [encRel r] w' (encRel Pl) := fun w' => by rw [g1]; exact plus_ok r w'
  have k2 : ∀ w', Agree (fun _ => False) w w' → Gives Tryd.prog 25 [encRel r, encRel Pl] w' (encRel Q) := fun w' hA => by rw [g2]; exact composeT r Pl w' (hT.agree hA (fun f => f)) (Nat.lt_of_lt_of_le h0 hA.size)
  have k3 : ∀ w', Gives Tryd.prog 24 [encRel r, encRel Q] w' (encRel D) := fun w' => by rw [g3]; exact minusT r Q w'
  rw [← g1, ← g2, ← g3] at hred
  rw [← g1]
  by_cases c : irB Pl = true
  · rw [if_pos c] at hred
    rw [c, hred]
    refine RunF_sound tab_ok noX_local 100 [false] _ _ rfl ?_ ?_
    · simp
    refine Run.drawA noX_local rfl [] [(0, .cells 25 [.vals 65 (relV r)])] rfl rfl ⟨rfl, trivial⟩ ?_
    refine RunOF_sound tab_ok noX_local rfl rfl 200 [] _ _ rfl ?_ ?_
    · simp
    refine RunO.callFn (r := encRel Pl) noX_local rfl rfl rfl rfl rfl rfl rfl rfl plus_enters rfl (fun w' hA => k1 w') ?_
    refine RunOF_sound tab_ok noX_local rfl rfl 200 [] _ _ rfl ?_ ?_
    · simp
    refine RunO.callFn (r := encRel Q) noX_local rfl rfl rfl rfl rfl rfl rfl rfl compose_enters rfl (fun w' hA => k2 w' hA) ?_
    refine RunOF_sound tab_ok noX_local rfl rfl 200 [] _ _ rfl ?_ ?_
    · simp
    refine RunO.callFn (r := encRel D) noX_local rfl rfl rfl rfl rfl rfl rfl rfl minus_enters rfl (fun w' hA => k3 w') ?_
    refine RunOF_sound tab_ok noX_local rfl rfl 200 [] _ _ rfl ?_ ?_
    · simp [segsVals, relV_one', inT, lk]
    refine RunO.done ?_
    refine RunF_sound tab_ok noX_local 100 [] _ _ rfl ?_ ?_
    · simp
    refine Run.retL tab_ok Tryd.func51 rfl ?_ (fun M => ?_)
    · simp
    rfl
  · rw [if_neg c] at hred
    rw [Bool.eq_false_iff.2 c, hred]
    refine RunF_sound tab_ok noX_local 100 [true] _ _ rfl ?_ ?_
    · simp [segsVals, relV_one', fillL, Value.cells]
    refine Run.retL tab_ok Tryd.func51 rfl ?_ (fun M => ?_)
    · simp [fillL, Value.cells]
    rfl
theorem reduce_enters : Enters Tryd.prog 51 := enters_mk Tryd.func51 (by decide) rfl
end Go.Proofs.YtocpkgckllbjlaaDoor

/-
  The abstract machine, twenty-fifth part: structs built in drawn regions, taken first. Own work; over any program.
-/
namespace Go.AM

theorem RunO.build {C : Ctx} {held : List (Nat × Blk)} {n0 : Nat} {ops : Array Oper} {i : Nat} {ord : List (Nat × Bool)} {k : List Item} {σ : St} {o : Oper} {T : Tab} {t : TypeId} {parts : Array (Nat × Operand)} {l : List (Nat × Value)} {p : Prop} {z : AV}
    (hT : tabOK C.P T) (hsel : noSel ops = true) (ho : ops[i]? = some o) (hop : o.op = .build t parts) (hl : plainParts σ parts.toList = some l) (hz : evBuild T t l = some (p, z)) (hw : wantOf ops σ o = some .yes) (hd : dstOK C.n o.dst = true)
    (hp : p) (h : RunO C held n0 ops ord k (σ.put o.dst z)) : RunO C held n0 ops ((i, true) :: ord) k σ := by
  refine RunO.first hsel ho hd (fun M0 M fp a w hM hR => .inl ⟨wantOf_yes hR.q hw, (fun c e => by rw [hop] at e; cases e), fun w' _ => ?_⟩) h
  have hc := plainParts_conc hR.q hl
  have e : (parts.map fun x => (x.1, a.eval x.2)).toList = l := by rw [← hc]; simp
  have := evBuild_run hT (M := M) (parts := parts.map fun x => (x.1, a.eval x.2)) (by rw [e]; exact hz) hp w'
  simp [execOp, hop, this]
end Go.AM

/-
  RelReduces walked up to the pairs, over opaque values. Own work; printed by a program of our own (tools/gen_rel.py).
-/
namespace Go.Proofs.YtocpkgckllbjlaaDoor
open Go.AM
set_option maxRecDepth 100000

theorem hcmpL {X V : Rl} {L : List Value} (h : X = V) (hL : L = relV V) : EqT Tryd.prog 25 (relV X).toArray L.toArray true := by rw [hL]; exact hcmpE h

theorem oneB (b : Bool) : (Value.bool b).oneCell' = true := rfl

/-- The blocks while the pairs are gone through. -/
def redB (r X P : Rl) (k : Nat) : List (Nat × Blk) :=
  [(4, .cells 3 [.one (.v (.int .i64 (k : Int)))]), (3, .cells 25 [.vals 65 (relV P)]), (2, .cells 25 [.vals 65 (relV X)]), (1, .cells 4 [.one (.tt false)]), (0, .cells 25 [.vals 65 (relV r)])]

set_option maxHeartbeats 1000000 in
theorem reduces_1 (r : Rl) (X : Rl) (w : World)
    (cr : checkI r = 0)
    (g11 : ∀ w', Agree (fun _ => False) w w' → Gives Tryd.prog 62 [] w' (.bool true))
    (gred : ∀ w', Agree (fun _ => False) w w' → Gives Tryd.prog 51 [encRel r] w' (.tuple #[encRel X, .bool false]))
    (e22 : X = (Rl.void 0))
    (g30 : ∀ w', Agree (fun _ => False) w w' → Gives Tryd.prog 46 [encRel r] w' (.bool false))
    : Gives Tryd.prog 9 [encRel r] w (.bool true) := by
  refine Gives.of_run Tryd.func9 rfl (by show 1 ≤ 85; decide) ?_
  refine RunF_sound tab_ok noX_local 400 [] _ _ rfl ?_ ?_
  · simp [okCell, ofConst, *]
  refine Run.callFn (r := .bool true) noX_local rfl rfl rfl rfl rfl rfl rfl works_enters rfl (fun w' hA => g11 w' hA) ?_
  refine RunF_sound tab_ok noX_local 400 [false] _ _ rfl ?_ ?_
  · simp [*]
  refine Run.callFn (r := .tuple #[encRel X, .bool false]) noX_local rfl rfl rfl rfl rfl rfl rfl reduce_enters rfl (fun w' hA => gred w' hA) ?_
  refine RunF_sound tab_ok noX_local 400 [true] _ _ rfl ?_ ?_
  · simp [segsVals, relV_one', fillL, Value.cells, *]
  refine Run.cmp rfl rfl rfl rfl rfl rfl (b := true) (c := true) (hcmpL e22 (by rw [relV_void]; rfl)) (.inl ⟨rfl, rfl⟩) ?_
  refine RunF_sound tab_ok noX_local 400 [true] _ _ rfl ?_ ?_
  · simp [*]
  refine Run.callFn (r := .int .i64 (checkI r)) noX_local rfl rfl rfl rfl rfl rfl rfl check_enters rfl (fun w' _ => check_ok r w') ?_
  refine RunF_sound tab_ok noX_local 400 [] _ _ rfl ?_ ?_
  · simp [*]
  refine Run.callFn (r := .int .i64 (checkI r)) noX_local rfl rfl rfl rfl rfl rfl rfl num_enters rfl (fun w' _ => num_ok _ w') ?_
  refine RunF_sound tab_ok noX_local 400 [true] _ _ rfl ?_ ?_
  · simp [*]
  refine Run.callFn (r := .bool false) noX_local rfl rfl rfl rfl rfl rfl rfl acyclic_enters rfl (fun w' hA => g30 w' hA) ?_
  refine RunF_sound tab_ok noX_local 400 [] _ _ rfl ?_ ?_
  · simp [okCell, oneB, *]
  refine Run.retP tab_ok Tryd.func9 rfl ?_ (fun M => by simp [conc, *])
  · simp

set_option maxHeartbeats 1000000 in
theorem reduces_3 (r : Rl) (X : Rl) (X42 : Rl) (X44 : Rl) (X50 : Rl) (w : World)
    (cr : checkI r = 0) (hT : TabAt w) (h0 : 0 < w.heap.size) (hX : rightL X = X ∧ True) (hpair : ∀ a b : Nat, X.has a b = true → ∃ O Y Z : Rl, (∀ w2 p c, SeesE w2 p [((a : Int), (b : Int))] → Gives Tryd.prog 65 [.int .i64 r.n, .slice p 1 c] w2 (ofV (O, 0))) ∧ (∀ w2, Gives Tryd.prog 24 [encRel X, encRel O] w2 (encRel Y)) ∧ (∀ w2, Gives Tryd.prog 34 [encRel Y] w2 (encRel Z)) ∧ Z ≠ X42)
    (g11 : ∀ w', Agree (fun _ => False) w w' → Gives Tryd.prog 62 [] w' (.bool true))
    (gred : ∀ w', Agree (fun _ => False) w w' → Gives Tryd.prog 51 [encRel r] w' (.tuple #[encRel X, .bool true]))
    (g42 : ∀ w', Agree (fun _ => False) w w' → Gives Tryd.prog 34 [encRel r] w' (encRel X42))
    (g44 : ∀ w', Agree (fun _ => False) w w' → Gives Tryd.prog 34 [encRel X] w' (encRel X44))
    (e46 : X44 = X42)
    (g50 : ∀ w', Agree (fun _ => False) w w' → Gives Tryd.prog 24 [encRel X, encRel r] w' (encRel X50))
    (e54 : X50 = (Rl.void r.n))
    : Gives Tryd.prog 9 [encRel r] w (.bool true) := by
  refine Gives.of_run Tryd.func9 rfl (by show 1 ≤ 85; decide) ?_
  refine RunF_sound tab_ok noX_local 400 [] _ _ rfl ?_ ?_
  · simp [okCell, ofConst, *]
  refine Run.callFn (r := .bool true) noX_local rfl rfl rfl rfl rfl rfl rfl works_enters rfl (fun w' hA => g11 w' hA) ?_
  refine RunF_sound tab_ok noX_local 400 [false] _ _ rfl ?_ ?_
  · simp [*]
  refine Run.callFn (r := .tuple #[encRel X, .bool true]) noX_local rfl rfl rfl rfl rfl rfl rfl reduce_enters rfl (fun w' hA => gred w' hA) ?_
  refine RunF_sound tab_ok noX_local 400 [false] _ _ rfl ?_ ?_
  · simp [segsVals, relV_one', *]
  refine Run.callFn (r := .int .i64 (checkI r)) noX_local rfl rfl rfl rfl rfl rfl rfl check_enters rfl (fun w' _ => check_ok r w') ?_
  refine RunF_sound tab_ok noX_local 400 [] _ _ rfl ?_ ?_
  · simp [*]
  refine Run.callFn (r := .int .i64 (checkI r)) noX_local rfl rfl rfl rfl rfl rfl rfl num_enters rfl (fun w' _ => num_ok _ w') ?_
  refine RunF_sound tab_ok noX_local 400 [false] _ _ rfl ?_ ?_
  · simp [*]
  refine Run.callFn (r := encRel X42) noX_local rfl rfl rfl rfl rfl rfl rfl plus_enters rfl (fun w' hA => g42 w' hA) ?_
  refine Run.to (t' := [(1, .ptr 0 0), (2, .ptr 1 0), (3, .ptr 2 0), (42, .v (encRel X42))]) (h' := [(0, .cells 25 [.vals 65 (relV r)]), (1, .cells 4 [.one (.tt false)]), (2, .cells 25 [.vals 65 (relV X)])]) (n' := 3) ?_ ⟨rfl, rfl, rfl, rfl, trivial⟩ ⟨rfl, rfl, rfl, trivial⟩
  refine RunF_sound tab_ok noX_local 400 [] _ _ rfl ?_ ?_
  · simp [segsVals, relV_one', *]
  refine Run.to (t' := [(1, .ptr 0 0), (2, .ptr 1 0), (3, .ptr 2 0), (5, .ptr 3 0)]) (h' := [(0, .cells 25 [.vals 65 (relV r)]), (1, .cells 4 [.one (.tt false)]), (2, .cells 25 [.vals 65 (relV X)]), (3, .cells 25 [.vals 65 (relV X42)])]) (n' := 4) ?_ ⟨rfl, rfl, rfl, rfl, trivial⟩ ⟨rfl, rfl, rfl, rfl, trivial⟩
  refine Run.drawA noX_local rfl [] [(0, .cells 25 [.vals 65 (relV r)]), (1, .cells 4 [.one (.tt false)]), (2, .cells 25 [.vals 65 (relV X)]), (3, .cells 25 [.vals 65 (relV X42)])] rfl rfl ⟨rfl, rfl, rfl, rfl, trivial⟩ ?_
  refine RunOF_sound tab_ok noX_local rfl rfl 400 [] _ _ rfl ?_ ?_
  · simp [*]
  refine RunO.callFn (r := encRel X44) noX_local rfl rfl rfl rfl rfl rfl rfl rfl plus_enters rfl (fun w' hA => g44 w' hA) ?_
  refine RunOF_sound tab_ok noX_local rfl rfl 400 [] _ _ rfl ?_ ?_
  · simp [*]
  refine RunO.cmp rfl rfl rfl rfl rfl rfl rfl (b := true) (c := false) (hcmpE e46) (.inr ⟨rfl, rfl⟩) ?_
  refine RunOF_sound tab_ok noX_local rfl rfl 400 [false] _ _ rfl ?_ ?_
  · simp [*]
  refine RunO.build tab_ok rfl rfl rfl rfl rfl rfl rfl ?_ ?_
  · simp [fillL, Value.cells, splice, *]
  refine RunOF_sound tab_ok noX_local rfl rfl 400 [] _ _ rfl ?_ ?_
  · simp [*]
  refine RunO.callFn (r := encRel X50) noX_local rfl rfl rfl rfl rfl rfl rfl rfl minus_enters rfl (fun w' hA => g50 w' hA) ?_
  refine RunOF_sound tab_ok noX_local rfl rfl 400 [] _ _ rfl ?_ ?_
  · simp [*]
  refine RunO.cmp rfl rfl rfl rfl rfl rfl rfl (b := true) (c := false) (hcmpL e54 (by rw [relV_void]; rfl)) (.inr ⟨rfl, rfl⟩) ?_
  refine RunOF_sound tab_ok noX_local rfl rfl 400 [] _ _ rfl ?_ ?_
  · simp [*]
  refine RunO.done ?_
  refine RunF_sound tab_ok noX_local 400 [false] _ _ rfl ?_ ?_
  · simp [okCell, ofConst, *]
  obtain ⟨hXr, hXl⟩ := hX
  have hn := rightL_n X
  refine Run.callR noX_local rfl rfl rfl rfl rfl rfl edges_enters rfl (fun M w' _ _ => edges_ok X w') ?_
  rintro v w2 w1 S1 hag hag2 ⟨bb, rfl, hbl, hRel⟩ hS1
  have hB1 := (Based.refl w).call hag hag2 hS1
  have hbw1 : bb < w1.heap.size := World.block_lt_of_cell? w1 _ (hRel 0 _ rfl)
  have hS1b : ¬ S1 bb := hS1.new bb hbl
  have hS10 : ¬ S1 0 := fun h => by have := hB1.new 0 h; omega
  have hw1 : 0 < w1.heap.size := by have := hB1.agree.size; omega
  have hit := edges_iter (rightL X) hn bb w1 hRel (hT.agree hB1.agree (fun f => f))
  have hmem := edges_mem (rightL X)
  have hlen : (edgesL (rightL X)).length ≤ 4096 := by rw [edgesL, restL_len]; have := sumL_le (rightL X) (rightL X).n.toNat 0; omega
  rw [hXr] at hit hmem hlen
  generalize edgesL X = E at *
  refine ⟨.fn 71 [.v (.pointer (some ⟨bb, 0, none⟩))], fun M => rfl, ?_⟩
  refine RunF_sound tab_ok noX_local 100 [] _ _ rfl ?_ ?_
  · simp
  refine Run.rangeFn noX_local rfl rfl (fun M => rfl) edgesIt_enters 8 [(6, .ptr 4 0), (5, .ptr 3 0), (3, .ptr 2 0), (2, .ptr 1 0), (1, .ptr 0 0)] ⟨rfl, rfl, rfl, rfl, rfl, trivial⟩ rfl rfl hit
    (fun k hk => by rcases hk with rfl | rfl; exact ⟨hw1, hS10⟩; exact ⟨hbw1, hS1b⟩) (fun x hx => by simp only [encEs, List.mem_map] at hx; obtain ⟨e, _, rfl⟩ := hx; rfl)
    (fun pre h => ∃ k, k ≤ E.length ∧ k < 40 ∧ pre = encEs (E.take k) ∧ h = redB r X X42 k)
    (fun _ c h => c = .exit 0 ∧ ∃ k, h = redB r X X42 k) 12 (redB r X X42 0) ⟨0, by omega, by omega, rfl, rfl⟩ ⟨rfl, rfl, rfl, rfl, rfl, trivial⟩ ?_ ?_ ?_
  · rintro D l a0 rc wy fpy pre x h hI hpx ⟨k, hk, hk40, rfl, rfl⟩
    obtain ⟨hlt, rfl⟩ := encEs_next hk hpx
    obtain ⟨a, b, he, ha, hb, hab⟩ := hmem E[k] (List.getElem_mem hlt)
    obtain ⟨O, Y, Z, go, gy, gz, hz⟩ := hpair a b hab
    have hnext : encEs (E.take k) ++ [encEd E[k]] = encEs (E.take (k + 1)) := encEs_succ hlt
    rw [he] at hnext ⊢
    refine RunF_sound tab_ok (roundX_local hI.loc l rc .ready) 100 [] _ _ rfl ?_ ?_
    · simp [segsVals]
    refine Run.beginRound hI.loc hI.lw ?_
    refine RunF_sound tab_ok (roundX_local hI.loc l rc .busy) 100 [] _ _ rfl ?_ ?_
    · simp [fillL, Value.cells, splice, repL, maxLen]
    refine Run.callM (r := ofV (O, 0)) (roundX_local hI.loc l rc .busy) rfl rfl rfl rfl rfl rfl of_enters rfl (fun M w' hM hA => ?_) ?_
    · have hb' := hM 13 _ rfl
      refine go w' (some ⟨(M 13).1, 0, none⟩) ((M 13).2 - 0) (seesE_row hb' (fun i hi => ?_))
      rcases i with _ | i
      · exact ⟨rfl, rfl⟩
      · exact absurd hi (by simp)
    refine RunF_sound tab_ok (roundX_local hI.loc l rc .busy) 100 [] _ _ rfl ?_ ?_
    · simp [segsVals, relV_one']
    refine Run.drawA (roundX_local hI.loc l rc .busy) rfl [] [(14, .cells 25 [.vals 65 (relV O)]), (3, .cells 25 [.vals 65 (relV X42)]), (2, .cells 25 [.vals 65 (relV X)])] rfl rfl ⟨rfl, rfl, rfl, trivial⟩ ?_
    refine RunOF_sound tab_ok (roundX_local hI.loc l rc .busy) rfl rfl 200 [] _ _ rfl ?_ ?_
    · simp
    refine RunO.callFn (r := .int .i64 0) (roundX_local hI.loc l rc .busy) rfl rfl rfl rfl rfl rfl rfl rfl num_enters rfl (fun w' _ => num_ok 0 w') ?_
    refine RunOF_sound tab_ok (roundX_local hI.loc l rc .busy) rfl rfl 200 [false] _ _ rfl ?_ ?_
    · simp
    refine RunO.callFn (r := encRel Y) (roundX_local hI.loc l rc .busy) rfl rfl rfl rfl rfl rfl rfl rfl minus_enters rfl (fun w' _ => gy w') ?_
    refine RunOF_sound tab_ok (roundX_local hI.loc l rc .busy) rfl rfl 200 [] _ _ rfl ?_ ?_
    · simp
    refine RunO.callFn (r := encRel Z) (roundX_local hI.loc l rc .busy) rfl rfl rfl rfl rfl rfl rfl rfl plus_enters rfl (fun w' _ => gz w') ?_
    refine RunOF_sound tab_ok (roundX_local hI.loc l rc .busy) rfl rfl 200 [] _ _ rfl ?_ ?_
    · simp
    refine RunO.cmp rfl rfl rfl rfl rfl rfl rfl (b := false) (c := false) (hcmpN hz) (.inl ⟨rfl, rfl⟩) ?_
    refine RunOF_sound tab_ok (roundX_local hI.loc l rc .busy) rfl rfl 200 [] _ _ rfl ?_ ?_
    · simp
    refine RunO.done ?_
    have hwr : IntKind.i64.wrap ((k : Int) + 1) = ((k + 1 : Nat) : Int) := wrap_succ (by omega)
    by_cases c40 : ((k + 1 : Nat) : Int) ≥ 40
    · refine RunF_sound tab_ok (roundX_local hI.loc l rc .busy) 100 [false, true] _ _ rfl ?_ ?_
      · simp [okCell, hwr]; omega
      refine Run.roundExit hI [] (redB r X X42 (k + 1)) rfl ⟨rfl, k + 1, rfl⟩ ⟨rfl, rfl, rfl, rfl, rfl, trivial⟩ ⟨?_, rfl, rfl, rfl, rfl, trivial⟩ rfl
      exact congrArg (fun z : Int => some (Blk.cells 3 [.one (.v (.int .i64 z))])) hwr
    · refine RunF_sound tab_ok (roundX_local hI.loc l rc .busy) 100 [false, false] _ _ rfl ?_ ?_
      · simp [okCell, hwr]; omega
      refine Run.roundEnd hI [] (redB r X X42 (k + 1)) ⟨k + 1, by omega, by omega, hnext, rfl⟩ ⟨rfl, rfl, rfl, rfl, rfl, trivial⟩ ⟨?_, rfl, rfl, rfl, rfl, trivial⟩ rfl
      exact congrArg (fun z : Int => some (Blk.cells 3 [.one (.v (.int .i64 z))])) hwr
  · rintro D h ⟨k, hk, _, hx, rfl⟩
    refine RunF_sound tab_ok (markX_local noX_local D) 100 [] _ _ rfl ?_ ?_
    · simp [okCell, ofConst]
    refine Run.retB (Ds := [D]) tab_ok noX_local hB1 Tryd.func9 rfl ?_ (fun M => ?_)
    · simp
    rfl
  · rintro D pre c h hpre ⟨rfl, k, rfl⟩
    refine RunF_sound tab_ok (markX_local noX_local D) 100 [] _ _ rfl ?_ ?_
    · simp [okCell, ofConst]
    refine Run.retB (Ds := [D]) tab_ok noX_local hB1 Tryd.func9 rfl ?_ (fun M => ?_)
    · simp
    rfl

set_option maxHeartbeats 1000000 in
theorem reduces_2 (r : Rl) (X : Rl) (w : World)
    (cr : checkI r ≠ 0)
    (g11 : ∀ w', Agree (fun _ => False) w w' → Gives Tryd.prog 62 [] w' (.bool true))
    (gred : ∀ w', Agree (fun _ => False) w w' → Gives Tryd.prog 51 [encRel r] w' (.tuple #[encRel X, .bool true]))
    (e40 : X = (Rl.void 0))
    : Gives Tryd.prog 9 [encRel r] w (.bool true) := by
  refine Gives.of_run Tryd.func9 rfl (by show 1 ≤ 85; decide) ?_
  refine RunF_sound tab_ok noX_local 400 [] _ _ rfl ?_ ?_
  · simp [okCell, ofConst, *]
  refine Run.callFn (r := .bool true) noX_local rfl rfl rfl rfl rfl rfl rfl works_enters rfl (fun w' hA => g11 w' hA) ?_
  refine RunF_sound tab_ok noX_local 400 [false] _ _ rfl ?_ ?_
  · simp [*]
  refine Run.callFn (r := .tuple #[encRel X, .bool true]) noX_local rfl rfl rfl rfl rfl rfl rfl reduce_enters rfl (fun w' hA => gred w' hA) ?_
  refine RunF_sound tab_ok noX_local 400 [false] _ _ rfl ?_ ?_
  · simp [segsVals, relV_one', *]
  refine Run.callFn (r := .int .i64 (checkI r)) noX_local rfl rfl rfl rfl rfl rfl rfl check_enters rfl (fun w' _ => check_ok r w') ?_
  refine RunF_sound tab_ok noX_local 400 [] _ _ rfl ?_ ?_
  · simp [*]
  refine Run.callFn (r := .int .i64 (checkI r)) noX_local rfl rfl rfl rfl rfl rfl rfl num_enters rfl (fun w' _ => num_ok _ w') ?_
  refine RunF_sound tab_ok noX_local 400 [true] _ _ rfl ?_ ?_
  · simp [fillL, Value.cells, *]
  refine Run.cmp rfl rfl rfl rfl rfl rfl (b := true) (c := true) (hcmpL e40 (by rw [relV_void]; rfl)) (.inl ⟨rfl, rfl⟩) ?_
  refine RunF_sound tab_ok noX_local 400 [] _ _ rfl ?_ ?_
  · simp [okCell, oneB, *]
  refine Run.retP tab_ok Tryd.func9 rfl ?_ (fun M => by simp [conc, *])
  · simp

end Go.Proofs.YtocpkgckllbjlaaDoor

/-
  RelReduces answers true. Own work.
-/
namespace Go.Proofs.YtocpkgckllbjlaaDoor
open Go.AM
set_option maxRecDepth 100000

theorem void0_rt : Rt (Rl.void 0) := void_rt (by decide) (by decide)

theorem clos_void_has (a b : Nat) : ¬ (clos (Rl.void 0)).has a b = true := by
  intro h
  have := (clos_rt void0_rt).lt a b h
  rw [clos_n, void_n] at this
  omega
theorem ac_void : irB (clos (Rl.void 0)) = true := irB_true fun i => Bool.eq_false_iff.2 (clos_void_has i i)

theorem rightL_bad {r : Rl} (h : checkI r ≠ 0) : rightL r = Rl.void 0 := by unfold rightL; rw [if_neg h]

theorem two_void (op : Nat) {S : Rl} (hS : Rt S) : twoR op (Rl.void 0) S = Rl.void 0 := by
  by_cases hn : (Rl.void 0).n = S.n
  · refine rl_ext (by rw [twoR_n op void0_rt hS hn]) fun a b => ?_
    constructor
    · intro h
      have := (twoR_rt op void0_rt hS hn).lt a b h
      rw [twoR_n op void0_rt hS hn, void_n] at this
      omega
    · intro h; rw [void_has] at h; cases h
  · exact twoR_void op _ _ (by rw [void0_rt.right, hS.right]; exact hn)

theorem one_has {n : Int} {a b : Nat} (ha : a < 64) (hb : b < 64) (x y : Nat) : ((Rl.void n).setRow a (1#64 <<< b)).has x y = true ↔ x = a ∧ y = b := by
  rw [Rl.has_setRow]
  split
  · rename_i h
    rw [one_shl_get b y hb]
    simp [h.1]
  · rename_i h
    rw [void_has]
    constructor
    · intro h; cases h
    · rintro ⟨rfl, _⟩; exact absurd ⟨rfl, ha⟩ h

theorem of_one {n : Int} {a b : Nat} (hn : 0 ≤ n ∧ n ≤ 64) (ha : (a : Int) < n) (hb : (b : Int) < n) : ofL n [((a : Int), (b : Int))] = ((Rl.void n).setRow a (1#64 <<< b), 0) := by
  unfold ofL
  rw [if_neg (by omega)]
  have hb' : ¬ badE n ((a : Int), (b : Int)) := by unfold badE; simp only; omega
  rw [ofGo, if_neg hb', ofGo, Rl.row_void]
  simp

theorem relReduces_ok (r : Rl) (w : World) (hT : TabAt w) (h0 : 0 < w.heap.size) : Gives Tryd.prog 9 [encRel r] w (.bool true) := by
  have hTA : ∀ w', Agree (fun _ => False) w w' → TabAt w' ∧ 0 < w'.heap.size := fun w' hA => ⟨hT.agree hA (fun f => f), Nat.lt_of_lt_of_le h0 hA.size⟩
  have hwk : ∀ w', Agree (fun _ => False) w w' → Gives Tryd.prog 62 [] w' (.bool true) := fun w' hA => works_ok w' (hTA w' hA).1 (hTA w' hA).2
  have hrd : ∀ w', Agree (fun _ => False) w w' → Gives Tryd.prog 51 [encRel r] w' (.tuple #[encRel (redL r), .bool (irB (clos (rightL r)))]) := fun w' hA => reduce_ok r w' (hTA w' hA).1 (hTA w' hA).2
  have hac : ∀ w', Agree (fun _ => False) w w' → Gives Tryd.prog 46 [encRel r] w' (.bool (irB (clos (rightL r)))) := fun w' _ => acyclic_ok r w'
  by_cases c : irB (clos (rightL r)) = true
  · rw [c] at hrd
    by_cases cr : checkI r = 0
    · have hr := rt_check cr
      have e0 : redL r = redR r := by unfold redL; rw [if_pos c, hr.right]; rfl
      rw [e0] at hrd
      have hx := redR_rt hr
      have hxn := redR_n hr
      have k46 : clos (redR r) = clos r := red_clos hr (by rw [hr.right] at c; exact c)
      have k54 : twoR 2 (redR r) r = Rl.void r.n := rl_ext (by rw [twoR_n 2 hx hr hxn, hxn]; rfl) fun a b => by
        rw [minus_has hx hr hxn, redR_has hr, void_has]
        constructor
        · rintro ⟨⟨h1, _⟩, h2⟩; exact absurd h1 h2
        · intro h; cases h
      refine reduces_3 r (redR r) (clos r) (clos (redR r)) (twoR 2 (redR r) r) w cr hT h0 ⟨hx.right, trivial⟩ ?_ hwk hrd (fun w' _ => plusT hr w') (fun w' _ => plusT hx w') k46 (fun w' _ => minusT _ _ w') k54
      intro a b hab
      have hlt := hx.lt a b hab
      rw [hxn] at hlt
      have h64 := hr.hi
      have ha : a < 64 := by omega
      have hb : b < 64 := by omega
      have hO : Rt ((Rl.void r.n).setRow a (1#64 <<< b)) := ⟨by rw [Rl.n_setRow]; exact hr.lo, by rw [Rl.n_setRow]; exact hr.hi, fun x y h => by
        rw [Rl.n_setRow]
        obtain ⟨rfl, rfl⟩ := (one_has ha hb x y).1 h
        exact hlt⟩
      have hOn : ((Rl.void r.n).setRow a (1#64 <<< b)).n = r.n := by rw [Rl.n_setRow]; rfl
      have hY := twoR_rt 2 hx hO (hxn.trans hOn.symm)
      refine ⟨_, _, _, fun w2 p c hs => ?_, fun w2 => minusT _ _ w2, fun w2 => plusT hY w2, ?_⟩
      · have := of_ok r.n p c [((a : Int), (b : Int))] w2 hs (by simp [maxLen])
        rw [of_one ⟨hr.lo, hr.hi⟩ hlt.1 hlt.2] at this
        exact this
      · refine red_less hr hY hab fun x y h => ?_
        rw [minus_has hx hO (hxn.trans hOn.symm), one_has ha hb] at h
        exact h
    · have e0 : redL r = Rl.void 0 := by
        unfold redL
        rw [if_pos c, twoR_right, twoR_right 3, rightL_bad cr, (clos_rt void0_rt).right, two_void 3 (clos_rt void0_rt), void0_rt.right, two_void 2 void0_rt]
      rw [e0] at hrd
      exact reduces_2 r (Rl.void 0) w cr hwk hrd rfl
  · have cr : checkI r = 0 := by
      by_cases cr : checkI r = 0
      · exact cr
      · exact absurd (by rw [rightL_bad cr]; exact ac_void) c
    have e0 : redL r = Rl.void 0 := by unfold redL; rw [if_neg c]
    rw [e0, Bool.eq_false_iff.2 c] at hrd
    rw [Bool.eq_false_iff.2 c] at hac
    exact reduces_1 r (Rl.void 0) w cr hwk hrd rfl hac
end Go.Proofs.YtocpkgckllbjlaaDoor

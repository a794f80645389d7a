/-
  Own work, merged: L4, L5, L6, L7, M1, M2, M3, M4, N1, N2, N3, N4, N5, N6, N7, O1.
-/
import Derived.AtR
import Derived.Below
import Derived.ChangeKeysEq
import Derived.KernelRfl
import Derived.LaidMore
import Derived.Laws.AppendOwn
import Derived.Laws.BytesString
import Derived.Laws.Cells
import Derived.Laws.CopyRow
import Derived.Laws.Entries
import Derived.Laws.Rows
import Derived.Laws.Small
import Derived.Laws.StructEq
import Derived.Lib.LaidTab
import Derived.Lib.TrailingZeros
import Derived.Maps.AppendAt
import Derived.OpenShut
import Derived.Orders
import Derived.ProofKit
import Derived.RangeFuncRecord
import Derived.SevenTiedAt
import Derived.Stop.Joined
import Derived.Test.YtocpkgckllbjlaaDoorCards
import Derived.Test.YtocpkgckllbjlaaDoorProg
import Derived.Test.YtocpkgckllbjlaaDoorRows
import Derived.Test.YtocpkgckllbjlaaDoorTie
import Derived.Test.YtocpkgckllbjlaaDoorQ42F7F6
/-
  RelLaws answers true. Own work.
-/
namespace Go.Proofs.YtocpkgckllbjlaaDoor
open Go.AM
set_option maxRecDepth 100000

def invR (R : Rl) : Rl := Rl.gen R.n fun x y => R.has y x
def notR (R : Rl) : Rl := Rl.gen R.n (pNot R)

theorem invR_n (R : Rl) : (invR R).n = R.n := Rl.n_gen _ _
theorem invR_has (R : Rl) (a b : Nat) : (invR R).has a b = true ↔ R.has b a = true := by
  unfold invR
  rw [Rl.has_gen]
  constructor
  · intro h; simp at h; exact h.2
  · intro h; have := Rl.has_lt R h; simp [h, this]
theorem invR_rt {R : Rl} (hR : Rt R) : Rt (invR R) := ⟨by rw [invR_n]; exact hR.lo, by rw [invR_n]; exact hR.hi, fun a b h => by
  rw [invR_n]
  have := hR.lt _ _ ((invR_has R a b).1 h)
  exact ⟨this.2, this.1⟩⟩
theorem notR_n (R : Rl) : (notR R).n = R.n := Rl.n_gen _ _
theorem notR_has {R : Rl} (hR : Rt R) (a b : Nat) : (notR R).has a b = true ↔ ((a : Int) < R.n ∧ (b : Int) < R.n) ∧ ¬ R.has a b = true := by
  unfold notR
  rw [Rl.has_gen]
  unfold pNot
  have := hR.hi
  constructor
  · intro h; simp at h; simp [h]
  · rintro ⟨⟨h1, h2⟩, h3⟩; simp [h3]; omega
theorem notR_rt {R : Rl} (hR : Rt R) : Rt (notR R) := ⟨by rw [notR_n]; exact hR.lo, by rw [notR_n]; exact hR.hi, fun a b h => by
  rw [notR_n]; exact ((notR_has hR a b).1 h).1⟩

theorem inverseT {r : Rl} (hr : Rt r) (w : World) (hT : TabAt w) (h0 : 0 < w.heap.size) : Gives Tryd.prog 26 [encRel r] w (encRel (invR r)) := by
  have := inverse_ok r w hT h0
  rwa [inverse_eq, hr.right] at this
theorem notT {r : Rl} (hr : Rt r) (w : World) : Gives Tryd.prog 28 [encRel r] w (encRel (notR r)) := by
  have := not_ok r w
  rwa [not_eq, hr.right] at this
theorem void_rt {n : Int} (h0 : 0 ≤ n) (h1 : n ≤ 64) : Rt (Rl.void n) := ⟨h0, h1, fun a b h => by rw [void_has] at h; cases h⟩

theorem countP_or_and {α : Type} (p q : α → Bool) : ∀ l : List α, l.countP (fun x => p x || q x) + l.countP (fun x => p x && q x) = l.countP p + l.countP q
  | [] => rfl
  | x :: l => by
    have := countP_or_and p q l
    simp only [List.countP_cons]
    cases p x <;> cases q x <;> simp <;> omega

theorem bits_count (R : Rl) (i : Nat) : (bitsL (R.row i)).length = (List.range 64).countP fun j => R.has i j := by
  unfold bitsL
  rw [List.countP_eq_length_filter]
  rfl

theorem sum_or_and {R S : Rl} (hR : Rt R) (hS : Rt S) (hn : R.n = S.n) : ∀ d i, sumL (twoR 0 R S) i d + sumL (twoR 1 R S) i d = sumL R i d + sumL S i d
  | 0, _ => rfl
  | d + 1, i => by
    have := sum_or_and hR hS hn d (i + 1)
    simp only [sumL, bits_count]
    have e0 : (fun j => (twoR 0 R S).has i j) = fun j => R.has i j || S.has i j := by funext j; rw [twoR_has 0 hR hS hn]; rfl
    have e1 : (fun j => (twoR 1 R S).has i j) = fun j => R.has i j && S.has i j := by funext j; rw [twoR_has 1 hR hS hn]; rfl
    rw [e0, e1]
    have := countP_or_and (fun j => R.has i j) (fun j => S.has i j) (List.range 64)
    omega

theorem countT {r : Rl} (hr : Rt r) (w : World) : Gives Tryd.prog 15 [encRel r] w (.int .i64 (sumL r 0 64 : Int)) := by
  have := count_ok r w
  rwa [hr.right] at this

theorem relLaws_ok (r s t : Rl) (w : World) (hT : TabAt w) (h0 : 0 < w.heap.size) : Gives Tryd.prog 11 [encRel r, encRel s, encRel t] w (.bool true) := by
  have hTA : ∀ w', Agree (fun _ => False) w w' → TabAt w' ∧ 0 < w'.heap.size := fun w' hA => ⟨hT.agree hA (fun f => f), Nat.lt_of_lt_of_le h0 hA.size⟩
  have hwk : ∀ w', Agree (fun _ => False) w w' → Gives Tryd.prog 62 [] w' (.bool true) := fun w' hA => works_ok w' (hTA w' hA).1 (hTA w' hA).2
  by_cases cr : checkI r = 0
  · by_cases cs : checkI s = 0
    · by_cases ct : checkI t = 0
      · by_cases hn : r.n = s.n
        · by_cases hn2 : s.n = t.n
          · have hr := rt_check cr
            have hs := rt_check cs
            have ht := rt_check ct
            have hrt : r.n = t.n := hn.trans hn2
            have U : ∀ (a b : Rl) w', Agree (fun _ => False) w w' → Gives Tryd.prog 21 [encRel a, encRel b] w' (encRel (twoR 0 a b)) := fun a b w' _ => unionT a b w'
            have M : ∀ (a b : Rl) w', Agree (fun _ => False) w w' → Gives Tryd.prog 23 [encRel a, encRel b] w' (encRel (twoR 1 a b)) := fun a b w' _ => meetT a b w'
            have D : ∀ (a b : Rl) w', Agree (fun _ => False) w w' → Gives Tryd.prog 24 [encRel a, encRel b] w' (encRel (twoR 2 a b)) := fun a b w' _ => minusT a b w'
            have K : ∀ (a b : Rl) w', Agree (fun _ => False) w w' → Gives Tryd.prog 25 [encRel a, encRel b] w' (encRel (twoR 3 a b)) := fun a b w' hA => composeT a b w' (hTA w' hA).1 (hTA w' hA).2
            have N : ∀ (a : Rl), Rt a → ∀ w', Agree (fun _ => False) w w' → Gives Tryd.prog 28 [encRel a] w' (encRel (notR a)) := fun a ha w' _ => notT ha w'
            have I : ∀ (a : Rl), Rt a → ∀ w', Agree (fun _ => False) w w' → Gives Tryd.prog 26 [encRel a] w' (encRel (invR a)) := fun a ha w' hA => inverseT ha w' (hTA w' hA).1 (hTA w' hA).2
            have C : ∀ (a : Rl), Rt a → ∀ w', Agree (fun _ => False) w w' → Gives Tryd.prog 15 [encRel a] w' (.int .i64 (sumL a 0 64 : Int)) := fun a ha w' _ => countT ha w'
            have hu := twoR_rt 0 hr hs hn
            have hun := twoR_n 0 hr hs hn
            have hm := twoR_rt 1 hr hs hn
            have hmn := twoR_n 1 hr hs hn
            have hc := twoR_rt 3 hr hs hn
            have hcn := twoR_n 3 hr hs hn
            have hst := twoR_rt 0 hs ht hn2
            have hstn := twoR_n 0 hs ht hn2
            have hcst := twoR_rt 3 hs ht hn2
            have hcstn := twoR_n 3 hs ht hn2
            have hmrt := twoR_rt 1 hr ht hrt
            have hmrtn := twoR_n 1 hr ht hrt
            have hcrt := twoR_rt 3 hr ht hrt
            have hcrtn := twoR_n 3 hr ht hrt
            have hnr := notR_rt hr
            have hns := notR_rt hs
            have hnu := notR_rt hu
            have hir := invR_rt hr
            have his := invR_rt hs
            have hone := onL_rt hr.lo hr.hi (s := 18446744073709551615#64)
            have honen := onL_n hr.lo hr.hi (s := 18446744073709551615#64)
            have hv := void_rt hr.lo hr.hi
            have ones : ∀ a, a < 64 → (18446744073709551615#64).getLsbD a = true := fun a ha => by
              have : 18446744073709551615#64 = BitVec.allOnes 64 := rfl
              rw [this, BitVec.getLsbD_allOnes, decide_eq_true ha]
            have e61 : twoR 0 r s = twoR 0 s r := rl_ext (by rw [hun, twoR_n 0 hs hr hn.symm, hn]) fun a b => by rw [union_has hr hs hn, union_has hs hr hn.symm]; exact or_comm
            have e67 : twoR 1 r s = twoR 1 s r := rl_ext (by rw [hmn, twoR_n 1 hs hr hn.symm, hn]) fun a b => by rw [meet_has hr hs hn, meet_has hs hr hn.symm]; exact and_comm
            have e77 : notR (twoR 0 r s) = twoR 1 (notR r) (notR s) := rl_ext (by rw [notR_n, hun, twoR_n 1 hnr hns (by rw [notR_n, notR_n, hn]), notR_n]) fun a b => by
              rw [notR_has hu, hun, union_has hr hs hn, meet_has hnr hns (by rw [notR_n, notR_n, hn]), notR_has hr, notR_has hs, hn]
              grind
            have e84 : notR (notR r) = r := rl_ext (by rw [notR_n, notR_n]) fun a b => by
              rw [notR_has hnr, notR_n, notR_has hr]
              have := hr.lt a b
              grind
            have e94 : twoR 2 r s = twoR 1 r (notR s) := rl_ext (by rw [twoR_n 2 hr hs hn, twoR_n 1 hr hns (by rw [notR_n, hn])]) fun a b => by
              rw [minus_has hr hs hn, meet_has hr hns (by rw [notR_n, hn]), notR_has hs, ← hn]
              have := hr.lt a b
              grind
            have e102 : twoR 1 r (notR r) = Rl.void r.n := rl_ext (by rw [twoR_n 1 hr hnr (notR_n r).symm]; rfl) fun a b => by
              rw [meet_has hr hnr (notR_n r).symm, notR_has hr, void_has]
              grind
            have e112 : twoR 0 (twoR 0 r s) t = twoR 0 r (twoR 0 s t) := rl_ext (by rw [twoR_n 0 hu ht (hun.trans hrt), hun, twoR_n 0 hr hst (hn.trans hstn.symm)]) fun a b => by
              rw [union_has hu ht (hun.trans hrt), union_has hr hs hn, union_has hr hst (hn.trans hstn.symm), union_has hs ht hn2]
              grind
            have e124 : twoR 1 r (twoR 0 s t) = twoR 0 (twoR 1 r s) (twoR 1 r t) := rl_ext (by rw [twoR_n 1 hr hst (hn.trans hstn.symm), twoR_n 0 hm hmrt (hmn.trans hmrtn.symm), hmn]) fun a b => by
              rw [meet_has hr hst (hn.trans hstn.symm), union_has hs ht hn2, union_has hm hmrt (hmn.trans hmrtn.symm), meet_has hr hs hn, meet_has hr ht hrt]
              grind
            have k137 : (sumL (twoR 0 r s) 0 64 : Int) + (sumL (twoR 1 r s) 0 64 : Int) = (sumL r 0 64 : Int) + (sumL s 0 64 : Int) := by
              have := sum_or_and hr hs hn 64 0
              omega
            have e150 : twoR 3 (twoR 3 r s) t = twoR 3 r (twoR 3 s t) := rl_ext (by rw [twoR_n 3 hc ht (hcn.trans hrt), hcn, twoR_n 3 hr hcst (hn.trans hcstn.symm)]) fun a b => by
              rw [comp_has hc ht (hcn.trans hrt), comp_has hr hcst (hn.trans hcstn.symm)]
              constructor
              · rintro ⟨y, h1, h2⟩
                obtain ⟨x, h3, h4⟩ := (comp_has hr hs hn _ _).1 h1
                exact ⟨x, h3, (comp_has hs ht hn2 _ _).2 ⟨y, h4, h2⟩⟩
              · rintro ⟨x, h1, h2⟩
                obtain ⟨y, h3, h4⟩ := (comp_has hs ht hn2 _ _).1 h2
                exact ⟨y, (comp_has hr hs hn _ _).2 ⟨x, h1, h3⟩, h4⟩
            have e162 : twoR 3 r (twoR 0 s t) = twoR 0 (twoR 3 r s) (twoR 3 r t) := rl_ext (by rw [twoR_n 3 hr hst (hn.trans hstn.symm), twoR_n 0 hc hcrt (hcn.trans hcrtn.symm), hcn]) fun a b => by
              rw [comp_has hr hst (hn.trans hstn.symm), union_has hc hcrt (hcn.trans hcrtn.symm), comp_has hr hs hn, comp_has hr ht hrt]
              constructor
              · rintro ⟨y, h1, h2⟩
                rcases (union_has hs ht hn2 _ _).1 h2 with h | h
                · exact .inl ⟨y, h1, h⟩
                · exact .inr ⟨y, h1, h⟩
              · rintro (⟨y, h1, h2⟩ | ⟨y, h1, h2⟩)
                · exact ⟨y, h1, (union_has hs ht hn2 _ _).2 (.inl h2)⟩
                · exact ⟨y, h1, (union_has hs ht hn2 _ _).2 (.inr h2)⟩
            have e169 : twoR 3 r (onL r.n 18446744073709551615#64) = r := rl_ext (twoR_n 3 hr hone honen.symm) fun a b => by
              rw [comp_has hr hone honen.symm]
              constructor
              · rintro ⟨y, h1, h2⟩
                obtain ⟨rfl, _⟩ := (onL_all_has hr.lo hr.hi _ _).1 h2
                exact h1
              · intro h
                have := hr.lt a b h
                have h64 := hr.hi
                exact ⟨b, h, (onL_all_has hr.lo hr.hi _ _).2 ⟨rfl, this.2, ones b (by omega)⟩⟩
            have e176 : twoR 3 (onL r.n 18446744073709551615#64) r = r := rl_ext (by rw [twoR_n 3 hone hr honen, honen]) fun a b => by
              rw [comp_has hone hr honen]
              constructor
              · rintro ⟨y, h1, h2⟩
                obtain ⟨rfl, _⟩ := (onL_all_has hr.lo hr.hi _ _).1 h1
                exact h2
              · intro h
                have := hr.lt a b h
                have h64 := hr.hi
                exact ⟨a, (onL_all_has hr.lo hr.hi _ _).2 ⟨rfl, this.1, ones a (by omega)⟩, h⟩
            have e183 : twoR 3 r (Rl.void r.n) = Rl.void r.n := rl_ext (twoR_n 3 hr hv rfl) fun a b => by
              rw [comp_has hr hv rfl, void_has]
              constructor
              · rintro ⟨y, _, h⟩; rw [void_has] at h; cases h
              · intro h; cases h
            have hin : (invR s).n = (invR r).n := by rw [invR_n, invR_n, hn]
            have e192 : invR (twoR 3 r s) = twoR 3 (invR s) (invR r) := rl_ext (by rw [invR_n, hcn, twoR_n 3 his hir hin, invR_n, hn]) fun a b => by
              rw [invR_has, comp_has hr hs hn, comp_has his hir hin]
              constructor
              · rintro ⟨y, h1, h2⟩; exact ⟨y, (invR_has s a y).2 h2, (invR_has r y b).2 h1⟩
              · rintro ⟨y, h1, h2⟩; exact ⟨y, (invR_has r y b).1 h2, (invR_has s a y).1 h1⟩
            have e198 : invR (invR r) = r := rl_ext (by rw [invR_n, invR_n]) fun a b => by rw [invR_has, invR_has]
            have k206 : domL (rightL (invR r)) = ranL r := by unfold ranL invR; rw [hr.right]
            exact laws_6 r s t _ _ _ _ _ _ _ _ _ _ _ _ _ _ _ _ _ _ _ _ _ _ _ _ _ _ _ _ _ _ _ _ _ _ _ _ _ _ _ _ _ _ _ _ _ _ _ _ w cr cs ct hn hn2 k137 k206 hwk (fun w' _ => all_ok w') (fun w' _ => on_ok _ _ w') (U r s) (M r s) (U s r) e61 (M s r) e67 (N _ hu) (N r hr) (N s hs) (M _ _) e77
              (N r hr) (N _ hnr) e84 (D r s) (N s hs) (M _ _) e94 (N r hr) (M _ _) e102 (U _ _) (U _ _) (U _ _) e112 (U _ _) (M _ _) (M _ _) (U _ _) e124 (C _ hu) (C _ hm) (C _ hr) (C _ hs)
              (K r s) (K _ _) (K _ _) (K _ _) e150 (U _ _) (K _ _) (K _ _) (U _ _) e162 (K _ _) e169 (K _ _) e176 (K _ _) e183 (I _ hc) (I _ hs) (I _ hr) (K _ _) e192 (I _ hr) (I _ hir) e198 (I _ hr)
              (fun w' _ => domain_ok _ w') (fun w' hA => range_ok r w' (hTA w' hA).1 (hTA w' hA).2)
          · exact laws_5 r s t w cr cs ct hn hn2 hwk
        · exact laws_4 r s t w cr cs ct hn hwk
      · exact laws_3 r s t w cr cs ct hwk
    · exact laws_2 r s t w cr cs hwk
  · exact laws_1 r s t w cr hwk
end Go.Proofs.YtocpkgckllbjlaaDoor

/-
  The reduction: plain; Reduce walked. Own work.
-/
namespace Go.Proofs.YtocpkgckllbjlaaDoor
open Go.AM
set_option maxRecDepth 100000

/-- What is between two numbers. -/
noncomputable def mid (P : Rl) (a b : Nat) : Nat := (List.range 64).countP fun c => P.has a c && P.has c b

theorem mid_lt {P : Rl} {a b a' b' c : Nat} (hs : ∀ z, P.has a' z = true → P.has z b' = true → P.has a z = true ∧ P.has z b = true) (h1 : P.has a c = true) (h2 : P.has c b = true) (hn : ¬ (P.has a' c = true ∧ P.has c b' = true)) : mid P a' b' < mid P a b := by
  unfold mid
  refine countP_lt (fun x _ hx => ?_) ⟨c, ?_, ?_, ?_⟩
  · simp only [Bool.and_eq_true] at hx ⊢
    exact hs x hx.1 hx.2
  · exact List.mem_range.2 (Rl.has_lt _ h2).1
  · simp [h1, h2]
  · cases h : (P.has a' c && P.has c b') with
    | false => rfl
    | true => simp only [Bool.and_eq_true] at h; exact absurd h hn

/-- What is left of an acyclic relation. -/
noncomputable def redR (R : Rl) : Rl := twoR 2 R (twoR 3 R (clos R))

theorem redR_n {R : Rl} (hR : Rt R) : (redR R).n = R.n := by
  unfold redR
  rw [twoR_n 2 hR (twoR_rt 3 hR (clos_rt hR) (clos_n R).symm) (twoR_n 3 hR (clos_rt hR) (clos_n R).symm).symm]
theorem redR_has {R : Rl} (hR : Rt R) (a b : Nat) : (redR R).has a b = true ↔ R.has a b = true ∧ ¬ ∃ c, R.has a c = true ∧ (clos R).has c b = true := by
  unfold redR
  rw [minus_has hR (twoR_rt 3 hR (clos_rt hR) (clos_n R).symm) (twoR_n 3 hR (clos_rt hR) (clos_n R).symm).symm, comp_has hR (clos_rt hR) (clos_n R).symm]
theorem redR_rt {R : Rl} (hR : Rt R) : Rt (redR R) := ⟨by rw [redR_n hR]; exact hR.lo, by rw [redR_n hR]; exact hR.hi, fun a b h => by
  rw [redR_n hR]; exact hR.lt _ _ ((redR_has hR a b).1 h).1⟩

theorem clos_first {R : Rl} (hR : Rt R) {a b : Nat} (h : (clos R).has a b = true) : R.has a b = true ∨ ∃ c, R.has a c = true ∧ (clos R).has c b = true := by
  have h' := (clos_has hR a b).1 h
  clear h
  induction h' with
  | single h => exact .inl h
  | @tail c d h1 h2 ih =>
    rcases ih with h | ⟨z, h3, h4⟩
    · exact .inr ⟨c, h, clos_sub hR _ _ h2⟩
    · exact .inr ⟨z, h3, clos_trans hR _ _ _ h4 (clos_sub hR _ _ h2)⟩

theorem red_clos {R : Rl} (hR : Rt R) (hac : irB (clos R) = true) : clos (redR R) = clos R := by
  have hx := redR_rt hR
  have hirr : ∀ i, ¬ (clos R).has i i = true := by
    intro i h
    have := irB_false h
    rw [this] at hac; cases hac
  have ht := clos_trans hR
  have key : ∀ m a b, mid (clos R) a b = m → (clos R).has a b = true → (clos (redR R)).has a b = true := by
    intro m
    induction m using Nat.strongRecOn with
    | _ m ih =>
      intro a b hm hab
      by_cases hc : ∃ c, (clos R).has a c = true ∧ (clos R).has c b = true
      · obtain ⟨c, h1, h2⟩ := hc
        have l1 : mid (clos R) a c < m := by
          rw [← hm]
          exact mid_lt (c := c) (fun z hz1 hz2 => ⟨hz1, ht _ _ _ hz2 h2⟩) h1 h2 (fun h => hirr c h.2)
        have l2 : mid (clos R) c b < m := by
          rw [← hm]
          exact mid_lt (c := c) (fun z hz1 hz2 => ⟨ht _ _ _ h1 hz1, hz2⟩) h1 h2 (fun h => hirr c h.1)
        exact clos_trans hx _ _ _ (ih _ l1 a c rfl h1) (ih _ l2 c b rfl h2)
      · have hr : R.has a b = true := by
          rcases clos_first hR hab with h | ⟨c, h1, h2⟩
          · exact h
          · exact absurd ⟨c, clos_sub hR _ _ h1, h2⟩ hc
        exact clos_sub hx _ _ ((redR_has hR a b).2 ⟨hr, fun ⟨c, h1, h2⟩ => hc ⟨c, clos_sub hR _ _ h1, h2⟩⟩)
  refine rl_ext (by rw [clos_n, clos_n, redR_n hR]) fun a b => ⟨fun h => ?_, fun h => key _ a b rfl h⟩
  exact clos_least hx (fun a b h => clos_sub hR a b ((redR_has hR a b).1 h).1) ht a b h

/-- Without one of its pairs what is left leads to less. -/
theorem red_less {R S : Rl} (hR : Rt R) (hS : Rt S) {a b : Nat} (hab : (redR R).has a b = true) (hs : ∀ x y, S.has x y = true → (redR R).has x y = true ∧ ¬ (x = a ∧ y = b)) : clos S ≠ clos R := by
  intro e
  have h1 : (clos S).has a b = true := by rw [e]; exact clos_sub hR _ _ ((redR_has hR a b).1 hab).1
  rcases clos_first hS h1 with h | ⟨c, h2, h3⟩
  · exact (hs a b h).2 ⟨rfl, rfl⟩
  · rw [e] at h3
    exact ((redR_has hR a b).1 hab).2 ⟨c, ((redR_has hR a c).1 (hs a c h2).1).1, h3⟩

open Classical in
/-- What Reduce hands back. -/
noncomputable def redL (r : Rl) : Rl := if irB (clos (rightL r)) = true then twoR 2 r (twoR 3 r (clos (rightL r))) else Rl.void 0

theorem reduce_ok (r : Rl) (w : World) (hT : TabAt w) (h0 : 0 < w.heap.size) : Gives Tryd.prog 51 [encRel r] w (.tuple #[encRel (redL r), .bool (irB (clos (rightL r)))]) := by
  refine Gives.of_run Tryd.func51 rfl (by show 1 ≤ 14; decide) ?_
  refine RunF_sound tab_ok noX_local 100 [] _ _ rfl ?_ ?_
  · simp
  refine Run.callFn noX_local rfl rfl rfl rfl rfl rfl rfl acyclic_enters rfl (fun w' _ => acyclic_ok r w') ?_
  have hred : redL r = if irB (clos (rightL r)) = true then twoR 2 r (twoR 3 r (clos (rightL r))) else Rl.void 0 := rfl
  obtain ⟨Pl, g1⟩ : ∃ P : Rl, P = clos (rightL r) := ⟨_, rfl⟩
  obtain ⟨Q, g2⟩ : ∃ Q : Rl, Q = twoR 3 r Pl := ⟨_, rfl⟩
  obtain ⟨D, g3⟩ : ∃ D : Rl, D = twoR 2 r Q := ⟨_, rfl⟩
  have k1 : ∀ w', Gives Tryd.prog 34 [encRel r] w' (encRel Pl) := fun w' => by rw [g1]; exact plus_ok r w'
  have k2 : ∀ w', Agree (fun _ => False) w w' → Gives Tryd.prog 25 [encRel r, encRel Pl] w' (encRel Q) := fun w' hA => by rw [g2]; exact composeT r Pl w' (hT.agree hA (fun f => f)) (Nat.lt_of_lt_of_le h0 hA.size)
  have k3 : ∀ w', Gives Tryd.prog 24 [encRel r, encRel Q] w' (encRel D) := fun w' => by rw [g3]; exact minusT r Q w'
  rw [← g1, ← g2, ← g3] at hred
  rw [← g1]
  by_cases c : irB Pl = true
  · rw [if_pos c] at hred
    rw [c, hred]
    refine RunF_sound tab_ok noX_local 100 [false] _ _ rfl ?_ ?_
    · simp
    refine Run.drawA noX_local rfl [] [(0, .cells 25 [.vals 65 (relV r)])] rfl rfl ⟨rfl, trivial⟩ ?_
    refine RunOF_sound tab_ok noX_local rfl rfl 200 [] _ _ rfl ?_ ?_
    · simp
    refine RunO.callFn (r := encRel Pl) noX_local rfl rfl rfl rfl rfl rfl rfl rfl plus_enters rfl (fun w' hA => k1 w') ?_
    refine RunOF_sound tab_ok noX_local rfl rfl 200 [] _ _ rfl ?_ ?_
    · simp
    refine RunO.callFn (r := encRel Q) noX_local rfl rfl rfl rfl rfl rfl rfl rfl compose_enters rfl (fun w' hA => k2 w' hA) ?_
    refine RunOF_sound tab_ok noX_local rfl rfl 200 [] _ _ rfl ?_ ?_
    · simp
    refine RunO.callFn (r := encRel D) noX_local rfl rfl rfl rfl rfl rfl rfl rfl minus_enters rfl (fun w' hA => k3 w') ?_
    refine RunOF_sound tab_ok noX_local rfl rfl 200 [] _ _ rfl ?_ ?_
    · simp [segsVals, relV_one', inT, lk]
    refine RunO.done ?_
    refine RunF_sound tab_ok noX_local 100 [] _ _ rfl ?_ ?_
    · simp
    refine Run.retL tab_ok Tryd.func51 rfl ?_ (fun M => ?_)
    · simp
    rfl
  · rw [if_neg c] at hred
    rw [Bool.eq_false_iff.2 c, hred]
    refine RunF_sound tab_ok noX_local 100 [true] _ _ rfl ?_ ?_
    · simp [segsVals, relV_one', fillL, Value.cells]
    refine Run.retL tab_ok Tryd.func51 rfl ?_ (fun M => ?_)
    · simp [fillL, Value.cells]
    rfl
theorem reduce_enters : Enters Tryd.prog 51 := enters_mk Tryd.func51 (by decide) rfl
end Go.Proofs.YtocpkgckllbjlaaDoor

/-
  RelReduces walked up to the pairs, over opaque values. Own work; printed by a program of our own (tools/gen_rel.py).
-/
namespace Go.Proofs.YtocpkgckllbjlaaDoor
open Go.AM
set_option maxRecDepth 100000

theorem hcmpL {X V : Rl} {L : List Value} (h : X = V) (hL : L = relV V) : EqT Tryd.prog 25 (relV X).toArray L.toArray true := by rw [hL]; exact hcmpE h

theorem oneB (b : Bool) : (Value.bool b).oneCell' = true := rfl

/-- The blocks while the pairs are gone through. -/
def redB (r X P : Rl) (k : Nat) : List (Nat × Blk) :=
  [(4, .cells 3 [.one (.v (.int .i64 (k : Int)))]), (3, .cells 25 [.vals 65 (relV P)]), (2, .cells 25 [.vals 65 (relV X)]), (1, .cells 4 [.one (.tt false)]), (0, .cells 25 [.vals 65 (relV r)])]

set_option maxHeartbeats 1000000 in
theorem reduces_1 (r : Rl) (X : Rl) (w : World)
    (cr : checkI r = 0)
    (g11 : ∀ w', Agree (fun _ => False) w w' → Gives Tryd.prog 62 [] w' (.bool true))
    (gred : ∀ w', Agree (fun _ => False) w w' → Gives Tryd.prog 51 [encRel r] w' (.tuple #[encRel X, .bool false]))
    (e22 : X = (Rl.void 0))
    (g30 : ∀ w', Agree (fun _ => False) w w' → Gives Tryd.prog 46 [encRel r] w' (.bool false))
    : Gives Tryd.prog 9 [encRel r] w (.bool true) := by
  refine Gives.of_run Tryd.func9 rfl (by show 1 ≤ 85; decide) ?_
  refine RunF_sound tab_ok noX_local 400 [] _ _ rfl ?_ ?_
  · simp [okCell, ofConst, *]
  refine Run.callFn (r := .bool true) noX_local rfl rfl rfl rfl rfl rfl rfl works_enters rfl (fun w' hA => g11 w' hA) ?_
  refine RunF_sound tab_ok noX_local 400 [false] _ _ rfl ?_ ?_
  · simp [*]
  refine Run.callFn (r := .tuple #[encRel X, .bool false]) noX_local rfl rfl rfl rfl rfl rfl rfl reduce_enters rfl (fun w' hA => gred w' hA) ?_
  refine RunF_sound tab_ok noX_local 400 [true] _ _ rfl ?_ ?_
  · simp [segsVals, relV_one', fillL, Value.cells, *]
  refine Run.cmp rfl rfl rfl rfl rfl rfl (b := true) (c := true) (hcmpL e22 (by rw [relV_void]; rfl)) (.inl ⟨rfl, rfl⟩) ?_
  refine RunF_sound tab_ok noX_local 400 [true] _ _ rfl ?_ ?_
  · simp [*]
  refine Run.callFn (r := .int .i64 (checkI r)) noX_local rfl rfl rfl rfl rfl rfl rfl check_enters rfl (fun w' _ => check_ok r w') ?_
  refine RunF_sound tab_ok noX_local 400 [] _ _ rfl ?_ ?_
  · simp [*]
  refine Run.callFn (r := .int .i64 (checkI r)) noX_local rfl rfl rfl rfl rfl rfl rfl num_enters rfl (fun w' _ => num_ok _ w') ?_
  refine RunF_sound tab_ok noX_local 400 [true] _ _ rfl ?_ ?_
  · simp [*]
  refine Run.callFn (r := .bool false) noX_local rfl rfl rfl rfl rfl rfl rfl acyclic_enters rfl (fun w' hA => g30 w' hA) ?_
  refine RunF_sound tab_ok noX_local 400 [] _ _ rfl ?_ ?_
  · simp [okCell, oneB, *]
  refine Run.retP tab_ok Tryd.func9 rfl ?_ (fun M => by simp [conc, *])
  · simp

set_option maxHeartbeats 1000000 in
theorem reduces_3 (r : Rl) (X : Rl) (X42 : Rl) (X44 : Rl) (X50 : Rl) (w : World)
    (cr : checkI r = 0) (hT : TabAt w) (h0 : 0 < w.heap.size) (hX : rightL X = X ∧ True) (hpair : ∀ a b : Nat, X.has a b = true → ∃ O Y Z : Rl, (∀ w2 p c, SeesE w2 p [((a : Int), (b : Int))] → Gives Tryd.prog 65 [.int .i64 r.n, .slice p 1 c] w2 (ofV (O, 0))) ∧ (∀ w2, Gives Tryd.prog 24 [encRel X, encRel O] w2 (encRel Y)) ∧ (∀ w2, Gives Tryd.prog 34 [encRel Y] w2 (encRel Z)) ∧ Z ≠ X42)
    (g11 : ∀ w', Agree (fun _ => False) w w' → Gives Tryd.prog 62 [] w' (.bool true))
    (gred : ∀ w', Agree (fun _ => False) w w' → Gives Tryd.prog 51 [encRel r] w' (.tuple #[encRel X, .bool true]))
    (g42 : ∀ w', Agree (fun _ => False) w w' → Gives Tryd.prog 34 [encRel r] w' (encRel X42))
    (g44 : ∀ w', Agree (fun _ => False) w w' → Gives Tryd.prog 34 [encRel X] w' (encRel X44))
    (e46 : X44 = X42)
    (g50 : ∀ w', Agree (fun _ => False) w w' → Gives Tryd.prog 24 [encRel X, encRel r] w' (encRel X50))
    (e54 : X50 = (Rl.void r.n))
    : Gives Tryd.prog 9 [encRel r] w (.bool true) := by
  refine Gives.of_run Tryd.func9 rfl (by show 1 ≤ 85; decide) ?_
  refine RunF_sound tab_ok noX_local 400 [] _ _ rfl ?_ ?_
  · simp [okCell, ofConst, *]
  refine Run.callFn (r := .bool true) noX_local rfl rfl rfl rfl rfl rfl rfl works_enters rfl (fun w' hA => g11 w' hA) ?_
  refine RunF_sound tab_ok noX_local 400 [false] _ _ rfl ?_ ?_
  · simp [*]
  refine Run.callFn (r := .tuple #[encRel X, .bool true]) noX_local rfl rfl rfl rfl rfl rfl rfl reduce_enters rfl (fun w' hA => gred w' hA) ?_
  refine RunF_sound tab_ok noX_local 400 [false] _ _ rfl ?_ ?_
  · simp [segsVals, relV_one', *]
  refine Run.callFn (r := .int .i64 (checkI r)) noX_local rfl rfl rfl rfl rfl rfl rfl check_enters rfl (fun w' _ => check_ok r w') ?_
  refine RunF_sound tab_ok noX_local 400 [] _ _ rfl ?_ ?_
  · simp [*]
  refine Run.callFn (r := .int .i64 (checkI r)) noX_local rfl rfl rfl rfl rfl rfl rfl num_enters rfl (fun w' _ => num_ok _ w') ?_
  refine RunF_sound tab_ok noX_local 400 [false] _ _ rfl ?_ ?_
  · simp [*]
  refine Run.callFn (r := encRel X42) noX_local rfl rfl rfl rfl rfl rfl rfl plus_enters rfl (fun w' hA => g42 w' hA) ?_
  refine Run.to (t' := [(1, .ptr 0 0), (2, .ptr 1 0), (3, .ptr 2 0), (42, .v (encRel X42))]) (h' := [(0, .cells 25 [.vals 65 (relV r)]), (1, .cells 4 [.one (.tt false)]), (2, .cells 25 [.vals 65 (relV X)])]) (n' := 3) ?_ ⟨rfl, rfl, rfl, rfl, trivial⟩ ⟨rfl, rfl, rfl, trivial⟩
  refine RunF_sound tab_ok noX_local 400 [] _ _ rfl ?_ ?_
  · simp [segsVals, relV_one', *]
  refine Run.to (t' := [(1, .ptr 0 0), (2, .ptr 1 0), (3, .ptr 2 0), (5, .ptr 3 0)]) (h' := [(0, .cells 25 [.vals 65 (relV r)]), (1, .cells 4 [.one (.tt false)]), (2, .cells 25 [.vals 65 (relV X)]), (3, .cells 25 [.vals 65 (relV X42)])]) (n' := 4) ?_ ⟨rfl, rfl, rfl, rfl, trivial⟩ ⟨rfl, rfl, rfl, rfl, trivial⟩
  refine Run.drawA noX_local rfl [] [(0, .cells 25 [.vals 65 (relV r)]), (1, .cells 4 [.one (.tt false)]), (2, .cells 25 [.vals 65 (relV X)]), (3, .cells 25 [.vals 65 (relV X42)])] rfl rfl ⟨rfl, rfl, rfl, rfl, trivial⟩ ?_
  refine RunOF_sound tab_ok noX_local rfl rfl 400 [] _ _ rfl ?_ ?_
  · simp [*]
  refine RunO.callFn (r := encRel X44) noX_local rfl rfl rfl rfl rfl rfl rfl rfl plus_enters rfl (fun w' hA => g44 w' hA) ?_
  refine RunOF_sound tab_ok noX_local rfl rfl 400 [] _ _ rfl ?_ ?_
  · simp [*]
  refine RunO.cmp rfl rfl rfl rfl rfl rfl rfl (b := true) (c := false) (hcmpE e46) (.inr ⟨rfl, rfl⟩) ?_
  refine RunOF_sound tab_ok noX_local rfl rfl 400 [false] _ _ rfl ?_ ?_
  · simp [*]
  refine RunO.build tab_ok rfl rfl rfl rfl rfl rfl rfl ?_ ?_
  · simp [fillL, Value.cells, splice, *]
  refine RunOF_sound tab_ok noX_local rfl rfl 400 [] _ _ rfl ?_ ?_
  · simp [*]
  refine RunO.callFn (r := encRel X50) noX_local rfl rfl rfl rfl rfl rfl rfl rfl minus_enters rfl (fun w' hA => g50 w' hA) ?_
  refine RunOF_sound tab_ok noX_local rfl rfl 400 [] _ _ rfl ?_ ?_
  · simp [*]
  refine RunO.cmp rfl rfl rfl rfl rfl rfl rfl (b := true) (c := false) (hcmpL e54 (by rw [relV_void]; rfl)) (.inr ⟨rfl, rfl⟩) ?_
  refine RunOF_sound tab_ok noX_local rfl rfl 400 [] _ _ rfl ?_ ?_
  · simp [*]
  refine RunO.done ?_
  refine RunF_sound tab_ok noX_local 400 [false] _ _ rfl ?_ ?_
  · simp [okCell, ofConst, *]
  obtain ⟨hXr, hXl⟩ := hX
  have hn := rightL_n X
  refine Run.callR noX_local rfl rfl rfl rfl rfl rfl edges_enters rfl (fun M w' _ _ => edges_ok X w') ?_
  rintro v w2 w1 S1 hag hag2 ⟨bb, rfl, hbl, hRel⟩ hS1
  have hB1 := (Based.refl w).call hag hag2 hS1
  have hbw1 : bb < w1.heap.size := World.block_lt_of_cell? w1 _ (hRel 0 _ rfl)
  have hS1b : ¬ S1 bb := hS1.new bb hbl
  have hS10 : ¬ S1 0 := fun h => by have := hB1.new 0 h; omega
  have hw1 : 0 < w1.heap.size := by have := hB1.agree.size; omega
  have hit := edges_iter (rightL X) hn bb w1 hRel (hT.agree hB1.agree (fun f => f))
  have hmem := edges_mem (rightL X)
  have hlen : (edgesL (rightL X)).length ≤ 4096 := by rw [edgesL, restL_len]; have := sumL_le (rightL X) (rightL X).n.toNat 0; omega
  rw [hXr] at hit hmem hlen
  generalize edgesL X = E at *
  refine ⟨.fn 71 [.v (.pointer (some ⟨bb, 0, none⟩))], fun M => rfl, ?_⟩
  refine RunF_sound tab_ok noX_local 100 [] _ _ rfl ?_ ?_
  · simp
  refine Run.rangeFn noX_local rfl rfl (fun M => rfl) edgesIt_enters 8 [(6, .ptr 4 0), (5, .ptr 3 0), (3, .ptr 2 0), (2, .ptr 1 0), (1, .ptr 0 0)] ⟨rfl, rfl, rfl, rfl, rfl, trivial⟩ rfl rfl hit
    (fun k hk => by rcases hk with rfl | rfl; exact ⟨hw1, hS10⟩; exact ⟨hbw1, hS1b⟩) (fun x hx => by simp only [encEs, List.mem_map] at hx; obtain ⟨e, _, rfl⟩ := hx; rfl)
    (fun pre h => ∃ k, k ≤ E.length ∧ k < 40 ∧ pre = encEs (E.take k) ∧ h = redB r X X42 k)
    (fun _ c h => c = .exit 0 ∧ ∃ k, h = redB r X X42 k) 12 (redB r X X42 0) ⟨0, by omega, by omega, rfl, rfl⟩ ⟨rfl, rfl, rfl, rfl, rfl, trivial⟩ ?_ ?_ ?_
  · rintro D l a0 rc wy fpy pre x h hI hpx ⟨k, hk, hk40, rfl, rfl⟩
    obtain ⟨hlt, rfl⟩ := encEs_next hk hpx
    obtain ⟨a, b, he, ha, hb, hab⟩ := hmem E[k] (List.getElem_mem hlt)
    obtain ⟨O, Y, Z, go, gy, gz, hz⟩ := hpair a b hab
    have hnext : encEs (E.take k) ++ [encEd E[k]] = encEs (E.take (k + 1)) := encEs_succ hlt
    rw [he] at hnext ⊢
    refine RunF_sound tab_ok (roundX_local hI.loc l rc .ready) 100 [] _ _ rfl ?_ ?_
    · simp [segsVals]
    refine Run.beginRound hI.loc hI.lw ?_
    refine RunF_sound tab_ok (roundX_local hI.loc l rc .busy) 100 [] _ _ rfl ?_ ?_
    · simp [fillL, Value.cells, splice, repL, maxLen]
    refine Run.callM (r := ofV (O, 0)) (roundX_local hI.loc l rc .busy) rfl rfl rfl rfl rfl rfl of_enters rfl (fun M w' hM hA => ?_) ?_
    · have hb' := hM 13 _ rfl
      refine go w' (some ⟨(M 13).1, 0, none⟩) ((M 13).2 - 0) (seesE_row hb' (fun i hi => ?_))
      rcases i with _ | i
      · exact ⟨rfl, rfl⟩
      · exact absurd hi (by simp)
    refine RunF_sound tab_ok (roundX_local hI.loc l rc .busy) 100 [] _ _ rfl ?_ ?_
    · simp [segsVals, relV_one']
    refine Run.drawA (roundX_local hI.loc l rc .busy) rfl [] [(14, .cells 25 [.vals 65 (relV O)]), (3, .cells 25 [.vals 65 (relV X42)]), (2, .cells 25 [.vals 65 (relV X)])] rfl rfl ⟨rfl, rfl, rfl, trivial⟩ ?_
    refine RunOF_sound tab_ok (roundX_local hI.loc l rc .busy) rfl rfl 200 [] _ _ rfl ?_ ?_
    · simp
    refine RunO.callFn (r := .int .i64 0) (roundX_local hI.loc l rc .busy) rfl rfl rfl rfl rfl rfl rfl rfl num_enters rfl (fun w' _ => num_ok 0 w') ?_
    refine RunOF_sound tab_ok (roundX_local hI.loc l rc .busy) rfl rfl 200 [false] _ _ rfl ?_ ?_
    · simp
    refine RunO.callFn (r := encRel Y) (roundX_local hI.loc l rc .busy) rfl rfl rfl rfl rfl rfl rfl rfl minus_enters rfl (fun w' _ => gy w') ?_
    refine RunOF_sound tab_ok (roundX_local hI.loc l rc .busy) rfl rfl 200 [] _ _ rfl ?_ ?_
    · simp
    refine RunO.callFn (r := encRel Z) (roundX_local hI.loc l rc .busy) rfl rfl rfl rfl rfl rfl rfl rfl plus_enters rfl (fun w' _ => gz w') ?_
    refine RunOF_sound tab_ok (roundX_local hI.loc l rc .busy) rfl rfl 200 [] _ _ rfl ?_ ?_
    · simp
    refine RunO.cmp rfl rfl rfl rfl rfl rfl rfl (b := false) (c := false) (hcmpN hz) (.inl ⟨rfl, rfl⟩) ?_
    refine RunOF_sound tab_ok (roundX_local hI.loc l rc .busy) rfl rfl 200 [] _ _ rfl ?_ ?_
    · simp
    refine RunO.done ?_
    have hwr : IntKind.i64.wrap ((k : Int) + 1) = ((k + 1 : Nat) : Int) := wrap_succ (by omega)
    by_cases c40 : ((k + 1 : Nat) : Int) ≥ 40
    · refine RunF_sound tab_ok (roundX_local hI.loc l rc .busy) 100 [false, true] _ _ rfl ?_ ?_
      · simp [okCell, hwr]; omega
      refine Run.roundExit hI [] (redB r X X42 (k + 1)) rfl ⟨rfl, k + 1, rfl⟩ ⟨rfl, rfl, rfl, rfl, rfl, trivial⟩ ⟨?_, rfl, rfl, rfl, rfl, trivial⟩ rfl
      exact congrArg (fun z : Int => some (Blk.cells 3 [.one (.v (.int .i64 z))])) hwr
    · refine RunF_sound tab_ok (roundX_local hI.loc l rc .busy) 100 [false, false] _ _ rfl ?_ ?_
      · simp [okCell, hwr]; omega
      refine Run.roundEnd hI [] (redB r X X42 (k + 1)) ⟨k + 1, by omega, by omega, hnext, rfl⟩ ⟨rfl, rfl, rfl, rfl, rfl, trivial⟩ ⟨?_, rfl, rfl, rfl, rfl, trivial⟩ rfl
      exact congrArg (fun z : Int => some (Blk.cells 3 [.one (.v (.int .i64 z))])) hwr
  · rintro D h ⟨k, hk, _, hx, rfl⟩
    refine RunF_sound tab_ok (markX_local noX_local D) 100 [] _ _ rfl ?_ ?_
    · simp [okCell, ofConst]
    refine Run.retB (Ds := [D]) tab_ok noX_local hB1 Tryd.func9 rfl ?_ (fun M => ?_)
    · simp
    rfl
  · rintro D pre c h hpre ⟨rfl, k, rfl⟩
    refine RunF_sound tab_ok (markX_local noX_local D) 100 [] _ _ rfl ?_ ?_
    · simp [okCell, ofConst]
    refine Run.retB (Ds := [D]) tab_ok noX_local hB1 Tryd.func9 rfl ?_ (fun M => ?_)
    · simp
    rfl

set_option maxHeartbeats 1000000 in
theorem reduces_2 (r : Rl) (X : Rl) (w : World)
    (cr : checkI r ≠ 0)
    (g11 : ∀ w', Agree (fun _ => False) w w' → Gives Tryd.prog 62 [] w' (.bool true))
    (gred : ∀ w', Agree (fun _ => False) w w' → Gives Tryd.prog 51 [encRel r] w' (.tuple #[encRel X, .bool true]))
    (e40 : X = (Rl.void 0))
    : Gives Tryd.prog 9 [encRel r] w (.bool true) := by
  refine Gives.of_run Tryd.func9 rfl (by show 1 ≤ 85; decide) ?_
  refine RunF_sound tab_ok noX_local 400 [] _ _ rfl ?_ ?_
  · simp [okCell, ofConst, *]
  refine Run.callFn (r := .bool true) noX_local rfl rfl rfl rfl rfl rfl rfl works_enters rfl (fun w' hA => g11 w' hA) ?_
  refine RunF_sound tab_ok noX_local 400 [false] _ _ rfl ?_ ?_
  · simp [*]
  refine Run.callFn (r := .tuple #[encRel X, .bool true]) noX_local rfl rfl rfl rfl rfl rfl rfl reduce_enters rfl (fun w' hA => gred w' hA) ?_
  refine RunF_sound tab_ok noX_local 400 [false] _ _ rfl ?_ ?_
  · simp [segsVals, relV_one', *]
  refine Run.callFn (r := .int .i64 (checkI r)) noX_local rfl rfl rfl rfl rfl rfl rfl check_enters rfl (fun w' _ => check_ok r w') ?_
  refine RunF_sound tab_ok noX_local 400 [] _ _ rfl ?_ ?_
  · simp [*]
  refine Run.callFn (r := .int .i64 (checkI r)) noX_local rfl rfl rfl rfl rfl rfl rfl num_enters rfl (fun w' _ => num_ok _ w') ?_
  refine RunF_sound tab_ok noX_local 400 [true] _ _ rfl ?_ ?_
  · simp [fillL, Value.cells, *]
  refine Run.cmp rfl rfl rfl rfl rfl rfl (b := true) (c := true) (hcmpL e40 (by rw [relV_void]; rfl)) (.inl ⟨rfl, rfl⟩) ?_
  refine RunF_sound tab_ok noX_local 400 [] _ _ rfl ?_ ?_
  · simp [okCell, oneB, *]
  refine Run.retP tab_ok Tryd.func9 rfl ?_ (fun M => by simp [conc, *])
  · simp

end Go.Proofs.YtocpkgckllbjlaaDoor

/-
  RelReduces answers true. Own work.
-/
namespace Go.Proofs.YtocpkgckllbjlaaDoor
open Go.AM
set_option maxRecDepth 100000

theorem void0_rt : Rt (Rl.void 0) := void_rt (by decide) (by decide)

theorem clos_void_has (a b : Nat) : ¬ (clos (Rl.void 0)).has a b = true := by
  intro h
  have := (clos_rt void0_rt).lt a b h
  rw [clos_n, void_n] at this
  omega
theorem ac_void : irB (clos (Rl.void 0)) = true := irB_true fun i => Bool.eq_false_iff.2 (clos_void_has i i)

theorem rightL_bad {r : Rl} (h : checkI r ≠ 0) : rightL r = Rl.void 0 := by unfold rightL; rw [if_neg h]

theorem two_void (op : Nat) {S : Rl} (hS : Rt S) : twoR op (Rl.void 0) S = Rl.void 0 := by
  by_cases hn : (Rl.void 0).n = S.n
  · refine rl_ext (by rw [twoR_n op void0_rt hS hn]) fun a b => ?_
    constructor
    · intro h
      have := (twoR_rt op void0_rt hS hn).lt a b h
      rw [twoR_n op void0_rt hS hn, void_n] at this
      omega
    · intro h; rw [void_has] at h; cases h
  · exact twoR_void op _ _ (by rw [void0_rt.right, hS.right]; exact hn)

theorem one_has {n : Int} {a b : Nat} (ha : a < 64) (hb : b < 64) (x y : Nat) : ((Rl.void n).setRow a (1#64 <<< b)).has x y = true ↔ x = a ∧ y = b := by
  rw [Rl.has_setRow]
  split
  · rename_i h
    rw [one_shl_get b y hb]
    simp [h.1]
  · rename_i h
    rw [void_has]
    constructor
    · intro h; cases h
    · rintro ⟨rfl, _⟩; exact absurd ⟨rfl, ha⟩ h

theorem of_one {n : Int} {a b : Nat} (hn : 0 ≤ n ∧ n ≤ 64) (ha : (a : Int) < n) (hb : (b : Int) < n) : ofL n [((a : Int), (b : Int))] = ((Rl.void n).setRow a (1#64 <<< b), 0) := by
  unfold ofL
  rw [if_neg (by omega)]
  have hb' : ¬ badE n ((a : Int), (b : Int)) := by unfold badE; simp only; omega
  rw [ofGo, if_neg hb', ofGo, Rl.row_void]
  simp

theorem relReduces_ok (r : Rl) (w : World) (hT : TabAt w) (h0 : 0 < w.heap.size) : Gives Tryd.prog 9 [encRel r] w (.bool true) := by
  have hTA : ∀ w', Agree (fun _ => False) w w' → TabAt w' ∧ 0 < w'.heap.size := fun w' hA => ⟨hT.agree hA (fun f => f), Nat.lt_of_lt_of_le h0 hA.size⟩
  have hwk : ∀ w', Agree (fun _ => False) w w' → Gives Tryd.prog 62 [] w' (.bool true) := fun w' hA => works_ok w' (hTA w' hA).1 (hTA w' hA).2
  have hrd : ∀ w', Agree (fun _ => False) w w' → Gives Tryd.prog 51 [encRel r] w' (.tuple #[encRel (redL r), .bool (irB (clos (rightL r)))]) := fun w' hA => reduce_ok r w' (hTA w' hA).1 (hTA w' hA).2
  have hac : ∀ w', Agree (fun _ => False) w w' → Gives Tryd.prog 46 [encRel r] w' (.bool (irB (clos (rightL r)))) := fun w' _ => acyclic_ok r w'
  by_cases c : irB (clos (rightL r)) = true
  · rw [c] at hrd
    by_cases cr : checkI r = 0
    · have hr := rt_check cr
      have e0 : redL r = redR r := by unfold redL; rw [if_pos c, hr.right]; rfl
      rw [e0] at hrd
      have hx := redR_rt hr
      have hxn := redR_n hr
      have k46 : clos (redR r) = clos r := red_clos hr (by rw [hr.right] at c; exact c)
      have k54 : twoR 2 (redR r) r = Rl.void r.n := rl_ext (by rw [twoR_n 2 hx hr hxn, hxn]; rfl) fun a b => by
        rw [minus_has hx hr hxn, redR_has hr, void_has]
        constructor
        · rintro ⟨⟨h1, _⟩, h2⟩; exact absurd h1 h2
        · intro h; cases h
      refine reduces_3 r (redR r) (clos r) (clos (redR r)) (twoR 2 (redR r) r) w cr hT h0 ⟨hx.right, trivial⟩ ?_ hwk hrd (fun w' _ => plusT hr w') (fun w' _ => plusT hx w') k46 (fun w' _ => minusT _ _ w') k54
      intro a b hab
      have hlt := hx.lt a b hab
      rw [hxn] at hlt
      have h64 := hr.hi
      have ha : a < 64 := by omega
      have hb : b < 64 := by omega
      have hO : Rt ((Rl.void r.n).setRow a (1#64 <<< b)) := ⟨by rw [Rl.n_setRow]; exact hr.lo, by rw [Rl.n_setRow]; exact hr.hi, fun x y h => by
        rw [Rl.n_setRow]
        obtain ⟨rfl, rfl⟩ := (one_has ha hb x y).1 h
        exact hlt⟩
      have hOn : ((Rl.void r.n).setRow a (1#64 <<< b)).n = r.n := by rw [Rl.n_setRow]; rfl
      have hY := twoR_rt 2 hx hO (hxn.trans hOn.symm)
      refine ⟨_, _, _, fun w2 p c hs => ?_, fun w2 => minusT _ _ w2, fun w2 => plusT hY w2, ?_⟩
      · have := of_ok r.n p c [((a : Int), (b : Int))] w2 hs (by simp [maxLen])
        rw [of_one ⟨hr.lo, hr.hi⟩ hlt.1 hlt.2] at this
        exact this
      · refine red_less hr hY hab fun x y h => ?_
        rw [minus_has hx hO (hxn.trans hOn.symm), one_has ha hb] at h
        exact h
    · have e0 : redL r = Rl.void 0 := by
        unfold redL
        rw [if_pos c, twoR_right, twoR_right 3, rightL_bad cr, (clos_rt void0_rt).right, two_void 3 (clos_rt void0_rt), void0_rt.right, two_void 2 void0_rt]
      rw [e0] at hrd
      exact reduces_2 r (Rl.void 0) w cr hwk hrd rfl
  · have cr : checkI r = 0 := by
      by_cases cr : checkI r = 0
      · exact cr
      · exact absurd (by rw [rightL_bad cr]; exact ac_void) c
    have e0 : redL r = Rl.void 0 := by unfold redL; rw [if_neg c]
    rw [e0, Bool.eq_false_iff.2 c] at hrd
    rw [Bool.eq_false_iff.2 c] at hac
    exact reduces_1 r (Rl.void 0) w cr hwk hrd rfl hac
end Go.Proofs.YtocpkgckllbjlaaDoor

/-
  How far numbers are from a goal: plain. Own work; no program in sight.
-/
namespace Go.Proofs.YtocpkgckllbjlaaDoor
open Go.AM

/-- Walks of so many steps. -/
def W (R : Rl) : Nat → Nat → Nat → Prop
  | 0, a, b => a = b
  | n + 1, a, b => ∃ c, R.has a c = true ∧ W R n c b

open Classical in
noncomputable def dst (R : Rl) (g : Nat) : Nat → Nat → Nat
  | 0, _ => 0
  | n + 1, b => if dst R g n b ≠ 0 then dst R g n b else if 1 ≤ n ∧ W R n b g then n else 0

theorem dst_spec (R : Rl) (g : Nat) : ∀ n b, (dst R g n b = 0 ∧ ∀ m, 1 ≤ m → m < n → ¬ W R m b g) ∨
    (1 ≤ dst R g n b ∧ dst R g n b < n ∧ W R (dst R g n b) b g ∧ ∀ m, 1 ≤ m → m < dst R g n b → ¬ W R m b g)
  | 0, b => .inl ⟨rfl, fun m _ h => absurd h (Nat.not_lt_zero _)⟩
  | n + 1, b => by
    rcases dst_spec R g n b with ⟨h1, h2⟩ | ⟨h1, h2, h3, h4⟩
    · by_cases c : 1 ≤ n ∧ W R n b g
      · have e : dst R g (n + 1) b = n := by rw [dst, if_neg (by simp [h1]), if_pos c]
        rw [e]
        exact .inr ⟨c.1, Nat.lt_succ_self _, c.2, h2⟩
      · have e : dst R g (n + 1) b = 0 := by rw [dst, if_neg (by simp [h1]), if_neg c]
        refine .inl ⟨e, fun m hm hl hw => ?_⟩
        rcases Nat.lt_or_ge m n with h | h
        · exact h2 m hm h hw
        · obtain rfl : m = n := by omega
          exact c ⟨hm, hw⟩
    · have e : dst R g (n + 1) b = dst R g n b := by rw [dst, if_pos (by omega)]
      rw [e]
      exact .inr ⟨h1, by omega, h3, h4⟩

/-- What is found next. -/
def nxP (R : Rl) (g n b : Nat) : Prop := dst R g n b = 0 ∧ W R n b g
/-- From where one goes on. -/
def nwP (R : Rl) (g : Nat) : Nat → Nat → Prop
  | 0, _ => False
  | 1, b => b = g
  | n + 2, b => nxP R g (n + 1) b

theorem now_step (R : Rl) (g n b : Nat) (hn : 1 ≤ n) (hb : dst R g n b = 0) : (∃ x, nwP R g n x ∧ R.has b x = true) ↔ W R n b g := by
  match n, hn with
  | 1, _ =>
    constructor
    · rintro ⟨x, hx, h⟩
      exact ⟨x, h, hx⟩
    · rintro ⟨x, h, hx⟩
      exact ⟨x, hx, h⟩
  | k + 2, _ =>
    constructor
    · rintro ⟨x, hx, h⟩
      exact ⟨x, h, hx.2⟩
    · rintro ⟨c, h, hc⟩
      refine ⟨c, ⟨?_, hc⟩, h⟩
      rcases dst_spec R g (k + 1) c with h1 | ⟨h1, h2, h3, _⟩
      · exact h1.1
      · rcases dst_spec R g (k + 2) b with h4 | h4
        · exact absurd ⟨c, h, h3⟩ (h4.2 (dst R g (k + 1) c + 1) (by omega) (by omega))
        · omega

open Classical in
theorem dst_next (R : Rl) (g n b : Nat) (hn : 1 ≤ n) : dst R g (n + 1) b = if nxP R g n b then n else dst R g n b := by
  unfold nxP
  by_cases h : dst R g n b = 0
  · by_cases hw : W R n b g
    · rw [if_pos ⟨h, hw⟩, dst, if_neg (by simp [h]), if_pos ⟨hn, hw⟩]
    · rw [if_neg (fun h' => hw h'.2), dst, if_neg (by simp [h]), if_neg (fun h' => hw h'.2), h]
  · rw [if_neg (fun h' => h h'.1), dst, if_pos h]

theorem dst_closed (R : Rl) (g n : Nat) (hn : 2 ≤ n) (he : ∀ x, ¬ nwP R g n x) : ∀ m, 1 ≤ m → ∀ b, W R m b g → dst R g n b ≠ 0
  | 1, _, b, hw, h0 => by
    rcases dst_spec R g n b with h | h
    · exact h.2 1 (by omega) (by omega) hw
    · omega
  | m + 2, _, b, ⟨c, hbc, hc⟩, h0 => by
    have hc0 := dst_closed R g n hn he (m + 1) (by omega) c hc
    rcases dst_spec R g n c with h | ⟨h1, h2, h3, h4⟩
    · exact hc0 h.1
    · rcases dst_spec R g n b with h | h
      · rcases Nat.lt_or_ge (dst R g n c + 1) n with hl | hl
        · exact h.2 _ (by omega) hl ⟨c, hbc, h3⟩
        · obtain ⟨k, rfl⟩ : ∃ k, n = k + 2 := ⟨n - 2, by omega⟩
          have e : dst R g (k + 2) c = k + 1 := by omega
          rw [e] at h3 h4
          refine he c ⟨?_, h3⟩
          rcases dst_spec R g (k + 1) c with h5 | ⟨h5, h6, h7, _⟩
          · exact h5.1
          · exact absurd h7 (h4 _ h5 h6)
      · omega

theorem least_ex (p : Nat → Prop) (h : ∃ n, p n) : ∃ n, p n ∧ ∀ m, m < n → ¬ p m := by
  obtain ⟨n, hn⟩ := h
  induction n using Nat.strongRecOn with
  | _ n ih =>
    by_cases c : ∃ m, m < n ∧ p m
    · obtain ⟨m, hm, hp⟩ := c
      exact ih m hm hp
    · exact ⟨n, hn, fun m hm hp => c ⟨m, hm, hp⟩⟩

open Classical in
/-- How many steps, at least one, lead to the goal; 0: there is no way. -/
noncomputable def distR (R : Rl) (g b : Nat) : Nat := if h : ∃ m, 1 ≤ m ∧ W R m b g then (least_ex _ h).choose else 0

theorem distR_zero {R : Rl} {g b : Nat} (h : ∀ m, 1 ≤ m → ¬ W R m b g) : distR R g b = 0 := by
  unfold distR
  rw [dif_neg (fun ⟨m, h1, h2⟩ => h m h1 h2)]
theorem distR_at {R : Rl} {g b k : Nat} (h1 : 1 ≤ k) (h2 : W R k b g) (h3 : ∀ m, 1 ≤ m → m < k → ¬ W R m b g) : distR R g b = k := by
  have h : ∃ m, 1 ≤ m ∧ W R m b g := ⟨k, h1, h2⟩
  unfold distR
  rw [dif_pos h]
  obtain ⟨h4, h5⟩ := (least_ex _ h).choose_spec
  rcases Nat.lt_trichotomy ((least_ex _ h).choose) k with hl | hl | hl
  · exact absurd h4.2 (h3 _ h4.1 hl)
  · exact hl
  · exact absurd ⟨h1, h2⟩ (h5 k hl)
theorem distR_spec (R : Rl) (g b : Nat) : (distR R g b = 0 ∧ ∀ m, 1 ≤ m → ¬ W R m b g) ∨ (1 ≤ distR R g b ∧ W R (distR R g b) b g ∧ ∀ m, 1 ≤ m → m < distR R g b → ¬ W R m b g) := by
  by_cases h : ∃ m, 1 ≤ m ∧ W R m b g
  · obtain ⟨k, ⟨h1, h2⟩, h3⟩ := least_ex _ h
    have h3' : ∀ m, 1 ≤ m → m < k → ¬ W R m b g := fun m hm hl hw => h3 m hl ⟨hm, hw⟩
    rw [distR_at h1 h2 h3']
    exact .inr ⟨h1, h2, h3'⟩
  · have h' : ∀ m, 1 ≤ m → ¬ W R m b g := fun m h1 h2 => h ⟨m, h1, h2⟩
    exact .inl ⟨distR_zero h', h'⟩

theorem dst_final (R : Rl) (g n : Nat) (hn : 2 ≤ n) (he : ∀ x, ¬ nwP R g n x) (b : Nat) : dst R g n b = distR R g b := by
  rcases dst_spec R g n b with h | ⟨h1, h2, h3, h4⟩
  · rw [h.1, distR_zero fun m hm hw => dst_closed R g n hn he m hm b hw h.1]
  · rw [distR_at h1 h3 h4]

/-! ### Words -/
open Classical in
noncomputable def bitsP (p : Nat → Prop) : BitVec 64 := bitsB fun b => decide (p b)
theorem bitsP_get (p : Nat → Prop) (j : Nat) : (bitsP p).getLsbD j = true ↔ j < 64 ∧ p j := by
  unfold bitsP
  rw [bitsB_get]
  simp
theorem bits_ext {x y : BitVec 64} (h : ∀ j, j < 64 → (x.getLsbD j = true ↔ y.getLsbD j = true)) : x = y :=
  BitVec.eq_of_getLsbD_eq fun j hj => Bool.eq_iff_iff.2 (h j hj)

def orI (I : Rl) (l : List Nat) (acc : BitVec 64) : BitVec 64 := l.foldl (fun a b => a ||| I.row b) acc
theorem orI_get (I : Rl) (j : Nat) : ∀ (l : List Nat) (acc : BitVec 64), (orI I l acc).getLsbD j = true ↔ acc.getLsbD j = true ∨ ∃ b ∈ l, I.has b j = true
  | [], acc => by simp [orI]
  | b :: l, acc => by
    have := orI_get I j l (acc ||| I.row b)
    simp only [orI, List.foldl_cons] at this ⊢
    rw [this, BitVec.getLsbD_or]
    simp only [Bool.or_eq_true, List.mem_cons, exists_eq_or_imp]
    rw [or_assoc]; rfl

def setL (f : Nat → Nat) (l : List Nat) (n : Nat) : Nat → Nat := l.foldl (fun f b => fun x => if x = b then n else f x) f
theorem setL_at (n : Nat) : ∀ (l : List Nat) (f : Nat → Nat) (x : Nat), setL f l n x = if x ∈ l then n else f x
  | [], f, x => by simp [setL]
  | b :: l, f, x => by
    have := setL_at n l (fun x => if x = b then n else f x) x
    simp only [setL, List.foldl_cons] at this ⊢
    rw [this]
    by_cases h1 : x ∈ l
    · simp [h1]
    · by_cases h2 : x = b
      · simp [h2]
      · simp [h1, h2]

/-- How many have no number yet. -/
noncomputable def unseen (R : Rl) (g n : Nat) : Nat := (List.range 64).countP fun b => dst R g n b == 0
theorem unseen_le (R : Rl) (g n : Nat) (hn : 1 ≤ n) : unseen R g (n + 1) ≤ unseen R g n := by
  unfold unseen
  refine List.countP_mono_left fun b _ h => ?_
  rw [dst_next R g n b hn] at h
  split at h
  · simp at h; omega
  · exact h
theorem unseen_lt (R : Rl) (g n : Nat) (hn : 1 ≤ n) {b : Nat} (hb : b < 64) (h : nxP R g n b) : unseen R g (n + 1) < unseen R g n := by
  unfold unseen
  refine countP_lt (fun x _ hx => ?_) ⟨b, List.mem_range.2 hb, ?_, ?_⟩
  · rw [dst_next R g n x hn] at hx
    split at hx
    · simp at hx; omega
    · exact hx
  · simp [h.1]
  · rw [dst_next R g n b hn, if_pos h]
    simp; omega
theorem unseen_64 (R : Rl) (g n : Nat) : unseen R g n ≤ 64 := by
  unfold unseen
  have := List.countP_le_length (p := fun b => dst R g n b == 0) (l := List.range 64)
  simpa using this
end Go.Proofs.YtocpkgckllbjlaaDoor

/-
  far walked. Own work.
-/
namespace Go.Proofs.YtocpkgckllbjlaaDoor
open Go.AM
set_option maxRecDepth 100000

def outV (f : Nat → Nat) : List Value := (List.range 64).map fun b => .int .i64 (f b : Int)
@[simp] theorem outV_length (f : Nat → Nat) : (outV f).length = 64 := by simp [outV]
theorem outV_get (f : Nat → Nat) (i : Nat) (h : i < 64) : (outV f)[i]? = some (.int .i64 (f i : Int)) := by simp [outV, h]
theorem outV_set (f : Nat → Nat) (b n : Nat) : (outV f).set b (.int .i64 (n : Int)) = outV (fun x => if x = b then n else f x) := by
  apply List.ext_getElem?
  intro i
  rcases Nat.lt_or_ge i 64 with hi | hi
  · rw [outV_get _ i hi]
    by_cases e : b = i
    · subst e
      rw [List.getElem?_set_self (by simpa using hi)]; simp
    · rw [List.getElem?_set_ne e, outV_get _ i hi, if_neg (fun h => e h.symm)]
  · rw [List.getElem?_eq_none (by simpa using hi), List.getElem?_eq_none (by simpa using hi)]
theorem outV_one (f : Nat → Nat) : ∀ c ∈ outV f, c.oneCell' = true := by
  intro c hc
  simp only [outV, List.mem_map] at hc
  obtain ⟨b, _, rfl⟩ := hc; rfl
theorem outV_one' (f : Nat → Nat) : (∀ c ∈ outV f, c.oneCell' = true) ↔ True := iff_true_intro (outV_one f)
theorem outV_zero : outV (fun _ => 0) = List.replicate 64 (.int .i64 0) := by simp [outV, List.map_const']

abbrev farT (x now : BitVec 64) (n : Nat) : List (Nat × AV) := [(4, .ptr 1 0), (5, .ptr 2 0), (6, .ptr 3 0), (7, .v (.int .u64 (un now))), (8, .v (.int .u64 (un x))), (9, .v (.int .i64 (n : Int)))]
abbrev farB (R I : Rl) (f : Nat → Nat) : List (Nat × Blk) := [(0, .cells 25 [.vals 65 (relV R)]), (1, .cells 88 [.vals 64 (outV fun _ => 0)]), (2, .cells 88 [.vals 64 (outV f)]), (3, .cells 25 [.vals 65 (relV I)])]

theorem far_ok (R : Rl) (hR : Rt R) (g : Nat) (hg : g < 64) (w : World) (hT : TabAt w) (h0 : 0 < w.heap.size) :
    Gives Tryd.prog 88 [encRel R, .int .i64 (g : Int)] w (.agg (outV (distR R g)).toArray) := by
  refine Gives.of_run Tryd.func88 rfl (by show 2 ≤ 52; decide) ?_
  have z64 : z88.length = 64 := rfl
  refine RunF_sound tab_ok noX_local 100 [] _ _ rfl ?_ ?_
  · simp [segsVals, relV_one', z64]
  have hIh := invR_has R
  refine Run.callFn (r := encRel (invR R)) noX_local rfl rfl rfl rfl rfl rfl rfl inverse_enters rfl (fun w' hA => inverseT hR w' (hT.agree hA (fun f => f)) (Nat.lt_of_lt_of_le h0 hA.size)) ?_
  generalize invR R = I at hIh
  refine RunF_sound tab_ok noX_local 100 [] _ _ rfl ?_ ?_
  · simp [segsVals, relV_one', relV_tail_one]
  have nlt : ∀ n x, nwP R g n x → x < 64 := by
    intro n x hx
    match n, hx with
    | 1, hx => exact hx ▸ hg
    | k + 2, hx => exact (Rl.has_lt R hx.2.choose_spec.1).1
  have nxlt : ∀ n b, 1 ≤ n → nxP R g n b → b < 64 := fun n b hn h => nlt (n + 1) b (by obtain ⟨k, rfl⟩ : ∃ k, n = k + 1 := ⟨n - 1, by omega⟩; exact h)
  suffices H : ∀ (μ n : Nat) (now x : BitVec 64) (f : Nat → Nat), 1 ≤ n → n + μ ≤ 140 → 2 * unseen R g n + (if now = 0#64 then 0 else 1) ≤ μ → now = bitsP (nwP R g n) → x = bitsP (fun b => dst R g n b ≠ 0) → f = dst R g n →
      Run _ _ ⟨farT x now n, farB R I f, 4⟩ by
    have d1 : dst R g 1 = fun _ => 0 := by
      funext b
      rcases dst_spec R g 1 b with h | h
      · exact h.1
      · omega
    refine Run.to (H 129 1 (1#64 <<< g) 0#64 (fun _ => 0) (by omega) (by omega) ?_ ?_ ?_ d1.symm) ⟨rfl, rfl, rfl, ?_, rfl, rfl, trivial⟩ ⟨rfl, rfl, rfl, rfl, trivial⟩
    · have := unseen_64 R g 1
      split <;> omega
    · refine bits_ext fun j hj => ?_
      rw [one_shl_get g j hg, bitsP_get]
      simp [nwP, hj]
    · refine bits_ext fun j hj => ?_
      rw [bitsP_get, d1]
      simp
    · exact u64_eq (by rw [shl1_un]; simp)
  intro μ
  induction μ with
  | zero =>
    intro n now x f hn hle hμ hnow hx hf
    have hz : now = 0#64 := by
      by_cases h : now = 0#64
      · exact h
      · rw [if_neg h] at hμ; omega
    have hend : outV f = outV (distR R g) := by
      have hn2 : 2 ≤ n := by
        rcases Nat.lt_or_ge n 2 with h | h
        · obtain rfl : n = 1 := by omega
          have h1 : (bitsP (nwP R g 1)).getLsbD g = true := (bitsP_get _ _).2 ⟨hg, rfl⟩
          rw [← hnow, hz] at h1
          simp at h1
        · exact h
      have he : ∀ x, ¬ nwP R g n x := fun x hx' => by
        have h1 : (bitsP (nwP R g n)).getLsbD x = true := (bitsP_get _ _).2 ⟨nlt n x hx', hx'⟩
        rw [← hnow, hz] at h1
        simp at h1
      congr 1
      funext b
      rw [hf]; exact dst_final R g n hn2 he b
    refine RunF_sound tab_ok noX_local 100 [false] _ _ rfl ?_ ?_
    · simp [hz, segsVals, outV_one']
    refine Run.retP tab_ok Tryd.func88 rfl ?_ (fun M => ?_)
    · simp [segsVals]
    rw [← hend]; rfl
  | succ μ ih =>
    intro n now x f hn hle hμ hnow hx hf
    by_cases hz : now = 0#64
    · have hend : outV f = outV (distR R g) := by
        have hn2 : 2 ≤ n := by
          rcases Nat.lt_or_ge n 2 with h | h
          · obtain rfl : n = 1 := by omega
            have h1 : (bitsP (nwP R g 1)).getLsbD g = true := (bitsP_get _ _).2 ⟨hg, rfl⟩
            rw [← hnow, hz] at h1
            simp at h1
          · exact h
        have he : ∀ x, ¬ nwP R g n x := fun x hx' => by
          have h1 : (bitsP (nwP R g n)).getLsbD x = true := (bitsP_get _ _).2 ⟨nlt n x hx', hx'⟩
          rw [← hnow, hz] at h1
          simp at h1
        congr 1
        funext b
        rw [hf]; exact dst_final R g n hn2 he b
      refine RunF_sound tab_ok noX_local 100 [false] _ _ rfl ?_ ?_
      · simp [hz, segsVals, outV_one']
      refine Run.retP tab_ok Tryd.func88 rfl ?_ (fun M => ?_)
      · simp [segsVals]
      rw [← hend]; rfl
    · have hbits : ∀ b, b ∈ bitsL now ↔ b < 64 ∧ nwP R g n b := fun b => by rw [bitsL_mem, hnow, bitsP_get]
      refine RunF_sound tab_ok noX_local 100 [true] _ _ rfl ?_ ?_
      · simp [hz]
      suffices H2 : ∀ (m : Nat) (y acc : BitVec 64), (bitsL y).length = m → orI I (bitsL y) acc = orI I (bitsL now) 0#64 →
          Run _ _ ⟨[(4, .ptr 1 0), (5, .ptr 2 0), (6, .ptr 3 0), (7, .v (.int .u64 (un y))), (8, .v (.int .u64 (un x))), (9, .v (.int .i64 (n : Int))), (10, .v (.int .u64 (un acc)))], farB R I f, 4⟩ by
        exact Run.to (H2 _ now 0#64 rfl rfl) ⟨rfl, rfl, rfl, rfl, rfl, rfl, rfl, trivial⟩ ⟨rfl, rfl, rfl, rfl, trivial⟩
      intro m
      induction m with
      | zero =>
        intro y acc hm hacc
        have hy : y = 0#64 := by
          by_cases h : y = 0#64
          · exact h
          · rw [bitsL_cons y h] at hm; cases hm
        rw [hy, bitsL_zero] at hacc
        have hnx : ∀ j, (acc &&& ~~~x).getLsbD j = true ↔ j < 64 ∧ nxP R g n j := by
          intro j
          rw [BitVec.getLsbD_and, BitVec.getLsbD_not, Bool.and_eq_true]
          have h1 : acc.getLsbD j = true ↔ ∃ b, nwP R g n b ∧ R.has j b = true := by
            have : acc = orI I (bitsL now) 0#64 := hacc
            rw [this, orI_get]
            simp only [BitVec.getLsbD_zero, Bool.false_eq_true, false_or]
            constructor
            · rintro ⟨b, hb, h⟩; exact ⟨b, ((hbits b).1 hb).2, (hIh b j).1 h⟩
            · rintro ⟨b, hb, h⟩; exact ⟨b, (hbits b).2 ⟨nlt n b hb, hb⟩, (hIh b j).2 h⟩
          have h2 : x.getLsbD j = true ↔ j < 64 ∧ dst R g n j ≠ 0 := by rw [hx, bitsP_get]
          rw [h1]
          constructor
          · rintro ⟨h3, h4⟩
            simp only [Bool.and_eq_true, decide_eq_true_eq, Bool.not_eq_true'] at h4
            have h5 : dst R g n j = 0 := by
              by_cases h : dst R g n j = 0
              · exact h
              · rw [h2.2 ⟨h4.1, h⟩] at h4; cases h4.2
            exact ⟨h4.1, h5, (now_step R g n j hn h5).1 h3⟩
          · rintro ⟨hj, h5, h6⟩
            refine ⟨(now_step R g n j hn h5).2 h6, ?_⟩
            have : x.getLsbD j = false := Bool.eq_false_iff.2 fun h => (h2.1 h).2 h5
            rw [this, decide_eq_true hj]; rfl
        generalize hnxt : acc &&& ~~~x = nxt at hnx
        have hnb : ∀ b, b ∈ bitsL nxt ↔ b < 64 ∧ nxP R g n b := fun b => by rw [bitsL_mem]; exact hnx b
        refine RunF_sound tab_ok noX_local 100 [false] _ _ rfl ?_ ?_
        · simp [hy]
        suffices H3 : ∀ (m : Nat) (l : BitVec 64) (f' : Nat → Nat), (bitsL l).length = m → setL f' (bitsL l) n = dst R g (n + 1) →
            Run _ _ ⟨[(4, .ptr 1 0), (5, .ptr 2 0), (6, .ptr 3 0), (8, .v (.int .u64 (un (x ||| nxt)))), (9, .v (.int .i64 (n : Int))), (10, .v (.int .u64 (un nxt))), (11, .v (.int .u64 (un l)))], farB R I f', 4⟩ by
          refine Run.to (H3 _ nxt f rfl ?_) ⟨rfl, rfl, rfl, u64_eq (by simp [hnxt]), rfl, u64_eq (by simp [hnxt]), u64_eq (by simp [hnxt]), trivial⟩ ⟨rfl, rfl, rfl, rfl, trivial⟩
          funext b
          rw [setL_at, dst_next R g n b hn, hf]
          by_cases h : nxP R g n b
          · rw [if_pos h, if_pos ((hnb b).2 ⟨nxlt n b hn h, h⟩)]
          · rw [if_neg h, if_neg fun h' => h ((hnb b).1 h').2]
        intro m3
        induction m3 with
        | zero =>
          intro l f' hl hset
          have hl0 : l = 0#64 := by
            by_cases h : l = 0#64
            · exact h
            · rw [bitsL_cons l h] at hl; cases hl
          rw [hl0, bitsL_zero] at hset
          refine RunF_sound tab_ok noX_local 100 [false] _ _ rfl ?_ ?_
          · simp [hl0]
          refine Run.to (ih (n + 1) nxt (x ||| nxt) f' (by omega) (by omega) ?_ ?_ ?_ hset) ⟨rfl, rfl, rfl, rfl, rfl, i64_eq (wrap_succ (by omega)), trivial⟩ ⟨rfl, rfl, rfl, rfl, trivial⟩
          · have hu := unseen_le R g n hn
            rw [if_neg hz] at hμ
            split
            · omega
            · rename_i hnz
              have : ∃ b, b < 64 ∧ nxP R g n b := by
                have hb : tz nxt ∈ bitsL nxt := by rw [bitsL_cons nxt hnz]; simp
                exact ⟨_, (hnb _).1 hb⟩
              obtain ⟨b, hb, hbn⟩ := this
              have := unseen_lt R g n hn hb hbn
              omega
          · refine bits_ext fun j hj => ?_
            rw [hnx, bitsP_get]
            obtain ⟨k, rfl⟩ : ∃ k, n = k + 1 := ⟨n - 1, by omega⟩
            rfl
          · refine bits_ext fun j hj => ?_
            rw [BitVec.getLsbD_or, Bool.or_eq_true, hnx, hx, bitsP_get, bitsP_get, dst_next R g n j hn]
            by_cases h : nxP R g n j
            · rw [if_pos h]
              simp [h, hj]; omega
            · rw [if_neg h]
              simp [h]
        | succ m3 ih3 =>
          intro l f' hl hset
          have hl0 : l ≠ 0#64 := fun h => by rw [h, bitsL_zero] at hl; cases hl
          have htl := tz_lt l hl0
          rw [bitsL_cons l hl0] at hset hl
          refine RunF_sound tab_ok noX_local 100 [true] _ _ rfl ?_ ?_
          · simp [hl0]
          refine Run.callFn (r := .int .i64 (tz l : Int)) noX_local rfl rfl rfl rfl rfl rfl rfl tz_enters rfl (fun w' hw' => by have := tz_ok l w' (hT.agree hw' (fun f => f)); rwa [tzI, if_neg hl0] at this) ?_
          refine RunF_sound tab_ok noX_local 100 [] _ _ rfl ?_ ?_
          · simp [okCell, Value.oneCell']; omega
          refine Run.to (ih3 (dropLow l) (fun y => if y = tz l then n else f' y) (by simpa using hl) hset) ⟨rfl, rfl, rfl, rfl, rfl, rfl, u64_eq (by rw [sub1_un, band_un]; rfl), trivial⟩ ⟨rfl, rfl, ?_, rfl, trivial⟩
          refine congrArg (fun l => some (Blk.cells 88 [.vals 64 l])) ?_
          rw [← outV_set]
          simp
      | succ m ihm =>
        intro y acc hm hacc
        have hy : y ≠ 0#64 := fun h => by rw [h, bitsL_zero] at hm; cases hm
        have hty := tz_lt y hy
        rw [bitsL_cons y hy] at hacc hm
        refine RunF_sound tab_ok noX_local 100 [true] _ _ rfl ?_ ?_
        · simp [hy]
        refine Run.callFn (r := .int .i64 (tz y : Int)) noX_local rfl rfl rfl rfl rfl rfl rfl tz_enters rfl (fun w' hw' => by have := tz_ok y w' (hT.agree hw' (fun f => f)); rwa [tzI, if_neg hy] at this) ?_
        refine RunF_sound tab_ok noX_local 100 [] _ _ rfl ?_ ?_
        · simp [relV_get _ _ hty, intAt_row _ _ hty]; omega
        refine Run.to (ihm (dropLow y) (acc ||| I.row (tz y)) (by simpa using hm) hacc) ⟨rfl, rfl, rfl, u64_eq (by rw [sub1_un, band_un]; rfl), rfl, rfl, u64_eq ?_, trivial⟩ ⟨rfl, rfl, rfl, rfl, trivial⟩
        have e1 : intAt (relV I) (1 + tz y) = un (I.row (tz y)) := intAt_row _ _ hty
        simp [e1]
theorem far_enters : Enters Tryd.prog 88 := enters_mk Tryd.func88 (by decide) rfl
end Go.Proofs.YtocpkgckllbjlaaDoor

/-
  The first shortest way round: plain. Own work; no program in sight.
-/
namespace Go.Proofs.YtocpkgckllbjlaaDoor
open Go.AM Relation

theorem W_add (R : Rl) : ∀ (a b x y z : Nat), W R a x y → W R b y z → W R (a + b) x z
  | 0, b, x, y, z, h, k => by cases h; rw [Nat.zero_add]; exact k
  | a + 1, b, x, y, z, ⟨c, h1, h2⟩, k => by
    rw [show a + 1 + b = (a + b) + 1 by omega]
    exact ⟨c, h1, W_add R a b c y z h2 k⟩
theorem W_snoc (R : Rl) {n x y z : Nat} (h : W R n x y) (k : R.has y z = true) : W R (n + 1) x z := W_add R n 1 x y z h ⟨z, k, rfl⟩

theorem W_trans {R : Rl} : ∀ {n a b : Nat}, W R (n + 1) a b → TransGen (Pr R) a b
  | 0, a, b, hw => by
    obtain ⟨c, h, e⟩ := hw
    have e' : c = b := e
    subst e'
    exact .single h
  | n + 1, a, b, hw => by
    obtain ⟨c, h, k⟩ := hw
    exact TransGen_trans (.single h) (W_trans k)
theorem trans_W {R : Rl} {a b : Nat} (h : TransGen (Pr R) a b) : ∃ n, W R (n + 1) a b := by
  induction h with
  | single h => exact ⟨0, _, h, rfl⟩
  | tail _ h ih => obtain ⟨n, hn⟩ := ih; exact ⟨n + 1, W_snoc R hn h⟩

open Classical in
/-- Where one goes on, so many steps from the goal. -/
noncomputable def nxtR (R : Rl) (g a k : Nat) : Option Nat := (List.range 64).find? fun b => R.has a b && decide (W R k b g)
/-- The way, each time by the least number. -/
noncomputable def pathR (R : Rl) (g : Nat) : Nat → Nat → List Nat
  | _, 0 => []
  | a, k + 1 => (nxtR R g a (k + 1)).getD 0 :: pathR R g ((nxtR R g a (k + 1)).getD 0) k

theorem pathR_length (R : Rl) (g : Nat) : ∀ k a, (pathR R g a k).length = k
  | 0, _ => rfl
  | k + 1, a => by simp [pathR, pathR_length R g k]

open Classical in
theorem nxtR_some (R : Rl) (g a k : Nat) (h : W R (k + 1) a g) : ∃ b, nxtR R g a k = some b ∧ b < 64 ∧ R.has a b = true ∧ W R k b g := by
  unfold nxtR
  cases hf : (List.range 64).find? (fun b => R.has a b && decide (W R k b g)) with
  | none =>
    obtain ⟨c, h1, h2⟩ := h
    have := List.find?_eq_none.1 hf c (List.mem_range.2 (Rl.has_lt R h1).2)
    simp [h1, h2] at this
  | some b =>
    have h1 := List.find?_some hf
    have h2 := List.mem_of_find?_eq_some hf
    simp only [Bool.and_eq_true, decide_eq_true_eq] at h1
    exact ⟨b, rfl, List.mem_range.1 h2, h1.1, h1.2⟩

/-- What the first shortest way round is. -/
def IsCyc (R : Rl) (x : Option (List Nat)) : Prop :=
  (x = none ∧ ∀ a m, 1 ≤ m → ¬ W R m a a) ∨
  ∃ g k, x = some (g :: pathR R g g k) ∧ W R (k + 1) g g ∧ (∀ a m, 1 ≤ m → m < k + 1 → ¬ W R m a a) ∧ ∀ a, a < g → ¬ W R (k + 1) a a

theorem IsCyc.eq {R : Rl} {x y : Option (List Nat)} (hx : IsCyc R x) (hy : IsCyc R y) : x = y := by
  rcases hx with ⟨rfl, h1⟩ | ⟨g, k, rfl, h1, h2, h3⟩ <;> rcases hy with ⟨rfl, h4⟩ | ⟨g', k', rfl, h4, h5, h6⟩
  · rfl
  · exact absurd h4 (h1 _ _ (by omega))
  · exact absurd h1 (h4 _ _ (by omega))
  · obtain rfl : k = k' := by
      rcases Nat.lt_trichotomy k k' with h | h | h
      · exact absurd h1 (h5 _ _ (by omega) (by omega))
      · exact h
      · exact absurd h4 (h2 _ _ (by omega) (by omega))
    obtain rfl : g = g' := by
      rcases Nat.lt_trichotomy g g' with h | h | h
      · exact absurd h1 (h6 _ h)
      · exact h
      · exact absurd h4 (h3 _ h)
    rfl

theorem cyc_ex (R : Rl) : ∃ x, IsCyc R x := by
  by_cases h : ∃ k, ∃ a, W R (k + 1) a a
  · obtain ⟨k, ⟨a, ha⟩, hk⟩ := least_ex _ h
    obtain ⟨g, hg, hl⟩ := least_ex (fun a => W R (k + 1) a a) ⟨a, ha⟩
    refine ⟨some (g :: pathR R g g k), .inr ⟨g, k, rfl, hg, fun a m hm hl hw => ?_, hl⟩⟩
    obtain ⟨m', rfl⟩ : ∃ m', m = m' + 1 := ⟨m - 1, by omega⟩
    exact hk m' (by omega) ⟨a, hw⟩
  · refine ⟨none, .inl ⟨rfl, fun a m hm hw => h ⟨m - 1, a, ?_⟩⟩⟩
    rwa [show m - 1 + 1 = m by omega]

/-- Which start is the best one so far. -/
def Best (R : Rl) (i b f : Nat) : Prop :=
  (b = 0 ∧ ∀ j, j < i → distR R j j = 0) ∨
  (0 < b ∧ f < i ∧ distR R f f = b ∧ (∀ j, j < i → distR R j j = 0 ∨ b ≤ distR R j j) ∧ ∀ j, j < f → distR R j j = 0 ∨ b < distR R j j)

theorem Best.keep {R : Rl} {i b f : Nat} (h : Best R i b f) (hd : distR R i i = 0 ∨ (b ≠ 0 ∧ b ≤ distR R i i)) : Best R (i + 1) b f := by
  rcases h with ⟨h1, h2⟩ | ⟨h1, h2, h3, h4, h5⟩
  · refine .inl ⟨h1, fun j hj => ?_⟩
    rcases Nat.lt_or_ge j i with h | h
    · exact h2 j h
    · obtain rfl : j = i := by omega
      rcases hd with h | h
      · exact h
      · exact absurd h1 h.1
  · refine .inr ⟨h1, by omega, h3, fun j hj => ?_, h5⟩
    rcases Nat.lt_or_ge j i with h | h
    · exact h4 j h
    · obtain rfl : j = i := by omega
      rcases hd with h | h
      · exact .inl h
      · exact .inr h.2
theorem Best.take {R : Rl} {i b f : Nat} (h : Best R i b f) (hd : distR R i i ≠ 0) (hb : b = 0 ∨ distR R i i < b) : Best R (i + 1) (distR R i i) i := by
  refine .inr ⟨by omega, by omega, rfl, fun j hj => ?_, fun j hj => ?_⟩
  · rcases Nat.lt_or_ge j i with hl | hl
    · rcases h with ⟨h1, h2⟩ | ⟨h1, h2, h3, h4, h5⟩
      · exact .inl (h2 j hl)
      · rcases h4 j hl with h | h
        · exact .inl h
        · exact .inr (by omega)
    · obtain rfl : j = i := by omega
      exact .inr (Nat.le_refl _)
  · rcases h with ⟨h1, h2⟩ | ⟨h1, h2, h3, h4, h5⟩
    · exact .inl (h2 j hj)
    · rcases h4 j hj with h | h
      · exact .inl h
      · exact .inr (by omega)

theorem Best.none {R : Rl} (hR : Rt R) {n f : Nat} (hn : R.n = (n : Int)) (h : Best R n 0 f) : IsCyc R none := by
  refine .inl ⟨rfl, fun a m hm hw => ?_⟩
  rcases h with ⟨_, h⟩ | ⟨h, _⟩
  · obtain ⟨m', rfl⟩ : ∃ m', m = m' + 1 := ⟨m - 1, by omega⟩
    have ha : a < n := by
      have := hR.lt _ _ hw.choose_spec.1
      omega
    rcases distR_spec R a a with h1 | h1
    · exact h1.2 _ hm hw
    · have := h a ha; omega
  · exact absurd h (Nat.lt_irrefl 0)
theorem Best.some {R : Rl} (hR : Rt R) {n f k : Nat} (hn : R.n = (n : Int)) (h : Best R n (k + 1) f) : f < n ∧ W R (k + 1) f f ∧ (∀ a m, 1 ≤ m → m < k + 1 → ¬ W R m a a) ∧ ∀ a, a < f → ¬ W R (k + 1) a a := by
  rcases h with ⟨h, _⟩ | ⟨_, h2, h3, h4, h5⟩
  · omega
  · have hlt : ∀ a m, 1 ≤ m → W R m a a → a < n := by
      intro a m hm hw
      obtain ⟨m', rfl⟩ : ∃ m', m = m' + 1 := ⟨m - 1, by omega⟩
      have := hR.lt _ _ hw.choose_spec.1
      omega
    refine ⟨h2, ?_, fun a m hm hl hw => ?_, fun a ha hw => ?_⟩
    · rcases distR_spec R f f with h | h
      · omega
      · rw [h3] at h; exact h.2.1
    · have ha := hlt a m hm hw
      rcases distR_spec R a a with h | ⟨h6, h7, h8⟩
      · exact h.2 m hm hw
      · rcases h4 a ha with h | h
        · omega
        · rcases Nat.lt_or_ge m (distR R a a) with hml | hml
          · exact h8 m hm hml hw
          · omega
    · have h1 : 1 ≤ k + 1 := by omega
      rcases distR_spec R a a with h | ⟨h6, h7, h8⟩
      · exact h.2 _ h1 hw
      · rcases h5 a ha with h | h
        · omega
        · exact h8 _ h1 h hw

/-- On the way round: how far it is tells where one may go on. -/
theorem way_iff {R : Rl} {g a k j b : Nat} (hk : 1 ≤ k) (h1 : W R j g a) (h2 : ∀ a m, 1 ≤ m → m < j + 1 + k → ¬ W R m a a) (hab : R.has a b = true) : W R k b g ↔ distR R g b = k := by
  constructor
  · intro h
    rcases distR_spec R g b with h3 | ⟨h3, h4, h5⟩
    · exact absurd h (h3.2 k hk)
    · rcases Nat.lt_trichotomy (distR R g b) k with hl | hl | hl
      · have := W_add R (j + 1) (distR R g b) g b g (W_snoc R h1 hab) h4
        exact absurd this (h2 g _ (by omega) (by omega))
      · exact hl
      · exact absurd h (h5 k hk hl)
  · intro h
    rcases distR_spec R g b with h3 | ⟨h3, h4, h5⟩
    · omega
    · rwa [h] at h4
end Go.Proofs.YtocpkgckllbjlaaDoor

/-
  Cycle walked. Own work.
-/
namespace Go.Proofs.YtocpkgckllbjlaaDoor
open Go.AM
set_option maxRecDepth 100000

theorem level_le (R : Rl) (g : Nat) : ∀ n, 1 ≤ n → ∀ x, nxP R g n x → unseen R g (n + 1) + n ≤ 64
  | 1, _, x, hx => by
    have h1 := unseen_64 R g 1
    have := unseen_lt R g 1 (by omega) (Rl.has_lt R hx.2.choose_spec.1).1 hx
    omega
  | n + 2, _, x, hx => by
    obtain ⟨c, hc, _⟩ := (now_step R g (n + 2) x (by omega) hx.1).2 hx.2
    have h1 : unseen R g (n + 2) + (n + 1) ≤ 64 := level_le R g (n + 1) (by omega) c hc
    have h2 : unseen R g (n + 2 + 1) < unseen R g (n + 2) := unseen_lt R g (n + 2) (by omega) (Rl.has_lt R hx.2.choose_spec.1).1 hx
    omega
theorem dist_le (R : Rl) (g b : Nat) : distR R g b ≤ 64 := by
  rcases distR_spec R g b with h | ⟨h1, h2, h3⟩
  · omega
  · have hn : nxP R g (distR R g b) b := by
      refine ⟨?_, h2⟩
      rcases dst_spec R g (distR R g b) b with h | ⟨h4, h5, h6, _⟩
      · exact h.1
      · exact absurd h6 (h3 _ h4 h5)
    have := level_le R g _ h1 b hn
    omega

open Classical in
theorem find_way {R : Rl} {g a k j : Nat} (hk : 1 ≤ k) (h1 : W R j g a) (h2 : ∀ a m, 1 ≤ m → m < j + 1 + k → ¬ W R m a a) :
    (bitsL (R.row a)).find? (fun b => decide (distR R g b = k)) = nxtR R g a k := by
  unfold nxtR bitsL
  rw [List.find?_filter]
  congr 1
  funext b
  rw [Bool.eq_iff_iff]
  simp only [Bool.and_eq_true, decide_eq_true_eq]
  exact ⟨fun ⟨h, e⟩ => ⟨h, (way_iff hk h1 h2 h).2 e⟩, fun ⟨h, e⟩ => ⟨h, (way_iff hk h1 h2 h).1 e⟩⟩

theorem encN_snoc {l : List Nat} {j : Nat} (hl : l.length = j) (x : Nat) : (encN l).take (j * 1) ++ [Value.int .i64 (x : Int)] = encN (l ++ [x]) := by
  rw [Nat.mul_one, List.take_of_length_le (by simp [hl]), encN_append]; rfl

abbrev cy2T (bst a j : Nat) : List (Nat × AV) := [(1, .ptr 0 0), (4, .v (.int .i64 (bst : Int))), (8, .ptr 1 0), (9, .sl 20 1 0 j), (10, .v (.int .i64 (a : Int)))]
abbrev cy2B (R : Rl) (f : Nat → Nat) (l : List Nat) (j : Nat) : List (Nat × Blk) := [(0, .cells 25 [.vals 65 (relV R)]), (1, .cells 88 [.vals 64 (outV f)]), (20, .row 3 1 j (encN l))]

set_option maxHeartbeats 600000 in
open Classical in
theorem cycle_ok (r : Rl) (x : Option (List Nat)) (hx : IsCyc (rightL r) x) (w : World) (hT : TabAt w) (h0 : 0 < w.heap.size) : HandsZ Tryd.prog 57 [encRel r] w (exZ x) (exH x) := by
  refine HandsZ.of_run Tryd.func57 rfl (by show 1 ≤ 77; decide) ?_
  refine RunF_sound tab_ok noX_local 100 [] _ _ rfl ?_ ?_
  · simp [segsVals, relV_one']
  refine Run.callFn noX_local rfl rfl rfl rfl rfl rfl rfl right_enters rfl (fun w' _ => right_ok r w') ?_
  have hR := rt_right r
  generalize rightL r = R at hx hR
  obtain ⟨n, hn⟩ : ∃ n : Nat, R.n = (n : Int) := ⟨R.n.toNat, by have := hR.lo; omega⟩
  have hn64 : n ≤ 64 := by have := hR.hi; omega
  have hfar : ∀ g : Nat, g < 64 → ∀ w', Agree (fun _ => False) w w' → Gives Tryd.prog 88 [encRel R, .int .i64 (g : Int)] w' (.agg (outV (distR R g)).toArray) :=
    fun g hg w' hA => far_ok R hR g hg w' (hT.agree hA (fun f => f)) (Nat.lt_of_lt_of_le h0 hA.size)
  refine RunF_sound tab_ok noX_local 100 [] _ _ rfl ?_ ?_
  · simp [segsVals, relV_one', relV_tail_one]
  suffices H : ∀ (m i b f : Nat), i + m = n → Best R i b f → Run _ _ ⟨[(1, .ptr 0 0), (4, .v (.int .i64 (b : Int))), (5, .v (.int .i64 (f : Int))), (16, .v (.int .i64 (n : Int))), (17, .v (.int .i64 (i : Int)))], [(0, .cells 25 [.vals 65 (relV R)])], 1⟩ by
    refine Run.to (H n 0 0 0 (by omega) (.inl ⟨rfl, fun j hj => absurd hj (Nat.not_lt_zero _)⟩)) ⟨rfl, rfl, rfl, ?_, rfl, trivial⟩ ⟨rfl, trivial⟩
    exact congrArg (fun z : Int => some (AV.v (.int .i64 z))) hn
  intro m
  induction m with
  | zero =>
    intro i b f hi hb
    obtain rfl : i = n := by omega
    rcases b with _ | k
    · obtain rfl : x = none := hx.eq (hb.none hR hn)
      refine RunF_sound tab_ok noX_local 100 [false, true] _ _ rfl ?_ ?_
      · simp
      refine Run.retH tab_ok [] Tryd.func57 rfl ?_ rfl trivial rfl
      simp
    · obtain ⟨hf, h1, h2, h3⟩ := hb.some hR hn
      obtain rfl : x = some (f :: pathR R f f k) := hx.eq (.inr ⟨f, k, rfl, h1, h2, h3⟩)
      have hf64 : f < 64 := by omega
      have hk64 : k + 1 ≤ 64 := by
        have := dist_le R f f
        rwa [distR_at (k := k + 1) (by omega) h1 (fun m hm hl => h2 f m hm hl)] at this
      refine RunF_sound tab_ok noX_local 100 [false, false] _ _ rfl ?_ ?_
      · simp; omega
      refine Run.callFn noX_local rfl rfl rfl rfl rfl rfl rfl far_enters rfl (fun w' hA => hfar f hf64 w' hA) ?_
      have z64 : z88.length = 64 := rfl
      refine RunF_sound tab_ok noX_local 100 [] _ _ rfl ?_ ?_
      · simp [segsVals, z64, outV_one', fillL, Value.cells, splice, repL, maxLen]
      suffices H2 : ∀ (k' a j : Nat) (l : List Nat), l.length = j → j + k' = k + 1 → 1 ≤ j → W R (j - 1) f a → W R (k' + 1) a f → l ++ pathR R f a k' = f :: pathR R f f k →
          Run _ _ ⟨cy2T (k + 1) a j, cy2B R (distR R f) l j, 21⟩ by
        exact Run.toR [(20, 2)] (H2 k f 1 [f] rfl (by omega) (by omega) rfl h1 rfl) ⟨rfl, rfl, rfl, rfl, rfl, trivial⟩ ⟨rfl, rfl, rfl, trivial⟩ rfl
      intro k'
      induction k' with
      | zero =>
        intro a j l hl hj h1j _ _ hpath
        have e : l = f :: pathR R f f k := by rw [← hpath]; simp [pathR]
        have ej : j = (f :: pathR R f f k).length := by rw [← e, hl]
        subst e
        refine RunF_sound tab_ok noX_local 100 [false] _ _ rfl ?_ ?_
        · simp; omega
        refine Run.retH tab_ok [(0, 20)] Tryd.func57 rfl ?_ ?_ ⟨?_, trivial⟩ rfl
        · simp
        · rw [ej]; rfl
        · rw [ej]; rfl
      | succ k' ihk =>
        intro a j l hl hj h1j hwa hwb hpath
        have ha64 : a < 64 := (Rl.has_lt R hwb.choose_spec.1).1
        obtain ⟨b, hb, hb64, hab, hwbb⟩ := nxtR_some R f a (k' + 1) hwb
        have hfind := find_way (R := R) (g := f) (a := a) (k := k' + 1) (j := j - 1) (by omega) hwa (by rw [show j - 1 + 1 + (k' + 1) = k + 1 by omega]; exact h2)
        rw [hb] at hfind
        have hpath' : (l ++ [b]) ++ pathR R f b k' = f :: pathR R f f k := by
          rw [← hpath, pathR, hb]; simp
        refine RunF_sound tab_ok noX_local 100 [true] _ _ rfl ?_ ?_
        · simp [relV_get _ _ ha64, intAt_row _ _ ha64]; omega
        suffices H3 : ∀ (m : Nat) (y : BitVec 64), (bitsL y).length = m → (bitsL y).find? (fun x => decide (distR R f x = k' + 1)) = some b →
            Run _ _ ⟨[(1, .ptr 0 0), (4, .v (.int .i64 ((k + 1 : Nat) : Int))), (8, .ptr 1 0), (9, .sl 20 1 0 j), (10, .v (.int .i64 (a : Int))), (11, .v (.int .u64 (un y)))], cy2B R (distR R f) l j, 21⟩ by
          refine Run.to (H3 _ (R.row a) rfl hfind) ⟨rfl, rfl, rfl, rfl, rfl, ?_, trivial⟩ ⟨rfl, rfl, rfl, trivial⟩
          have e1 : intAt (relV R) (1 + a) = un (R.row a) := intAt_row _ _ ha64
          simp [lk, e1]
        intro m3
        induction m3 with
        | zero =>
          intro y hm hfd
          have : bitsL y = [] := List.length_eq_zero_iff.1 hm
          rw [this] at hfd; cases hfd
        | succ m3 ih3 =>
          intro y hm hfd
          have hy : y ≠ 0#64 := fun h => by rw [h, bitsL_zero] at hm; cases hm
          have hty := tz_lt y hy
          rw [bitsL_cons y hy] at hm hfd
          have hget := outV_get (distR R f) (tz y) hty
          have hgi : intAt (outV (distR R f)) (tz y) = (distR R f (tz y) : Int) := by simp [intAt, hget]
          refine RunF_sound tab_ok noX_local 100 [true] _ _ rfl ?_ ?_
          · simp [hy]
          refine Run.callFn (r := .int .i64 (tz y : Int)) noX_local rfl rfl rfl rfl rfl rfl rfl tz_enters rfl (fun w' hw' => by have := tz_ok y w' (hT.agree hw' (fun f => f)); rwa [tzI, if_neg hy] at this) ?_
          have hsub : IntKind.i64.wrap ((k : Int) + 1 - (j : Int)) = (k' : Int) + 1 := by rw [wrap_i64] <;> omega
          by_cases c : distR R f (tz y) = k' + 1
          · rw [List.find?_cons_of_pos (by simpa using c)] at hfd
            obtain rfl : tz y = b := Option.some.inj hfd
            refine RunF_sound tab_ok noX_local 100 [true] _ _ rfl ?_ ?_
            · simp [hget, hgi, hsub, c, fillL, Value.cells, splice, repL, maxLen, Value.oneCell']
              omega
            refine Run.toR [(20, 22)] (ihk (tz y) (j + 1) (l ++ [tz y]) (by simp [hl]) (by omega) (by omega) (by rw [show j + 1 - 1 = (j - 1) + 1 by omega]; exact W_snoc R hwa hab) hwbb hpath') ⟨rfl, rfl, rfl, rfl, rfl, trivial⟩ ⟨rfl, rfl, ?_, trivial⟩ rfl
            refine congrArg (fun v => some (Blk.row 3 1 (j + 1) v)) ?_
            exact encN_snoc hl (tz y)
          · rw [List.find?_cons_of_neg (by simpa using c)] at hfd
            refine RunF_sound tab_ok noX_local 100 [false] _ _ rfl ?_ ?_
            · simp [hget, hgi, hsub]; omega
            exact Run.to (ih3 (dropLow y) (by simpa using hm) hfd) ⟨rfl, rfl, rfl, rfl, rfl, u64_eq (by rw [sub1_un, band_un]; rfl), trivial⟩ ⟨rfl, rfl, rfl, trivial⟩
  | succ m ih =>
    intro i b f hi hb
    have hi64 : i < 64 := by omega
    refine RunF_sound tab_ok noX_local 100 [true] _ _ rfl ?_ ?_
    · simp; omega
    refine Run.callFn noX_local rfl rfl rfl rfl rfl rfl rfl far_enters rfl (fun w' hA => hfar i hi64 w' hA) ?_
    have hget := outV_get (distR R i) i hi64
    have hgi : intAt (outV (distR R i)) i = (distR R i i : Int) := by simp [intAt, hget]
    by_cases c0 : distR R i i = 0
    · refine RunF_sound tab_ok noX_local 100 [false] _ _ rfl ?_ ?_
      · simp [hget, hgi, c0]; omega
      exact Run.to (ih (i + 1) b f (by omega) (hb.keep (.inl c0))) ⟨rfl, rfl, rfl, rfl, i64_eq (wrap_succ (by omega)), trivial⟩ ⟨rfl, trivial⟩
    · by_cases c1 : b = 0
      · refine RunF_sound tab_ok noX_local 100 [true, true] _ _ rfl ?_ ?_
        · simp [hget, hgi, c1]; omega
        refine Run.to (ih (i + 1) (distR R i i) i (by omega) (hb.take c0 (.inl c1))) ⟨rfl, ?_, rfl, rfl, i64_eq (wrap_succ (by omega)), trivial⟩ ⟨rfl, trivial⟩
        simp [lk, hgi]
      · by_cases c2 : distR R i i < b
        · refine RunF_sound tab_ok noX_local 100 [true, false, true] _ _ rfl ?_ ?_
          · simp [hget, hgi, c1, c2]; omega
          refine Run.to (ih (i + 1) (distR R i i) i (by omega) (hb.take c0 (.inr c2))) ⟨rfl, ?_, rfl, rfl, i64_eq (wrap_succ (by omega)), trivial⟩ ⟨rfl, trivial⟩
          simp [lk, hgi]
        · refine RunF_sound tab_ok noX_local 100 [true, false, false] _ _ rfl ?_ ?_
          · simp [hget, hgi, c1]; omega
          exact Run.to (ih (i + 1) b f (by omega) (hb.keep (.inr ⟨c1, by omega⟩))) ⟨rfl, rfl, rfl, rfl, i64_eq (wrap_succ (by omega)), trivial⟩ ⟨rfl, trivial⟩
theorem cycle_enters : Enters Tryd.prog 57 := enters_mk Tryd.func57 (by decide) rfl
end Go.Proofs.YtocpkgckllbjlaaDoor

/-
  Parts, plain: the classes, each once, by its least member. Own work.
-/
namespace Go.Proofs.YtocpkgckllbjlaaDoor
open Go.AM
set_option maxRecDepth 100000

/-- Both ways. -/
noncomputable def symR (R : Rl) : Rl := twoR 1 (optL (clos R)) (invR (optL (clos R)))
theorem symR_rt {R : Rl} (hR : Rt R) : Rt (symR R) := twoR_rt 1 (optL_rt (clos_rt hR)) (invR_rt (optL_rt (clos_rt hR))) (invR_n _).symm
theorem symR_n {R : Rl} (hR : Rt R) : (symR R).n = R.n := by
  rw [symR, twoR_n 1 (optL_rt (clos_rt hR)) (invR_rt (optL_rt (clos_rt hR))) (invR_n _).symm, optL_n (clos_rt hR), clos_n]
theorem symR_has {R : Rl} (hR : Rt R) (a b : Nat) : (symR R).has a b = true ↔ (a = b ∧ (a : Int) < R.n) ∨ ((clos R).has a b = true ∧ (clos R).has b a = true) := by
  rw [symR, meet_has (optL_rt (clos_rt hR)) (invR_rt (optL_rt (clos_rt hR))) (invR_n _).symm, invR_has, optL_has (clos_rt hR), optL_has (clos_rt hR), clos_n]
  constructor
  · rintro ⟨h1 | h1, h2 | h2⟩
    · exact .inr ⟨h1, h2⟩
    · exact .inl ⟨h2.1.symm, by rw [← h2.1]; exact h2.2⟩
    · exact .inl h1
    · exact .inl h1
  · rintro (⟨rfl, h⟩ | ⟨h1, h2⟩)
    · exact ⟨.inr ⟨rfl, h⟩, .inr ⟨rfl, h⟩⟩
    · exact ⟨.inl h1, .inl h2⟩

/-- An equivalence on the numbers below n. -/
structure Eqv (V : Rl) (n : Nat) : Prop where
  refl : ∀ a, a < n → V.has a a = true
  symm : ∀ a b, V.has a b = true → V.has b a = true
  trans : ∀ a b c, V.has a b = true → V.has b c = true → V.has a c = true
  lt : ∀ a b, V.has a b = true → a < n ∧ b < n
theorem symR_eqv {R : Rl} (hR : Rt R) {n : Nat} (hn : R.n = (n : Int)) : Eqv (symR R) n where
  refl a h := (symR_has hR a a).2 (.inl ⟨rfl, by omega⟩)
  symm a b h := by
    rcases (symR_has hR a b).1 h with ⟨rfl, _⟩ | ⟨h1, h2⟩
    · exact h
    · exact (symR_has hR b a).2 (.inr ⟨h2, h1⟩)
  trans a b c h1 h2 := by
    rcases (symR_has hR a b).1 h1 with ⟨rfl, _⟩ | ⟨h3, h4⟩
    · exact h2
    · rcases (symR_has hR b c).1 h2 with ⟨rfl, _⟩ | ⟨h5, h6⟩
      · exact h1
      · exact (symR_has hR a c).2 (.inr ⟨clos_trans hR _ _ _ h3 h5, clos_trans hR _ _ _ h6 h4⟩)
  lt a b h := by
    have := (symR_rt hR).lt _ _ h
    rw [symR_n hR] at this
    omega

/-- Is it the least of its class? -/
def leadB (V : Rl) (v : Nat) : Bool := (List.range v).all fun u => !V.has u v
theorem leadB_iff (V : Rl) (v : Nat) : leadB V v = true ↔ ∀ u, u < v → V.has u v = false := by
  simp [leadB]
/-- The classes of those below i. -/
def partsU (V : Rl) (i : Nat) : List (BitVec 64) := ((List.range i).filter (leadB V)).map V.row
theorem partsU_succ (V : Rl) (i : Nat) : partsU V (i + 1) = partsU V i ++ if leadB V i then [V.row i] else [] := by
  unfold partsU
  rw [List.range_succ, List.filter_append, List.map_append]
  congr 1
  cases h : leadB V i <;> simp [h]
theorem partsU_len (V : Rl) (i : Nat) : (partsU V i).length ≤ i := by
  unfold partsU
  rw [List.length_map]
  exact Nat.le_trans (List.length_filter_le _ _) (by simp)

/-- Who is in the classes so far. -/
def Seen (V : Rl) (i : Nat) (d : BitVec 64) : Prop := ∀ v, d.getLsbD v = true ↔ ∃ u, u < i ∧ V.has u v = true
theorem Seen.iff {V : Rl} {i : Nat} {d : BitVec 64} (h : Seen V i d) (v : Nat) : d.getLsbD v = true ↔ ∃ u, u < i ∧ V.has u v = true := h v
theorem seen_zero (V : Rl) : Seen V 0 0#64 := fun v => by
  rw [BitVec.getLsbD_zero]
  exact ⟨fun h => (by cases h), fun ⟨u, h, _⟩ => absurd h (Nat.not_lt_zero _)⟩
theorem Seen.lead {V : Rl} {i : Nat} {d : BitVec 64} (h : Seen V i d) : leadB V i = !d.getLsbD i := by
  cases hd : d.getLsbD i with
  | true =>
    obtain ⟨u, h1, h2⟩ := (h.iff i).1 hd
    cases hl : leadB V i with
    | false => rfl
    | true => rw [(leadB_iff V i).1 hl u h1] at h2; cases h2
  | false =>
    refine (leadB_iff V i).2 fun u hu => ?_
    cases hv : V.has u i with
    | false => rfl
    | true => rw [(h.iff i).2 ⟨u, hu, hv⟩] at hd; cases hd
theorem Seen.skip {V : Rl} {n i : Nat} {d : BitVec 64} (hV : Eqv V n) (h : Seen V i d) (hi : d.getLsbD i = true) : Seen V (i + 1) d := fun v => by
  rw [h.iff]
  constructor
  · rintro ⟨u, h1, h2⟩; exact ⟨u, by omega, h2⟩
  · rintro ⟨u, h1, h2⟩
    rcases Nat.lt_or_ge u i with hl | hl
    · exact ⟨u, hl, h2⟩
    · obtain rfl : u = i := by omega
      obtain ⟨x, h3, h4⟩ := (h.iff u).1 hi
      exact ⟨x, h3, hV.trans _ _ _ h4 h2⟩
theorem Seen.take {V : Rl} {i : Nat} {d : BitVec 64} (h : Seen V i d) : Seen V (i + 1) (d ||| V.row i) := fun v => by
  rw [BitVec.getLsbD_or, Bool.or_eq_true, h.iff]
  constructor
  · rintro (⟨u, h1, h2⟩ | h2)
    · exact ⟨u, by omega, h2⟩
    · exact ⟨i, by omega, h2⟩
  · rintro ⟨u, h1, h2⟩
    rcases Nat.lt_or_ge u i with hl | hl
    · exact .inl ⟨u, hl, h2⟩
    · obtain rfl : u = i := by omega
      exact .inr h2

def encW (l : List (BitVec 64)) : List Value := l.map fun x => Value.int .u64 (un x)
@[simp] theorem encW_length (l : List (BitVec 64)) : (encW l).length = l.length := by simp [encW]
theorem encW_append (l m : List (BitVec 64)) : encW (l ++ m) = encW l ++ encW m := by simp [encW]
/-- A list of sets, as a slice: nothing, or a row. -/
def pZ : List (BitVec 64) → AV
  | [] => .v (.slice none 0 0)
  | l => .sl 20 1 0 l.length
def pH : List (BitVec 64) → List (Nat × Blk)
  | [] => []
  | l => [(20, .row 37 1 l.length (encW l))]
noncomputable def partsL (r : Rl) : List (BitVec 64) := partsU (symR (rightL r)) (rightL r).n.toNat
end Go.Proofs.YtocpkgckllbjlaaDoor

/-
  Parts walked. Own work.
-/
namespace Go.Proofs.YtocpkgckllbjlaaDoor
open Go.AM
set_option maxRecDepth 100000

theorem bit_eq0 (x : BitVec 64) (b : Int) : (band .u64 (shrI .u64 (un x) b) 1 == 0) = !x.getLsbD b.toNat := by
  rw [shr_un, Bool.eq_iff_iff, beq_iff_eq, bit0 x b.toNat]
  simp

theorem encW_snoc {l : List (BitVec 64)} {j : Nat} (hl : l.length = j) (x : BitVec 64) : (encW l).take (j * 1) ++ [Value.int .u64 (un x)] = encW (l ++ [x]) := by
  rw [Nat.mul_one, List.take_of_length_le (by simp [hl]), encW_append]; rfl
theorem pZ_cons (x : BitVec 64) (l : List (BitVec 64)) : pZ (x :: l) = .sl 20 1 0 (l.length + 1) := rfl

theorem parts_ok (r : Rl) (w : World) (hT : TabAt w) (h0 : 0 < w.heap.size) : HandsZ Tryd.prog 59 [encRel r] w (pZ (partsL r)) (pH (partsL r)) := by
  refine HandsZ.of_run Tryd.func59 rfl (by show 1 ≤ 39; decide) ?_
  have hR := rt_right r
  have k0 : ∀ w', Gives Tryd.prog 36 [encRel r] w' (encRel (optL (clos (rightL r)))) := fun w' => star_ok r w'
  have hV : ∀ n : Nat, (rightL r).n = (n : Int) → Eqv (symR (rightL r)) n := fun n hn => symR_eqv hR hn
  have hVn := symR_n hR
  have hS := optL_rt (clos_rt hR)
  have hp : partsL r = partsU (symR (rightL r)) (rightL r).n.toNat := rfl
  have hsym : symR (rightL r) = twoR 1 (optL (clos (rightL r))) (invR (optL (clos (rightL r)))) := rfl
  rw [hp]
  obtain ⟨n, hn⟩ : ∃ n : Nat, (rightL r).n = (n : Int) := ⟨(rightL r).n.toNat, by have := hR.lo; omega⟩
  have hn64 : n ≤ 64 := by have := hR.hi; omega
  replace hV := hV n hn
  rw [hn, Int.toNat_natCast]
  rw [hn] at hVn
  clear hp
  generalize symR (rightL r) = V at *
  generalize optL (clos (rightL r)) = S at *
  obtain ⟨I, hI⟩ : ∃ I, I = invR S := ⟨_, rfl⟩
  have k1 : ∀ w', Agree (fun _ => False) w w' → Gives Tryd.prog 26 [encRel S] w' (encRel I) := fun w' hA => by
    rw [hI]; exact inverseT hS w' (hT.agree hA (fun f => f)) (Nat.lt_of_lt_of_le h0 hA.size)
  have k2 : ∀ w', Gives Tryd.prog 23 [encRel S, encRel I] w' (encRel V) := fun w' => by
    rw [hsym, ← hI]; exact meetT S I w'
  refine RunF_sound tab_ok noX_local 100 [] _ _ rfl ?_ ?_
  · simp
  refine Run.callFn noX_local rfl rfl rfl rfl rfl rfl rfl star_enters rfl (fun w' _ => k0 w') ?_
  refine Run.to (t' := [(1, .ptr 0 0), (9, .v (encRel S))]) (h' := [(0, .cells 25 [.vals 65 (relV r)])]) (n' := 1) ?_ ⟨rfl, rfl, trivial⟩ ⟨rfl, trivial⟩
  refine RunF_sound tab_ok noX_local 100 [] _ _ rfl ?_ ?_
  · simp [segsVals, relV_one']
  refine' Run.join (todo' := _) [(4, .ptr 2 0)] [(2, .cells 25 [.vals 65 (relV V)])] 3 ?_ ?_
  rotate_left
  · intro J
    refine Run.drawF2 noX_local rfl 4 2 3 rfl rfl [] [(1, .cells 25 [.vals 65 (relV S)])] rfl rfl rfl rfl rfl rfl ⟨rfl, trivial⟩ ?_ ?_ ?_
    · refine RunOF_sound tab_ok noX_local rfl rfl 200 [] _ _ rfl ?_ ?_
      · simp [inT, lk]
      refine RunO.callFn noX_local rfl rfl rfl rfl rfl rfl rfl rfl inverse_enters rfl (fun w' hA => k1 w' hA) ?_
      refine RunOF_sound tab_ok noX_local rfl rfl 200 [] _ _ rfl ?_ ?_
      · simp
      refine RunO.callFn noX_local rfl rfl rfl rfl rfl rfl rfl rfl meet_enters rfl (fun w' _ => k2 w') ?_
      refine RunOF_sound tab_ok noX_local rfl rfl 200 [] _ _ rfl ?_ ?_
      · simp [inT, lk, segsVals, relV_one']
      refine RunO.done ?_
      refine J _ ?_ ?_
      · exact ⟨⟨_, rfl, fun M => rfl⟩, trivial⟩
      · refine ⟨?_, trivial⟩; simp [lk]
    · refine RunOF_sound tab_ok noX_local rfl rfl 200 [] _ _ rfl ?_ ?_
      · simp
      refine RunO.callFn noX_local rfl rfl rfl rfl rfl rfl rfl rfl inverse_enters rfl (fun w' hA => k1 w' hA) ?_
      refine RunOF_sound tab_ok noX_local rfl rfl 200 [] _ _ rfl ?_ ?_
      · simp [inT, lk]
      refine RunO.callFn noX_local rfl rfl rfl rfl rfl rfl rfl rfl meet_enters rfl (fun w' _ => k2 w') ?_
      refine RunOF_sound tab_ok noX_local rfl rfl 200 [] _ _ rfl ?_ ?_
      · simp [inT, lk, segsVals, relV_one']
      refine RunO.done ?_
      refine J _ ?_ ?_
      · exact ⟨⟨_, rfl, fun M => rfl⟩, trivial⟩
      · refine ⟨?_, trivial⟩; simp [lk]
    · refine RunOF_sound tab_ok noX_local rfl rfl 200 [] _ _ rfl ?_ ?_
      · simp
      refine RunO.callFn noX_local rfl rfl rfl rfl rfl rfl rfl rfl inverse_enters rfl (fun w' hA => k1 w' hA) ?_
      refine RunOF_sound tab_ok noX_local rfl rfl 200 [] _ _ rfl ?_ ?_
      · simp
      refine RunO.callFn noX_local rfl rfl rfl rfl rfl rfl rfl rfl meet_enters rfl (fun w' _ => k2 w') ?_
      refine RunOF_sound tab_ok noX_local rfl rfl 200 [] _ _ rfl ?_ ?_
      · simp [inT, lk, segsVals, relV_one']
      refine RunO.done ?_
      refine J _ ?_ ?_
      · exact ⟨⟨_, rfl, fun M => rfl⟩, trivial⟩
      · refine ⟨?_, trivial⟩; simp [lk]
  clear k0 k1 k2 hsym hI hS
  refine RunF_sound tab_ok noX_local 100 [] _ _ rfl ?_ ?_
  · simp
  suffices H : ∀ (m i : Nat) (d : BitVec 64) (l : List (BitVec 64)), i + m = n → Seen V i d → l = partsU V i →
      Run _ _ ⟨[(4, .ptr 2 0), (5, .v (.int .u64 (un d))), (6, pZ l), (15, .v (.int .i64 (n : Int))), (16, .v (.int .i64 (i : Int)))], (2, .cells 25 [.vals 65 (relV V)]) :: pH l, 21⟩ by
    refine Run.to (H n 0 0#64 [] (by omega) (seen_zero V) rfl) ⟨rfl, rfl, rfl, ?_, rfl, trivial⟩ ⟨rfl, trivial⟩
    exact congrArg (fun z : Int => some (AV.v (.int .i64 z))) hVn
  intro m
  induction m with
  | zero =>
    intro i d l hi hd hl
    obtain rfl : i = n := by omega
    rw [← hl]
    rcases l with _ | ⟨x, l⟩
    · refine RunF_sound tab_ok noX_local 100 [false] _ _ rfl ?_ ?_
      · simp
      refine Run.retH tab_ok [] Tryd.func59 rfl ?_ rfl trivial rfl
      simp
    · refine RunF_sound tab_ok noX_local 100 [false] _ _ rfl ?_ ?_
      · simp
      refine Run.retH tab_ok [(20, 20)] Tryd.func59 rfl ?_ rfl ⟨rfl, trivial⟩ rfl
      simp
  | succ m ih =>
    intro i d l hi hd hl
    have hi64 : i < 64 := by omega
    have hb := bit_eq0 d (i : Int)
    rw [Int.toNat_natCast, shr_un, Int.toNat_natCast] at hb
    have hlead := hd.lead
    have hll : l.length ≤ i := by rw [hl]; exact partsU_len V i
    cases hbit : d.getLsbD i with
    | true =>
      rw [hbit] at hb hlead
      have hb0 : ¬ band .u64 (un (d >>> i)) 1 = 0 := by simpa using hb
      have hl' : l = partsU V (i + 1) := by rw [partsU_succ, hlead, hl]; simp
      have step := ih (i + 1) d l (by omega) (hd.skip hV hbit) hl'
      rcases l with _ | ⟨x, l⟩
      · refine RunF_sound tab_ok noX_local 100 [true, false] _ _ rfl ?_ ?_
        · simp [hb0]; omega
        exact Run.to step ⟨rfl, rfl, rfl, rfl, i64_eq (wrap_succ (by omega)), trivial⟩ ⟨rfl, trivial⟩
      · refine RunF_sound tab_ok noX_local 100 [true, false] _ _ rfl ?_ ?_
        · simp [hb0]; omega
        exact Run.to step ⟨rfl, rfl, rfl, rfl, i64_eq (wrap_succ (by omega)), trivial⟩ ⟨rfl, rfl, trivial⟩
    | false =>
      rw [hbit] at hb hlead
      have hb0 : band .u64 (un (d >>> i)) 1 = 0 := by simpa using hb
      have hl' : l ++ [V.row i] = partsU V (i + 1) := by rw [partsU_succ, hlead, hl]; simp
      have step := ih (i + 1) (d ||| V.row i) (l ++ [V.row i]) (by omega) hd.take hl'
      have eg := relV_get V i hi64
      have ei := intAt_row V i hi64
      have ei' : intAt (relV V) (0 + 1 - 0 + ((i : Nat) : Int).toNat * 1) = un (V.row i) := by rw [show 0 + 1 - 0 + ((i : Nat) : Int).toNat * 1 = 1 + i by simp]; exact ei
      rcases l with _ | ⟨x, l⟩
      · refine RunF_sound tab_ok noX_local 100 [true, true] _ _ rfl ?_ ?_
        · simp [hb0, eg, ei, fillL, Value.cells, splice, repL, maxLen, Value.oneCell']; omega
        refine Run.toR [(20, 22)] step ⟨rfl, u64_eq ?_, rfl, rfl, i64_eq (wrap_succ (by omega)), trivial⟩ ⟨rfl, ?_, trivial⟩ rfl
        · simp [ei, bor_un]
        · show _ = some (Blk.row 37 1 1 [Value.int .u64 (un (V.row i))])
          simp only [ei']; rfl
      · refine RunF_sound tab_ok noX_local 100 [true, true] _ _ rfl ?_ ?_
        · simp [hb0, eg, ei, fillL, Value.cells, splice, repL, maxLen, Value.oneCell']; simp at hll; omega
        refine Run.toR [(20, 22)] step ⟨rfl, u64_eq ?_, ?_, rfl, i64_eq (wrap_succ (by omega)), trivial⟩ ⟨rfl, ?_, trivial⟩ rfl
        · simp [ei, bor_un]
        · refine congrArg (fun k => some (AV.sl 22 1 0 k)) ?_
          simp
        · have e2 : (x :: l ++ [V.row i]).length = l.length + 1 + 1 := by simp
          show _ = some (Blk.row 37 1 (x :: l ++ [V.row i]).length (encW (x :: l ++ [V.row i])))
          rw [e2, ← encW_snoc (j := l.length + 1) rfl]; simp only [ei']; rfl
theorem parts_enters : Enters Tryd.prog 59 := enters_mk Tryd.func59 (by decide) rfl
end Go.Proofs.YtocpkgckllbjlaaDoor

/-
  The reference's Parts. Own work.
-/
namespace Go.Proofs.YtocpkgckllbjlaaDoor
open Go.AM
set_option maxRecDepth 100000

/-- The members of i's class below j. -/
def Mem (V : Rl) (i j : Nat) (x : BitVec 64) : Prop := ∀ v, x.getLsbD v = true ↔ v < j ∧ V.has i v = true
/-- None of them lies below i. -/
def Low (V : Rl) (i j : Nat) (b : Bool) : Prop := b = true ↔ ∀ v, v < j → V.has i v = true → i ≤ v
theorem mem_zero (V : Rl) (i : Nat) : Mem V i 0 0#64 := fun v => by
  rw [BitVec.getLsbD_zero]
  exact ⟨fun h => (by cases h), fun h => absurd h.1 (Nat.not_lt_zero _)⟩
theorem low_zero (V : Rl) (i : Nat) : Low V i 0 true := ⟨fun _ _ h => absurd h (Nat.not_lt_zero _), fun _ => rfl⟩
theorem Mem.skip {V : Rl} {i j : Nat} {x : BitVec 64} (h : Mem V i j x) (hv : ¬ V.has i j = true) : Mem V i (j + 1) x := fun v => by
  rw [h v]
  constructor
  · rintro ⟨h1, h2⟩; exact ⟨by omega, h2⟩
  · rintro ⟨h1, h2⟩
    refine ⟨?_, h2⟩
    rcases Nat.lt_or_ge v j with hl | hl
    · exact hl
    · obtain rfl : v = j := by omega
      exact absurd h2 hv
theorem Low.skip {V : Rl} {i j : Nat} {b : Bool} (h : Low V i j b) (hv : ¬ V.has i j = true) : Low V i (j + 1) b := by
  unfold Low at *
  rw [h]
  constructor
  · intro h1 v h2 h3
    rcases Nat.lt_or_ge v j with hl | hl
    · exact h1 v hl h3
    · obtain rfl : v = j := by omega
      exact absurd h3 hv
  · intro h1 v h2 h3; exact h1 v (by omega) h3
theorem Mem.take {V : Rl} {i j : Nat} {x : BitVec 64} (h : Mem V i j x) (hj : j < 64) (hv : V.has i j = true) : Mem V i (j + 1) (x ||| 1#64 <<< j) := fun v => by
  rw [BitVec.getLsbD_or, Bool.or_eq_true, h v, one_shl_get j v hj, decide_eq_true_eq]
  constructor
  · rintro (⟨h1, h2⟩ | rfl)
    · exact ⟨by omega, h2⟩
    · exact ⟨by omega, hv⟩
  · rintro ⟨h1, h2⟩
    rcases Nat.lt_or_ge v j with hl | hl
    · exact .inl ⟨hl, h2⟩
    · exact .inr (by omega)
theorem Low.take {V : Rl} {i j : Nat} {b : Bool} (h : Low V i j b) (hv : V.has i j = true) : Low V i (j + 1) (b && decide (i ≤ j)) := by
  unfold Low at *
  rw [Bool.and_eq_true, h, decide_eq_true_eq]
  constructor
  · rintro ⟨h1, h4⟩ v h2 h3
    rcases Nat.lt_or_ge v j with hl | hl
    · exact h1 v hl h3
    · obtain rfl : v = j := by omega
      exact h4
  · intro h1; exact ⟨fun v h2 h3 => h1 v (by omega) h3, h1 j (by omega) hv⟩
theorem Mem.done {V : Rl} {n i : Nat} {x : BitVec 64} (hV : Eqv V n) (h : Mem V i n x) : x = V.row i := by
  apply BitVec.eq_of_getLsbD_eq
  intro v _
  rw [Bool.eq_iff_iff, h v]
  exact ⟨fun h => h.2, fun h => ⟨(hV.lt _ _ h).2, h⟩⟩
theorem Low.done {V : Rl} {n i : Nat} {b : Bool} (hV : Eqv V n) (h : Low V i n b) : leadB V i = b := by
  unfold Low at h
  rw [Bool.eq_iff_iff, leadB_iff, h]
  constructor
  · intro h1 v h2 h3
    rcases Nat.lt_or_ge v i with hl | hl
    · have := h1 v hl
      rw [hV.symm _ _ h3] at this; cases this
    · exact hl
  · intro h1 u hu
    cases hv : V.has u i with
    | false => rfl
    | true =>
      have := h1 u (hV.lt _ _ hv).1 (hV.symm _ _ hv)
      omega

abbrev prT (i : Nat) (l : List (BitVec 64)) (x : BitVec 64) (b : Bool) (j : Nat) : List (Nat × AV) := [(3, .ptr 1 0), (4, pZ l), (5, .v (.int .i64 (i : Int))), (6, .v (.int .u64 (un x))), (7, .v (.bool b)), (8, .v (.int .i64 (j : Int)))]

set_option maxHeartbeats 800000 in
theorem partsR_ok (r : Rl) (w : World) : HandsZ Tryd.prog 60 [encRel r] w (pZ (partsL r)) (pH (partsL r)) := by
  refine HandsZ.of_run Tryd.func60 rfl (by show 1 ≤ 54; decide) ?_
  have hR := rt_right r
  have k0 : ∀ w', Gives Tryd.prog 35 [encRel r] w' (encRel (clos (rightL r))) := fun w' => plusR_ok r w'
  have hV : ∀ n : Nat, (rightL r).n = (n : Int) → Eqv (symR (rightL r)) n := fun n hn => symR_eqv hR hn
  have hP := clos_rt hR
  have hPn := clos_n (rightL r)
  have hsym := symR_has hR
  have hp : partsL r = partsU (symR (rightL r)) (rightL r).n.toNat := rfl
  rw [hp]
  obtain ⟨n, hn⟩ : ∃ n : Nat, (rightL r).n = (n : Int) := ⟨(rightL r).n.toNat, by have := hR.lo; omega⟩
  have hn64 : n ≤ 64 := by have := hR.hi; omega
  replace hV := hV n hn
  rw [hn, Int.toNat_natCast]
  rw [hn] at hPn hsym
  clear hp
  generalize symR (rightL r) = V at *
  generalize clos (rightL r) = P at *
  have hP2 : 0 ≤ P.n ∧ P.n ≤ 64 := ⟨hP.lo, hP.hi⟩
  refine RunF_sound tab_ok noX_local 100 [] _ _ rfl ?_ ?_
  · simp
  refine Run.callFn noX_local rfl rfl rfl rfl rfl rfl rfl plusR_enters rfl (fun w' _ => k0 w') ?_
  refine Run.to (t' := [(1, .ptr 0 0), (10, .v (encRel P))]) (h' := [(0, .cells 25 [.vals 65 (relV r)])]) (n' := 1) ?_ ⟨rfl, rfl, trivial⟩ ⟨rfl, trivial⟩
  refine RunF_sound tab_ok noX_local 100 [] _ _ rfl ?_ ?_
  · simp [segsVals, relV_one']
  suffices H : ∀ (m i : Nat) (l : List (BitVec 64)), i + m = n → l = partsU V i →
      Run _ _ ⟨[(3, .ptr 1 0), (4, pZ l), (5, .v (.int .i64 (i : Int)))], (1, .cells 25 [.vals 65 (relV P)]) :: pH l, 21⟩ by
    exact Run.to (H n 0 [] (by omega) rfl) ⟨rfl, rfl, rfl, trivial⟩ ⟨rfl, trivial⟩
  intro m
  induction m with
  | zero =>
    intro i l hi hl
    obtain rfl : i = n := by omega
    rw [← hl]
    rcases l with _ | ⟨x, l⟩
    · refine RunF_sound tab_ok noX_local 100 [false] _ _ rfl ?_ ?_
      · simp [hPn]
      refine Run.retH tab_ok [] Tryd.func60 rfl ?_ rfl trivial rfl
      simp
    · refine RunF_sound tab_ok noX_local 100 [false] _ _ rfl ?_ ?_
      · simp [hPn]
      refine Run.retH tab_ok [(20, 20)] Tryd.func60 rfl ?_ rfl ⟨rfl, trivial⟩ rfl
      simp
  | succ m ih =>
    intro i l hi hl
    have hi64 : i < 64 := by omega
    have hll : l.length ≤ i := by rw [hl]; exact partsU_len V i
    have hin : (i : Int) < P.n := by omega
    refine RunF_sound tab_ok noX_local 100 [true] _ _ rfl ?_ ?_
    · simp [hPn]; omega
    suffices H2 : ∀ (e j : Nat) (x : BitVec 64) (b : Bool), j + e = n → Mem V i j x → Low V i j b →
        Run _ _ ⟨prT i l x b j, (1, .cells 25 [.vals 65 (relV P)]) :: pH l, 21⟩ by
      have := H2 n 0 0#64 true (by omega) (mem_zero V i) (low_zero V i)
      rcases l with _ | ⟨x, l⟩
      · exact Run.toC this ⟨inTC_same rfl, inTC_same rfl, inTC_same rfl, inTC_same rfl, ⟨_, rfl, fun M => rfl⟩, inTC_same rfl, trivial⟩ ⟨rfl, trivial⟩
      · exact Run.toC this ⟨inTC_same rfl, inTC_same rfl, inTC_same rfl, inTC_same rfl, ⟨_, rfl, fun M => rfl⟩, inTC_same rfl, trivial⟩ ⟨rfl, rfl, trivial⟩
    intro e
    induction e with
    | zero =>
      intro j x b hj hm hlo
      obtain rfl : j = n := by omega
      obtain rfl := hm.done hV
      have hlead := hlo.done hV
      cases b with
      | false =>
        have hl' : l = partsU V (i + 1) := by rw [partsU_succ, hlead, hl]; simp
        have step := ih (i + 1) l (by omega) hl'
        rcases l with _ | ⟨x, l⟩
        · refine RunF_sound tab_ok noX_local 100 [false, false] _ _ rfl ?_ ?_
          · simp [hPn]
          exact Run.to step ⟨rfl, rfl, i64_eq (wrap_succ (by omega)), trivial⟩ ⟨rfl, trivial⟩
        · refine RunF_sound tab_ok noX_local 100 [false, false] _ _ rfl ?_ ?_
          · simp [hPn]
          exact Run.to step ⟨rfl, rfl, i64_eq (wrap_succ (by omega)), trivial⟩ ⟨rfl, rfl, trivial⟩
      | true =>
        have hl' : l ++ [V.row i] = partsU V (i + 1) := by rw [partsU_succ, hlead, hl]; simp
        have step := ih (i + 1) (l ++ [V.row i]) (by omega) hl'
        rcases l with _ | ⟨x, l⟩
        · refine RunF_sound tab_ok noX_local 100 [false, true] _ _ rfl ?_ ?_
          · simp [hPn, fillL, Value.cells, splice, repL, maxLen, Value.oneCell']
          exact Run.toR [(20, 22)] step ⟨rfl, rfl, i64_eq (wrap_succ (by omega)), trivial⟩ ⟨rfl, rfl, trivial⟩ rfl
        · refine RunF_sound tab_ok noX_local 100 [false, true] _ _ rfl ?_ ?_
          · simp [hPn, fillL, Value.cells, splice, repL, maxLen, Value.oneCell']; simp at hll; omega
          refine Run.toR [(20, 22)] step ⟨rfl, ?_, i64_eq (wrap_succ (by omega)), trivial⟩ ⟨rfl, ?_, trivial⟩ rfl
          · refine congrArg (fun k => some (AV.sl 22 1 0 k)) ?_
            simp
          · have e2 : (x :: l ++ [V.row i]).length = l.length + 1 + 1 := by simp
            show _ = some (Blk.row 37 1 (x :: l ++ [V.row i]).length (encW (x :: l ++ [V.row i])))
            rw [e2, ← encW_snoc (j := l.length + 1) rfl]; rfl
    | succ e ihe =>
      intro j x b hj hm hlo
      have hj64 : j < 64 := by omega
      have hjn : (j : Int) < P.n := by omega
      have hI : hasI P i j = P.has i j := hasI_in hin hjn
      have hJ : hasI P j i = P.has j i := hasI_in hjn hin
      have hvs := hsym i j
      by_cases c : i = j
      · subst c
        have hv : V.has i i = true := hvs.2 (.inl ⟨rfl, by omega⟩)
        have step := ihe (i + 1) _ _ (by omega) (hm.take hi64 hv) (hlo.take hv)
        cases b with
        | true =>
          refine RunF_sound tab_ok noX_local 200 [true, true, true] _ _ rfl ?_ ?_
          · simp [hPn]; omega
          refine Run.toC step ⟨inTC_same rfl, inTC_same rfl, inTC_same rfl, inTC_same (u64_eq (by rw [shl1_un, bor_un, Int.toNat_natCast])), ⟨_, rfl, fun M => ?_⟩, inTC_same (i64_eq (wrap_succ (by omega))), trivial⟩ ?_
          · simp [conc]
          · rcases l with _ | ⟨x, l⟩
            · exact ⟨rfl, trivial⟩
            · exact ⟨rfl, rfl, trivial⟩
        | false =>
          refine RunF_sound tab_ok noX_local 200 [true, true, false] _ _ rfl ?_ ?_
          · simp [hPn]; omega
          refine Run.toC step ⟨inTC_same rfl, inTC_same rfl, inTC_same rfl, inTC_same (u64_eq (by rw [shl1_un, bor_un, Int.toNat_natCast])), ⟨_, rfl, fun M => ?_⟩, inTC_same (i64_eq (wrap_succ (by omega))), trivial⟩ ?_
          · simp [conc]
          · rcases l with _ | ⟨x, l⟩
            · exact ⟨rfl, trivial⟩
            · exact ⟨rfl, rfl, trivial⟩
      · refine RunF_sound tab_ok noX_local 200 [true, false] _ _ rfl ?_ ?_
        · simp [hPn]; omega
        refine Run.callFn noX_local rfl rfl rfl rfl rfl rfl rfl hasR_enters rfl (fun w' _ => hasR_ok P hP2 i j w') ?_
        rw [hI]
        by_cases c1 : P.has i j = true
        · refine RunF_sound tab_ok noX_local 200 [true] _ _ rfl ?_ ?_
          · simp [c1]
          refine Run.callFn noX_local rfl rfl rfl rfl rfl rfl rfl hasR_enters rfl (fun w' _ => hasR_ok P hP2 j i w') ?_
          rw [hJ]
          by_cases c2 : P.has j i = true
          · have hv : V.has i j = true := hvs.2 (.inr ⟨c1, c2⟩)
            have step := ihe (j + 1) _ _ (by omega) (hm.take hj64 hv) (hlo.take hv)
            cases b with
            | true =>
              refine RunF_sound tab_ok noX_local 200 [true, true] _ _ rfl ?_ ?_
              · simp [c2]
              refine Run.toC step ⟨inTC_same rfl, inTC_same rfl, inTC_same rfl, inTC_same (u64_eq (by rw [shl1_un, bor_un, Int.toNat_natCast])), ⟨_, rfl, fun M => ?_⟩, inTC_same (i64_eq (wrap_succ (by omega))), trivial⟩ ?_
              · simp [conc]
              · rcases l with _ | ⟨x, l⟩
                · exact ⟨rfl, trivial⟩
                · exact ⟨rfl, rfl, trivial⟩
            | false =>
              refine RunF_sound tab_ok noX_local 200 [true, false] _ _ rfl ?_ ?_
              · simp [c2]
              refine Run.toC step ⟨inTC_same rfl, inTC_same rfl, inTC_same rfl, inTC_same (u64_eq (by rw [shl1_un, bor_un, Int.toNat_natCast])), ⟨_, rfl, fun M => ?_⟩, inTC_same (i64_eq (wrap_succ (by omega))), trivial⟩ ?_
              · simp [conc]
              · rcases l with _ | ⟨x, l⟩
                · exact ⟨rfl, trivial⟩
                · exact ⟨rfl, rfl, trivial⟩
          · have hv : ¬ V.has i j = true := fun h => by
              rcases hvs.1 h with h | h
              · exact c h.1
              · exact c2 h.2
            refine RunF_sound tab_ok noX_local 200 [false] _ _ rfl ?_ ?_
            · simpa using c2
            refine Run.to (ihe (j + 1) _ _ (by omega) (hm.skip hv) (hlo.skip hv)) ⟨rfl, rfl, rfl, rfl, rfl, i64_eq (wrap_succ (by omega)), trivial⟩ ?_
            rcases l with _ | ⟨x, l⟩
            · exact ⟨rfl, trivial⟩
            · exact ⟨rfl, rfl, trivial⟩
        · have hv : ¬ V.has i j = true := fun h => by
            rcases hvs.1 h with h | h
            · exact c h.1
            · exact c1 h.1
          refine RunF_sound tab_ok noX_local 200 [false] _ _ rfl ?_ ?_
          · simpa using c1
          refine Run.to (ihe (j + 1) _ _ (by omega) (hm.skip hv) (hlo.skip hv)) ⟨rfl, rfl, rfl, rfl, rfl, i64_eq (wrap_succ (by omega)), trivial⟩ ?_
          rcases l with _ | ⟨x, l⟩
          · exact ⟨rfl, trivial⟩
          · exact ⟨rfl, rfl, trivial⟩
theorem partsR_enters : Enters Tryd.prog 60 := enters_mk Tryd.func60 (by decide) rfl
end Go.Proofs.YtocpkgckllbjlaaDoor

/-
  Relations in a row; the steps of the reference's Cycle, plain. Own work.
-/
namespace Go.Proofs.YtocpkgckllbjlaaDoor
open Go.AM
set_option maxRecDepth 100000

/-! ### Relations in a row -/

def relsV (L : List Rl) : List Value := L.flatMap relV
theorem relsV_cons (R : Rl) (L : List Rl) : relsV (R :: L) = relV R ++ relsV L := rfl
theorem relsV_app (L M : List Rl) : relsV (L ++ M) = relsV L ++ relsV M := by simp [relsV]
theorem relV_len (R : Rl) : (relV R).length = 65 := relV_length R
theorem relsV_len : ∀ L : List Rl, (relsV L).length = L.length * 65
  | [] => rfl
  | R :: L => by rw [relsV_cons, List.length_append, relV_len, relsV_len L, List.length_cons]; omega
theorem relsV_drop : ∀ (L : List Rl) (k : Nat) (h : k < L.length), ((relsV L).drop (k * 65)).take 65 = relV L[k]
  | R :: L, 0, h => by
    rw [relsV_cons, Nat.zero_mul, List.drop_zero, List.take_append_of_le_length (by rw [relV_len]; exact Nat.le_refl _), List.take_of_length_le (by rw [relV_len]; exact Nat.le_refl _)]; rfl
  | R :: L, k + 1, h => by
    rw [relsV_cons, List.drop_append, List.drop_eq_nil_of_le (by rw [relV_len]; omega), List.nil_append, relV_len, show (k + 1) * 65 - 65 = k * 65 by omega, relsV_drop L k (by simpa using h)]; rfl
theorem relsV_get (L : List Rl) (k j : Nat) (h : k < L.length) (hj : j < 65) : (relsV L)[k * 65 + j]? = (relV L[k])[j]? := by
  rw [← relsV_drop L k h, List.getElem?_take_of_lt hj, List.getElem?_drop]

/-- A slice of relations, as it lies in a world. -/
def SeesR (w : World) (p : Option Addr) (L : List Rl) : Prop :=
  ∀ i (h : i < L.length), p = some (p.getD default) ∧ extCells w ((p.getD default).add (i * 65)) 0 65 = relV L[i] ∧ ∀ j, j < 65 → (w.cell? (((p.getD default).add (i * 65)).add j)).isSome

theorem extCells_of (w : World) (a : Addr) : ∀ (n j : Nat) (l : List Value), l.length = n → (∀ k, k < n → w.cell? (a.add (j + k)) = l[k]?) → extCells w a j n = l
  | 0, j, l, h, _ => by rw [List.length_eq_zero_iff.1 h]; rfl
  | n + 1, j, [], h, _ => by cases h
  | n + 1, j, x :: l, h, hc => by
    have h0 := hc 0 (by omega)
    rw [Nat.add_zero, List.getElem?_cons_zero] at h0
    have := extCells_of w a n (j + 1) l (by simpa using h) (fun k hk => by
      have := hc (k + 1) (by omega)
      rw [List.getElem?_cons_succ] at this
      rw [← this]; congr 2; omega)
    simp only [extCells, h0, this, Option.getD_some]

theorem seesR_row {M : AM.Loc} {w : World} {id e n : Nat} {L : List Rl} (hb : BlkAt M w id (.row e 65 n (relsV L))) : SeesR w (some ⟨(M id).1, 0, none⟩) L := by
  intro i hi
  have hc : ∀ j, j < 65 → w.cell? ((((some ⟨(M id).1, 0, none⟩ : Option Addr).getD default).add (i * 65)).add j) = (relV L[i])[j]? := by
    intro j hj
    rw [Option.getD_some, Addr.add_lit, Addr.add_lit, ← relsV_get L i j hi hj]
    have hlt : i * 65 + j < (relsV L).length := by rw [relsV_len]; omega
    rw [List.getElem?_eq_getElem hlt]
    have := row_cells hb (i * 65 + j) _ (List.getElem?_eq_getElem hlt)
    rw [Nat.zero_add] at this ⊢
    exact this
  refine ⟨rfl, extCells_of _ _ _ _ _ (relV_len _) (fun k hk => by rw [Nat.zero_add]; exact hc k hk), fun j hj => ?_⟩
  rw [hc j hj, List.getElem?_eq_getElem (by rw [relV_len]; exact hj)]; rfl

/-! ### Steps -/

theorem onA_has {n : Int} (h0 : 0 ≤ n) (h1 : n ≤ 64) (a b : Nat) : (onL n (BitVec.allOnes 64)).has a b = true ↔ a = b ∧ (a : Int) < n := by
  rw [onL, if_neg (by omega), Rl.has, Rl.row_by]
  by_cases ha : a < 64
  · rw [if_pos ha]
    by_cases c : (a : Int) < n
    · rw [if_pos ⟨c, by rw [BitVec.getLsbD_allOnes, decide_eq_true ha]⟩, one_shl_get a b ha, decide_eq_true_eq]
      exact ⟨fun h => ⟨h.symm, c⟩, fun h => h.1.symm⟩
    · rw [if_neg (fun h => c h.1), BitVec.getLsbD_zero]
      exact ⟨fun h => (by cases h), fun h => absurd h.2 c⟩
  · rw [if_neg ha, BitVec.getLsbD_zero]
    exact ⟨fun h => (by cases h), fun h => absurd h.2 (by omega)⟩

/-- So many steps. -/
noncomputable def stR (R : Rl) : Nat → Rl
  | 0 => onL R.n (BitVec.allOnes 64)
  | k + 1 => twoR 3 (stR R k) R
theorem stR_ok {R : Rl} (hR : Rt R) : ∀ k, Rt (stR R k) ∧ (stR R k).n = R.n
  | 0 => ⟨onL_rt hR.lo hR.hi, onL_n hR.lo hR.hi⟩
  | k + 1 => ⟨twoR_rt 3 (stR_ok hR k).1 hR (stR_ok hR k).2, (twoR_n 3 (stR_ok hR k).1 hR (stR_ok hR k).2).trans (stR_ok hR k).2⟩

theorem W_split {R : Rl} : ∀ {n a b : Nat}, W R (n + 1) a b → ∃ c, W R n a c ∧ R.has c b = true
  | 0, a, b, hw => by
    obtain ⟨c, h, e⟩ := hw
    have e' : c = b := e
    subst e'
    exact ⟨a, rfl, h⟩
  | n + 1, a, b, hw => by
    obtain ⟨c, h, k⟩ := hw
    obtain ⟨d, h1, h2⟩ := W_split k
    exact ⟨d, ⟨c, h, h1⟩, h2⟩

theorem stR_has {R : Rl} (hR : Rt R) : ∀ k a b, (stR R k).has a b = true ↔ W R k a b ∧ (a : Int) < R.n
  | 0, a, b => by rw [stR, onA_has hR.lo hR.hi]; rfl
  | k + 1, a, b => by
    rw [stR, comp_has (stR_ok hR k).1 hR (stR_ok hR k).2]
    constructor
    · rintro ⟨c, h1, h2⟩
      obtain ⟨h3, h4⟩ := (stR_has hR k a c).1 h1
      exact ⟨W_snoc R h3 h2, h4⟩
    · rintro ⟨h1, h2⟩
      obtain ⟨c, h3, h4⟩ := W_split h1
      exact ⟨c, (stR_has hR k a c).2 ⟨h3, h2⟩, h4⟩

/-- The first so many of them. -/
noncomputable def stsR (R : Rl) (k : Nat) : List Rl := (List.range k).map (stR R)
theorem stsR_len (R : Rl) (k : Nat) : (stsR R k).length = k := by simp [stsR]
theorem stsR_succ (R : Rl) (k : Nat) : stsR R (k + 1) = stsR R k ++ [stR R k] := by simp [stsR, List.range_succ]
theorem stsR_get (R : Rl) (k i : Nat) (h : i < (stsR R k).length) : (stsR R k)[i] = stR R i := by simp [stsR]

/-- None has a shorter way round than there are numbers. -/
theorem unseen_out {R : Rl} (hR : Rt R) {n : Nat} (hn : R.n = (n : Int)) (g m : Nat) : 64 - n ≤ unseen R g m := by
  unfold unseen
  have h64 : n ≤ 64 := by have := hR.hi; omega
  have e : List.range 64 = List.range n ++ (List.range (64 - n)).map (n + ·) := by
    rw [← List.range_add]; congr 1; omega
  rw [e, List.countP_append]
  have : ((List.range (64 - n)).map (n + ·)).countP (fun b => dst R g m b == 0) = 64 - n := by
    rw [List.countP_eq_length.2 ?_]
    · simp
    · intro b hb
      obtain ⟨x, _, rfl⟩ := List.mem_map.1 hb
      rw [beq_iff_eq]
      rcases dst_spec R g m (n + x) with h | ⟨h1, h2, h3, _⟩
      · exact h.1
      · exfalso
        obtain ⟨y, hy⟩ : ∃ y, dst R g m (n + x) = y + 1 := ⟨dst R g m (n + x) - 1, by omega⟩
        rw [hy] at h3
        obtain ⟨c, h4, _⟩ := h3
        have := (hR.lt _ _ h4).1
        omega
  omega
theorem dist_le_n {R : Rl} (hR : Rt R) {n : Nat} (hn : R.n = (n : Int)) (g b : Nat) : distR R g b ≤ n := by
  rcases distR_spec R g b with h | ⟨h1, h2, h3⟩
  · omega
  · have hnx : nxP R g (distR R g b) b := by
      refine ⟨?_, h2⟩
      rcases dst_spec R g (distR R g b) b with h | ⟨h4, h5, h6, _⟩
      · exact h.1
      · exact absurd h6 (h3 _ h4 h5)
    have h4 := level_le R g _ h1 b hnx
    have h5 := unseen_out hR hn g (distR R g b + 1)
    have h6 : n ≤ 64 := by have := hR.hi; omega
    omega
end Go.Proofs.YtocpkgckllbjlaaDoor

/-
  The reference's round walked. Own work.
-/
namespace Go.Proofs.YtocpkgckllbjlaaDoor
open Go.AM
set_option maxRecDepth 100000

open Classical in
theorem nxtR_min (R : Rl) {g a k b : Nat} (h : nxtR R g a k = some b) : ∀ c, c < b → ¬ (R.has a c = true ∧ W R k c g) := by
  unfold nxtR at h
  have h2 := (List.find?_range_eq_some.1 h).2.2
  rintro c hc ⟨h3, h4⟩
  have := h2 c hc
  simp [h3, h4] at this

set_option maxHeartbeats 600000 in
theorem round_ok (R : Rl) (hR : Rt R) (n : Nat) (hn : R.n = (n : Int)) (p : Option Addr) (c : Nat) (g k : Nat) (w : World) (hs : SeesR w p (stsR R (k + 2))) (hw : W R (k + 1) g g) (hk64 : k + 1 ≤ 64) :
    HandsZ Tryd.prog 89 [encRel R, .slice p (k + 2) c, .int .i64 (g : Int), .int .i64 ((k + 1 : Nat) : Int)] w (.sl 0 1 0 (k + 1)) [(0, .row 3 1 (k + 1) (encN (g :: pathR R g g k)))] := by
  refine HandsZ.of_run Tryd.func89 rfl (by show 4 ≤ 47; decide) ?_
  have hn64 : n ≤ 64 := by have := hR.hi; omega
  have hP2 : 0 ≤ R.n ∧ R.n ≤ 64 := ⟨hR.lo, hR.hi⟩
  have hlt : ∀ m a b, W R (m + 1) a b → a < n := fun m a b h => by
    have := (hR.lt _ _ h.choose_spec.1).1
    omega
  have hgn := hlt _ _ _ hw
  refine RunF_sound tab_ok noX_local 100 [] _ _ rfl ?_ ?_
  · simp [fillL, Value.cells, splice, repL, maxLen]
  suffices H2 : ∀ (i a j : Nat) (l : List Nat), l.length = j → j + i = k + 1 → 1 ≤ j → W R (i + 1) a g → l ++ pathR R g a i = g :: pathR R g g k →
      Run _ _ ⟨[(1, .v (.slice p (k + 2) c)), (2, .v (.int .i64 (g : Int))), (4, .ptr 0 0), (9, .sl 20 1 0 j), (10, .v (.int .i64 (a : Int))), (11, .v (.int .i64 (i : Int)))], [(0, .cells 25 [.vals 65 (relV R)]), (20, .row 3 1 j (encN l))], 21⟩ by
    exact Run.toR [(20, 1)] (H2 k g 1 [g] rfl (by omega) (by omega) hw rfl) ⟨rfl, rfl, rfl, rfl, rfl, i64_eq (by rw [wrap_i64] <;> omega), trivial⟩ ⟨rfl, rfl, trivial⟩ rfl
  intro i
  induction i with
  | zero =>
    intro a j l hl hj h1j _ hpath
    have e : l = g :: pathR R g g k := by rw [← hpath]; simp [pathR]
    obtain rfl : j = k + 1 := by omega
    refine RunF_sound tab_ok noX_local 100 [false] _ _ rfl ?_ ?_
    · simp
    refine Run.retH tab_ok [(0, 20)] Tryd.func89 rfl ?_ rfl ⟨?_, trivial⟩ rfl
    · simp
    · rw [← e]; rfl
  | succ i ih =>
    intro a j l hl hj h1j hwa hpath
    have han := hlt _ _ _ hwa
    obtain ⟨nb, hnb, hnb64, hanb, hwnb⟩ := nxtR_some R g a (i + 1) hwa
    have hmin := nxtR_min R hnb
    have hnbn : nb < n := by have := (hR.lt _ _ hanb).2; omega
    have hpath' : (l ++ [nb]) ++ pathR R g nb i = g :: pathR R g g k := by
      rw [← hpath, pathR, hnb]; simp
    refine RunF_sound tab_ok noX_local 100 [true] _ _ rfl ?_ ?_
    · simp
    suffices H3 : ∀ (m b : Nat), b + m = n → b ≤ nb →
        Run _ _ ⟨[(1, .v (.slice p (k + 2) c)), (2, .v (.int .i64 (g : Int))), (4, .ptr 0 0), (9, .sl 20 1 0 j), (10, .v (.int .i64 (a : Int))), (11, .v (.int .i64 ((i + 1 : Nat) : Int))), (12, .v (.int .i64 (b : Int)))], [(0, .cells 25 [.vals 65 (relV R)]), (20, .row 3 1 j (encN l))], 21⟩ by
      exact Run.to (H3 n 0 (by omega) (by omega)) ⟨rfl, rfl, rfl, rfl, rfl, rfl, rfl, trivial⟩ ⟨rfl, rfl, trivial⟩
    intro m
    induction m with
    | zero => intro b hb hle; omega
    | succ m ihm =>
      intro b hb hle
      have hI : hasI R a b = R.has a b := hasI_in (by omega) (by omega)
      refine RunF_sound tab_ok noX_local 200 [true] _ _ rfl ?_ ?_
      · simp [hn]; omega
      refine Run.callFn noX_local rfl rfl rfl rfl rfl rfl rfl hasR_enters rfl (fun w' _ => hasR_ok R hP2 a b w') ?_
      rw [hI]
      by_cases c1 : R.has a b = true
      · obtain ⟨hp, hext, hsome⟩ := hs (i + 1) (by rw [stsR_len]; omega)
        rw [stsR_get] at hext
        refine RunF_sound tab_ok noX_local 200 [true] _ _ rfl ?_ ?_
        · simp only [fnC_w0, fnC_S0, Int.toNat_natCast]
          simp [c1]
          exact ⟨⟨hp, by omega, by omega⟩, hsome⟩
        have hS := stR_ok hR (i + 1)
        have hJ : hasI (stR R (i + 1)) b g = (stR R (i + 1)).has b g := hasI_in (by rw [hS.2]; omega) (by rw [hS.2]; omega)
        refine Run.callFn (r := .bool ((stR R (i + 1)).has b g)) noX_local rfl rfl rfl rfl rfl rfl rfl hasR_enters rfl (fun w' _ => ?_) ?_
        · have := hasR_ok (stR R (i + 1)) ⟨hS.1.lo, hS.1.hi⟩ b g w'
          rw [hJ] at this
          simp only [fnC_w0, Int.toNat_natCast, hext]
          exact this
        by_cases c2 : (stR R (i + 1)).has b g = true
        · have hwb := ((stR_has hR _ _ _).1 c2).1
          obtain rfl : b = nb := by
            rcases Nat.lt_or_ge b nb with h | h
            · exact absurd ⟨c1, hwb⟩ (hmin b h)
            · omega
          refine RunF_sound tab_ok noX_local 200 [true] _ _ rfl ?_ ?_
          · simp [c2, fillL, Value.cells, splice, repL, maxLen, Value.oneCell']
            omega
          refine Run.toR [(20, 22)] (ih b (j + 1) (l ++ [b]) (by simp [hl]) (by omega) (by omega) hwnb hpath') ⟨rfl, rfl, rfl, rfl, rfl, i64_eq ?_, trivial⟩ ⟨rfl, ?_, trivial⟩ rfl
          · rw [wrap_i64] <;> omega
          refine congrArg (fun v => some (Blk.row 3 1 (j + 1) v)) ?_
          exact encN_snoc hl b
        · refine RunF_sound tab_ok noX_local 200 [false] _ _ rfl ?_ ?_
          · simpa using c2
          have hne : b ≠ nb := fun e => c2 ((stR_has hR _ _ _).2 ⟨by rw [e]; exact hwnb, by omega⟩)
          exact Run.to (ihm (b + 1) (by omega) (by omega)) ⟨rfl, rfl, rfl, rfl, rfl, rfl, i64_eq (wrap_succ (by omega)), trivial⟩ ⟨rfl, rfl, trivial⟩
      · refine RunF_sound tab_ok noX_local 200 [false] _ _ rfl ?_ ?_
        · simpa using c1
        have hne : b ≠ nb := fun e => c1 (by rw [e]; exact hanb)
        exact Run.to (ihm (b + 1) (by omega) (by omega)) ⟨rfl, rfl, rfl, rfl, rfl, rfl, i64_eq (wrap_succ (by omega)), trivial⟩ ⟨rfl, rfl, trivial⟩
theorem round_enters : Enters Tryd.prog 89 := enters_mk Tryd.func89 (by decide) rfl
end Go.Proofs.YtocpkgckllbjlaaDoor

/-
  The reference's Cycle walked. Own work.
-/
namespace Go.Proofs.YtocpkgckllbjlaaDoor
open Go.AM
set_option maxRecDepth 100000

theorem un_ones : un (BitVec.allOnes 64) = 18446744073709551615 := by decide
theorem relsV_snoc {L : List Rl} {k : Nat} (hl : L.length = k) (R : Rl) : (relsV L).take (k * 65) ++ relV R = relsV (L ++ [R]) := by
  rw [List.take_of_length_le (by rw [relsV_len, hl]; exact Nat.le_refl _), relsV_app]; simp [relsV]

/-- None has a way round, if none has one of at most n steps. -/
theorem no_way {R : Rl} (hR : Rt R) {n : Nat} (hn : R.n = (n : Int)) (h : ∀ a m, 1 ≤ m → m < n + 1 → ¬ W R m a a) : irB (clos R) = true := by
  refine irB_true fun a => ?_
  cases hc : (clos R).has a a with
  | false => rfl
  | true =>
    obtain ⟨m, hm⟩ := trans_W ((clos_has hR a a).1 hc)
    rcases distR_spec R a a with h1 | ⟨h1, h2, h3⟩
    · exact absurd hm (h1.2 _ (by omega))
    · have := dist_le_n hR hn a a
      exact absurd h2 (h a _ h1 (by omega))
theorem acyc_none {R : Rl} (hR : Rt R) (h : irB (clos R) = true) : IsCyc R none := by
  refine .inl ⟨rfl, fun a m hm hw => ?_⟩
  obtain ⟨m', rfl⟩ : ∃ m', m = m' + 1 := ⟨m - 1, by omega⟩
  have := (clos_has hR a a).2 (W_trans hw)
  rw [irB_false this] at h; cases h

theorem fill_one (R : Rl) : (fillL (fun j => some (j * 65, 65)) (repL 1 (Value.agg z25.toArray).cells.toList) [(0, encRel R)]).snd = relV R := by
  have e : (repL 1 (Value.agg z25.toArray).cells.toList).length = 65 := by decide
  generalize repL 1 (Value.agg z25.toArray).cells.toList = Z at e
  show splice Z 0 (relV R).toArray.toList = _
  unfold splice
  rw [List.take_zero, List.nil_append, List.drop_eq_nil_of_le (by simp [e]), List.append_nil]
theorem fill_one1 (R : Rl) : (fillL (fun j => some (j * 65, 65)) (repL 1 (Value.agg z25.toArray).cells.toList) [(0, encRel R)]).1 = True := by
  refine eq_true ⟨?_, ?_, trivial⟩
  · show (relV R).toArray.size = 65
    simp
  · decide

set_option maxHeartbeats 800000 in
theorem cycleR_ok (r : Rl) (x : Option (List Nat)) (hx : IsCyc (rightL r) x) (w : World) : HandsZ Tryd.prog 58 [encRel r] w (exZ x) (exH x) := by
  refine HandsZ.of_run Tryd.func58 rfl (by show 1 ≤ 49; decide) ?_
  refine RunF_sound tab_ok noX_local 100 [] _ _ rfl ?_ ?_
  · simp
  refine Run.callFn noX_local rfl rfl rfl rfl rfl rfl rfl rightR_enters rfl (fun w' _ => rightR_ok r w') ?_
  have hR := rt_right r
  generalize rightL r = R at hx hR
  obtain ⟨n, hn⟩ : ∃ n : Nat, R.n = (n : Int) := ⟨R.n.toNat, by have := hR.lo; omega⟩
  have hn64 : n ≤ 64 := by have := hR.hi; omega
  have hlt : ∀ m a b, W R (m + 1) a b → a < n := fun m a b h => by
    have := (hR.lt _ _ h.choose_spec.1).1
    omega
  have k1 : ∀ w', Gives Tryd.prog 47 [encRel R] w' (.bool (irB (clos R))) := fun w' => by
    have := acyclicR_ok R w'
    rwa [hR.right] at this
  refine RunF_sound tab_ok noX_local 100 [] _ _ rfl ?_ ?_
  · simp [segsVals, relV_one']
  refine Run.callFn noX_local rfl rfl rfl rfl rfl rfl rfl acyclicR_enters rfl (fun w' _ => k1 w') ?_
  by_cases c : irB (clos R) = true
  · obtain rfl : x = none := hx.eq (acyc_none hR c)
    refine RunF_sound tab_ok noX_local 100 [true] _ _ rfl ?_ ?_
    · simp [c]
    refine Run.retH tab_ok [] Tryd.func58 rfl ?_ rfl trivial rfl
    simp
  refine RunF_sound tab_ok noX_local 100 [false] _ _ rfl ?_ ?_
  · simp [c]
  refine Run.callFn (r := encRel (onL R.n (BitVec.allOnes 64))) noX_local rfl rfl rfl rfl rfl rfl rfl onR_enters rfl (fun w' _ => ?_) ?_
  · have := onR_ok R.n (BitVec.allOnes 64) w'
    rw [un_ones] at this
    exact this
  refine Run.to (t' := [(1, .ptr 0 0), (13, .v (encRel (stR R 0)))]) (h' := [(0, .cells 25 [.vals 65 (relV R)])]) (n' := 20) ?_ ⟨rfl, rfl, trivial⟩ ⟨rfl, trivial⟩
  refine RunF_sound tab_ok noX_local 100 [] _ _ rfl ?_ ?_
  · simp [fillL, Value.cells, splice, repL, maxLen]
    exact relV_len _
  suffices H : ∀ (m k : Nat), k + m = n → (∀ a j, 1 ≤ j → j < k + 1 → ¬ W R j a a) →
      Run _ _ ⟨[(1, .ptr 0 0), (4, .sl 20 65 0 (k + 1)), (5, .v (.int .i64 ((k + 1 : Nat) : Int)))], [(0, .cells 25 [.vals 65 (relV R)]), (20, .row 25 65 (k + 1) (relsV (stsR R (k + 1))))], 21⟩ by
    refine Run.to (H n 0 (by omega) (fun a j h1 h2 => by omega)) ⟨rfl, rfl, rfl, trivial⟩ ⟨rfl, ?_, trivial⟩
    refine congrArg (fun v => some (Blk.row 25 65 1 v)) ?_
    have e1 : (fillL (fun j => some (j * 65, 65)) (repL 1 (Value.agg z25.toArray).cells.toList) [(0, encRel (stR R 0))]).snd = relV (stR R 0) := fill_one _
    refine e1.trans ?_
    simp [stsR, relsV]
  intro m
  induction m with
  | zero =>
    intro k hk hno
    obtain rfl : k = n := by omega
    exact absurd (no_way hR hn hno) c
  | succ m ih =>
    intro k hk hno
    have hwk : IntKind.i64.wrap (((k + 1 : Nat) : Int) - 1) = (k : Int) := by rw [wrap_i64] <;> omega
    have hwk2 : IntKind.i64.wrap (k : Int) = (k : Int) := by rw [wrap_i64] <;> omega
    have hlen := stsR_len R (k + 1)
    have hdrop := relsV_drop (stsR R (k + 1)) k (by rw [hlen]; omega)
    rw [stsR_get] at hdrop
    have hS := stR_ok hR (k + 1)
    have hS2 : 0 ≤ (stR R (k + 1)).n ∧ (stR R (k + 1)).n ≤ 64 := ⟨hS.1.lo, hS.1.hi⟩
    have hstep : ∀ w', Gives Tryd.prog 22 [.int .i64 3, encRel (stR R k), encRel R] w' (encRel (stR R (k + 1))) := fun w' => two_R 3 (by decide) (stR R k) R w'
    have hVs : (relsV (stsR R (k + 1))).length = (k + 1) * 65 := by rw [relsV_len, hlen]
    have hsn : (relsV (stsR R (k + 1))).take ((k + 1) * 65) ++ relV (stR R (k + 1)) = relsV (stsR R (k + 1 + 1)) := by rw [relsV_snoc hlen, ← stsR_succ]
    refine RunF_sound tab_ok noX_local 100 [true] _ _ rfl ?_ ?_
    · simp [hn]; omega
    refine Run.drawA noX_local rfl [5] [(0, .cells 25 [.vals 65 (relV R)])] rfl rfl ⟨rfl, trivial⟩ ?_
    refine RunOF_sound tab_ok noX_local rfl rfl 100 [] _ _ rfl ?_ ?_
    · simp [hVs]
      rw [hwk2, Int.toNat_natCast]; omega
    refine RunO.callFn (r := encRel (stR R (k + 1))) noX_local rfl rfl rfl rfl rfl rfl rfl rfl two_R_enters rfl (fun w' _ => ?_) ?_
    · rw [hwk, Int.toNat_natCast, Nat.zero_add, hdrop]
      exact hstep w'
    refine RunOF_sound tab_ok noX_local rfl rfl 100 [] _ _ rfl ?_ ?_
    · simp only [fill_one, fill_one1]
      simp [maxLen, inT, lk]
      exact ⟨rfl, ⟨rfl, by omega, by omega⟩, fun u hu => relV_one _ u (List.mem_of_mem_take hu)⟩
    refine RunO.done ?_
    refine RunF_sound tab_ok noX_local 100 [] _ _ rfl ?_ ?_
    · simp
    have hwlt : ∀ a, W R (k + 1) a a → a < n := fun a h => hlt k a a h
    have hlen2 := stsR_len R (k + 2)
    have hdrop2 := relsV_drop (stsR R (k + 2)) (k + 1) (by rw [hlen2]; omega)
    rw [stsR_get] at hdrop2
    have hVs2 : (relsV (stsR R (k + 2))).length = (k + 2) * 65 := by rw [relsV_len, hlen2]
    suffices H3 : ∀ (m a : Nat), a + m = n → (∀ b, b < a → ¬ W R (k + 1) b b) →
        Run _ _ ⟨[(1, .ptr 0 0), (4, .sl 20 65 0 (k + 2)), (5, .v (.int .i64 ((k + 1 : Nat) : Int))), (6, .v (.int .i64 (a : Int)))], [(0, .cells 25 [.vals 65 (relV R)]), (20, .row 25 65 (k + 2) (relsV (stsR R (k + 2))))], 21⟩ by
      refine Run.toR [(20, 22)] (H3 n 0 (by omega) (fun b h => absurd h (Nat.not_lt_zero _))) ⟨rfl, rfl, rfl, rfl, trivial⟩ ⟨rfl, ?_, trivial⟩ rfl
      show _ = some (Blk.row 25 65 (k + 2) (relsV (stsR R (k + 2))))
      rw [← hsn]
      simp only [fill_one]
      refine congrArg (fun v => some (Blk.row 25 65 (k + 2) ((relsV (stsR R (k + 1))).take ((k + 1) * 65) ++ v))) ?_
      show ((relV (stR R (k + 1))).drop 0).take 65 = _
      rw [List.drop_zero, List.take_of_length_le (by rw [relV_len]; exact Nat.le_refl _)]
    intro m3
    induction m3 with
    | zero =>
      intro a ha hno3
      obtain rfl : a = n := by omega
      refine RunF_sound tab_ok noX_local 100 [false] _ _ rfl ?_ ?_
      · simp [hn]
      refine Run.to (ih (k + 1) (by omega) (fun b j h1 h2 hw => ?_)) ⟨rfl, rfl, i64_eq (wrap_succ (by omega)), trivial⟩ ⟨rfl, rfl, trivial⟩
      rcases Nat.lt_or_ge j (k + 1) with h | h
      · exact hno b j h1 h hw
      · obtain rfl : j = k + 1 := by omega
        exact hno3 b (hwlt b hw) hw
    | succ m3 ih3 =>
      intro a ha hno3
      have hI : hasI (stR R (k + 1)) a a = (stR R (k + 1)).has a a := hasI_in (by rw [hS.2]; omega) (by rw [hS.2]; omega)
      refine RunF_sound tab_ok noX_local 100 [true] _ _ rfl ?_ ?_
      · simp [hn, hVs2]; omega
      refine Run.callFn (r := .bool ((stR R (k + 1)).has a a)) noX_local rfl rfl rfl rfl rfl rfl rfl hasR_enters rfl (fun w' _ => ?_) ?_
      · have := hasR_ok (stR R (k + 1)) hS2 a a w'
        rw [hI] at this
        rw [Int.toNat_natCast, Nat.zero_add, hdrop2]
        exact this
      by_cases c2 : (stR R (k + 1)).has a a = true
      · have hwa := ((stR_has hR _ _ _).1 c2).1
        obtain rfl : x = some (a :: pathR R a a k) := hx.eq (.inr ⟨a, k, rfl, hwa, fun b j h1 h2 => hno b j h1 h2, hno3⟩)
        refine RunF_sound tab_ok noX_local 100 [true] _ _ rfl ?_ ?_
        · simp [c2]
        refine Run.callH noX_local (.sl 21 1 0 (k + 1)) [(21, .row 3 1 (k + 1) (encN (a :: pathR R a a k)))] 22 rfl rfl rfl rfl rfl rfl round_enters rfl rfl rfl rfl rfl (fun M w' hM _ => ?_) ?_
        · have hb := hM 20 _ rfl
          exact (round_ok R hR n hn _ _ a k w' (seesR_row hb) hwa (by omega)).to [(21, 0)] rfl ⟨rfl, trivial⟩ rfl
        refine RunF_sound tab_ok noX_local 100 [] _ _ rfl ?_ ?_
        · simp
        refine Run.retH tab_ok [(0, 21)] Tryd.func58 rfl ?_ ?_ ⟨?_, trivial⟩ rfl
        · simp
        · simp [exZ, pathR_length, ren, renL]; rfl
        · simp [pathR_length]; rfl
      · refine RunF_sound tab_ok noX_local 100 [false] _ _ rfl ?_ ?_
        · simpa using c2
        refine Run.to (ih3 (a + 1) (by omega) (fun b hb hw => ?_)) ⟨rfl, rfl, rfl, i64_eq (wrap_succ (by omega)), trivial⟩ ⟨rfl, rfl, trivial⟩
        rcases Nat.lt_or_ge b a with h | h
        · exact hno3 b h hw
        · obtain rfl : b = a := by omega
          exact c2 ((stR_has hR _ _ _).2 ⟨hw, by omega⟩)
theorem cycleR_enters : Enters Tryd.prog 58 := enters_mk Tryd.func58 (by decide) rfl
end Go.Proofs.YtocpkgckllbjlaaDoor

/-
  Lists of sets compared; how long ways round are. Own work.
-/
namespace Go.Proofs.YtocpkgckllbjlaaDoor
open Go.AM
set_option maxRecDepth 100000

/-- A slice of sets, as it lies in a world. -/
def SeesW (w : World) (p : Option Addr) (xs : List (BitVec 64)) : Prop :=
  ∀ i (h : i < xs.length), p = some (p.getD default) ∧ w.cell? ((p.getD default).add i) = some (.int .u64 (un xs[i]))

theorem seesW_row {M : AM.Loc} {w : World} {id e n : Nat} {l : List (BitVec 64)} (hb : BlkAt M w id (.row e 1 n (encW l))) : SeesW w (some ⟨(M id).1, 0, none⟩) l := by
  intro i hi
  have := row_cells hb i (.int .u64 (un l[i])) (by simp [encW, hi])
  refine ⟨rfl, ?_⟩
  rw [Option.getD_some, Addr.add_lit]
  exact this

theorem seesW_nil (w : World) (p : Option Addr) : SeesW w p [] := fun i hi => absurd hi (Nat.not_lt_zero _)

theorem sameSets_ok (p q : Option Addr) (c d : Nat) (xs ys : List (BitVec 64)) (w : World) (hx : SeesW w p xs) (hy : SeesW w q ys) (hl : xs.length ≤ maxLen) :
    Gives Tryd.prog 61 [.slice p xs.length c, .slice q ys.length d] w (.bool (decide (xs = ys))) := by
  refine Gives.of_run Tryd.func61 rfl (by show 2 ≤ 26; decide) ?_
  have hml : maxLen = 9223372036854775807 := rfl
  by_cases hlen : xs.length = ys.length
  · refine RunF_sound tab_ok noX_local 100 [false] _ _ rfl ?_ ?_
    · simp [hlen]
    suffices H : ∀ (m i : Nat), i + m = xs.length → xs.take i = ys.take i → ∀ σ, inT σ.t [(0, .v (.slice p xs.length c)), (1, .v (.slice q ys.length d)), (5, .v (.int .i64 (i : Int)))] → inT σ.h [] → Run _ _ σ by
      exact H xs.length 0 (by omega) rfl _ ⟨rfl, rfl, rfl, trivial⟩ trivial
    intro m
    induction m with
    | zero =>
      intro i hi he σ ht hh
      refine Run.to ?_ ht hh (n' := 0)
      refine RunF_sound tab_ok noX_local 100 [false] _ _ rfl ?_ ?_
      · simp; omega
      refine Run.retP tab_ok Tryd.func61 rfl trivial (fun M => ?_)
      have : xs = ys := by rw [List.take_of_length_le (by omega), List.take_of_length_le (by omega)] at he; exact he
      simp [conc, this]
    | succ m ih =>
      intro i hi he σ ht hh
      refine Run.to ?_ ht hh (n' := 0)
      have hix : i < xs.length := by omega
      have hiy : i < ys.length := by omega
      obtain ⟨hp, hpc⟩ := hx i hix
      obtain ⟨hq, hqc⟩ := hy i hiy
      refine RunF_sound tab_ok noX_local 100 [true] _ _ rfl ?_ ?_
      · simp; omega
      refine Run.drawA noX_local rfl [] [] rfl rfl trivial ?_
      refine RunOF_sound tab_ok noX_local rfl rfl 100 [] _ _ rfl ?_ ?_
      · simp only [fnC_w0, fnC_S0, Int.toNat_natCast, Nat.mul_one, hpc, hqc]
        simp
        (repeat' refine And.intro ?_ ?_) <;> first | omega | exact hp | exact hq
      refine RunO.done ?_
      simp only [fnC_w0, Int.toNat_natCast, Nat.mul_one, hpc, hqc]
      by_cases c0 : xs[i] = ys[i]
      · refine RunF_sound tab_ok noX_local 100 [false] _ _ rfl ?_ ?_
        · simp [c0]
        refine ih (i + 1) (by omega) ?_ _ ⟨rfl, rfl, i64_eq (wrap_succ (by omega)), trivial⟩ trivial
        rw [List.take_succ_eq_append_getElem hix, List.take_succ_eq_append_getElem hiy, he, c0]
      · refine RunF_sound tab_ok noX_local 100 [true] _ _ rfl ?_ ?_
        · simp; exact c0
        refine Run.retP tab_ok Tryd.func61 rfl trivial (fun M => ?_)
        have : xs ≠ ys := fun e => by subst e; exact c0 rfl
        simp [conc, this]
  · refine RunF_sound tab_ok noX_local 100 [true] _ _ rfl ?_ ?_
    · simp; omega
    refine Run.retP tab_ok Tryd.func61 rfl trivial (fun M => ?_)
    have : xs ≠ ys := fun e => hlen (by rw [e])
    simp [conc, this]
theorem sameSets_enters : Enters Tryd.prog 61 := enters_mk Tryd.func61 (by decide) rfl

theorem cyc_len {R : Rl} {l : List Nat} (h : IsCyc R (some l)) : l.length ≤ 64 := by
  rcases h with ⟨h, _⟩ | ⟨g, k, e, h1, h2, _⟩
  · cases h
  · obtain rfl := Option.some.inj e
    have := dist_le R g g
    rw [distR_at (k := k + 1) (by omega) h1 (fun m hm hl => h2 g m hm hl)] at this
    rw [List.length_cons, pathR_length]
    exact this

theorem sameN (l : List Nat) (hl : l.length ≤ 64) {M : AM.Loc} {w : World} {i j e e' : Nat} (h1 : BlkAt M w i (.row e 1 l.length (encN l))) (h2 : BlkAt M w j (.row e' 1 l.length (encN l))) (c d : Nat) :
    Gives Tryd.prog 53 [.slice (some ⟨(M i).1, 0, none⟩) l.length c, .slice (some ⟨(M j).1, 0, none⟩) l.length d] w (.bool true) := by
  have := sameInts_ok _ _ c d l l w (seesN_row h1) (seesN_row h2) (by show _ ≤ 9223372036854775807; omega)
  rwa [decide_eq_true rfl] at this
theorem sameN0 (w : World) : Gives Tryd.prog 53 [.slice none 0 0, .slice none 0 0] w (.bool true) := by
  have := sameInts_ok none none 0 0 [] [] w (seesN_nil w none) (seesN_nil w none) (by decide)
  rwa [decide_eq_true rfl] at this
theorem sameW (l : List (BitVec 64)) (hl : l.length ≤ 64) {M : AM.Loc} {w : World} {i j e e' : Nat} (h1 : BlkAt M w i (.row e 1 l.length (encW l))) (h2 : BlkAt M w j (.row e' 1 l.length (encW l))) (c d : Nat) :
    Gives Tryd.prog 61 [.slice (some ⟨(M i).1, 0, none⟩) l.length c, .slice (some ⟨(M j).1, 0, none⟩) l.length d] w (.bool true) := by
  have := sameSets_ok _ _ c d l l w (seesW_row h1) (seesW_row h2) (by show _ ≤ 9223372036854775807; omega)
  rwa [decide_eq_true rfl] at this
theorem sameW0 (w : World) : Gives Tryd.prog 61 [.slice none 0 0, .slice none 0 0] w (.bool true) := by
  have := sameSets_ok none none 0 0 [] [] w (seesW_nil w none) (seesW_nil w none) (by decide)
  rwa [decide_eq_true rfl] at this
end Go.Proofs.YtocpkgckllbjlaaDoor

/-
  Orders, plain: which lists are orders, and there is one. Own work.
-/
namespace Go.Proofs.YtocpkgckllbjlaaDoor
open Go.AM

/-- A list goes on well, behind what is done. -/
def goodL (A : Rl) (n : Nat) : BitVec 64 → List Nat → Prop
  | _, [] => True
  | dn, i :: t => i < n ∧ rdyB A dn i = true ∧ goodL A n (dn ||| 1#64 <<< i) t

theorem extL_mem (A : Rl) (n : Nat) : ∀ (d : Nat) (l : List Nat) (dn : BitVec 64) (x : List Nat), x ∈ extL A n d l dn ↔ ∃ t, x = l ++ t ∧ t.length = d ∧ goodL A n dn t
  | 0, l, dn, x => by
    rw [extL, List.mem_singleton]
    constructor
    · rintro rfl; exact ⟨[], by simp, rfl, trivial⟩
    · rintro ⟨t, h1, h2, _⟩
      rw [h1, List.length_eq_zero_iff.1 h2, List.append_nil]
  | d + 1, l, dn, x => by
    rw [extL, List.mem_flatMap]
    constructor
    · rintro ⟨i, hi, hx⟩
      by_cases c : rdyB A dn i = true
      · rw [if_pos c, extL_mem A n d] at hx
        obtain ⟨t, rfl, h2, h3⟩ := hx
        exact ⟨i :: t, by simp, by simp [h2], List.mem_range.1 hi, c, h3⟩
      · rw [if_neg c] at hx; cases hx
    · rintro ⟨t, rfl, h2, h3⟩
      rcases t with _ | ⟨i, t⟩
      · cases h2
      · refine ⟨i, List.mem_range.2 h3.1, ?_⟩
        rw [if_pos h3.2.1, extL_mem A n d]
        exact ⟨t, by simp, by simpa using h2, h3.2.2⟩

theorem rdyB_iff (A : Rl) (dn : BitVec 64) (i : Nat) : rdyB A dn i = true ↔ dn.getLsbD i = false ∧ ∀ j, A.has i j = true → dn.getLsbD j = true := by
  unfold rdyB
  rw [Bool.and_eq_true, Bool.not_eq_true', decide_eq_true_eq]
  refine and_congr_right fun _ => ?_
  constructor
  · intro h j hj
    have h64 := (Rl.has_lt A hj).2
    have := congrArg (fun z : BitVec 64 => z.getLsbD j) h
    simp only [BitVec.getLsbD_and, BitVec.getLsbD_not, BitVec.getLsbD_zero] at this
    have hj' : (A.row i).getLsbD j = true := hj
    rw [hj', decide_eq_true h64] at this
    simpa using this
  · intro h
    apply BitVec.eq_of_getLsbD_eq
    intro j hj
    rw [BitVec.getLsbD_and, BitVec.getLsbD_not, BitVec.getLsbD_zero, decide_eq_true hj]
    cases hv : (A.row i).getLsbD j with
    | false => rfl
    | true => rw [h j hv]; rfl

theorem aheadL_has {r : Rl} (hr : Rt r) (a b : Nat) : (aheadL r).has a b = true ↔ r.has b a = true := by
  have : aheadL r = invR r := by
    unfold aheadL
    rw [hr.right]
    have := inverse_eq r
    rw [hr.right] at this
    exact this
  rw [this, invR_has]

/-! ### There is one -/

theorem count_one (p q : Nat → Bool) (i : Nat) (hp : p i = true) (hq : q i = false) (he : ∀ j, j ≠ i → q j = p j) : ∀ n, i < n → (List.range n).countP q + 1 = (List.range n).countP p
  | 0, h => absurd h (Nat.not_lt_zero _)
  | n + 1, h => by
    rw [List.range_succ, List.countP_append, List.countP_append, List.countP_singleton, List.countP_singleton]
    rcases Nat.lt_or_ge i n with hl | hl
    · have := count_one p q i hp hq he n hl
      rw [he n (by omega)]
      omega
    · obtain rfl : i = n := by omega
      rw [hp, hq]
      have : (List.range i).countP q = (List.range i).countP p := List.countP_congr fun j hj => by
        rw [he j (by have := List.mem_range.1 hj; omega)]
      rw [this]; rfl
theorem count_lt (p q : Nat → Bool) (i : Nat) (hp : p i = true) (hq : q i = false) (hs : ∀ j, q j = true → p j = true) (n : Nat) (h : i < n) : (List.range n).countP q < (List.range n).countP p := by
  have h1 := count_one p (fun j => p j && decide (j ≠ i)) i hp (by simp) (fun j hj => by simp [hj]) n h
  have h2 : (List.range n).countP q ≤ (List.range n).countP (fun j => p j && decide (j ≠ i)) := List.countP_mono_left fun j _ hj => by
    rw [hs j hj, Bool.true_and, decide_eq_true_eq]
    rintro rfl
    rw [hq] at hj; cases hj
  omega

/-- Of those that are not done one has nothing undone ahead of it. -/
theorem first_ex {R : Rl} (hR : Rt R) {n : Nat} (hn : R.n = (n : Int)) (hac : irB (clos R) = true) (dn : BitVec 64) {i0 : Nat} (h0 : i0 < n) (hd : dn.getLsbD i0 = false) : ∃ i, i < n ∧ rdyB (aheadL R) dn i = true := by
  have hir : ∀ a, ¬ (clos R).has a a = true := fun a h => by rw [irB_false h] at hac; cases hac
  obtain ⟨m, ⟨i, hi, hdi, hm⟩, hmin⟩ := least_ex (fun m => ∃ i, i < n ∧ dn.getLsbD i = false ∧ (List.range n).countP (fun j => !dn.getLsbD j && (clos R).has j i) = m) ⟨_, i0, h0, hd, rfl⟩
  refine ⟨i, hi, (rdyB_iff _ _ _).2 ⟨hdi, fun j hj => ?_⟩⟩
  have hji := (aheadL_has hR i j).1 hj
  cases hdj : dn.getLsbD j with
  | true => rfl
  | false =>
    exfalso
    have hjn : j < n := by have := (hR.lt _ _ hji).1; omega
    have hc := clos_sub hR _ _ hji
    refine hmin _ ?_ ⟨j, hjn, hdj, rfl⟩
    rw [← hm]
    refine count_lt _ _ j ?_ ?_ ?_ n hjn
    · simp [hdj, hc]
    · simp [hdj, hir j]
    · intro z hz
      rw [Bool.and_eq_true] at hz ⊢
      exact ⟨hz.1, clos_trans hR _ _ _ hz.2 hc⟩

theorem good_ex {R : Rl} (hR : Rt R) {n : Nat} (hn : R.n = (n : Int)) (hac : irB (clos R) = true) : ∀ (d : Nat) (dn : BitVec 64), (List.range n).countP (fun j => !dn.getLsbD j) = d → ∃ t, t.length = d ∧ goodL (aheadL R) n dn t
  | 0, _, _ => ⟨[], rfl, trivial⟩
  | d + 1, dn, h => by
    have h64 : n ≤ 64 := by have := hR.hi; omega
    obtain ⟨i0, hi0, hp⟩ := List.countP_pos_iff.1 (show 0 < (List.range n).countP (fun j => !dn.getLsbD j) by omega)
    obtain ⟨i, hi, hr⟩ := first_ex hR hn hac dn (List.mem_range.1 hi0) (by simpa using hp)
    have hdi := ((rdyB_iff _ _ _).1 hr).1
    obtain ⟨t, h1, h2⟩ := good_ex hR hn hac d (dn ||| 1#64 <<< i) (by
      have := count_one (fun j => !dn.getLsbD j) (fun j => !(dn ||| 1#64 <<< i).getLsbD j) i (by simp [hdi]) (by rw [BitVec.getLsbD_or, one_shl_get i i (by omega)]; simp) (fun j hj => by rw [BitVec.getLsbD_or, one_shl_get i j (by omega), decide_eq_false hj, Bool.or_false]) n hi
      omega)
    exact ⟨i :: t, by simp [h1], hi, hr, h2⟩

theorem orders_ex {R : Rl} (hR : Rt R) (hac : irB (clos R) = true) : ordersL R ≠ [] := by
  intro h
  have hn : R.n = (R.n.toNat : Int) := by have := hR.lo; omega
  obtain ⟨t, h1, h2⟩ := good_ex hR hn hac R.n.toNat 0#64 (by
    rw [List.countP_eq_length.2 (fun j _ => by simp)]; simp)
  have hm : t ∈ ordersL R := by
    rw [ordersL, hR.right, if_pos hac, sizeL, hR.right, extL_mem]
    exact ⟨t, by simp, h1, h2⟩
  rw [h] at hm; cases hm
theorem orders_good {R : Rl} (hR : Rt R) {x : List Nat} (hx : x ∈ ordersL R) : irB (clos R) = true ∧ x.length = R.n.toNat ∧ goodL (aheadL R) R.n.toNat 0#64 x := by
  rw [ordersL, hR.right] at hx
  by_cases c : irB (clos R) = true
  · rw [if_pos c, sizeL, hR.right, extL_mem] at hx
    obtain ⟨t, rfl, h1, h2⟩ := hx
    exact ⟨c, h1, h2⟩
  · rw [if_neg c] at hx; cases hx
theorem extend_some {R : Rl} (hR : Rt R) (hac : irB (clos R) = true) : ∃ x, extendL R = some x ∧ x.length = R.n.toNat ∧ goodL (aheadL R) R.n.toNat 0#64 x := by
  rw [extendL]
  cases h : ordersL R with
  | nil => exact absurd h (orders_ex hR hac)
  | cons x l => exact ⟨x, rfl, (orders_good hR (by rw [h]; exact List.mem_cons_self)).2⟩
theorem extend_none {R : Rl} (hR : Rt R) (hac : ¬ irB (clos R) = true) : extendL R = none := by
  rw [extendL, ordersL, hR.right, if_neg hac]; rfl
end Go.Proofs.YtocpkgckllbjlaaDoor

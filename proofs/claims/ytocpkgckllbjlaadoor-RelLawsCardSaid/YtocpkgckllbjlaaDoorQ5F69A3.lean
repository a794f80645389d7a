/-
  Own work, merged: L4.
-/
import Derived.AtR
import Derived.Below
import Derived.ChangeKeysEq
import Derived.KernelRfl
import Derived.LaidMore
import Derived.Laws.AppendOwn
import Derived.Laws.BytesString
import Derived.Laws.Cells
import Derived.Laws.CopyRow
import Derived.Laws.Entries
import Derived.Laws.Rows
import Derived.Laws.Small
import Derived.Laws.StructEq
import Derived.Lib.LaidTab
import Derived.Lib.TrailingZeros
import Derived.Maps.AppendAt
import Derived.OpenShut
import Derived.Orders
import Derived.ProofKit
import Derived.RangeFuncRecord
import Derived.SevenTiedAt
import Derived.Stop.Joined
import Derived.Test.YtocpkgckllbjlaaDoorCards
import Derived.Test.YtocpkgckllbjlaaDoorProg
import Derived.Test.YtocpkgckllbjlaaDoorRows
import Derived.Test.YtocpkgckllbjlaaDoorTie
import Derived.Test.YtocpkgckllbjlaaDoorQDFD2D0
/-
  RelLaws answers true. Own work.
-/
namespace Go.Proofs.YtocpkgckllbjlaaDoor
open Go.AM
set_option maxRecDepth 100000

def invR (R : Rl) : Rl := Rl.gen R.n fun x y => R.has y x
def notR (R : Rl) : Rl := Rl.gen R.n (pNot R)

theorem invR_n (R : Rl) : (invR R).n = R.n := Rl.n_gen _ _
theorem invR_has (R : Rl) (a b : Nat) : (invR R).has a b = true ↔ R.has b a = true := by
  unfold invR
  rw [Rl.has_gen]
  constructor
  · intro h; simp at h; exact h.2
  · intro h; have := Rl.has_lt R h; simp [h, this]
theorem invR_rt {R : Rl} (hR : Rt R) : Rt (invR R) := ⟨by rw [invR_n]; exact hR.lo, by rw [invR_n]; exact hR.hi, fun a b h => by
  rw [invR_n]
  have := hR.lt _ _ ((invR_has R a b).1 h)
  exact ⟨this.2, this.1⟩⟩
theorem notR_n (R : Rl) : (notR R).n = R.n := Rl.n_gen _ _
theorem notR_has {R : Rl} (hR : Rt R) (a b : Nat) : (notR R).has a b = true ↔ ((a : Int) < R.n ∧ (b : Int) < R.n) ∧ ¬ R.has a b = true := by
  unfold notR
  rw [Rl.has_gen]
  unfold pNot
  have := hR.hi
  constructor
  · intro h; simp at h; simp [h]
  · rintro ⟨⟨h1, h2⟩, h3⟩; simp [h3]; omega
theorem notR_rt {R : Rl} (hR : Rt R) : Rt (notR R) := ⟨by rw [notR_n]; exact hR.lo, by rw [notR_n]; exact hR.hi, fun a b h => by
  rw [notR_n]; exact ((notR_has hR a b).1 h).1⟩

theorem inverseT {r : Rl} (hr : Rt r) (w : World) (hT : TabAt w) (h0 : 0 < w.heap.size) : Gives Tryd.prog 26 [encRel r] w (encRel (invR r)) := by
  have := inverse_ok r w hT h0
  rwa [inverse_eq, hr.right] at this
theorem notT {r : Rl} (hr : Rt r) (w : World) : Gives Tryd.prog 28 [encRel r] w (encRel (notR r)) := by
  have := not_ok r w
  rwa [not_eq, hr.right] at this
theorem void_rt {n : Int} (h0 : 0 ≤ n) (h1 : n ≤ 64) : Rt (Rl.void n) := ⟨h0, h1, fun a b h => by rw [void_has] at h; cases h⟩

theorem countP_or_and {α : Type} (p q : α → Bool) : ∀ l : List α, l.countP (fun x => p x || q x) + l.countP (fun x => p x && q x) = l.countP p + l.countP q
  | [] => rfl
  | x :: l => by
    have := countP_or_and p q l
    simp only [List.countP_cons]
    cases p x <;> cases q x <;> simp <;> omega

theorem bits_count (R : Rl) (i : Nat) : (bitsL (R.row i)).length = (List.range 64).countP fun j => R.has i j := by
  unfold bitsL
  rw [List.countP_eq_length_filter]
  rfl

theorem sum_or_and {R S : Rl} (hR : Rt R) (hS : Rt S) (hn : R.n = S.n) : ∀ d i, sumL (twoR 0 R S) i d + sumL (twoR 1 R S) i d = sumL R i d + sumL S i d
  | 0, _ => rfl
  | d + 1, i => by
    have := sum_or_and hR hS hn d (i + 1)
    simp only [sumL, bits_count]
    have e0 : (fun j => (twoR 0 R S).has i j) = fun j => R.has i j || S.has i j := by funext j; rw [twoR_has 0 hR hS hn]; rfl
    have e1 : (fun j => (twoR 1 R S).has i j) = fun j => R.has i j && S.has i j := by funext j; rw [twoR_has 1 hR hS hn]; rfl
    rw [e0, e1]
    have := countP_or_and (fun j => R.has i j) (fun j => S.has i j) (List.range 64)
    omega

theorem countT {r : Rl} (hr : Rt r) (w : World) : Gives Tryd.prog 15 [encRel r] w (.int .i64 (sumL r 0 64 : Int)) := by
  have := count_ok r w
  rwa [hr.right] at this

theorem relLaws_ok (r s t : Rl) (w : World) (hT : TabAt w) (h0 : 0 < w.heap.size) : Gives Tryd.prog 11 [encRel r, encRel s, encRel t] w (.bool true) := by
  have hTA : ∀ w', Agree (fun _ => False) w w' → TabAt w' ∧ 0 < w'.heap.size := fun w' hA => ⟨hT.agree hA (fun f => f), Nat.lt_of_lt_of_le h0 hA.size⟩
  have hwk : ∀ w', Agree (fun _ => False) w w' → Gives Tryd.prog 62 [] w' (.bool true) := fun w' hA => works_ok w' (hTA w' hA).1 (hTA w' hA).2
  by_cases cr : checkI r = 0
  · by_cases cs : checkI s = 0
    · by_cases ct : checkI t = 0
      · by_cases hn : r.n = s.n
        · by_cases hn2 : s.n = t.n
          · have hr := rt_check cr
            have hs := rt_check cs
            have ht := rt_check ct
            have hrt : r.n = t.n := hn.trans hn2
            have U : ∀ (a b : Rl) w', Agree (fun _ => False) w w' → Gives Tryd.prog 21 [encRel a, encRel b] w' (encRel (twoR 0 a b)) := fun a b w' _ => unionT a b w'
            have M : ∀ (a b : Rl) w', Agree (fun _ => False) w w' → Gives Tryd.prog 23 [encRel a, encRel b] w' (encRel (twoR 1 a b)) := fun a b w' _ => meetT a b w'
            have D : ∀ (a b : Rl) w', Agree (fun _ => False) w w' → Gives Tryd.prog 24 [encRel a, encRel b] w' (encRel (twoR 2 a b)) := fun a b w' _ => minusT a b w'
            have K : ∀ (a b : Rl) w', Agree (fun _ => False) w w' → Gives Tryd.prog 25 [encRel a, encRel b] w' (encRel (twoR 3 a b)) := fun a b w' hA => composeT a b w' (hTA w' hA).1 (hTA w' hA).2
            have N : ∀ (a : Rl), Rt a → ∀ w', Agree (fun _ => False) w w' → Gives Tryd.prog 28 [encRel a] w' (encRel (notR a)) := fun a ha w' _ => notT ha w'
            have I : ∀ (a : Rl), Rt a → ∀ w', Agree (fun _ => False) w w' → Gives Tryd.prog 26 [encRel a] w' (encRel (invR a)) := fun a ha w' hA => inverseT ha w' (hTA w' hA).1 (hTA w' hA).2
            have C : ∀ (a : Rl), Rt a → ∀ w', Agree (fun _ => False) w w' → Gives Tryd.prog 15 [encRel a] w' (.int .i64 (sumL a 0 64 : Int)) := fun a ha w' _ => countT ha w'
            have hu := twoR_rt 0 hr hs hn
            have hun := twoR_n 0 hr hs hn
            have hm := twoR_rt 1 hr hs hn
            have hmn := twoR_n 1 hr hs hn
            have hc := twoR_rt 3 hr hs hn
            have hcn := twoR_n 3 hr hs hn
            have hst := twoR_rt 0 hs ht hn2
            have hstn := twoR_n 0 hs ht hn2
            have hcst := twoR_rt 3 hs ht hn2
            have hcstn := twoR_n 3 hs ht hn2
            have hmrt := twoR_rt 1 hr ht hrt
            have hmrtn := twoR_n 1 hr ht hrt
            have hcrt := twoR_rt 3 hr ht hrt
            have hcrtn := twoR_n 3 hr ht hrt
            have hnr := notR_rt hr
            have hns := notR_rt hs
            have hnu := notR_rt hu
            have hir := invR_rt hr
            have his := invR_rt hs
            have hone := onL_rt hr.lo hr.hi (s := 18446744073709551615#64)
            have honen := onL_n hr.lo hr.hi (s := 18446744073709551615#64)
            have hv := void_rt hr.lo hr.hi
            have ones : ∀ a, a < 64 → (18446744073709551615#64).getLsbD a = true := fun a ha => by
              have : 18446744073709551615#64 = BitVec.allOnes 64 := rfl
              rw [this, BitVec.getLsbD_allOnes, decide_eq_true ha]
            have e61 : twoR 0 r s = twoR 0 s r := rl_ext (by rw [hun, twoR_n 0 hs hr hn.symm, hn]) fun a b => by rw [union_has hr hs hn, union_has hs hr hn.symm]; exact or_comm
            have e67 : twoR 1 r s = twoR 1 s r := rl_ext (by rw [hmn, twoR_n 1 hs hr hn.symm, hn]) fun a b => by rw [meet_has hr hs hn, meet_has hs hr hn.symm]; exact and_comm
            have e77 : notR (twoR 0 r s) = twoR 1 (notR r) (notR s) := rl_ext (by rw [notR_n, hun, twoR_n 1 hnr hns (by rw [notR_n, notR_n, hn]), notR_n]) fun a b => by
              rw [notR_has hu, hun, union_has hr hs hn, meet_has hnr hns (by rw [notR_n, notR_n, hn]), notR_has hr, notR_has hs, hn]
              grind
            have e84 : notR (notR r) = r := rl_ext (by rw [notR_n, notR_n]) fun a b => by
              rw [notR_has hnr, notR_n, notR_has hr]
              have := hr.lt a b
              grind
            have e94 : twoR 2 r s = twoR 1 r (notR s) := rl_ext (by rw [twoR_n 2 hr hs hn, twoR_n 1 hr hns (by rw [notR_n, hn])]) fun a b => by
              rw [minus_has hr hs hn, meet_has hr hns (by rw [notR_n, hn]), notR_has hs, ← hn]
              have := hr.lt a b
              grind
            have e102 : twoR 1 r (notR r) = Rl.void r.n := rl_ext (by rw [twoR_n 1 hr hnr (notR_n r).symm]; rfl) fun a b => by
              rw [meet_has hr hnr (notR_n r).symm, notR_has hr, void_has]
              grind
            have e112 : twoR 0 (twoR 0 r s) t = twoR 0 r (twoR 0 s t) := rl_ext (by rw [twoR_n 0 hu ht (hun.trans hrt), hun, twoR_n 0 hr hst (hn.trans hstn.symm)]) fun a b => by
              rw [union_has hu ht (hun.trans hrt), union_has hr hs hn, union_has hr hst (hn.trans hstn.symm), union_has hs ht hn2]
              grind
            have e124 : twoR 1 r (twoR 0 s t) = twoR 0 (twoR 1 r s) (twoR 1 r t) := rl_ext (by rw [twoR_n 1 hr hst (hn.trans hstn.symm), twoR_n 0 hm hmrt (hmn.trans hmrtn.symm), hmn]) fun a b => by
              rw [meet_has hr hst (hn.trans hstn.symm), union_has hs ht hn2, union_has hm hmrt (hmn.trans hmrtn.symm), meet_has hr hs hn, meet_has hr ht hrt]
              grind
            have k137 : (sumL (twoR 0 r s) 0 64 : Int) + (sumL (twoR 1 r s) 0 64 : Int) = (sumL r 0 64 : Int) + (sumL s 0 64 : Int) := by
              have := sum_or_and hr hs hn 64 0
              omega
            have e150 : twoR 3 (twoR 3 r s) t = twoR 3 r (twoR 3 s t) := rl_ext (by rw [twoR_n 3 hc ht (hcn.trans hrt), hcn, twoR_n 3 hr hcst (hn.trans hcstn.symm)]) fun a b => by
              rw [comp_has hc ht (hcn.trans hrt), comp_has hr hcst (hn.trans hcstn.symm)]
              constructor
              · rintro ⟨y, h1, h2⟩
                obtain ⟨x, h3, h4⟩ := (comp_has hr hs hn _ _).1 h1
                exact ⟨x, h3, (comp_has hs ht hn2 _ _).2 ⟨y, h4, h2⟩⟩
              · rintro ⟨x, h1, h2⟩
                obtain ⟨y, h3, h4⟩ := (comp_has hs ht hn2 _ _).1 h2
                exact ⟨y, (comp_has hr hs hn _ _).2 ⟨x, h1, h3⟩, h4⟩
            have e162 : twoR 3 r (twoR 0 s t) = twoR 0 (twoR 3 r s) (twoR 3 r t) := rl_ext (by rw [twoR_n 3 hr hst (hn.trans hstn.symm), twoR_n 0 hc hcrt (hcn.trans hcrtn.symm), hcn]) fun a b => by
              rw [comp_has hr hst (hn.trans hstn.symm), union_has hc hcrt (hcn.trans hcrtn.symm), comp_has hr hs hn, comp_has hr ht hrt]
              constructor
              · rintro ⟨y, h1, h2⟩
                rcases (union_has hs ht hn2 _ _).1 h2 with h | h
                · exact .inl ⟨y, h1, h⟩
                · exact .inr ⟨y, h1, h⟩
              · rintro (⟨y, h1, h2⟩ | ⟨y, h1, h2⟩)
                · exact ⟨y, h1, (union_has hs ht hn2 _ _).2 (.inl h2)⟩
                · exact ⟨y, h1, (union_has hs ht hn2 _ _).2 (.inr h2)⟩
            have e169 : twoR 3 r (onL r.n 18446744073709551615#64) = r := rl_ext (twoR_n 3 hr hone honen.symm) fun a b => by
              rw [comp_has hr hone honen.symm]
              constructor
              · rintro ⟨y, h1, h2⟩
                obtain ⟨rfl, _⟩ := (onL_all_has hr.lo hr.hi _ _).1 h2
                exact h1
              · intro h
                have := hr.lt a b h
                have h64 := hr.hi
                exact ⟨b, h, (onL_all_has hr.lo hr.hi _ _).2 ⟨rfl, this.2, ones b (by omega)⟩⟩
            have e176 : twoR 3 (onL r.n 18446744073709551615#64) r = r := rl_ext (by rw [twoR_n 3 hone hr honen, honen]) fun a b => by
              rw [comp_has hone hr honen]
              constructor
              · rintro ⟨y, h1, h2⟩
                obtain ⟨rfl, _⟩ := (onL_all_has hr.lo hr.hi _ _).1 h1
                exact h2
              · intro h
                have := hr.lt a b h
                have h64 := hr.hi
                exact ⟨a, (onL_all_has hr.lo hr.hi _ _).2 ⟨rfl, this.1, ones a (by omega)⟩, h⟩
            have e183 : twoR 3 r (Rl.void r.n) = Rl.void r.n := rl_ext (twoR_n 3 hr hv rfl) fun a b => by
              rw [comp_has hr hv rfl, void_has]
              constructor
              · rintro ⟨y, _, h⟩; rw [void_has] at h; cases h
              · intro h; cases h
            have hin : (invR s).n = (invR r).n := by rw [invR_n, invR_n, hn]
            have e192 : invR (twoR 3 r s) = twoR 3 (invR s) (invR r) := rl_ext (by rw [invR_n, hcn, twoR_n 3 his hir hin, invR_n, hn]) fun a b => by
              rw [invR_has, comp_has hr hs hn, comp_has his hir hin]
              constructor
              · rintro ⟨y, h1, h2⟩; exact ⟨y, (invR_has s a y).2 h2, (invR_has r y b).2 h1⟩
              · rintro ⟨y, h1, h2⟩; exact ⟨y, (invR_has r y b).1 h2, (invR_has s a y).1 h1⟩
            have e198 : invR (invR r) = r := rl_ext (by rw [invR_n, invR_n]) fun a b => by rw [invR_has, invR_has]
            have k206 : domL (rightL (invR r)) = ranL r := by unfold ranL invR; rw [hr.right]
            exact laws_6 r s t _ _ _ _ _ _ _ _ _ _ _ _ _ _ _ _ _ _ _ _ _ _ _ _ _ _ _ _ _ _ _ _ _ _ _ _ _ _ _ _ _ _ _ _ _ _ _ _ w cr cs ct hn hn2 k137 k206 hwk (fun w' _ => all_ok w') (fun w' _ => on_ok _ _ w') (U r s) (M r s) (U s r) e61 (M s r) e67 (N _ hu) (N r hr) (N s hs) (M _ _) e77
              (N r hr) (N _ hnr) e84 (D r s) (N s hs) (M _ _) e94 (N r hr) (M _ _) e102 (U _ _) (U _ _) (U _ _) e112 (U _ _) (M _ _) (M _ _) (U _ _) e124 (C _ hu) (C _ hm) (C _ hr) (C _ hs)
              (K r s) (K _ _) (K _ _) (K _ _) e150 (U _ _) (K _ _) (K _ _) (U _ _) e162 (K _ _) e169 (K _ _) e176 (K _ _) e183 (I _ hc) (I _ hs) (I _ hr) (K _ _) e192 (I _ hr) (I _ hir) e198 (I _ hr)
              (fun w' _ => domain_ok _ w') (fun w' hA => range_ok r w' (hTA w' hA).1 (hTA w' hA).2)
          · exact laws_5 r s t w cr cs ct hn hn2 hwk
        · exact laws_4 r s t w cr cs ct hn hwk
      · exact laws_3 r s t w cr cs ct hwk
    · exact laws_2 r s t w cr cs hwk
  · exact laws_1 r s t w cr hwk
end Go.Proofs.YtocpkgckllbjlaaDoor

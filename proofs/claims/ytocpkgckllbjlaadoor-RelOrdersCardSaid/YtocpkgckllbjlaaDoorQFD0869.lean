/-
  Own work, merged: E3, E4, E5, E6, E7, L1, L2, L3.
-/
import Derived.AtR
import Derived.Below
import Derived.ChangeKeysEq
import Derived.KernelRfl
import Derived.LaidMore
import Derived.Laws.AppendOwn
import Derived.Laws.BytesString
import Derived.Laws.Cells
import Derived.Laws.CopyRow
import Derived.Laws.Entries
import Derived.Laws.Rows
import Derived.Laws.Small
import Derived.Laws.StructEq
import Derived.Lib.LaidTab
import Derived.Lib.TrailingZeros
import Derived.Maps.AppendAt
import Derived.OpenShut
import Derived.Orders
import Derived.ProofKit
import Derived.RangeFuncRecord
import Derived.SevenTiedAt
import Derived.Stop.Joined
import Derived.Test.YtocpkgckllbjlaaDoorCards
import Derived.Test.YtocpkgckllbjlaaDoorProg
import Derived.Test.YtocpkgckllbjlaaDoorRows
import Derived.Test.YtocpkgckllbjlaaDoorTie
import Derived.Test.YtocpkgckllbjlaaDoorQE28A81
/-
  The maker's loop. Own work.
-/
namespace Go.Proofs.YtocpkgckllbjlaaDoor
open Go.AM
set_option maxRecDepth 100000

theorem encN_app {vs : List Value} {l : List Nat} (hv : vs.take l.length = encN l) (i : Nat) : (vs.take (l.length * 1) ++ [Value.int .i64 (i : Int)]).take (l.length + 1) = encN (l ++ [i]) := by
  rw [Nat.mul_one, hv, encN_append]
  refine List.take_of_length_le ?_
  simp

theorem encN_back {vs : List Value} {l : List Nat} {i : Nat} (hv : vs.take (l ++ [i]).length = encN (l ++ [i])) : vs.take l.length = encN l := by
  have := congrArg (List.take l.length) hv
  rw [List.take_take, encN_append, List.take_left' (by simp)] at this
  rw [← this]
  congr 1
  simp

/-- What a number leads to. -/
def extF (A : Rl) (n d : Nat) (l : List Nat) (dn : BitVec 64) (i : Nat) : List (List Nat) := if rdyB A dn i then extL A n d (l ++ [i]) (dn ||| 1#64 <<< i) else []
def extP (A : Rl) (n d : Nat) (l : List Nat) (dn : BitVec 64) (i : Nat) : List (List Nat) := (List.range i).flatMap (extF A n d l dn)

theorem extL_succ (A : Rl) (n d : Nat) (l : List Nat) (dn : BitVec 64) : extL A n (d + 1) l dn = extP A n d l dn n := rfl
theorem extP_succ (A : Rl) (n d : Nat) (l : List Nat) (dn : BitVec 64) (i : Nat) : extP A n d l dn (i + 1) = extP A n d l dn i ++ extF A n d l dn i := by
  simp [extP, List.range_succ]
theorem extP_prefix (A : Rl) (n d : Nat) (l : List Nat) (dn : BitVec 64) {i j : Nat} (h : i ≤ j) : extP A n d l dn i <+: extP A n d l dn j := by
  obtain ⟨k, rfl⟩ := Nat.exists_eq_add_of_le h
  induction k with
  | zero => exact List.prefix_refl _
  | succ k ih => exact (ih (by omega)).trans ⟨_, (extP_succ A n d l dn (i + k)).symm⟩

theorem bit_off {dn : BitVec 64} {i : Nat} (h : dn.getLsbD i = false) : (dn ||| 1#64 <<< i) &&& ~~~(1#64 <<< i) = dn := by
  apply BitVec.eq_of_getLsbD_eq
  intro j hj
  rw [BitVec.getLsbD_and, BitVec.getLsbD_or, BitVec.getLsbD_not]
  by_cases hi : i < 64
  · rw [one_shl_get i j hi]
    by_cases e : j = i
    · subst e; simp only [h, decide_true, Bool.false_or, hj, Bool.not_true, Bool.and_false]
    · simp only [e, hj, decide_true, decide_false, Bool.or_false, Bool.not_false, Bool.and_true]
  · have : (1#64 <<< i).getLsbD j = false := by
      rw [BitVec.getLsbD_shiftLeft]
      have : j < i := by omega
      simp [this]
    simp only [this, hj, decide_true, Bool.or_false, Bool.not_false, Bool.and_true]

theorem rdyB_off {A : Rl} {dn : BitVec 64} {i : Nat} (h : rdyB A dn i = true) : dn.getLsbD i = false := by
  unfold rdyB at h
  simp at h
  exact h.1

noncomputable def onBody : Code := (Tryd.f86).body.get rfl

theorem Run.join7 {C : Ctx} {K : List Item} {S0 : St} (P : St → Prop) (h : ∃ k7, ((∀ σ', P σ' → Run C k7 σ') → Run C K S0) ∧ (∀ σ', P σ' → Run C k7 σ')) : Run C K S0 := let ⟨_, h1, h2⟩ := h; h1 h2

/-- The loop's temporaries. -/
abbrev onT (y : Value) (n i : Nat) : List (Nat × AV) := [(0, .ptr 0 0), (1, .v y), (28, .v (.int .i64 (n : Int))), (29, .v (.int .i64 (i : Int)))]

set_option maxHeartbeats 1000000 in
theorem on_succ (A : Rl) (n : Nat) (hn : n ≤ 64) (d : Nat) (ih : OnOK A n d) : OnOK A n (d + 1) := by
  intro l dn bo br w fp J Js y pre hl hst hlt hfo hfr hJ hJs h0 hy
  have hl' : l.length < n := by omega
  refine on_enter (c := onBody) rfl hst hlt hfo hfr h0 fun s hs => ?_
  rw [extL_succ] at hy ⊢
  generalize hRR : OnRes w fp bo br A n l dn J Js pre (extP A n d l dn n) = RR
  have hout : ∀ X M fp' σ a w' v, Rel (onC bo y w fp br X RR) M fp' σ a w' → lk σ.t 0 = some (.ptr 0 0) → onAt A n l dn σ.h →
      (X = J (pre ++ extP A n d l dn n) ∧ v = .bool true ∨ (∃ q, q <+: pre ++ extP A n d l dn n ∧ X = Js q) ∧ v = .bool false) → RR v w' := by
    intro X M fp' σ a w' v hr h0 hh hv
    obtain ⟨_, br', h1, h2, h3, h4⟩ := on_leave hr h0 hh
    rw [← hRR]
    refine ⟨fp', br', h1, h2, h3, h4, ?_⟩
    rcases hv with ⟨rfl, rfl⟩ | ⟨⟨q, hq, rfl⟩, rfl⟩
    · exact .inl ⟨rfl, hr.outer⟩
    · exact .inr ⟨rfl, q, hq, hr.outer⟩
  obtain ⟨k, hk1, hk2⟩ : ∃ k, (∀ s, onS l s → Run (onC bo y w fp br (J pre) RR) k ⟨onT y n 0, onH A n dn l.length s, 2⟩ →
        Run (onC bo y w fp br (J pre) RR) [.code onBody] ⟨[(0, .ptr 0 0), (1, .v y)], onH A n dn l.length s, 2⟩) ∧
      (∀ m i s, i + m = n → onS l s → Run (onC bo y w fp br (J (pre ++ extP A n d l dn i)) RR) k ⟨onT y n i, onH A n dn l.length s, 2⟩) := by
    apply Exists.intro
    apply And.intro
    · rintro (_ | ⟨m, vs⟩) hs h
      · refine RunF_sound tab_ok (hJ pre) 100 [] _ _ rfl ?_ ?_
        · simp
        refine Run.drawA (hJ pre) rfl [] [(0, ordB A n (.v (.slice none 0 0)) dn)] rfl rfl ⟨rfl, trivial⟩ ?_
        refine RunOF_sound tab_ok (hJ pre) rfl rfl 200 [] _ _ rfl ?_ ?_
        · simp [ordAt_n]
        refine RunO.done ?_
        obtain rfl : l = [] := hs
        refine RunF_sound tab_ok (hJ pre) 200 [false] _ _ rfl ?_ ?_
        · simp at hl'
          simp [ordAt_n]; omega
        exact Run.to h ⟨rfl, rfl, by simp [ordAt_n, lk], rfl, trivial⟩ ⟨rfl, trivial⟩
      · refine RunF_sound tab_ok (hJ pre) 100 [] _ _ rfl ?_ ?_
        · simp
        refine Run.drawA (hJ pre) rfl [] [(0, ordB A n (.sl 1 1 0 l.length) dn)] rfl rfl ⟨rfl, trivial⟩ ?_
        refine RunOF_sound tab_ok (hJ pre) rfl rfl 200 [] _ _ rfl ?_ ?_
        · simp [ordAt_n]
        refine RunO.done ?_
        refine RunF_sound tab_ok (hJ pre) 200 [false] _ _ rfl ?_ ?_
        · simp [ordAt_n]; omega
        exact Run.to h ⟨rfl, rfl, by simp [ordAt_n, lk], rfl, trivial⟩ ⟨rfl, rfl, trivial⟩
    · intro m
      induction m with
      | zero =>
        intro i s hi hs
        obtain rfl : i = n := by omega
        rcases s with _ | ⟨m, vs⟩
        · refine RunF_sound tab_ok (hJ _) 100 [false] _ _ rfl ?_ ?_
          · simp
          refine Run.retF tab_ok Tryd.func86 rfl trivial fun M fp' a w' hr => ?_
          exact hout _ M fp' _ a w' _ hr rfl (.inl ⟨rfl, hs⟩) (.inl ⟨rfl, rfl⟩)
        · refine RunF_sound tab_ok (hJ _) 100 [false] _ _ rfl ?_ ?_
          · simp
          refine Run.retF tab_ok Tryd.func86 rfl trivial fun M fp' a w' hr => ?_
          exact hout _ M fp' _ a w' _ hr rfl (.inr ⟨1, m, vs, by decide, rfl, rfl, hs.1, hs.2⟩) (.inl ⟨rfl, rfl⟩)
      | succ m ihm =>
        intro i s hi hs
        have hin : i < n := by omega
        have hi64 : i < 64 := by omega
        refine Run.join7 (fun σ' : St => rdyB A dn i = true ∧ inTC σ'.t [(0, .ptr 0 0), (1, .v y), (5, .v (.int .i64 (i : Int))), (28, .v (.int .i64 (n : Int))), (29, .v (.int .i64 (i : Int)))] ∧
              ∃ m' vs', lk σ'.h 0 = some (ordB A n (.sl 3 1 0 (l.length + 1)) (dn ||| 1#64 <<< i)) ∧ lk σ'.h 3 = some (.row 3 1 m' vs') ∧ l.length + 1 ≤ m' ∧ vs'.take (l.length + 1) = encN (l ++ [i])) ?_
        apply Exists.intro
        apply And.intro
        · intro h7
          by_cases c : rdyB A dn i = true
          · rcases s with _ | ⟨m', vs⟩
            · obtain rfl : l = [] := hs
              refine RunF_sound tab_ok (hJ _) 100 [true] _ _ rfl ?_ ?_
              · simp; omega
              refine Run.callM (hJ _) rfl rfl rfl rfl rfl rfl ready_enters rfl (fun M w' hM _ => ready_ok A n _ dn _ i w' (ordB_at.1 (hM 0 _ rfl)) hi64) ?_
              refine RunF_sound tab_ok (hJ _) 100 [false] _ _ rfl ?_ ?_
              · simp [c]
              refine Run.drawOrd (hJ _) rfl [] trivial fun ol hol => ?_
              have h := hol
              rcases ord_fork' 5 7 rfl h with h | h
              · rcases ord_fork' 12 7 rfl h with h | h
                · rcases ord_fork' 12 5 rfl h with h | h
                  · refine draw_leaf [5, 12] (LikeS.add 12 5 (LikeS.add 12 7 (LikeS.add 5 7 (LikeS.refl _)))) h rfl rfl ?_
                    refine RunOF_sound tab_ok (hJ _) rfl rfl 200 [] _ _ rfl ?_ ?_
                    · simp [maxLen, fillL, repL, splice, Value.cells, Value.oneCell', okCell, inT]
                    refine RunO.done ?_
                    refine h7 _ ⟨c, ⟨⟨_, rfl, fun M => rfl⟩, ⟨_, rfl, fun M => rfl⟩, ⟨_, rfl, fun M => rfl⟩, ⟨_, rfl, fun M => rfl⟩, ⟨_, rfl, fun M => rfl⟩, trivial⟩, _, _, ?_, rfl, ?_, ?_⟩
                    · simp [lk, ordB, shl1_un]
                    · exact Nat.le_refl _
                    · rfl
                  · refine draw_leaf [5, 12] (LikeS.add 5 12 (LikeS.add 12 7 (LikeS.add 5 7 (LikeS.refl _)))) h rfl rfl ?_
                    refine RunOF_sound tab_ok (hJ _) rfl rfl 200 [] _ _ rfl ?_ ?_
                    · simp [maxLen, fillL, repL, splice, Value.cells, Value.oneCell', okCell, inT]
                    refine RunO.done ?_
                    refine h7 _ ⟨c, ⟨⟨_, rfl, fun M => rfl⟩, ⟨_, rfl, fun M => rfl⟩, ⟨_, rfl, fun M => rfl⟩, ⟨_, rfl, fun M => rfl⟩, ⟨_, rfl, fun M => rfl⟩, trivial⟩, _, _, ?_, rfl, ?_, ?_⟩
                    · simp [lk, ordB, shl1_un]
                    · exact Nat.le_refl _
                    · rfl
                · rcases ord_fork' 12 8 rfl h with h | h
                  · refine draw_leaf [5, 12] (LikeS.add 12 8 (LikeS.add 7 12 (LikeS.add 5 7 (LikeS.refl _)))) h rfl rfl ?_
                    refine RunOF_sound tab_ok (hJ _) rfl rfl 200 [] _ _ rfl ?_ ?_
                    · simp [maxLen, fillL, repL, splice, Value.cells, Value.oneCell', okCell, inT]
                    refine RunO.done ?_
                    refine h7 _ ⟨c, ⟨⟨_, rfl, fun M => rfl⟩, ⟨_, rfl, fun M => rfl⟩, ⟨_, rfl, fun M => rfl⟩, ⟨_, rfl, fun M => rfl⟩, ⟨_, rfl, fun M => rfl⟩, trivial⟩, _, _, ?_, rfl, ?_, ?_⟩
                    · simp [lk, ordB, shl1_un]
                    · exact Nat.le_refl _
                    · rfl
                  · refine draw_leaf [5, 12] (LikeS.add 8 12 (LikeS.add 7 12 (LikeS.add 5 7 (LikeS.refl _)))) h rfl rfl ?_
                    refine RunOF_sound tab_ok (hJ _) rfl rfl 200 [] _ _ rfl ?_ ?_
                    · simp [maxLen, fillL, repL, splice, Value.cells, Value.oneCell', okCell, inT]
                    refine RunO.done ?_
                    refine h7 _ ⟨c, ⟨⟨_, rfl, fun M => rfl⟩, ⟨_, rfl, fun M => rfl⟩, ⟨_, rfl, fun M => rfl⟩, ⟨_, rfl, fun M => rfl⟩, ⟨_, rfl, fun M => rfl⟩, trivial⟩, _, _, ?_, rfl, ?_, ?_⟩
                    · simp [lk, ordB, shl1_un]
                    · exact Nat.le_refl _
                    · rfl
              · rcases ord_fork' 12 5 rfl h with h | h
                · rcases ord_fork' 12 7 rfl h with h | h
                  · refine draw_leaf [5, 12] (LikeS.add 12 7 (LikeS.add 12 5 (LikeS.add 7 5 (LikeS.refl _)))) h rfl rfl ?_
                    refine RunOF_sound tab_ok (hJ _) rfl rfl 200 [] _ _ rfl ?_ ?_
                    · simp [maxLen, fillL, repL, splice, Value.cells, Value.oneCell', okCell, inT]
                    refine RunO.done ?_
                    refine h7 _ ⟨c, ⟨⟨_, rfl, fun M => rfl⟩, ⟨_, rfl, fun M => rfl⟩, ⟨_, rfl, fun M => rfl⟩, ⟨_, rfl, fun M => rfl⟩, ⟨_, rfl, fun M => rfl⟩, trivial⟩, _, _, ?_, rfl, ?_, ?_⟩
                    · simp [lk, ordB, shl1_un]
                    · exact Nat.le_refl _
                    · rfl
                  · refine draw_leaf [5, 12] (LikeS.add 7 12 (LikeS.add 12 5 (LikeS.add 7 5 (LikeS.refl _)))) h rfl rfl ?_
                    refine RunOF_sound tab_ok (hJ _) rfl rfl 200 [] _ _ rfl ?_ ?_
                    · simp [maxLen, fillL, repL, splice, Value.cells, Value.oneCell', okCell, inT]
                    refine RunO.done ?_
                    refine h7 _ ⟨c, ⟨⟨_, rfl, fun M => rfl⟩, ⟨_, rfl, fun M => rfl⟩, ⟨_, rfl, fun M => rfl⟩, ⟨_, rfl, fun M => rfl⟩, ⟨_, rfl, fun M => rfl⟩, trivial⟩, _, _, ?_, rfl, ?_, ?_⟩
                    · simp [lk, ordB, shl1_un]
                    · exact Nat.le_refl _
                    · rfl
                · rcases ord_fork' 12 8 rfl h with h | h
                  · refine draw_leaf [5, 12] (LikeS.add 12 8 (LikeS.add 5 12 (LikeS.add 7 5 (LikeS.refl _)))) h rfl rfl ?_
                    refine RunOF_sound tab_ok (hJ _) rfl rfl 200 [] _ _ rfl ?_ ?_
                    · simp [maxLen, fillL, repL, splice, Value.cells, Value.oneCell', okCell, inT]
                    refine RunO.done ?_
                    refine h7 _ ⟨c, ⟨⟨_, rfl, fun M => rfl⟩, ⟨_, rfl, fun M => rfl⟩, ⟨_, rfl, fun M => rfl⟩, ⟨_, rfl, fun M => rfl⟩, ⟨_, rfl, fun M => rfl⟩, trivial⟩, _, _, ?_, rfl, ?_, ?_⟩
                    · simp [lk, ordB, shl1_un]
                    · exact Nat.le_refl _
                    · rfl
                  · refine draw_leaf [5, 12] (LikeS.add 8 12 (LikeS.add 5 12 (LikeS.add 7 5 (LikeS.refl _)))) h rfl rfl ?_
                    refine RunOF_sound tab_ok (hJ _) rfl rfl 200 [] _ _ rfl ?_ ?_
                    · simp [maxLen, fillL, repL, splice, Value.cells, Value.oneCell', okCell, inT]
                    refine RunO.done ?_
                    refine h7 _ ⟨c, ⟨⟨_, rfl, fun M => rfl⟩, ⟨_, rfl, fun M => rfl⟩, ⟨_, rfl, fun M => rfl⟩, ⟨_, rfl, fun M => rfl⟩, ⟨_, rfl, fun M => rfl⟩, trivial⟩, _, _, ?_, rfl, ?_, ?_⟩
                    · simp [lk, ordB, shl1_un]
                    · exact Nat.le_refl _
                    · rfl
            · obtain ⟨hm7, hv7⟩ := hs
              refine RunF_sound tab_ok (hJ _) 100 [true] _ _ rfl ?_ ?_
              · simp; omega
              refine Run.callM (hJ _) rfl rfl rfl rfl rfl rfl ready_enters rfl (fun M w' hM _ => ready_ok A n _ dn _ i w' (ordB_at.1 (hM 0 _ rfl)) hi64) ?_
              refine RunF_sound tab_ok (hJ _) 100 [false] _ _ rfl ?_ ?_
              · simp [c]
              refine Run.drawOrd (hJ _) rfl [] trivial fun ol hol => ?_
              have h := hol
              rcases ord_fork' 5 7 rfl h with h | h
              · rcases ord_fork' 12 7 rfl h with h | h
                · rcases ord_fork' 12 5 rfl h with h | h
                  · refine draw_leaf [5, 12] (LikeS.add 12 5 (LikeS.add 12 7 (LikeS.add 5 7 (LikeS.refl _)))) h rfl rfl ?_
                    refine RunOF_sound tab_ok (hJ _) rfl rfl 200 [] _ _ rfl ?_ ?_
                    · simp [maxLen, fillL, repL, splice, Value.cells, Value.oneCell', okCell, inT]
                      omega
                    refine RunO.done ?_
                    refine h7 _ ⟨c, ⟨⟨_, rfl, fun M => rfl⟩, ⟨_, rfl, fun M => rfl⟩, ⟨_, rfl, fun M => rfl⟩, ⟨_, rfl, fun M => rfl⟩, ⟨_, rfl, fun M => rfl⟩, trivial⟩, _, _, ?_, rfl, ?_, ?_⟩
                    · simp [lk, ordB, shl1_un]
                    · exact Nat.le_refl _
                    · exact encN_app hv7 i
                  · refine draw_leaf [5, 12] (LikeS.add 5 12 (LikeS.add 12 7 (LikeS.add 5 7 (LikeS.refl _)))) h rfl rfl ?_
                    refine RunOF_sound tab_ok (hJ _) rfl rfl 200 [] _ _ rfl ?_ ?_
                    · simp [maxLen, fillL, repL, splice, Value.cells, Value.oneCell', okCell, inT]
                      omega
                    refine RunO.done ?_
                    refine h7 _ ⟨c, ⟨⟨_, rfl, fun M => rfl⟩, ⟨_, rfl, fun M => rfl⟩, ⟨_, rfl, fun M => rfl⟩, ⟨_, rfl, fun M => rfl⟩, ⟨_, rfl, fun M => rfl⟩, trivial⟩, _, _, ?_, rfl, ?_, ?_⟩
                    · simp [lk, ordB, shl1_un]
                    · exact Nat.le_refl _
                    · exact encN_app hv7 i
                · rcases ord_fork' 12 8 rfl h with h | h
                  · refine draw_leaf [5, 12] (LikeS.add 12 8 (LikeS.add 7 12 (LikeS.add 5 7 (LikeS.refl _)))) h rfl rfl ?_
                    refine RunOF_sound tab_ok (hJ _) rfl rfl 200 [] _ _ rfl ?_ ?_
                    · simp [maxLen, fillL, repL, splice, Value.cells, Value.oneCell', okCell, inT]
                      omega
                    refine RunO.done ?_
                    refine h7 _ ⟨c, ⟨⟨_, rfl, fun M => rfl⟩, ⟨_, rfl, fun M => rfl⟩, ⟨_, rfl, fun M => rfl⟩, ⟨_, rfl, fun M => rfl⟩, ⟨_, rfl, fun M => rfl⟩, trivial⟩, _, _, ?_, rfl, ?_, ?_⟩
                    · simp [lk, ordB, shl1_un]
                    · exact Nat.le_refl _
                    · exact encN_app hv7 i
                  · refine draw_leaf [5, 12] (LikeS.add 8 12 (LikeS.add 7 12 (LikeS.add 5 7 (LikeS.refl _)))) h rfl rfl ?_
                    refine RunOF_sound tab_ok (hJ _) rfl rfl 200 [] _ _ rfl ?_ ?_
                    · simp [maxLen, fillL, repL, splice, Value.cells, Value.oneCell', okCell, inT]
                      omega
                    refine RunO.done ?_
                    refine h7 _ ⟨c, ⟨⟨_, rfl, fun M => rfl⟩, ⟨_, rfl, fun M => rfl⟩, ⟨_, rfl, fun M => rfl⟩, ⟨_, rfl, fun M => rfl⟩, ⟨_, rfl, fun M => rfl⟩, trivial⟩, _, _, ?_, rfl, ?_, ?_⟩
                    · simp [lk, ordB, shl1_un]
                    · exact Nat.le_refl _
                    · exact encN_app hv7 i
              · rcases ord_fork' 12 5 rfl h with h | h
                · rcases ord_fork' 12 7 rfl h with h | h
                  · refine draw_leaf [5, 12] (LikeS.add 12 7 (LikeS.add 12 5 (LikeS.add 7 5 (LikeS.refl _)))) h rfl rfl ?_
                    refine RunOF_sound tab_ok (hJ _) rfl rfl 200 [] _ _ rfl ?_ ?_
                    · simp [maxLen, fillL, repL, splice, Value.cells, Value.oneCell', okCell, inT]
                      omega
                    refine RunO.done ?_
                    refine h7 _ ⟨c, ⟨⟨_, rfl, fun M => rfl⟩, ⟨_, rfl, fun M => rfl⟩, ⟨_, rfl, fun M => rfl⟩, ⟨_, rfl, fun M => rfl⟩, ⟨_, rfl, fun M => rfl⟩, trivial⟩, _, _, ?_, rfl, ?_, ?_⟩
                    · simp [lk, ordB, shl1_un]
                    · exact Nat.le_refl _
                    · exact encN_app hv7 i
                  · refine draw_leaf [5, 12] (LikeS.add 7 12 (LikeS.add 12 5 (LikeS.add 7 5 (LikeS.refl _)))) h rfl rfl ?_
                    refine RunOF_sound tab_ok (hJ _) rfl rfl 200 [] _ _ rfl ?_ ?_
                    · simp [maxLen, fillL, repL, splice, Value.cells, Value.oneCell', okCell, inT]
                      omega
                    refine RunO.done ?_
                    refine h7 _ ⟨c, ⟨⟨_, rfl, fun M => rfl⟩, ⟨_, rfl, fun M => rfl⟩, ⟨_, rfl, fun M => rfl⟩, ⟨_, rfl, fun M => rfl⟩, ⟨_, rfl, fun M => rfl⟩, trivial⟩, _, _, ?_, rfl, ?_, ?_⟩
                    · simp [lk, ordB, shl1_un]
                    · exact Nat.le_refl _
                    · exact encN_app hv7 i
                · rcases ord_fork' 12 8 rfl h with h | h
                  · refine draw_leaf [5, 12] (LikeS.add 12 8 (LikeS.add 5 12 (LikeS.add 7 5 (LikeS.refl _)))) h rfl rfl ?_
                    refine RunOF_sound tab_ok (hJ _) rfl rfl 200 [] _ _ rfl ?_ ?_
                    · simp [maxLen, fillL, repL, splice, Value.cells, Value.oneCell', okCell, inT]
                      omega
                    refine RunO.done ?_
                    refine h7 _ ⟨c, ⟨⟨_, rfl, fun M => rfl⟩, ⟨_, rfl, fun M => rfl⟩, ⟨_, rfl, fun M => rfl⟩, ⟨_, rfl, fun M => rfl⟩, ⟨_, rfl, fun M => rfl⟩, trivial⟩, _, _, ?_, rfl, ?_, ?_⟩
                    · simp [lk, ordB, shl1_un]
                    · exact Nat.le_refl _
                    · exact encN_app hv7 i
                  · refine draw_leaf [5, 12] (LikeS.add 8 12 (LikeS.add 5 12 (LikeS.add 7 5 (LikeS.refl _)))) h rfl rfl ?_
                    refine RunOF_sound tab_ok (hJ _) rfl rfl 200 [] _ _ rfl ?_ ?_
                    · simp [maxLen, fillL, repL, splice, Value.cells, Value.oneCell', okCell, inT]
                      omega
                    refine RunO.done ?_
                    refine h7 _ ⟨c, ⟨⟨_, rfl, fun M => rfl⟩, ⟨_, rfl, fun M => rfl⟩, ⟨_, rfl, fun M => rfl⟩, ⟨_, rfl, fun M => rfl⟩, ⟨_, rfl, fun M => rfl⟩, trivial⟩, _, _, ?_, rfl, ?_, ?_⟩
                    · simp [lk, ordB, shl1_un]
                    · exact Nat.le_refl _
                    · exact encN_app hv7 i
          · have e0 : extP A n d l dn (i + 1) = extP A n d l dn i := by rw [extP_succ, extF, if_neg c, List.append_nil]
            have hn7 := ihm (i + 1) s (by omega) hs
            rw [e0] at hn7
            rcases s with _ | ⟨m', vs⟩
            · refine RunF_sound tab_ok (hJ _) 100 [true] _ _ rfl ?_ ?_
              · simp; omega
              refine Run.callM (hJ _) rfl rfl rfl rfl rfl rfl ready_enters rfl (fun M w' hM _ => ready_ok A n _ dn _ i w' (ordB_at.1 (hM 0 _ rfl)) hi64) ?_
              refine RunF_sound tab_ok (hJ _) 100 [true] _ _ rfl ?_ ?_
              · simp [c]
              exact Run.to hn7 ⟨rfl, rfl, rfl, i64_eq (wrap_succ (by omega)), trivial⟩ ⟨rfl, trivial⟩
            · refine RunF_sound tab_ok (hJ _) 100 [true] _ _ rfl ?_ ?_
              · simp; omega
              refine Run.callM (hJ _) rfl rfl rfl rfl rfl rfl ready_enters rfl (fun M w' hM _ => ready_ok A n _ dn _ i w' (ordB_at.1 (hM 0 _ rfl)) hi64) ?_
              refine RunF_sound tab_ok (hJ _) 100 [true] _ _ rfl ?_ ?_
              · simp [c]
              exact Run.to hn7 ⟨rfl, rfl, rfl, i64_eq (wrap_succ (by omega)), trivial⟩ ⟨rfl, rfl, trivial⟩
        · rintro σ' ⟨c, ht, m', vs', hh0, hh3, hm', hv'⟩
          have e1 : (l ++ [i]).length = l.length + 1 := by simp
          have hl0 : l ++ [i] ≠ [] := by simp
          have e2 : extP A n d l dn (i + 1) = extP A n d l dn i ++ extL A n d (l ++ [i]) (dn ||| 1#64 <<< i) := by rw [extP_succ, extF, if_pos c]
          rw [← e1] at hh0 hm' hv'
          refine Run.toC (t' := [(0, .ptr 0 0), (1, .v y), (5, .v (.int .i64 (i : Int))), (28, .v (.int .i64 (n : Int))), (29, .v (.int .i64 (i : Int)))]) (h' := [(0, ordB A n (.sl 3 1 0 (l ++ [i]).length) (dn ||| 1#64 <<< i)), (3, .row 3 1 m' vs')]) (n' := 4) ?_ ht ⟨hh0, hh3, trivial⟩
          refine RunF_sound tab_ok (hJ _) 100 [] _ _ rfl ?_ ?_
          · simp
          refine Run.callK (xs := [.ptr 0 0, .v y]) (caps := []) rfl rfl rfl rfl rfl rfl orderOn_enters rfl fun M fp1 a w1 hR => ?_
          obtain ⟨hbo, br1, hst1, hg1, hfo1, hfr1⟩ := on_leave (A := A) (n := n) (l := l ++ [i]) (dn := dn ||| 1#64 <<< i) hR rfl (.inr ⟨3, m', vs', by decide, rfl, rfl, hm', hv'⟩)
          have ea : concL M ([.ptr 0 0, .v y] ++ []) = [.pointer (some ⟨bo, 0, none⟩), y] := by simp [concL, conc, hbo]
          rw [ea]
          refine Calls.mono' (ih (l ++ [i]) (dn ||| 1#64 <<< i) bo br1 w1 fp1 J Js y (pre ++ extP A n d l dn i) (by rw [e1]; omega) hst1 (fun b hb => (hg1.2 b hb).1) hfo1 hfr1 hJ hJs hR.outer ?_) ?_
          · intro q x h1 h2
            refine (hy q x ((List.prefix_append _ _).trans h1) (h2.trans ?_)).rebase hg1
            rw [List.append_assoc, ← e2]
            exact (List.prefix_append_right_inj _).2 (extP_prefix A n d l dn (by omega))
          rintro e w' ⟨v, rfl, fp', br', hst', hg', hfo', hfr', hv⟩
          refine ⟨v, rfl, ?_⟩
          obtain ⟨bv, X', rfl, hXl, hX', hXc⟩ : ∃ (bv : Bool) (X' : Res), v = .bool bv ∧ Local X' ∧ X' w' fp' ∧ (bv = true ∧ X' = J (pre ++ extP A n d l dn (i + 1)) ∨ bv = false ∧ ∃ q, q <+: pre ++ extP A n d l dn n ∧ X' = Js q) := by
            rcases hv with ⟨rfl, h1⟩ | ⟨rfl, q, h1, h2⟩
            · refine ⟨true, _, rfl, hJ _, h1, .inl ⟨rfl, ?_⟩⟩
              rw [e2, List.append_assoc]
            · refine ⟨false, Js q, rfl, hJs q, h2, .inr ⟨rfl, q, h1.trans ?_, rfl⟩⟩
              rw [List.append_assoc, ← e2]
              exact (List.prefix_append_right_inj _).2 (extP_prefix A n d l dn (by omega))
          obtain ⟨M', m2, vs2, hR', hm2, hv2⟩ := on_back hR hbo hg1 hst' hg' hfo' hfr' hl0 hX' rfl (Nat.succ_pos 3)
          refine ⟨X', M', fp', _, .v (.bool bv), rfl, hR', ?_⟩
          refine RunF_sound tab_ok hXl 100 [] _ _ rfl ?_ ?_
          · simp
          have hw : IntKind.i64.wrap (l.length : Int) = (l.length : Int) := by rw [wrap_i64] <;> omega
          have hl2 : l.length ≤ m2 := by omega
          have hbo2 : (dn ||| 1#64 <<< i) &&& ~~~(1#64 <<< i) = dn := bit_off (rdyB_off c)
          refine Run.join7 (fun σ' : St => lk σ'.t 6 = some (.v (.bool bv)) ∧ inTC σ'.t [(0, .ptr 0 0), (1, .v y), (5, .v (.int .i64 (i : Int))), (28, .v (.int .i64 (n : Int))), (29, .v (.int .i64 (i : Int)))] ∧
              lk σ'.h 0 = some (ordB A n (.sl 4 1 0 l.length) dn) ∧ lk σ'.h 4 = some (.row 3 1 m2 vs2)) ?_
          apply Exists.intro
          apply And.intro
          · intro h9
            refine Run.drawOrd hXl rfl [(4, .row 3 1 m2 vs2)] ⟨rfl, trivial⟩ fun ol hol => ?_
            have h := hol
            rcases ord_fork' 5 9 rfl h with h | h
            · rcases ord_fork' 16 5 rfl h with h | h
              · refine draw_leaf [5, 9, 16] (LikeS.add 16 5 (LikeS.add 5 9 (LikeS.refl _))) h rfl rfl ?_
                refine RunOF_sound tab_ok hXl rfl rfl 200 [] _ _ rfl ?_ ?_
                · simp [inT, lk, hw, okCell, Value.oneCell', hl2]
                refine RunO.done ?_
                refine h9 _ ⟨rfl, ⟨⟨_, rfl, fun M => rfl⟩, ⟨_, rfl, fun M => rfl⟩, ⟨_, rfl, fun M => rfl⟩, ⟨_, rfl, fun M => rfl⟩, ⟨_, rfl, fun M => rfl⟩, trivial⟩, ?_, rfl⟩
                · simp [lk, ordB, hw, shl1_un, hbo2]
              · rcases ord_fork' 16 9 rfl h with h | h
                · refine draw_leaf [5, 9, 16] (LikeS.add 16 9 (LikeS.add 5 16 (LikeS.add 5 9 (LikeS.refl _)))) h rfl rfl ?_
                  refine RunOF_sound tab_ok hXl rfl rfl 200 [] _ _ rfl ?_ ?_
                  · simp [inT, lk, hw, okCell, Value.oneCell', hl2]
                  refine RunO.done ?_
                  refine h9 _ ⟨rfl, ⟨⟨_, rfl, fun M => rfl⟩, ⟨_, rfl, fun M => rfl⟩, ⟨_, rfl, fun M => rfl⟩, ⟨_, rfl, fun M => rfl⟩, ⟨_, rfl, fun M => rfl⟩, trivial⟩, ?_, rfl⟩
                  · simp [lk, ordB, hw, shl1_un, hbo2]
                · refine draw_leaf [5, 9, 16] (LikeS.add 9 16 (LikeS.add 5 16 (LikeS.add 5 9 (LikeS.refl _)))) h rfl rfl ?_
                  refine RunOF_sound tab_ok hXl rfl rfl 200 [] _ _ rfl ?_ ?_
                  · simp [inT, lk, hw, okCell, Value.oneCell', hl2]
                  refine RunO.done ?_
                  refine h9 _ ⟨rfl, ⟨⟨_, rfl, fun M => rfl⟩, ⟨_, rfl, fun M => rfl⟩, ⟨_, rfl, fun M => rfl⟩, ⟨_, rfl, fun M => rfl⟩, ⟨_, rfl, fun M => rfl⟩, trivial⟩, ?_, rfl⟩
                  · simp [lk, ordB, hw, shl1_un, hbo2]
            · rcases ord_fork' 16 9 rfl h with h | h
              · refine draw_leaf [5, 9, 16] (LikeS.add 16 9 (LikeS.add 9 5 (LikeS.refl _))) h rfl rfl ?_
                refine RunOF_sound tab_ok hXl rfl rfl 200 [] _ _ rfl ?_ ?_
                · simp [inT, lk, hw, okCell, Value.oneCell', hl2]
                refine RunO.done ?_
                refine h9 _ ⟨rfl, ⟨⟨_, rfl, fun M => rfl⟩, ⟨_, rfl, fun M => rfl⟩, ⟨_, rfl, fun M => rfl⟩, ⟨_, rfl, fun M => rfl⟩, ⟨_, rfl, fun M => rfl⟩, trivial⟩, ?_, rfl⟩
                · simp [lk, ordB, hw, shl1_un, hbo2]
              · rcases ord_fork' 16 5 rfl h with h | h
                · refine draw_leaf [5, 9, 16] (LikeS.add 16 5 (LikeS.add 9 16 (LikeS.add 9 5 (LikeS.refl _)))) h rfl rfl ?_
                  refine RunOF_sound tab_ok hXl rfl rfl 200 [] _ _ rfl ?_ ?_
                  · simp [inT, lk, hw, okCell, Value.oneCell', hl2]
                  refine RunO.done ?_
                  refine h9 _ ⟨rfl, ⟨⟨_, rfl, fun M => rfl⟩, ⟨_, rfl, fun M => rfl⟩, ⟨_, rfl, fun M => rfl⟩, ⟨_, rfl, fun M => rfl⟩, ⟨_, rfl, fun M => rfl⟩, trivial⟩, ?_, rfl⟩
                  · simp [lk, ordB, hw, shl1_un, hbo2]
                · refine draw_leaf [5, 9, 16] (LikeS.add 5 16 (LikeS.add 9 16 (LikeS.add 9 5 (LikeS.refl _)))) h rfl rfl ?_
                  refine RunOF_sound tab_ok hXl rfl rfl 200 [] _ _ rfl ?_ ?_
                  · simp [inT, lk, hw, okCell, Value.oneCell', hl2]
                  refine RunO.done ?_
                  refine h9 _ ⟨rfl, ⟨⟨_, rfl, fun M => rfl⟩, ⟨_, rfl, fun M => rfl⟩, ⟨_, rfl, fun M => rfl⟩, ⟨_, rfl, fun M => rfl⟩, ⟨_, rfl, fun M => rfl⟩, trivial⟩, ?_, rfl⟩
                  · simp [lk, ordB, hw, shl1_un, hbo2]
          · rintro σ' ⟨h6, ht, hh0, hh4⟩
            refine Run.toC (t' := [(0, .ptr 0 0), (1, .v y), (6, .v (.bool bv)), (28, .v (.int .i64 (n : Int))), (29, .v (.int .i64 (i : Int)))]) (h' := [(0, ordB A n (.sl 4 1 0 l.length) dn), (4, .row 3 1 m2 vs2)]) (n' := 5) ?_ ⟨ht.1, ht.2.1, inTC_same h6, ht.2.2.2.1, ht.2.2.2.2.1, trivial⟩ ⟨hh0, hh4, trivial⟩
            rcases hXc with ⟨rfl, rfl⟩ | ⟨rfl, q, hq, rfl⟩
            · refine RunF_sound tab_ok hXl 100 [false] _ _ rfl ?_ ?_
              · simp
              exact Run.toR [(1, 4)] (ihm (i + 1) (some (m2, vs2)) (by omega) ⟨hl2, encN_back hv2⟩) ⟨rfl, rfl, rfl, i64_eq (wrap_succ (by omega)), trivial⟩ ⟨rfl, rfl, trivial⟩ rfl
            · refine RunF_sound tab_ok hXl 100 [true] _ _ rfl ?_ ?_
              · simp
              refine Run.retF tab_ok Tryd.func86 rfl trivial fun M fp' a w' hr => ?_
              exact hout _ M fp' _ a w' _ hr rfl (.inr ⟨4, m2, vs2, by decide, rfl, rfl, hl2, encN_back hv2⟩) (.inr ⟨⟨q, hq, rfl⟩, rfl⟩)
  have hk3 := hk2 n 0 s (by omega) hs
  rw [show extP A n d l dn 0 = [] from rfl, List.append_nil] at hk3
  exact hk1 s hs hk3
theorem orderOn_ok (A : Rl) (n : Nat) (hn : n ≤ 64) : ∀ d, OnOK A n d
  | 0 => on_zero A n hn
  | d + 1 => on_succ A n hn d (orderOn_ok A n hn d)
end Go.Proofs.YtocpkgckllbjlaaDoor

/-
  newOrder, Extends, Extend. Own work.
-/
namespace Go.Proofs.YtocpkgckllbjlaaDoor
open Go.AM
set_option maxRecDepth 100000

/-- What must stand ahead of each number; how many there are. -/
noncomputable def aheadL (r : Rl) : Rl := invF (rightL r).n (edgesL (rightL r))
noncomputable def sizeL (r : Rl) : Nat := (rightL r).n.toNat

theorem sizeL_le (r : Rl) : sizeL r ≤ 64 := by have := rightL_n r; unfold sizeL; omega

theorem ord_fill (A : Rl) (m : Int) (pl : Nat → Option (Nat × Nat)) (h0 : pl 0 = some (0, 64)) (h1 : pl 1 = some (64, 1)) :
    (fillL pl (Value.agg z96.toArray).cells.toList [(0, .agg (rowV A).toArray), (1, .int .i64 m)]).1 ∧
    (fillL pl (Value.agg z96.toArray).cells.toList [(0, .agg (rowV A).toArray), (1, .int .i64 m)]).2 = (rowV A ++ [.int .i64 m]) ++ [.slice none 0 0, .int .u64 0] := by
  have hz : (Value.agg z96.toArray).cells.toList = List.replicate 64 (.int .u64 0) ++ [.int .i64 0, .slice none 0 0, .int .u64 0] := rfl
  rw [hz]
  constructor
  · simp only [fillL, h0, h1]
    simp [Value.cells, splice]
  · simp only [fillL, h0, h1]
    have hr : (rowV A).length = 64 := rowV_length A
    generalize rowV A = L at hr
    simp [Value.cells, splice, hr]
    rw [show 65 = L.length + 1 by omega, List.drop_append]
    simp

theorem lk_one {α : Type} {j i : Nat} {x y : α} (h : lk [(j, x)] i = some y) : i = j := by
  simp only [lk] at h
  split at h
  · rename_i he; exact Nat.eq_of_beq_eq_true he
  · cases h

theorem newOrder_ok (r : Rl) (w : World) (hT : TabAt w) (h0 : 0 < w.heap.size) : HandsZ Tryd.prog 85 [encRel r] w (.ptr 0 0) [(0, ordB (aheadL r) (sizeL r) (.v (.slice none 0 0)) 0#64)] := by
  refine HandsZ.of_run Tryd.func85 rfl (by show 1 ≤ 11; decide) ?_
  refine RunF_sound tab_ok noX_local 100 [] _ _ rfl ?_ ?_
  · simp
  have hn := rightL_n r
  refine Run.drawA noX_local rfl [6] [(0, .cells 25 [.vals 65 (relV r)])] rfl rfl ⟨rfl, trivial⟩ ?_
  refine RunOF_sound tab_ok noX_local rfl rfl 100 [] _ _ rfl ?_ ?_
  · simp
  refine RunO.callFn (r := encRel (aheadL r)) noX_local rfl rfl rfl rfl rfl rfl rfl rfl inverse_enters rfl (fun w' hA => inverse_ok r w' (hT.agree hA (fun f => f)) (Nat.lt_of_lt_of_le h0 hA.size)) ?_
  refine RunOF_sound tab_ok noX_local rfl rfl 100 [] _ _ rfl ?_ ?_
  · simp
  refine RunO.callFn (r := encRel (rightL r)) noX_local rfl rfl rfl rfl rfl rfl rfl rfl right_enters rfl (fun w' _ => right_ok r w') ?_
  generalize hA : aheadL r = A
  have hs : ((sizeL r : Nat) : Int) = (rightL r).n := by unfold sizeL; omega
  generalize sizeL r = n at hs
  generalize rightL r = R at hs hn
  have e1 : List.take 64 (relV A).tail = rowV A := by rw [← List.drop_one, relV_drop]
  refine RunOF_sound tab_ok noX_local rfl rfl 100 [] _ _ rfl ?_ ?_
  · simp [inT, lk, e1]
    refine ⟨⟨⟨by decide, by decide⟩, (ord_fill A R.n _ rfl rfl).1⟩, ?_⟩
    rw [(ord_fill A R.n _ rfl rfl).2]; simp
  refine RunO.done ?_
  refine RunF_sound tab_ok noX_local 100 [] _ _ rfl ?_ ?_
  · simp
  refine Run.ret tab_ok Tryd.func85 rfl trivial fun M fp a w' hr => ?_
  have hb := hr.heap 1 _ rfl
  refine ⟨hr.agree, fun _ => M 1, rfl, fun id B hB => ?_, fun id id' B B' hB hB' _ => ?_⟩
  · simp only [lk] at hB
    split at hB
    · cases hB
      refine ⟨ordB_at.2 ⟨?_⟩, Nat.le_of_not_lt fun hlt => (hr.own 1 _ rfl hlt).elim⟩
      have h1 := hb.1
      have e2 : List.take 64 (List.drop 1 (relV A).toArray.toList) = rowV A := e1
      simp only [concSegs, List.append_nil, e2] at h1
      rw [(ord_fill A _ _ rfl rfl).2, intAt_0, ← hs] at h1
      exact h1
    · cases hB
  · rw [lk_one hB, lk_one hB']
theorem newOrder_enters : Enters Tryd.prog 85 := enters_mk Tryd.func85 (by decide) rfl

open Classical in
/-- All orders of a relation, as they are gone through. -/
noncomputable def ordersL (r : Rl) : List (List Nat) := if irB (clos (rightL r)) = true then extL (aheadL r) (sizeL r) (sizeL r) [] 0#64 else []

theorem ext_relAt {w : World} {b : Nat} {r : Rl} (h : RelAt w b r) : extCells w ⟨b, 0, none⟩ 0 65 = relV r := by
  apply List.ext_getElem?
  intro q
  rcases Nat.lt_or_ge q 65 with hq | hq
  · have h1 : q < (extCells w ⟨b, 0, none⟩ 0 65).length := by rw [extCells_length]; exact hq
    have h2 : q < (relV r).length := by rw [relV_length]; exact hq
    have e2 := List.getElem?_eq_getElem h2
    have hc := h q _ e2
    have e1 := List.getElem?_eq_getElem h1
    have ea : (⟨b, 0, none⟩ : Addr).add (0 + q) = ⟨b, q, none⟩ := by rw [add_lit']; simp
    have := extCells_get w ⟨b, 0, none⟩ 65 0 q _ e1 (by rw [ea, hc]; rfl)
    rw [ea, hc] at this
    rw [e1, e2, Option.some.inj this]
  · rw [List.getElem?_eq_none (by rw [extCells_length]; exact hq), List.getElem?_eq_none (by rw [relV_length]; exact hq)]

theorem extends_iter (r : Rl) (b : Nat) (w0 : World) (hb : RelAt w0 b r) (hT : TabAt w0) (h00 : 0 < w0.heap.size) :
    IterH Tryd.prog 84 [.pointer (some ⟨b, 0, none⟩)] (edgesK b) w0 (ordersL r) zI hI := by
  refine IterH.of_run Tryd.func84 rfl (by show 2 ≤ 9; decide) ?_
  intro y J Js w fp hJ hJs hy hag hfp R hR
  have hbw : RelAt w b r := hb.agree hag (fun h => h (.inr rfl))
  have hTw : TabAt w := hT.agree hag (fun h => h (.inl rfl))
  have h0w : 0 < w.heap.size := Nat.lt_of_lt_of_le h00 hag.size
  have hf0 : ¬ fp 0 := fun h => hfp 0 h (.inl rfl)
  have hfb : ¬ fp b := fun h => hfp b h (.inr rfl)
  have hext := ext_relAt hbw
  have hres : (Tryd.f84).results = #[] := rfl
  refine RunF_sound tab_ok (hJ []) 100 [] _ _ rfl ?_ ?_
  · simp only [fnC_w0, fnC_S0]
    refine ⟨⟨fun j hj => ?_, hfb⟩, trivial⟩
    have e2 := List.getElem?_eq_getElem (l := relV r) (i := j) (by rw [relV_length]; exact hj)
    have := hbw j _ e2
    rw [add_lit', Nat.zero_add, this]; rfl
  simp only [fnC_w0, hext]
  refine Run.callFn (hJ []) rfl rfl rfl rfl rfl rfl rfl acyclic_enters rfl (fun w' _ => acyclic_ok r w') ?_
  by_cases c : irB (clos (rightL r)) = true
  · have hxs : ordersL r = extL (aheadL r) (sizeL r) (sizeL r) [] 0#64 := by rw [ordersL, if_pos c]
    rw [hxs] at hy hR
    refine RunF_sound tab_ok (hJ []) 100 [true] _ _ rfl ?_ ?_
    · simp only [fnC_w0, fnC_S0, c]
      refine ⟨trivial, ⟨⟨fun j hj => ?_, hfb⟩, trivial⟩⟩
      have e2 := List.getElem?_eq_getElem (l := relV r) (i := j) (by rw [relV_length]; exact hj)
      have := hbw j _ e2
      rw [add_lit', Nat.zero_add, this]; rfl
    simp only [fnC_w0, hext]
    refine Run.callH (hJ []) (.ptr 0 0) [(0, ordB (aheadL r) (sizeL r) (.v (.slice none 0 0)) 0#64)] 1 rfl rfl rfl rfl rfl rfl newOrder_enters rfl rfl rfl rfl rfl (fun M w' _ hA => newOrder_ok r w' (hTw.agree hA hf0) (Nat.lt_of_lt_of_le h0w hA.size)) ?_
    refine RunF_sound tab_ok (hJ []) 100 [] _ _ rfl ?_ ?_
    · simp
    refine Run.callK (xs := [.ptr 0 0, .v y]) (caps := []) rfl rfl rfl rfl rfl rfl orderOn_enters rfl fun M fp1 a w1 hRl => ?_
    have h0B := hRl.heap 0 _ rfl
    have ea : concL M ([.ptr 0 0, .v y] ++ []) = [.pointer (some ⟨(M 0).1, 0, none⟩), y] := by simp [concL, conc]
    rw [ea]
    have hst : OnSt w1 (M 0).1 none (aheadL r) (sizeL r) [] 0#64 := ⟨⟨_, ordB_at.1 h0B, rfl, rfl⟩, by simp⟩
    have hg : Grown fp w (onF fp1 (M 0).1 none) w1 := by
      refine ⟨hRl.agree, ?_⟩
      rintro b' (hb' | rfl | hb')
      · exact hRl.fpok b' hb'
      · exact ⟨h0B.lt, fun h => hRl.own 0 _ rfl h⟩
      · cases hb'
    refine Calls.mono' (orderOn_ok (aheadL r) (sizeL r) (sizeL_le r) (sizeL r) [] 0#64 (M 0).1 none w1 fp1 J Js y [] (by simp) hst (fun b' hb' => (hg.2 b' hb').1) (hRl.apart 0 _ rfl) (fun b' h => by cases h) hJ hJs hRl.outer ?_) ?_
    · intro q x _ h2
      exact (hy q x (by simpa using h2)).rebase hg
    rintro e w' ⟨v, rfl, fp', br', hst', hg', hfo', hfr', hv⟩
    refine ⟨v, rfl, ?_⟩
    have hgf := hg.trans hg'
    have hgf' : Grown fp w fp' w' := ⟨hgf.1, fun b hb => hgf.2 b (.inl hb)⟩
    obtain ⟨X', hXl, hX', hXc⟩ : ∃ X' : Res, Local X' ∧ X' w' fp' ∧ ∀ w2 fp2, X' w2 fp2 → ∃ pre, pre = extL (aheadL r) (sizeL r) (sizeL r) [] 0#64 ∧ J pre w2 fp2 ∨ pre <+: extL (aheadL r) (sizeL r) (sizeL r) [] 0#64 ∧ Js pre w2 fp2 := by
      rcases hv with ⟨rfl, h1⟩ | ⟨rfl, q, h1, h2⟩
      · exact ⟨_, hJ _, h1, fun w2 fp2 h => ⟨_, .inl ⟨by simp, h⟩⟩⟩
      · exact ⟨Js q, hJs q, h2, fun w2 fp2 h => ⟨q, .inr ⟨by simpa using h1, h⟩⟩⟩
    refine ⟨X', M, fp', ⟨[], [], 1⟩, .v v, by simp [conc], ?_, ?_⟩
    · refine { heap := fun _ _ h => (by cases h), inj := fun _ _ _ _ h => (by cases h), own := fun _ _ h => (by cases h), apart := fun _ _ h => (by cases h), agree := hgf'.1, outer := hX', fpok := hgf'.2, size := hRl.size, frozen := hRl.frozen, tmps := fun _ _ h => (by cases h), defers := hRl.defers }
    · refine RunF_sound tab_ok hXl 100 [] _ _ rfl ?_ ?_
      · simp
      refine Run.finI Tryd.func84 hres fun v w2 fp2 hg2 hX2 => ?_
      obtain ⟨q, hq⟩ := hXc w2 fp2 hX2
      exact hR v w2 fp2 q hg2 hq
  · have hxs : ordersL r = [] := by rw [ordersL, if_neg c]
    rw [hxs] at hR
    refine RunF_sound tab_ok (hJ []) 100 [false] _ _ rfl ?_ ?_
    · simp [c]
    refine Run.finI Tryd.func84 hres fun v w' fp' hg hX => hR v w' fp' [] hg (.inl ⟨rfl, hX⟩)
theorem extendsIt_enters : Enters Tryd.prog 84 := enters_mk Tryd.func84 (by decide) rfl

def extendsF (b : Nat) : Value := .func (.func 84) #[] #[.pointer (some ⟨b, 0, none⟩)]

theorem extends_ok (r : Rl) (w : World) : Makes Tryd.prog 48 [encRel r] w (fun v w' => ∃ b, v = extendsF b ∧ w.heap.size ≤ b ∧ RelAt w' b r) := by
  refine Makes.of_run Tryd.func48 rfl (by show 1 ≤ 4; decide) ?_
  refine RunF_sound tab_ok noX_local 100 [] _ _ rfl ?_ ?_
  · simp
  refine Run.ret tab_ok Tryd.func48 rfl trivial fun M fp a w' hr => ⟨hr.agree, (M 0).1, rfl, ?_, ?_⟩
  · rcases Nat.lt_or_ge (M 0).1 w.heap.size with h | h
    · exact (hr.own 0 _ rfl h).elim
    · exact h
  · intro q x hq
    have hb : BlkAt M w' 0 (.cells 25 [.vals 65 (relV r)]) := hr.heap 0 _ rfl
    have := vals_cells hb (off := 0) (s0 := 0) rfl q x hq
    rwa [Nat.zero_add] at this
theorem extends_enters : Enters Tryd.prog 48 := enters_mk Tryd.func48 (by decide) rfl
end Go.Proofs.YtocpkgckllbjlaaDoor

/-
  Extend. Own work.
-/
namespace Go.Proofs.YtocpkgckllbjlaaDoor
open Go.AM
set_option maxRecDepth 100000

/-- The first order, if there is one. -/
noncomputable def extendL (r : Rl) : Option (List Nat) := (ordersL r).head?

def exZ : Option (List Nat) → AV
  | none => .tup [.v (.slice none 0 0), .tt false]
  | some l => .tup [.sl 0 1 0 l.length, .tt true]
def exH : Option (List Nat) → List (Nat × Blk)
  | none => []
  | some l => [(0, .row 3 1 l.length (encN l))]

/-- What lies in Extend's blocks. -/
def exB (r : Rl) (x : Option (List Nat)) : List (Nat × Blk) :=
  match x with
  | none => [(2, .cells 4 [.one (.tt false)]), (1, .cells 47 [.one (.v (.slice none 0 0))]), (0, .cells 25 [.vals 65 (relV r)])]
  | some l => [(2, .cells 4 [.one (.tt true)]), (1, .cells 47 [.one (.sl 50 1 0 l.length)]), (0, .cells 25 [.vals 65 (relV r)]), (50, .row 3 1 l.length (encN l))]

theorem extend_ok (r : Rl) (w : World) (hT : TabAt w) (h0 : 0 < w.heap.size) : HandsZ Tryd.prog 49 [encRel r] w (exZ (extendL r)) (exH (extendL r)) := by
  refine HandsZ.of_run Tryd.func49 rfl (by show 1 ≤ 12; decide) ?_
  refine RunF_sound tab_ok noX_local 100 [] _ _ rfl ?_ ?_
  · simp [okCell, ofConst, Value.oneCell']
  refine Run.callFn noX_local rfl rfl rfl rfl rfl rfl rfl acyclic_enters rfl (fun w' _ => acyclic_ok r w') ?_
  by_cases c : irB (clos (rightL r)) = true
  · refine RunF_sound tab_ok noX_local 100 [false] _ _ rfl ?_ ?_
    · simp [c]
    refine Run.callR noX_local rfl rfl rfl rfl rfl rfl extends_enters rfl (fun M w' _ _ => extends_ok r w') ?_
    rintro v w2 w1 S1 hag hag2 ⟨bb, rfl, hbl, hRel⟩ hS1
    have hB1 := (Based.refl w).call hag hag2 hS1
    have hbw1 : bb < w1.heap.size := World.block_lt_of_cell? w1 _ (hRel 0 _ rfl)
    have hS1b : ¬ S1 bb := hS1.new bb hbl
    have hS10 : ¬ S1 0 := fun h => by have := hB1.new 0 h; omega
    have hw1 : 0 < w1.heap.size := by have := hB1.agree.size; omega
    have hit := extends_iter r bb w1 hRel (hT.agree hB1.agree (fun f => f)) hw1
    have hex : extendL r = (ordersL r).head? := rfl
    generalize hE : extendL r = E at *
    generalize ordersL r = xs at *
    refine ⟨.fn 84 [.v (.pointer (some ⟨bb, 0, none⟩))], fun M => rfl, ?_⟩
    refine RunF_sound tab_ok noX_local 100 [] _ _ rfl ?_ ?_
    · simp
    refine Run.rangeFnH noX_local rfl rfl (fun M => rfl) extendsIt_enters 4 [(3, .ptr 2 0), (2, .ptr 1 0)] ⟨rfl, rfl, trivial⟩ rfl rfl rfl hit
      (fun k hk => by rcases hk with rfl | rfl; exact ⟨hw1, hS10⟩; exact ⟨hbw1, hS1b⟩)
      (fun pre h => pre = [] ∧ h = exB r none) (fun pre c h => ∃ x, pre = [x] ∧ c = .ret ∧ h = exB r (some x)) 3 51 (by decide) rfl (fun pre h hI => by rw [hI.2]; rfl) (fun x _ => rfl) (fun x _ => rfl) (exB r none) ⟨rfl, rfl⟩ ⟨rfl, rfl, rfl, trivial⟩ ?_ ?_ ?_
    · rintro D l a0 rc wy fpy pre x h hI hpx ⟨rfl, rfl⟩
      refine RunF_sound tab_ok (roundX_local hI.loc l rc .ready) 100 [] _ _ rfl ?_ ?_
      · simp
      refine Run.beginRound hI.loc hI.lw ?_
      refine RunF_sound tab_ok (roundX_local hI.loc l rc .busy) 100 [] _ _ rfl ?_ ?_
      · simp [okCell, ofConst]
      exact Run.roundRet hI [] (exB r (some x)) ⟨x, rfl, rfl, rfl⟩ ⟨rfl, rfl, trivial⟩ ⟨rfl, rfl, rfl, rfl, trivial⟩ rfl
    · rintro D h ⟨rfl, rfl⟩
      have hn : E = none := hex
      rw [hn]
      refine RunF_sound tab_ok (markX_local noX_local D) 100 [] _ _ rfl ?_ ?_
      · simp [okCell, Value.oneCell', ofConst]
      refine Run.retHB (Ds := [D]) tab_ok noX_local [] hB1 Tryd.func49 rfl ?_ rfl trivial rfl
      simp
    · rintro D pre c h hpre ⟨x, rfl, rfl, rfl⟩
      have hn : E = some x := by
        rw [hex]
        obtain ⟨t, rfl⟩ := hpre
        rfl
      rw [hn]
      refine Run.retHB (Ds := [D]) tab_ok noX_local [(0, 50)] hB1 Tryd.func49 rfl ?_ rfl ⟨rfl, trivial⟩ rfl
      simp
  · have hn : extendL r = none := by rw [extendL, ordersL, if_neg c]; rfl
    rw [hn]
    refine RunF_sound tab_ok noX_local 100 [true] _ _ rfl ?_ ?_
    · simp [c, okCell, Value.oneCell', ofConst]
    refine Run.retH tab_ok [] Tryd.func49 rfl ?_ rfl trivial rfl
    simp
theorem extend_enters : Enters Tryd.prog 49 := enters_mk Tryd.func49 (by decide) rfl
end Go.Proofs.YtocpkgckllbjlaaDoor

/-
  Lists of numbers compared; num. Own work.
-/
namespace Go.Proofs.YtocpkgckllbjlaaDoor
open Go.AM
set_option maxRecDepth 100000

/-- A slice of natural numbers, as it lies in a world. -/
def SeesN (w : World) (p : Option Addr) (xs : List Nat) : Prop :=
  ∀ i (h : i < xs.length), p = some (p.getD default) ∧ w.cell? ((p.getD default).add i) = some (.int .i64 (xs[i] : Int))

theorem SeesN.agree {S : Nat → Prop} {w w' : World} {p : Option Addr} {xs : List Nat} (h : SeesN w p xs) (hA : Agree S w w') (hS : ∀ a, p = some a → ¬ S a.block) : SeesN w' p xs := by
  intro i hi
  obtain ⟨h1, h2⟩ := h i hi
  exact ⟨h1, hA.cell h2 (by rw [add_block]; exact hS _ h1)⟩

theorem seesN_row {M : AM.Loc} {w : World} {id e n : Nat} {l : List Nat} (hb : BlkAt M w id (.row e 1 n (encN l))) : SeesN w (some ⟨(M id).1, 0, none⟩) l := by
  intro i hi
  have := row_cells hb i (.int .i64 (l[i] : Int)) (by simp [encN, hi])
  refine ⟨rfl, ?_⟩
  rw [Option.getD_some, Addr.add_lit]
  exact this

theorem seesN_nil (w : World) (p : Option Addr) : SeesN w p [] := fun i hi => absurd hi (Nat.not_lt_zero _)

/-- Are two lists alike from a place on? -/
theorem sameInts_ok (p q : Option Addr) (c d : Nat) (xs ys : List Nat) (w : World) (hx : SeesN w p xs) (hy : SeesN w q ys) (hl : xs.length ≤ maxLen) :
    Gives Tryd.prog 53 [.slice p xs.length c, .slice q ys.length d] w (.bool (decide (xs = ys))) := by
  refine Gives.of_run Tryd.func53 rfl (by show 2 ≤ 26; decide) ?_
  have hml : maxLen = 9223372036854775807 := rfl
  by_cases hlen : xs.length = ys.length
  · refine RunF_sound tab_ok noX_local 100 [false] _ _ rfl ?_ ?_
    · simp [hlen]
    suffices H : ∀ (m i : Nat), i + m = xs.length → xs.take i = ys.take i → ∀ σ, inT σ.t [(0, .v (.slice p xs.length c)), (1, .v (.slice q ys.length d)), (5, .v (.int .i64 (i : Int)))] → inT σ.h [] → Run _ _ σ by
      exact H xs.length 0 (by omega) rfl _ ⟨rfl, rfl, rfl, trivial⟩ trivial
    intro m
    induction m with
    | zero =>
      intro i hi he σ ht hh
      refine Run.to ?_ ht hh (n' := 0)
      refine RunF_sound tab_ok noX_local 100 [false] _ _ rfl ?_ ?_
      · simp; omega
      refine Run.retP tab_ok Tryd.func53 rfl trivial (fun M => ?_)
      have : xs = ys := by rw [List.take_of_length_le (by omega), List.take_of_length_le (by omega)] at he; exact he
      simp [conc, this]
    | succ m ih =>
      intro i hi he σ ht hh
      refine Run.to ?_ ht hh (n' := 0)
      have hix : i < xs.length := by omega
      have hiy : i < ys.length := by omega
      obtain ⟨hp, hpc⟩ := hx i hix
      obtain ⟨hq, hqc⟩ := hy i hiy
      refine RunF_sound tab_ok noX_local 100 [true] _ _ rfl ?_ ?_
      · simp; omega
      refine Run.drawA noX_local rfl [] [] rfl rfl trivial ?_
      refine RunOF_sound tab_ok noX_local rfl rfl 100 [] _ _ rfl ?_ ?_
      · simp only [fnC_w0, fnC_S0, Int.toNat_natCast, Nat.mul_one, hpc, hqc]
        simp
        (repeat' refine And.intro ?_ ?_) <;> first | omega | exact hp | exact hq
      refine RunO.done ?_
      simp only [fnC_w0, Int.toNat_natCast, Nat.mul_one, hpc, hqc]
      by_cases c0 : xs[i] = ys[i]
      · refine RunF_sound tab_ok noX_local 100 [false] _ _ rfl ?_ ?_
        · simp [c0]
        refine ih (i + 1) (by omega) ?_ _ ⟨rfl, rfl, i64_eq (wrap_succ (by omega)), trivial⟩ trivial
        rw [List.take_succ_eq_append_getElem hix, List.take_succ_eq_append_getElem hiy, he, c0]
      · refine RunF_sound tab_ok noX_local 100 [true] _ _ rfl ?_ ?_
        · simp; omega
        refine Run.retP tab_ok Tryd.func53 rfl trivial (fun M => ?_)
        have : xs ≠ ys := fun e => by subst e; exact c0 rfl
        simp [conc, this]
  · refine RunF_sound tab_ok noX_local 100 [true] _ _ rfl ?_ ?_
    · simp; omega
    refine Run.retP tab_ok Tryd.func53 rfl trivial (fun M => ?_)
    have : xs ≠ ys := fun e => hlen (by rw [e])
    simp [conc, this]
theorem sameInts_enters : Enters Tryd.prog 53 := enters_mk Tryd.func53 (by decide) rfl

/-! ### The first examples -/

def r3 : Rl := ((Rl.void 3).setRow 0 2#64).setRow 1 4#64
def c3 : Rl := ((Rl.void 3).setRow 0 6#64).setRow 1 4#64
def s3 : Rl := (((Rl.void 3).setRow 0 7#64).setRow 1 6#64).setRow 2 4#64

theorem has_bnd {R : Rl} (h : ∀ a, a < 64 → ∀ b, b < 64 → R.has a b = true → (a : Int) < R.n ∧ (b : Int) < R.n) (h0 : 0 ≤ R.n) (h1 : R.n ≤ 64) : Rt R := ⟨h0, h1, fun a b hab => h a (Rl.has_lt R hab).1 b (Rl.has_lt R hab).2 hab⟩

theorem r3_has (a b : Nat) : r3.has a b = true ↔ (a = 0 ∧ b = 1) ∨ (a = 1 ∧ b = 2) := by
  constructor
  · intro h
    have key : ∀ a : Fin 64, ∀ b : Fin 64, r3.has a b = true → (a.val = 0 ∧ b.val = 1) ∨ (a.val = 1 ∧ b.val = 2) := by decide +kernel
    exact key ⟨a, (Rl.has_lt r3 h).1⟩ ⟨b, (Rl.has_lt r3 h).2⟩ h
  · rintro (⟨rfl, rfl⟩ | ⟨rfl, rfl⟩) <;> decide +kernel
theorem c3_has (a b : Nat) : c3.has a b = true ↔ (a = 0 ∧ b = 1) ∨ (a = 1 ∧ b = 2) ∨ (a = 0 ∧ b = 2) := by
  constructor
  · intro h
    have key : ∀ a : Fin 64, ∀ b : Fin 64, c3.has a b = true → (a.val = 0 ∧ b.val = 1) ∨ (a.val = 1 ∧ b.val = 2) ∨ (a.val = 0 ∧ b.val = 2) := by decide +kernel
    exact key ⟨a, (Rl.has_lt c3 h).1⟩ ⟨b, (Rl.has_lt c3 h).2⟩ h
  · rintro (⟨rfl, rfl⟩ | ⟨rfl, rfl⟩ | ⟨rfl, rfl⟩) <;> decide +kernel

theorem r3_rt : Rt r3 := ⟨by decide +kernel, by decide +kernel, fun a b h => by
  have e : r3.n = 3 := by decide +kernel
  rw [e]
  rcases (r3_has a b).1 h with ⟨rfl, rfl⟩ | ⟨rfl, rfl⟩ <;> decide⟩
theorem c3_rt : Rt c3 := ⟨by decide +kernel, by decide +kernel, fun a b h => by
  have e : c3.n = 3 := by decide +kernel
  rw [e]
  rcases (c3_has a b).1 h with ⟨rfl, rfl⟩ | ⟨rfl, rfl⟩ | ⟨rfl, rfl⟩ <;> decide⟩

theorem clos3 : clos r3 = c3 := by
  refine (clos_of r3_rt (by decide +kernel) (fun a b h => ?_) (fun a b h => ?_) (fun a b c h1 h2 => ?_)).symm
  · rcases (r3_has a b).1 h with ⟨rfl, rfl⟩ | ⟨rfl, rfl⟩ <;> decide +kernel
  · rcases (c3_has a b).1 h with ⟨rfl, rfl⟩ | ⟨rfl, rfl⟩ | ⟨rfl, rfl⟩
    · exact .single ((r3_has 0 1).2 (.inl ⟨rfl, rfl⟩))
    · exact .single ((r3_has 1 2).2 (.inr ⟨rfl, rfl⟩))
    · exact .tail (.single ((r3_has 0 1).2 (.inl ⟨rfl, rfl⟩))) ((r3_has 1 2).2 (.inr ⟨rfl, rfl⟩))
  · rcases (c3_has a b).1 h1 with ⟨rfl, rfl⟩ | ⟨rfl, rfl⟩ | ⟨rfl, rfl⟩ <;> rcases (c3_has _ c).1 h2 with ⟨h, rfl⟩ | ⟨h, rfl⟩ | ⟨h, rfl⟩ <;> first | (cases h; done) | decide +kernel

theorem ac3 : irB c3 = true := irB_true fun i => by
  cases h : c3.has i i with
  | false => rfl
  | true => rcases (c3_has i i).1 h with ⟨rfl, h⟩ | ⟨rfl, h⟩ | ⟨rfl, h⟩ <;> cases h

theorem of3 : ofL 3 [(0, 1), (1, 2)] = (r3, 0) := by decide +kernel
theorem cnt3 : sumL (rightL c3) 0 64 = 3 := by rw [c3_rt.right]; decide +kernel
theorem orders3 : extendL r3 = some [0, 1, 2] := by
  have e : ordersL r3 = extL (invF r3.n (edgesL r3)) 3 3 [] 0#64 := by
    rw [ordersL, r3_rt.right, clos3, if_pos ac3, aheadL, sizeL, r3_rt.right]; rfl
  rw [extendL, e]
  decide +kernel
end Go.Proofs.YtocpkgckllbjlaaDoor

/-
  The first examples hold. Own work.
-/
namespace Go.Proofs.YtocpkgckllbjlaaDoor
open Go.AM
set_option maxRecDepth 100000

theorem onL_all_has {n : Int} (h0 : 0 ≤ n) (h1 : n ≤ 64) {s : BitVec 64} (a b : Nat) : (onL n s).has a b = true ↔ a = b ∧ (a : Int) < n ∧ s.getLsbD a = true := by
  unfold onL
  rw [if_neg (by omega)]
  by_cases ha : a < 64
  · have e : (Rl.by_ n fun i => if (i : Int) < n ∧ s.getLsbD i = true then 1#64 <<< i else 0#64).row a = if (a : Int) < n ∧ s.getLsbD a = true then 1#64 <<< a else 0#64 := by
      rw [Rl.row_by, if_pos ha]
    rw [Rl.has, e]
    split
    · rename_i h
      rw [one_shl_get a b ha]
      simp [h]
      exact eq_comm
    · rename_i h
      simp
      intro _ h1
      exact Bool.eq_false_iff.2 fun h2 => h ⟨h1, h2⟩
  · constructor
    · intro h; exact absurd (Rl.has_lt _ h).1 ha
    · rintro ⟨rfl, h, _⟩; omega
theorem onL_n {n : Int} (h0 : 0 ≤ n) (h1 : n ≤ 64) {s : BitVec 64} : (onL n s).n = n := by
  unfold onL
  rw [if_neg (by omega)]
  exact Rl.n_by _ _
theorem onL_rt {n : Int} (h0 : 0 ≤ n) (h1 : n ≤ 64) {s : BitVec 64} : Rt (onL n s) := ⟨by rw [onL_n h0 h1]; exact h0, by rw [onL_n h0 h1]; exact h1, fun a b h => by
  rw [onL_n h0 h1]
  obtain ⟨rfl, h2, _⟩ := (onL_all_has h0 h1 a b).1 h
  exact ⟨h2, h2⟩⟩

theorem optL_n {R : Rl} (hR : Rt R) : (optL R).n = R.n := by
  unfold optL
  rw [hR.right, twoR_n 0 hR (onL_rt hR.lo hR.hi) (onL_n hR.lo hR.hi).symm]
theorem optL_has {R : Rl} (hR : Rt R) (a b : Nat) : (optL R).has a b = true ↔ R.has a b = true ∨ (a = b ∧ (a : Int) < R.n) := by
  unfold optL
  rw [hR.right, union_has hR (onL_rt hR.lo hR.hi) (onL_n hR.lo hR.hi).symm, onL_all_has hR.lo hR.hi, mask_get _ _ hR.lo]
  have := hR.hi
  constructor
  · rintro (h | ⟨h1, h2, _⟩)
    · exact .inl h
    · exact .inr ⟨h1, h2⟩
  · rintro (h | ⟨h1, h2⟩)
    · exact .inl h
    · exact .inr ⟨h1, h2, by simp; omega⟩
theorem optL_rt {R : Rl} (hR : Rt R) : Rt (optL R) := ⟨by rw [optL_n hR]; exact hR.lo, by rw [optL_n hR]; exact hR.hi, fun a b h => by
  rw [optL_n hR]
  rcases (optL_has hR a b).1 h with h | ⟨rfl, h'⟩
  · exact hR.lt _ _ h
  · exact ⟨h', h'⟩⟩

theorem rl_ext {R S : Rl} (hn : R.n = S.n) (h : ∀ a b, R.has a b = true ↔ S.has a b = true) : R = S := Rl.ext_has hn fun a b _ _ => Bool.eq_iff_iff.2 (h a b)

theorem s3_has (a b : Nat) : s3.has a b = true ↔ c3.has a b = true ∨ (a = b ∧ (a : Int) < 3) := by
  constructor
  · intro h
    have key : ∀ a : Fin 64, ∀ b : Fin 64, s3.has a b = true → c3.has a b = true ∨ (a.val = b.val ∧ (a.val : Int) < 3) := by decide +kernel
    exact key ⟨a, (Rl.has_lt s3 h).1⟩ ⟨b, (Rl.has_lt s3 h).2⟩ h
  · rintro (h | ⟨rfl, h⟩)
    · rcases (c3_has a b).1 h with ⟨rfl, rfl⟩ | ⟨rfl, rfl⟩ | ⟨rfl, rfl⟩ <;> decide +kernel
    · have : a = 0 ∨ a = 1 ∨ a = 2 := by omega
      rcases this with rfl | rfl | rfl <;> decide +kernel
theorem star3 : optL c3 = s3 := by
  refine rl_ext ?_ fun a b => ?_
  · rw [optL_n c3_rt]; decide +kernel
  · rw [optL_has c3_rt, s3_has, show c3.n = 3 by decide +kernel]
theorem cntS3 : sumL (rightL (optL c3)) 0 64 = 6 := by
  rw [(optL_rt c3_rt).right, star3]; decide +kernel
theorem comp3 : hasI (rightL (composeL r3 r3)) 0 2 = true := by
  rw [compose_eq, (twoR_rt 3 r3_rt r3_rt rfl).right]
  have h1 : (twoR 3 r3 r3).has 0 2 = true := (comp_has r3_rt r3_rt rfl 0 2).2 ⟨1, (r3_has 0 1).2 (.inl ⟨rfl, rfl⟩), (r3_has 1 2).2 (.inr ⟨rfl, rfl⟩)⟩
  have h2 : (twoR 3 r3 r3).n = 3 := by rw [twoR_n 3 r3_rt r3_rt rfl]; decide +kernel
  unfold hasI
  rw [h2]
  exact h1

theorem works_walk (R C S Q : Rl) (w : World)
    (g1 : ∀ w' p c, SeesE w' p [(0, 1), (1, 2)] → Gives Tryd.prog 65 [.int .i64 3, .slice p 2 c] w' (ofV (R, 0)))
    (g2 : ∀ w', Agree (fun _ => False) w w' → HandsZ Tryd.prog 49 [encRel R] w' (.tup [.sl 2 1 0 3, .tt true]) [(2, .row 3 1 3 (encN [0, 1, 2]))])
    (g3 : ∀ w', Gives Tryd.prog 34 [encRel R] w' (encRel C)) (g4 : ∀ w', Gives Tryd.prog 15 [encRel C] w' (.int .i64 3))
    (g5 : ∀ w', Gives Tryd.prog 36 [encRel R] w' (encRel S)) (g6 : ∀ w', Gives Tryd.prog 15 [encRel S] w' (.int .i64 6))
    (g7 : ∀ w', Agree (fun _ => False) w w' → Gives Tryd.prog 25 [encRel R, encRel R] w' (encRel Q)) (g8 : ∀ w', Gives Tryd.prog 16 [encRel Q, .int .i64 0, .int .i64 2] w' (.bool true))
    (g9 : ∀ w', Gives Tryd.prog 46 [encRel R] w' (.bool true)) : Gives Tryd.prog 62 [] w (.bool true) := by
  refine Gives.of_run Tryd.func62 rfl (by show 0 ≤ 50; decide) ?_
  refine RunF_sound tab_ok noX_local 200 [] _ _ rfl ?_ ?_
  · simp [fillL, Value.cells, splice, repL, maxLen]
  refine Run.callM (r := ofV (R, 0)) noX_local rfl rfl rfl rfl rfl rfl of_enters rfl (fun M w' hM hA => ?_) ?_
  · have hb := hM 0 _ rfl
    refine g1 w' (some ⟨(M 0).1, 0, none⟩) ((M 0).2 - 0) (seesE_row hb (fun i hi => ?_))
    rcases i with _ | _ | i
    · exact ⟨rfl, rfl⟩
    · exact ⟨rfl, rfl⟩
    · exact absurd hi (by simp)
  refine RunF_sound tab_ok noX_local 200 [] _ _ rfl ?_ ?_
  · simp [segsVals, relV_one' R]
  refine Run.callH noX_local (.tup [.sl 2 1 0 3, .tt true]) [(2, .row 3 1 3 (encN [0, 1, 2]))] 3 rfl rfl rfl rfl rfl rfl extend_enters rfl rfl rfl rfl rfl (fun M w' _ hA => g2 w' hA) ?_
  refine RunF_sound tab_ok noX_local 200 [] _ _ rfl ?_ ?_
  · simp
  refine Run.callFn noX_local rfl rfl rfl rfl rfl rfl rfl num_enters rfl (fun w' hA => num_ok _ w') ?_
  refine RunF_sound tab_ok noX_local 200 [true] _ _ rfl ?_ ?_
  · simp
  refine Run.callFn (r := encRel C) noX_local rfl rfl rfl rfl rfl rfl rfl plus_enters rfl (fun w' hA => g3 w') ?_
  refine RunF_sound tab_ok noX_local 200 [] _ _ rfl ?_ ?_
  · simp
  refine Run.callFn (r := .int .i64 3) noX_local rfl rfl rfl rfl rfl rfl rfl count_enters rfl (fun w' hA => g4 w') ?_
  refine RunF_sound tab_ok noX_local 200 [true] _ _ rfl ?_ ?_
  · simp
  refine Run.callFn (r := encRel S) noX_local rfl rfl rfl rfl rfl rfl rfl star_enters rfl (fun w' hA => g5 w') ?_
  refine RunF_sound tab_ok noX_local 200 [] _ _ rfl ?_ ?_
  · simp
  refine Run.callFn (r := .int .i64 6) noX_local rfl rfl rfl rfl rfl rfl rfl count_enters rfl (fun w' hA => g6 w') ?_
  refine RunF_sound tab_ok noX_local 200 [true] _ _ rfl ?_ ?_
  · simp
  refine Run.callFn (r := encRel Q) noX_local rfl rfl rfl rfl rfl rfl rfl compose_enters rfl (fun w' hA => g7 w' hA) ?_
  refine RunF_sound tab_ok noX_local 200 [] _ _ rfl ?_ ?_
  · simp
  refine Run.callFn (r := .bool true) noX_local rfl rfl rfl rfl rfl rfl rfl has_enters rfl (fun w' hA => g8 w') ?_
  refine RunF_sound tab_ok noX_local 200 [true] _ _ rfl ?_ ?_
  · simp
  refine Run.callFn (r := .bool true) noX_local rfl rfl rfl rfl rfl rfl rfl acyclic_enters rfl (fun w' hA => g9 w') ?_
  refine Run.to (t' := [(3, .sl 2 1 0 3), (4, .tt true), (38, .tt true), (40, .v (.bool true))]) (h' := [(2, .row 3 1 3 (encN [0, 1, 2]))]) (n' := 3) ?_ ⟨rfl, rfl, rfl, rfl, trivial⟩ ⟨rfl, trivial⟩
  refine RunF_sound tab_ok noX_local 200 [true] _ _ rfl ?_ ?_
  · simp [fillL, Value.cells, splice, repL, maxLen]
  refine Run.callM (r := .bool true) noX_local rfl rfl rfl rfl rfl rfl sameInts_enters rfl (fun M w' hM hA => ?_) ?_
  · have h2 := hM 2 _ rfl
    have h3 := hM 3 _ rfl
    have h3' : BlkAt M w' 3 (.row 3 1 3 (encN [0, 1, 2])) := h3
    have := sameInts_ok (some ⟨(M 2).1, 0, none⟩) (some ⟨(M 3).1, 0, none⟩) ((M 2).2 - 0) ((M 3).2 - 0) [0, 1, 2] [0, 1, 2] w' (seesN_row h2) (seesN_row h3') (by simp [maxLen])
    show Gives Tryd.prog _ _ _ _
    simpa [concL, conc] using this
  refine RunF_sound tab_ok noX_local 200 [true] _ _ rfl ?_ ?_
  · simp
  exact Run.retP tab_ok Tryd.func62 rfl trivial (fun M => rfl)

theorem works_ok (w : World) (hT : TabAt w) (h0 : 0 < w.heap.size) : Gives Tryd.prog 62 [] w (.bool true) := by
  refine works_walk r3 c3 (optL c3) (composeL r3 r3) w (fun w' p c hs => ?_) (fun w' hA => ?_) (fun w' => ?_) (fun w' => ?_) (fun w' => ?_) (fun w' => ?_) (fun w' hA => ?_) (fun w' => ?_) (fun w' => ?_)
  · have := of_ok 3 p c [(0, 1), (1, 2)] w' hs (by simp [maxLen])
    rw [of3] at this
    exact this
  · have := extend_ok r3 w' (hT.agree hA (fun f => f)) (Nat.lt_of_lt_of_le h0 hA.size)
    rw [orders3] at this
    exact this.to [(2, 0)] rfl ⟨rfl, trivial⟩ rfl
  · have := plus_ok r3 w'
    rw [r3_rt.right, clos3] at this
    exact this
  · have := count_ok c3 w'
    rw [cnt3] at this
    exact this
  · have := star_ok r3 w'
    rw [r3_rt.right, clos3] at this
    exact this
  · have := count_ok (optL c3) w'
    rw [cntS3] at this
    exact this
  · exact compose_ok r3 r3 w' (hT.agree hA (fun f => f)) (Nat.lt_of_lt_of_le h0 hA.size)
  · have := has_ok (composeL r3 r3) 0 2 w'
    rw [comp3] at this
    exact this
  · have := acyclic_ok r3 w'
    rw [r3_rt.right, clos3, ac3] at this
    exact this

theorem works_enters : Enters Tryd.prog 62 := enters_mk Tryd.func62 (by decide) rfl
end Go.Proofs.YtocpkgckllbjlaaDoor

/-
  RelLeast walked, over opaque values. Own work; printed by a program of our own (tools/gen_rel.py).
-/
namespace Go.Proofs.YtocpkgckllbjlaaDoor
open Go.AM
set_option maxRecDepth 100000

theorem hcmpE {X Y : Rl} (h : X = Y) : EqT Tryd.prog 25 (relV X).toArray (relV Y).toArray true := by have := eqRel X Y; simpa [h] using this
theorem hcmpN {X Y : Rl} (h : X ≠ Y) : EqT Tryd.prog 25 (relV X).toArray (relV Y).toArray false := by have := eqRel X Y; simpa [h] using this

theorem least_1 (r : Rl) (s : Rl)  (w : World)
    (cr : checkI r ≠ 0)
    (g7 : ∀ w', Agree (fun _ => False) w w' → Gives Tryd.prog 62 [] w' (.bool true))
    : Gives Tryd.prog 8 [encRel r, encRel s] w (.bool true) := by
  refine Gives.of_run Tryd.func8 rfl (by show 2 ≤ 85; decide) ?_
  refine RunF_sound tab_ok noX_local 400 [] _ _ rfl ?_ ?_
  · simp [*]
  refine Run.callFn (r := .bool true) noX_local rfl rfl rfl rfl rfl rfl rfl works_enters rfl (fun w' hA => g7 w' hA) ?_
  refine RunF_sound tab_ok noX_local 400 [false] _ _ rfl ?_ ?_
  · simp [*]
  refine Run.callFn (r := .int .i64 (checkI r)) noX_local rfl rfl rfl rfl rfl rfl rfl check_enters rfl (fun w' _ => check_ok r w') ?_
  refine RunF_sound tab_ok noX_local 400 [] _ _ rfl ?_ ?_
  · simp [*]
  refine Run.callFn (r := .int .i64 (checkI r)) noX_local rfl rfl rfl rfl rfl rfl rfl num_enters rfl (fun w' _ => num_ok _ w') ?_
  refine RunF_sound tab_ok noX_local 400 [true] _ _ rfl ?_ ?_
  · simp [*]
  exact Run.retP tab_ok Tryd.func8 rfl trivial (fun M => rfl)

theorem least_2 (r : Rl) (s : Rl)  (w : World)
    (cr : checkI r = 0) (cs : checkI s ≠ 0)
    (g7 : ∀ w', Agree (fun _ => False) w w' → Gives Tryd.prog 62 [] w' (.bool true))
    : Gives Tryd.prog 8 [encRel r, encRel s] w (.bool true) := by
  refine Gives.of_run Tryd.func8 rfl (by show 2 ≤ 85; decide) ?_
  refine RunF_sound tab_ok noX_local 400 [] _ _ rfl ?_ ?_
  · simp [*]
  refine Run.callFn (r := .bool true) noX_local rfl rfl rfl rfl rfl rfl rfl works_enters rfl (fun w' hA => g7 w' hA) ?_
  refine RunF_sound tab_ok noX_local 400 [false] _ _ rfl ?_ ?_
  · simp [*]
  refine Run.callFn (r := .int .i64 (checkI r)) noX_local rfl rfl rfl rfl rfl rfl rfl check_enters rfl (fun w' _ => check_ok r w') ?_
  refine RunF_sound tab_ok noX_local 400 [] _ _ rfl ?_ ?_
  · simp [*]
  refine Run.callFn (r := .int .i64 (checkI r)) noX_local rfl rfl rfl rfl rfl rfl rfl num_enters rfl (fun w' _ => num_ok _ w') ?_
  refine RunF_sound tab_ok noX_local 400 [false] _ _ rfl ?_ ?_
  · simp [*]
  refine Run.callFn (r := .int .i64 (checkI s)) noX_local rfl rfl rfl rfl rfl rfl rfl check_enters rfl (fun w' _ => check_ok s w') ?_
  refine RunF_sound tab_ok noX_local 400 [] _ _ rfl ?_ ?_
  · simp [*]
  refine Run.callFn (r := .int .i64 (checkI s)) noX_local rfl rfl rfl rfl rfl rfl rfl num_enters rfl (fun w' _ => num_ok _ w') ?_
  refine RunF_sound tab_ok noX_local 400 [true] _ _ rfl ?_ ?_
  · simp [*]
  exact Run.retP tab_ok Tryd.func8 rfl trivial (fun M => rfl)

theorem least_3 (r : Rl) (s : Rl)  (w : World)
    (cr : checkI r = 0) (cs : checkI s = 0) (hn : r.n ≠ s.n)
    (g7 : ∀ w', Agree (fun _ => False) w w' → Gives Tryd.prog 62 [] w' (.bool true))
    : Gives Tryd.prog 8 [encRel r, encRel s] w (.bool true) := by
  refine Gives.of_run Tryd.func8 rfl (by show 2 ≤ 85; decide) ?_
  refine RunF_sound tab_ok noX_local 400 [] _ _ rfl ?_ ?_
  · simp [*]
  refine Run.callFn (r := .bool true) noX_local rfl rfl rfl rfl rfl rfl rfl works_enters rfl (fun w' hA => g7 w' hA) ?_
  refine RunF_sound tab_ok noX_local 400 [false] _ _ rfl ?_ ?_
  · simp [*]
  refine Run.callFn (r := .int .i64 (checkI r)) noX_local rfl rfl rfl rfl rfl rfl rfl check_enters rfl (fun w' _ => check_ok r w') ?_
  refine RunF_sound tab_ok noX_local 400 [] _ _ rfl ?_ ?_
  · simp [*]
  refine Run.callFn (r := .int .i64 (checkI r)) noX_local rfl rfl rfl rfl rfl rfl rfl num_enters rfl (fun w' _ => num_ok _ w') ?_
  refine RunF_sound tab_ok noX_local 400 [false] _ _ rfl ?_ ?_
  · simp [*]
  refine Run.callFn (r := .int .i64 (checkI s)) noX_local rfl rfl rfl rfl rfl rfl rfl check_enters rfl (fun w' _ => check_ok s w') ?_
  refine RunF_sound tab_ok noX_local 400 [] _ _ rfl ?_ ?_
  · simp [*]
  refine Run.callFn (r := .int .i64 (checkI s)) noX_local rfl rfl rfl rfl rfl rfl rfl num_enters rfl (fun w' _ => num_ok _ w') ?_
  refine RunF_sound tab_ok noX_local 400 [false, true] _ _ rfl ?_ ?_
  · simp [*]
  exact Run.retP tab_ok Tryd.func8 rfl trivial (fun M => rfl)

theorem least_4 (r : Rl) (s : Rl) (X27 : Rl) (X34 : Rl) (X40 : Rl) (X46 : Rl) (X48 : Rl) (X53 : Rl) (X54 : Rl) (X56 : Rl) (X61 : Rl) (X62 : Rl) (X65 : Rl) (w : World)
    (cr : checkI r = 0) (cs : checkI s = 0) (hn : r.n = s.n)
    (g7 : ∀ w', Agree (fun _ => False) w w' → Gives Tryd.prog 62 [] w' (.bool true))
    (g27 : ∀ w', Agree (fun _ => False) w w' → Gives Tryd.prog 34 [encRel r] w' (encRel X27))
    (g29 : ∀ w', Agree (fun _ => False) w w' → Gives Tryd.prog 44 [encRel X27] w' (.bool true))
    (g34 : ∀ w', Agree (fun _ => False) w w' → Gives Tryd.prog 21 [encRel X27, encRel r] w' (encRel X34))
    (e36 : X34 = X27)
    (g40 : ∀ w', Agree (fun _ => False) w w' → Gives Tryd.prog 34 [encRel X27] w' (encRel X40))
    (e42 : X40 = X27)
    (g46 : ∀ w', Agree (fun _ => False) w w' → Gives Tryd.prog 36 [encRel r] w' (encRel X46))
    (g48 : ∀ w', Agree (fun _ => False) w w' → Gives Tryd.prog 32 [encRel X27] w' (encRel X48))
    (e49 : X46 = X48)
    (g53 : ∀ w', Agree (fun _ => False) w w' → Gives Tryd.prog 36 [encRel r] w' (encRel X53))
    (g54 : ∀ w', Agree (fun _ => False) w w' → Gives Tryd.prog 36 [encRel X53] w' (encRel X54))
    (g56 : ∀ w', Agree (fun _ => False) w w' → Gives Tryd.prog 36 [encRel r] w' (encRel X56))
    (e57 : X54 = X56)
    (g61 : ∀ w', Agree (fun _ => False) w w' → Gives Tryd.prog 21 [encRel r, encRel s] w' (encRel X61))
    (g62 : ∀ w', Agree (fun _ => False) w w' → Gives Tryd.prog 34 [encRel X61] w' (encRel X62))
    (g65 : ∀ w', Agree (fun _ => False) w w' → Gives Tryd.prog 21 [encRel X62, encRel X27] w' (encRel X65))
    (e67 : X65 = X62)
    (g69 : ∀ w', Agree (fun _ => False) w w' → Gives Tryd.prog 44 [encRel s] w' (.bool false))
    : Gives Tryd.prog 8 [encRel r, encRel s] w (.bool true) := by
  refine Gives.of_run Tryd.func8 rfl (by show 2 ≤ 85; decide) ?_
  refine RunF_sound tab_ok noX_local 400 [] _ _ rfl ?_ ?_
  · simp [*]
  refine Run.callFn (r := .bool true) noX_local rfl rfl rfl rfl rfl rfl rfl works_enters rfl (fun w' hA => g7 w' hA) ?_
  refine RunF_sound tab_ok noX_local 400 [false] _ _ rfl ?_ ?_
  · simp [*]
  refine Run.callFn (r := .int .i64 (checkI r)) noX_local rfl rfl rfl rfl rfl rfl rfl check_enters rfl (fun w' _ => check_ok r w') ?_
  refine RunF_sound tab_ok noX_local 400 [] _ _ rfl ?_ ?_
  · simp [*]
  refine Run.callFn (r := .int .i64 (checkI r)) noX_local rfl rfl rfl rfl rfl rfl rfl num_enters rfl (fun w' _ => num_ok _ w') ?_
  refine RunF_sound tab_ok noX_local 400 [false] _ _ rfl ?_ ?_
  · simp [*]
  refine Run.callFn (r := .int .i64 (checkI s)) noX_local rfl rfl rfl rfl rfl rfl rfl check_enters rfl (fun w' _ => check_ok s w') ?_
  refine RunF_sound tab_ok noX_local 400 [] _ _ rfl ?_ ?_
  · simp [*]
  refine Run.callFn (r := .int .i64 (checkI s)) noX_local rfl rfl rfl rfl rfl rfl rfl num_enters rfl (fun w' _ => num_ok _ w') ?_
  refine RunF_sound tab_ok noX_local 400 [false, false] _ _ rfl ?_ ?_
  · simp [*]
  refine Run.callFn (r := encRel X27) noX_local rfl rfl rfl rfl rfl rfl rfl plus_enters rfl (fun w' hA => g27 w' hA) ?_
  refine Run.to (t' := [(2, .ptr 0 0), (3, .ptr 1 0), (27, .v (encRel X27))]) (h' := [(0, .cells 25 [.vals 65 (relV r)]), (1, .cells 25 [.vals 65 (relV s)])]) (n' := 2) ?_ ⟨rfl, rfl, rfl, trivial⟩ ⟨rfl, rfl, trivial⟩
  refine RunF_sound tab_ok noX_local 400 [] _ _ rfl ?_ ?_
  · simp [segsVals, relV_one', *]
  refine Run.drawA noX_local rfl [] [(0, .cells 25 [.vals 65 (relV r)]), (1, .cells 25 [.vals 65 (relV s)]), (2, .cells 25 [.vals 65 (relV X27)])] rfl rfl ⟨rfl, rfl, rfl, trivial⟩ ?_
  refine RunOF_sound tab_ok noX_local rfl rfl 400 [] _ _ rfl ?_ ?_
  · simp [*]
  refine RunO.callFn (r := .bool true) noX_local rfl rfl rfl rfl rfl rfl rfl rfl transitive_enters rfl (fun w' hA => g29 w' hA) ?_
  refine RunOF_sound tab_ok noX_local rfl rfl 400 [false] _ _ rfl ?_ ?_
  · simp [*]
  refine RunO.callFn (r := encRel X34) noX_local rfl rfl rfl rfl rfl rfl rfl rfl union_enters rfl (fun w' hA => g34 w' hA) ?_
  refine RunOF_sound tab_ok noX_local rfl rfl 400 [] _ _ rfl ?_ ?_
  · simp [*]
  refine RunO.cmp rfl rfl rfl rfl rfl rfl rfl (b := true) (c := false) (hcmpE e36) (.inr ⟨rfl, rfl⟩) ?_
  refine RunOF_sound tab_ok noX_local rfl rfl 400 [false] _ _ rfl ?_ ?_
  · simp [*]
  refine RunO.callFn (r := encRel X40) noX_local rfl rfl rfl rfl rfl rfl rfl rfl plus_enters rfl (fun w' hA => g40 w' hA) ?_
  refine RunOF_sound tab_ok noX_local rfl rfl 400 [] _ _ rfl ?_ ?_
  · simp [*]
  refine RunO.cmp rfl rfl rfl rfl rfl rfl rfl (b := true) (c := false) (hcmpE e42) (.inr ⟨rfl, rfl⟩) ?_
  refine RunOF_sound tab_ok noX_local rfl rfl 400 [false] _ _ rfl ?_ ?_
  · simp [*]
  refine RunO.callFn (r := encRel X46) noX_local rfl rfl rfl rfl rfl rfl rfl rfl star_enters rfl (fun w' hA => g46 w' hA) ?_
  refine RunOF_sound tab_ok noX_local rfl rfl 400 [] _ _ rfl ?_ ?_
  · simp [*]
  refine RunO.callFn (r := encRel X48) noX_local rfl rfl rfl rfl rfl rfl rfl rfl opt_enters rfl (fun w' hA => g48 w' hA) ?_
  refine RunOF_sound tab_ok noX_local rfl rfl 400 [] _ _ rfl ?_ ?_
  · simp [*]
  refine RunO.cmp rfl rfl rfl rfl rfl rfl rfl (b := true) (c := false) (hcmpE e49) (.inr ⟨rfl, rfl⟩) ?_
  refine RunOF_sound tab_ok noX_local rfl rfl 400 [false] _ _ rfl ?_ ?_
  · simp [*]
  refine RunO.callFn (r := encRel X53) noX_local rfl rfl rfl rfl rfl rfl rfl rfl star_enters rfl (fun w' hA => g53 w' hA) ?_
  refine RunOF_sound tab_ok noX_local rfl rfl 400 [] _ _ rfl ?_ ?_
  · simp [*]
  refine RunO.callFn (r := encRel X54) noX_local rfl rfl rfl rfl rfl rfl rfl rfl star_enters rfl (fun w' hA => g54 w' hA) ?_
  refine RunOF_sound tab_ok noX_local rfl rfl 400 [] _ _ rfl ?_ ?_
  · simp [*]
  refine RunO.callFn (r := encRel X56) noX_local rfl rfl rfl rfl rfl rfl rfl rfl star_enters rfl (fun w' hA => g56 w' hA) ?_
  refine RunOF_sound tab_ok noX_local rfl rfl 400 [] _ _ rfl ?_ ?_
  · simp [*]
  refine RunO.cmp rfl rfl rfl rfl rfl rfl rfl (b := true) (c := false) (hcmpE e57) (.inr ⟨rfl, rfl⟩) ?_
  refine RunOF_sound tab_ok noX_local rfl rfl 400 [] _ _ rfl ?_ ?_
  · simp [*]
  refine RunO.done ?_
  refine RunF_sound tab_ok noX_local 400 [false] _ _ rfl ?_ ?_
  · simp [*]
  refine Run.callFn (r := encRel X61) noX_local rfl rfl rfl rfl rfl rfl rfl union_enters rfl (fun w' hA => g61 w' hA) ?_
  refine Run.to (t' := [(2, .ptr 0 0), (3, .ptr 1 0), (5, .ptr 2 0), (61, .v (encRel X61))]) (h' := [(0, .cells 25 [.vals 65 (relV r)]), (1, .cells 25 [.vals 65 (relV s)]), (2, .cells 25 [.vals 65 (relV X27)])]) (n' := 3) ?_ ⟨rfl, rfl, rfl, rfl, trivial⟩ ⟨rfl, rfl, rfl, trivial⟩
  refine RunF_sound tab_ok noX_local 400 [] _ _ rfl ?_ ?_
  · simp [*]
  refine Run.callFn (r := encRel X62) noX_local rfl rfl rfl rfl rfl rfl rfl plus_enters rfl (fun w' hA => g62 w' hA) ?_
  refine Run.to (t' := [(2, .ptr 0 0), (3, .ptr 1 0), (5, .ptr 2 0), (62, .v (encRel X62))]) (h' := [(0, .cells 25 [.vals 65 (relV r)]), (1, .cells 25 [.vals 65 (relV s)]), (2, .cells 25 [.vals 65 (relV X27)])]) (n' := 3) ?_ ⟨rfl, rfl, rfl, rfl, trivial⟩ ⟨rfl, rfl, rfl, trivial⟩
  refine RunF_sound tab_ok noX_local 400 [] _ _ rfl ?_ ?_
  · simp [segsVals, relV_one', *]
  refine Run.drawA noX_local rfl [] [(0, .cells 25 [.vals 65 (relV r)]), (1, .cells 25 [.vals 65 (relV s)]), (2, .cells 25 [.vals 65 (relV X27)]), (3, .cells 25 [.vals 65 (relV X62)])] rfl rfl ⟨rfl, rfl, rfl, rfl, trivial⟩ ?_
  refine RunOF_sound tab_ok noX_local rfl rfl 400 [] _ _ rfl ?_ ?_
  · simp [*]
  refine RunO.callFn (r := encRel X65) noX_local rfl rfl rfl rfl rfl rfl rfl rfl union_enters rfl (fun w' hA => g65 w' hA) ?_
  refine RunOF_sound tab_ok noX_local rfl rfl 400 [] _ _ rfl ?_ ?_
  · simp [*]
  refine RunO.cmp rfl rfl rfl rfl rfl rfl rfl (b := true) (c := false) (hcmpE e67) (.inr ⟨rfl, rfl⟩) ?_
  refine RunOF_sound tab_ok noX_local rfl rfl 400 [] _ _ rfl ?_ ?_
  · simp [*]
  refine RunO.done ?_
  refine RunF_sound tab_ok noX_local 400 [false] _ _ rfl ?_ ?_
  · simp [*]
  refine Run.drawA noX_local rfl [] [(0, .cells 25 [.vals 65 (relV r)]), (1, .cells 25 [.vals 65 (relV s)]), (2, .cells 25 [.vals 65 (relV X27)]), (3, .cells 25 [.vals 65 (relV X62)])] rfl rfl ⟨rfl, rfl, rfl, rfl, trivial⟩ ?_
  refine RunOF_sound tab_ok noX_local rfl rfl 400 [] _ _ rfl ?_ ?_
  · simp [*]
  refine RunO.callFn (r := .bool false) noX_local rfl rfl rfl rfl rfl rfl rfl rfl transitive_enters rfl (fun w' hA => g69 w' hA) ?_
  refine RunOF_sound tab_ok noX_local rfl rfl 400 [true] _ _ rfl ?_ ?_
  · simp [*]
  refine RunO.done ?_
  refine RunF_sound tab_ok noX_local 400 [] _ _ rfl ?_ ?_
  · simp [*]
  exact Run.retP tab_ok Tryd.func8 rfl trivial (fun M => rfl)

theorem least_5 (r : Rl) (s : Rl) (X27 : Rl) (X34 : Rl) (X40 : Rl) (X46 : Rl) (X48 : Rl) (X53 : Rl) (X54 : Rl) (X56 : Rl) (X61 : Rl) (X62 : Rl) (X65 : Rl) (X74 : Rl) (w : World)
    (cr : checkI r = 0) (cs : checkI s = 0) (hn : r.n = s.n)
    (g7 : ∀ w', Agree (fun _ => False) w w' → Gives Tryd.prog 62 [] w' (.bool true))
    (g27 : ∀ w', Agree (fun _ => False) w w' → Gives Tryd.prog 34 [encRel r] w' (encRel X27))
    (g29 : ∀ w', Agree (fun _ => False) w w' → Gives Tryd.prog 44 [encRel X27] w' (.bool true))
    (g34 : ∀ w', Agree (fun _ => False) w w' → Gives Tryd.prog 21 [encRel X27, encRel r] w' (encRel X34))
    (e36 : X34 = X27)
    (g40 : ∀ w', Agree (fun _ => False) w w' → Gives Tryd.prog 34 [encRel X27] w' (encRel X40))
    (e42 : X40 = X27)
    (g46 : ∀ w', Agree (fun _ => False) w w' → Gives Tryd.prog 36 [encRel r] w' (encRel X46))
    (g48 : ∀ w', Agree (fun _ => False) w w' → Gives Tryd.prog 32 [encRel X27] w' (encRel X48))
    (e49 : X46 = X48)
    (g53 : ∀ w', Agree (fun _ => False) w w' → Gives Tryd.prog 36 [encRel r] w' (encRel X53))
    (g54 : ∀ w', Agree (fun _ => False) w w' → Gives Tryd.prog 36 [encRel X53] w' (encRel X54))
    (g56 : ∀ w', Agree (fun _ => False) w w' → Gives Tryd.prog 36 [encRel r] w' (encRel X56))
    (e57 : X54 = X56)
    (g61 : ∀ w', Agree (fun _ => False) w w' → Gives Tryd.prog 21 [encRel r, encRel s] w' (encRel X61))
    (g62 : ∀ w', Agree (fun _ => False) w w' → Gives Tryd.prog 34 [encRel X61] w' (encRel X62))
    (g65 : ∀ w', Agree (fun _ => False) w w' → Gives Tryd.prog 21 [encRel X62, encRel X27] w' (encRel X65))
    (e67 : X65 = X62)
    (g69 : ∀ w', Agree (fun _ => False) w w' → Gives Tryd.prog 44 [encRel s] w' (.bool true))
    (g74 : ∀ w', Agree (fun _ => False) w w' → Gives Tryd.prog 21 [encRel s, encRel r] w' (encRel X74))
    (e76 : X74 ≠ s)
    : Gives Tryd.prog 8 [encRel r, encRel s] w (.bool true) := by
  refine Gives.of_run Tryd.func8 rfl (by show 2 ≤ 85; decide) ?_
  refine RunF_sound tab_ok noX_local 400 [] _ _ rfl ?_ ?_
  · simp [*]
  refine Run.callFn (r := .bool true) noX_local rfl rfl rfl rfl rfl rfl rfl works_enters rfl (fun w' hA => g7 w' hA) ?_
  refine RunF_sound tab_ok noX_local 400 [false] _ _ rfl ?_ ?_
  · simp [*]
  refine Run.callFn (r := .int .i64 (checkI r)) noX_local rfl rfl rfl rfl rfl rfl rfl check_enters rfl (fun w' _ => check_ok r w') ?_
  refine RunF_sound tab_ok noX_local 400 [] _ _ rfl ?_ ?_
  · simp [*]
  refine Run.callFn (r := .int .i64 (checkI r)) noX_local rfl rfl rfl rfl rfl rfl rfl num_enters rfl (fun w' _ => num_ok _ w') ?_
  refine RunF_sound tab_ok noX_local 400 [false] _ _ rfl ?_ ?_
  · simp [*]
  refine Run.callFn (r := .int .i64 (checkI s)) noX_local rfl rfl rfl rfl rfl rfl rfl check_enters rfl (fun w' _ => check_ok s w') ?_
  refine RunF_sound tab_ok noX_local 400 [] _ _ rfl ?_ ?_
  · simp [*]
  refine Run.callFn (r := .int .i64 (checkI s)) noX_local rfl rfl rfl rfl rfl rfl rfl num_enters rfl (fun w' _ => num_ok _ w') ?_
  refine RunF_sound tab_ok noX_local 400 [false, false] _ _ rfl ?_ ?_
  · simp [*]
  refine Run.callFn (r := encRel X27) noX_local rfl rfl rfl rfl rfl rfl rfl plus_enters rfl (fun w' hA => g27 w' hA) ?_
  refine Run.to (t' := [(2, .ptr 0 0), (3, .ptr 1 0), (27, .v (encRel X27))]) (h' := [(0, .cells 25 [.vals 65 (relV r)]), (1, .cells 25 [.vals 65 (relV s)])]) (n' := 2) ?_ ⟨rfl, rfl, rfl, trivial⟩ ⟨rfl, rfl, trivial⟩
  refine RunF_sound tab_ok noX_local 400 [] _ _ rfl ?_ ?_
  · simp [segsVals, relV_one', *]
  refine Run.drawA noX_local rfl [] [(0, .cells 25 [.vals 65 (relV r)]), (1, .cells 25 [.vals 65 (relV s)]), (2, .cells 25 [.vals 65 (relV X27)])] rfl rfl ⟨rfl, rfl, rfl, trivial⟩ ?_
  refine RunOF_sound tab_ok noX_local rfl rfl 400 [] _ _ rfl ?_ ?_
  · simp [*]
  refine RunO.callFn (r := .bool true) noX_local rfl rfl rfl rfl rfl rfl rfl rfl transitive_enters rfl (fun w' hA => g29 w' hA) ?_
  refine RunOF_sound tab_ok noX_local rfl rfl 400 [false] _ _ rfl ?_ ?_
  · simp [*]
  refine RunO.callFn (r := encRel X34) noX_local rfl rfl rfl rfl rfl rfl rfl rfl union_enters rfl (fun w' hA => g34 w' hA) ?_
  refine RunOF_sound tab_ok noX_local rfl rfl 400 [] _ _ rfl ?_ ?_
  · simp [*]
  refine RunO.cmp rfl rfl rfl rfl rfl rfl rfl (b := true) (c := false) (hcmpE e36) (.inr ⟨rfl, rfl⟩) ?_
  refine RunOF_sound tab_ok noX_local rfl rfl 400 [false] _ _ rfl ?_ ?_
  · simp [*]
  refine RunO.callFn (r := encRel X40) noX_local rfl rfl rfl rfl rfl rfl rfl rfl plus_enters rfl (fun w' hA => g40 w' hA) ?_
  refine RunOF_sound tab_ok noX_local rfl rfl 400 [] _ _ rfl ?_ ?_
  · simp [*]
  refine RunO.cmp rfl rfl rfl rfl rfl rfl rfl (b := true) (c := false) (hcmpE e42) (.inr ⟨rfl, rfl⟩) ?_
  refine RunOF_sound tab_ok noX_local rfl rfl 400 [false] _ _ rfl ?_ ?_
  · simp [*]
  refine RunO.callFn (r := encRel X46) noX_local rfl rfl rfl rfl rfl rfl rfl rfl star_enters rfl (fun w' hA => g46 w' hA) ?_
  refine RunOF_sound tab_ok noX_local rfl rfl 400 [] _ _ rfl ?_ ?_
  · simp [*]
  refine RunO.callFn (r := encRel X48) noX_local rfl rfl rfl rfl rfl rfl rfl rfl opt_enters rfl (fun w' hA => g48 w' hA) ?_
  refine RunOF_sound tab_ok noX_local rfl rfl 400 [] _ _ rfl ?_ ?_
  · simp [*]
  refine RunO.cmp rfl rfl rfl rfl rfl rfl rfl (b := true) (c := false) (hcmpE e49) (.inr ⟨rfl, rfl⟩) ?_
  refine RunOF_sound tab_ok noX_local rfl rfl 400 [false] _ _ rfl ?_ ?_
  · simp [*]
  refine RunO.callFn (r := encRel X53) noX_local rfl rfl rfl rfl rfl rfl rfl rfl star_enters rfl (fun w' hA => g53 w' hA) ?_
  refine RunOF_sound tab_ok noX_local rfl rfl 400 [] _ _ rfl ?_ ?_
  · simp [*]
  refine RunO.callFn (r := encRel X54) noX_local rfl rfl rfl rfl rfl rfl rfl rfl star_enters rfl (fun w' hA => g54 w' hA) ?_
  refine RunOF_sound tab_ok noX_local rfl rfl 400 [] _ _ rfl ?_ ?_
  · simp [*]
  refine RunO.callFn (r := encRel X56) noX_local rfl rfl rfl rfl rfl rfl rfl rfl star_enters rfl (fun w' hA => g56 w' hA) ?_
  refine RunOF_sound tab_ok noX_local rfl rfl 400 [] _ _ rfl ?_ ?_
  · simp [*]
  refine RunO.cmp rfl rfl rfl rfl rfl rfl rfl (b := true) (c := false) (hcmpE e57) (.inr ⟨rfl, rfl⟩) ?_
  refine RunOF_sound tab_ok noX_local rfl rfl 400 [] _ _ rfl ?_ ?_
  · simp [*]
  refine RunO.done ?_
  refine RunF_sound tab_ok noX_local 400 [false] _ _ rfl ?_ ?_
  · simp [*]
  refine Run.callFn (r := encRel X61) noX_local rfl rfl rfl rfl rfl rfl rfl union_enters rfl (fun w' hA => g61 w' hA) ?_
  refine Run.to (t' := [(2, .ptr 0 0), (3, .ptr 1 0), (5, .ptr 2 0), (61, .v (encRel X61))]) (h' := [(0, .cells 25 [.vals 65 (relV r)]), (1, .cells 25 [.vals 65 (relV s)]), (2, .cells 25 [.vals 65 (relV X27)])]) (n' := 3) ?_ ⟨rfl, rfl, rfl, rfl, trivial⟩ ⟨rfl, rfl, rfl, trivial⟩
  refine RunF_sound tab_ok noX_local 400 [] _ _ rfl ?_ ?_
  · simp [*]
  refine Run.callFn (r := encRel X62) noX_local rfl rfl rfl rfl rfl rfl rfl plus_enters rfl (fun w' hA => g62 w' hA) ?_
  refine Run.to (t' := [(2, .ptr 0 0), (3, .ptr 1 0), (5, .ptr 2 0), (62, .v (encRel X62))]) (h' := [(0, .cells 25 [.vals 65 (relV r)]), (1, .cells 25 [.vals 65 (relV s)]), (2, .cells 25 [.vals 65 (relV X27)])]) (n' := 3) ?_ ⟨rfl, rfl, rfl, rfl, trivial⟩ ⟨rfl, rfl, rfl, trivial⟩
  refine RunF_sound tab_ok noX_local 400 [] _ _ rfl ?_ ?_
  · simp [segsVals, relV_one', *]
  refine Run.drawA noX_local rfl [] [(0, .cells 25 [.vals 65 (relV r)]), (1, .cells 25 [.vals 65 (relV s)]), (2, .cells 25 [.vals 65 (relV X27)]), (3, .cells 25 [.vals 65 (relV X62)])] rfl rfl ⟨rfl, rfl, rfl, rfl, trivial⟩ ?_
  refine RunOF_sound tab_ok noX_local rfl rfl 400 [] _ _ rfl ?_ ?_
  · simp [*]
  refine RunO.callFn (r := encRel X65) noX_local rfl rfl rfl rfl rfl rfl rfl rfl union_enters rfl (fun w' hA => g65 w' hA) ?_
  refine RunOF_sound tab_ok noX_local rfl rfl 400 [] _ _ rfl ?_ ?_
  · simp [*]
  refine RunO.cmp rfl rfl rfl rfl rfl rfl rfl (b := true) (c := false) (hcmpE e67) (.inr ⟨rfl, rfl⟩) ?_
  refine RunOF_sound tab_ok noX_local rfl rfl 400 [] _ _ rfl ?_ ?_
  · simp [*]
  refine RunO.done ?_
  refine RunF_sound tab_ok noX_local 400 [false] _ _ rfl ?_ ?_
  · simp [*]
  refine Run.drawA noX_local rfl [] [(0, .cells 25 [.vals 65 (relV r)]), (1, .cells 25 [.vals 65 (relV s)]), (2, .cells 25 [.vals 65 (relV X27)]), (3, .cells 25 [.vals 65 (relV X62)])] rfl rfl ⟨rfl, rfl, rfl, rfl, trivial⟩ ?_
  refine RunOF_sound tab_ok noX_local rfl rfl 400 [] _ _ rfl ?_ ?_
  · simp [*]
  refine RunO.callFn (r := .bool true) noX_local rfl rfl rfl rfl rfl rfl rfl rfl transitive_enters rfl (fun w' hA => g69 w' hA) ?_
  refine RunOF_sound tab_ok noX_local rfl rfl 400 [false] _ _ rfl ?_ ?_
  · simp [*]
  refine RunO.callFn (r := encRel X74) noX_local rfl rfl rfl rfl rfl rfl rfl rfl union_enters rfl (fun w' hA => g74 w' hA) ?_
  refine RunOF_sound tab_ok noX_local rfl rfl 400 [] _ _ rfl ?_ ?_
  · simp [*]
  refine RunO.cmp rfl rfl rfl rfl rfl rfl rfl (b := false) (c := true) (hcmpN e76) (.inr ⟨rfl, rfl⟩) ?_
  refine RunOF_sound tab_ok noX_local rfl rfl 400 [true] _ _ rfl ?_ ?_
  · simp [*]
  refine RunO.done ?_
  refine RunF_sound tab_ok noX_local 400 [] _ _ rfl ?_ ?_
  · simp [*]
  exact Run.retP tab_ok Tryd.func8 rfl trivial (fun M => rfl)

theorem least_6 (r : Rl) (s : Rl) (X27 : Rl) (X34 : Rl) (X40 : Rl) (X46 : Rl) (X48 : Rl) (X53 : Rl) (X54 : Rl) (X56 : Rl) (X61 : Rl) (X62 : Rl) (X65 : Rl) (X74 : Rl) (X81 : Rl) (w : World)
    (cr : checkI r = 0) (cs : checkI s = 0) (hn : r.n = s.n)
    (g7 : ∀ w', Agree (fun _ => False) w w' → Gives Tryd.prog 62 [] w' (.bool true))
    (g27 : ∀ w', Agree (fun _ => False) w w' → Gives Tryd.prog 34 [encRel r] w' (encRel X27))
    (g29 : ∀ w', Agree (fun _ => False) w w' → Gives Tryd.prog 44 [encRel X27] w' (.bool true))
    (g34 : ∀ w', Agree (fun _ => False) w w' → Gives Tryd.prog 21 [encRel X27, encRel r] w' (encRel X34))
    (e36 : X34 = X27)
    (g40 : ∀ w', Agree (fun _ => False) w w' → Gives Tryd.prog 34 [encRel X27] w' (encRel X40))
    (e42 : X40 = X27)
    (g46 : ∀ w', Agree (fun _ => False) w w' → Gives Tryd.prog 36 [encRel r] w' (encRel X46))
    (g48 : ∀ w', Agree (fun _ => False) w w' → Gives Tryd.prog 32 [encRel X27] w' (encRel X48))
    (e49 : X46 = X48)
    (g53 : ∀ w', Agree (fun _ => False) w w' → Gives Tryd.prog 36 [encRel r] w' (encRel X53))
    (g54 : ∀ w', Agree (fun _ => False) w w' → Gives Tryd.prog 36 [encRel X53] w' (encRel X54))
    (g56 : ∀ w', Agree (fun _ => False) w w' → Gives Tryd.prog 36 [encRel r] w' (encRel X56))
    (e57 : X54 = X56)
    (g61 : ∀ w', Agree (fun _ => False) w w' → Gives Tryd.prog 21 [encRel r, encRel s] w' (encRel X61))
    (g62 : ∀ w', Agree (fun _ => False) w w' → Gives Tryd.prog 34 [encRel X61] w' (encRel X62))
    (g65 : ∀ w', Agree (fun _ => False) w w' → Gives Tryd.prog 21 [encRel X62, encRel X27] w' (encRel X65))
    (e67 : X65 = X62)
    (g69 : ∀ w', Agree (fun _ => False) w w' → Gives Tryd.prog 44 [encRel s] w' (.bool true))
    (g74 : ∀ w', Agree (fun _ => False) w w' → Gives Tryd.prog 21 [encRel s, encRel r] w' (encRel X74))
    (e76 : X74 = s)
    (g81 : ∀ w', Agree (fun _ => False) w w' → Gives Tryd.prog 21 [encRel s, encRel X27] w' (encRel X81))
    (e83 : X81 = s)
    : Gives Tryd.prog 8 [encRel r, encRel s] w (.bool true) := by
  refine Gives.of_run Tryd.func8 rfl (by show 2 ≤ 85; decide) ?_
  refine RunF_sound tab_ok noX_local 400 [] _ _ rfl ?_ ?_
  · simp [*]
  refine Run.callFn (r := .bool true) noX_local rfl rfl rfl rfl rfl rfl rfl works_enters rfl (fun w' hA => g7 w' hA) ?_
  refine RunF_sound tab_ok noX_local 400 [false] _ _ rfl ?_ ?_
  · simp [*]
  refine Run.callFn (r := .int .i64 (checkI r)) noX_local rfl rfl rfl rfl rfl rfl rfl check_enters rfl (fun w' _ => check_ok r w') ?_
  refine RunF_sound tab_ok noX_local 400 [] _ _ rfl ?_ ?_
  · simp [*]
  refine Run.callFn (r := .int .i64 (checkI r)) noX_local rfl rfl rfl rfl rfl rfl rfl num_enters rfl (fun w' _ => num_ok _ w') ?_
  refine RunF_sound tab_ok noX_local 400 [false] _ _ rfl ?_ ?_
  · simp [*]
  refine Run.callFn (r := .int .i64 (checkI s)) noX_local rfl rfl rfl rfl rfl rfl rfl check_enters rfl (fun w' _ => check_ok s w') ?_
  refine RunF_sound tab_ok noX_local 400 [] _ _ rfl ?_ ?_
  · simp [*]
  refine Run.callFn (r := .int .i64 (checkI s)) noX_local rfl rfl rfl rfl rfl rfl rfl num_enters rfl (fun w' _ => num_ok _ w') ?_
  refine RunF_sound tab_ok noX_local 400 [false, false] _ _ rfl ?_ ?_
  · simp [*]
  refine Run.callFn (r := encRel X27) noX_local rfl rfl rfl rfl rfl rfl rfl plus_enters rfl (fun w' hA => g27 w' hA) ?_
  refine Run.to (t' := [(2, .ptr 0 0), (3, .ptr 1 0), (27, .v (encRel X27))]) (h' := [(0, .cells 25 [.vals 65 (relV r)]), (1, .cells 25 [.vals 65 (relV s)])]) (n' := 2) ?_ ⟨rfl, rfl, rfl, trivial⟩ ⟨rfl, rfl, trivial⟩
  refine RunF_sound tab_ok noX_local 400 [] _ _ rfl ?_ ?_
  · simp [segsVals, relV_one', *]
  refine Run.drawA noX_local rfl [] [(0, .cells 25 [.vals 65 (relV r)]), (1, .cells 25 [.vals 65 (relV s)]), (2, .cells 25 [.vals 65 (relV X27)])] rfl rfl ⟨rfl, rfl, rfl, trivial⟩ ?_
  refine RunOF_sound tab_ok noX_local rfl rfl 400 [] _ _ rfl ?_ ?_
  · simp [*]
  refine RunO.callFn (r := .bool true) noX_local rfl rfl rfl rfl rfl rfl rfl rfl transitive_enters rfl (fun w' hA => g29 w' hA) ?_
  refine RunOF_sound tab_ok noX_local rfl rfl 400 [false] _ _ rfl ?_ ?_
  · simp [*]
  refine RunO.callFn (r := encRel X34) noX_local rfl rfl rfl rfl rfl rfl rfl rfl union_enters rfl (fun w' hA => g34 w' hA) ?_
  refine RunOF_sound tab_ok noX_local rfl rfl 400 [] _ _ rfl ?_ ?_
  · simp [*]
  refine RunO.cmp rfl rfl rfl rfl rfl rfl rfl (b := true) (c := false) (hcmpE e36) (.inr ⟨rfl, rfl⟩) ?_
  refine RunOF_sound tab_ok noX_local rfl rfl 400 [false] _ _ rfl ?_ ?_
  · simp [*]
  refine RunO.callFn (r := encRel X40) noX_local rfl rfl rfl rfl rfl rfl rfl rfl plus_enters rfl (fun w' hA => g40 w' hA) ?_
  refine RunOF_sound tab_ok noX_local rfl rfl 400 [] _ _ rfl ?_ ?_
  · simp [*]
  refine RunO.cmp rfl rfl rfl rfl rfl rfl rfl (b := true) (c := false) (hcmpE e42) (.inr ⟨rfl, rfl⟩) ?_
  refine RunOF_sound tab_ok noX_local rfl rfl 400 [false] _ _ rfl ?_ ?_
  · simp [*]
  refine RunO.callFn (r := encRel X46) noX_local rfl rfl rfl rfl rfl rfl rfl rfl star_enters rfl (fun w' hA => g46 w' hA) ?_
  refine RunOF_sound tab_ok noX_local rfl rfl 400 [] _ _ rfl ?_ ?_
  · simp [*]
  refine RunO.callFn (r := encRel X48) noX_local rfl rfl rfl rfl rfl rfl rfl rfl opt_enters rfl (fun w' hA => g48 w' hA) ?_
  refine RunOF_sound tab_ok noX_local rfl rfl 400 [] _ _ rfl ?_ ?_
  · simp [*]
  refine RunO.cmp rfl rfl rfl rfl rfl rfl rfl (b := true) (c := false) (hcmpE e49) (.inr ⟨rfl, rfl⟩) ?_
  refine RunOF_sound tab_ok noX_local rfl rfl 400 [false] _ _ rfl ?_ ?_
  · simp [*]
  refine RunO.callFn (r := encRel X53) noX_local rfl rfl rfl rfl rfl rfl rfl rfl star_enters rfl (fun w' hA => g53 w' hA) ?_
  refine RunOF_sound tab_ok noX_local rfl rfl 400 [] _ _ rfl ?_ ?_
  · simp [*]
  refine RunO.callFn (r := encRel X54) noX_local rfl rfl rfl rfl rfl rfl rfl rfl star_enters rfl (fun w' hA => g54 w' hA) ?_
  refine RunOF_sound tab_ok noX_local rfl rfl 400 [] _ _ rfl ?_ ?_
  · simp [*]
  refine RunO.callFn (r := encRel X56) noX_local rfl rfl rfl rfl rfl rfl rfl rfl star_enters rfl (fun w' hA => g56 w' hA) ?_
  refine RunOF_sound tab_ok noX_local rfl rfl 400 [] _ _ rfl ?_ ?_
  · simp [*]
  refine RunO.cmp rfl rfl rfl rfl rfl rfl rfl (b := true) (c := false) (hcmpE e57) (.inr ⟨rfl, rfl⟩) ?_
  refine RunOF_sound tab_ok noX_local rfl rfl 400 [] _ _ rfl ?_ ?_
  · simp [*]
  refine RunO.done ?_
  refine RunF_sound tab_ok noX_local 400 [false] _ _ rfl ?_ ?_
  · simp [*]
  refine Run.callFn (r := encRel X61) noX_local rfl rfl rfl rfl rfl rfl rfl union_enters rfl (fun w' hA => g61 w' hA) ?_
  refine Run.to (t' := [(2, .ptr 0 0), (3, .ptr 1 0), (5, .ptr 2 0), (61, .v (encRel X61))]) (h' := [(0, .cells 25 [.vals 65 (relV r)]), (1, .cells 25 [.vals 65 (relV s)]), (2, .cells 25 [.vals 65 (relV X27)])]) (n' := 3) ?_ ⟨rfl, rfl, rfl, rfl, trivial⟩ ⟨rfl, rfl, rfl, trivial⟩
  refine RunF_sound tab_ok noX_local 400 [] _ _ rfl ?_ ?_
  · simp [*]
  refine Run.callFn (r := encRel X62) noX_local rfl rfl rfl rfl rfl rfl rfl plus_enters rfl (fun w' hA => g62 w' hA) ?_
  refine Run.to (t' := [(2, .ptr 0 0), (3, .ptr 1 0), (5, .ptr 2 0), (62, .v (encRel X62))]) (h' := [(0, .cells 25 [.vals 65 (relV r)]), (1, .cells 25 [.vals 65 (relV s)]), (2, .cells 25 [.vals 65 (relV X27)])]) (n' := 3) ?_ ⟨rfl, rfl, rfl, rfl, trivial⟩ ⟨rfl, rfl, rfl, trivial⟩
  refine RunF_sound tab_ok noX_local 400 [] _ _ rfl ?_ ?_
  · simp [segsVals, relV_one', *]
  refine Run.drawA noX_local rfl [] [(0, .cells 25 [.vals 65 (relV r)]), (1, .cells 25 [.vals 65 (relV s)]), (2, .cells 25 [.vals 65 (relV X27)]), (3, .cells 25 [.vals 65 (relV X62)])] rfl rfl ⟨rfl, rfl, rfl, rfl, trivial⟩ ?_
  refine RunOF_sound tab_ok noX_local rfl rfl 400 [] _ _ rfl ?_ ?_
  · simp [*]
  refine RunO.callFn (r := encRel X65) noX_local rfl rfl rfl rfl rfl rfl rfl rfl union_enters rfl (fun w' hA => g65 w' hA) ?_
  refine RunOF_sound tab_ok noX_local rfl rfl 400 [] _ _ rfl ?_ ?_
  · simp [*]
  refine RunO.cmp rfl rfl rfl rfl rfl rfl rfl (b := true) (c := false) (hcmpE e67) (.inr ⟨rfl, rfl⟩) ?_
  refine RunOF_sound tab_ok noX_local rfl rfl 400 [] _ _ rfl ?_ ?_
  · simp [*]
  refine RunO.done ?_
  refine RunF_sound tab_ok noX_local 400 [false] _ _ rfl ?_ ?_
  · simp [*]
  refine Run.drawA noX_local rfl [] [(0, .cells 25 [.vals 65 (relV r)]), (1, .cells 25 [.vals 65 (relV s)]), (2, .cells 25 [.vals 65 (relV X27)]), (3, .cells 25 [.vals 65 (relV X62)])] rfl rfl ⟨rfl, rfl, rfl, rfl, trivial⟩ ?_
  refine RunOF_sound tab_ok noX_local rfl rfl 400 [] _ _ rfl ?_ ?_
  · simp [*]
  refine RunO.callFn (r := .bool true) noX_local rfl rfl rfl rfl rfl rfl rfl rfl transitive_enters rfl (fun w' hA => g69 w' hA) ?_
  refine RunOF_sound tab_ok noX_local rfl rfl 400 [false] _ _ rfl ?_ ?_
  · simp [*]
  refine RunO.callFn (r := encRel X74) noX_local rfl rfl rfl rfl rfl rfl rfl rfl union_enters rfl (fun w' hA => g74 w' hA) ?_
  refine RunOF_sound tab_ok noX_local rfl rfl 400 [] _ _ rfl ?_ ?_
  · simp [*]
  refine RunO.cmp rfl rfl rfl rfl rfl rfl rfl (b := true) (c := false) (hcmpE e76) (.inr ⟨rfl, rfl⟩) ?_
  refine RunOF_sound tab_ok noX_local rfl rfl 400 [false] _ _ rfl ?_ ?_
  · simp [*]
  refine RunO.callFn (r := encRel X81) noX_local rfl rfl rfl rfl rfl rfl rfl rfl union_enters rfl (fun w' hA => g81 w' hA) ?_
  refine RunOF_sound tab_ok noX_local rfl rfl 400 [] _ _ rfl ?_ ?_
  · simp [*]
  refine RunO.cmp rfl rfl rfl rfl rfl rfl rfl (b := true) (c := true) (hcmpE e83) (.inl ⟨rfl, rfl⟩) ?_
  refine RunOF_sound tab_ok noX_local rfl rfl 400 [] _ _ rfl ?_ ?_
  · simp [*]
  refine RunO.done ?_
  refine RunF_sound tab_ok noX_local 400 [] _ _ rfl ?_ ?_
  · simp [*]
  exact Run.retP tab_ok Tryd.func8 rfl trivial (fun M => rfl)

end Go.Proofs.YtocpkgckllbjlaaDoor

/-
  The plain laws of relations; RelLeast answers true. Own work.
-/
namespace Go.Proofs.YtocpkgckllbjlaaDoor
open Go.AM
set_option maxRecDepth 100000

theorem rt_check {r : Rl} (h : checkI r = 0) : Rt r := rt_of (rightL_of r h)

theorem unionT (r s : Rl) (w : World) : Gives Tryd.prog 21 [encRel r, encRel s] w (encRel (twoR 0 r s)) := by rw [← union_eq]; exact union_ok r s w
theorem meetT (r s : Rl) (w : World) : Gives Tryd.prog 23 [encRel r, encRel s] w (encRel (twoR 1 r s)) := by rw [← meet_eq]; exact meet_ok r s w
theorem minusT (r s : Rl) (w : World) : Gives Tryd.prog 24 [encRel r, encRel s] w (encRel (twoR 2 r s)) := by rw [← minus_eq]; exact minus_ok r s w
theorem composeT (r s : Rl) (w : World) (hT : TabAt w) (h0 : 0 < w.heap.size) : Gives Tryd.prog 25 [encRel r, encRel s] w (encRel (twoR 3 r s)) := by rw [← compose_eq]; exact compose_ok r s w hT h0
theorem plusT {r : Rl} (h : Rt r) (w : World) : Gives Tryd.prog 34 [encRel r] w (encRel (clos r)) := by have := plus_ok r w; rwa [h.right] at this
theorem starT {r : Rl} (h : Rt r) (w : World) : Gives Tryd.prog 36 [encRel r] w (encRel (optL (clos r))) := by have := star_ok r w; rwa [h.right] at this

theorem rl_eq {R S : Rl} (hn : R.n = S.n) (h : ∀ a b, R.has a b = true ↔ S.has a b = true) : R = S := rl_ext hn h

theorem minus_has {R S : Rl} (hR : Rt R) (hS : Rt S) (hn : R.n = S.n) (x y : Nat) : (twoR 2 R S).has x y = true ↔ R.has x y = true ∧ ¬ S.has x y = true := by
  rw [twoR_has 2 hR hS hn]
  simp only [pTwo]
  cases R.has x y <;> cases S.has x y <;> simp
theorem meet_has {R S : Rl} (hR : Rt R) (hS : Rt S) (hn : R.n = S.n) (x y : Nat) : (twoR 1 R S).has x y = true ↔ R.has x y = true ∧ S.has x y = true := by
  rw [twoR_has 1 hR hS hn]
  simp only [pTwo]
  cases R.has x y <;> cases S.has x y <;> simp

theorem void_has (n : Int) (a b : Nat) : (Rl.void n).has a b = false := by rw [Rl.has, Rl.row_void]; simp
theorem void_n (n : Int) : (Rl.void n).n = n := rfl

theorem union_sub {R S : Rl} (hR : Rt R) (hS : Rt S) (hn : R.n = S.n) (h : ∀ a b, S.has a b = true → R.has a b = true) : twoR 0 R S = R :=
  rl_ext (twoR_n 0 hR hS hn) fun a b => by
    rw [union_has hR hS hn]
    exact ⟨fun h' => h'.elim id (h a b), .inl⟩
theorem sub_union {R S : Rl} (hR : Rt R) (hS : Rt S) (hn : R.n = S.n) (h : twoR 0 R S = R) (a b : Nat) (hs : S.has a b = true) : R.has a b = true := by
  have := (union_has hR hS hn a b).2 (.inr hs)
  rwa [h] at this

theorem trB_iff {R : Rl} (hR : Rt R) : trB R = true ↔ ∀ a b c, R.has a b = true → R.has b c = true → R.has a c = true := by
  have hc := twoR_rt 3 hR hR rfl
  have hcn := twoR_n 3 hR hR rfl
  unfold trB
  rw [decide_eq_true_iff, hR.right]
  constructor
  · intro h a b c h1 h2
    by_cases h3 : R.has a c = true
    · exact h3
    · have := (minus_has hc hR hcn a c).2 ⟨(comp_has hR hR rfl a c).2 ⟨b, h1, h2⟩, h3⟩
      rw [h, void_has] at this
      cases this
  · intro h
    refine rl_ext ?_ fun a c => ?_
    · rw [twoR_n 2 hc hR hcn, hcn, void_n]
    · rw [minus_has hc hR hcn, comp_has hR hR rfl, void_has]
      constructor
      · rintro ⟨⟨b, h1, h2⟩, h3⟩; exact absurd (h a b c h1 h2) h3
      · intro h; cases h

theorem clos_sub {R : Rl} (hR : Rt R) (a b : Nat) (h : R.has a b = true) : (clos R).has a b = true := (clos_has hR a b).2 (.single h)
theorem clos_trans {R : Rl} (hR : Rt R) (a b c : Nat) (h1 : (clos R).has a b = true) (h2 : (clos R).has b c = true) : (clos R).has a c = true :=
  (clos_has hR a c).2 (TransGen_trans ((clos_has hR a b).1 h1) ((clos_has hR b c).1 h2))
theorem clos_fix {R : Rl} (hR : Rt R) (h : ∀ a b c, R.has a b = true → R.has b c = true → R.has a c = true) : clos R = R :=
  (clos_of hR rfl (fun _ _ h => h) (fun a b h => .single h) h).symm
theorem clos_least {R S : Rl} (hR : Rt R) (hs : ∀ a b, R.has a b = true → S.has a b = true) (ht : ∀ a b c, S.has a b = true → S.has b c = true → S.has a c = true) (a b : Nat) (h : (clos R).has a b = true) : S.has a b = true :=
  clos_in (g := fun a b => S.has a b = true) hs ht ((clos_has hR a b).1 h)

theorem opt_trans {R : Rl} (hR : Rt R) (h : ∀ a b c, R.has a b = true → R.has b c = true → R.has a c = true) (a b c : Nat) (h1 : (optL R).has a b = true) (h2 : (optL R).has b c = true) : (optL R).has a c = true := by
  rw [optL_has hR] at *
  rcases h1 with h1 | ⟨rfl, h1⟩
  · rcases h2 with h2 | ⟨rfl, _⟩
    · exact .inl (h a b c h1 h2)
    · exact .inl h1
  · exact h2

theorem opt_opt {R : Rl} (hR : Rt R) : optL (optL R) = optL R := by
  refine rl_ext ?_ fun a b => ?_
  · rw [optL_n (optL_rt hR)]
  · rw [optL_has (optL_rt hR), optL_n hR, optL_has hR]
    constructor
    · rintro (h | h)
      · exact h
      · exact .inr h
    · exact .inl

theorem relLeast_ok (r s : Rl) (w : World) (hT : TabAt w) (h0 : 0 < w.heap.size) : Gives Tryd.prog 8 [encRel r, encRel s] w (.bool true) := by
  have hTA : ∀ w', Agree (fun _ => False) w w' → TabAt w' ∧ 0 < w'.heap.size := fun w' hA => ⟨hT.agree hA (fun f => f), Nat.lt_of_lt_of_le h0 hA.size⟩
  have hwk : ∀ w', Agree (fun _ => False) w w' → Gives Tryd.prog 62 [] w' (.bool true) := fun w' hA => works_ok w' (hTA w' hA).1 (hTA w' hA).2
  by_cases cr : checkI r = 0
  · by_cases cs : checkI s = 0
    · by_cases hn : r.n = s.n
      · have hr := rt_check cr
        have hs := rt_check cs
        have hp := clos_rt hr
        have hpn : (clos r).n = r.n := clos_n r
        have hps : (clos r).n = s.n := hpn.trans hn
        have ht := clos_trans hr
        have hu := twoR_rt 0 hr hs hn
        have hun := twoR_n 0 hr hs hn
        have hq := clos_rt hu
        have hqn : (clos (twoR 0 r s)).n = (clos r).n := by rw [clos_n, hun, hpn]
        have k29 : trB (clos r) = true := (trB_iff hp).2 ht
        have k36 : twoR 0 (clos r) r = clos r := union_sub hp hr hpn (clos_sub hr)
        have k42 : clos (clos r) = clos r := clos_fix hp ht
        have hst := optL_rt hp
        have k57 : optL (clos (optL (clos r))) = optL (clos r) := by rw [clos_fix hst (opt_trans hp ht), opt_opt hp]
        have k67 : twoR 0 (clos (twoR 0 r s)) (clos r) = clos (twoR 0 r s) := union_sub hq hp hqn
          (clos_least hr (fun a b h => clos_sub hu a b ((union_has hr hs hn a b).2 (.inl h))) (clos_trans hu))
        have g27 : ∀ w', Agree (fun _ => False) w w' → Gives Tryd.prog 34 [encRel r] w' (encRel (clos r)) := fun w' _ => plusT hr w'
        have g29 : ∀ w', Agree (fun _ => False) w w' → Gives Tryd.prog 44 [encRel (clos r)] w' (.bool true) := fun w' hA => by have := transitive_ok (clos r) w' (hTA w' hA).1 (hTA w' hA).2; rwa [k29] at this
        have g34 : ∀ w', Agree (fun _ => False) w w' → Gives Tryd.prog 21 [encRel (clos r), encRel r] w' (encRel (twoR 0 (clos r) r)) := fun w' _ => unionT _ _ w'
        have g40 : ∀ w', Agree (fun _ => False) w w' → Gives Tryd.prog 34 [encRel (clos r)] w' (encRel (clos (clos r))) := fun w' _ => plusT hp w'
        have g46 : ∀ w', Agree (fun _ => False) w w' → Gives Tryd.prog 36 [encRel r] w' (encRel (optL (clos r))) := fun w' _ => starT hr w'
        have g48 : ∀ w', Agree (fun _ => False) w w' → Gives Tryd.prog 32 [encRel (clos r)] w' (encRel (optL (clos r))) := fun w' _ => opt_ok _ w'
        have g54 : ∀ w', Agree (fun _ => False) w w' → Gives Tryd.prog 36 [encRel (optL (clos r))] w' (encRel (optL (clos (optL (clos r))))) := fun w' _ => starT hst w'
        have g61 : ∀ w', Agree (fun _ => False) w w' → Gives Tryd.prog 21 [encRel r, encRel s] w' (encRel (twoR 0 r s)) := fun w' _ => unionT _ _ w'
        have g62 : ∀ w', Agree (fun _ => False) w w' → Gives Tryd.prog 34 [encRel (twoR 0 r s)] w' (encRel (clos (twoR 0 r s))) := fun w' _ => plusT hu w'
        have g65 : ∀ w', Agree (fun _ => False) w w' → Gives Tryd.prog 21 [encRel (clos (twoR 0 r s)), encRel (clos r)] w' (encRel (twoR 0 (clos (twoR 0 r s)) (clos r))) := fun w' _ => unionT _ _ w'
        have g74 : ∀ w', Agree (fun _ => False) w w' → Gives Tryd.prog 21 [encRel s, encRel r] w' (encRel (twoR 0 s r)) := fun w' _ => unionT _ _ w'
        have g81 : ∀ w', Agree (fun _ => False) w w' → Gives Tryd.prog 21 [encRel s, encRel (clos r)] w' (encRel (twoR 0 s (clos r))) := fun w' _ => unionT _ _ w'
        by_cases c69 : trB s = true
        · have g69 : ∀ w', Agree (fun _ => False) w w' → Gives Tryd.prog 44 [encRel s] w' (.bool true) := fun w' hA => by have := transitive_ok s w' (hTA w' hA).1 (hTA w' hA).2; rwa [c69] at this
          by_cases c76 : twoR 0 s r = s
          · have hsub := sub_union hs hr hn.symm c76
            have k83 : twoR 0 s (clos r) = s := union_sub hs hp hps.symm (clos_least hr hsub ((trB_iff hs).1 c69))
            exact least_6 r s _ _ _ _ _ _ _ _ _ _ _ _ _ w cr cs hn hwk g27 g29 g34 k36 g40 k42 g46 g48 rfl g46 g54 g46 k57 g61 g62 g65 k67 g69 g74 c76 g81 k83
          · exact least_5 r s _ _ _ _ _ _ _ _ _ _ _ _ w cr cs hn hwk g27 g29 g34 k36 g40 k42 g46 g48 rfl g46 g54 g46 k57 g61 g62 g65 k67 g69 g74 c76
        · have g69 : ∀ w', Agree (fun _ => False) w w' → Gives Tryd.prog 44 [encRel s] w' (.bool false) := fun w' hA => by have := transitive_ok s w' (hTA w' hA).1 (hTA w' hA).2; rwa [Bool.eq_false_iff.2 c69] at this
          exact least_4 r s _ _ _ _ _ _ _ _ _ _ _ w cr cs hn hwk g27 g29 g34 k36 g40 k42 g46 g48 rfl g46 g54 g46 k57 g61 g62 g65 k67 g69
      · exact least_3 r s w cr cs hn hwk
    · exact least_2 r s w cr cs hwk
  · exact least_1 r s w cr hwk
end Go.Proofs.YtocpkgckllbjlaaDoor

/-
  RelLaws walked, over opaque values. Own work; printed by a program of our own (tools/gen_rel.py).
-/
namespace Go.Proofs.YtocpkgckllbjlaaDoor
open Go.AM
set_option maxRecDepth 100000

theorem all_ok (w : World) : Gives Tryd.prog 69 [] w (.int .u64 (un 18446744073709551615#64)) := by
  refine Gives.of_run Tryd.func69 rfl (by show 0 ≤ 1; decide) ?_
  refine RunF_sound tab_ok noX_local 100 [] _ _ rfl ?_ ?_
  · simp
  exact Run.retP tab_ok Tryd.func69 rfl trivial (fun M => rfl)
theorem all_enters : Enters Tryd.prog 69 := enters_mk Tryd.func69 (by decide) rfl

set_option maxHeartbeats 2000000 in
theorem laws_1 (r : Rl) (s : Rl) (t : Rl)  (w : World)
    (cr : checkI r ≠ 0)
    (g12 : ∀ w', Agree (fun _ => False) w w' → Gives Tryd.prog 62 [] w' (.bool true))
    : Gives Tryd.prog 11 [encRel r, encRel s, encRel t] w (.bool true) := by
  refine Gives.of_run Tryd.func11 rfl (by show 3 ≤ 208; decide) ?_
  refine RunF_sound tab_ok noX_local 400 [] _ _ rfl ?_ ?_
  · simp [*]
  refine Run.callFn (r := .bool true) noX_local rfl rfl rfl rfl rfl rfl rfl works_enters rfl (fun w' hA => g12 w' hA) ?_
  refine RunF_sound tab_ok noX_local 400 [false] _ _ rfl ?_ ?_
  · simp [*]
  refine Run.callFn (r := .int .i64 (checkI r)) noX_local rfl rfl rfl rfl rfl rfl rfl check_enters rfl (fun w' _ => check_ok r w') ?_
  refine RunF_sound tab_ok noX_local 400 [] _ _ rfl ?_ ?_
  · simp [*]
  refine Run.callFn (r := .int .i64 (checkI r)) noX_local rfl rfl rfl rfl rfl rfl rfl num_enters rfl (fun w' _ => num_ok _ w') ?_
  refine RunF_sound tab_ok noX_local 400 [true] _ _ rfl ?_ ?_
  · simp [*]
  exact Run.retP tab_ok Tryd.func11 rfl trivial (fun M => by simp [conc, *])

set_option maxHeartbeats 2000000 in
theorem laws_2 (r : Rl) (s : Rl) (t : Rl)  (w : World)
    (cr : checkI r = 0) (cs : checkI s ≠ 0)
    (g12 : ∀ w', Agree (fun _ => False) w w' → Gives Tryd.prog 62 [] w' (.bool true))
    : Gives Tryd.prog 11 [encRel r, encRel s, encRel t] w (.bool true) := by
  refine Gives.of_run Tryd.func11 rfl (by show 3 ≤ 208; decide) ?_
  refine RunF_sound tab_ok noX_local 400 [] _ _ rfl ?_ ?_
  · simp [*]
  refine Run.callFn (r := .bool true) noX_local rfl rfl rfl rfl rfl rfl rfl works_enters rfl (fun w' hA => g12 w' hA) ?_
  refine RunF_sound tab_ok noX_local 400 [false] _ _ rfl ?_ ?_
  · simp [*]
  refine Run.callFn (r := .int .i64 (checkI r)) noX_local rfl rfl rfl rfl rfl rfl rfl check_enters rfl (fun w' _ => check_ok r w') ?_
  refine RunF_sound tab_ok noX_local 400 [] _ _ rfl ?_ ?_
  · simp [*]
  refine Run.callFn (r := .int .i64 (checkI r)) noX_local rfl rfl rfl rfl rfl rfl rfl num_enters rfl (fun w' _ => num_ok _ w') ?_
  refine RunF_sound tab_ok noX_local 400 [false] _ _ rfl ?_ ?_
  · simp [*]
  refine Run.callFn (r := .int .i64 (checkI s)) noX_local rfl rfl rfl rfl rfl rfl rfl check_enters rfl (fun w' _ => check_ok s w') ?_
  refine RunF_sound tab_ok noX_local 400 [] _ _ rfl ?_ ?_
  · simp [*]
  refine Run.callFn (r := .int .i64 (checkI s)) noX_local rfl rfl rfl rfl rfl rfl rfl num_enters rfl (fun w' _ => num_ok _ w') ?_
  refine RunF_sound tab_ok noX_local 400 [true] _ _ rfl ?_ ?_
  · simp [*]
  exact Run.retP tab_ok Tryd.func11 rfl trivial (fun M => by simp [conc, *])

set_option maxHeartbeats 2000000 in
theorem laws_3 (r : Rl) (s : Rl) (t : Rl)  (w : World)
    (cr : checkI r = 0) (cs : checkI s = 0) (ct : checkI t ≠ 0)
    (g12 : ∀ w', Agree (fun _ => False) w w' → Gives Tryd.prog 62 [] w' (.bool true))
    : Gives Tryd.prog 11 [encRel r, encRel s, encRel t] w (.bool true) := by
  refine Gives.of_run Tryd.func11 rfl (by show 3 ≤ 208; decide) ?_
  refine RunF_sound tab_ok noX_local 400 [] _ _ rfl ?_ ?_
  · simp [*]
  refine Run.callFn (r := .bool true) noX_local rfl rfl rfl rfl rfl rfl rfl works_enters rfl (fun w' hA => g12 w' hA) ?_
  refine RunF_sound tab_ok noX_local 400 [false] _ _ rfl ?_ ?_
  · simp [*]
  refine Run.callFn (r := .int .i64 (checkI r)) noX_local rfl rfl rfl rfl rfl rfl rfl check_enters rfl (fun w' _ => check_ok r w') ?_
  refine RunF_sound tab_ok noX_local 400 [] _ _ rfl ?_ ?_
  · simp [*]
  refine Run.callFn (r := .int .i64 (checkI r)) noX_local rfl rfl rfl rfl rfl rfl rfl num_enters rfl (fun w' _ => num_ok _ w') ?_
  refine RunF_sound tab_ok noX_local 400 [false] _ _ rfl ?_ ?_
  · simp [*]
  refine Run.callFn (r := .int .i64 (checkI s)) noX_local rfl rfl rfl rfl rfl rfl rfl check_enters rfl (fun w' _ => check_ok s w') ?_
  refine RunF_sound tab_ok noX_local 400 [] _ _ rfl ?_ ?_
  · simp [*]
  refine Run.callFn (r := .int .i64 (checkI s)) noX_local rfl rfl rfl rfl rfl rfl rfl num_enters rfl (fun w' _ => num_ok _ w') ?_
  refine RunF_sound tab_ok noX_local 400 [false] _ _ rfl ?_ ?_
  · simp [*]
  refine Run.callFn (r := .int .i64 (checkI t)) noX_local rfl rfl rfl rfl rfl rfl rfl check_enters rfl (fun w' _ => check_ok t w') ?_
  refine RunF_sound tab_ok noX_local 400 [] _ _ rfl ?_ ?_
  · simp [*]
  refine Run.callFn (r := .int .i64 (checkI t)) noX_local rfl rfl rfl rfl rfl rfl rfl num_enters rfl (fun w' _ => num_ok _ w') ?_
  refine RunF_sound tab_ok noX_local 400 [true] _ _ rfl ?_ ?_
  · simp [*]
  exact Run.retP tab_ok Tryd.func11 rfl trivial (fun M => by simp [conc, *])

set_option maxHeartbeats 2000000 in
theorem laws_4 (r : Rl) (s : Rl) (t : Rl)  (w : World)
    (cr : checkI r = 0) (cs : checkI s = 0) (ct : checkI t = 0) (hn : r.n ≠ s.n)
    (g12 : ∀ w', Agree (fun _ => False) w w' → Gives Tryd.prog 62 [] w' (.bool true))
    : Gives Tryd.prog 11 [encRel r, encRel s, encRel t] w (.bool true) := by
  refine Gives.of_run Tryd.func11 rfl (by show 3 ≤ 208; decide) ?_
  refine RunF_sound tab_ok noX_local 400 [] _ _ rfl ?_ ?_
  · simp [*]
  refine Run.callFn (r := .bool true) noX_local rfl rfl rfl rfl rfl rfl rfl works_enters rfl (fun w' hA => g12 w' hA) ?_
  refine RunF_sound tab_ok noX_local 400 [false] _ _ rfl ?_ ?_
  · simp [*]
  refine Run.callFn (r := .int .i64 (checkI r)) noX_local rfl rfl rfl rfl rfl rfl rfl check_enters rfl (fun w' _ => check_ok r w') ?_
  refine RunF_sound tab_ok noX_local 400 [] _ _ rfl ?_ ?_
  · simp [*]
  refine Run.callFn (r := .int .i64 (checkI r)) noX_local rfl rfl rfl rfl rfl rfl rfl num_enters rfl (fun w' _ => num_ok _ w') ?_
  refine RunF_sound tab_ok noX_local 400 [false] _ _ rfl ?_ ?_
  · simp [*]
  refine Run.callFn (r := .int .i64 (checkI s)) noX_local rfl rfl rfl rfl rfl rfl rfl check_enters rfl (fun w' _ => check_ok s w') ?_
  refine RunF_sound tab_ok noX_local 400 [] _ _ rfl ?_ ?_
  · simp [*]
  refine Run.callFn (r := .int .i64 (checkI s)) noX_local rfl rfl rfl rfl rfl rfl rfl num_enters rfl (fun w' _ => num_ok _ w') ?_
  refine RunF_sound tab_ok noX_local 400 [false] _ _ rfl ?_ ?_
  · simp [*]
  refine Run.callFn (r := .int .i64 (checkI t)) noX_local rfl rfl rfl rfl rfl rfl rfl check_enters rfl (fun w' _ => check_ok t w') ?_
  refine RunF_sound tab_ok noX_local 400 [] _ _ rfl ?_ ?_
  · simp [*]
  refine Run.callFn (r := .int .i64 (checkI t)) noX_local rfl rfl rfl rfl rfl rfl rfl num_enters rfl (fun w' _ => num_ok _ w') ?_
  refine RunF_sound tab_ok noX_local 400 [false, true] _ _ rfl ?_ ?_
  · simp [*]
  exact Run.retP tab_ok Tryd.func11 rfl trivial (fun M => by simp [conc, *])

set_option maxHeartbeats 2000000 in
theorem laws_5 (r : Rl) (s : Rl) (t : Rl)  (w : World)
    (cr : checkI r = 0) (cs : checkI s = 0) (ct : checkI t = 0) (hn : r.n = s.n) (hn2 : s.n ≠ t.n)
    (g12 : ∀ w', Agree (fun _ => False) w w' → Gives Tryd.prog 62 [] w' (.bool true))
    : Gives Tryd.prog 11 [encRel r, encRel s, encRel t] w (.bool true) := by
  refine Gives.of_run Tryd.func11 rfl (by show 3 ≤ 208; decide) ?_
  refine RunF_sound tab_ok noX_local 400 [] _ _ rfl ?_ ?_
  · simp [*]
  refine Run.callFn (r := .bool true) noX_local rfl rfl rfl rfl rfl rfl rfl works_enters rfl (fun w' hA => g12 w' hA) ?_
  refine RunF_sound tab_ok noX_local 400 [false] _ _ rfl ?_ ?_
  · simp [*]
  refine Run.callFn (r := .int .i64 (checkI r)) noX_local rfl rfl rfl rfl rfl rfl rfl check_enters rfl (fun w' _ => check_ok r w') ?_
  refine RunF_sound tab_ok noX_local 400 [] _ _ rfl ?_ ?_
  · simp [*]
  refine Run.callFn (r := .int .i64 (checkI r)) noX_local rfl rfl rfl rfl rfl rfl rfl num_enters rfl (fun w' _ => num_ok _ w') ?_
  refine RunF_sound tab_ok noX_local 400 [false] _ _ rfl ?_ ?_
  · simp [*]
  refine Run.callFn (r := .int .i64 (checkI s)) noX_local rfl rfl rfl rfl rfl rfl rfl check_enters rfl (fun w' _ => check_ok s w') ?_
  refine RunF_sound tab_ok noX_local 400 [] _ _ rfl ?_ ?_
  · simp [*]
  refine Run.callFn (r := .int .i64 (checkI s)) noX_local rfl rfl rfl rfl rfl rfl rfl num_enters rfl (fun w' _ => num_ok _ w') ?_
  refine RunF_sound tab_ok noX_local 400 [false] _ _ rfl ?_ ?_
  · simp [*]
  refine Run.callFn (r := .int .i64 (checkI t)) noX_local rfl rfl rfl rfl rfl rfl rfl check_enters rfl (fun w' _ => check_ok t w') ?_
  refine RunF_sound tab_ok noX_local 400 [] _ _ rfl ?_ ?_
  · simp [*]
  refine Run.callFn (r := .int .i64 (checkI t)) noX_local rfl rfl rfl rfl rfl rfl rfl num_enters rfl (fun w' _ => num_ok _ w') ?_
  refine RunF_sound tab_ok noX_local 400 [false, false, true] _ _ rfl ?_ ?_
  · simp [*]
  exact Run.retP tab_ok Tryd.func11 rfl trivial (fun M => by simp [conc, *])

set_option maxHeartbeats 2000000 in
theorem laws_6 (r : Rl) (s : Rl) (t : Rl) (X46 : BitVec 64) (X47 : Rl) (X53 : Rl) (X56 : Rl) (X60 : Rl) (X66 : Rl) (X71 : Rl) (X73 : Rl) (X75 : Rl) (X76 : Rl) (X81 : Rl) (X82 : Rl) (X89 : Rl) (X92 : Rl) (X93 : Rl) (X99 : Rl) (X100 : Rl) (X106 : Rl) (X110 : Rl) (X111 : Rl) (X117 : Rl) (X118 : Rl) (X122 : Rl) (X123 : Rl) (X128 : Int) (X130 : Int) (X133 : Int) (X135 : Int) (X141 : Rl) (X144 : Rl) (X148 : Rl) (X149 : Rl) (X155 : Rl) (X156 : Rl) (X160 : Rl) (X161 : Rl) (X167 : Rl) (X174 : Rl) (X181 : Rl) (X186 : Rl) (X188 : Rl) (X190 : Rl) (X191 : Rl) (X195 : Rl) (X196 : Rl) (X202 : Rl) (X203 : BitVec 64) (X205 : BitVec 64) (w : World)
    (cr : checkI r = 0) (cs : checkI s = 0) (ct : checkI t = 0) (hn : r.n = s.n) (hn2 : s.n = t.n) (k137 : X128 + X130 = X133 + X135) (k206 : X203 = X205)
    (g12 : ∀ w', Agree (fun _ => False) w w' → Gives Tryd.prog 62 [] w' (.bool true))
    (g46 : ∀ w', Agree (fun _ => False) w w' → Gives Tryd.prog 69 [] w' (.int .u64 (un X46)))
    (g47 : ∀ w', Agree (fun _ => False) w w' → Gives Tryd.prog 68 [.int .i64 r.n, .int .u64 (un X46)] w' (encRel X47))
    (g53 : ∀ w', Agree (fun _ => False) w w' → Gives Tryd.prog 21 [encRel r, encRel s] w' (encRel X53))
    (g56 : ∀ w', Agree (fun _ => False) w w' → Gives Tryd.prog 23 [encRel r, encRel s] w' (encRel X56))
    (g60 : ∀ w', Agree (fun _ => False) w w' → Gives Tryd.prog 21 [encRel s, encRel r] w' (encRel X60))
    (e61 : X53 = X60)
    (g66 : ∀ w', Agree (fun _ => False) w w' → Gives Tryd.prog 23 [encRel s, encRel r] w' (encRel X66))
    (e67 : X56 = X66)
    (g71 : ∀ w', Agree (fun _ => False) w w' → Gives Tryd.prog 28 [encRel X53] w' (encRel X71))
    (g73 : ∀ w', Agree (fun _ => False) w w' → Gives Tryd.prog 28 [encRel r] w' (encRel X73))
    (g75 : ∀ w', Agree (fun _ => False) w w' → Gives Tryd.prog 28 [encRel s] w' (encRel X75))
    (g76 : ∀ w', Agree (fun _ => False) w w' → Gives Tryd.prog 23 [encRel X73, encRel X75] w' (encRel X76))
    (e77 : X71 = X76)
    (g81 : ∀ w', Agree (fun _ => False) w w' → Gives Tryd.prog 28 [encRel r] w' (encRel X81))
    (g82 : ∀ w', Agree (fun _ => False) w w' → Gives Tryd.prog 28 [encRel X81] w' (encRel X82))
    (e84 : X82 = r)
    (g89 : ∀ w', Agree (fun _ => False) w w' → Gives Tryd.prog 24 [encRel r, encRel s] w' (encRel X89))
    (g92 : ∀ w', Agree (fun _ => False) w w' → Gives Tryd.prog 28 [encRel s] w' (encRel X92))
    (g93 : ∀ w', Agree (fun _ => False) w w' → Gives Tryd.prog 23 [encRel r, encRel X92] w' (encRel X93))
    (e94 : X89 = X93)
    (g99 : ∀ w', Agree (fun _ => False) w w' → Gives Tryd.prog 28 [encRel r] w' (encRel X99))
    (g100 : ∀ w', Agree (fun _ => False) w w' → Gives Tryd.prog 23 [encRel r, encRel X99] w' (encRel X100))
    (e102 : X100 = (Rl.void r.n))
    (g106 : ∀ w', Agree (fun _ => False) w w' → Gives Tryd.prog 21 [encRel X53, encRel t] w' (encRel X106))
    (g110 : ∀ w', Agree (fun _ => False) w w' → Gives Tryd.prog 21 [encRel s, encRel t] w' (encRel X110))
    (g111 : ∀ w', Agree (fun _ => False) w w' → Gives Tryd.prog 21 [encRel r, encRel X110] w' (encRel X111))
    (e112 : X106 = X111)
    (g117 : ∀ w', Agree (fun _ => False) w w' → Gives Tryd.prog 21 [encRel s, encRel t] w' (encRel X117))
    (g118 : ∀ w', Agree (fun _ => False) w w' → Gives Tryd.prog 23 [encRel r, encRel X117] w' (encRel X118))
    (g122 : ∀ w', Agree (fun _ => False) w w' → Gives Tryd.prog 23 [encRel r, encRel t] w' (encRel X122))
    (g123 : ∀ w', Agree (fun _ => False) w w' → Gives Tryd.prog 21 [encRel X56, encRel X122] w' (encRel X123))
    (e124 : X118 = X123)
    (g128 : ∀ w', Agree (fun _ => False) w w' → Gives Tryd.prog 15 [encRel X53] w' (.int .i64 X128))
    (g130 : ∀ w', Agree (fun _ => False) w w' → Gives Tryd.prog 15 [encRel X56] w' (.int .i64 X130))
    (g133 : ∀ w', Agree (fun _ => False) w w' → Gives Tryd.prog 15 [encRel r] w' (.int .i64 X133))
    (g135 : ∀ w', Agree (fun _ => False) w w' → Gives Tryd.prog 15 [encRel s] w' (.int .i64 X135))
    (g141 : ∀ w', Agree (fun _ => False) w w' → Gives Tryd.prog 25 [encRel r, encRel s] w' (encRel X141))
    (g144 : ∀ w', Agree (fun _ => False) w w' → Gives Tryd.prog 25 [encRel X141, encRel t] w' (encRel X144))
    (g148 : ∀ w', Agree (fun _ => False) w w' → Gives Tryd.prog 25 [encRel s, encRel t] w' (encRel X148))
    (g149 : ∀ w', Agree (fun _ => False) w w' → Gives Tryd.prog 25 [encRel r, encRel X148] w' (encRel X149))
    (e150 : X144 = X149)
    (g155 : ∀ w', Agree (fun _ => False) w w' → Gives Tryd.prog 21 [encRel s, encRel t] w' (encRel X155))
    (g156 : ∀ w', Agree (fun _ => False) w w' → Gives Tryd.prog 25 [encRel r, encRel X155] w' (encRel X156))
    (g160 : ∀ w', Agree (fun _ => False) w w' → Gives Tryd.prog 25 [encRel r, encRel t] w' (encRel X160))
    (g161 : ∀ w', Agree (fun _ => False) w w' → Gives Tryd.prog 21 [encRel X141, encRel X160] w' (encRel X161))
    (e162 : X156 = X161)
    (g167 : ∀ w', Agree (fun _ => False) w w' → Gives Tryd.prog 25 [encRel r, encRel X47] w' (encRel X167))
    (e169 : X167 = r)
    (g174 : ∀ w', Agree (fun _ => False) w w' → Gives Tryd.prog 25 [encRel X47, encRel r] w' (encRel X174))
    (e176 : X174 = r)
    (g181 : ∀ w', Agree (fun _ => False) w w' → Gives Tryd.prog 25 [encRel r, encRel (Rl.void r.n)] w' (encRel X181))
    (e183 : X181 = (Rl.void r.n))
    (g186 : ∀ w', Agree (fun _ => False) w w' → Gives Tryd.prog 26 [encRel X141] w' (encRel X186))
    (g188 : ∀ w', Agree (fun _ => False) w w' → Gives Tryd.prog 26 [encRel s] w' (encRel X188))
    (g190 : ∀ w', Agree (fun _ => False) w w' → Gives Tryd.prog 26 [encRel r] w' (encRel X190))
    (g191 : ∀ w', Agree (fun _ => False) w w' → Gives Tryd.prog 25 [encRel X188, encRel X190] w' (encRel X191))
    (e192 : X186 = X191)
    (g195 : ∀ w', Agree (fun _ => False) w w' → Gives Tryd.prog 26 [encRel r] w' (encRel X195))
    (g196 : ∀ w', Agree (fun _ => False) w w' → Gives Tryd.prog 26 [encRel X195] w' (encRel X196))
    (e198 : X196 = r)
    (g202 : ∀ w', Agree (fun _ => False) w w' → Gives Tryd.prog 26 [encRel r] w' (encRel X202))
    (g203 : ∀ w', Agree (fun _ => False) w w' → Gives Tryd.prog 38 [encRel X202] w' (.int .u64 (un X203)))
    (g205 : ∀ w', Agree (fun _ => False) w w' → Gives Tryd.prog 40 [encRel r] w' (.int .u64 (un X205)))
    : Gives Tryd.prog 11 [encRel r, encRel s, encRel t] w (.bool true) := by
  refine Gives.of_run Tryd.func11 rfl (by show 3 ≤ 208; decide) ?_
  refine RunF_sound tab_ok noX_local 400 [] _ _ rfl ?_ ?_
  · simp [*]
  refine Run.callFn (r := .bool true) noX_local rfl rfl rfl rfl rfl rfl rfl works_enters rfl (fun w' hA => g12 w' hA) ?_
  refine RunF_sound tab_ok noX_local 400 [false] _ _ rfl ?_ ?_
  · simp [*]
  refine Run.callFn (r := .int .i64 (checkI r)) noX_local rfl rfl rfl rfl rfl rfl rfl check_enters rfl (fun w' _ => check_ok r w') ?_
  refine RunF_sound tab_ok noX_local 400 [] _ _ rfl ?_ ?_
  · simp [*]
  refine Run.callFn (r := .int .i64 (checkI r)) noX_local rfl rfl rfl rfl rfl rfl rfl num_enters rfl (fun w' _ => num_ok _ w') ?_
  refine RunF_sound tab_ok noX_local 400 [false] _ _ rfl ?_ ?_
  · simp [*]
  refine Run.callFn (r := .int .i64 (checkI s)) noX_local rfl rfl rfl rfl rfl rfl rfl check_enters rfl (fun w' _ => check_ok s w') ?_
  refine RunF_sound tab_ok noX_local 400 [] _ _ rfl ?_ ?_
  · simp [*]
  refine Run.callFn (r := .int .i64 (checkI s)) noX_local rfl rfl rfl rfl rfl rfl rfl num_enters rfl (fun w' _ => num_ok _ w') ?_
  refine RunF_sound tab_ok noX_local 400 [false] _ _ rfl ?_ ?_
  · simp [*]
  refine Run.callFn (r := .int .i64 (checkI t)) noX_local rfl rfl rfl rfl rfl rfl rfl check_enters rfl (fun w' _ => check_ok t w') ?_
  refine RunF_sound tab_ok noX_local 400 [] _ _ rfl ?_ ?_
  · simp [*]
  refine Run.callFn (r := .int .i64 (checkI t)) noX_local rfl rfl rfl rfl rfl rfl rfl num_enters rfl (fun w' _ => num_ok _ w') ?_
  refine RunF_sound tab_ok noX_local 400 [false, false, false] _ _ rfl ?_ ?_
  · simp [*]
  refine Run.to (t' := [(3, .ptr 0 0), (4, .ptr 1 0), (5, .ptr 2 0)]) (h' := [(0, .cells 25 [.vals 65 (relV r)]), (1, .cells 25 [.vals 65 (relV s)]), (2, .cells 25 [.vals 65 (relV t)])]) (n' := 3) ?_ ⟨rfl, rfl, rfl, trivial⟩ ⟨rfl, rfl, rfl, trivial⟩
  refine Run.join7 (fun σ' : St => inTC σ'.t [(3, .ptr 0 0), (4, .ptr 1 0), (5, .ptr 2 0), (7, .ptr 3 0)] ∧ inT σ'.h [(0, .cells 25 [.vals 65 (relV r)]), (1, .cells 25 [.vals 65 (relV s)]), (2, .cells 25 [.vals 65 (relV t)]), (3, .cells 25 [.vals 65 (relV X47)])]) ?_
  apply Exists.intro
  apply And.intro
  · intro J
    refine Run.drawF2 noX_local rfl 4 2 3 rfl rfl [] [(0, .cells 25 [.vals 65 (relV r)]), (1, .cells 25 [.vals 65 (relV s)]), (2, .cells 25 [.vals 65 (relV t)])] rfl rfl rfl rfl rfl rfl ⟨rfl, rfl, rfl, trivial⟩ ?_ ?_ ?_
    · refine RunOF_sound tab_ok noX_local rfl rfl 400 [] _ _ rfl ?_ ?_
      · simp [inT, lk, *]
      refine RunO.callFn (r := .int .u64 (un X46)) noX_local rfl rfl rfl rfl rfl rfl rfl rfl all_enters rfl (fun w' hA => g46 w' hA) ?_
      refine RunOF_sound tab_ok noX_local rfl rfl 400 [] _ _ rfl ?_ ?_
      · simp [*]
      refine RunO.callFn (r := encRel X47) noX_local rfl rfl rfl rfl rfl rfl rfl rfl on_enters rfl (fun w' hA => g47 w' hA) ?_
      refine RunOF_sound tab_ok noX_local rfl rfl 400 [] _ _ rfl ?_ ?_
      · simp [segsVals, relV_one', inT, lk, *]
      refine RunO.done ?_
      exact J _ ⟨⟨⟨_, rfl, fun M => rfl⟩, ⟨_, rfl, fun M => rfl⟩, ⟨_, rfl, fun M => rfl⟩, ⟨_, rfl, fun M => rfl⟩, trivial⟩, ⟨rfl, rfl, rfl, rfl, trivial⟩⟩
    · refine RunOF_sound tab_ok noX_local rfl rfl 400 [] _ _ rfl ?_ ?_
      · simp [*]
      refine RunO.callFn (r := .int .u64 (un X46)) noX_local rfl rfl rfl rfl rfl rfl rfl rfl all_enters rfl (fun w' hA => g46 w' hA) ?_
      refine RunOF_sound tab_ok noX_local rfl rfl 400 [] _ _ rfl ?_ ?_
      · simp [inT, lk, *]
      refine RunO.callFn (r := encRel X47) noX_local rfl rfl rfl rfl rfl rfl rfl rfl on_enters rfl (fun w' hA => g47 w' hA) ?_
      refine RunOF_sound tab_ok noX_local rfl rfl 400 [] _ _ rfl ?_ ?_
      · simp [segsVals, relV_one', inT, lk, *]
      refine RunO.done ?_
      exact J _ ⟨⟨⟨_, rfl, fun M => rfl⟩, ⟨_, rfl, fun M => rfl⟩, ⟨_, rfl, fun M => rfl⟩, ⟨_, rfl, fun M => rfl⟩, trivial⟩, ⟨rfl, rfl, rfl, rfl, trivial⟩⟩
    · refine RunOF_sound tab_ok noX_local rfl rfl 400 [] _ _ rfl ?_ ?_
      · simp [*]
      refine RunO.callFn (r := .int .u64 (un X46)) noX_local rfl rfl rfl rfl rfl rfl rfl rfl all_enters rfl (fun w' hA => g46 w' hA) ?_
      refine RunOF_sound tab_ok noX_local rfl rfl 400 [] _ _ rfl ?_ ?_
      · simp [*]
      refine RunO.callFn (r := encRel X47) noX_local rfl rfl rfl rfl rfl rfl rfl rfl on_enters rfl (fun w' hA => g47 w' hA) ?_
      refine RunOF_sound tab_ok noX_local rfl rfl 400 [] _ _ rfl ?_ ?_
      · simp [segsVals, relV_one', inT, lk, *]
      refine RunO.done ?_
      exact J _ ⟨⟨⟨_, rfl, fun M => rfl⟩, ⟨_, rfl, fun M => rfl⟩, ⟨_, rfl, fun M => rfl⟩, ⟨_, rfl, fun M => rfl⟩, trivial⟩, ⟨rfl, rfl, rfl, rfl, trivial⟩⟩
  · rintro σ' ⟨ht, hh⟩
    refine Run.toC (t' := [(3, .ptr 0 0), (4, .ptr 1 0), (5, .ptr 2 0), (7, .ptr 3 0)]) (h' := [(0, .cells 25 [.vals 65 (relV r)]), (1, .cells 25 [.vals 65 (relV s)]), (2, .cells 25 [.vals 65 (relV t)]), (3, .cells 25 [.vals 65 (relV X47)])]) (n' := 4) ?_ ht hh
    refine RunF_sound tab_ok noX_local 400 [] _ _ rfl ?_ ?_
    · simp [segsVals, relV_tail_one, fillL, Value.cells, splice, *]
    refine Run.callFn (r := encRel X53) noX_local rfl rfl rfl rfl rfl rfl rfl union_enters rfl (fun w' hA => g53 w' hA) ?_
    refine Run.to (t' := [(3, .ptr 0 0), (4, .ptr 1 0), (5, .ptr 2 0), (7, .ptr 3 0), (8, .ptr 4 0), (53, .v (encRel X53))]) (h' := [(0, .cells 25 [.vals 65 (relV r)]), (1, .cells 25 [.vals 65 (relV s)]), (2, .cells 25 [.vals 65 (relV t)]), (3, .cells 25 [.vals 65 (relV X47)]), (4, .cells 25 [.vals 65 (relV (Rl.void r.n))])]) (n' := 5) ?_ ⟨rfl, rfl, rfl, rfl, rfl, rfl, trivial⟩ ⟨rfl, rfl, rfl, rfl, rfl, trivial⟩
    refine RunF_sound tab_ok noX_local 400 [] _ _ rfl ?_ ?_
    · simp [segsVals, relV_one', *]
    refine Run.callFn (r := encRel X56) noX_local rfl rfl rfl rfl rfl rfl rfl meet_enters rfl (fun w' hA => g56 w' hA) ?_
    refine Run.to (t' := [(3, .ptr 0 0), (4, .ptr 1 0), (5, .ptr 2 0), (7, .ptr 3 0), (8, .ptr 4 0), (9, .ptr 5 0), (56, .v (encRel X56))]) (h' := [(0, .cells 25 [.vals 65 (relV r)]), (1, .cells 25 [.vals 65 (relV s)]), (2, .cells 25 [.vals 65 (relV t)]), (3, .cells 25 [.vals 65 (relV X47)]), (4, .cells 25 [.vals 65 (relV (Rl.void r.n))]), (5, .cells 25 [.vals 65 (relV X53)])]) (n' := 6) ?_ ⟨rfl, rfl, rfl, rfl, rfl, rfl, rfl, trivial⟩ ⟨rfl, rfl, rfl, rfl, rfl, rfl, trivial⟩
    refine RunF_sound tab_ok noX_local 400 [] _ _ rfl ?_ ?_
    · simp [segsVals, relV_one', *]
    refine Run.to (t' := [(3, .ptr 0 0), (4, .ptr 1 0), (5, .ptr 2 0), (7, .ptr 3 0), (8, .ptr 4 0), (9, .ptr 5 0), (10, .ptr 6 0)]) (h' := [(0, .cells 25 [.vals 65 (relV r)]), (1, .cells 25 [.vals 65 (relV s)]), (2, .cells 25 [.vals 65 (relV t)]), (3, .cells 25 [.vals 65 (relV X47)]), (4, .cells 25 [.vals 65 (relV (Rl.void r.n))]), (5, .cells 25 [.vals 65 (relV X53)]), (6, .cells 25 [.vals 65 (relV X56)])]) (n' := 7) ?_ ⟨rfl, rfl, rfl, rfl, rfl, rfl, rfl, trivial⟩ ⟨rfl, rfl, rfl, rfl, rfl, rfl, rfl, trivial⟩
    refine Run.drawA noX_local rfl [] [(0, .cells 25 [.vals 65 (relV r)]), (1, .cells 25 [.vals 65 (relV s)]), (2, .cells 25 [.vals 65 (relV t)]), (3, .cells 25 [.vals 65 (relV X47)]), (4, .cells 25 [.vals 65 (relV (Rl.void r.n))]), (5, .cells 25 [.vals 65 (relV X53)]), (6, .cells 25 [.vals 65 (relV X56)])] rfl rfl ⟨rfl, rfl, rfl, rfl, rfl, rfl, rfl, trivial⟩ ?_
    refine RunOF_sound tab_ok noX_local rfl rfl 400 [] _ _ rfl ?_ ?_
    · simp [*]
    refine RunO.callFn (r := encRel X60) noX_local rfl rfl rfl rfl rfl rfl rfl rfl union_enters rfl (fun w' hA => g60 w' hA) ?_
    refine RunOF_sound tab_ok noX_local rfl rfl 400 [] _ _ rfl ?_ ?_
    · simp [*]
    refine RunO.cmp rfl rfl rfl rfl rfl rfl rfl (b := true) (c := false) (hcmpE e61) (.inr ⟨rfl, rfl⟩) ?_
    refine RunOF_sound tab_ok noX_local rfl rfl 400 [false] _ _ rfl ?_ ?_
    · simp [*]
    refine RunO.callFn (r := encRel X66) noX_local rfl rfl rfl rfl rfl rfl rfl rfl meet_enters rfl (fun w' hA => g66 w' hA) ?_
    refine RunOF_sound tab_ok noX_local rfl rfl 400 [] _ _ rfl ?_ ?_
    · simp [*]
    refine RunO.cmp rfl rfl rfl rfl rfl rfl rfl (b := true) (c := false) (hcmpE e67) (.inr ⟨rfl, rfl⟩) ?_
    refine RunOF_sound tab_ok noX_local rfl rfl 400 [false] _ _ rfl ?_ ?_
    · simp [*]
    refine RunO.callFn (r := encRel X71) noX_local rfl rfl rfl rfl rfl rfl rfl rfl not_enters rfl (fun w' hA => g71 w' hA) ?_
    refine RunOF_sound tab_ok noX_local rfl rfl 400 [] _ _ rfl ?_ ?_
    · simp [*]
    refine RunO.callFn (r := encRel X73) noX_local rfl rfl rfl rfl rfl rfl rfl rfl not_enters rfl (fun w' hA => g73 w' hA) ?_
    refine RunOF_sound tab_ok noX_local rfl rfl 400 [] _ _ rfl ?_ ?_
    · simp [*]
    refine RunO.callFn (r := encRel X75) noX_local rfl rfl rfl rfl rfl rfl rfl rfl not_enters rfl (fun w' hA => g75 w' hA) ?_
    refine RunOF_sound tab_ok noX_local rfl rfl 400 [] _ _ rfl ?_ ?_
    · simp [*]
    refine RunO.callFn (r := encRel X76) noX_local rfl rfl rfl rfl rfl rfl rfl rfl meet_enters rfl (fun w' hA => g76 w' hA) ?_
    refine RunOF_sound tab_ok noX_local rfl rfl 400 [] _ _ rfl ?_ ?_
    · simp [*]
    refine RunO.cmp rfl rfl rfl rfl rfl rfl rfl (b := true) (c := false) (hcmpE e77) (.inr ⟨rfl, rfl⟩) ?_
    refine RunOF_sound tab_ok noX_local rfl rfl 400 [false] _ _ rfl ?_ ?_
    · simp [*]
    refine RunO.callFn (r := encRel X81) noX_local rfl rfl rfl rfl rfl rfl rfl rfl not_enters rfl (fun w' hA => g81 w' hA) ?_
    refine RunOF_sound tab_ok noX_local rfl rfl 400 [] _ _ rfl ?_ ?_
    · simp [*]
    refine RunO.callFn (r := encRel X82) noX_local rfl rfl rfl rfl rfl rfl rfl rfl not_enters rfl (fun w' hA => g82 w' hA) ?_
    refine RunOF_sound tab_ok noX_local rfl rfl 400 [] _ _ rfl ?_ ?_
    · simp [*]
    refine RunO.cmp rfl rfl rfl rfl rfl rfl rfl (b := true) (c := false) (hcmpE e84) (.inr ⟨rfl, rfl⟩) ?_
    refine RunOF_sound tab_ok noX_local rfl rfl 400 [false] _ _ rfl ?_ ?_
    · simp [*]
    refine RunO.callFn (r := encRel X89) noX_local rfl rfl rfl rfl rfl rfl rfl rfl minus_enters rfl (fun w' hA => g89 w' hA) ?_
    refine RunOF_sound tab_ok noX_local rfl rfl 400 [] _ _ rfl ?_ ?_
    · simp [*]
    refine RunO.callFn (r := encRel X92) noX_local rfl rfl rfl rfl rfl rfl rfl rfl not_enters rfl (fun w' hA => g92 w' hA) ?_
    refine RunOF_sound tab_ok noX_local rfl rfl 400 [] _ _ rfl ?_ ?_
    · simp [*]
    refine RunO.callFn (r := encRel X93) noX_local rfl rfl rfl rfl rfl rfl rfl rfl meet_enters rfl (fun w' hA => g93 w' hA) ?_
    refine RunOF_sound tab_ok noX_local rfl rfl 400 [] _ _ rfl ?_ ?_
    · simp [*]
    refine RunO.cmp rfl rfl rfl rfl rfl rfl rfl (b := true) (c := false) (hcmpE e94) (.inr ⟨rfl, rfl⟩) ?_
    refine RunOF_sound tab_ok noX_local rfl rfl 400 [false] _ _ rfl ?_ ?_
    · simp [*]
    refine RunO.callFn (r := encRel X99) noX_local rfl rfl rfl rfl rfl rfl rfl rfl not_enters rfl (fun w' hA => g99 w' hA) ?_
    refine RunOF_sound tab_ok noX_local rfl rfl 400 [] _ _ rfl ?_ ?_
    · simp [*]
    refine RunO.callFn (r := encRel X100) noX_local rfl rfl rfl rfl rfl rfl rfl rfl meet_enters rfl (fun w' hA => g100 w' hA) ?_
    refine RunOF_sound tab_ok noX_local rfl rfl 400 [] _ _ rfl ?_ ?_
    · simp [*]
    refine RunO.cmp rfl rfl rfl rfl rfl rfl rfl (b := true) (c := false) (hcmpE e102) (.inr ⟨rfl, rfl⟩) ?_
    refine RunOF_sound tab_ok noX_local rfl rfl 400 [] _ _ rfl ?_ ?_
    · simp [*]
    refine RunO.done ?_
    refine RunF_sound tab_ok noX_local 400 [false] _ _ rfl ?_ ?_
    · simp [*]
    refine Run.to (t' := [(3, .ptr 0 0), (4, .ptr 1 0), (5, .ptr 2 0), (7, .ptr 3 0), (8, .ptr 4 0), (9, .ptr 5 0), (10, .ptr 6 0)]) (h' := [(0, .cells 25 [.vals 65 (relV r)]), (1, .cells 25 [.vals 65 (relV s)]), (2, .cells 25 [.vals 65 (relV t)]), (3, .cells 25 [.vals 65 (relV X47)]), (4, .cells 25 [.vals 65 (relV (Rl.void r.n))]), (5, .cells 25 [.vals 65 (relV X53)]), (6, .cells 25 [.vals 65 (relV X56)])]) (n' := 7) ?_ ⟨rfl, rfl, rfl, rfl, rfl, rfl, rfl, trivial⟩ ⟨rfl, rfl, rfl, rfl, rfl, rfl, rfl, trivial⟩
    refine Run.drawA noX_local rfl [] [(0, .cells 25 [.vals 65 (relV r)]), (1, .cells 25 [.vals 65 (relV s)]), (2, .cells 25 [.vals 65 (relV t)]), (3, .cells 25 [.vals 65 (relV X47)]), (4, .cells 25 [.vals 65 (relV (Rl.void r.n))]), (5, .cells 25 [.vals 65 (relV X53)]), (6, .cells 25 [.vals 65 (relV X56)])] rfl rfl ⟨rfl, rfl, rfl, rfl, rfl, rfl, rfl, trivial⟩ ?_
    refine RunOF_sound tab_ok noX_local rfl rfl 400 [] _ _ rfl ?_ ?_
    · simp [*]
    refine RunO.callFn (r := encRel X106) noX_local rfl rfl rfl rfl rfl rfl rfl rfl union_enters rfl (fun w' hA => g106 w' hA) ?_
    refine RunOF_sound tab_ok noX_local rfl rfl 400 [] _ _ rfl ?_ ?_
    · simp [*]
    refine RunO.callFn (r := encRel X110) noX_local rfl rfl rfl rfl rfl rfl rfl rfl union_enters rfl (fun w' hA => g110 w' hA) ?_
    refine RunOF_sound tab_ok noX_local rfl rfl 400 [] _ _ rfl ?_ ?_
    · simp [*]
    refine RunO.callFn (r := encRel X111) noX_local rfl rfl rfl rfl rfl rfl rfl rfl union_enters rfl (fun w' hA => g111 w' hA) ?_
    refine RunOF_sound tab_ok noX_local rfl rfl 400 [] _ _ rfl ?_ ?_
    · simp [*]
    refine RunO.cmp rfl rfl rfl rfl rfl rfl rfl (b := true) (c := false) (hcmpE e112) (.inr ⟨rfl, rfl⟩) ?_
    refine RunOF_sound tab_ok noX_local rfl rfl 400 [false] _ _ rfl ?_ ?_
    · simp [*]
    refine RunO.callFn (r := encRel X117) noX_local rfl rfl rfl rfl rfl rfl rfl rfl union_enters rfl (fun w' hA => g117 w' hA) ?_
    refine RunOF_sound tab_ok noX_local rfl rfl 400 [] _ _ rfl ?_ ?_
    · simp [*]
    refine RunO.callFn (r := encRel X118) noX_local rfl rfl rfl rfl rfl rfl rfl rfl meet_enters rfl (fun w' hA => g118 w' hA) ?_
    refine RunOF_sound tab_ok noX_local rfl rfl 400 [] _ _ rfl ?_ ?_
    · simp [*]
    refine RunO.callFn (r := encRel X122) noX_local rfl rfl rfl rfl rfl rfl rfl rfl meet_enters rfl (fun w' hA => g122 w' hA) ?_
    refine RunOF_sound tab_ok noX_local rfl rfl 400 [] _ _ rfl ?_ ?_
    · simp [*]
    refine RunO.callFn (r := encRel X123) noX_local rfl rfl rfl rfl rfl rfl rfl rfl union_enters rfl (fun w' hA => g123 w' hA) ?_
    refine RunOF_sound tab_ok noX_local rfl rfl 400 [] _ _ rfl ?_ ?_
    · simp [*]
    refine RunO.cmp rfl rfl rfl rfl rfl rfl rfl (b := true) (c := false) (hcmpE e124) (.inr ⟨rfl, rfl⟩) ?_
    refine RunOF_sound tab_ok noX_local rfl rfl 400 [false] _ _ rfl ?_ ?_
    · simp [*]
    refine RunO.callFn (r := .int .i64 X128) noX_local rfl rfl rfl rfl rfl rfl rfl rfl count_enters rfl (fun w' hA => g128 w' hA) ?_
    refine RunOF_sound tab_ok noX_local rfl rfl 400 [] _ _ rfl ?_ ?_
    · simp [*]
    refine RunO.callFn (r := .int .i64 X130) noX_local rfl rfl rfl rfl rfl rfl rfl rfl count_enters rfl (fun w' hA => g130 w' hA) ?_
    refine RunOF_sound tab_ok noX_local rfl rfl 400 [] _ _ rfl ?_ ?_
    · simp [*]
    refine RunO.callFn (r := .int .i64 X133) noX_local rfl rfl rfl rfl rfl rfl rfl rfl count_enters rfl (fun w' hA => g133 w' hA) ?_
    refine RunOF_sound tab_ok noX_local rfl rfl 400 [] _ _ rfl ?_ ?_
    · simp [*]
    refine RunO.callFn (r := .int .i64 X135) noX_local rfl rfl rfl rfl rfl rfl rfl rfl count_enters rfl (fun w' hA => g135 w' hA) ?_
    refine RunOF_sound tab_ok noX_local rfl rfl 400 [] _ _ rfl ?_ ?_
    · simp [*]
    refine RunO.done ?_
    refine RunF_sound tab_ok noX_local 400 [false] _ _ rfl ?_ ?_
    · simp [*]
    refine Run.callFn (r := encRel X141) noX_local rfl rfl rfl rfl rfl rfl rfl compose_enters rfl (fun w' hA => g141 w' hA) ?_
    refine Run.to (t' := [(3, .ptr 0 0), (4, .ptr 1 0), (5, .ptr 2 0), (7, .ptr 3 0), (8, .ptr 4 0), (141, .v (encRel X141))]) (h' := [(0, .cells 25 [.vals 65 (relV r)]), (1, .cells 25 [.vals 65 (relV s)]), (2, .cells 25 [.vals 65 (relV t)]), (3, .cells 25 [.vals 65 (relV X47)]), (4, .cells 25 [.vals 65 (relV (Rl.void r.n))]), (5, .cells 25 [.vals 65 (relV X53)]), (6, .cells 25 [.vals 65 (relV X56)])]) (n' := 7) ?_ ⟨rfl, rfl, rfl, rfl, rfl, rfl, trivial⟩ ⟨rfl, rfl, rfl, rfl, rfl, rfl, rfl, trivial⟩
    refine RunF_sound tab_ok noX_local 400 [] _ _ rfl ?_ ?_
    · simp [segsVals, relV_one', *]
    refine Run.to (t' := [(3, .ptr 0 0), (4, .ptr 1 0), (5, .ptr 2 0), (7, .ptr 3 0), (8, .ptr 4 0), (11, .ptr 7 0)]) (h' := [(0, .cells 25 [.vals 65 (relV r)]), (1, .cells 25 [.vals 65 (relV s)]), (2, .cells 25 [.vals 65 (relV t)]), (3, .cells 25 [.vals 65 (relV X47)]), (4, .cells 25 [.vals 65 (relV (Rl.void r.n))]), (5, .cells 25 [.vals 65 (relV X53)]), (6, .cells 25 [.vals 65 (relV X56)]), (7, .cells 25 [.vals 65 (relV X141)])]) (n' := 8) ?_ ⟨rfl, rfl, rfl, rfl, rfl, rfl, trivial⟩ ⟨rfl, rfl, rfl, rfl, rfl, rfl, rfl, rfl, trivial⟩
    refine Run.drawA noX_local rfl [] [(0, .cells 25 [.vals 65 (relV r)]), (1, .cells 25 [.vals 65 (relV s)]), (2, .cells 25 [.vals 65 (relV t)]), (3, .cells 25 [.vals 65 (relV X47)]), (4, .cells 25 [.vals 65 (relV (Rl.void r.n))]), (5, .cells 25 [.vals 65 (relV X53)]), (6, .cells 25 [.vals 65 (relV X56)]), (7, .cells 25 [.vals 65 (relV X141)])] rfl rfl ⟨rfl, rfl, rfl, rfl, rfl, rfl, rfl, rfl, trivial⟩ ?_
    refine RunOF_sound tab_ok noX_local rfl rfl 400 [] _ _ rfl ?_ ?_
    · simp [*]
    refine RunO.callFn (r := encRel X144) noX_local rfl rfl rfl rfl rfl rfl rfl rfl compose_enters rfl (fun w' hA => g144 w' hA) ?_
    refine RunOF_sound tab_ok noX_local rfl rfl 400 [] _ _ rfl ?_ ?_
    · simp [*]
    refine RunO.callFn (r := encRel X148) noX_local rfl rfl rfl rfl rfl rfl rfl rfl compose_enters rfl (fun w' hA => g148 w' hA) ?_
    refine RunOF_sound tab_ok noX_local rfl rfl 400 [] _ _ rfl ?_ ?_
    · simp [*]
    refine RunO.callFn (r := encRel X149) noX_local rfl rfl rfl rfl rfl rfl rfl rfl compose_enters rfl (fun w' hA => g149 w' hA) ?_
    refine RunOF_sound tab_ok noX_local rfl rfl 400 [] _ _ rfl ?_ ?_
    · simp [*]
    refine RunO.cmp rfl rfl rfl rfl rfl rfl rfl (b := true) (c := false) (hcmpE e150) (.inr ⟨rfl, rfl⟩) ?_
    refine RunOF_sound tab_ok noX_local rfl rfl 400 [false] _ _ rfl ?_ ?_
    · simp [*]
    refine RunO.callFn (r := encRel X155) noX_local rfl rfl rfl rfl rfl rfl rfl rfl union_enters rfl (fun w' hA => g155 w' hA) ?_
    refine RunOF_sound tab_ok noX_local rfl rfl 400 [] _ _ rfl ?_ ?_
    · simp [*]
    refine RunO.callFn (r := encRel X156) noX_local rfl rfl rfl rfl rfl rfl rfl rfl compose_enters rfl (fun w' hA => g156 w' hA) ?_
    refine RunOF_sound tab_ok noX_local rfl rfl 400 [] _ _ rfl ?_ ?_
    · simp [*]
    refine RunO.callFn (r := encRel X160) noX_local rfl rfl rfl rfl rfl rfl rfl rfl compose_enters rfl (fun w' hA => g160 w' hA) ?_
    refine RunOF_sound tab_ok noX_local rfl rfl 400 [] _ _ rfl ?_ ?_
    · simp [*]
    refine RunO.callFn (r := encRel X161) noX_local rfl rfl rfl rfl rfl rfl rfl rfl union_enters rfl (fun w' hA => g161 w' hA) ?_
    refine RunOF_sound tab_ok noX_local rfl rfl 400 [] _ _ rfl ?_ ?_
    · simp [*]
    refine RunO.cmp rfl rfl rfl rfl rfl rfl rfl (b := true) (c := false) (hcmpE e162) (.inr ⟨rfl, rfl⟩) ?_
    refine RunOF_sound tab_ok noX_local rfl rfl 400 [false] _ _ rfl ?_ ?_
    · simp [*]
    refine RunO.callFn (r := encRel X167) noX_local rfl rfl rfl rfl rfl rfl rfl rfl compose_enters rfl (fun w' hA => g167 w' hA) ?_
    refine RunOF_sound tab_ok noX_local rfl rfl 400 [] _ _ rfl ?_ ?_
    · simp [*]
    refine RunO.cmp rfl rfl rfl rfl rfl rfl rfl (b := true) (c := false) (hcmpE e169) (.inr ⟨rfl, rfl⟩) ?_
    refine RunOF_sound tab_ok noX_local rfl rfl 400 [false] _ _ rfl ?_ ?_
    · simp [*]
    refine RunO.callFn (r := encRel X174) noX_local rfl rfl rfl rfl rfl rfl rfl rfl compose_enters rfl (fun w' hA => g174 w' hA) ?_
    refine RunOF_sound tab_ok noX_local rfl rfl 400 [] _ _ rfl ?_ ?_
    · simp [*]
    refine RunO.cmp rfl rfl rfl rfl rfl rfl rfl (b := true) (c := false) (hcmpE e176) (.inr ⟨rfl, rfl⟩) ?_
    refine RunOF_sound tab_ok noX_local rfl rfl 400 [false] _ _ rfl ?_ ?_
    · simp [*]
    refine RunO.callFn (r := encRel X181) noX_local rfl rfl rfl rfl rfl rfl rfl rfl compose_enters rfl (fun w' hA => g181 w' hA) ?_
    refine RunOF_sound tab_ok noX_local rfl rfl 400 [] _ _ rfl ?_ ?_
    · simp [*]
    refine RunO.cmp rfl rfl rfl rfl rfl rfl rfl (b := true) (c := false) (hcmpE e183) (.inr ⟨rfl, rfl⟩) ?_
    refine RunOF_sound tab_ok noX_local rfl rfl 400 [] _ _ rfl ?_ ?_
    · simp [*]
    refine RunO.done ?_
    refine RunF_sound tab_ok noX_local 400 [false] _ _ rfl ?_ ?_
    · simp [*]
    refine Run.to (t' := [(3, .ptr 0 0), (4, .ptr 1 0), (11, .ptr 7 0)]) (h' := [(0, .cells 25 [.vals 65 (relV r)]), (1, .cells 25 [.vals 65 (relV s)]), (2, .cells 25 [.vals 65 (relV t)]), (3, .cells 25 [.vals 65 (relV X47)]), (4, .cells 25 [.vals 65 (relV (Rl.void r.n))]), (5, .cells 25 [.vals 65 (relV X53)]), (6, .cells 25 [.vals 65 (relV X56)]), (7, .cells 25 [.vals 65 (relV X141)])]) (n' := 8) ?_ ⟨rfl, rfl, rfl, trivial⟩ ⟨rfl, rfl, rfl, rfl, rfl, rfl, rfl, rfl, trivial⟩
    refine Run.drawA noX_local rfl [] [(0, .cells 25 [.vals 65 (relV r)]), (1, .cells 25 [.vals 65 (relV s)]), (2, .cells 25 [.vals 65 (relV t)]), (3, .cells 25 [.vals 65 (relV X47)]), (4, .cells 25 [.vals 65 (relV (Rl.void r.n))]), (5, .cells 25 [.vals 65 (relV X53)]), (6, .cells 25 [.vals 65 (relV X56)]), (7, .cells 25 [.vals 65 (relV X141)])] rfl rfl ⟨rfl, rfl, rfl, rfl, rfl, rfl, rfl, rfl, trivial⟩ ?_
    refine RunOF_sound tab_ok noX_local rfl rfl 400 [] _ _ rfl ?_ ?_
    · simp [*]
    refine RunO.callFn (r := encRel X186) noX_local rfl rfl rfl rfl rfl rfl rfl rfl inverse_enters rfl (fun w' hA => g186 w' hA) ?_
    refine RunOF_sound tab_ok noX_local rfl rfl 400 [] _ _ rfl ?_ ?_
    · simp [*]
    refine RunO.callFn (r := encRel X188) noX_local rfl rfl rfl rfl rfl rfl rfl rfl inverse_enters rfl (fun w' hA => g188 w' hA) ?_
    refine RunOF_sound tab_ok noX_local rfl rfl 400 [] _ _ rfl ?_ ?_
    · simp [*]
    refine RunO.callFn (r := encRel X190) noX_local rfl rfl rfl rfl rfl rfl rfl rfl inverse_enters rfl (fun w' hA => g190 w' hA) ?_
    refine RunOF_sound tab_ok noX_local rfl rfl 400 [] _ _ rfl ?_ ?_
    · simp [*]
    refine RunO.callFn (r := encRel X191) noX_local rfl rfl rfl rfl rfl rfl rfl rfl compose_enters rfl (fun w' hA => g191 w' hA) ?_
    refine RunOF_sound tab_ok noX_local rfl rfl 400 [] _ _ rfl ?_ ?_
    · simp [*]
    refine RunO.cmp rfl rfl rfl rfl rfl rfl rfl (b := true) (c := true) (hcmpE e192) (.inl ⟨rfl, rfl⟩) ?_
    refine RunOF_sound tab_ok noX_local rfl rfl 400 [true] _ _ rfl ?_ ?_
    · simp [*]
    refine RunO.callFn (r := encRel X195) noX_local rfl rfl rfl rfl rfl rfl rfl rfl inverse_enters rfl (fun w' hA => g195 w' hA) ?_
    refine RunOF_sound tab_ok noX_local rfl rfl 400 [] _ _ rfl ?_ ?_
    · simp [*]
    refine RunO.callFn (r := encRel X196) noX_local rfl rfl rfl rfl rfl rfl rfl rfl inverse_enters rfl (fun w' hA => g196 w' hA) ?_
    refine RunOF_sound tab_ok noX_local rfl rfl 400 [] _ _ rfl ?_ ?_
    · simp [*]
    refine RunO.cmp rfl rfl rfl rfl rfl rfl rfl (b := true) (c := true) (hcmpE e198) (.inl ⟨rfl, rfl⟩) ?_
    refine RunOF_sound tab_ok noX_local rfl rfl 400 [true] _ _ rfl ?_ ?_
    · simp [*]
    refine RunO.callFn (r := encRel X202) noX_local rfl rfl rfl rfl rfl rfl rfl rfl inverse_enters rfl (fun w' hA => g202 w' hA) ?_
    refine RunOF_sound tab_ok noX_local rfl rfl 400 [] _ _ rfl ?_ ?_
    · simp [*]
    refine RunO.callFn (r := .int .u64 (un X203)) noX_local rfl rfl rfl rfl rfl rfl rfl rfl domain_enters rfl (fun w' hA => g203 w' hA) ?_
    refine RunOF_sound tab_ok noX_local rfl rfl 400 [] _ _ rfl ?_ ?_
    · simp [*]
    refine RunO.callFn (r := .int .u64 (un X205)) noX_local rfl rfl rfl rfl rfl rfl rfl rfl range_enters rfl (fun w' hA => g205 w' hA) ?_
    refine RunOF_sound tab_ok noX_local rfl rfl 400 [] _ _ rfl ?_ ?_
    · simp [*]
    refine RunO.done ?_
    refine RunF_sound tab_ok noX_local 400 [] _ _ rfl ?_ ?_
    · simp [*]
    exact Run.retP tab_ok Tryd.func11 rfl trivial (fun M => by simp [conc, *])

end Go.Proofs.YtocpkgckllbjlaaDoor

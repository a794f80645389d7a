/-
  Own work, merged: U17, U18, U19, AM33, AM34, U20, U22, U23, U21.
-/
import Derived.AtR
import Derived.Below
import Derived.ChangeKeysEq
import Derived.KernelRfl
import Derived.LaidMore
import Derived.Laws.AppendOwn
import Derived.Laws.BytesString
import Derived.Laws.Cells
import Derived.Laws.CopyRow
import Derived.Laws.Entries
import Derived.Laws.Rows
import Derived.Laws.Small
import Derived.Laws.StructEq
import Derived.Lib.LaidTab
import Derived.Lib.TrailingZeros
import Derived.Maps.AppendAt
import Derived.OpenShut
import Derived.Orders
import Derived.ProofKit
import Derived.RangeFuncNested
import Derived.RangeFuncRecord
import Derived.SevenTiedAt
import Derived.Shelf.Lay
import Derived.Shelf.Strconv.Itoa3
import Derived.Shelf.Strings.Builder1
import Derived.Shelf.Strings.Builder2
import Derived.Shelf.Strings.OnBuilder
import Derived.Stop.Joined
import Derived.Test.YtpfanhbkjajocaaDoorCards
import Derived.Test.YtpfanhbkjajocaaDoorChecked
import Derived.Test.YtpfanhbkjajocaaDoorProg
import Derived.Test.YtpfanhbkjajocaaDoorRows
import Derived.Test.YtpfanhbkjajocaaDoorTie
import Derived.Test.YtpfanhbkjajocaaDoorQF40523
/-
  The reference's least: the walk. Own work.
-/
namespace Go.Proofs.YtpfanhbkjajocaaDoor
open Go.AM
set_option maxRecDepth 100000

/-- A row of sets, or nothing. -/
def uZ (id : Nat) : List (BitVec 64) → AV
  | [] => .v (.slice none 0 0)
  | _ :: l => .sl id 1 0 (l.length + 1)
def uBk (id : Nat) : List (BitVec 64) → List (Nat × Blk)
  | [] => []
  | a :: l => [(id, .row 22 1 (l.length + 1) (encU (a :: l)))]

theorem uZ_app (id : Nat) (l : List (BitVec 64)) (c : BitVec 64) : uZ id (l ++ [c]) = .sl id 1 0 (l.length + 1) := by
  cases l <;> simp [uZ]
theorem uBk_app (id : Nat) (l : List (BitVec 64)) (c : BitVec 64) : uBk id (l ++ [c]) = [(id, .row 22 1 (l.length + 1) (encU (l ++ [c])))] := by
  cases l <;> simp [uBk]

/-- Is c above one of these?: the walk of the innermost loop, for what is found. -/
theorem under_step (F : List (BitVec 64)) (c : BitVec 64) {j : Nat} (hj : j < F.length) : underB (F.take (j + 1)) c = (underB (F.take j) c || (F[j] &&& ~~~c == 0#64)) := by
  unfold underB
  rw [List.take_succ_eq_append_getElem hj, List.any_append]; simp
theorem encU_get (l : List (BitVec 64)) (j : Nat) (h : j < l.length) : (encU l)[j]? = some (.int .u64 (un l[j])) := by simp [encU, h]
theorem intAt_encU (l : List (BitVec 64)) (j : Nat) (h : j < l.length) : intAt (encU l) j = un l[j] := by unfold intAt; rw [encU_get l j h]

theorem chosen_ne {x : BitVec 64} {k : Int} {xs : List (BitVec 64)} (h : Chosen x k xs) (h0 : 0 ≤ k) (h1 : k ≤ ((bitsL x).length : Int)) : ∃ c0 C0, xs = c0 :: C0 := by
  cases h with
  | out h => omega
  | @mk ls _ _ h3 =>
    cases ls with
    | nil => cases h3
    | cons l ls => exact ⟨_, _, rfl⟩

theorem SeesT.agree {w w' : World} {T : Ts} (h : SeesT w T) (hA : Agree (fun _ => False) w w') : SeesT w' T := ⟨h.up.agree hA (fun _ _ h => h), h.those.agree hA (fun _ _ h => h), h.l1, h.l2⟩

set_option maxHeartbeats 2000000 in
theorem leastR_ok (T : Ts) (x : BitVec 64) (most : Int) (cl : Nat → List (BitVec 64)) (hcl : ∀ k : Nat, Chosen x (k : Int) (cl k)) (hx : (bitsL x).length ≤ 10) (w : World) (hs : SeesT w T) (F A : List (BitVec 64))
    (hR : lsGo T most ((List.range ((bitsL x).length + 1)).flatMap cl) [] [] = (F, A)) :
    HandsZ Tryd.prog 39 [.int .u64 (un x), encT T, .int .i64 most] w (.tup [uZ 7 F, uZ 8 A]) (uBk 7 F ++ uBk 8 A) := by
  refine HandsZ.of_run Tryd.func39 rfl (by show 3 ≤ 78; decide) ?_
  have hone := tsV_one T
  have hl64 := bitsL_len_le x
  have hlen : ∀ k, (cl k).length ≤ 1024 := fun k => by
    have h1 := chosen_len (hcl k)
    have h2 : 2 ^ (bitsL x).length ≤ 2 ^ 10 := Nat.pow_le_pow_right (by omega) hx
    omega
  have hch : ∀ (k : Nat) w', HandsZ Tryd.prog 35 [.int .u64 (un x), .int .i64 (k : Int), .int .i64 1073741824] w' (usZ (cl k)) (usB (cl k)) := fun k w' => by
    have := chooseR_ok x (k : Int) 1073741824 (by decide) (by decide) w' (cl k) (hcl k)
    rwa [List.take_of_length_le (by have := hlen k; omega)] at this
  have hsz := fun w' => sizeR_ok x w'
  have hne0 : ∀ k, k ≤ (bitsL x).length → ∃ c0 C0, cl k = c0 :: C0 := fun k hk => chosen_ne (hcl k) (by omega) (by omega)
  generalize (bitsL x).length = n at *
  refine RunF_sound tab_ok noX_local 100 [] _ _ rfl ?_ ?_
  · simp [segsVals, hone]
    exact rfl
  suffices H : ∀ (d k : Nat), k + d = n + 1 → ∀ (F' A' : List (BitVec 64)), lsGo T most ((List.range' k d).flatMap cl) F' A' = (F, A) → (F' ≠ [] → A' ≠ []) → F'.length + A'.length ≤ 4096 * k →
      Run _ _ ⟨[(0, .v (.int .u64 (un x))), (2, .v (.int .i64 most)), (4, .ptr 0 0), (8, uZ 7 F'), (9, uZ 8 A'), (10, .v (.int .i64 (k : Int)))], (0, .cells 49 [.vals 2 (tsV T)]) :: (uBk 7 F' ++ uBk 8 A'), 9⟩ by
    refine Run.to (H (n + 1) 0 (by omega) [] [] (by rw [← List.range_eq_range']; exact hR) (fun h => absurd rfl h) (by simp)) ⟨rfl, rfl, rfl, rfl, rfl, rfl, trivial⟩ ⟨rfl, trivial⟩
  intro d
  induction d with
  | zero =>
    intro k hk F' A' hgo hne hle
    simp only [List.range'_zero, List.flatMap_nil, lsGo, Prod.mk.injEq] at hgo
    obtain ⟨rfl, rfl⟩ := hgo
    rcases F' with _ | ⟨f, F'⟩ <;> rcases A' with _ | ⟨a, A'⟩
    · refine RunF_sound tab_ok noX_local 100 [] _ _ rfl ?_ ?_
      · simp
      refine Run.callFn (r := .int .i64 (n : Int)) noX_local rfl rfl rfl rfl rfl rfl rfl sizeR_enters rfl (fun w' _ => hsz w') ?_
      refine RunF_sound tab_ok noX_local 100 [false] _ _ rfl ?_ ?_
      · simp; omega
      refine Run.retH tab_ok [] Tryd.func39 rfl ?_ rfl trivial rfl
      simp
    · refine RunF_sound tab_ok noX_local 100 [] _ _ rfl ?_ ?_
      · simp
      refine Run.callFn (r := .int .i64 (n : Int)) noX_local rfl rfl rfl rfl rfl rfl rfl sizeR_enters rfl (fun w' _ => hsz w') ?_
      refine RunF_sound tab_ok noX_local 100 [false] _ _ rfl ?_ ?_
      · simp; omega
      refine Run.retH tab_ok [(8, 8)] Tryd.func39 rfl ?_ rfl ⟨rfl, trivial⟩ rfl
      simp
    · exact absurd rfl (hne (by simp))
    · refine RunF_sound tab_ok noX_local 100 [] _ _ rfl ?_ ?_
      · simp
      refine Run.callFn (r := .int .i64 (n : Int)) noX_local rfl rfl rfl rfl rfl rfl rfl sizeR_enters rfl (fun w' _ => hsz w') ?_
      refine RunF_sound tab_ok noX_local 100 [false] _ _ rfl ?_ ?_
      · simp; omega
      refine Run.retH tab_ok [(7, 7), (8, 8)] Tryd.func39 rfl ?_ rfl ⟨rfl, rfl, trivial⟩ rfl
      simp
  | succ d ih =>
    intro k hk F' A' hgo hne hle
    have hkn : k ≤ n := by omega
    obtain ⟨c0, C0, hC⟩ : ∃ c0 C0, cl k = c0 :: C0 := hne0 k hkn
    have hch' := hch k
    have hlC := hlen k
    rw [List.range'_succ, List.flatMap_cons, hC] at hgo
    rw [hC] at hch' hlC
    suffices G : Run _ _ ⟨[(0, .v (.int .u64 (un x))), (2, .v (.int .i64 most)), (4, .ptr 0 0), (8, uZ 7 F'), (9, uZ 8 A'), (10, .v (.int .i64 (k : Int))), (11, .sl 9 1 0 (C0.length + 1)), (12, .v (.int .i64 0))], (0, .cells 49 [.vals 2 (tsV T)]) :: (9, .row 22 1 (C0.length + 1) (encU (c0 :: C0))) :: (uBk 7 F' ++ uBk 8 A'), 10⟩ by
      rcases F' with _ | ⟨f, F'⟩ <;> rcases A' with _ | ⟨a, A'⟩
      case cons.nil => exact absurd rfl (hne (by simp))
      case nil.nil =>
        refine RunF_sound tab_ok noX_local 100 [] _ _ rfl ?_ ?_
        · simp
        refine Run.callFn (r := .int .i64 (n : Int)) noX_local rfl rfl rfl rfl rfl rfl rfl sizeR_enters rfl (fun w' _ => hsz w') ?_
        refine RunF_sound tab_ok noX_local 100 [true] _ _ rfl ?_ ?_
        · simp; omega
        refine Run.callH noX_local (.sl 9 1 0 (C0.length + 1)) [(9, .row 22 1 (C0.length + 1) (encU (c0 :: C0)))] 10 rfl rfl rfl rfl rfl rfl chooseR_enters rfl rfl rfl rfl rfl (fun M w' hM hA => hch' w') ?_
        refine RunF_sound tab_ok noX_local 100 [] _ _ rfl ?_ ?_
        · simp
        exact Run.to G ⟨rfl, rfl, rfl, rfl, rfl, rfl, rfl, rfl, trivial⟩ ⟨rfl, rfl, trivial⟩
      case nil.cons =>
        refine RunF_sound tab_ok noX_local 100 [] _ _ rfl ?_ ?_
        · simp
        refine Run.callFn (r := .int .i64 (n : Int)) noX_local rfl rfl rfl rfl rfl rfl rfl sizeR_enters rfl (fun w' _ => hsz w') ?_
        refine RunF_sound tab_ok noX_local 100 [true] _ _ rfl ?_ ?_
        · simp; omega
        refine Run.callH noX_local (.sl 9 1 0 (C0.length + 1)) [(9, .row 22 1 (C0.length + 1) (encU (c0 :: C0)))] 10 rfl rfl rfl rfl rfl rfl chooseR_enters rfl rfl rfl rfl rfl (fun M w' hM hA => hch' w') ?_
        refine RunF_sound tab_ok noX_local 100 [] _ _ rfl ?_ ?_
        · simp
        exact Run.to G ⟨rfl, rfl, rfl, rfl, rfl, rfl, rfl, rfl, trivial⟩ ⟨rfl, rfl, rfl, trivial⟩
      case cons.cons =>
        refine RunF_sound tab_ok noX_local 100 [] _ _ rfl ?_ ?_
        · simp
        refine Run.callFn (r := .int .i64 (n : Int)) noX_local rfl rfl rfl rfl rfl rfl rfl sizeR_enters rfl (fun w' _ => hsz w') ?_
        refine RunF_sound tab_ok noX_local 100 [true] _ _ rfl ?_ ?_
        · simp; omega
        refine Run.callH noX_local (.sl 9 1 0 (C0.length + 1)) [(9, .row 22 1 (C0.length + 1) (encU (c0 :: C0)))] 10 rfl rfl rfl rfl rfl rfl chooseR_enters rfl rfl rfl rfl rfl (fun M w' hM hA => hch' w') ?_
        refine RunF_sound tab_ok noX_local 100 [] _ _ rfl ?_ ?_
        · simp
        exact Run.to G ⟨rfl, rfl, rfl, rfl, rfl, rfl, rfl, rfl, trivial⟩ ⟨rfl, rfl, rfl, rfl, trivial⟩
    suffices I : ∀ (e i : Nat), i + e = C0.length + 1 → ∀ (F' A' : List (BitVec 64)), lsGo T most ((c0 :: C0).drop i ++ (List.range' (k + 1) d).flatMap cl) F' A' = (F, A) → (F' ≠ [] → A' ≠ []) → F'.length + A'.length ≤ 4096 * k + 2 * i →
        Run _ _ ⟨[(0, .v (.int .u64 (un x))), (2, .v (.int .i64 most)), (4, .ptr 0 0), (8, uZ 7 F'), (9, uZ 8 A'), (10, .v (.int .i64 (k : Int))), (11, .sl 9 1 0 (C0.length + 1)), (12, .v (.int .i64 (i : Int)))], (0, .cells 49 [.vals 2 (tsV T)]) :: (9, .row 22 1 (C0.length + 1) (encU (c0 :: C0))) :: (uBk 7 F' ++ uBk 8 A'), 10⟩ by
      exact I (C0.length + 1) 0 (by omega) F' A' (by rw [List.drop_zero]; exact hgo) hne (by omega)
    clear hgo hne hle F' A'
    have hlN : C0.length + 1 ≤ 1024 := by simpa using hlC
    intro e
    induction e with
    | zero =>
      intro i hi F' A' hgo hne hle
      rw [List.drop_eq_nil_of_le (by simp; omega), List.nil_append] at hgo
      have ih' := ih (k + 1) (by omega) F' A' hgo hne (by omega)
      rcases F' with _ | ⟨f, F'⟩ <;> rcases A' with _ | ⟨a, A'⟩
      case cons.nil => exact absurd rfl (hne (by simp))
      case nil.nil =>
        refine RunF_sound tab_ok noX_local 100 [false] _ _ rfl ?_ ?_
        · simp; omega
        exact Run.to ih' ⟨rfl, rfl, rfl, rfl, rfl, i64_eq (wrap_succ (by omega)), trivial⟩ ⟨rfl, trivial⟩
      case nil.cons =>
        refine RunF_sound tab_ok noX_local 100 [false] _ _ rfl ?_ ?_
        · simp; omega
        exact Run.to ih' ⟨rfl, rfl, rfl, rfl, rfl, i64_eq (wrap_succ (by omega)), trivial⟩ ⟨rfl, rfl, trivial⟩
      case cons.cons =>
        refine RunF_sound tab_ok noX_local 100 [false] _ _ rfl ?_ ?_
        · simp; omega
        exact Run.to ih' ⟨rfl, rfl, rfl, rfl, rfl, i64_eq (wrap_succ (by omega)), trivial⟩ ⟨rfl, rfl, rfl, trivial⟩
    | succ e ihe =>
      intro i hi F' A' hgo hne hle
      have hil : i < (c0 :: C0).length := by simp; omega
      obtain ⟨c, hc⟩ : ∃ c, c = (c0 :: C0)[i] := ⟨_, rfl⟩
      rw [List.drop_eq_getElem_cons hil, ← hc, List.cons_append, lsGo] at hgo
      have hget : (encU (c0 :: C0))[i]? = some (.int .u64 (un c)) := by rw [encU_get _ _ hil, hc]
      have hint : intAt (encU (c0 :: C0)) i = un c := by rw [intAt_encU _ _ hil, hc]
      have hint' : intAt (encU (c0 :: C0)) ((0 + (i : Int).toNat) * 1) = un c := by rw [Nat.zero_add, Nat.mul_one, Int.toNat_natCast]; exact hint
      suffices Q : ∀ (g j : Nat), j + g = F'.length → Run _ _ ⟨[(0, .v (.int .u64 (un x))), (2, .v (.int .i64 most)), (4, .ptr 0 0), (8, uZ 7 F'), (9, uZ 8 A'), (10, .v (.int .i64 (k : Int))), (11, .sl 9 1 0 (C0.length + 1)), (12, .v (.int .i64 (i : Int))), (13, .v (.bool (underB (F'.take j) c))), (14, .v (.int .i64 (j : Int)))], (0, .cells 49 [.vals 2 (tsV T)]) :: (9, .row 22 1 (C0.length + 1) (encU (c0 :: C0))) :: (uBk 7 F' ++ uBk 8 A'), 10⟩ by
        have Q0 := Q F'.length 0 (by omega)
        rcases F' with _ | ⟨f, F'⟩ <;> rcases A' with _ | ⟨a, A'⟩
        case cons.nil => exact absurd rfl (hne (by simp))
        case nil.nil =>
          refine RunF_sound tab_ok noX_local 100 [true] _ _ rfl ?_ ?_
          · simp; omega
          exact Run.toC Q0 ⟨⟨_, rfl, fun M => rfl⟩, ⟨_, rfl, fun M => rfl⟩, ⟨_, rfl, fun M => rfl⟩, ⟨_, rfl, fun M => rfl⟩, ⟨_, rfl, fun M => rfl⟩, ⟨_, rfl, fun M => rfl⟩, ⟨_, rfl, fun M => rfl⟩, ⟨_, rfl, fun M => rfl⟩, ⟨_, rfl, fun M => rfl⟩, ⟨_, rfl, fun M => rfl⟩, trivial⟩ ⟨rfl, rfl, trivial⟩
        case nil.cons =>
          refine RunF_sound tab_ok noX_local 100 [true] _ _ rfl ?_ ?_
          · simp; omega
          exact Run.toC Q0 ⟨⟨_, rfl, fun M => rfl⟩, ⟨_, rfl, fun M => rfl⟩, ⟨_, rfl, fun M => rfl⟩, ⟨_, rfl, fun M => rfl⟩, ⟨_, rfl, fun M => rfl⟩, ⟨_, rfl, fun M => rfl⟩, ⟨_, rfl, fun M => rfl⟩, ⟨_, rfl, fun M => rfl⟩, ⟨_, rfl, fun M => rfl⟩, ⟨_, rfl, fun M => rfl⟩, trivial⟩ ⟨rfl, rfl, rfl, trivial⟩
        case cons.cons =>
          refine RunF_sound tab_ok noX_local 100 [true] _ _ rfl ?_ ?_
          · simp; omega
          exact Run.toC Q0 ⟨⟨_, rfl, fun M => rfl⟩, ⟨_, rfl, fun M => rfl⟩, ⟨_, rfl, fun M => rfl⟩, ⟨_, rfl, fun M => rfl⟩, ⟨_, rfl, fun M => rfl⟩, ⟨_, rfl, fun M => rfl⟩, ⟨_, rfl, fun M => rfl⟩, ⟨_, rfl, fun M => rfl⟩, ⟨_, rfl, fun M => rfl⟩, ⟨_, rfl, fun M => rfl⟩, trivial⟩ ⟨rfl, rfl, rfl, rfl, trivial⟩
      intro g
      induction g with
      | zero =>
        intro j hj
        rw [List.take_of_length_le (by omega)]
        by_cases hu : underB F' c = true
        · rw [if_pos hu] at hgo
          have ih' := ihe (i + 1) (by omega) F' A' hgo hne (by omega)
          rw [hu]
          rcases F' with _ | ⟨f, F'⟩ <;> rcases A' with _ | ⟨a, A'⟩
          case cons.nil => exact absurd rfl (hne (by simp))
          case nil.nil => cases hu
          case nil.cons => cases hu
          refine RunF_sound tab_ok noX_local 100 [false, true] _ _ rfl ?_ ?_
          · simp at hj ⊢; omega
          exact Run.to ih' ⟨rfl, rfl, rfl, rfl, rfl, rfl, rfl, i64_eq (wrap_succ (by omega)), trivial⟩ ⟨rfl, rfl, rfl, rfl, trivial⟩
        · have hu' : underB F' c = false := by simpa using hu
          rw [if_neg hu] at hgo
          rw [hu']
          rcases F' with _ | ⟨f, F'⟩ <;> rcases A' with _ | ⟨a, A'⟩
          case cons.nil => exact absurd rfl (hne (by simp))
          case nil.nil =>
            have hle1 := hle
            simp only [List.length_cons, List.length_nil] at hle1
            refine RunF_sound tab_ok noX_local 100 [false, false] _ _ rfl ?_ ?_
            · simp only [List.length_cons, List.length_nil] at hj
              simp [maxLen, fillL, repL, splice, Value.cells, Value.oneCell', hget, hint]
              omega
            refine Run.drawA noX_local rfl [] [(0, .cells 49 [.vals 2 (tsV T)]), (9, .row 22 1 (C0.length + 1) (encU (c0 :: C0)))] rfl rfl ⟨rfl, rfl, trivial⟩ ?_
            refine RunOF_sound tab_ok noX_local rfl rfl 100 [] _ _ rfl ?_ ?_
            · simp [segsVals, hone, hget, hint]
              exact ⟨rfl, by omega⟩
            refine RunO.callFn (r := .bool (letB T c)) noX_local rfl rfl rfl rfl rfl rfl rfl rfl lets_enters rfl (fun w' hA => ?_) ?_
            · simp only [hint']
              exact lets_ok T c w' (hs.agree hA)
            refine RunO.done ?_
            by_cases hlt : letB T c = true
            · rw [if_pos hlt] at hgo
              by_cases hm : (([] ++ [c]).length : Int) = most
              · rw [if_pos hm] at hgo
                simp only [Prod.mk.injEq] at hgo
                obtain ⟨rfl, rfl⟩ := hgo
                rw [uZ_app, uZ_app, uBk_app, uBk_app]
                simp only [List.length_append, List.length_cons, List.length_nil] at hm
                refine RunF_sound tab_ok noX_local 100 [true, true] _ _ rfl ?_ ?_
                · simp [maxLen, fillL, repL, splice, Value.cells, Value.oneCell', hget, hint, hlt]
                  omega
                refine Run.retH tab_ok [(7, 13), (8, 11)] Tryd.func39 rfl ?_ rfl ⟨(by rw [hint']; rfl), (by rw [hint']; rfl), trivial⟩ rfl
                simp
              · rw [if_neg hm] at hgo
                have ih' := ihe (i + 1) (by omega) _ _ hgo (fun _ => by simp) (by simp; omega)
                rw [uZ_app, uZ_app, uBk_app, uBk_app] at ih'
                simp only [List.length_append, List.length_cons, List.length_nil] at hm
                refine RunF_sound tab_ok noX_local 100 [true, false] _ _ rfl ?_ ?_
                · simp [maxLen, fillL, repL, splice, Value.cells, Value.oneCell', hget, hint, hlt]
                  omega
                exact Run.toR [(7, 13), (8, 11), (9, 9), (0, 0)] ih' ⟨rfl, rfl, rfl, rfl, rfl, rfl, rfl, i64_eq (wrap_succ (by omega)), trivial⟩ ⟨rfl, rfl, (by rw [hint']; rfl), (by rw [hint']; rfl), trivial⟩ rfl
            · rw [if_neg hlt] at hgo
              have ih' := ihe (i + 1) (by omega) _ _ hgo (fun _ => by simp) (by simp; omega)
              rw [uZ_app, uBk_app] at ih'
              refine RunF_sound tab_ok noX_local 100 [false] _ _ rfl ?_ ?_
              · simpa using hlt
              exact Run.toR [(8, 11), (9, 9), (0, 0)] ih' ⟨rfl, rfl, rfl, rfl, rfl, rfl, rfl, i64_eq (wrap_succ (by omega)), trivial⟩ ⟨rfl, rfl, (by rw [hint']; rfl), trivial⟩ rfl
          case nil.cons =>
            have hle1 := hle
            simp only [List.length_cons, List.length_nil] at hle1
            refine RunF_sound tab_ok noX_local 100 [false, false] _ _ rfl ?_ ?_
            · simp only [List.length_cons, List.length_nil] at hj
              simp [maxLen, fillL, repL, splice, Value.cells, Value.oneCell', hget, hint]
              omega
            refine Run.drawA noX_local rfl [] [(0, .cells 49 [.vals 2 (tsV T)]), (9, .row 22 1 (C0.length + 1) (encU (c0 :: C0)))] rfl rfl ⟨rfl, rfl, trivial⟩ ?_
            refine RunOF_sound tab_ok noX_local rfl rfl 100 [] _ _ rfl ?_ ?_
            · simp [segsVals, hone, hget, hint]
              exact ⟨rfl, by omega⟩
            refine RunO.callFn (r := .bool (letB T c)) noX_local rfl rfl rfl rfl rfl rfl rfl rfl lets_enters rfl (fun w' hA => ?_) ?_
            · simp only [hint']
              exact lets_ok T c w' (hs.agree hA)
            refine RunO.done ?_
            by_cases hlt : letB T c = true
            · rw [if_pos hlt] at hgo
              by_cases hm : (([] ++ [c]).length : Int) = most
              · rw [if_pos hm] at hgo
                simp only [Prod.mk.injEq] at hgo
                obtain ⟨rfl, rfl⟩ := hgo
                rw [uZ_app, uZ_app, uBk_app, uBk_app]
                simp only [List.length_append, List.length_cons, List.length_nil] at hm
                refine RunF_sound tab_ok noX_local 100 [true, true] _ _ rfl ?_ ?_
                · simp [maxLen, fillL, repL, splice, Value.cells, Value.oneCell', hget, hint, hlt]
                  omega
                refine Run.retH tab_ok [(7, 13), (8, 11)] Tryd.func39 rfl ?_ rfl ⟨(by rw [hint']; rfl), (by rw [hint', ← encU_app (a :: A') (A'.length + 1) rfl c]; rfl), trivial⟩ rfl
                simp
              · rw [if_neg hm] at hgo
                have ih' := ihe (i + 1) (by omega) _ _ hgo (fun _ => by simp) (by simp; omega)
                rw [uZ_app, uZ_app, uBk_app, uBk_app] at ih'
                simp only [List.length_append, List.length_cons, List.length_nil] at hm
                refine RunF_sound tab_ok noX_local 100 [true, false] _ _ rfl ?_ ?_
                · simp [maxLen, fillL, repL, splice, Value.cells, Value.oneCell', hget, hint, hlt]
                  omega
                exact Run.toR [(7, 13), (8, 11), (9, 9), (0, 0)] ih' ⟨rfl, rfl, rfl, rfl, rfl, rfl, rfl, i64_eq (wrap_succ (by omega)), trivial⟩ ⟨rfl, rfl, (by rw [hint']; rfl), (by rw [hint', ← encU_app (a :: A') (A'.length + 1) rfl c]; rfl), trivial⟩ rfl
            · rw [if_neg hlt] at hgo
              have ih' := ihe (i + 1) (by omega) _ _ hgo (fun _ => by simp) (by simp; omega)
              rw [uZ_app, uBk_app] at ih'
              refine RunF_sound tab_ok noX_local 100 [false] _ _ rfl ?_ ?_
              · simpa using hlt
              exact Run.toR [(8, 11), (9, 9), (0, 0)] ih' ⟨rfl, rfl, rfl, rfl, rfl, rfl, rfl, i64_eq (wrap_succ (by omega)), trivial⟩ ⟨rfl, rfl, (by rw [hint', ← encU_app (a :: A') (A'.length + 1) rfl c]; rfl), trivial⟩ rfl
          case cons.cons =>
            have hle1 := hle
            simp only [List.length_cons, List.length_nil] at hle1
            refine RunF_sound tab_ok noX_local 100 [false, false] _ _ rfl ?_ ?_
            · simp only [List.length_cons, List.length_nil] at hj
              simp [maxLen, fillL, repL, splice, Value.cells, Value.oneCell', hget, hint]
              omega
            refine Run.drawA noX_local rfl [] [(0, .cells 49 [.vals 2 (tsV T)]), (9, .row 22 1 (C0.length + 1) (encU (c0 :: C0)))] rfl rfl ⟨rfl, rfl, trivial⟩ ?_
            refine RunOF_sound tab_ok noX_local rfl rfl 100 [] _ _ rfl ?_ ?_
            · simp [segsVals, hone, hget, hint]
              exact ⟨rfl, by omega⟩
            refine RunO.callFn (r := .bool (letB T c)) noX_local rfl rfl rfl rfl rfl rfl rfl rfl lets_enters rfl (fun w' hA => ?_) ?_
            · simp only [hint']
              exact lets_ok T c w' (hs.agree hA)
            refine RunO.done ?_
            by_cases hlt : letB T c = true
            · rw [if_pos hlt] at hgo
              by_cases hm : (((f :: F') ++ [c]).length : Int) = most
              · rw [if_pos hm] at hgo
                simp only [Prod.mk.injEq] at hgo
                obtain ⟨rfl, rfl⟩ := hgo
                rw [uZ_app, uZ_app, uBk_app, uBk_app]
                simp only [List.length_append, List.length_cons, List.length_nil] at hm
                refine RunF_sound tab_ok noX_local 100 [true, true] _ _ rfl ?_ ?_
                · simp [maxLen, fillL, repL, splice, Value.cells, Value.oneCell', hget, hint, hlt]
                  omega
                refine Run.retH tab_ok [(7, 13), (8, 11)] Tryd.func39 rfl ?_ rfl ⟨(by rw [hint', ← encU_app (f :: F') (F'.length + 1) rfl c]; rfl), (by rw [hint', ← encU_app (a :: A') (A'.length + 1) rfl c]; rfl), trivial⟩ rfl
                simp
              · rw [if_neg hm] at hgo
                have ih' := ihe (i + 1) (by omega) _ _ hgo (fun _ => by simp) (by simp; omega)
                rw [uZ_app, uZ_app, uBk_app, uBk_app] at ih'
                simp only [List.length_append, List.length_cons, List.length_nil] at hm
                refine RunF_sound tab_ok noX_local 100 [true, false] _ _ rfl ?_ ?_
                · simp [maxLen, fillL, repL, splice, Value.cells, Value.oneCell', hget, hint, hlt]
                  omega
                exact Run.toR [(7, 13), (8, 11), (9, 9), (0, 0)] ih' ⟨rfl, rfl, rfl, rfl, rfl, rfl, rfl, i64_eq (wrap_succ (by omega)), trivial⟩ ⟨rfl, rfl, (by rw [hint', ← encU_app (f :: F') (F'.length + 1) rfl c]; rfl), (by rw [hint', ← encU_app (a :: A') (A'.length + 1) rfl c]; rfl), trivial⟩ rfl
            · rw [if_neg hlt] at hgo
              have ih' := ihe (i + 1) (by omega) _ _ hgo (fun _ => by simp) (by simp; omega)
              rw [uZ_app, uBk_app] at ih'
              refine RunF_sound tab_ok noX_local 100 [false] _ _ rfl ?_ ?_
              · simpa using hlt
              exact Run.toR [(7, 7), (8, 11), (9, 9), (0, 0)] ih' ⟨rfl, rfl, rfl, rfl, rfl, rfl, rfl, i64_eq (wrap_succ (by omega)), trivial⟩ ⟨rfl, rfl, rfl, (by rw [hint', ← encU_app (a :: A') (A'.length + 1) rfl c]; rfl), trivial⟩ rfl
      | succ g ihg =>
        intro j hj
        have hjl : j < F'.length := by omega
        have ih' := ihg (j + 1) (by omega)
        have hst := under_step F' c hjl
        have hgf : (encU F')[j]? = some (.int .u64 (un F'[j])) := encU_get _ _ hjl
        have hif : intAt (encU F') ((0 + (j : Int).toNat) * 1) = un F'[j] := by rw [Nat.zero_add, Nat.mul_one, Int.toNat_natCast]; exact intAt_encU _ _ hjl
        have hif2 : intAt (encU F') j = un F'[j] := intAt_encU _ _ hjl
        have hbn : (bandn IntKind.u64 (un F'[j]) (un c) == 0) = (F'[j] &&& ~~~c == 0#64) := by
          rw [bandn_un, Bool.eq_iff_iff, beq_iff_eq, beq_iff_eq, show (0 : Int) = un 0#64 from rfl]
          exact un_inj
        generalize hub : underB (F'.take j) c = ub at *
        generalize hub2 : underB (F'.take (j + 1)) c = ub2 at *
        generalize F'[j] = fj at *
        rcases F' with _ | ⟨f, F'⟩ <;> rcases A' with _ | ⟨a, A'⟩
        case nil.nil => simp at hjl
        case nil.cons => simp at hjl
        case cons.nil => exact absurd rfl (hne (by simp))
        have hle1 := hle
        simp only [List.length_cons] at hle1 hjl
        refine RunF_sound tab_ok noX_local 100 [true] _ _ rfl ?_ ?_
        · simp; omega
        refine Run.drawA noX_local rfl [] [(9, .row 22 1 (C0.length + 1) (encU (c0 :: C0))), (7, .row 22 1 (F'.length + 1) (encU (f :: F')))] rfl rfl ⟨rfl, rfl, trivial⟩ ?_
        by_cases hb : ub = true
        · refine RunOF_sound tab_ok noX_local rfl rfl 100 [true] _ _ rfl ?_ ?_
          · simp [hb]
          refine RunO.done ?_
          refine RunF_sound tab_ok noX_local 100 [] _ _ rfl ?_ ?_
          · simp
          exact Run.toC ih' ⟨⟨_, rfl, fun M => rfl⟩, ⟨_, rfl, fun M => rfl⟩, ⟨_, rfl, fun M => rfl⟩, ⟨_, rfl, fun M => rfl⟩, ⟨_, rfl, fun M => rfl⟩, ⟨_, rfl, fun M => rfl⟩, ⟨_, rfl, fun M => rfl⟩, ⟨_, rfl, fun M => rfl⟩, ⟨_, rfl, fun M => congrArg Value.bool (by rw [hst, hb]; rfl)⟩, ⟨_, rfl, fun M => congrArg (Value.int .i64) (wrap_succ (by omega))⟩, trivial⟩ ⟨rfl, rfl, rfl, rfl, trivial⟩
        · refine RunOF_sound tab_ok noX_local rfl rfl 100 [false] _ _ rfl ?_ ?_
          · simp [hb, hget, hint, hgf, hif2]
            omega
          refine RunO.done ?_
          refine RunF_sound tab_ok noX_local 100 [] _ _ rfl ?_ ?_
          · simp
          exact Run.toC ih' ⟨⟨_, rfl, fun M => rfl⟩, ⟨_, rfl, fun M => rfl⟩, ⟨_, rfl, fun M => rfl⟩, ⟨_, rfl, fun M => rfl⟩, ⟨_, rfl, fun M => rfl⟩, ⟨_, rfl, fun M => rfl⟩, ⟨_, rfl, fun M => rfl⟩, ⟨_, rfl, fun M => rfl⟩, ⟨_, rfl, fun M => congrArg Value.bool (by rw [hif, hint', hbn, hst, Bool.eq_false_iff.2 hb]; rfl)⟩, ⟨_, rfl, fun M => congrArg (Value.int .i64) (wrap_succ (by omega))⟩, trivial⟩ ⟨rfl, rfl, rfl, rfl, trivial⟩
theorem leastR_enters : Enters Tryd.prog 39 := enters_mk Tryd.func39 (by decide) rfl
end Go.Proofs.YtpfanhbkjajocaaDoor

/-
  Least as a value. Own work.
-/
namespace Go.Proofs.YtpfanhbkjajocaaDoor
open Go.AM
set_option maxRecDepth 100000

theorem mkLeast_ok (x : BitVec 64) (g : Fn) (a b : Array Value) (w : World) : HandsZ Tryd.prog 36 [.int .u64 (un x), .func g a b] w (.fn 68 [.ptr 0 0, .ptr 1 0])
    [(0, .cells 23 [.one (.v (.int .u64 (un x)))]), (1, .cells 52 [.one (.v (.func g a b))])] := by
  refine HandsZ.of_run Tryd.func36 rfl (by show 2 ≤ 6; decide) ?_
  refine RunF_sound tab_ok noX_local 100 [] _ _ rfl ?_ ?_
  · simp [okCell, argsT.ofConst', Value.oneCell']
  refine Run.retH tab_ok [(0, 0), (1, 1)] Tryd.func36 rfl trivial rfl ⟨rfl, rfl, trivial⟩ rfl
theorem mkLeast_enters : Enters Tryd.prog 36 := enters_mk Tryd.func36 (by decide) rfl
end Go.Proofs.YtpfanhbkjajocaaDoor

/-
  The test of SetsLeast, as it is asked. Own work.
-/
namespace Go.Proofs.YtpfanhbkjajocaaDoor
open Go.AM
set_option maxRecDepth 100000

theorem ext_cells' (w : World) (a : Addr) : ∀ (d i : Nat) (l : List Value), l.length = d → (∀ j v, l[j]? = some v → w.cell? (a.add (i + j)) = some v) → extCells w a i d = l
  | 0, i, l, hl, _ => by rw [List.length_eq_zero_iff.1 hl]; rfl
  | d + 1, i, [], hl, _ => by simp at hl
  | d + 1, i, v :: l, hl, hv => by
    have h1 := hv 0 v rfl
    rw [Nat.add_zero] at h1
    have h2 := ext_cells' w a d (i + 1) l (by simpa using hl) (fun j u hu => by
      have := hv (j + 1) u (by simpa using hu)
      rw [show i + 1 + j = i + (j + 1) by omega]; exact this)
    simp only [extCells, h1, h2]

def askB (A : List (BitVec 64)) : List (Nat × Blk) := (0, .cells 43 [.one (uZ 1 A)]) :: uBk 1 A

set_option maxHeartbeats 1000000 in
theorem test_ok (T : Ts) (c : BitVec 64) (bt : Nat) (A : List (BitVec 64)) (hA : A.length < 1099511627776) (M : AM.Loc) (w : World) (hs : SeesT w T)
    (ht : ∀ j v, (tsV T)[j]? = some v → w.cell? ((⟨bt, 0, none⟩ : Addr).add j) = some v) (hb : ∀ id B, lk (askB A) id = some B → BlkAt M w id B) (hi : ∀ id id' B B', lk (askB A) id = some B → lk (askB A) id' = some B' → (M id).1 = (M id').1 → id = id')
    (hbt : ¬ footH M (fun _ => False) (askB A) bt) (hup : ∀ a, T.p1 = some a → ¬ footH M (fun _ => False) (askB A) a.block) (hth : ∀ a, T.p2 = some a → ¬ footH M (fun _ => False) (askB A) a.block) :
    GivesR Tryd.prog 37 (concL M [.v (.int .u64 (un c)), .ptr 0 0, .v (.pointer (some ⟨bt, 0, none⟩))]) w
      (fun v w' => v = .bool (letB T c) ∧ Agree (footH M (fun _ => False) (askB A)) w w' ∧ ∃ M' : AM.Loc, (M' 0).1 = (M 0).1 ∧ (∀ id B, lk (askB (A ++ [c])) id = some B → BlkAt M' w' id B) ∧ ((M' 1).1 < w.heap.size → footH M (fun _ => False) (askB A) (M' 1).1) ∧ (M' 1).1 ≠ (M' 0).1) := by
  have hone := tsV_one T
  have hx : extCells w ⟨bt, 0, none⟩ 0 2 = tsV T := ext_cells' w _ 2 0 _ rfl fun j v hv => by rw [Nat.zero_add]; exact ht j v hv
  have hsm : ∀ j, j < 2 → (w.cell? ((⟨bt, 0, none⟩ : Addr).add j)).isSome := fun j hj => by
    have hj' : j < (tsV T).length := hj
    rw [ht j _ (List.getElem?_eq_getElem hj')]; rfl
  refine givesL_of_run (X := noX) (fp := fun _ => False) (nx := 2) Tryd.func37 rfl (by show 3 ≤ 12; decide) trivial (fun b h => h.elim) hb hi (fun _ _ _ h => h) ?_
  have hts : ∀ {w'}, Agree (footH M (fun _ => False) (askB A)) w w' → SeesT w' T := fun hag => ⟨hs.up.agree hag hup, hs.those.agree hag hth, hs.l1, hs.l2⟩
  generalize hS : footH M (fun _ => False) (askB A) = S at *
  rcases A with _ | ⟨a, A⟩
  · refine RunF_sound tab_ok noX_local 100 [] _ _ rfl ?_ ?_
    · simp [maxLen, fillL, repL, splice, Value.cells, Value.oneCell', okCell]
      exact ⟨hsm, hbt⟩
    refine Run.callFn (r := .bool (letB T c)) noX_local rfl rfl rfl rfl rfl rfl rfl lets_enters rfl (fun w' hag => ?_) ?_
    · have h := lets_ok T c w' (hts hag)
      unfold encT at h
      rw [← hx] at h
      exact h
    refine RunF_sound tab_ok noX_local 100 [] _ _ rfl ?_ ?_
    · simp
    refine Run.retF tab_ok Tryd.func37 rfl trivial (fun M' fp' ac w' hR => ?_)
    have hst : (M' 0).1 = (M 0).1 := hR.still (i := 1) (id := 0) (off := 0) (b := (M 0).1) (o := 0) (by show 1 < 3; decide) rfl rfl
    have hown := hR.own 3 _ rfl
    refine ⟨rfl, hR.agree, fun i => M' (ap [(1, 3)] i), hst, fun id B hB => ?_, fun hlt => ?_, fun e => ?_⟩
    · refine (hR.heap _ _ (inHR_lk (ρ := [(1, 3)]) ?_ id B hB)).ren
      exact ⟨rfl, rfl, trivial⟩
    · exact hown hlt
    · have := hR.inj 3 0 _ _ rfl rfl e
      omega
  · refine RunF_sound tab_ok noX_local 100 [] _ _ rfl ?_ ?_
    · simp [maxLen, fillL, repL, splice, Value.cells, Value.oneCell', okCell]
      exact ⟨by simp at hA; omega, hsm, hbt⟩
    refine Run.callFn (r := .bool (letB T c)) noX_local rfl rfl rfl rfl rfl rfl rfl lets_enters rfl (fun w' hag => ?_) ?_
    · have h := lets_ok T c w' (hts hag)
      unfold encT at h
      rw [← hx] at h
      exact h
    refine RunF_sound tab_ok noX_local 100 [] _ _ rfl ?_ ?_
    · simp
    refine Run.retF tab_ok Tryd.func37 rfl trivial (fun M' fp' ac w' hR => ?_)
    have hst : (M' 0).1 = (M 0).1 := hR.still (i := 1) (id := 0) (off := 0) (b := (M 0).1) (o := 0) (by show 1 < 3; decide) rfl rfl
    have hown := hR.own 3 _ rfl
    refine ⟨rfl, hR.agree, fun i => M' (ap [(1, 3)] i), hst, fun id B hB => ?_, fun hlt => ?_, fun e => ?_⟩
    · have hq : askB ((a :: A) ++ [c]) = (0, .cells 43 [.one (.sl 1 1 0 (A.length + 1 + 1))]) :: [(1, .row 22 1 (A.length + 1 + 1) ((encU (a :: A)).take ((A.length + 1) * 1) ++ [.int .u64 (un c)]))] := by
        unfold askB; rw [uZ_app, uBk_app, encU_app (a :: A) (A.length + 1) rfl c]; rfl
      rw [hq] at hB
      refine (hR.heap _ _ (inHR_lk (ρ := [(1, 3)]) ?_ id B hB)).ren
      exact ⟨rfl, rfl, trivial⟩
    · exact hown hlt
    · have := hR.inj 3 0 _ _ rfl rfl e
      omega
end Go.Proofs.YtpfanhbkjajocaaDoor

/-
  The abstract machine, thirty-third part: a range over a function whose outer part turns. Own work; over any program.
-/
namespace Go.AM
open Go.RowKit

theorem old_alloc (w : World) (o : Obj) {b : Nat} (hb : b < w.heap.size) : (w.alloc o).heap[b]? = w.heap[b]? := by
  first | exact heap_alloc_old _ _ hb | exact heap_alloc_old _ _ b hb

def roundRX {S : Type} (C : Ctx) (XS : S → Res) (D : Nat) (t : List (Nat × AV)) (a0 : Array Value) (l : Nat) (rc : Loop) (wy : World) (fpy : Foot) (Next : S → List (Nat × Blk) → Prop) (Stop : S → Code → List (Nat × Blk) → Prop) : Value → World → Prop := fun v w' =>
  ∃ fp', Grown fpy wy fp' w' ∧ (v = .bool true ∧ (∃ s h M fpX, Next s h ∧ LoopJ ((C.withX (XS s)).marked D) t a0 l rc .ready none h M fpX w' fp') ∨
    v = .bool false ∧ (∃ s c h M fpX, Stop s c h ∧ LoopJ ((C.withX (XS s)).marked D) t a0 l rc .done (some c) h M fpX w' fp'))

def plainT : List (Nat × AV) → Bool
  | [] => true
  | (_, .v _) :: r => plainT r
  | (_, .tt _) :: r => plainT r
  | _ :: _ => false

theorem plainT_lk : ∀ {l : List (Nat × AV)} {i : Nat} {x : AV}, plainT l = true → lk l i = some x → ∀ M M' : Loc, conc M x = conc M' x
  | [], i, x, _, h => by cases h
  | (j, y) :: r, i, x, hb, h => by
    simp only [lk] at h
    split at h
    · cases h
      cases y with
      | v _ => intro M M'; simp [conc]
      | tt _ => intro M M'; simp [conc]
      | _ => simp [plainT] at hb
    · cases y with
      | v _ => exact plainT_lk (show plainT r = true from hb) h
      | tt _ => exact plainT_lk (show plainT r = true from hb) h
      | _ => simp [plainT] at hb

theorem lkA {α : Type} {i : Nat} : ∀ {a b : List (Nat × α)}, lk (a ++ b) i = match lk a i with | some x => some x | none => lk b i
  | [], b => rfl
  | (j, y) :: a, b => by
    simp only [List.cons_append, lk]
    split
    · rfl
    · exact lkA

theorem Run.rangeFnX {C : Ctx} {S : Type} (XS : S → Res) (hLS : ∀ s, Local (XS s)) (s0 : S) (hX0 : C.X = XS s0) {k : List Item} {σ : St} {g : Operand} {ps : Array Tmp} {assign body : Code} {f : FuncId} {vs : List Value} {z : AV}
    (hro : C.b.roundOf = none) (hg : σ.ev g = some z) (hz : ∀ M, conc M z = .func (.func f) #[] vs.toArray) (hent : Enters C.P f)
    (lo : Nat) (tv t : List (Nat × AV)) (hvin : inT σ.t tv) (hvp : plainT tv = true) (htin : inT σ.t t) (hlo : keysLt lo t = true) (hps : psOK lo C.n.hi ps.toList = true)
    {K : Nat → Prop} {xs : List (List Value)} (hit : Iter C.P f vs K C.w0 xs) (hK : ∀ b, K b → b < C.w0.heap.size ∧ ¬ C.S0 b) (hlen : ∀ x ∈ xs, x.length = ps.size)
    (Inv : List (List Value) → S → List (Nat × Blk) → Prop) (Stop : List (List Value) → S → Code → List (Nat × Blk) → Prop) (N : Nat)
    (h0 : List (Nat × Blk)) (hI0 : Inv [] s0 h0) (hin : inT σ.h h0)
    (hround : ∀ D l a0 rc wy fpy pre x s h, RoundIn ((C.withX (XS s)).marked D) lo t l wy fpy → pre ++ [x] <+: xs → Inv pre s h →
      Run (roundC ((C.withX (XS s)).marked D) lo a0 l rc .ready wy fpy (roundRX C XS D t a0 l rc wy fpy (Inv (pre ++ [x])) (Stop (pre ++ [x])))) [.code assign, .beginRound, .code body] ⟨parT (ps.toList.zip x) (tv ++ t), h, N⟩)
    (hdone : ∀ D s h, Inv xs s h → Run ((C.withX (XS s)).marked D) k ⟨tv ++ t, h, N⟩)
    (hstop : ∀ D pre s c h, pre <+: xs → Stop pre s c h → Run ((C.withX (XS s)).marked D) (.code c :: k) ⟨tv ++ t, h, N⟩) :
    Run C (.code (.rangeFunc g ps assign body) :: k) σ := by
  have hL : Local C.X := by rw [hX0]; exact hLS s0
  intro M fp a w hR cs
  let D := w.heap.size
  let l := w.heap.size + 1
  let rc : Loop := { state := .ready, pending := none, fn := C.b.fn, tmps := a.tmps, params := ps, assign, body, defers := D }
  let W1 : World := (w.alloc (.deferred (some []))).alloc (.loop rc)
  let y : Value := .func (.yield l) #[] #[]
  have he : (Instr.enterLoop C.b.fn a.tmps ps assign body C.b.roundOf).run C.P w = .ok (l, [mark D]) W1 := by rw [hro]; exact run_enterLoop_outer C.b.fn a.tmps ps assign body
  have hres : (resolve a.eval (rangeCall g l) 0).run C.P W1 = .ok { target := .fn (.func f) vs.toArray, args := #[y] } W1 := by
    simp [resolve, hR.q.ev hg, hz, Deferred.ofValue, y]
    rfl
  have hinv : (invoke (.fn (.func f) vs.toArray) #[y]).run C.P W1 = .ok (.enter f (y :: vs).toArray) W1 := by
    have : (#[y] ++ vs.toArray : Array Value) = (y :: vs).toArray := by simp
    simp only [invoke, this, hent _ _]
  have s1 := stepR_rangeFunc (P := C.P) (b := C.b) (a := a) (k := k) (cs := cs) (w := w) he hres hinv
  have hws : W1.heap.size = w.heap.size + 2 := by simp only [W1, World.size_alloc]
  have hold : ∀ b, b < w.heap.size → W1.heap[b]? = w.heap[b]? := by
    intro b hb
    simp only [W1]
    rw [old_alloc _ _ (by rw [World.size_alloc]; omega), old_alloc _ _ hb]
  have hD : W1.heap[D]? = some (.deferred (some [])) := by
    simp only [W1, D]
    rw [old_alloc _ _ (by rw [World.size_alloc]; omega)]
    exact World.alloc_heap_new _ _
  have hl : W1.heap[l]? = some (.loop rc) := by
    have := World.alloc_heap_new (w.alloc (.deferred (some []))) (.loop rc)
    rw [show (w.alloc (.deferred (some []))).heap.size = l by simp only [World.size_alloc, l]] at this
    exact this
  have hblk : ∀ id B, lk h0 id = some B → lk σ.h id = some B := fun id B hB => inT_lk hin id B hB
  let J : List (List Value) → Res := fun pre w fp => ∃ s h M fpX, Inv pre s h ∧ LoopJ ((C.withX (XS s)).marked D) t a.tmps l rc .ready none h M fpX w fp
  let Js : List (List Value) → Res := fun pre w fp => ∃ s c h M fpX, Stop pre s c h ∧ LoopJ ((C.withX (XS s)).marked D) t a.tmps l rc .done (some c) h M fpX w fp
  have hLm : ∀ s, Local ((C.withX (XS s)).marked D).X := fun s => markX_local (hLS s) D
  have hJl : ∀ pre, Local (J pre) := fun pre w w' fp ⟨s, h, M, fpX, h1, h2⟩ _ hs => ⟨s, h, M, fpX, h1, h2.moved (hLm s) hs⟩
  have hJsl : ∀ pre, Local (Js pre) := fun pre w w' fp ⟨s, c, h, M, fpX, h1, h2⟩ _ hs => ⟨s, c, h, M, fpX, h1, h2.moved (hLm s) hs⟩
  let fp1 : Foot := fun b => (fp b ∨ b = D) ∨ b = l ∨ ∃ id B, lk h0 id = some B ∧ (M id).1 = b
  have hfl : ∀ b, fp b → b < w.heap.size := fun b hb => (hR.fpok b hb).1
  have hml : ∀ id B, lk h0 id = some B → (M id).1 < w.heap.size := fun id B hB => (hR.heap _ _ (hblk _ _ hB)).lt
  have hwle : C.w0.heap.size ≤ w.heap.size := hR.agree.size
  have hfp1 : ∀ b, fp1 b → b < W1.heap.size ∧ (b < C.w0.heap.size → C.S0 b) := by
    intro b hb
    rw [hws]
    rcases hb with (hb | rfl) | rfl | ⟨id, B, hB, rfl⟩
    · exact ⟨by have := hfl b hb; omega, (hR.fpok b hb).2⟩
    · exact ⟨by simp only [D]; omega, fun h => by simp only [D] at h; omega⟩
    · exact ⟨by simp only [l]; omega, fun h => by simp only [l] at h; omega⟩
    · exact ⟨by have := hml _ _ hB; omega, hR.own _ _ (hblk _ _ hB)⟩
  have hW1 : Agree C.S0 C.w0 W1 := ⟨hR.agree.os, hR.agree.tape, hR.agree.output, by rw [hws]; omega, fun b hb hs => by rw [hold b (by omega)]; exact hR.agree.block b hb hs⟩
  have hJ0 : J [] W1 fp1 := by
    refine ⟨s0, h0, M, fun b => fp b ∨ b = D, hI0, ?_⟩
    refine { tmps := fun i x hx => hR.tmps i x (inT_lk htin i x hx), heap := ?_, inj := ?_, own := ?_, apart := ?_, outer := ?_, fpok := ?_, rc := hl, lX := ?_, lnew := ?_, foot := fun b => Iff.rfl }
    · exact fun id B hB => (hR.heap _ _ (hblk _ _ hB)).same (hold _ (hml _ _ hB))
    · exact fun id id' B B' hB hB' e => hR.inj _ _ _ _ (hblk _ _ hB) (hblk _ _ hB') e
    · exact fun id B hB => hR.own _ _ (hblk _ _ hB)
    · intro id B hB
      have := hml _ _ hB
      refine ⟨fun hf => ?_, fun e => by simp only [l] at e; omega⟩
      rcases hf with hf | hf
      · exact hR.apart _ _ (hblk _ _ hB) hf
      · simp only [D] at hf; omega
    · exact ⟨fp, hX0 ▸ hL w W1 fp hR.outer hfl (fun b hb => hold b (hfl b hb)), fun hf => Nat.lt_irrefl _ (hfl _ hf), hD, fun b => Iff.rfl⟩
    · intro b hb
      exact hfp1 b (.inl hb)
    · intro hf
      rcases hf with hf | hf
      · have := hfl _ hf; simp only [l] at this; omega
      · simp only [l, D] at hf; omega
    · show C.w0.heap.size ≤ l
      simp only [l]; omega
  have hvt : ∀ M' : Loc, (∀ i x, lk t i = some x → a.tmps[i]? = some (conc M' x)) → ∀ i x, lk (tv ++ t) i = some x → a.tmps[i]? = some (conc M' x) := fun M' h i x hx => by
    rw [lkA] at hx
    split at hx
    · rename_i z hz
      cases hx
      rw [plainT_lk hvp hz M' M]
      exact hR.tmps i x (inT_lk hvin i x hz)
    · exact h i x hx
  have hys : ∀ pre x, pre ++ [x] <+: xs → Yields C.P y J Js W1 fp1 pre x := by
    intro pre x hpx wy fpy hJy hgr
    obtain ⟨sx, h, M', fpX, hinvp, hJ⟩ := hJy
    have hx : x.length = ps.size := hlen x (hpx.subset (by simp))
    have hag : Agree C.S0 C.w0 wy := hW1.trans hgr.1 (fun i hi hl => (hfp1 i hi).2 hl)
    have hfy : ∀ b, fpy b → b < C.w0.heap.size → C.S0 b := fun b hb hlt => (hfp1 b ((hgr.2 b hb).2 (by have := hW1.size; omega))).2 hlt
    have hrun := run_yield (P := C.P) (args := x.toArray) hJ.rc (by simpa using hx)
    refine ⟨{ target := .fn (.yield l) #[], args := x.toArray }, _, by simp [Deferred.ofValue, y], by simp only [invoke]; exact hrun, ?_⟩
    intro c cs'
    have hpr := parT_run (M := M') (lo := lo) (ps.toList.zip x) (tv ++ t) a.tmps (fun q hq => by
      have := psOK_mem hps q.1 (List.of_mem_zip hq).1
      rw [hR.size]; exact this) (hvt M' hJ.tmps)
    have htm : (ps.zip x.toArray).foldl (fun tmps (q : Nat × Value) => tmps.setIfInBounds q.1 q.2) a.tmps = (ps.toList.zip x).foldl (fun tm q => tm.setIfInBounds q.1 q.2) a.tmps := by
      rw [← Array.foldl_toList]; simp
    let a' : Act := { tmps := (ps.toList.zip x).foldl (fun tm q => tm.setIfInBounds q.1 q.2) a.tmps, defers := [] }
    have hI : RoundIn ((C.withX (XS sx)).marked D) lo t l wy fpy := ⟨hLm sx, (hJ.foot l).2 (.inr (.inl rfl)), hag, hfy, hJ.lnew, hlo⟩
    have hrel : Rel (roundC ((C.withX (XS sx)).marked D) lo a.tmps l rc .ready wy fpy (roundRX C XS D t a.tmps l rc wy fpy (Inv (pre ++ [x])) (Stop (pre ++ [x])))) M' (fun b => fpX b ∨ b = l) ⟨parT (ps.toList.zip x) (tv ++ t), h, N⟩ a' wy := by
      refine { heap := hJ.heap, inj := hJ.inj, own := ?_, apart := ?_, agree := Agree.refl _ _, outer := ⟨fpX, hJ.outer, hJ.lX, hJ.rc, fun b => Iff.rfl⟩, fpok := ?_, size := ?_, frozen := hpr.2.1, tmps := hpr.2.2, defers := rfl }
      · exact fun id B hB _ => (hJ.foot _).2 (.inr (.inr ⟨id, B, hB, rfl⟩))
      · exact fun id B hB hf => hf.elim (hJ.apart _ _ hB).1 (hJ.apart _ _ hB).2
      · intro b hb
        have hb' : fpy b := (hJ.foot b).2 (hb.imp id .inl)
        exact ⟨(hgr.2 b hb').1, fun _ => hb'⟩
      · show a'.tmps.size = C.n.hi
        simp only [a']; rw [hpr.1, hR.size]
    obtain ⟨m, s, zz⟩ := hround D l a.tmps rc wy fpy pre x sx h hI hpx hinvp M' _ a' wy hrel (c :: cs')
    obtain ⟨v, w', rfl, fp', hg', hv⟩ := zz c cs' rfl
    refine ⟨v, w', ⟨fp', hg', ?_⟩, ?_⟩
    · rcases hv with ⟨hv, hh⟩ | ⟨hv, hh⟩
      · exact .inl ⟨hv, hh⟩
      · exact .inr ⟨hv, hh⟩
    · have hfr : Frame.round l C.b.fn ((ps.zip x.toArray).foldl (fun tmps (q : Nat × Value) => tmps.setIfInBounds q.1 q.2) a.tmps) assign body .normal =
          (roundC ((C.withX (XS sx)).marked D) lo a.tmps l rc .ready wy fpy (roundRX C XS D t a.tmps l rc wy fpy (Inv (pre ++ [x])) (Stop (pre ++ [x])))).b.atR a' [.code assign, .beginRound, .code body] := by
        rw [htm]; simp [Frame.round, Frame.atR, roundC, Ctx.marked, a']
      exact hfr ▸ s
  have hcall := hit y J Js W1 fp1 hJl hJsl hys hJ0 (fun b hb => (hfp1 b hb).1) (fun b hb hk => (hK b hk).2 ((hfp1 b hb).2 (hK b hk).1))
    ⟨hW1.os, hW1.tape, hW1.output, hW1.size, fun b hb hk => hW1.block b hb (fun hs => by
      have : K b := Classical.byContradiction hk
      exact (hK b this).2 hs)⟩
  obtain ⟨e, w', fr, ⟨v, rfl, fp', hgr, hend⟩, hsteps, _, hleave⟩ := hcall (C.b.atR { a with defers := [mark D] ++ a.defers } (.inRangeFunc l :: k) :: cs)
  have s2 := step_leave_returned (c := C.b.atR { a with defers := [mark D] ++ a.defers } (.inRangeFunc l :: k)) (cs := cs) hleave
  rw [finish_atR_inRangeFunc] at s2
  have hag : Agree C.S0 C.w0 w' := hW1.trans hgr.1 (fun i hi hl => (hfp1 i hi).2 hl)
  have key : ∀ (sx : S) (st : LoopState) (pd : Option Code) (h : List (Nat × Blk)) (M' : Loc) (fpX : Foot), st ≠ .busy → LoopJ ((C.withX (XS sx)).marked D) t a.tmps l rc st pd h M' fpX w' fp' →
      Run ((C.withX (XS sx)).marked D) ((pd.map Item.code).toList ++ k) ⟨tv ++ t, h, N⟩ → ∃ m, Steps C.P (lone (C.b.atR a (.code (.rangeFunc g ps assign body) :: k)) cs w) m ∧ C.Z cs m := by
    intro sx st pd h M' fpX hst hJ hr
    obtain ⟨k1, k2, k3⟩ := hJ.record (hLm sx) (o := .loop { rc with state := .exhausted, pending := pd })
    have hrel : Rel ((C.withX (XS sx)).marked D) M' fpX ⟨tv ++ t, h, N⟩ { a with defers := [mark D] ++ a.defers } (w'.putObj l (.loop { rc with state := .exhausted, pending := pd })) := by
      refine { heap := k1, inj := hJ.inj, own := hJ.own, apart := fun id B hB => (hJ.apart _ _ hB).1, agree := ?_, outer := k2, fpok := k3, size := hR.size, frozen := hR.frozen, tmps := hvt M' hJ.tmps, defers := ?_ }
      · refine agree_putObj hag (fun h => ?_)
        have : C.w0.heap.size ≤ l := hJ.lnew
        exact absurd (show l < C.w0.heap.size from h) (by omega)
      · show [mark D] ++ a.defers = mark D :: C.ds
        rw [hR.defers]; rfl
    obtain ⟨m, s, zz⟩ := hr M' fpX _ _ hrel cs
    have s3 := stepR_endRangeFunc (P := C.P) (b := C.b) (a := { a with defers := [mark D] ++ a.defers }) (k := k) (cs := cs) (run_endLoop (P := C.P) hJ.rc hst)
    exact ⟨m, .head s1 (Steps.trans hsteps (.head s2 (.head s3 s))), zz⟩
  rcases hend with ⟨sx, h, M', fpX, hI, hJ⟩ | ⟨pre, hpre, sx, c, h, M', fpX, hS, hJ⟩
  · exact key sx .ready none h M' fpX (by simp) hJ (hdone D sx h hI)
  · exact key sx .done (some c) h M' fpX (by simp) hJ (hstop D pre sx c h hpre hS)


/-- A round may end in more ways. -/
theorem Run.roundMono {C : Ctx} {lo : Nat} {a0 : Array Value} {l : Nat} {rc : Loop} {st : LoopState} {wy : World} {fpy : Foot} {Rr Rr' : Value → World → Prop} {todo : List Item} {σ : St} (h : ∀ v w, Rr v w → Rr' v w)
    (hr : Run (roundC C lo a0 l rc st wy fpy Rr) todo σ) : Run (roundC C lo a0 l rc st wy fpy Rr') todo σ := fun M fp a w hR cs => by
  obtain ⟨m, s, z⟩ := hr M fp a w { heap := hR.heap, inj := hR.inj, own := hR.own, apart := hR.apart, agree := hR.agree, outer := hR.outer, fpok := hR.fpok, size := hR.size, frozen := hR.frozen, tmps := hR.tmps, defers := hR.defers } cs
  refine ⟨m, s, fun c cs' e => ?_⟩
  obtain ⟨v, w', e1, h1⟩ := z c cs' e
  exact ⟨v, w', e1, h _ _ h1⟩
theorem roundRX_of {S : Type} {C : Ctx} {XS : S → Res} {D : Nat} {t : List (Nat × AV)} {a0 : Array Value} {l : Nat} {rc : Loop} {wy : World} {fpy : Foot} {Next : S → List (Nat × Blk) → Prop} {Stop : S → Code → List (Nat × Blk) → Prop} (s : S) :
    ∀ v w, roundR ((C.withX (XS s)).marked D) t a0 l rc wy fpy (Next s) (Stop s) v w → roundRX C XS D t a0 l rc wy fpy Next Stop v w := by
  rintro v w ⟨fp', hg, ⟨hv, h⟩ | ⟨hv, c, h⟩⟩
  · exact ⟨fp', hg, .inl ⟨hv, s, h⟩⟩
  · exact ⟨fp', hg, .inr ⟨hv, s, c, h⟩⟩
end Go.AM

/-
  The abstract machine, thirty-fourth part: function values that turn the outer part, called in rounds; a run begun anew where some blocks are given up. Own work; over any program.
-/
namespace Go.AM
open Go.RowKit

/-- A later base of the same run. -/
structure Base (S : Foot) (w : World) (S1 : Foot) (w1 : World) : Prop where
  agree : Agree S w w1
  old : ∀ b, S1 b → b < w.heap.size → S b

theorem Base.refl (S : Foot) (w : World) : Base S w S w := ⟨Agree.refl _ _, fun _ h _ => h⟩

theorem Base.trans {S S1 S2 : Foot} {w w1 w2 : World} (h : Base S w S1 w1) (k : Base S1 w1 S2 w2) : Base S w S2 w2 :=
  ⟨h.agree.trans k.agree (fun i hi hl => h.old i hi hl), fun b hb hl => h.old b (k.old b hb (Nat.lt_of_lt_of_le hl h.agree.size)) hl⟩

theorem Base.grown {S S1 fp' : Foot} {w w1 w' : World} (h : Base S w S1 w1) (k : Grown S1 w1 fp' w') : Grown S w fp' w' :=
  ⟨h.agree.trans k.1 (fun i hi hl => h.old i hi hl), fun b hb => ⟨(k.2 b hb).1, fun hl => h.old b ((k.2 b hb).2 (Nat.lt_of_lt_of_le hl h.agree.size)) hl⟩⟩

theorem Base.call {S S1 S3 : Foot} {w w1 w2 w3 : World} (h : Base S w S1 w1) (k : Agree S1 w1 w2) (l : Agree (fun _ => False) w2 w3) (hs : Since w1 S1 w2 S3) : Base S w S3 w3 :=
  ⟨(h.agree.trans k (fun i hi hl => h.old i hi hl)).trans l (fun _ f _ => f.elim), fun b hb hl => h.old b (Classical.byContradiction fun hn => hs.old b (Nat.lt_of_lt_of_le hl h.agree.size) hn hb) hl⟩

theorem RoundIn.base {C : Ctx} {lo : Nat} {t : List (Nat × AV)} {l : Nat} {wy : World} {fpy : Foot} (h : RoundIn C lo t l wy fpy) : Base C.S0 C.w0 fpy wy := ⟨h.w0, h.fy⟩

theorem Based.base {w0 w1 w2 : World} {S S2 : Foot} (h : Based w0 w1 S) (k : Base S w1 S2 w2) : Based w0 w2 S2 :=
  ⟨h.later k.agree, fun b hb => by
    rcases Nat.lt_or_ge b w1.heap.size with hl | hl
    · exact h.new b (k.old b hb hl)
    · exact Nat.le_trans h.agree.size hl⟩

/-- What a call of a function value does to the outer part. -/
def Does (P : Program) (y : Value) (x : List Value) (X : Res) (Q : Value → Res) (S : Foot) (w0 : World) : Prop :=
  ∀ w fp, X w fp → Grown S w0 fp w → CallsV P y x w fun v w' => ∃ fp', Grown fp w fp' w' ∧ Q v w' fp'

section
variable {P : Program} {y : Value} {x : List Value} {X : Res} {Q : Value → Res} {S S1 : Foot} {w0 w1 : World}

theorem Does.at (h : Does P y x X Q S w0) (hb : Base S w0 S1 w1) : Does P y x X Q S1 w1 := fun w fp hX hg => h w fp hX (hb.grown hg)

theorem Does.mark (h : Does P y x X Q S w0) (D : Nat) : Does P y x (markX X D) (fun v => markX (Q v) D) S w0 := by
  rintro w fp ⟨fpX, h1, h2, h3, h4⟩ hg
  refine (h w fpX h1 ⟨hg.1, fun b hb => hg.2 b ((h4 b).2 (.inl hb))⟩).mono fun v w' ⟨fp', k, q⟩ => ?_
  have hD : D < w.heap.size := (Array.getElem?_eq_some_iff.1 h3).1
  have hD' : ¬ fp' D := fun hf => h2 ((k.2 D hf).2 hD)
  refine ⟨fun b => fp' b ∨ b = D, ⟨⟨k.1.os, k.1.tape, k.1.output, k.1.size, fun b hb hs => k.1.block b hb (fun hf => hs ((h4 b).2 (.inl hf)))⟩, ?_⟩, fp', q, hD', ?_, fun b => Iff.rfl⟩
  · rintro b (hb | rfl)
    · exact ⟨(k.2 b hb).1, fun hl => (h4 b).2 (.inl ((k.2 b hb).2 hl))⟩
    · exact ⟨Nat.lt_of_lt_of_le hD k.1.size, fun _ => (h4 b).2 (.inr rfl)⟩
  · rw [k.1.block D hD h2]; exact h3

theorem Does.round (h : Does P y x X Q S w0) (l : Nat) (rc : Loop) (st : LoopState) : Does P y x (roundX X l rc st) (fun v => roundX (Q v) l rc st) S w0 := by
  rintro w fp ⟨fpX, h1, h2, h3, h4⟩ hg
  refine (h w fpX h1 ⟨hg.1, fun b hb => hg.2 b ((h4 b).2 (.inl hb))⟩).mono fun v w' ⟨fp', k, q⟩ => ?_
  have hD : l < w.heap.size := (Array.getElem?_eq_some_iff.1 h3).1
  have hD' : ¬ fp' l := fun hf => h2 ((k.2 l hf).2 hD)
  refine ⟨fun b => fp' b ∨ b = l, ⟨⟨k.1.os, k.1.tape, k.1.output, k.1.size, fun b hb hs => k.1.block b hb (fun hf => hs ((h4 b).2 (.inl hf)))⟩, ?_⟩, fp', q, hD', ?_, fun b => Iff.rfl⟩
  · rintro b (hb | rfl)
    · exact ⟨(k.2 b hb).1, fun hl => (h4 b).2 (.inl ((k.2 b hb).2 hl))⟩
    · exact ⟨Nat.lt_of_lt_of_le hD k.1.size, fun _ => (h4 b).2 (.inr rfl)⟩
  · rw [k.1.block l hD h2]; exact h3

def marksX (X : Res) : List Nat → Res
  | [] => X
  | D :: Ds => markX (marksX X Ds) D

theorem marksX_local (hX : Local X) : ∀ Ds : List Nat, Local (marksX X Ds)
  | [] => hX
  | D :: Ds => markX_local (marksX_local hX Ds) D

theorem Does.marks (h : Does P y x X Q S w0) : ∀ Ds : List Nat, Does P y x (marksX X Ds) (fun v => marksX (Q v) Ds) S w0
  | [] => h
  | D :: Ds => (Does.marks h Ds).mark D

theorem marksX_mono {X X' : Res} (h : ∀ w fp, X w fp → X' w fp) : ∀ (Ds : List Nat) w fp, marksX X Ds w fp → marksX X' Ds w fp
  | [], w, fp, hX => h w fp hX
  | D :: Ds, w, fp, ⟨fpX, h1, h2⟩ => ⟨fpX, marksX_mono h Ds w fpX h1, h2⟩

theorem marksX_ex {X : Res} : ∀ (Ds : List Nat) w fp, marksX X Ds w fp → ∃ fp', X w fp'
  | [], w, fp, hX => ⟨fp, hX⟩
  | D :: Ds, w, _, ⟨fpX, h1, _⟩ => marksX_ex Ds w fpX h1
end

/-- A function's surroundings behind some ranges, opened. -/
abbrev opM (P : Program) (f : FuncId) (lo n : Nat) (t0 : Array Value) (w : World) (S0 : Foot) (X : Res) (R : Value → World → Prop) (Ds : List Nat) : Ctx :=
  { fnC P f n w S0 (marksX X Ds) R with ds := Ds.map mark, n := ⟨lo, n⟩, t0 := t0 }

theorem opM_eq {P : Program} {f : FuncId} {n : Nat} {w : World} {S0 : Foot} {X : Res} {R : Value → World → Prop} : ∀ Ds : List Nat, opM P f 0 n #[] w S0 X R Ds = fnM P f n w S0 X R Ds
  | [] => rfl
  | D :: Ds => by
    show (opM P f 0 n #[] w S0 X R Ds).marked D = (fnM P f n w S0 X R Ds).marked D
    rw [opM_eq Ds]

theorem Run.thaw (C : Ctx) {lo hi lo' : Nat} {t0 t0' : Array Value} {todo : List Item} {σ : St} (hlo : lo' = 0) (h : Run { C with n := ⟨lo', hi⟩, t0 := t0' } todo σ) : Run { C with n := ⟨lo, hi⟩, t0 := t0 } todo σ := fun M fp a w hR cs =>
  h M fp a w { heap := hR.heap, inj := hR.inj, own := hR.own, apart := hR.apart, agree := hR.agree, outer := hR.outer, fpok := hR.fpok, size := hR.size, frozen := fun i hi => absurd (show i < lo' from hi) (by omega), tmps := hR.tmps, defers := hR.defers } cs

/-- A call of a function value that turns the outer part. -/
theorem Run.ask {C : Ctx} {k : List Item} {σ : St} {ops : Array Oper} {i : Nat} {rest : List Nat} {o : Oper} {c : Call} {g : Operand} {y : Value} {xs : List AV} {x : List Value} {Q : Value → Res}
    (hy : Does C.P y x C.X Q C.S0 C.w0)
    (ho : ops[i]? = some o) (hop : o.op = .call c) (hc : c.callee = .value g) (hg : σ.ev g = some (.v y)) (hxs : evs σ c.args.toList = some xs) (hx : toVs xs = some x) (hw : wantOf ops σ o = some .yes) (hd : dstOK C.n o.dst = true)
    (h : ∀ v w fp, Q v w fp → ∃ z X', (∀ M, conc M z = v) ∧ X' w fp ∧ Run (C.withX X') (.inRegion ops rest :: k) (σ.put o.dst z)) : Run C (.inRegion ops (i :: rest) :: k) σ := by
  refine Run.callV ho hop hc hg hxs hw fun M fp a w hR => ?_
  rw [toVs_conc hx]
  refine (hy w fp hR.outer ⟨hR.agree, hR.fpok⟩).mono fun v w' ⟨fp', hgr, hv⟩ cs => ?_
  obtain ⟨z, X', hz, hX', hr⟩ := h v w' fp' hv
  have := hr M fp' _ w' ((hR.grown hgr hX').put (C := C.withX X') (z := z) (dstOK_lt hd)) cs
  rwa [hz] at this

/-- The same in a round. -/
theorem Run.askRound {P : Program} {f : FuncId} {lo lo1 n l : Nat} {t0 a0 : Array Value} {w0 wy : World} {S0 fpy : Foot} {X : Res} {R Rr : Value → World → Prop} {Ds : List Nat} {rc : Loop} {k : List Item} {σ : St} {ops : Array Oper} {i : Nat} {rest : List Nat} {o : Oper} {c : Call} {g : Operand} {y : Value} {xs : List AV} {x : List Value} {Q : Value → Res}
    (hy : Does P y x X Q fpy wy)
    (ho : ops[i]? = some o) (hop : o.op = .call c) (hc : c.callee = .value g) (hg : σ.ev g = some (.v y)) (hxs : evs σ c.args.toList = some xs) (hx : toVs xs = some x) (hw : wantOf ops σ o = some .yes) (hd : dstOK ⟨lo1, n⟩ o.dst = true)
    (h : ∀ v w fp, Q v w fp → ∃ z X', (∀ M, conc M z = v) ∧ (∀ w fp, Q v w fp → X' w fp) ∧ Run (roundC (opM P f lo n t0 w0 S0 X' R Ds) lo1 a0 l rc .busy wy fpy Rr) (.inRegion ops rest :: k) (σ.put o.dst z)) :
    Run (roundC (opM P f lo n t0 w0 S0 X R Ds) lo1 a0 l rc .busy wy fpy Rr) (.inRegion ops (i :: rest) :: k) σ := by
  refine Run.ask (Q := fun v => roundX (marksX (Q v) Ds) l rc .busy) ((hy.marks Ds).round l rc .busy) ho hop hc hg hxs hx hw hd ?_
  rintro v w fp ⟨fpX, h1, h2, h3, h4⟩
  obtain ⟨fp1, hq⟩ := marksX_ex Ds w fpX h1
  obtain ⟨z, X', hz, hm, hr⟩ := h v w fp1 hq
  exact ⟨z, roundX (marksX X' Ds) l rc .busy, hz, ⟨fpX, marksX_mono hm Ds w fpX h1, h2, h3, h4⟩, hr⟩

/-- A range over an iterator in an iterator: the outer part turns. -/
theorem Run.rangeFnM {P : Program} {fu : FuncId} {lo0 n : Nat} {t0 : Array Value} {w0 : World} {S0 : Foot} {R : Value → World → Prop} {Ds : List Nat} {S : Type} (XS : S → Res) (hLS : ∀ s, Local (XS s)) (s0 : S) {k : List Item} {σ : St} {g : Operand} {ps : Array Tmp} {assign body : Code} {f : FuncId} {vs : List Value} {z : AV}
    (hg : σ.ev g = some z) (hz : ∀ M, conc M z = .func (.func f) #[] vs.toArray) (hent : Enters P f)
    (lo : Nat) (tv t : List (Nat × AV)) (hvin : inT σ.t tv) (hvp : plainT tv = true) (htin : inT σ.t t) (hlo : keysLt lo t = true) (hps : psOK lo n ps.toList = true)
    {K : Nat → Prop} {xs : List (List Value)} (hit : Iter P f vs K w0 xs) (hK : ∀ b, K b → b < w0.heap.size ∧ ¬ S0 b) (hlen : ∀ x ∈ xs, x.length = ps.size)
    (Inv : List (List Value) → S → List (Nat × Blk) → Prop) (Stop : List (List Value) → S → Code → List (Nat × Blk) → Prop) (N : Nat)
    (h0 : List (Nat × Blk)) (hI0 : Inv [] s0 h0) (hin : inT σ.h h0)
    (hround : ∀ D l a0 rc wy fpy pre x s h Rr, (∀ s', RoundIn (opM P fu lo0 n t0 w0 S0 (XS s') R (D :: Ds)) lo t l wy fpy) → pre ++ [x] <+: xs → Inv pre s h →
      (∀ s' v w', roundR (opM P fu lo0 n t0 w0 S0 (XS s') R (D :: Ds)) t a0 l rc wy fpy (Inv (pre ++ [x]) s') (Stop (pre ++ [x]) s') v w' → Rr v w') →
      Run (roundC (opM P fu lo0 n t0 w0 S0 (XS s) R (D :: Ds)) lo a0 l rc .ready wy fpy Rr) [.code assign, .beginRound, .code body] ⟨parT (ps.toList.zip x) (tv ++ t), h, N⟩)
    (hdone : ∀ D s h, Inv xs s h → Run (opM P fu lo0 n t0 w0 S0 (XS s) R (D :: Ds)) k ⟨tv ++ t, h, N⟩)
    (hstop : ∀ D pre s c h, pre <+: xs → Stop pre s c h → Run (opM P fu lo0 n t0 w0 S0 (XS s) R (D :: Ds)) (.code c :: k) ⟨tv ++ t, h, N⟩) :
    Run (opM P fu lo0 n t0 w0 S0 (XS s0) R Ds) (.code (.rangeFunc g ps assign body) :: k) σ := by
  refine Run.rangeFnX (fun s => marksX (XS s) Ds) (fun s => marksX_local (hLS s) Ds) s0 rfl rfl hg hz hent lo tv t hvin hvp htin hlo hps hit hK hlen Inv Stop N h0 hI0 hin ?_ ?_ ?_
  · intro D l a0 rc wy fpy pre x s h hI hp hinv
    refine hround D l a0 rc wy fpy pre x s h _ (fun s' => ⟨markX_local (marksX_local (hLS s') Ds) D, hI.lw, hI.w0, hI.fy, hI.ln, hI.lo⟩) hp hinv fun s' v w' hr => ?_
    exact roundRX_of s' v w' hr
  · exact hdone
  · exact hstop

/-- An iterator's return behind ranges. -/
theorem Run.retIM {P : Program} {T : Tab} (hT : tabOK P T) {f : FuncId} {fn : Func} {lo n : Nat} {t0 : Array Value} {w0 : World} {S0 : Foot} {X : Res} (hX : Local X) {R : Value → World → Prop} {σ : St} {k : List Item} {Ds : List Nat}
    (hf : P.funcs[f]? = some fn) (hres : fn.results = #[]) (hR : ∀ v w' fp', Grown S0 w0 fp' w' → X w' fp' → R v w') : Run (opM P f lo n t0 w0 S0 X R Ds) (.code .ret :: k) σ := by
  refine Run.thaw (opM P f 0 n #[] w0 S0 X R Ds) (hi := n) (lo' := 0) (t0' := #[]) rfl ?_
  show Run (opM P f 0 n #[] w0 S0 X R Ds) (.code .ret :: k) σ
  rw [opM_eq]
  exact Run.retM (p := True) (l := []) hT hX hf (by rw [hres]; rfl) trivial fun M fp a w hr => hR _ w fp ⟨hr.agree, hr.fpok⟩ hr.outer

theorem Run.finIM {P : Program} {T : Tab} (hT : tabOK P T) {f : FuncId} {fn : Func} {lo n : Nat} {t0 : Array Value} {w0 : World} {S0 : Foot} {X : Res} (hX : Local X) {R : Value → World → Prop} {σ : St} {Ds : List Nat}
    (hf : P.funcs[f]? = some fn) (hres : fn.results = #[]) (hR : ∀ v w' fp', Grown S0 w0 fp' w' → X w' fp' → R v w') : Run (opM P f lo n t0 w0 S0 X R Ds) [] σ := by
  refine Run.thaw (opM P f 0 n #[] w0 S0 X R Ds) (hi := n) (lo' := 0) (t0' := #[]) rfl ?_
  show Run (opM P f 0 n #[] w0 S0 X R Ds) [] σ
  rw [opM_eq]
  exact Run.finM (p := True) (l := []) hT hX hf (by rw [hres]; rfl) trivial fun M fp a w hr => hR _ w fp ⟨hr.agree, hr.fpok⟩ hr.outer

/-- One cell of any type of one cell, loaded out of old memory. -/
theorem Run.loadExt {C : Ctx} {ops : Array Oper} {i : Nat} {rest : List Nat} {k : List Item} {σ : St} {o : Oper} {T : Tab} {t : Nat} {ti : TI} {a : Addr} {v : Value} {x : Operand}
    (hT : tabOK C.P T) (ho : ops[i]? = some o) (hop : o.op = .load t x) (hx : σ.ev x = some (.v (.pointer (some a)))) (hi : lk T t = some ti) (h1 : oneCellTy ti.d = true) (hc : C.w0.cell? a = some v) (hs : ¬ C.S0 a.block)
    (hw : wantOf ops σ o = some .yes) (hd : dstOK C.n o.dst = true) (h : Run C (.inRegion ops rest :: k) (σ.put o.dst (.v v))) : Run C (.inRegion ops (i :: rest) :: k) σ := by
  intro M fp ac w hR cs
  obtain ⟨m, s, z'⟩ := h M fp _ w (hR.put (z := .v v) (dstOK_lt hd)) cs
  refine ⟨m, .head (step_value ho (wantOf_yes hR.q hw) (fun c e => by rw [hop] at e; cases e) ?_) s, z'⟩
  have h2 := hR.q.ev hx
  simp only [conc] at h2
  have h3 := run_loadVar_one (w := w) hT hi h1 (hR.agree.cell hc hs)
  simp [execOp, hop, h2, Instr.loadAt, Instr.sureAddr, conc, h3]

/-! ### A run begun anew; some blocks are given up -/

def inTM (M : Loc) (t : List (Nat × AV)) : List (Nat × AV) → Prop
  | [] => True
  | (i, x) :: r => (∃ y, lk t i = some y ∧ conc M y = conc M x) ∧ inTM M t r

theorem inTM_lk {M : Loc} {t : List (Nat × AV)} : ∀ {l : List (Nat × AV)} {i : Nat} {x : AV}, inTM M t l → lk l i = some x → ∃ y, lk t i = some y ∧ conc M y = conc M x
  | [], i, x, _, h => by cases h
  | (j, z) :: r, i, x, hb, h => by
    simp only [lk] at h
    split at h
    · rename_i he
      have e := Nat.eq_of_beq_eq_true he
      subst e; cases h
      exact hb.1
    · exact inTM_lk hb.2 h

theorem Run.anew {C : Ctx} {todo : List Item} {σ : St} (lo : Nat) (T' : Loc → List (Nat × AV)) (h' : List (Nat × Blk)) (nx : Nat) (ht : ∀ M, inTM M σ.t (T' M)) (hh : inT σ.h h')
    (h : ∀ M w S1 t0, Base C.S0 C.w0 S1 w → (∀ id B, lk σ.h id = some B → BlkAt M w id B) → (∀ id B, lk σ.h id = some B → lk h' id = none → ¬ S1 (M id).1) →
      (∀ i x, lk σ.t i = some x → t0[i]? = some (conc M x)) → Run { C with w0 := w, S0 := S1, n := ⟨lo, C.n.hi⟩, t0 := t0 } todo ⟨T' M, h', nx⟩) : Run C todo σ := by
  intro M fp a w hR cs
  have hk : ∀ id B, lk h' id = some B → lk σ.h id = some B := fun id B hB => inT_lk hh id B hB
  refine h M w (fun b => fp b ∨ ∃ id B, lk h' id = some B ∧ (M id).1 = b) a.tmps ⟨hR.agree, ?_⟩ hR.heap ?_ hR.tmps M fp a w ?_ cs
  · rintro b (hb | ⟨id, B, hB, rfl⟩) hl
    · exact (hR.fpok b hb).2 hl
    · exact hR.own _ _ (hk _ _ hB) hl
  · rintro id B hB hn (hf | ⟨id', B', hB', e⟩)
    · exact hR.apart _ _ hB hf
    · have := hR.inj _ _ _ _ (hk _ _ hB') hB e
      subst this
      rw [hB'] at hn; cases hn
  · refine { heap := fun id B hB => hR.heap _ _ (hk _ _ hB), inj := fun id id' B B' hB hB' e => hR.inj _ _ _ _ (hk _ _ hB) (hk _ _ hB') e, own := fun id B hB _ => .inr ⟨id, B, hB, rfl⟩,
             apart := fun id B hB => hR.apart _ _ (hk _ _ hB), agree := Agree.refl _ _, outer := hR.outer, fpok := fun b hb => ⟨(hR.fpok b hb).1, fun _ => .inl hb⟩, size := hR.size, frozen := fun i _ => rfl,
             tmps := fun i x hx => ?_, defers := hR.defers }
    obtain ⟨y, hy, e⟩ := inTM_lk (ht M) hx
    rw [hR.tmps i y hy, e]
end Go.AM

/-
  Least as an iterator: its contract. Own work.
-/
namespace Go.Proofs.YtpfanhbkjajocaaDoor
open Go.AM
set_option maxRecDepth 100000

/-- What is found and what has been asked, behind one more candidate. -/
def lsS (T : Ts) (s : List (BitVec 64) × List (BitVec 64)) (c : BitVec 64) : List (BitVec 64) × List (BitVec 64) :=
  if underB s.1 c then s else if letB T c then (s.1 ++ [c], s.2 ++ [c]) else (s.1, s.2 ++ [c])
def lsF (T : Ts) (cs : List (BitVec 64)) : List (BitVec 64) × List (BitVec 64) := cs.foldl (lsS T) ([], [])
theorem lsF_snoc (T : Ts) (cs : List (BitVec 64)) (c : BitVec 64) : lsF T (cs ++ [c]) = lsS T (lsF T cs) c := by simp [lsF]
theorem lsF_len (T : Ts) : ∀ cs : List (BitVec 64), (lsF T cs).1.length ≤ cs.length ∧ (lsF T cs).2.length ≤ cs.length := fun cs => by
  suffices H : ∀ (cs : List (BitVec 64)) (s : List (BitVec 64) × List (BitVec 64)), (cs.foldl (lsS T) s).1.length ≤ s.1.length + cs.length ∧ (cs.foldl (lsS T) s).2.length ≤ s.2.length + cs.length by
    have := H cs ([], []); simpa [lsF] using this
  intro cs
  induction cs with
  | nil => intro s; simp
  | cons c cs ih =>
    intro s
    have h := ih (lsS T s c)
    have h2 : (lsS T s c).1.length ≤ s.1.length + 1 ∧ (lsS T s c).2.length ≤ s.2.length + 1 := by
      unfold lsS
      by_cases h1 : underB s.1 c = true
      · simp [h1]
      · by_cases h3 : letB T c = true
        · simp [h1, h3]
        · simp [h1, h3]
    simp only [List.foldl_cons, List.length_cons]
    omega

abbrev U64 (c : BitVec 64) : Value := .int .u64 (un c)

/-- Least: it asks z, and hands what is let through to its argument. -/
def IterT (P : Program) (f : FuncId) (caps : List Value) (K : Nat → Prop) (w0 : World) (z : Value) (T : Ts) (cs : List (BitVec 64)) : Prop :=
  ∀ (g : Fn) (a b : Array Value) (J Js : List (BitVec 64) → List (BitVec 64) → Res) (w : World) (fp : Foot), (∀ F A, Local (J F A)) → (∀ F A, Local (Js F A)) →
    (∀ pre c, pre ++ [c] <+: cs → underB (lsF T pre).1 c = false → Does P z [U64 c] (J (lsF T pre).1 (lsF T pre).2) (fun v w' fp' => v = .bool (letB T c) ∧ J (lsF T pre).1 ((lsF T pre).2 ++ [c]) w' fp') fp w) →
    (∀ pre c, pre ++ [c] <+: cs → underB (lsF T pre).1 c = false → letB T c = true → Does P (.func g a b) [U64 c] (J (lsF T pre).1 ((lsF T pre).2 ++ [c]))
      (fun v w' fp' => v = .bool true ∧ J ((lsF T pre).1 ++ [c]) ((lsF T pre).2 ++ [c]) w' fp' ∨ v = .bool false ∧ Js ((lsF T pre).1 ++ [c]) ((lsF T pre).2 ++ [c]) w' fp') fp w) →
    J [] [] w fp → (∀ b, fp b → b < w.heap.size) → (∀ b, fp b → ¬ K b) → Agree (fun b => ¬ K b) w0 w →
      GivesR P f (.func g a b :: caps) w fun _ w' => ∃ fp', Grown fp w fp' w' ∧ (J (lsF T cs).1 (lsF T cs).2 w' fp' ∨ ∃ pre c, pre ++ [c] <+: cs ∧ underB (lsF T pre).1 c = false ∧ letB T c = true ∧ Js ((lsF T pre).1 ++ [c]) ((lsF T pre).2 ++ [c]) w' fp')

/-- The found, in its box; the argument, in its. -/
def sBk (id : Nat) : List (BitVec 64) → List (Nat × Blk)
  | [] => []
  | a :: l => [(id, .row 23 1 (l.length + 1) (encU (a :: l)))]
theorem sBk_app (id : Nat) (l : List (BitVec 64)) (c : BitVec 64) : sBk id (l ++ [c]) = [(id, .row 23 1 (l.length + 1) (encU (l ++ [c])))] := by
  cases l <;> simp [sBk]
def LB (y : Value) (F : List (BitVec 64)) : List (Nat × Blk) := (0, .cells 52 [.one (.v y)]) :: (1, .cells 85 [.one (uZ 2 F)]) :: sBk 2 F

def leastK (bs bt : Nat) : Nat → Prop := fun k => k = 0 ∨ k = bs ∨ k = bt

theorem cellAt {M : AM.Loc} {w : World} {id e : Nat} {v : Value} (hb : BlkAt M w id (.cells e [.one (.v v)])) : w.cell? ⟨(M id).1, 0, none⟩ = some v := by
  have h := hb.1
  simp [World.cell?, h, concSegs, conc]

theorem makeChoose_ok (x : BitVec 64) (k : Int) (w : World) : GivesR Tryd.prog 34 [.int .u64 (un x), .int .i64 k] w (fun v w' => Agree (fun _ => False) w w' ∧ ∃ bb cc, v = .func (.func 66) #[] #[.pointer (some ⟨bb, 0, none⟩), .pointer (some ⟨cc, 0, none⟩)] ∧
    w.heap.size ≤ bb ∧ w.heap.size ≤ cc ∧ WordAt w' bb x ∧ w'.cell? ⟨cc, 0, none⟩ = some (.int .i64 k)) := by
  refine Calls.mono' (mkChoose_ok x k w) fun _ w' ⟨v, h1, h2⟩ => ⟨v, h1, h2.agree, ?_⟩
  obtain ⟨M, e, hb, _⟩ := h2.ex
  have h0 := hb 0 _ rfl
  have h1 := hb 1 _ rfl
  refine ⟨(M 0).1, (M 1).1, by rw [← e]; simp [conc, concL], h0.2, h1.2, ?_, ?_⟩
  · exact cellAt h0.1
  · exact cellAt h1.1
end Go.Proofs.YtpfanhbkjajocaaDoor

/-
  A range over Least; what least keeps, behind some candidates. Own work.
-/
namespace Go.AM
open Go.RowKit Go.Proofs.YtpfanhbkjajocaaDoor

/-- A range over Least: the test turns what the range's blocks are. -/
theorem Run.rangeFnT {C : Ctx} (hL : Local C.X) {k : List Item} {σ : St} {g : Operand} {ps : Array Tmp} {assign body : Code} {f : FuncId} {vs : List Value} {zt : Value}
    (hro : C.b.roundOf = none) (hg : σ.ev g = some (.v (.func (.func f) #[] vs.toArray))) (hent : Enters C.P f)
    (lo : Nat) (t : List (Nat × AV)) (htin : inT σ.t t) (hlo : keysLt lo t = true) (hps : psOK lo C.n.hi ps.toList = true)
    {K : Nat → Prop} {T : Ts} {cs : List (BitVec 64)} (hit : IterT C.P f vs K C.w0 zt T cs) (hK : ∀ b, K b → b < C.w0.heap.size ∧ ¬ C.S0 b) (hlen : ps.size = 1)
    (Inv : List (BitVec 64) → List (BitVec 64) → List (Nat × Blk) → Prop) (Stop : List (BitVec 64) → List (BitVec 64) → Code → List (Nat × Blk) → Prop) (N : Nat)
    (h0 : List (Nat × Blk)) (hI0 : Inv [] [] h0) (hin : inT σ.h h0)
    (htest : ∀ D l a0 rc pre c h M fpX w fp, pre ++ [c] <+: cs → underB (lsF T pre).1 c = false → Inv (lsF T pre).1 (lsF T pre).2 h → LoopJ (C.marked D) t a0 l rc .ready none h M fpX w fp → Agree C.S0 C.w0 w → (∀ i, i < C.n.lo → a0[i]? = C.t0[i]?) →
      CallsV C.P zt [U64 c] w fun v w' => ∃ fp', Grown fp w fp' w' ∧ v = .bool (letB T c) ∧ ∃ h' M' fpX', Inv (lsF T pre).1 ((lsF T pre).2 ++ [c]) h' ∧ LoopJ (C.marked D) t a0 l rc .ready none h' M' fpX' w' fp')
    (hround : ∀ D l a0 rc wy fpy pre c h, RoundIn (C.marked D) lo t l wy fpy → pre ++ [c] <+: cs → underB (lsF T pre).1 c = false → letB T c = true → Inv (lsF T pre).1 ((lsF T pre).2 ++ [c]) h →
      Run (roundC (C.marked D) lo a0 l rc .ready wy fpy (roundR (C.marked D) t a0 l rc wy fpy (Inv ((lsF T pre).1 ++ [c]) ((lsF T pre).2 ++ [c])) (Stop ((lsF T pre).1 ++ [c]) ((lsF T pre).2 ++ [c])))) [.code assign, .beginRound, .code body] ⟨parT (ps.toList.zip [U64 c]) t, h, N⟩)
    (hdone : ∀ D h, Inv (lsF T cs).1 (lsF T cs).2 h → Run (C.marked D) k ⟨t, h, N⟩)
    (hstop : ∀ D pre c cd h, pre ++ [c] <+: cs → underB (lsF T pre).1 c = false → letB T c = true → Stop ((lsF T pre).1 ++ [c]) ((lsF T pre).2 ++ [c]) cd h → Run (C.marked D) (.code cd :: k) ⟨t, h, N⟩) :
    Run C (.code (.rangeFunc g ps assign body) :: k) σ := by
  intro M fp a w hR cs'
  let D := w.heap.size
  let l := w.heap.size + 1
  let rc : Loop := { state := .ready, pending := none, fn := C.b.fn, tmps := a.tmps, params := ps, assign, body, defers := D }
  let W1 : World := (w.alloc (.deferred (some []))).alloc (.loop rc)
  let y : Value := .func (.yield l) #[] #[]
  have he : (Instr.enterLoop C.b.fn a.tmps ps assign body C.b.roundOf).run C.P w = .ok (l, [mark D]) W1 := by rw [hro]; exact run_enterLoop_outer C.b.fn a.tmps ps assign body
  have hres : (resolve a.eval (rangeCall g l) 0).run C.P W1 = .ok { target := .fn (.func f) vs.toArray, args := #[y] } W1 := by
    simp [resolve, hR.q.ev hg, conc, Deferred.ofValue, y]
    rfl
  have hinv : (invoke (.fn (.func f) vs.toArray) #[y]).run C.P W1 = .ok (.enter f (y :: vs).toArray) W1 := by
    have : (#[y] ++ vs.toArray : Array Value) = (y :: vs).toArray := by simp
    simp only [invoke, this, hent _ _]
  have s1 := stepR_rangeFunc (P := C.P) (b := C.b) (a := a) (k := k) (cs := cs') (w := w) he hres hinv
  have hws : W1.heap.size = w.heap.size + 2 := by simp only [W1, World.size_alloc]
  have hold : ∀ b, b < w.heap.size → W1.heap[b]? = w.heap[b]? := by
    intro b hb
    simp only [W1]
    rw [old_alloc _ _ (by rw [World.size_alloc]; omega), old_alloc _ _ hb]
  have hD : W1.heap[D]? = some (.deferred (some [])) := by
    simp only [W1, D]
    rw [old_alloc _ _ (by rw [World.size_alloc]; omega)]
    exact World.alloc_heap_new _ _
  have hl : W1.heap[l]? = some (.loop rc) := by
    have := World.alloc_heap_new (w.alloc (.deferred (some []))) (.loop rc)
    rw [show (w.alloc (.deferred (some []))).heap.size = l by simp only [World.size_alloc, l]] at this
    exact this
  have hblk : ∀ id B, lk h0 id = some B → lk σ.h id = some B := fun id B hB => inT_lk hin id B hB
  let J : List (BitVec 64) → List (BitVec 64) → Res := fun F A w fp => ∃ h M fpX, Inv F A h ∧ LoopJ (C.marked D) t a.tmps l rc .ready none h M fpX w fp
  let Js : List (BitVec 64) → List (BitVec 64) → Res := fun F A w fp => ∃ c h M fpX, Stop F A c h ∧ LoopJ (C.marked D) t a.tmps l rc .done (some c) h M fpX w fp
  have hLm : Local (C.marked D).X := markX_local hL D
  have hJl : ∀ F A, Local (J F A) := fun F A w w' fp ⟨h, M, fpX, h1, h2⟩ _ hs => ⟨h, M, fpX, h1, h2.moved hLm hs⟩
  have hJsl : ∀ F A, Local (Js F A) := fun F A w w' fp ⟨c, h, M, fpX, h1, h2⟩ _ hs => ⟨c, h, M, fpX, h1, h2.moved hLm hs⟩
  let fp1 : Foot := fun b => (fp b ∨ b = D) ∨ b = l ∨ ∃ id B, lk h0 id = some B ∧ (M id).1 = b
  have hfl : ∀ b, fp b → b < w.heap.size := fun b hb => (hR.fpok b hb).1
  have hml : ∀ id B, lk h0 id = some B → (M id).1 < w.heap.size := fun id B hB => (hR.heap _ _ (hblk _ _ hB)).lt
  have hwle : C.w0.heap.size ≤ w.heap.size := hR.agree.size
  have hfp1 : ∀ b, fp1 b → b < W1.heap.size ∧ (b < C.w0.heap.size → C.S0 b) := by
    intro b hb
    rw [hws]
    rcases hb with (hb | rfl) | rfl | ⟨id, B, hB, rfl⟩
    · exact ⟨by have := hfl b hb; omega, (hR.fpok b hb).2⟩
    · exact ⟨by simp only [D]; omega, fun h => by simp only [D] at h; omega⟩
    · exact ⟨by simp only [l]; omega, fun h => by simp only [l] at h; omega⟩
    · exact ⟨by have := hml _ _ hB; omega, hR.own _ _ (hblk _ _ hB)⟩
  have hW1 : Agree C.S0 C.w0 W1 := ⟨hR.agree.os, hR.agree.tape, hR.agree.output, by rw [hws]; omega, fun b hb hs => by rw [hold b (by omega)]; exact hR.agree.block b hb hs⟩
  have hJ0 : J [] [] W1 fp1 := by
    refine ⟨h0, M, fun b => fp b ∨ b = D, hI0, ?_⟩
    refine { tmps := fun i x hx => hR.tmps i x (inT_lk htin i x hx), heap := ?_, inj := ?_, own := ?_, apart := ?_, outer := ?_, fpok := ?_, rc := hl, lX := ?_, lnew := ?_, foot := fun b => Iff.rfl }
    · exact fun id B hB => (hR.heap _ _ (hblk _ _ hB)).same (hold _ (hml _ _ hB))
    · exact fun id id' B B' hB hB' e => hR.inj _ _ _ _ (hblk _ _ hB) (hblk _ _ hB') e
    · exact fun id B hB => hR.own _ _ (hblk _ _ hB)
    · intro id B hB
      have := hml _ _ hB
      refine ⟨fun hf => ?_, fun e => by simp only [l] at e; omega⟩
      rcases hf with hf | hf
      · exact hR.apart _ _ (hblk _ _ hB) hf
      · simp only [D] at hf; omega
    · exact ⟨fp, hL w W1 fp hR.outer hfl (fun b hb => hold b (hfl b hb)), fun hf => Nat.lt_irrefl _ (hfl _ hf), hD, fun b => Iff.rfl⟩
    · intro b hb
      exact hfp1 b (.inl hb)
    · intro hf
      rcases hf with hf | hf
      · have := hfl _ hf; simp only [l] at this; omega
      · simp only [l, D] at hf; omega
    · show C.w0.heap.size ≤ l
      simp only [l]; omega
  have hts : ∀ pre c, pre ++ [c] <+: cs → underB (lsF T pre).1 c = false → Does C.P zt [U64 c] (J (lsF T pre).1 (lsF T pre).2) (fun v w' fp' => v = .bool (letB T c) ∧ J (lsF T pre).1 ((lsF T pre).2 ++ [c]) w' fp') fp1 W1 := by
    intro pre c hpx hu wy fpy ⟨h, M', fpX, hinvp, hJ⟩ hgr
    have hag : Agree C.S0 C.w0 wy := hW1.trans hgr.1 (fun i hi hl => (hfp1 i hi).2 hl)
    refine (htest D l a.tmps rc pre c h M' fpX wy fpy hpx hu hinvp hJ hag hR.frozen).mono fun v w' ⟨fp', g1, e, h', M2, fpX', q1, q2⟩ => ⟨fp', g1, e, h', M2, fpX', q1, q2⟩
  have hys : ∀ pre c, pre ++ [c] <+: cs → underB (lsF T pre).1 c = false → letB T c = true → Does C.P y [U64 c] (J (lsF T pre).1 ((lsF T pre).2 ++ [c]))
      (fun v w' fp' => v = .bool true ∧ J ((lsF T pre).1 ++ [c]) ((lsF T pre).2 ++ [c]) w' fp' ∨ v = .bool false ∧ Js ((lsF T pre).1 ++ [c]) ((lsF T pre).2 ++ [c]) w' fp') fp1 W1 := by
    intro pre c hpx hu hlb wy fpy ⟨h, M', fpX, hinvp, hJ⟩ hgr
    have hx : [U64 c].length = ps.size := by rw [hlen]; rfl
    have hag : Agree C.S0 C.w0 wy := hW1.trans hgr.1 (fun i hi hl => (hfp1 i hi).2 hl)
    have hfy : ∀ b, fpy b → b < C.w0.heap.size → C.S0 b := fun b hb hlt => (hfp1 b ((hgr.2 b hb).2 (by have := hW1.size; omega))).2 hlt
    have hrun := run_yield (P := C.P) (args := [U64 c].toArray) hJ.rc (by simpa using hx)
    refine ⟨{ target := .fn (.yield l) #[], args := [U64 c].toArray }, _, by simp [Deferred.ofValue, y], by simp only [invoke]; exact hrun, ?_⟩
    intro cf cs'
    have hpr := parT_run (M := M') (lo := lo) (ps.toList.zip [U64 c]) t a.tmps (fun q hq => by
      have := psOK_mem hps q.1 (List.of_mem_zip hq).1
      rw [hR.size]; exact this) hJ.tmps
    have htm : (ps.zip [U64 c].toArray).foldl (fun tmps (q : Nat × Value) => tmps.setIfInBounds q.1 q.2) a.tmps = (ps.toList.zip [U64 c]).foldl (fun tm q => tm.setIfInBounds q.1 q.2) a.tmps := by
      rw [← Array.foldl_toList]; simp
    let a' : Act := { tmps := (ps.toList.zip [U64 c]).foldl (fun tm q => tm.setIfInBounds q.1 q.2) a.tmps, defers := [] }
    have hI : RoundIn (C.marked D) lo t l wy fpy := ⟨hLm, (hJ.foot l).2 (.inr (.inl rfl)), hag, hfy, hJ.lnew, hlo⟩
    have hrel : Rel (roundC (C.marked D) lo a.tmps l rc .ready wy fpy (roundR (C.marked D) t a.tmps l rc wy fpy (Inv ((lsF T pre).1 ++ [c]) ((lsF T pre).2 ++ [c])) (Stop ((lsF T pre).1 ++ [c]) ((lsF T pre).2 ++ [c])))) M' (fun b => fpX b ∨ b = l) ⟨parT (ps.toList.zip [U64 c]) t, h, N⟩ a' wy := by
      refine { heap := hJ.heap, inj := hJ.inj, own := ?_, apart := ?_, agree := Agree.refl _ _, outer := ⟨fpX, hJ.outer, hJ.lX, hJ.rc, fun b => Iff.rfl⟩, fpok := ?_, size := ?_, frozen := hpr.2.1, tmps := hpr.2.2, defers := rfl }
      · exact fun id B hB _ => (hJ.foot _).2 (.inr (.inr ⟨id, B, hB, rfl⟩))
      · exact fun id B hB hf => hf.elim (hJ.apart _ _ hB).1 (hJ.apart _ _ hB).2
      · intro b hb
        have hb' : fpy b := (hJ.foot b).2 (hb.imp id .inl)
        exact ⟨(hgr.2 b hb').1, fun _ => hb'⟩
      · show a'.tmps.size = C.n.hi
        simp only [a']; rw [hpr.1, hR.size]
    obtain ⟨m, s, zz⟩ := hround D l a.tmps rc wy fpy pre c h hI hpx hu hlb hinvp M' _ a' wy hrel (cf :: cs')
    obtain ⟨v, w', rfl, fp', hg', hv⟩ := zz cf cs' rfl
    refine ⟨v, w', ⟨fp', hg', ?_⟩, ?_⟩
    · rcases hv with ⟨hv, hh⟩ | ⟨hv, hh⟩
      · exact .inl ⟨hv, hh⟩
      · exact .inr ⟨hv, hh⟩
    · have hfr : Frame.round l C.b.fn ((ps.zip [U64 c].toArray).foldl (fun tmps (q : Nat × Value) => tmps.setIfInBounds q.1 q.2) a.tmps) assign body .normal =
          (roundC (C.marked D) lo a.tmps l rc .ready wy fpy (roundR (C.marked D) t a.tmps l rc wy fpy (Inv ((lsF T pre).1 ++ [c]) ((lsF T pre).2 ++ [c])) (Stop ((lsF T pre).1 ++ [c]) ((lsF T pre).2 ++ [c])))).b.atR a' [.code assign, .beginRound, .code body] := by
        rw [htm]; simp [Frame.round, Frame.atR, roundC, Ctx.marked, a']
      exact hfr ▸ s
  have hcall := hit (.yield l) #[] #[] J Js W1 fp1 hJl hJsl hts hys hJ0 (fun b hb => (hfp1 b hb).1) (fun b hb hk => (hK b hk).2 ((hfp1 b hb).2 (hK b hk).1))
    ⟨hW1.os, hW1.tape, hW1.output, hW1.size, fun b hb hk => hW1.block b hb (fun hs => by
      have : K b := Classical.byContradiction hk
      exact (hK b this).2 hs)⟩
  obtain ⟨e, w', fr, ⟨v, rfl, fp', hgr, hend⟩, hsteps, _, hleave⟩ := hcall (C.b.atR { a with defers := [mark D] ++ a.defers } (.inRangeFunc l :: k) :: cs')
  have s2 := step_leave_returned (c := C.b.atR { a with defers := [mark D] ++ a.defers } (.inRangeFunc l :: k)) (cs := cs') hleave
  rw [finish_atR_inRangeFunc] at s2
  have hag : Agree C.S0 C.w0 w' := hW1.trans hgr.1 (fun i hi hl => (hfp1 i hi).2 hl)
  have key : ∀ (st : LoopState) (pd : Option Code) (h : List (Nat × Blk)) (M' : Loc) (fpX : Foot), st ≠ .busy → LoopJ (C.marked D) t a.tmps l rc st pd h M' fpX w' fp' →
      Run (C.marked D) ((pd.map Item.code).toList ++ k) ⟨t, h, N⟩ → ∃ m, Steps C.P (lone (C.b.atR a (.code (.rangeFunc g ps assign body) :: k)) cs' w) m ∧ C.Z cs' m := by
    intro st pd h M' fpX hst hJ hr
    obtain ⟨k1, k2, k3⟩ := hJ.record hLm (o := .loop { rc with state := .exhausted, pending := pd })
    have hrel : Rel (C.marked D) M' fpX ⟨t, h, N⟩ { a with defers := [mark D] ++ a.defers } (w'.putObj l (.loop { rc with state := .exhausted, pending := pd })) := by
      refine { heap := k1, inj := hJ.inj, own := hJ.own, apart := fun id B hB => (hJ.apart _ _ hB).1, agree := ?_, outer := k2, fpok := k3, size := hR.size, frozen := hR.frozen, tmps := hJ.tmps, defers := ?_ }
      · refine agree_putObj hag (fun h => ?_)
        have : C.w0.heap.size ≤ l := hJ.lnew
        exact absurd (show l < C.w0.heap.size from h) (by omega)
      · show [mark D] ++ a.defers = mark D :: C.ds
        rw [hR.defers]; rfl
    obtain ⟨m, s, zz⟩ := hr M' fpX _ _ hrel cs'
    have s3 := stepR_endRangeFunc (P := C.P) (b := C.b) (a := { a with defers := [mark D] ++ a.defers }) (k := k) (cs := cs') (run_endLoop (P := C.P) hJ.rc hst)
    exact ⟨m, .head s1 (Steps.trans hsteps (.head s2 (.head s3 s))), zz⟩
  rcases hend with ⟨h, M', fpX, hI, hJ⟩ | ⟨pre, c, hp1, hp2, hp3, cd, h, M', fpX, hS, hJ⟩
  · exact key .ready none h M' fpX (by simp) hJ (hdone D h hI)
  · exact key .done (some cd) h M' fpX (by simp) hJ (hstop D pre c cd h hp1 hp2 hp3 hS)
end Go.AM

namespace Go.Proofs.YtpfanhbkjajocaaDoor
open Go.AM

theorem lsS_le (T : Ts) (s : List (BitVec 64) × List (BitVec 64)) (c : BitVec 64) : s.1.length ≤ (lsS T s c).1.length := by
  unfold lsS
  by_cases h1 : underB s.1 c = true
  · simp [h1]
  · by_cases h2 : letB T c = true
    · simp [h1, h2]
    · simp [h1, h2]
theorem lsFold_le (T : Ts) : ∀ (cs : List (BitVec 64)) (s : List (BitVec 64) × List (BitVec 64)), s.1.length ≤ (cs.foldl (lsS T) s).1.length
  | [], s => Nat.le_refl _
  | c :: cs, s => Nat.le_trans (lsS_le T s c) (lsFold_le T cs _)

theorem lsGo_pre (T : Ts) (most : Int) (rest : List (BitVec 64)) : ∀ (pre : List (BitVec 64)) (s : List (BitVec 64) × List (BitVec 64)), ((pre.foldl (lsS T) s).1.length : Int) < most → lsGo T most (pre ++ rest) s.1 s.2 = lsGo T most rest (pre.foldl (lsS T) s).1 (pre.foldl (lsS T) s).2
  | [], s, _ => rfl
  | c :: pre, s, h => by
    have hle := lsFold_le T pre (lsS T s c)
    have ih := lsGo_pre T most rest pre (lsS T s c) h
    simp only [List.foldl_cons] at h ⊢
    rw [← ih]
    simp only [List.cons_append, lsGo]
    have hd : lsS T s c = if underB s.1 c then s else if letB T c then (s.1 ++ [c], s.2 ++ [c]) else (s.1, s.2 ++ [c]) := rfl
    by_cases h1 : underB s.1 c = true
    · simp [hd, h1]
    · by_cases h2 : letB T c = true
      · have hl : lsS T s c = (s.1 ++ [c], s.2 ++ [c]) := by simp [hd, h1, h2]
        rw [hl] at hle h ⊢
        have hne : ¬ (((s.1 ++ [c]).length : Nat) : Int) = most := fun e => by simp only at hle; omega
        simp only [h1, h2, if_neg hne]
        rfl
      · simp [hd, h1, h2]

theorem lsGo_grows (T : Ts) (most : Int) : ∀ (rest F A : List (BitVec 64)), F <+: (lsGo T most rest F A).1 ∧ A <+: (lsGo T most rest F A).2
  | [], F, A => ⟨List.prefix_refl _, List.prefix_refl _⟩
  | c :: rest, F, A => by
    simp only [lsGo]
    by_cases h1 : underB F c = true
    · rw [if_pos h1]; exact lsGo_grows T most rest F A
    · rw [if_neg h1]
      by_cases h2 : letB T c = true
      · rw [if_pos h2]
        by_cases h3 : (((F ++ [c]).length : Nat) : Int) = most
        · rw [if_pos h3]; exact ⟨List.prefix_append _ _, List.prefix_append _ _⟩
        · rw [if_neg h3]
          have := lsGo_grows T most rest (F ++ [c]) (A ++ [c])
          exact ⟨(List.prefix_append _ _).trans this.1, (List.prefix_append _ _).trans this.2⟩
      · rw [if_neg h2]
        have := lsGo_grows T most rest F (A ++ [c])
        exact ⟨this.1, (List.prefix_append _ _).trans this.2⟩

/-- A found one, in what the reference keeps. -/
theorem lsGo_at (T : Ts) (most : Int) {cs pre : List (BitVec 64)} {c : BitVec 64} (hp : pre ++ [c] <+: cs) (hl : ((lsF T pre).1.length : Int) < most) (hu : underB (lsF T pre).1 c = false) (hb : letB T c = true) :
    (lsF T pre).1 ++ [c] <+: (lsGo T most cs [] []).1 ∧ (lsF T pre).2 ++ [c] <+: (lsGo T most cs [] []).2 ∧
      ((((lsF T pre).1 ++ [c]).length : Int) = most → (lsGo T most cs [] []).1 = (lsF T pre).1 ++ [c] ∧ (lsGo T most cs [] []).2 = (lsF T pre).2 ++ [c]) := by
  obtain ⟨rest, rfl⟩ := hp
  have h := lsGo_pre T most ([c] ++ rest) pre ([], []) hl
  rw [show pre ++ ([c] ++ rest) = pre ++ [c] ++ rest by simp] at h
  rw [h]
  show (lsF T pre).1 ++ [c] <+: (lsGo T most (c :: rest) (lsF T pre).1 (lsF T pre).2).1 ∧ (lsF T pre).2 ++ [c] <+: (lsGo T most (c :: rest) (lsF T pre).1 (lsF T pre).2).2 ∧
      ((((lsF T pre).1 ++ [c]).length : Int) = most → (lsGo T most (c :: rest) (lsF T pre).1 (lsF T pre).2).1 = (lsF T pre).1 ++ [c] ∧ (lsGo T most (c :: rest) (lsF T pre).1 (lsF T pre).2).2 = (lsF T pre).2 ++ [c])
  simp only [lsGo, hu, hb, if_true, Bool.false_eq_true, if_false]
  by_cases h3 : ((((lsF T pre).1 ++ [c]).length : Nat) : Int) = most
  · simp only [if_pos h3]
    exact ⟨List.prefix_refl _, List.prefix_refl _, fun _ => by simp⟩
  · simp only [if_neg h3]
    have := lsGo_grows T most rest ((lsF T pre).1 ++ [c]) ((lsF T pre).2 ++ [c])
    exact ⟨this.1, this.2, fun e => absurd e h3⟩

theorem lsGo_end (T : Ts) (most : Int) {cs : List (BitVec 64)} (hl : ((lsF T cs).1.length : Int) < most) : lsGo T most cs [] [] = lsF T cs := by
  have h := lsGo_pre T most [] cs ([], []) hl
  rw [List.append_nil] at h
  exact h
end Go.Proofs.YtpfanhbkjajocaaDoor

/-
  The test, asked between the rounds. Own work.
-/
namespace Go.AM

/-- Some of a range's blocks are turned between its rounds. -/
theorem LoopJ.turn {C : Ctx} {t : List (Nat × AV)} {a0 : Array Value} {l : Nat} {rc : Loop} {st : LoopState} {pd : Option Code} {h h' : List (Nat × Blk)} {M M2 : Loc} {fpX fp S : Foot} {w w' : World} (hL : Local C.X) (hJ : LoopJ C t a0 l rc st pd h M fpX w fp)
    (hag : Agree S w w') (hS : ∀ b, S b → ∃ id B, lk h id = some B ∧ (M id).1 = b)
    (hnew : ∀ id B, lk h' id = some B → BlkAt M2 w' id B ∧ ((M2 id).1 < w.heap.size → ∃ id0 B0, lk h id0 = some B0 ∧ (M id0).1 = (M2 id).1))
    (hinj : ∀ id id' B B', lk h' id = some B → lk h' id' = some B' → (M2 id).1 = (M2 id').1 → id = id') (ht : ∀ i x, lk t i = some x → conc M2 x = conc M x) :
    ∃ fp', Grown fp w fp' w' ∧ LoopJ C t a0 l rc st pd h' M2 fpX w' fp' := by
  have hlt : l < w.heap.size := (Array.getElem?_eq_some_iff.1 hJ.rc).1
  have hSl : ¬ S l := fun hs => by obtain ⟨id, B, h1, h2⟩ := hS l hs; exact (hJ.apart id B h1).2 h2
  have hSX : ∀ b, fpX b → ¬ S b := fun b hb hs => by obtain ⟨id, B, h1, h2⟩ := hS b hs; exact (hJ.apart id B h1).1 (h2 ▸ hb)
  have hSf : ∀ b, S b → fp b := fun b hs => by obtain ⟨id, B, h1, h2⟩ := hS b hs; exact (hJ.foot b).2 (.inr (.inr ⟨id, B, h1, h2⟩))
  have hXs : ∀ b, fpX b → w'.heap[b]? = w.heap[b]? := fun b hb => hag.block b (hJ.fpok b hb).1 (hSX b hb)
  have hw0 : C.w0.heap.size ≤ w.heap.size := Nat.le_of_lt (Nat.lt_of_le_of_lt hJ.lnew hlt)
  refine ⟨fun b => fpX b ∨ b = l ∨ ∃ id B, lk h' id = some B ∧ (M2 id).1 = b, ⟨⟨hag.os, hag.tape, hag.output, hag.size, fun b hb hs => hag.block b hb (fun h => hs (hSf b h))⟩, ?_⟩, ?_⟩
  · rintro b (hb | rfl | ⟨id, B, hB, rfl⟩)
    · exact ⟨Nat.lt_of_lt_of_le (hJ.fpok b hb).1 hag.size, fun _ => (hJ.foot b).2 (.inl hb)⟩
    · exact ⟨Nat.lt_of_lt_of_le hlt hag.size, fun _ => (hJ.foot _).2 (.inr (.inl rfl))⟩
    · obtain ⟨h1, h2⟩ := hnew id B hB
      exact ⟨h1.lt, fun hl => by obtain ⟨id0, B0, q1, q2⟩ := h2 hl; exact (hJ.foot _).2 (.inr (.inr ⟨id0, B0, q1, q2⟩))⟩
  · refine { tmps := fun i x hx => by rw [ht i x hx]; exact hJ.tmps i x hx, heap := fun id B hB => (hnew id B hB).1, inj := hinj, own := ?_, apart := ?_, outer := ?_, fpok := ?_, rc := ?_, lX := hJ.lX, lnew := hJ.lnew, foot := fun b => Iff.rfl }
    · intro id B hB hl
      obtain ⟨id0, B0, q1, q2⟩ := (hnew id B hB).2 (Nat.lt_of_lt_of_le hl hw0)
      rw [← q2] at hl ⊢
      exact hJ.own id0 B0 q1 hl
    · intro id B hB
      refine ⟨fun hf => ?_, fun e => ?_⟩
      · obtain ⟨id0, B0, q1, q2⟩ := (hnew id B hB).2 (hJ.fpok _ hf).1
        exact (hJ.apart id0 B0 q1).1 (q2 ▸ hf)
      · obtain ⟨id0, B0, q1, q2⟩ := (hnew id B hB).2 (e ▸ hlt)
        exact (hJ.apart id0 B0 q1).2 (q2.trans e)
    · exact hL w w' fpX hJ.outer (fun b hb => (hJ.fpok b hb).1) hXs
    · exact fun b hb => ⟨Nat.lt_of_lt_of_le (hJ.fpok b hb).1 hag.size, (hJ.fpok b hb).2⟩
    · rw [hag.block l hlt hSl]; exact hJ.rc
end Go.AM

namespace Go.Proofs.YtpfanhbkjajocaaDoor
open Go.AM
set_option maxRecDepth 100000

/-- What stands while the test asks. -/
def kB (m : Int) (W B : List (BitVec 64)) (n : Nat) : List (Nat × Blk) :=
  (1, .cells 4 [.one (.tt false)]) :: (3, .cells 3 [.one (.v (.int .i64 m))]) :: (14, .cells 43 [.one (uZ 12 W)]) :: (15, .cells 3 [.one (.v (.int .i64 (n : Int)))]) :: (uBk 12 W ++ uBk 13 B)
def aB (A : List (BitVec 64)) : List (Nat × Blk) := (2, .cells 43 [.one (uZ 10 A)]) :: uBk 10 A
def mB (m : Int) (W B : List (BitVec 64)) (n : Nat) (A : List (BitVec 64)) : List (Nat × Blk) := kB m W B n ++ aB A

theorem kB_ids {m : Int} {W B : List (BitVec 64)} {n id : Nat} {K : Blk} (h : lk (kB m W B n) id = some K) : id ≠ 2 ∧ id ≠ 10 := by
  refine ⟨?_, ?_⟩ <;> (rintro rfl; cases W <;> cases B <;> cases h)
theorem aB_ids {A : List (BitVec 64)} {id : Nat} {K : Blk} (h : lk (aB A) id = some K) : id = 2 ∨ id = 10 := by
  cases A with
  | nil =>
    simp only [aB, uBk, lk] at h
    split at h
    · rename_i he; exact .inl (Nat.eq_of_beq_eq_true he)
    · cases h
  | cons a A =>
    simp only [aB, uBk, lk] at h
    split at h
    · rename_i he; exact .inl (Nat.eq_of_beq_eq_true he)
    · split at h
      · rename_i he; exact .inr (Nat.eq_of_beq_eq_true he)
      · cases h
theorem mB_lk (m : Int) (W B : List (BitVec 64)) (n : Nat) (A : List (BitVec 64)) (id : Nat) (K : Blk) : lk (mB m W B n A) id = some K ↔ lk (kB m W B n) id = some K ∨ lk (aB A) id = some K := by
  unfold mB
  rw [lkA]
  constructor
  · intro h
    split at h
    · rename_i hx; exact .inl (by rw [hx, h])
    · exact .inr h
  · rintro (h | h)
    · rw [h]
    · have hn : lk (kB m W B n) id = none := by
        rcases hq : lk (kB m W B n) id with _ | K'
        · rfl
        · have := kB_ids hq
          rcases aB_ids h with e | e
          · exact absurd e this.1
          · exact absurd e this.2
      rw [hn]; exact h

theorem same_cells {M : AM.Loc} {w w' : World} {id : Nat} {B : Blk} (h : BlkAt M w id B) {S : Foot} (hag : Agree S w w') (hs : ¬ S (M id).1) : BlkAt M w' id B := h.same (hag.block _ h.lt hs)

/-- Less than all of what locates matters. -/
theorem kB_at {M M2 : AM.Loc} (hM : ∀ i, i ≠ 2 → i ≠ 10 → M2 i = M i) {m : Int} {W B : List (BitVec 64)} {n id : Nat} {K : Blk} (h : lk (kB m W B n) id = some K) {w : World} (hb : BlkAt M w id K) : BlkAt M2 w id K := by
  have h12 : M2 12 = M 12 := hM 12 (by decide) (by decide)
  have hid := kB_ids h
  have hi : M2 id = M id := hM id hid.1 hid.2
  cases K with
  | row e sz n vs => obtain ⟨h1, cur, h2, h3⟩ := hb; exact ⟨h1, cur, by rw [hi]; exact h2, by rw [hi]; exact h3⟩
  | cells e segs =>
    refine ⟨?_, hb.2⟩
    rw [hi]
    have : concSegs M2 segs = concSegs M segs := by
      rcases W with _ | ⟨w0, W⟩
      · rcases B with _ | ⟨b0, B⟩ <;>
        · simp only [kB, uBk, uZ, lk, List.nil_append, List.append_nil] at h
          (repeat' split at h) <;> first | (cases h; simp [concSegs, conc]) | cases h
      · rcases B with _ | ⟨b0, B⟩ <;>
        · simp only [kB, uBk, uZ, lk, List.nil_append, List.append_nil, List.cons_append] at h
          (repeat' split at h) <;> first | (cases h; simp [concSegs, conc, h12]) | cases h
    rw [this]; exact hb.1

theorem test_enters : Enters Tryd.prog 37 := enters_mk Tryd.func37 (by decide) rfl

set_option maxHeartbeats 1000000 in
theorem askJ {C : Ctx} (hP : C.P = Tryd.prog) (hL : Local C.X) {t : List (Nat × AV)} {a0 : Array Value} {l : Nat} {rc : Loop} {m : Int} {W B A : List (BitVec 64)} {n : Nat} {M : AM.Loc} {fpX fp : Foot} {w : World}
    (hJ : LoopJ C t a0 l rc .ready none (mB m W B n A) M fpX w fp) (hA : A.length < 1099511627776) (T : Ts) (c : BitVec 64) (bt pa : Nat) (hw : SeesT w T) (htv : ∀ j v, (tsV T)[j]? = some v → w.cell? ((⟨bt, 0, none⟩ : Addr).add j) = some v)
    (hpa : (M 2).1 = pa) (hbt : bt < C.w0.heap.size ∧ ¬ C.S0 bt) (hup : ∀ a, T.p1 = some a → a.block < C.w0.heap.size ∧ ¬ C.S0 a.block) (hth : ∀ a, T.p2 = some a → a.block < C.w0.heap.size ∧ ¬ C.S0 a.block)
    (ht : ∀ M2 : AM.Loc, (M2 2).1 = (M 2).1 → (∀ i, i ≠ 2 → i ≠ 10 → M2 i = M i) → ∀ i x, lk t i = some x → conc M2 x = conc M x) :
    CallsV C.P (.func (.func 37) #[] #[.pointer (some ⟨pa, 0, none⟩), .pointer (some ⟨bt, 0, none⟩)]) [U64 c] w fun v w' => ∃ fp', Grown fp w fp' w' ∧ v = .bool (letB T c) ∧ ∃ M' fpX', LoopJ C t a0 l rc .ready none (mB m W B n (A ++ [c])) M' fpX' w' fp' := by
  subst hpa
  rw [hP]
  let M1 : AM.Loc := fun i => if i = 0 then M 2 else M 10
  have ha : ∀ id K, lk (askB A) id = some K → ∃ id2 K2, lk (aB A) id2 = some K2 ∧ M id2 = M1 id := fun id K h => by
    cases A with
    | nil =>
      simp only [askB, uBk, lk] at h
      split at h
      · rename_i he; have := Nat.eq_of_beq_eq_true he; subst this; exact ⟨2, _, rfl, rfl⟩
      · cases h
    | cons a A =>
      simp only [askB, uBk, lk] at h
      split at h
      · rename_i he; have := Nat.eq_of_beq_eq_true he; subst this; exact ⟨2, _, rfl, rfl⟩
      · split at h
        · rename_i he; have := Nat.eq_of_beq_eq_true he; subst this; exact ⟨10, _, rfl, rfl⟩
        · cases h
  have hown : ∀ b, b < C.w0.heap.size ∧ ¬ C.S0 b → ¬ footH M1 (fun _ => False) (askB A) b := fun b hb hf => by
    rcases hf with hf | ⟨id, K, h1, h2⟩
    · exact hf
    · obtain ⟨id2, K2, q1, q2⟩ := ha id K h1
      rw [← q2] at h2
      subst h2
      exact hb.2 (hJ.own id2 K2 ((mB_lk ..).2 (.inr q1)) hb.1)
  have hblk : ∀ id K, lk (askB A) id = some K → BlkAt M1 w id K := fun id K h => by
    have h2 := hJ.heap 2 _ ((mB_lk m W B n A 2 _).2 (.inr rfl))
    cases A with
    | nil =>
      simp only [askB, uBk, lk] at h
      split at h
      · rename_i he; have := Nat.eq_of_beq_eq_true he; subst this; cases h; exact h2
      · cases h
    | cons a A =>
      have h10 := hJ.heap 10 _ ((mB_lk m W B n (a :: A) 10 _).2 (.inr rfl))
      simp only [askB, uBk, lk] at h
      split at h
      · rename_i he; have := Nat.eq_of_beq_eq_true he; subst this; cases h; exact h2
      · split at h
        · rename_i he; have := Nat.eq_of_beq_eq_true he; subst this; cases h; exact h10
        · cases h
  have hi1 : ∀ id id' K K', lk (askB A) id = some K → lk (askB A) id' = some K' → (M1 id).1 = (M1 id').1 → id = id' := fun id id' K K' h h' e => by
    cases A with
    | nil =>
      have hc : ∀ {id K}, lk (askB []) id = some K → id = 0 := fun {id K} h => by
        simp only [askB, uBk, lk] at h
        split at h
        · rename_i he; exact Nat.eq_of_beq_eq_true he
        · cases h
      exact (hc h).trans (hc h').symm
    | cons a A =>
      have h2 : lk (mB m W B n (a :: A)) 2 = some _ := (mB_lk m W B n (a :: A) 2 _).2 (.inr rfl)
      have h10 : lk (mB m W B n (a :: A)) 10 = some _ := (mB_lk m W B n (a :: A) 10 _).2 (.inr rfl)
      have hne : (M 2).1 ≠ (M 10).1 := fun e => by have := hJ.inj _ _ _ _ h2 h10 e; omega
      have hc : ∀ {id K}, lk (askB (a :: A)) id = some K → id = 0 ∨ id = 1 := fun {id K} h => by
        simp only [askB, uBk, lk] at h
        split at h
        · rename_i he; exact .inl (Nat.eq_of_beq_eq_true he)
        · split at h
          · rename_i he; exact .inr (Nat.eq_of_beq_eq_true he)
          · cases h
      rcases hc h with rfl | rfl <;> rcases hc h' with rfl | rfl
      · rfl
      · exact absurd e hne
      · exact absurd e.symm hne
      · rfl
  have hg := test_ok T c bt A hA M1 w hw htv hblk hi1 (hown bt hbt) (fun a h => hown _ (hup a h)) (fun a h => hown _ (hth a h))
  refine CallsV.of_gives (caps := [.pointer (some ⟨(M 2).1, 0, none⟩), .pointer (some ⟨bt, 0, none⟩)]) test_enters ?_
  refine Calls.mono' hg fun _ w' ⟨v, h1, hv, hag, M', e0, hb', hlt, hne⟩ => ⟨v, h1, ?_⟩
  let M2 : AM.Loc := fun i => if i = 2 then M' 0 else if i = 10 then M' 1 else M i
  have hM2 : ∀ i, i ≠ 2 → i ≠ 10 → M2 i = M i := fun i h2 h10 => by simp only [M2, if_neg h2, if_neg h10]
  have e22 : M2 2 = M' 0 := rfl
  have e210 : M2 10 = M' 1 := rfl
  have hfoot : ∀ b, footH M1 (fun _ => False) (askB A) b → ∃ id K, lk (mB m W B n A) id = some K ∧ (M id).1 = b ∧ (id = 2 ∨ id = 10) := fun b hb => by
    rcases hb with hf | ⟨id, K, q1, q2⟩
    · exact hf.elim
    · obtain ⟨id2, K2, q3, q4⟩ := ha id K q1
      exact ⟨id2, K2, (mB_lk ..).2 (.inr q3), by rw [q4]; exact q2, aB_ids q3⟩
  have hkeep : ∀ id K, lk (kB m W B n) id = some K → ¬ footH M1 (fun _ => False) (askB A) (M id).1 := fun id K h hf => by
    obtain ⟨id2, K2, q1, q2, q3⟩ := hfoot _ hf
    have := hJ.inj _ _ _ _ q1 ((mB_lk m W B n A id K).2 (.inl h)) q2
    subst this
    have := kB_ids h
    rcases q3 with e | e
    · exact this.1 e
    · exact this.2 e
  have h0 := hb' 0 _ rfl
  have h1' : BlkAt M' w' 1 (.row 22 1 (A.length + 1) (encU (A ++ [c]))) := hb' 1 _ (by unfold askB; rw [uBk_app]; rfl)
  have hnew : ∀ id K, lk (mB m W B n (A ++ [c])) id = some K → BlkAt M2 w' id K ∧ ((M2 id).1 < w.heap.size → ∃ id0 B0, lk (mB m W B n A) id0 = some B0 ∧ (M id0).1 = (M2 id).1) := fun id K hh => by
    rcases (mB_lk ..).1 hh with h | h <;> clear hh
    · have hid := kB_ids h
      have hb := hJ.heap id K ((mB_lk m W B n A id K).2 (.inl h))
      refine ⟨kB_at hM2 h (same_cells hb hag (hkeep id K h)), fun _ => ⟨id, K, (mB_lk ..).2 (.inl h), by rw [hM2 id hid.1 hid.2]⟩⟩
    · have haB : aB (A ++ [c]) = [(2, .cells 43 [.one (.sl 10 1 0 (A.length + 1))]), (10, .row 22 1 (A.length + 1) (encU (A ++ [c])))] := by unfold aB; rw [uZ_app, uBk_app]
      rw [haB] at h
      simp only [lk] at h
      split at h
      · rename_i he; have := Nat.eq_of_beq_eq_true he; subst this; cases h
        refine ⟨?_, fun _ => ⟨2, _, (mB_lk m W B n A 2 _).2 (.inr rfl), by rw [e22, e0]; rfl⟩⟩
        rw [uZ_app] at h0
        exact ⟨by simpa [M2, conc, concSegs] using h0.1, h0.2⟩
      · split at h
        · rename_i he; have := Nat.eq_of_beq_eq_true he; subst this; cases h
          refine ⟨h1', fun hl => ?_⟩
          obtain ⟨id2, K2, q1, q2, _⟩ := hfoot _ (hlt hl)
          exact ⟨id2, K2, q1, q2⟩
        · cases h
  have hinj : ∀ id id' K K', lk (mB m W B n (A ++ [c])) id = some K → lk (mB m W B n (A ++ [c])) id' = some K' → (M2 id).1 = (M2 id').1 → id = id' := by
    have hka : ∀ id id' K K', lk (kB m W B n) id = some K → lk (aB (A ++ [c])) id' = some K' → (M2 id).1 ≠ (M2 id').1 := fun id id' K K' h h' e => by
      have hid := kB_ids h
      rw [hM2 id hid.1 hid.2] at e
      have hlk := (mB_lk m W B n A id K).2 (.inl h)
      have hlt' := (hJ.heap id K hlk).lt
      rcases aB_ids h' with rfl | rfl
      · rw [e22, e0] at e
        have := hJ.inj _ _ _ _ hlk ((mB_lk m W B n A 2 _).2 (.inr rfl)) e
        exact hid.1 this
      · rw [e210] at e
        rw [e] at hlt'
        exact hkeep id K h (e ▸ hlt hlt')
    intro id id' K K' h h' e
    rcases (mB_lk ..).1 h with h | h <;> rcases (mB_lk ..).1 h' with h' | h'
    · have hid := kB_ids h
      have hid' := kB_ids h'
      rw [hM2 id hid.1 hid.2, hM2 id' hid'.1 hid'.2] at e
      exact hJ.inj _ _ _ _ ((mB_lk m W B n A id K).2 (.inl h)) ((mB_lk m W B n A id' K').2 (.inl h')) e
    · exact absurd e (hka _ _ _ _ h h')
    · exact absurd e.symm (hka _ _ _ _ h' h)
    · rcases aB_ids h with rfl | rfl <;> rcases aB_ids h' with rfl | rfl
      · rfl
      · exact absurd e.symm hne
      · exact absurd e hne
      · rfl
  obtain ⟨fp', g1, g2⟩ := hJ.turn (M2 := M2) hL hag (fun b hb => by obtain ⟨id, K, q1, q2, _⟩ := hfoot b hb; exact ⟨id, K, q1, q2⟩) hnew hinj (ht M2 (by rw [e22, e0]; rfl) hM2)
  exact ⟨fp', g1, hv, M2, fpX, g2⟩
end Go.Proofs.YtpfanhbkjajocaaDoor

/-
  Least as an iterator: the walk. Own work.
-/
namespace Go.Proofs.YtpfanhbkjajocaaDoor
open Go.AM
set_option maxRecDepth 100000

theorem pre_of {n k j : Nat} {cl : Nat → List (BitVec 64)} (hk : k < n) (hj : j < (cl k).length) : ((List.range k).flatMap cl ++ (cl k).take j) ++ [(cl k)[j]] <+: (List.range n).flatMap cl := by
  have h1 : (List.range (k + 1)).flatMap cl <+: (List.range n).flatMap cl := by
    have : List.range (k + 1) <+: List.range n := by
      have h := List.take_range (i := k + 1) (n := n)
      rw [Nat.min_eq_left (by omega)] at h
      exact h ▸ List.take_prefix _ _
    obtain ⟨t, ht⟩ := this
    exact ⟨t.flatMap cl, by rw [← List.flatMap_append, ht]⟩
  refine List.IsPrefix.trans ?_ h1
  rw [List.range_succ, List.flatMap_append, List.append_assoc]
  refine (List.prefix_append_right_inj _).2 ?_
  rw [← List.take_succ_eq_append_getElem hj]
  simp [List.take_prefix]

theorem len_of {k : Nat} {cl : Nat → List (BitVec 64)} (h : ∀ k, (cl k).length ≤ 1024) : ((List.range k).flatMap cl).length ≤ 1024 * k := by
  induction k with
  | zero => simp
  | succ k ih =>
    rw [List.range_succ, List.flatMap_append, List.length_append]
    have := h k
    simp at *
    omega

theorem seesU_rowS {M : AM.Loc} {w : World} {id e n : Nat} {l : List (BitVec 64)} (hb : BlkAt M w id (.row e 1 n (encU l))) : SeesU w (some ⟨(M id).1, 0, none⟩) l := by
  intro i hi
  have := row_cells hb i (.int .u64 (un l[i])) (by simp [encU, hi])
  refine ⟨rfl, ?_⟩
  rw [Option.getD_some, Addr.add_lit]
  exact this

theorem LB_in (y : Value) (F : List (BitVec 64)) : inT (LB y F) (LB y F) := by
  cases F with
  | nil => exact ⟨rfl, rfl, trivial⟩
  | cons f F => exact ⟨rfl, rfl, rfl, trivial⟩

theorem LB_inH (y : Value) (F : List (BitVec 64)) : inHR [] (LB y F) (LB y F) := by
  cases F with
  | nil => exact ⟨rfl, rfl, trivial⟩
  | cons f F => exact ⟨rfl, rfl, rfl, trivial⟩
theorem LB_apart (y : Value) (F : List (BitVec 64)) : AM.apart [] (keys (LB y F)) = true := by
  cases F <;> rfl

def xsR (J Js : List (BitVec 64) → List (BitVec 64) → Res) (s : Bool × List (BitVec 64) × List (BitVec 64)) : Res := match s.1 with | true => Js s.2.1 s.2.2 | false => J s.2.1 s.2.2

set_option maxHeartbeats 2000000 in
theorem least_iter (T : Ts) (x : BitVec 64) (bs bt : Nat) (g1 : Fn) (a1 b1 : Array Value) (w0 : World) (hb : WordAt w0 bs x) (hbt : w0.cell? ⟨bt, 0, none⟩ = some (.func g1 a1 b1)) (hT : TabAt w0) (hs0 : 0 < w0.heap.size) (cl : Nat → List (BitVec 64)) (hcl : ∀ k : Nat, Chosen x (k : Int) (cl k)) (hx : (bitsL x).length ≤ 10) :
    IterT Tryd.prog 68 [.pointer (some ⟨bs, 0, none⟩), .pointer (some ⟨bt, 0, none⟩)] (leastK bs bt) w0 (.func g1 a1 b1) T ((List.range ((bitsL x).length + 1)).flatMap cl) := by
  intro g a b J Js w fp hJ hJs htest hyield h0J hfp hK hag
  have hlen : ∀ k, (cl k).length ≤ 1024 := fun k => by
    have h1 := chosen_len (hcl k)
    have h2 : 2 ^ (bitsL x).length ≤ 2 ^ 10 := Nat.pow_le_pow_right (by omega) hx
    omega
  have hbw : w.cell? ⟨bs, 0, none⟩ = some (.int .u64 (un x)) := hag.cell hb (fun h => h (.inr (.inl rfl)))
  have hcw : w.cell? ⟨bt, 0, none⟩ = some (.func g1 a1 b1) := hag.cell hbt (fun h => h (.inr (.inr rfl)))
  have hTw : TabAt w := hT.agree hag (fun h => h (.inl rfl))
  have hf0 : ¬ fp 0 := fun h => hK 0 h (.inl rfl)
  have hfb : ¬ fp bs := fun h => hK bs h (.inr (.inl rfl))
  have hfc : ¬ fp bt := fun h => hK bt h (.inr (.inr rfl))
  have hres : (Tryd.f68).results = #[] := rfl
  have hsz := fun w' => size_ok x w'
  refine givesX_of_run (S0 := fp) (X := J [] []) Tryd.func68 rfl (by show 3 ≤ 35; decide) h0J (fun b hb => ⟨hfp b hb, fun _ => hb⟩) ?_
  generalize (bitsL x).length = n at *
  have hRd : ∀ (w' : World) (fp' : Foot), Grown fp w fp' w' → (J (lsF T ((List.range (n + 1)).flatMap cl)).1 (lsF T ((List.range (n + 1)).flatMap cl)).2 w' fp' ∨ ∃ pre c, pre ++ [c] <+: (List.range (n + 1)).flatMap cl ∧ underB (lsF T pre).1 c = false ∧ letB T c = true ∧ Js ((lsF T pre).1 ++ [c]) ((lsF T pre).2 ++ [c]) w' fp') →
    ∃ fp', Grown fp w fp' w' ∧ (J (lsF T ((List.range (n + 1)).flatMap cl)).1 (lsF T ((List.range (n + 1)).flatMap cl)).2 w' fp' ∨ ∃ pre c, pre ++ [c] <+: (List.range (n + 1)).flatMap cl ∧ underB (lsF T pre).1 c = false ∧ letB T c = true ∧ Js ((lsF T pre).1 ++ [c]) ((lsF T pre).2 ++ [c]) w' fp') := fun w' fp' h1 h2 => ⟨fp', h1, h2⟩
  generalize hRe : (fun (_ : Value) (w' : World) => ∃ fp', Grown fp w fp' w' ∧ (J (lsF T ((List.range (n + 1)).flatMap cl)).1 (lsF T ((List.range (n + 1)).flatMap cl)).2 w' fp' ∨ ∃ pre c, pre ++ [c] <+: (List.range (n + 1)).flatMap cl ∧ underB (lsF T pre).1 c = false ∧ letB T c = true ∧ Js ((lsF T pre).1 ++ [c]) ((lsF T pre).2 ++ [c]) w' fp')) = R
  have hR : ∀ (v : Value) (w' : World) (fp' : Foot), Grown fp w fp' w' → (J (lsF T ((List.range (n + 1)).flatMap cl)).1 (lsF T ((List.range (n + 1)).flatMap cl)).2 w' fp' ∨ ∃ pre c, pre ++ [c] <+: (List.range (n + 1)).flatMap cl ∧ underB (lsF T pre).1 c = false ∧ letB T c = true ∧ Js ((lsF T pre).1 ++ [c]) ((lsF T pre).2 ++ [c]) w' fp') → R v w' := fun v w' fp' h1 h2 => by
    rw [← hRe]; exact hRd w' fp' h1 h2
  clear hRd hRe
  refine RunF_sound tab_ok (hJ [] []) 100 [] _ _ rfl ?_ ?_
  · simp only [fnC_w0, fnC_S0, hbw]
    simp [okCell, argsT.ofConst', ofConst, Value.oneCell', hfb]
  simp only [fnC_w0, hbw]
  refine Run.callFn (r := .int .i64 (n : Int)) (hJ [] []) rfl rfl rfl rfl rfl rfl rfl size_enters rfl (fun w' _ => hsz w') ?_
  refine RunF_sound tab_ok (hJ [] []) 100 [] _ _ rfl ?_ ?_
  · simp
  suffices H : ∀ (d k : Nat), k + d = n + 1 → ∀ (w1 : World) (S1 : Foot) (Ds : List Nat), Base fp w S1 w1 → ∀ σ, inT σ.t [(0, .v (.func g a b)), (1, .v (.pointer (some ⟨bs, 0, none⟩))), (2, .v (.pointer (some ⟨bt, 0, none⟩))), (3, .ptr 0 0), (4, .ptr 1 0), (9, .v (.int .i64 ((n + 1 : Nat) : Int))), (10, .v (.int .i64 (k : Int)))] →
      inT σ.h (LB (.func g a b) (lsF T ((List.range k).flatMap cl)).1) → Run (opM Tryd.prog 68 0 (Tryd.f68).ntmps #[] w1 S1 (J (lsF T ((List.range k).flatMap cl)).1 (lsF T ((List.range k).flatMap cl)).2) R Ds) _ σ by
    exact H (n + 1) 0 (by omega) w fp [] (Base.refl fp w) _ ⟨rfl, rfl, rfl, rfl, rfl, i64_eq (wrap_succ (by omega)), rfl, trivial⟩ ⟨rfl, rfl, trivial⟩
  intro d
  induction d with
  | zero =>
    intro k hk w1 S1 Ds hB σ ht hh
    obtain rfl : k = n + 1 := by omega
    refine Run.to (h' := []) ?_ ht trivial (n' := 0)
    refine RunF_sound tab_ok (marksX_local (hJ _ _) Ds) 100 [false] _ _ rfl ?_ ?_
    · simp
    exact Run.finIM tab_ok (hJ _ _) Tryd.func68 hres fun v w' fp' hg hX => hR v w' fp' (hB.grown hg) (.inl hX)
  | succ d ih =>
    intro k hk w1 S1 Ds hB σ ht hh
    have hb1 : w1.cell? ⟨bs, 0, none⟩ = some (.int .u64 (un x)) := hB.agree.cell hbw hfb
    have hT1 : TabAt w1 := hTw.agree hB.agree hf0
    have hc1 : w1.cell? ⟨bt, 0, none⟩ = some (.func g1 a1 b1) := hB.agree.cell hcw hfc
    have hS1b : ¬ S1 bs := fun h => hfb (hB.old _ h (World.block_lt_of_cell? w _ hbw))
    have hS1c : ¬ S1 bt := fun h => hfc (hB.old _ h (World.block_lt_of_cell? w _ hcw))
    have hS10 : ¬ S1 0 := fun h => hf0 (hB.old _ h (World.block_lt_of_cell? w _ (hTw 0 (by decide))))
    refine Run.to ?_ ht hh (n' := 3)
    refine RunF_sound tab_ok (marksX_local (hJ _ _) Ds) 100 [true] _ _ rfl ?_ ?_
    · simp only [fnC_w0, fnC_S0, hb1]
      simp [hS1b]
      omega
    simp only [fnC_w0, hb1]
    refine Run.callR (marksX_local (hJ _ _) Ds) rfl rfl rfl rfl rfl rfl mkChoose_enters rfl (fun M w' _ _ => makeChoose_ok x k w') ?_
    rintro v w2 w3 S3 hag2 hag3 ⟨bb, cc, rfl, hbl, hcl', hW, hC⟩ hS3
    have hB3 := hB.call hag2 hag3 hS3
    refine ⟨.v (.func (.func 66) #[] #[.pointer (some ⟨bb, 0, none⟩), .pointer (some ⟨cc, 0, none⟩)]), fun M => rfl, ?_⟩
    have hl1 : ∀ {b v}, w1.cell? ⟨b, 0, none⟩ = some v → b < w1.heap.size := fun {b v} h => World.block_lt_of_cell? w1 _ h
    have h01 : 0 < w1.heap.size := World.block_lt_of_cell? w1 _ (hT1 0 (by decide))
    have hS3b : ¬ S3 bs := hS3.old bs (hl1 hb1) hS1b
    have hS3c : ¬ S3 bt := hS3.old bt (hl1 hc1) hS1c
    have hS30 : ¬ S3 0 := hS3.old 0 h01 hS10
    have hS3bb : ¬ S3 bb := hS3.new bb hbl
    have hS3cc : ¬ S3 cc := hS3.new cc hcl'
    have hb3 : w3.cell? ⟨bs, 0, none⟩ = some (.int .u64 (un x)) := hag3.cell (hag2.cell hb1 hS1b) (fun h => h)
    have hc3 : w3.cell? ⟨bt, 0, none⟩ = some (.func g1 a1 b1) := hag3.cell (hag2.cell hc1 hS1c) (fun h => h)
    have hT3 : TabAt w3 := (hT1.agree hag2 hS10).agree hag3 (fun h => h)
    have h03 : 0 < w3.heap.size := World.block_lt_of_cell? w3 _ (hT3 0 (by decide))
    have hbw3 : bb < w3.heap.size := World.block_lt_of_cell? w3 _ hW
    have hcw3 : cc < w3.heap.size := World.block_lt_of_cell? w3 _ hC
    have hit := choose_iter x (k : Int) bb cc w3 hW hC hT3 h03 (cl k) (hcl k)
    have hlk := hlen k
    refine RunF_sound tab_ok (marksX_local (hJ _ _) Ds) 100 [] _ _ rfl ?_ ?_
    · simp
    have hLS : ∀ s, Local (xsR J Js s) := fun s => by rcases s with ⟨_ | _, F, A⟩; exact hJ F A; exact hJs F A
    show Run (opM Tryd.prog 68 0 (Tryd.f68).ntmps #[] w3 S3 (xsR J Js (false, lsF T ((List.range k).flatMap cl))) R Ds) _ _
    have hP1 : (List.range (k + 1)).flatMap cl = (List.range k).flatMap cl ++ cl k := by rw [List.range_succ, List.flatMap_append]; simp
    have hPp : ∀ {j} (hj : j < (cl k).length), ((List.range k).flatMap cl ++ (cl k).take j) ++ [(cl k)[j]] <+: (List.range (n + 1)).flatMap cl := fun {j} hj => pre_of (by omega) hj
    have hPl := len_of (k := k) hlen
    have hk11 : k ≤ 10 := by omega
    generalize hP : (List.range k).flatMap cl = P at *
    refine Run.rangeFnM (xsR J Js) hLS _ rfl (fun M => rfl) chooseIt_enters 5 [(9, .v (.int .i64 ((n + 1 : Nat) : Int))), (10, .v (.int .i64 (k : Int)))] [(0, .v (.func g a b)), (1, .v (.pointer (some ⟨bs, 0, none⟩))), (2, .v (.pointer (some ⟨bt, 0, none⟩))), (3, .ptr 0 0), (4, .ptr 1 0)]
      ⟨rfl, rfl, trivial⟩ rfl ⟨rfl, rfl, rfl, rfl, rfl, trivial⟩ rfl rfl hit
      (fun j hj => by rcases hj with rfl | rfl | rfl; exact ⟨h03, hS30⟩; exact ⟨hbw3, hS3bb⟩; exact ⟨hcw3, hS3cc⟩)
      (fun z hz => by simp only [encBs, List.mem_map] at hz; obtain ⟨e, _, rfl⟩ := hz; rfl)
      (fun pre s h => ∃ j, j ≤ (cl k).length ∧ pre = encBs ((cl k).take j) ∧ s = (false, lsF T (P ++ (cl k).take j)) ∧ h = LB (.func g a b) (lsF T (P ++ (cl k).take j)).1)
      (fun _ s cd _ => cd = .ret ∧ ∃ pre c, pre ++ [c] <+: (List.range (n + 1)).flatMap cl ∧ underB (lsF T pre).1 c = false ∧ letB T c = true ∧ s = (true, (lsF T pre).1 ++ [c], (lsF T pre).2 ++ [c])) 5
      (LB (.func g a b) (lsF T P).1) ⟨0, Nat.zero_le _, rfl, by simp, by simp⟩ ?_ ?_ ?_ ?_
    · exact LB_in _ _
    · rintro D l a0 rc wy fpy pre z s h Rr hI hpx ⟨j, hj, rfl, rfl, rfl⟩ hRr
      obtain ⟨hlt, rfl⟩ := encBs_next hj hpx
      have hnext := encBs_succ hlt
      have hcs := hPp hlt
      have hst := lsF_snoc T (P ++ (cl k).take j) (cl k)[j]
      rw [List.append_assoc, ← List.take_succ_eq_append_getElem hlt] at hst
      have hBy : Base fp w fpy wy := hB3.trans (hI (false, [], [])).base
      have hcy : wy.cell? ⟨bt, 0, none⟩ = some (.func g1 a1 b1) := hBy.agree.cell hcw hfc
      have hfcy : ¬ fpy bt := fun h => hfc (hBy.old _ h (World.block_lt_of_cell? w _ hcw))
      have hlF : (lsF T (P ++ (cl k).take j)).1.length ≤ 20000 := by
        have h1 := (lsF_len T (P ++ (cl k).take j)).1
        rw [List.length_append, List.length_take] at h1
        omega
      have htest' := (htest _ _ hcs)
      have hyield' := (hyield _ _ hcs)
      have hstop : underB (lsF T (P ++ (cl k).take j)).1 (cl k)[j] = false → letB T (cl k)[j] = true → ∃ pre c, pre ++ [c] <+: (List.range (n + 1)).flatMap cl ∧ underB (lsF T pre).1 c = false ∧ letB T c = true ∧ ((lsF T (P ++ (cl k).take j)).1 ++ [(cl k)[j]], (lsF T (P ++ (cl k).take j)).2 ++ [(cl k)[j]]) = ((lsF T pre).1 ++ [c], (lsF T pre).2 ++ [c]) := fun h1 h2 => ⟨_, _, hcs, h1, h2, rfl⟩
      have hgo : ∀ s', s' = lsF T (P ++ (cl k).take (j + 1)) → ∃ j', j' ≤ (cl k).length ∧ encBs ((cl k).take j) ++ [[Value.int .u64 (un (cl k)[j])]] = encBs ((cl k).take j') ∧ (false, s') = (false, lsF T (P ++ (cl k).take j')) ∧ LB (.func g a b) s'.1 = LB (.func g a b) (lsF T (P ++ (cl k).take j')).1 := fun s' e => ⟨j + 1, hlt, hnext, by rw [e], by rw [e]⟩
      generalize lsF T (P ++ (cl k).take (j + 1)) = st' at *
      generalize hse : lsF T (P ++ (cl k).take j) = st at *
      obtain ⟨F, A⟩ := st
      generalize (cl k)[j] = c at *
      simp only at htest' hyield' hlF hstop
      have hloc : ∀ s, Local (roundX (marksX (xsR J Js s) (D :: Ds)) l rc .busy) := fun s => roundX_local (marksX_local (hLS s) (D :: Ds)) l rc .busy
      refine RunF_sound tab_ok (roundX_local (marksX_local (hLS (false, F, A)) (D :: Ds)) l rc .ready) 100 [] _ _ rfl ?_ ?_
      · simp
      refine Run.beginRound (hI (false, F, A)).loc (hI (false, F, A)).lw ?_
      have hkept : ∀ σ, inT σ.t [(0, .v (.func g a b)), (1, .v (.pointer (some ⟨bs, 0, none⟩))), (2, .v (.pointer (some ⟨bt, 0, none⟩))), (3, .ptr 0 0), (4, .ptr 1 0)] → inT σ.h (LB (.func g a b) F) → st' = (F, A) → Run (roundC (opM Tryd.prog 68 0 (Tryd.f68).ntmps #[] w3 S3 (xsR J Js (false, F, A)) R (D :: Ds)) 5 a0 l rc .busy wy fpy Rr) [] σ := fun σ ht hh e => by
        refine Run.to (n' := 5) ?_ ht hh
        exact Run.roundMono (hRr (false, F, A)) (Run.roundEnd (hI (false, F, A)) [] (LB (.func g a b) F) (hgo (F, A) e.symm) ⟨rfl, rfl, rfl, rfl, rfl, trivial⟩ (LB_inH _ _) (LB_apart _ _))
      suffices G : underB F c = false → ∀ σ, inT σ.t [(0, .v (.func g a b)), (1, .v (.pointer (some ⟨bs, 0, none⟩))), (2, .v (.pointer (some ⟨bt, 0, none⟩))), (3, .ptr 0 0), (4, .ptr 1 0), (6, .v (.int .u64 (un c))), (19, .tt false)] → inT σ.h (LB (.func g a b) F) →
          Run (roundC (opM Tryd.prog 68 0 (Tryd.f68).ntmps #[] w3 S3 (xsR J Js (false, F, A)) R (D :: Ds)) 5 a0 l rc .busy wy fpy Rr) _ σ by
        rcases F with _ | ⟨f, F⟩
        · refine RunF_sound tab_ok (hloc _) 100 [] _ _ rfl ?_ ?_
          · simp
          refine Run.callFn (r := .bool (underB [] c)) (hloc _) rfl rfl rfl rfl rfl rfl rfl holds_enters rfl (fun w' _ => holds_ok c none 0 [] w' (fun i h => absurd h (Nat.not_lt_zero _)) (by decide)) ?_
          exact Run.toC (t' := [(0, .v (.func g a b)), (1, .v (.pointer (some ⟨bs, 0, none⟩))), (2, .v (.pointer (some ⟨bt, 0, none⟩))), (3, .ptr 0 0), (4, .ptr 1 0), (6, .v (.int .u64 (un c))), (19, .tt false)]) (n' := 5) (G rfl _ ⟨rfl, rfl, rfl, rfl, rfl, rfl, rfl, trivial⟩ (LB_in _ _)) ⟨inTC_same rfl, inTC_same rfl, inTC_same rfl, inTC_same rfl, inTC_same rfl, inTC_same rfl, ⟨_, rfl, fun M => rfl⟩, trivial⟩ ⟨rfl, rfl, trivial⟩
        · refine RunF_sound tab_ok (hloc _) 100 [] _ _ rfl ?_ ?_
          · simp
          refine Run.callM (r := .bool (underB (f :: F) c)) (hloc _) rfl rfl rfl rfl rfl rfl holds_enters rfl (fun M w' hM hA => ?_) ?_
          · have := holds_ok c (some ⟨(M 2).1, 0, none⟩) ((M 2).2 - 0) (f :: F) w' (seesU_rowS (hM 2 _ rfl)) (by simp at hlF ⊢; simp [maxLen]; omega)
            show Gives Tryd.prog _ _ _ _
            simpa [concL, conc] using this
          by_cases hu : underB (f :: F) c = true
          · rw [hu]
            refine RunF_sound tab_ok (hloc _) 100 [true] _ _ rfl ?_ ?_
            · simp
            exact hkept _ ⟨rfl, rfl, rfl, rfl, rfl, trivial⟩ ⟨rfl, rfl, rfl, trivial⟩ (by rw [hst]; simp [lsS, hu])
          · rw [Bool.not_eq_true] at hu
            rw [hu]
            exact Run.toC (t' := [(0, .v (.func g a b)), (1, .v (.pointer (some ⟨bs, 0, none⟩))), (2, .v (.pointer (some ⟨bt, 0, none⟩))), (3, .ptr 0 0), (4, .ptr 1 0), (6, .v (.int .u64 (un c))), (19, .tt false)]) (n' := 5) (G hu _ ⟨rfl, rfl, rfl, rfl, rfl, rfl, rfl, trivial⟩ (LB_in _ _)) ⟨inTC_same rfl, inTC_same rfl, inTC_same rfl, inTC_same rfl, inTC_same rfl, inTC_same rfl, ⟨_, rfl, fun M => rfl⟩, trivial⟩ ⟨rfl, rfl, rfl, trivial⟩
      intro hu σ ht hh
      refine Run.to ?_ ht hh (n' := 5)
      refine RunF_sound tab_ok (hloc _) 100 [] _ _ rfl ?_ ?_
      · simp
      refine Run.loadExt tab_ok rfl rfl rfl rfl rfl hcy hfcy rfl rfl ?_
      refine RunF_sound tab_ok (hloc _) 100 [] _ _ rfl ?_ ?_
      · simp
      refine Run.askRound ((htest' hu).at hBy) rfl rfl rfl rfl rfl rfl rfl rfl ?_
      rintro v w' fp' ⟨rfl, _⟩
      refine ⟨.v (.bool (letB T c)), xsR J Js (false, F, A ++ [c]), fun M => rfl, fun w fp h => h.2, ?_⟩
      by_cases hl : letB T c = true
      · rw [hl]
        have hyy := (hyield' hu hl).at hBy
        have hst2 : st' = (F ++ [c], A ++ [c]) := by rw [hst]; simp [lsS, hu, hl]
        suffices Y : ∀ σ, inT σ.t [(0, .v (.func g a b)), (1, .v (.pointer (some ⟨bs, 0, none⟩))), (2, .v (.pointer (some ⟨bt, 0, none⟩))), (3, .ptr 0 0), (4, .ptr 1 0), (30, .v (.func g a b)), (31, .v (.int .u64 (un c)))] →
            inT σ.h [(0, .cells 52 [.one (.v (.func g a b))]), (1, .cells 85 [.one (.sl 6 1 0 (F.length + 1))]), (6, .row 23 1 (F.length + 1) (encU (F ++ [c])))] →
            Run (roundC (opM Tryd.prog 68 0 (Tryd.f68).ntmps #[] w3 S3 (xsR J Js (false, F, A ++ [c])) R (D :: Ds)) 5 a0 l rc .busy wy fpy Rr) _ σ by
          rcases F with _ | ⟨f, F⟩
          · refine RunF_sound tab_ok (hloc _) 100 [false] _ _ rfl ?_ ?_
            · simp [maxLen, fillL, repL, splice, Value.cells, Value.oneCell', okCell]
            refine Y _ ⟨rfl, rfl, rfl, rfl, rfl, rfl, rfl, trivial⟩ ⟨rfl, rfl, rfl, trivial⟩
          · refine RunF_sound tab_ok (hloc _) 100 [false] _ _ rfl ?_ ?_
            · simp [maxLen, fillL, repL, splice, Value.cells, Value.oneCell', okCell]
              simp at hlF
              omega
            refine Y _ ⟨rfl, rfl, rfl, rfl, rfl, rfl, rfl, trivial⟩ ⟨rfl, rfl, ?_, trivial⟩
            exact congrArg (fun z => some (Blk.row 23 1 (F.length + 1 + 1) z)) (encU_app (f :: F) (F.length + 1) rfl c)
        intro σ ht hh
        refine Run.to ?_ ht hh (n' := 7)
        refine Run.askRound hyy rfl rfl rfl rfl rfl rfl rfl rfl ?_
        rintro v w' fp' (⟨rfl, _⟩ | ⟨rfl, _⟩)
        · refine ⟨.v (.bool true), xsR J Js (false, F ++ [c], A ++ [c]), fun M => rfl, fun w fp h => ?_, ?_⟩
          · rcases h with ⟨_, h⟩ | ⟨h, _⟩
            · exact h
            · cases h
          refine RunF_sound tab_ok (hloc _) 100 [false] _ _ rfl ?_ ?_
          · simp
          refine Run.to (t' := [(0, .v (.func g a b)), (1, .v (.pointer (some ⟨bs, 0, none⟩))), (2, .v (.pointer (some ⟨bt, 0, none⟩))), (3, .ptr 0 0), (4, .ptr 1 0)]) (h' := [(0, .cells 52 [.one (.v (.func g a b))]), (1, .cells 85 [.one (.sl 6 1 0 (F.length + 1))]), (6, .row 23 1 (F.length + 1) (encU (F ++ [c])))]) (n' := 7) ?_ ⟨rfl, rfl, rfl, rfl, rfl, trivial⟩ ⟨rfl, rfl, rfl, trivial⟩
          refine Run.roundMono (hRr (false, F ++ [c], A ++ [c])) (Run.roundEnd (hI (false, F ++ [c], A ++ [c])) [(2, 6)] (LB (.func g a b) (F ++ [c])) (hgo (F ++ [c], A ++ [c]) hst2.symm) ⟨rfl, rfl, rfl, rfl, rfl, trivial⟩ ?_ ?_)
          · unfold LB; rw [uZ_app, sBk_app]
            exact ⟨rfl, rfl, rfl, trivial⟩
          · unfold LB; rw [sBk_app]; rfl
        · refine ⟨.v (.bool false), xsR J Js (true, F ++ [c], A ++ [c]), fun M => rfl, fun w fp h => ?_, ?_⟩
          · rcases h with ⟨h, _⟩ | ⟨_, h⟩
            · cases h
            · exact h
          refine RunF_sound tab_ok (hloc _) 100 [true] _ _ rfl ?_ ?_
          · simp
          obtain ⟨pre, c', q1, q2, q3, q4⟩ := hstop hu hl
          exact Run.roundMono (hRr (true, F ++ [c], A ++ [c])) (Run.roundRet (hI (true, F ++ [c], A ++ [c])) [] [] ⟨rfl, pre, c', q1, q2, q3, by rw [q4]⟩ ⟨rfl, rfl, rfl, rfl, rfl, trivial⟩ trivial rfl)
      · rw [Bool.not_eq_true] at hl
        rw [hl]
        refine RunF_sound tab_ok (hloc _) 100 [true] _ _ rfl ?_ ?_
        · simp
        refine Run.to (t' := [(0, .v (.func g a b)), (1, .v (.pointer (some ⟨bs, 0, none⟩))), (2, .v (.pointer (some ⟨bt, 0, none⟩))), (3, .ptr 0 0), (4, .ptr 1 0)]) (n' := 5) ?_ ⟨rfl, rfl, rfl, rfl, rfl, trivial⟩ (LB_in (.func g a b) F)
        exact Run.roundMono (hRr (false, F, A ++ [c])) (Run.roundEnd (hI (false, F, A ++ [c])) [] (LB (.func g a b) F) (hgo (F, A ++ [c]) (by rw [hst]; simp [lsS, hu, hl])) ⟨rfl, rfl, rfl, rfl, rfl, trivial⟩ (LB_inH _ _) (LB_apart _ _))
    · rintro D s h ⟨j, hj, hx', rfl, rfl⟩
      have hjl := encBs_all hj hx'
      subst hjl
      rw [List.take_length, ← hP1]
      refine RunF_sound tab_ok (marksX_local (hLS _) (D :: Ds)) 100 [] _ _ rfl ?_ ?_
      · simp
      refine ih (k + 1) (by omega) w3 S3 (D :: Ds) hB3 _ ⟨rfl, rfl, rfl, rfl, rfl, rfl, i64_eq (wrap_succ (by omega)), trivial⟩ (LB_in _ _)
    · rintro D pre s cd h _ ⟨rfl, pre, c, h1, h2, h3, rfl⟩
      exact Run.retIM tab_ok (hLS _) Tryd.func68 hres fun v w' fp' hg hX => hR v w' fp' (hB3.grown hg) (.inr ⟨pre, c, h1, h2, h3, hX⟩)
end Go.Proofs.YtpfanhbkjajocaaDoor

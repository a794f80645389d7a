/-
  Own work, merged: U17, U18, U20, U26, U27, U28, U29, U30.
-/
import Derived.AtR
import Derived.Below
import Derived.ChangeKeysEq
import Derived.KernelRfl
import Derived.LaidMore
import Derived.Laws.AppendOwn
import Derived.Laws.BytesString
import Derived.Laws.Cells
import Derived.Laws.CopyRow
import Derived.Laws.Entries
import Derived.Laws.Rows
import Derived.Laws.Small
import Derived.Laws.StructEq
import Derived.Lib.LaidTab
import Derived.Lib.TrailingZeros
import Derived.MapKept
import Derived.Maps.AppendAt
import Derived.OpenShut
import Derived.Orders
import Derived.ProofKit
import Derived.RangeFuncNested
import Derived.RangeFuncRecord
import Derived.SevenTiedAt
import Derived.Shelf.Lay
import Derived.Shelf.Strconv.Itoa3
import Derived.Shelf.Strings.Builder1
import Derived.Shelf.Strings.Builder2
import Derived.Shelf.Strings.OnBuilder
import Derived.Stop.Joined
import Derived.Test.YtpfanhbkjajocaaDoorCards
import Derived.Test.YtpfanhbkjajocaaDoorChecked
import Derived.Test.YtpfanhbkjajocaaDoorProg
import Derived.Test.YtpfanhbkjajocaaDoorRows
import Derived.Test.YtpfanhbkjajocaaDoorTie
import Derived.Test.YtpfanhbkjajocaaDoorQB615F2
/-
  The reference's least: the walk. Own work.
-/
namespace Go.Proofs.YtpfanhbkjajocaaDoor
open Go.AM
set_option maxRecDepth 100000

/-- A row of sets, or nothing. -/
def uZ (id : Nat) : List (BitVec 64) → AV
  | [] => .v (.slice none 0 0)
  | _ :: l => .sl id 1 0 (l.length + 1)
def uBk (id : Nat) : List (BitVec 64) → List (Nat × Blk)
  | [] => []
  | a :: l => [(id, .row 22 1 (l.length + 1) (encU (a :: l)))]

theorem uZ_app (id : Nat) (l : List (BitVec 64)) (c : BitVec 64) : uZ id (l ++ [c]) = .sl id 1 0 (l.length + 1) := by
  cases l <;> simp [uZ]
theorem uBk_app (id : Nat) (l : List (BitVec 64)) (c : BitVec 64) : uBk id (l ++ [c]) = [(id, .row 22 1 (l.length + 1) (encU (l ++ [c])))] := by
  cases l <;> simp [uBk]

/-- Is c above one of these?: the walk of the innermost loop, for what is found. -/
theorem under_step (F : List (BitVec 64)) (c : BitVec 64) {j : Nat} (hj : j < F.length) : underB (F.take (j + 1)) c = (underB (F.take j) c || (F[j] &&& ~~~c == 0#64)) := by
  unfold underB
  rw [List.take_succ_eq_append_getElem hj, List.any_append]; simp
theorem encU_get (l : List (BitVec 64)) (j : Nat) (h : j < l.length) : (encU l)[j]? = some (.int .u64 (un l[j])) := by simp [encU, h]
theorem intAt_encU (l : List (BitVec 64)) (j : Nat) (h : j < l.length) : intAt (encU l) j = un l[j] := by unfold intAt; rw [encU_get l j h]

theorem chosen_ne {x : BitVec 64} {k : Int} {xs : List (BitVec 64)} (h : Chosen x k xs) (h0 : 0 ≤ k) (h1 : k ≤ ((bitsL x).length : Int)) : ∃ c0 C0, xs = c0 :: C0 := by
  cases h with
  | out h => omega
  | @mk ls _ _ h3 =>
    cases ls with
    | nil => cases h3
    | cons l ls => exact ⟨_, _, rfl⟩

theorem SeesT.agree {w w' : World} {T : Ts} (h : SeesT w T) (hA : Agree (fun _ => False) w w') : SeesT w' T := ⟨h.up.agree hA (fun _ _ h => h), h.those.agree hA (fun _ _ h => h), h.l1, h.l2⟩

set_option maxHeartbeats 2000000 in
theorem leastR_ok (T : Ts) (x : BitVec 64) (most : Int) (cl : Nat → List (BitVec 64)) (hcl : ∀ k : Nat, Chosen x (k : Int) (cl k)) (hx : (bitsL x).length ≤ 10) (w : World) (hs : SeesT w T) (F A : List (BitVec 64))
    (hR : lsGo T most ((List.range ((bitsL x).length + 1)).flatMap cl) [] [] = (F, A)) :
    HandsZ Tryd.prog 39 [.int .u64 (un x), encT T, .int .i64 most] w (.tup [uZ 7 F, uZ 8 A]) (uBk 7 F ++ uBk 8 A) := by
  refine HandsZ.of_run Tryd.func39 rfl (by show 3 ≤ 78; decide) ?_
  have hone := tsV_one T
  have hl64 := bitsL_len_le x
  have hlen : ∀ k, (cl k).length ≤ 1024 := fun k => by
    have h1 := chosen_len (hcl k)
    have h2 : 2 ^ (bitsL x).length ≤ 2 ^ 10 := Nat.pow_le_pow_right (by omega) hx
    omega
  have hch : ∀ (k : Nat) w', HandsZ Tryd.prog 35 [.int .u64 (un x), .int .i64 (k : Int), .int .i64 1073741824] w' (usZ (cl k)) (usB (cl k)) := fun k w' => by
    have := chooseR_ok x (k : Int) 1073741824 (by decide) (by decide) w' (cl k) (hcl k)
    rwa [List.take_of_length_le (by have := hlen k; omega)] at this
  have hsz := fun w' => sizeR_ok x w'
  have hne0 : ∀ k, k ≤ (bitsL x).length → ∃ c0 C0, cl k = c0 :: C0 := fun k hk => chosen_ne (hcl k) (by omega) (by omega)
  generalize (bitsL x).length = n at *
  refine RunF_sound tab_ok noX_local 100 [] _ _ rfl ?_ ?_
  · simp [segsVals, hone]
    exact rfl
  suffices H : ∀ (d k : Nat), k + d = n + 1 → ∀ (F' A' : List (BitVec 64)), lsGo T most ((List.range' k d).flatMap cl) F' A' = (F, A) → (F' ≠ [] → A' ≠ []) → F'.length + A'.length ≤ 4096 * k →
      Run _ _ ⟨[(0, .v (.int .u64 (un x))), (2, .v (.int .i64 most)), (4, .ptr 0 0), (8, uZ 7 F'), (9, uZ 8 A'), (10, .v (.int .i64 (k : Int)))], (0, .cells 49 [.vals 2 (tsV T)]) :: (uBk 7 F' ++ uBk 8 A'), 9⟩ by
    refine Run.to (H (n + 1) 0 (by omega) [] [] (by rw [← List.range_eq_range']; exact hR) (fun h => absurd rfl h) (by simp)) ⟨rfl, rfl, rfl, rfl, rfl, rfl, trivial⟩ ⟨rfl, trivial⟩
  intro d
  induction d with
  | zero =>
    intro k hk F' A' hgo hne hle
    simp only [List.range'_zero, List.flatMap_nil, lsGo, Prod.mk.injEq] at hgo
    obtain ⟨rfl, rfl⟩ := hgo
    rcases F' with _ | ⟨f, F'⟩ <;> rcases A' with _ | ⟨a, A'⟩
    · refine RunF_sound tab_ok noX_local 100 [] _ _ rfl ?_ ?_
      · simp
      refine Run.callFn (r := .int .i64 (n : Int)) noX_local rfl rfl rfl rfl rfl rfl rfl sizeR_enters rfl (fun w' _ => hsz w') ?_
      refine RunF_sound tab_ok noX_local 100 [false] _ _ rfl ?_ ?_
      · simp; omega
      refine Run.retH tab_ok [] Tryd.func39 rfl ?_ rfl trivial rfl
      simp
    · refine RunF_sound tab_ok noX_local 100 [] _ _ rfl ?_ ?_
      · simp
      refine Run.callFn (r := .int .i64 (n : Int)) noX_local rfl rfl rfl rfl rfl rfl rfl sizeR_enters rfl (fun w' _ => hsz w') ?_
      refine RunF_sound tab_ok noX_local 100 [false] _ _ rfl ?_ ?_
      · simp; omega
      refine Run.retH tab_ok [(8, 8)] Tryd.func39 rfl ?_ rfl ⟨rfl, trivial⟩ rfl
      simp
    · exact absurd rfl (hne (by simp))
    · refine RunF_sound tab_ok noX_local 100 [] _ _ rfl ?_ ?_
      · simp
      refine Run.callFn (r := .int .i64 (n : Int)) noX_local rfl rfl rfl rfl rfl rfl rfl sizeR_enters rfl (fun w' _ => hsz w') ?_
      refine RunF_sound tab_ok noX_local 100 [false] _ _ rfl ?_ ?_
      · simp; omega
      refine Run.retH tab_ok [(7, 7), (8, 8)] Tryd.func39 rfl ?_ rfl ⟨rfl, rfl, trivial⟩ rfl
      simp
  | succ d ih =>
    intro k hk F' A' hgo hne hle
    have hkn : k ≤ n := by omega
    obtain ⟨c0, C0, hC⟩ : ∃ c0 C0, cl k = c0 :: C0 := hne0 k hkn
    have hch' := hch k
    have hlC := hlen k
    rw [List.range'_succ, List.flatMap_cons, hC] at hgo
    rw [hC] at hch' hlC
    suffices G : Run _ _ ⟨[(0, .v (.int .u64 (un x))), (2, .v (.int .i64 most)), (4, .ptr 0 0), (8, uZ 7 F'), (9, uZ 8 A'), (10, .v (.int .i64 (k : Int))), (11, .sl 9 1 0 (C0.length + 1)), (12, .v (.int .i64 0))], (0, .cells 49 [.vals 2 (tsV T)]) :: (9, .row 22 1 (C0.length + 1) (encU (c0 :: C0))) :: (uBk 7 F' ++ uBk 8 A'), 10⟩ by
      rcases F' with _ | ⟨f, F'⟩ <;> rcases A' with _ | ⟨a, A'⟩
      case cons.nil => exact absurd rfl (hne (by simp))
      case nil.nil =>
        refine RunF_sound tab_ok noX_local 100 [] _ _ rfl ?_ ?_
        · simp
        refine Run.callFn (r := .int .i64 (n : Int)) noX_local rfl rfl rfl rfl rfl rfl rfl sizeR_enters rfl (fun w' _ => hsz w') ?_
        refine RunF_sound tab_ok noX_local 100 [true] _ _ rfl ?_ ?_
        · simp; omega
        refine Run.callH noX_local (.sl 9 1 0 (C0.length + 1)) [(9, .row 22 1 (C0.length + 1) (encU (c0 :: C0)))] 10 rfl rfl rfl rfl rfl rfl chooseR_enters rfl rfl rfl rfl rfl (fun M w' hM hA => hch' w') ?_
        refine RunF_sound tab_ok noX_local 100 [] _ _ rfl ?_ ?_
        · simp
        exact Run.to G ⟨rfl, rfl, rfl, rfl, rfl, rfl, rfl, rfl, trivial⟩ ⟨rfl, rfl, trivial⟩
      case nil.cons =>
        refine RunF_sound tab_ok noX_local 100 [] _ _ rfl ?_ ?_
        · simp
        refine Run.callFn (r := .int .i64 (n : Int)) noX_local rfl rfl rfl rfl rfl rfl rfl sizeR_enters rfl (fun w' _ => hsz w') ?_
        refine RunF_sound tab_ok noX_local 100 [true] _ _ rfl ?_ ?_
        · simp; omega
        refine Run.callH noX_local (.sl 9 1 0 (C0.length + 1)) [(9, .row 22 1 (C0.length + 1) (encU (c0 :: C0)))] 10 rfl rfl rfl rfl rfl rfl chooseR_enters rfl rfl rfl rfl rfl (fun M w' hM hA => hch' w') ?_
        refine RunF_sound tab_ok noX_local 100 [] _ _ rfl ?_ ?_
        · simp
        exact Run.to G ⟨rfl, rfl, rfl, rfl, rfl, rfl, rfl, rfl, trivial⟩ ⟨rfl, rfl, rfl, trivial⟩
      case cons.cons =>
        refine RunF_sound tab_ok noX_local 100 [] _ _ rfl ?_ ?_
        · simp
        refine Run.callFn (r := .int .i64 (n : Int)) noX_local rfl rfl rfl rfl rfl rfl rfl sizeR_enters rfl (fun w' _ => hsz w') ?_
        refine RunF_sound tab_ok noX_local 100 [true] _ _ rfl ?_ ?_
        · simp; omega
        refine Run.callH noX_local (.sl 9 1 0 (C0.length + 1)) [(9, .row 22 1 (C0.length + 1) (encU (c0 :: C0)))] 10 rfl rfl rfl rfl rfl rfl chooseR_enters rfl rfl rfl rfl rfl (fun M w' hM hA => hch' w') ?_
        refine RunF_sound tab_ok noX_local 100 [] _ _ rfl ?_ ?_
        · simp
        exact Run.to G ⟨rfl, rfl, rfl, rfl, rfl, rfl, rfl, rfl, trivial⟩ ⟨rfl, rfl, rfl, rfl, trivial⟩
    suffices I : ∀ (e i : Nat), i + e = C0.length + 1 → ∀ (F' A' : List (BitVec 64)), lsGo T most ((c0 :: C0).drop i ++ (List.range' (k + 1) d).flatMap cl) F' A' = (F, A) → (F' ≠ [] → A' ≠ []) → F'.length + A'.length ≤ 4096 * k + 2 * i →
        Run _ _ ⟨[(0, .v (.int .u64 (un x))), (2, .v (.int .i64 most)), (4, .ptr 0 0), (8, uZ 7 F'), (9, uZ 8 A'), (10, .v (.int .i64 (k : Int))), (11, .sl 9 1 0 (C0.length + 1)), (12, .v (.int .i64 (i : Int)))], (0, .cells 49 [.vals 2 (tsV T)]) :: (9, .row 22 1 (C0.length + 1) (encU (c0 :: C0))) :: (uBk 7 F' ++ uBk 8 A'), 10⟩ by
      exact I (C0.length + 1) 0 (by omega) F' A' (by rw [List.drop_zero]; exact hgo) hne (by omega)
    clear hgo hne hle F' A'
    have hlN : C0.length + 1 ≤ 1024 := by simpa using hlC
    intro e
    induction e with
    | zero =>
      intro i hi F' A' hgo hne hle
      rw [List.drop_eq_nil_of_le (by simp; omega), List.nil_append] at hgo
      have ih' := ih (k + 1) (by omega) F' A' hgo hne (by omega)
      rcases F' with _ | ⟨f, F'⟩ <;> rcases A' with _ | ⟨a, A'⟩
      case cons.nil => exact absurd rfl (hne (by simp))
      case nil.nil =>
        refine RunF_sound tab_ok noX_local 100 [false] _ _ rfl ?_ ?_
        · simp; omega
        exact Run.to ih' ⟨rfl, rfl, rfl, rfl, rfl, i64_eq (wrap_succ (by omega)), trivial⟩ ⟨rfl, trivial⟩
      case nil.cons =>
        refine RunF_sound tab_ok noX_local 100 [false] _ _ rfl ?_ ?_
        · simp; omega
        exact Run.to ih' ⟨rfl, rfl, rfl, rfl, rfl, i64_eq (wrap_succ (by omega)), trivial⟩ ⟨rfl, rfl, trivial⟩
      case cons.cons =>
        refine RunF_sound tab_ok noX_local 100 [false] _ _ rfl ?_ ?_
        · simp; omega
        exact Run.to ih' ⟨rfl, rfl, rfl, rfl, rfl, i64_eq (wrap_succ (by omega)), trivial⟩ ⟨rfl, rfl, rfl, trivial⟩
    | succ e ihe =>
      intro i hi F' A' hgo hne hle
      have hil : i < (c0 :: C0).length := by simp; omega
      obtain ⟨c, hc⟩ : ∃ c, c = (c0 :: C0)[i] := ⟨_, rfl⟩
      rw [List.drop_eq_getElem_cons hil, ← hc, List.cons_append, lsGo] at hgo
      have hget : (encU (c0 :: C0))[i]? = some (.int .u64 (un c)) := by rw [encU_get _ _ hil, hc]
      have hint : intAt (encU (c0 :: C0)) i = un c := by rw [intAt_encU _ _ hil, hc]
      have hint' : intAt (encU (c0 :: C0)) ((0 + (i : Int).toNat) * 1) = un c := by rw [Nat.zero_add, Nat.mul_one, Int.toNat_natCast]; exact hint
      suffices Q : ∀ (g j : Nat), j + g = F'.length → Run _ _ ⟨[(0, .v (.int .u64 (un x))), (2, .v (.int .i64 most)), (4, .ptr 0 0), (8, uZ 7 F'), (9, uZ 8 A'), (10, .v (.int .i64 (k : Int))), (11, .sl 9 1 0 (C0.length + 1)), (12, .v (.int .i64 (i : Int))), (13, .v (.bool (underB (F'.take j) c))), (14, .v (.int .i64 (j : Int)))], (0, .cells 49 [.vals 2 (tsV T)]) :: (9, .row 22 1 (C0.length + 1) (encU (c0 :: C0))) :: (uBk 7 F' ++ uBk 8 A'), 10⟩ by
        have Q0 := Q F'.length 0 (by omega)
        rcases F' with _ | ⟨f, F'⟩ <;> rcases A' with _ | ⟨a, A'⟩
        case cons.nil => exact absurd rfl (hne (by simp))
        case nil.nil =>
          refine RunF_sound tab_ok noX_local 100 [true] _ _ rfl ?_ ?_
          · simp; omega
          exact Run.toC Q0 ⟨⟨_, rfl, fun M => rfl⟩, ⟨_, rfl, fun M => rfl⟩, ⟨_, rfl, fun M => rfl⟩, ⟨_, rfl, fun M => rfl⟩, ⟨_, rfl, fun M => rfl⟩, ⟨_, rfl, fun M => rfl⟩, ⟨_, rfl, fun M => rfl⟩, ⟨_, rfl, fun M => rfl⟩, ⟨_, rfl, fun M => rfl⟩, ⟨_, rfl, fun M => rfl⟩, trivial⟩ ⟨rfl, rfl, trivial⟩
        case nil.cons =>
          refine RunF_sound tab_ok noX_local 100 [true] _ _ rfl ?_ ?_
          · simp; omega
          exact Run.toC Q0 ⟨⟨_, rfl, fun M => rfl⟩, ⟨_, rfl, fun M => rfl⟩, ⟨_, rfl, fun M => rfl⟩, ⟨_, rfl, fun M => rfl⟩, ⟨_, rfl, fun M => rfl⟩, ⟨_, rfl, fun M => rfl⟩, ⟨_, rfl, fun M => rfl⟩, ⟨_, rfl, fun M => rfl⟩, ⟨_, rfl, fun M => rfl⟩, ⟨_, rfl, fun M => rfl⟩, trivial⟩ ⟨rfl, rfl, rfl, trivial⟩
        case cons.cons =>
          refine RunF_sound tab_ok noX_local 100 [true] _ _ rfl ?_ ?_
          · simp; omega
          exact Run.toC Q0 ⟨⟨_, rfl, fun M => rfl⟩, ⟨_, rfl, fun M => rfl⟩, ⟨_, rfl, fun M => rfl⟩, ⟨_, rfl, fun M => rfl⟩, ⟨_, rfl, fun M => rfl⟩, ⟨_, rfl, fun M => rfl⟩, ⟨_, rfl, fun M => rfl⟩, ⟨_, rfl, fun M => rfl⟩, ⟨_, rfl, fun M => rfl⟩, ⟨_, rfl, fun M => rfl⟩, trivial⟩ ⟨rfl, rfl, rfl, rfl, trivial⟩
      intro g
      induction g with
      | zero =>
        intro j hj
        rw [List.take_of_length_le (by omega)]
        by_cases hu : underB F' c = true
        · rw [if_pos hu] at hgo
          have ih' := ihe (i + 1) (by omega) F' A' hgo hne (by omega)
          rw [hu]
          rcases F' with _ | ⟨f, F'⟩ <;> rcases A' with _ | ⟨a, A'⟩
          case cons.nil => exact absurd rfl (hne (by simp))
          case nil.nil => cases hu
          case nil.cons => cases hu
          refine RunF_sound tab_ok noX_local 100 [false, true] _ _ rfl ?_ ?_
          · simp at hj ⊢; omega
          exact Run.to ih' ⟨rfl, rfl, rfl, rfl, rfl, rfl, rfl, i64_eq (wrap_succ (by omega)), trivial⟩ ⟨rfl, rfl, rfl, rfl, trivial⟩
        · have hu' : underB F' c = false := by simpa using hu
          rw [if_neg hu] at hgo
          rw [hu']
          rcases F' with _ | ⟨f, F'⟩ <;> rcases A' with _ | ⟨a, A'⟩
          case cons.nil => exact absurd rfl (hne (by simp))
          case nil.nil =>
            have hle1 := hle
            simp only [List.length_cons, List.length_nil] at hle1
            refine RunF_sound tab_ok noX_local 100 [false, false] _ _ rfl ?_ ?_
            · simp only [List.length_cons, List.length_nil] at hj
              simp [maxLen, fillL, repL, splice, Value.cells, Value.oneCell', hget, hint]
              omega
            refine Run.drawA noX_local rfl [] [(0, .cells 49 [.vals 2 (tsV T)]), (9, .row 22 1 (C0.length + 1) (encU (c0 :: C0)))] rfl rfl ⟨rfl, rfl, trivial⟩ ?_
            refine RunOF_sound tab_ok noX_local rfl rfl 100 [] _ _ rfl ?_ ?_
            · simp [segsVals, hone, hget, hint]
              exact ⟨rfl, by omega⟩
            refine RunO.callFn (r := .bool (letB T c)) noX_local rfl rfl rfl rfl rfl rfl rfl rfl lets_enters rfl (fun w' hA => ?_) ?_
            · simp only [hint']
              exact lets_ok T c w' (hs.agree hA)
            refine RunO.done ?_
            by_cases hlt : letB T c = true
            · rw [if_pos hlt] at hgo
              by_cases hm : (([] ++ [c]).length : Int) = most
              · rw [if_pos hm] at hgo
                simp only [Prod.mk.injEq] at hgo
                obtain ⟨rfl, rfl⟩ := hgo
                rw [uZ_app, uZ_app, uBk_app, uBk_app]
                simp only [List.length_append, List.length_cons, List.length_nil] at hm
                refine RunF_sound tab_ok noX_local 100 [true, true] _ _ rfl ?_ ?_
                · simp [maxLen, fillL, repL, splice, Value.cells, Value.oneCell', hget, hint, hlt]
                  omega
                refine Run.retH tab_ok [(7, 13), (8, 11)] Tryd.func39 rfl ?_ rfl ⟨(by rw [hint']; rfl), (by rw [hint']; rfl), trivial⟩ rfl
                simp
              · rw [if_neg hm] at hgo
                have ih' := ihe (i + 1) (by omega) _ _ hgo (fun _ => by simp) (by simp; omega)
                rw [uZ_app, uZ_app, uBk_app, uBk_app] at ih'
                simp only [List.length_append, List.length_cons, List.length_nil] at hm
                refine RunF_sound tab_ok noX_local 100 [true, false] _ _ rfl ?_ ?_
                · simp [maxLen, fillL, repL, splice, Value.cells, Value.oneCell', hget, hint, hlt]
                  omega
                exact Run.toR [(7, 13), (8, 11), (9, 9), (0, 0)] ih' ⟨rfl, rfl, rfl, rfl, rfl, rfl, rfl, i64_eq (wrap_succ (by omega)), trivial⟩ ⟨rfl, rfl, (by rw [hint']; rfl), (by rw [hint']; rfl), trivial⟩ rfl
            · rw [if_neg hlt] at hgo
              have ih' := ihe (i + 1) (by omega) _ _ hgo (fun _ => by simp) (by simp; omega)
              rw [uZ_app, uBk_app] at ih'
              refine RunF_sound tab_ok noX_local 100 [false] _ _ rfl ?_ ?_
              · simpa using hlt
              exact Run.toR [(8, 11), (9, 9), (0, 0)] ih' ⟨rfl, rfl, rfl, rfl, rfl, rfl, rfl, i64_eq (wrap_succ (by omega)), trivial⟩ ⟨rfl, rfl, (by rw [hint']; rfl), trivial⟩ rfl
          case nil.cons =>
            have hle1 := hle
            simp only [List.length_cons, List.length_nil] at hle1
            refine RunF_sound tab_ok noX_local 100 [false, false] _ _ rfl ?_ ?_
            · simp only [List.length_cons, List.length_nil] at hj
              simp [maxLen, fillL, repL, splice, Value.cells, Value.oneCell', hget, hint]
              omega
            refine Run.drawA noX_local rfl [] [(0, .cells 49 [.vals 2 (tsV T)]), (9, .row 22 1 (C0.length + 1) (encU (c0 :: C0)))] rfl rfl ⟨rfl, rfl, trivial⟩ ?_
            refine RunOF_sound tab_ok noX_local rfl rfl 100 [] _ _ rfl ?_ ?_
            · simp [segsVals, hone, hget, hint]
              exact ⟨rfl, by omega⟩
            refine RunO.callFn (r := .bool (letB T c)) noX_local rfl rfl rfl rfl rfl rfl rfl rfl lets_enters rfl (fun w' hA => ?_) ?_
            · simp only [hint']
              exact lets_ok T c w' (hs.agree hA)
            refine RunO.done ?_
            by_cases hlt : letB T c = true
            · rw [if_pos hlt] at hgo
              by_cases hm : (([] ++ [c]).length : Int) = most
              · rw [if_pos hm] at hgo
                simp only [Prod.mk.injEq] at hgo
                obtain ⟨rfl, rfl⟩ := hgo
                rw [uZ_app, uZ_app, uBk_app, uBk_app]
                simp only [List.length_append, List.length_cons, List.length_nil] at hm
                refine RunF_sound tab_ok noX_local 100 [true, true] _ _ rfl ?_ ?_
                · simp [maxLen, fillL, repL, splice, Value.cells, Value.oneCell', hget, hint, hlt]
                  omega
                refine Run.retH tab_ok [(7, 13), (8, 11)] Tryd.func39 rfl ?_ rfl ⟨(by rw [hint']; rfl), (by rw [hint', ← encU_app (a :: A') (A'.length + 1) rfl c]; rfl), trivial⟩ rfl
                simp
              · rw [if_neg hm] at hgo
                have ih' := ihe (i + 1) (by omega) _ _ hgo (fun _ => by simp) (by simp; omega)
                rw [uZ_app, uZ_app, uBk_app, uBk_app] at ih'
                simp only [List.length_append, List.length_cons, List.length_nil] at hm
                refine RunF_sound tab_ok noX_local 100 [true, false] _ _ rfl ?_ ?_
                · simp [maxLen, fillL, repL, splice, Value.cells, Value.oneCell', hget, hint, hlt]
                  omega
                exact Run.toR [(7, 13), (8, 11), (9, 9), (0, 0)] ih' ⟨rfl, rfl, rfl, rfl, rfl, rfl, rfl, i64_eq (wrap_succ (by omega)), trivial⟩ ⟨rfl, rfl, (by rw [hint']; rfl), (by rw [hint', ← encU_app (a :: A') (A'.length + 1) rfl c]; rfl), trivial⟩ rfl
            · rw [if_neg hlt] at hgo
              have ih' := ihe (i + 1) (by omega) _ _ hgo (fun _ => by simp) (by simp; omega)
              rw [uZ_app, uBk_app] at ih'
              refine RunF_sound tab_ok noX_local 100 [false] _ _ rfl ?_ ?_
              · simpa using hlt
              exact Run.toR [(8, 11), (9, 9), (0, 0)] ih' ⟨rfl, rfl, rfl, rfl, rfl, rfl, rfl, i64_eq (wrap_succ (by omega)), trivial⟩ ⟨rfl, rfl, (by rw [hint', ← encU_app (a :: A') (A'.length + 1) rfl c]; rfl), trivial⟩ rfl
          case cons.cons =>
            have hle1 := hle
            simp only [List.length_cons, List.length_nil] at hle1
            refine RunF_sound tab_ok noX_local 100 [false, false] _ _ rfl ?_ ?_
            · simp only [List.length_cons, List.length_nil] at hj
              simp [maxLen, fillL, repL, splice, Value.cells, Value.oneCell', hget, hint]
              omega
            refine Run.drawA noX_local rfl [] [(0, .cells 49 [.vals 2 (tsV T)]), (9, .row 22 1 (C0.length + 1) (encU (c0 :: C0)))] rfl rfl ⟨rfl, rfl, trivial⟩ ?_
            refine RunOF_sound tab_ok noX_local rfl rfl 100 [] _ _ rfl ?_ ?_
            · simp [segsVals, hone, hget, hint]
              exact ⟨rfl, by omega⟩
            refine RunO.callFn (r := .bool (letB T c)) noX_local rfl rfl rfl rfl rfl rfl rfl rfl lets_enters rfl (fun w' hA => ?_) ?_
            · simp only [hint']
              exact lets_ok T c w' (hs.agree hA)
            refine RunO.done ?_
            by_cases hlt : letB T c = true
            · rw [if_pos hlt] at hgo
              by_cases hm : (((f :: F') ++ [c]).length : Int) = most
              · rw [if_pos hm] at hgo
                simp only [Prod.mk.injEq] at hgo
                obtain ⟨rfl, rfl⟩ := hgo
                rw [uZ_app, uZ_app, uBk_app, uBk_app]
                simp only [List.length_append, List.length_cons, List.length_nil] at hm
                refine RunF_sound tab_ok noX_local 100 [true, true] _ _ rfl ?_ ?_
                · simp [maxLen, fillL, repL, splice, Value.cells, Value.oneCell', hget, hint, hlt]
                  omega
                refine Run.retH tab_ok [(7, 13), (8, 11)] Tryd.func39 rfl ?_ rfl ⟨(by rw [hint', ← encU_app (f :: F') (F'.length + 1) rfl c]; rfl), (by rw [hint', ← encU_app (a :: A') (A'.length + 1) rfl c]; rfl), trivial⟩ rfl
                simp
              · rw [if_neg hm] at hgo
                have ih' := ihe (i + 1) (by omega) _ _ hgo (fun _ => by simp) (by simp; omega)
                rw [uZ_app, uZ_app, uBk_app, uBk_app] at ih'
                simp only [List.length_append, List.length_cons, List.length_nil] at hm
                refine RunF_sound tab_ok noX_local 100 [true, false] _ _ rfl ?_ ?_
                · simp [maxLen, fillL, repL, splice, Value.cells, Value.oneCell', hget, hint, hlt]
                  omega
                exact Run.toR [(7, 13), (8, 11), (9, 9), (0, 0)] ih' ⟨rfl, rfl, rfl, rfl, rfl, rfl, rfl, i64_eq (wrap_succ (by omega)), trivial⟩ ⟨rfl, rfl, (by rw [hint', ← encU_app (f :: F') (F'.length + 1) rfl c]; rfl), (by rw [hint', ← encU_app (a :: A') (A'.length + 1) rfl c]; rfl), trivial⟩ rfl
            · rw [if_neg hlt] at hgo
              have ih' := ihe (i + 1) (by omega) _ _ hgo (fun _ => by simp) (by simp; omega)
              rw [uZ_app, uBk_app] at ih'
              refine RunF_sound tab_ok noX_local 100 [false] _ _ rfl ?_ ?_
              · simpa using hlt
              exact Run.toR [(7, 7), (8, 11), (9, 9), (0, 0)] ih' ⟨rfl, rfl, rfl, rfl, rfl, rfl, rfl, i64_eq (wrap_succ (by omega)), trivial⟩ ⟨rfl, rfl, rfl, (by rw [hint', ← encU_app (a :: A') (A'.length + 1) rfl c]; rfl), trivial⟩ rfl
      | succ g ihg =>
        intro j hj
        have hjl : j < F'.length := by omega
        have ih' := ihg (j + 1) (by omega)
        have hst := under_step F' c hjl
        have hgf : (encU F')[j]? = some (.int .u64 (un F'[j])) := encU_get _ _ hjl
        have hif : intAt (encU F') ((0 + (j : Int).toNat) * 1) = un F'[j] := by rw [Nat.zero_add, Nat.mul_one, Int.toNat_natCast]; exact intAt_encU _ _ hjl
        have hif2 : intAt (encU F') j = un F'[j] := intAt_encU _ _ hjl
        have hbn : (bandn IntKind.u64 (un F'[j]) (un c) == 0) = (F'[j] &&& ~~~c == 0#64) := by
          rw [bandn_un, Bool.eq_iff_iff, beq_iff_eq, beq_iff_eq, show (0 : Int) = un 0#64 from rfl]
          exact un_inj
        generalize hub : underB (F'.take j) c = ub at *
        generalize hub2 : underB (F'.take (j + 1)) c = ub2 at *
        generalize F'[j] = fj at *
        rcases F' with _ | ⟨f, F'⟩ <;> rcases A' with _ | ⟨a, A'⟩
        case nil.nil => simp at hjl
        case nil.cons => simp at hjl
        case cons.nil => exact absurd rfl (hne (by simp))
        have hle1 := hle
        simp only [List.length_cons] at hle1 hjl
        refine RunF_sound tab_ok noX_local 100 [true] _ _ rfl ?_ ?_
        · simp; omega
        refine Run.drawA noX_local rfl [] [(9, .row 22 1 (C0.length + 1) (encU (c0 :: C0))), (7, .row 22 1 (F'.length + 1) (encU (f :: F')))] rfl rfl ⟨rfl, rfl, trivial⟩ ?_
        by_cases hb : ub = true
        · refine RunOF_sound tab_ok noX_local rfl rfl 100 [true] _ _ rfl ?_ ?_
          · simp [hb]
          refine RunO.done ?_
          refine RunF_sound tab_ok noX_local 100 [] _ _ rfl ?_ ?_
          · simp
          exact Run.toC ih' ⟨⟨_, rfl, fun M => rfl⟩, ⟨_, rfl, fun M => rfl⟩, ⟨_, rfl, fun M => rfl⟩, ⟨_, rfl, fun M => rfl⟩, ⟨_, rfl, fun M => rfl⟩, ⟨_, rfl, fun M => rfl⟩, ⟨_, rfl, fun M => rfl⟩, ⟨_, rfl, fun M => rfl⟩, ⟨_, rfl, fun M => congrArg Value.bool (by rw [hst, hb]; rfl)⟩, ⟨_, rfl, fun M => congrArg (Value.int .i64) (wrap_succ (by omega))⟩, trivial⟩ ⟨rfl, rfl, rfl, rfl, trivial⟩
        · refine RunOF_sound tab_ok noX_local rfl rfl 100 [false] _ _ rfl ?_ ?_
          · simp [hb, hget, hint, hgf, hif2]
            omega
          refine RunO.done ?_
          refine RunF_sound tab_ok noX_local 100 [] _ _ rfl ?_ ?_
          · simp
          exact Run.toC ih' ⟨⟨_, rfl, fun M => rfl⟩, ⟨_, rfl, fun M => rfl⟩, ⟨_, rfl, fun M => rfl⟩, ⟨_, rfl, fun M => rfl⟩, ⟨_, rfl, fun M => rfl⟩, ⟨_, rfl, fun M => rfl⟩, ⟨_, rfl, fun M => rfl⟩, ⟨_, rfl, fun M => rfl⟩, ⟨_, rfl, fun M => congrArg Value.bool (by rw [hif, hint', hbn, hst, Bool.eq_false_iff.2 hb]; rfl)⟩, ⟨_, rfl, fun M => congrArg (Value.int .i64) (wrap_succ (by omega))⟩, trivial⟩ ⟨rfl, rfl, rfl, rfl, trivial⟩
theorem leastR_enters : Enters Tryd.prog 39 := enters_mk Tryd.func39 (by decide) rfl
end Go.Proofs.YtpfanhbkjajocaaDoor

/-
  Least as a value. Own work.
-/
namespace Go.Proofs.YtpfanhbkjajocaaDoor
open Go.AM
set_option maxRecDepth 100000

theorem mkLeast_ok (x : BitVec 64) (g : Fn) (a b : Array Value) (w : World) : HandsZ Tryd.prog 36 [.int .u64 (un x), .func g a b] w (.fn 68 [.ptr 0 0, .ptr 1 0])
    [(0, .cells 23 [.one (.v (.int .u64 (un x)))]), (1, .cells 52 [.one (.v (.func g a b))])] := by
  refine HandsZ.of_run Tryd.func36 rfl (by show 2 ≤ 6; decide) ?_
  refine RunF_sound tab_ok noX_local 100 [] _ _ rfl ?_ ?_
  · simp [okCell, argsT.ofConst', Value.oneCell']
  refine Run.retH tab_ok [(0, 0), (1, 1)] Tryd.func36 rfl trivial rfl ⟨rfl, rfl, trivial⟩ rfl
theorem mkLeast_enters : Enters Tryd.prog 36 := enters_mk Tryd.func36 (by decide) rfl
end Go.Proofs.YtpfanhbkjajocaaDoor

/-
  Least as an iterator: its contract. Own work.
-/
namespace Go.Proofs.YtpfanhbkjajocaaDoor
open Go.AM
set_option maxRecDepth 100000

/-- What is found and what has been asked, behind one more candidate. -/
def lsS (T : Ts) (s : List (BitVec 64) × List (BitVec 64)) (c : BitVec 64) : List (BitVec 64) × List (BitVec 64) :=
  if underB s.1 c then s else if letB T c then (s.1 ++ [c], s.2 ++ [c]) else (s.1, s.2 ++ [c])
def lsF (T : Ts) (cs : List (BitVec 64)) : List (BitVec 64) × List (BitVec 64) := cs.foldl (lsS T) ([], [])
theorem lsF_snoc (T : Ts) (cs : List (BitVec 64)) (c : BitVec 64) : lsF T (cs ++ [c]) = lsS T (lsF T cs) c := by simp [lsF]
theorem lsF_len (T : Ts) : ∀ cs : List (BitVec 64), (lsF T cs).1.length ≤ cs.length ∧ (lsF T cs).2.length ≤ cs.length := fun cs => by
  suffices H : ∀ (cs : List (BitVec 64)) (s : List (BitVec 64) × List (BitVec 64)), (cs.foldl (lsS T) s).1.length ≤ s.1.length + cs.length ∧ (cs.foldl (lsS T) s).2.length ≤ s.2.length + cs.length by
    have := H cs ([], []); simpa [lsF] using this
  intro cs
  induction cs with
  | nil => intro s; simp
  | cons c cs ih =>
    intro s
    have h := ih (lsS T s c)
    have h2 : (lsS T s c).1.length ≤ s.1.length + 1 ∧ (lsS T s c).2.length ≤ s.2.length + 1 := by
      unfold lsS
      by_cases h1 : underB s.1 c = true
      · simp [h1]
      · by_cases h3 : letB T c = true
        · simp [h1, h3]
        · simp [h1, h3]
    simp only [List.foldl_cons, List.length_cons]
    omega

abbrev U64 (c : BitVec 64) : Value := .int .u64 (un c)

/-- Least: it asks z, and hands what is let through to its argument. -/
def IterT (P : Program) (f : FuncId) (caps : List Value) (K : Nat → Prop) (w0 : World) (z : Value) (T : Ts) (cs : List (BitVec 64)) : Prop :=
  ∀ (g : Fn) (a b : Array Value) (J Js : List (BitVec 64) → List (BitVec 64) → Res) (w : World) (fp : Foot), (∀ F A, Local (J F A)) → (∀ F A, Local (Js F A)) →
    (∀ pre c, pre ++ [c] <+: cs → underB (lsF T pre).1 c = false → Does P z [U64 c] (J (lsF T pre).1 (lsF T pre).2) (fun v w' fp' => v = .bool (letB T c) ∧ J (lsF T pre).1 ((lsF T pre).2 ++ [c]) w' fp') fp w) →
    (∀ pre c, pre ++ [c] <+: cs → underB (lsF T pre).1 c = false → letB T c = true → Does P (.func g a b) [U64 c] (J (lsF T pre).1 ((lsF T pre).2 ++ [c]))
      (fun v w' fp' => v = .bool true ∧ J ((lsF T pre).1 ++ [c]) ((lsF T pre).2 ++ [c]) w' fp' ∨ v = .bool false ∧ Js ((lsF T pre).1 ++ [c]) ((lsF T pre).2 ++ [c]) w' fp') fp w) →
    J [] [] w fp → (∀ b, fp b → b < w.heap.size) → (∀ b, fp b → ¬ K b) → Agree (fun b => ¬ K b) w0 w →
      GivesR P f (.func g a b :: caps) w fun _ w' => ∃ fp', Grown fp w fp' w' ∧ (J (lsF T cs).1 (lsF T cs).2 w' fp' ∨ ∃ pre c, pre ++ [c] <+: cs ∧ underB (lsF T pre).1 c = false ∧ letB T c = true ∧ Js ((lsF T pre).1 ++ [c]) ((lsF T pre).2 ++ [c]) w' fp')

/-- The found, in its box; the argument, in its. -/
def sBk (id : Nat) : List (BitVec 64) → List (Nat × Blk)
  | [] => []
  | a :: l => [(id, .row 23 1 (l.length + 1) (encU (a :: l)))]
theorem sBk_app (id : Nat) (l : List (BitVec 64)) (c : BitVec 64) : sBk id (l ++ [c]) = [(id, .row 23 1 (l.length + 1) (encU (l ++ [c])))] := by
  cases l <;> simp [sBk]
def LB (y : Value) (F : List (BitVec 64)) : List (Nat × Blk) := (0, .cells 52 [.one (.v y)]) :: (1, .cells 85 [.one (uZ 2 F)]) :: sBk 2 F

def leastK (bs bt : Nat) : Nat → Prop := fun k => k = 0 ∨ k = bs ∨ k = bt

theorem cellAt {M : AM.Loc} {w : World} {id e : Nat} {v : Value} (hb : BlkAt M w id (.cells e [.one (.v v)])) : w.cell? ⟨(M id).1, 0, none⟩ = some v := by
  have h := hb.1
  simp [World.cell?, h, concSegs, conc]

theorem makeChoose_ok (x : BitVec 64) (k : Int) (w : World) : GivesR Tryd.prog 34 [.int .u64 (un x), .int .i64 k] w (fun v w' => Agree (fun _ => False) w w' ∧ ∃ bb cc, v = .func (.func 66) #[] #[.pointer (some ⟨bb, 0, none⟩), .pointer (some ⟨cc, 0, none⟩)] ∧
    w.heap.size ≤ bb ∧ w.heap.size ≤ cc ∧ WordAt w' bb x ∧ w'.cell? ⟨cc, 0, none⟩ = some (.int .i64 k)) := by
  refine Calls.mono' (mkChoose_ok x k w) fun _ w' ⟨v, h1, h2⟩ => ⟨v, h1, h2.agree, ?_⟩
  obtain ⟨M, e, hb, _⟩ := h2.ex
  have h0 := hb 0 _ rfl
  have h1 := hb 1 _ rfl
  refine ⟨(M 0).1, (M 1).1, by rw [← e]; simp [conc, concL], h0.2, h1.2, ?_, ?_⟩
  · exact cellAt h0.1
  · exact cellAt h1.1
end Go.Proofs.YtpfanhbkjajocaaDoor

/-
  Choose goes through all choices: in plain Lean. Own work.
-/
namespace Go.Proofs.YtpfanhbkjajocaaDoor
open Go.AM

theorem getD_out {l : List Int} {i : Nat} (h : l.length ≤ i) : l.getD i 0 = 0 := by
  rw [List.getD_eq_getElem?_getD, List.getElem?_eq_none h]; rfl
theorem ext_getD {a b : List Int} (hl : a.length = b.length) (h : ∀ i, a.getD i 0 = b.getD i 0) : a = b := by
  apply List.ext_getElem hl
  intro i h1 h2
  have := h i
  rw [List.getD_eq_getElem?_getD, List.getD_eq_getElem?_getD, List.getElem?_eq_getElem h1, List.getElem?_eq_getElem h2] at this
  exact this

/-- One choice is ahead of another. -/
def Ahead (a b : List Int) : Prop := ∃ p, p < a.length ∧ a.getD p 0 < b.getD p 0 ∧ ∀ i, p < i → a.getD i 0 = b.getD i 0

theorem dom_or {a b : List Int} (hl : a.length = b.length) : ∀ q, q ≤ a.length → (∀ i, i < q → a.getD i 0 ≤ b.getD i 0) → (∀ i, q ≤ i → a.getD i 0 = b.getD i 0) → a = b ∨ Ahead a b
  | 0, _, _, h => .inl (ext_getD hl fun i => h i (Nat.zero_le _))
  | q + 1, hq, h1, h2 => by
    have h3 := h1 q (by omega)
    by_cases c : a.getD q 0 = b.getD q 0
    · refine dom_or hl q (by omega) (fun i hi => h1 i (by omega)) fun i hi => ?_
      rcases Nat.lt_or_ge q i with h4 | h4
      · exact h2 i h4
      · have : i = q := by omega
        subst this; exact c
    · exact .inr ⟨q, by omega, by omega, fun i hi => h2 i hi⟩

theorem bump_get {l : List Int} {j : Nat} (hj : j < l.length) (i : Nat) : (bumpI l j).getD i 0 = if i < j then (i : Int) else if i = j then l.getD j 0 + 1 else l.getD i 0 := by
  unfold bumpI
  rw [List.getD_eq_getElem?_getD, rg_get _ _ _ (by rw [List.length_set]; omega)]
  by_cases h1 : i < j
  · rw [if_pos h1, if_pos h1]; rfl
  · rw [if_neg h1, if_neg h1, List.getElem?_set]
    by_cases h2 : i = j
    · subst h2; rw [if_pos rfl, if_pos hj, if_pos rfl]; rfl
    · rw [if_neg (fun e => h2 e.symm), if_neg h2, List.getD_eq_getElem?_getD]

theorem bump_len {l : List Int} {j : Nat} (hj : j < l.length) : (bumpI l j).length = l.length := by
  unfold bumpI; rw [rg_len _ _ (by rw [List.length_set]; omega), List.length_set]

theorem stepFrom_first {l : List Int} {n : Int} {p : Nat} (hp : l.getD p 0 + 1 < mostI l n p) : ∀ (d i : Nat), i ≤ p → p < i + d → ∃ j, i ≤ j ∧ j ≤ p ∧ stepFrom l n i d = some (bumpI l j)
  | 0, i, h1, h2 => by omega
  | d + 1, i, h1, h2 => by
    rw [stepFrom]
    by_cases c : l.getD i 0 + 1 < mostI l n i
    · rw [if_pos c]; exact ⟨i, Nat.le_refl _, h1, rfl⟩
    · rw [if_neg c]
      rcases Nat.eq_or_lt_of_le h1 with e | h3
      · subst e; exact absurd hp c
      · obtain ⟨j, q1, q2, q3⟩ := stepFrom_first hp d (i + 1) h3 (by omega)
        exact ⟨j, by omega, q2, q3⟩

/-- There is no gap. -/
theorem step_gap {n : Int} {l m : List Int} (hlm : l.length = m.length) (hgm : GoodI n m) (him : IncI n m) (h : Ahead l m) : ∃ l', stepI l n = some l' ∧ l'.length = m.length ∧ (l' = m ∨ Ahead l' m) := by
  obtain ⟨p, hp, h1, h2⟩ := h
  have hcond : l.getD p 0 + 1 < mostI l n p := by
    have h3 := him p (by omega)
    unfold mostI at h3 ⊢
    rw [hlm]
    by_cases c : p + 1 < m.length
    · rw [if_pos c] at h3 ⊢
      rw [h2 (p + 1) (by omega)]; omega
    · rw [if_neg c] at h3 ⊢
      omega
  obtain ⟨j, _, hj, hs⟩ := stepFrom_first hcond l.length 0 (Nat.zero_le _) (by omega)
  have hjl : j < l.length := by omega
  have hbl : (bumpI l j).length = m.length := by rw [bump_len hjl, hlm]
  refine ⟨_, hs, hbl, ?_⟩
  rcases Nat.eq_or_lt_of_le hj with e | hlt
  · subst e
    refine dom_or hbl (j + 1) (by omega) (fun i hi => ?_) fun i hi => ?_
    · rw [bump_get hjl]
      by_cases c : i < j
      · rw [if_pos c]; exact inc_ge hgm him i (by omega)
      · have : i = j := by omega
        subst this
        rw [if_neg c, if_pos rfl]; omega
    · rw [bump_get hjl, if_neg (by omega), if_neg (by omega)]
      exact h2 i (by omega)
  · refine .inr ⟨p, by omega, ?_, fun i hi => ?_⟩
    · rw [bump_get hjl, if_neg (by omega), if_neg (by omega)]; exact h1
    · rw [bump_get hjl, if_neg (by omega), if_neg (by omega)]; exact h2 i hi

theorem chain_all {n : Int} {m : List Int} (hgm : GoodI n m) (him : IncI n m) : ∀ (ls : List (List Int)) (l : List Int), Chain n l ls → l.length = m.length → (l = m ∨ Ahead l m) → m ∈ ls
  | [], l, hc, _, _ => by cases hc
  | l0 :: ls, l, hc, hl, h => by
    have e : l0 = l := by cases hc <;> rfl
    subst e
    rcases h with rfl | h
    · exact List.mem_cons_self
    · obtain ⟨l', h1, h2, h3⟩ := step_gap hl hgm him h
      cases hc with
      | stop h4 => rw [h1] at h4; cases h4
      | next h4 h5 =>
        rw [h1] at h4
        cases h4
        exact List.mem_cons_of_mem _ (chain_all hgm him ls l' h5 h2 h3)

/-- All choices are there. -/
theorem chain_has {n : Int} {k : Nat} {ls : List (List Int)} (hc : Chain n (rangeI k) ls) {m : List Int} (hm : m.length = k) (hgm : GoodI n m) (him : IncI n m) : m ∈ ls := by
  refine chain_all hgm him ls (rangeI k) hc (by rw [rangeI_len, hm]) ?_
  refine dom_or (by rw [rangeI_len, hm]) k (by rw [rangeI_len]; exact Nat.le_refl _) (fun i hi => ?_) fun i hi => ?_
  · rw [rangeI_get, if_pos hi]
    exact inc_ge hgm him i (by omega)
  · rw [rangeI_get, if_neg (by omega), getD_out (by omega)]

/-- What is in a chain is good, rises, and is there once. -/
theorem chain_good {n : Int} : ∀ (ls : List (List Int)) (l : List Int), Chain n l ls → GoodI n l → IncI n l → (l.length : Int) ≤ n → ∀ m ∈ ls, GoodI n m ∧ IncI n m ∧ m.length = l.length ∧ mS l ≤ mS m
  | [], l, hc, _, _, _ => by cases hc
  | l0 :: ls, l, hc, hg, hi, hl => by
    have e : l0 = l := by cases hc <;> rfl
    subst e
    intro m hm
    rcases List.mem_cons.1 hm with rfl | hm
    · exact ⟨hg, hi, rfl, Nat.le_refl _⟩
    · cases hc with
      | stop _ => cases hm
      | next h4 h5 =>
        obtain ⟨g1, g2⟩ := good_step hg hl h4
        have i1 := inc_step hg hi h4
        obtain ⟨q1, q2, q3, q4⟩ := chain_good ls _ h5 g1 i1 (by rw [g2]; exact hl) m hm
        have := mS_step hg hi h4
        exact ⟨q1, q2, by rw [q3, g2], by omega⟩
theorem chain_nodup {n : Int} : ∀ (ls : List (List Int)) (l : List Int), Chain n l ls → GoodI n l → IncI n l → (l.length : Int) ≤ n → ls.Nodup
  | [], l, _, _, _, _ => List.nodup_nil
  | l0 :: ls, l, hc, hg, hi, hl => by
    have e : l0 = l := by cases hc <;> rfl
    subst e
    cases hc with
    | stop _ => simp
    | next h4 h5 =>
      obtain ⟨g1, g2⟩ := good_step hg hl h4
      have i1 := inc_step hg hi h4
      have hrest := chain_nodup ls _ h5 g1 i1 (by rw [g2]; exact hl)
      refine List.nodup_cons.2 ⟨fun hm => ?_, hrest⟩
      have h6 := (chain_good ls _ h5 g1 i1 (by rw [g2]; exact hl) _ hm).2.2.2
      have := mS_step hg hi h4
      omega
end Go.Proofs.YtpfanhbkjajocaaDoor

/-
  Subsets and choices, counted: in plain Lean. Own work.
-/
namespace Go.Proofs.YtpfanhbkjajocaaDoor
open Go.AM

def Sub (x t : BitVec 64) : Prop := ∀ b, b < 64 → t.getLsbD b = true → x.getLsbD b = true
theorem sub_and {x t : BitVec 64} (h : Sub x t) : t &&& ~~~x = 0#64 := by
  apply BitVec.eq_of_getLsbD_eq
  intro b hb
  rw [BitVec.getLsbD_and, BitVec.getLsbD_not]
  have h0 : (0#64).getLsbD b = false := by simp
  rw [h0]
  cases ht : t.getLsbD b with
  | false => rfl
  | true => simp [h b hb ht, hb]

theorem rise_eq : ∀ (a b : List Int), a.Pairwise (· < ·) → b.Pairwise (· < ·) → (∀ z, z ∈ a ↔ z ∈ b) → a = b
  | [], [], _, _, _ => rfl
  | [], y :: b, _, _, h => by have := (h y).2 List.mem_cons_self; cases this
  | x :: a, [], _, _, h => by have := (h x).1 List.mem_cons_self; cases this
  | x :: a, y :: b, ha, hb, h => by
    obtain ⟨ha1, ha2⟩ := List.pairwise_cons.1 ha
    obtain ⟨hb1, hb2⟩ := List.pairwise_cons.1 hb
    have e : x = y := by
      rcases List.mem_cons.1 ((h x).1 List.mem_cons_self) with e | h1
      · exact e
      · rcases List.mem_cons.1 ((h y).2 List.mem_cons_self) with e | h2
        · exact e.symm
        · have := hb1 x h1; have := ha1 y h2; omega
    subst e
    rw [rise_eq a b ha2 hb2 fun z => ?_]
    constructor
    · intro hz
      rcases List.mem_cons.1 ((h z).1 (List.mem_cons_of_mem _ hz)) with e | h1
      · subst e; have := ha1 z hz; omega
      · exact h1
    · intro hz
      rcases List.mem_cons.1 ((h z).2 (List.mem_cons_of_mem _ hz)) with e | h1
      · subst e; have := hb1 z hz; omega
      · exact h1

theorem inc_rise {n : Int} {l : List Int} (h : IncI n l) : l.Pairwise (· < ·) := by
  have key : ∀ d i, i + d + 1 < l.length → l.getD i 0 < l.getD (i + d + 1) 0 := by
    intro d
    induction d with
    | zero => intro i hi; have := inc_climb h i hi; rw [Nat.add_zero]; omega
    | succ d ih =>
      intro i hi
      have h1 := ih i (by omega)
      have h2 := inc_climb h (i + d + 1) (by omega)
      rw [show i + (d + 1) + 1 = i + d + 1 + 1 by omega]
      omega
  rw [List.pairwise_iff_getElem]
  intro i j hi hj hij
  have := key (j - i - 1) i (by omega)
  rw [show i + (j - i - 1) + 1 = j by omega, List.getD_eq_getElem?_getD, List.getD_eq_getElem?_getD, List.getElem?_eq_getElem hi, List.getElem?_eq_getElem hj] at this
  exact this
theorem rise_inc {n : Int} {l : List Int} (hg : GoodI n l) (h : l.Pairwise (· < ·)) : IncI n l := fun i hi => by
  unfold mostI
  split
  · rename_i h2
    have := List.pairwise_iff_getElem.1 h i (i + 1) hi h2 (by omega)
    rw [List.getD_eq_getElem?_getD, List.getD_eq_getElem?_getD, List.getElem?_eq_getElem hi, List.getElem?_eq_getElem h2]
    show l[i] + 1 ≤ l[i + 1]
    omega
  · have := hg _ (getD_mem hi)
    omega

theorem set_at (x : BitVec 64) (l : List Int) (hg : GoodI ((bitsL x).length : Int) l) (i : Nat) (hi : i < (bitsL x).length) : (setOf (bitsL x) l).getLsbD (bitsL x)[i] = true ↔ (i : Int) ∈ l := by
  have hl := bitsL_len_le x
  rw [← within_set x l hg, wL_at x _ i hi]
  have := fold_bit (fun i => i.toNat) l 0#64 i (fun i hi => by have := hg i hi; omega)
  rw [show maskOf l = l.foldl (fun t i => t ||| 1#64 <<< i.toNat) 0#64 from rfl, this]
  constructor
  · rintro (h | ⟨z, hz, h⟩)
    · simp at h
    · have h0 := hg z hz
      have : z = (i : Int) := by have h1 : z.toNat = i := h; omega
      rwa [← this]
  · intro h
    exact .inr ⟨(i : Int), h, by simp⟩
theorem set_sub (x : BitVec 64) (l : List Int) (hg : GoodI ((bitsL x).length : Int) l) : Sub x (setOf (bitsL x) l) := fun b hb h => by
  rw [← within_set x l hg] at h
  obtain ⟨j, hj, _, h2⟩ := (wL_bit x _ b hb).1 h
  have := (mem_bitsL x _).1 (List.getElem_mem hj)
  rw [h2] at this
  exact this.2

/-- The places of a part. -/
def idx (x t : BitVec 64) : List Int := ((List.range (bitsL x).length).filter fun j => t.getLsbD ((bitsL x).getD j 0)).map fun j : Nat => (j : Int)
theorem idx_good (x t : BitVec 64) : GoodI ((bitsL x).length : Int) (idx x t) := fun z hz => by
  obtain ⟨j, hj, rfl⟩ := List.mem_map.1 hz
  have := List.mem_range.1 (List.mem_filter.1 hj).1
  omega
theorem idx_rise (x t : BitVec 64) : (idx x t).Pairwise (· < ·) := by
  unfold idx
  rw [List.pairwise_map]
  refine List.Pairwise.imp ?_ (List.Pairwise.filter _ List.pairwise_lt_range)
  intro a b h; omega
theorem idx_mem (x t : BitVec 64) (i : Nat) (hi : i < (bitsL x).length) : (i : Int) ∈ idx x t ↔ t.getLsbD (bitsL x)[i] = true := by
  have hg : (bitsL x).getD i 0 = (bitsL x)[i] := by rw [List.getD_eq_getElem?_getD, List.getElem?_eq_getElem hi]; rfl
  unfold idx
  rw [List.mem_map]
  constructor
  · rintro ⟨j, hj, e⟩
    have : j = i := by omega
    subst this
    rw [← hg]; exact (List.mem_filter.1 hj).2
  · intro h
    exact ⟨i, List.mem_filter.2 ⟨List.mem_range.2 hi, by rw [hg]; exact h⟩, rfl⟩
theorem idx_set (x : BitVec 64) (l : List Int) (hg : GoodI ((bitsL x).length : Int) l) (hi : IncI ((bitsL x).length : Int) l) : idx x (setOf (bitsL x) l) = l := by
  refine rise_eq _ _ (idx_rise _ _) (inc_rise hi) fun z => ?_
  constructor
  · intro hz
    have h := idx_good x _ z hz
    obtain ⟨i, rfl⟩ := Int.eq_ofNat_of_zero_le h.1
    have hil : i < (bitsL x).length := by omega
    exact (set_at x l hg i hil).1 ((idx_mem x _ i hil).1 hz)
  · intro hz
    have h := hg z hz
    obtain ⟨i, rfl⟩ := Int.eq_ofNat_of_zero_le h.1
    have hil : i < (bitsL x).length := by omega
    exact (idx_mem x _ i hil).2 ((set_at x l hg i hil).2 hz)
theorem set_idx (x t : BitVec 64) (h : Sub x t) : setOf (bitsL x) (idx x t) = t := by
  apply BitVec.eq_of_getLsbD_eq
  intro b hb
  by_cases hx : x.getLsbD b = true
  · obtain ⟨i, hi, e⟩ := List.getElem_of_mem ((mem_bitsL x b).2 ⟨hb, hx⟩)
    subst e
    rw [Bool.eq_iff_iff, set_at x _ (idx_good x t) i hi, idx_mem x t i hi]
  · have h1 : t.getLsbD b = false := by
      cases ht : t.getLsbD b with
      | false => rfl
      | true => exact absurd (h b hb ht) hx
    have h2 : (setOf (bitsL x) (idx x t)).getLsbD b = false := by
      cases ht : (setOf (bitsL x) (idx x t)).getLsbD b with
      | false => rfl
      | true => exact absurd (set_sub x _ (idx_good x t) b hb ht) hx
    rw [h1, h2]
theorem idx_len (x t : BitVec 64) (h : Sub x t) : (bitsL t).length = (idx x t).length := by
  have h1 : bitsL t = (bitsL x).filter fun b => t.getLsbD b := by
    unfold bitsL
    rw [List.filter_filter]
    apply List.filter_congr
    intro b hb
    have hb' := List.mem_range.1 hb
    cases ht : t.getLsbD b with
    | false => simp
    | true => simp [h b hb' ht]
  have h2 : bitsL x = (List.range (bitsL x).length).map fun j => (bitsL x).getD j 0 := by
    apply List.ext_getElem (by simp)
    intro i h3 h4
    simp [List.getD_eq_getElem?_getD, h3]
  rw [h1]
  conv => lhs; rw [h2]
  rw [List.filter_map, List.length_map]
  unfold idx
  rw [List.length_map]
  rfl
end Go.Proofs.YtpfanhbkjajocaaDoor

/-
  All parts of a set, each once; the choices are these. In plain Lean. Own work.
-/
namespace Go.Proofs.YtpfanhbkjajocaaDoor
open Go.AM

theorem hi_bit : ∀ (q p : Nat), p < q → ∃ i, p.testBit i = false ∧ q.testBit i = true ∧ ∀ j, i < j → p.testBit j = q.testBit j := by
  intro q
  induction q using Nat.strongRecOn with
  | _ q ih =>
    intro p h
    by_cases c : p / 2 = q / 2
    · refine ⟨0, ?_, ?_, fun j hj => ?_⟩
      · rw [Nat.testBit_zero]; have : p % 2 = 0 := by omega
        simp [this]
      · rw [Nat.testBit_zero]; have : q % 2 = 1 := by omega
        simp [this]
      · obtain ⟨j, rfl⟩ : ∃ k, j = k + 1 := ⟨j - 1, by omega⟩
        rw [Nat.testBit_succ, Nat.testBit_succ, c]
    · obtain ⟨i, h1, h2, h3⟩ := ih (q / 2) (by omega) (p / 2) (by omega)
      refine ⟨i + 1, by rw [Nat.testBit_succ]; exact h1, by rw [Nat.testBit_succ]; exact h2, fun j hj => ?_⟩
      obtain ⟨j, rfl⟩ : ∃ k, j = k + 1 := ⟨j - 1, by omega⟩
      rw [Nat.testBit_succ, Nat.testBit_succ]
      exact h3 j (by omega)

theorem lt_bit : ∀ (i p q : Nat), p.testBit i = false → q.testBit i = true → (∀ j, i < j → p.testBit j = q.testBit j) → p < q
  | 0, p, q, h1, h2, h3 => by
    have e : p / 2 = q / 2 := Nat.eq_of_testBit_eq fun j => by
      have := h3 (j + 1) (by omega)
      rwa [Nat.testBit_succ, Nat.testBit_succ] at this
    rw [Nat.testBit_zero] at h1 h2
    simp at h1 h2
    omega
  | i + 1, p, q, h1, h2, h3 => by
    rw [Nat.testBit_succ] at h1 h2
    have := lt_bit i (p / 2) (q / 2) h1 h2 fun j hj => by
      have := h3 (j + 1) (by omega)
      rwa [Nat.testBit_succ, Nat.testBit_succ] at this
    omega

theorem subs_lt (x : BitVec 64) {p q : Nat} (hq : q < 2 ^ (bitsL x).length) (h : p < q) : (subsF x p).toNat < (subsF x q).toNat := by
  obtain ⟨i, h1, h2, h3⟩ := hi_bit q p h
  have hl := bitsL_len_le x
  have hi : i < (bitsL x).length := by
    rcases Nat.lt_or_ge i (bitsL x).length with c | c
    · exact c
    · have : q.testBit i = false := Nat.testBit_lt_two_pow (Nat.lt_of_lt_of_le hq (Nat.pow_le_pow_right (by decide) c))
      rw [this] at h2; cases h2
  have hb := ((mem_bitsL x _).1 (List.getElem_mem hi)).1
  refine lt_bit (bitsL x)[i] _ _ ?_ ?_ fun j hj => ?_
  · have := wL_at x (BitVec.ofNat 64 p) i hi
    rw [ofNat_bit p i (by omega), h1] at this
    exact this
  · have := wL_at x (BitVec.ofNat 64 q) i hi
    rw [ofNat_bit q i (by omega), h2] at this
    exact this
  · show (subsF x p).getLsbD j = (subsF x q).getLsbD j
    by_cases hj64 : j < 64
    · rw [Bool.eq_iff_iff]
      unfold subsF
      rw [wL_bit x _ j hj64, wL_bit x _ j hj64]
      constructor
      · rintro ⟨k, hk, a1, a2⟩
        refine ⟨k, hk, ?_, a2⟩
        have hik : i < k := by
          rcases Nat.lt_or_ge i k with c | c
          · exact c
          · rcases Nat.eq_or_lt_of_le c with e | c
            · subst e; omega
            · have := rise_lt hk hi c; omega
        rw [ofNat_bit p k (by omega)] at a1
        rw [ofNat_bit q k (by omega), ← h3 k hik]; exact a1
      · rintro ⟨k, hk, a1, a2⟩
        refine ⟨k, hk, ?_, a2⟩
        have hik : i < k := by
          rcases Nat.lt_or_ge i k with c | c
          · exact c
          · rcases Nat.eq_or_lt_of_le c with e | c
            · subst e; omega
            · have := rise_lt hk hi c; omega
        rw [ofNat_bit q k (by omega)] at a1
        rw [ofNat_bit p k (by omega), h3 k hik]; exact a1
    · rw [BitVec.getLsbD_of_ge _ _ (by omega), BitVec.getLsbD_of_ge _ _ (by omega)]

theorem subs_sub (x : BitVec 64) (q : Nat) : Sub x (subsF x q) := fun b hb h => by
  obtain ⟨j, hj, _, h2⟩ := (wL_bit x _ b hb).1 h
  have := (mem_bitsL x _).1 (List.getElem_mem hj)
  rw [h2] at this
  exact this.2
theorem subs_nodup (x : BitVec 64) : (subsL x (2 ^ (bitsL x).length)).Nodup := by
  unfold subsL
  rw [List.nodup_iff_pairwise_ne, List.pairwise_map, List.pairwise_iff_getElem]
  intro i j hi hj hij
  simp only [List.getElem_range]
  have hj' : j < 2 ^ (bitsL x).length := by simpa using hj
  have := subs_lt x hj' hij
  intro e
  rw [e] at this
  omega
theorem subs_all (x t : BitVec 64) (h : Sub x t) : t ∈ subsL x (2 ^ (bitsL x).length) := by
  have hl := bitsL_len_le x
  have hg := idx_good x t
  have e := within_set x (idx x t) hg
  rw [set_idx x t h] at e
  have hlt : (maskOf (idx x t)).toNat < 2 ^ (bitsL x).length := by
    refine Nat.lt_pow_two_of_testBit _ fun i hi => ?_
    show (maskOf (idx x t)).getLsbD i = false
    cases hb : (maskOf (idx x t)).getLsbD i with
    | false => rfl
    | true =>
      rcases (fold_bit (fun i => i.toNat) (idx x t) 0#64 i (fun i hi => by have := hg i hi; omega)).1 hb with h1 | ⟨z, hz, h1⟩
      · simp at h1
      · have := hg z hz
        have h2 : z.toNat = i := h1
        omega
  unfold subsL
  refine List.mem_map.2 ⟨(maskOf (idx x t)).toNat, List.mem_range.2 hlt, ?_⟩
  unfold subsF
  rw [BitVec.ofNat_toNat, BitVec.setWidth_eq]
  exact e

theorem sub_len {α : Type} [DecidableEq α] : ∀ (a b : List α), a.Nodup → (∀ z ∈ a, z ∈ b) → a.length ≤ b.length
  | [], b, _, _ => Nat.zero_le _
  | x :: a, b, hn, h => by
    obtain ⟨h1, h2⟩ := List.nodup_cons.1 hn
    have hx := h x List.mem_cons_self
    have := sub_len a (b.erase x) h2 fun z hz => by
      have hzx : z ≠ x := fun e => h1 (by rw [← e]; exact hz)
      exact (List.mem_erase_of_ne hzx).2 (h z (List.mem_cons_of_mem _ hz))
    rw [List.length_erase_of_mem hx] at this
    have := List.length_pos_of_mem hx
    simp only [List.length_cons]
    omega

/-- What Choose goes through, for one size. -/
theorem chosen_mem {x : BitVec 64} {k : Nat} {xs : List (BitVec 64)} (h : Chosen x (k : Int) xs) (t : BitVec 64) : t ∈ xs ↔ Sub x t ∧ (bitsL t).length = k := by
  have hl := bitsL_len_le x
  cases h with
  | out h1 =>
    refine ⟨fun h => absurd h (List.not_mem_nil), fun ⟨h2, h3⟩ => ?_⟩
    exfalso
    have h4 := idx_len x t h2
    have h5 : (idx x t).length ≤ (bitsL x).length := by
      unfold idx; rw [List.length_map]
      exact Nat.le_trans (List.length_filter_le _ _) (by simp)
    omega
  | @mk ls h1 h2 hc =>
    rw [Int.toNat_natCast] at hc
    have hgr := good_range (n := ((bitsL x).length : Int)) (k := k) (by omega)
    have hir := inc_range (n := ((bitsL x).length : Int)) (k := k) (by omega)
    have hgood := chain_good ls _ hc hgr hir (by rw [rangeI_len]; exact h2)
    constructor
    · intro ht
      obtain ⟨l, hl', rfl⟩ := List.mem_map.1 ht
      obtain ⟨g1, g2, g3, _⟩ := hgood l hl'
      have hs := set_sub x l g1
      refine ⟨hs, ?_⟩
      rw [idx_len x _ hs, idx_set x l g1 g2, g3, rangeI_len]
    · rintro ⟨hs, hk⟩
      refine List.mem_map.2 ⟨idx x t, ?_, set_idx x t hs⟩
      exact chain_has hc (by rw [← idx_len x t hs]; exact hk) (idx_good x t) (rise_inc (idx_good x t) (idx_rise x t))
theorem chosen_nodup {x : BitVec 64} {k : Nat} {xs : List (BitVec 64)} (h : Chosen x (k : Int) xs) : xs.Nodup := by
  cases h with
  | out _ => exact List.nodup_nil
  | @mk ls h1 h2 hc =>
    rw [Int.toNat_natCast] at hc
    have hgr := good_range (n := ((bitsL x).length : Int)) (k := k) (by omega)
    have hir := inc_range (n := ((bitsL x).length : Int)) (k := k) (by omega)
    have hgood := chain_good ls _ hc hgr hir (by rw [rangeI_len]; exact h2)
    have hnd := chain_nodup ls _ hc hgr hir (by rw [rangeI_len]; exact h2)
    rw [List.nodup_iff_pairwise_ne, List.pairwise_map]
    rw [List.nodup_iff_pairwise_ne] at hnd
    refine List.Pairwise.imp_of_mem ?_ hnd
    intro a b ha hb hne e
    obtain ⟨a1, a2, _, _⟩ := hgood a ha
    obtain ⟨b1, b2, _, _⟩ := hgood b hb
    have h3 := idx_set x a a1 a2
    rw [e, idx_set x b b1 b2] at h3
    exact hne h3.symm

/-- All choices up to a size. -/
def allC (cl : Nat → List (BitVec 64)) (k : Nat) : List (BitVec 64) := (List.range k).flatMap cl
theorem allC_succ (cl : Nat → List (BitVec 64)) (k : Nat) : allC cl (k + 1) = allC cl k ++ cl k := by
  unfold allC; rw [List.range_succ, List.flatMap_append]; simp
theorem allC_mem {x : BitVec 64} {cl : Nat → List (BitVec 64)} (h : ∀ k : Nat, Chosen x (k : Int) (cl k)) (k : Nat) (t : BitVec 64) : t ∈ allC cl k ↔ Sub x t ∧ (bitsL t).length < k := by
  unfold allC
  rw [List.mem_flatMap]
  constructor
  · rintro ⟨i, hi, ht⟩
    obtain ⟨h1, h2⟩ := (chosen_mem (h i) t).1 ht
    exact ⟨h1, by rw [h2]; exact List.mem_range.1 hi⟩
  · rintro ⟨h1, h2⟩
    exact ⟨(bitsL t).length, List.mem_range.2 h2, (chosen_mem (h _) t).2 ⟨h1, rfl⟩⟩
theorem allC_nodup {x : BitVec 64} {cl : Nat → List (BitVec 64)} (h : ∀ k : Nat, Chosen x (k : Int) (cl k)) : ∀ k, (allC cl k).Nodup
  | 0 => List.nodup_nil
  | k + 1 => by
    rw [allC_succ]
    refine List.nodup_append.2 ⟨allC_nodup h k, chosen_nodup (h k), fun a ha b hb e => ?_⟩
    subst e
    have h1 := (allC_mem h k a).1 ha
    have h2 := (chosen_mem (h k) a).1 hb
    omega
theorem allC_len {x : BitVec 64} {cl : Nat → List (BitVec 64)} (h : ∀ k : Nat, Chosen x (k : Int) (cl k)) {k : Nat} (hk : (bitsL x).length < k) : (allC cl k).length = 2 ^ (bitsL x).length := by
  have hlen : ∀ t, Sub x t → (bitsL t).length ≤ (bitsL x).length := fun t ht => by
    rw [idx_len x t ht]
    unfold idx; rw [List.length_map]
    exact Nat.le_trans (List.length_filter_le _ _) (by simp)
  have h1 := sub_len (allC cl k) (subsL x (2 ^ (bitsL x).length)) (allC_nodup h k) fun z hz => subs_all x z ((allC_mem h k z).1 hz).1
  have h2 := sub_len (subsL x (2 ^ (bitsL x).length)) (allC cl k) (subs_nodup x) fun z hz => by
    unfold subsL at hz
    obtain ⟨q, _, rfl⟩ := List.mem_map.1 hz
    have hs := subs_sub x q
    exact (allC_mem h k _).2 ⟨hs, by have := hlen _ hs; omega⟩
  rw [subsL_len] at h1 h2
  omega
end Go.Proofs.YtpfanhbkjajocaaDoor

/-
  SetsCounts: what lies in the map. Own work.
-/
namespace Go.Proofs.YtpfanhbkjajocaaDoor
open Go.AM
set_option maxRecDepth 100000

theorem makeSubs_ok (x : BitVec 64) (w : World) : GivesR Tryd.prog 32 [.int .u64 (un x)] w (fun v w' => Agree (fun _ => False) w w' ∧ ∃ bb, v = .func (.func 64) #[] #[.pointer (some ⟨bb, 0, none⟩)] ∧
    w.heap.size ≤ bb ∧ WordAt w' bb x) := by
  refine Calls.mono' (mkSubs_ok x w) fun _ w' ⟨v, h1, h2⟩ => ⟨v, h1, h2.agree, ?_⟩
  obtain ⟨M, e, hb, _⟩ := h2.ex
  have h0 := hb 0 _ rfl
  refine ⟨(M 0).1, by rw [← e]; simp [conc, concL], h0.2, ?_⟩
  exact cellAt h0.1

/-- The map: all subsets, with 2 at what has been gone through. -/
def mpL (SU V : List (BitVec 64)) : List (Int × Int) := SU.map fun t => (un t, if t ∈ V then 2 else 1)

theorem mp_split {SU V : List (BitVec 64)} {c : BitVec 64} (hn : SU.Nodup) (hc : c ∈ SU) (hv : c ∉ V) : ∃ A B, mpL SU V = A ++ (un c, 1) :: B ∧ mpL SU (V ++ [c]) = A ++ (un c, 2) :: B ∧ ∀ p ∈ A, p.1 ≠ un c := by
  obtain ⟨A, B, rfl⟩ := List.append_of_mem hc
  rw [List.nodup_append] at hn
  obtain ⟨hA, hB, hAB⟩ := hn
  have hcA : ∀ t ∈ A, t ≠ c := fun t ht e => hAB t ht c (by simp) e
  have hcB : ∀ t ∈ B, t ≠ c := fun t ht e => (List.nodup_cons.1 hB).1 (e ▸ ht)
  refine ⟨mpL A V, mpL B V, by simp [mpL, hv], ?_, ?_⟩
  · simp only [mpL, List.map_append, List.map_cons, List.mem_append, List.mem_singleton, or_true, if_true]
    congr 1
    · exact List.map_congr_left fun t ht => by simp [hcA t ht]
    · congr 1
      exact List.map_congr_left fun t ht => by simp [hcB t ht]
  · intro p hp
    simp only [mpL, List.mem_map] at hp
    obtain ⟨t, ht, rfl⟩ := hp
    intro e
    exact hcA t ht (un_inj.1 e)

/-- The map while it is laid. -/
def mqL (l : List (BitVec 64)) : List (Int × Int) := l.map fun t => (un t, 1)
theorem mqL_snoc (l : List (BitVec 64)) (c : BitVec 64) : mqL (l ++ [c]) = mqL l ++ [(un c, 1)] := by simp [mqL]
theorem mqL_all (SU : List (BitVec 64)) : mqL SU = mpL SU [] := by simp [mqL, mpL]
theorem mqL_new {SU : List (BitVec 64)} (hn : SU.Nodup) {j : Nat} (hj : j < SU.length) : ∀ p ∈ mqL (SU.take j), p.1 ≠ un SU[j] := by
  intro p hp e
  simp only [mqL, List.mem_map] at hp
  obtain ⟨t, ht, rfl⟩ := hp
  have := un_inj.1 e
  obtain ⟨i, hi, hti⟩ := List.mem_take_iff_getElem.1 ht
  subst hti
  have h1 : SU[i] ≠ SU[j] := List.pairwise_iff_getElem.1 hn i j (by omega) hj (by omega)
  exact h1 this

/-- What is gone through of the sets of one size. -/
def clI (cl : Nat → List (BitVec 64)) (k : Int) : List (BitVec 64) := if k < 0 then [] else cl k.toNat
def visI (cl : Nat → List (BitVec 64)) (k : Int) : List (BitVec 64) := allC cl k.toNat
theorem vis_step (cl : Nat → List (BitVec 64)) (k : Int) (hk : -1 ≤ k) : visI cl (k + 1) = visI cl k ++ clI cl k := by
  rcases Int.lt_or_le k 0 with h | h
  · obtain rfl : k = -1 := by omega
    simp [visI, clI, allC]
  · obtain ⟨n, rfl⟩ := Int.eq_ofNat_of_zero_le h
    have e : ((n : Int) + 1).toNat = n + 1 := by omega
    have e2 : ¬ ((n : Int) < 0) := by omega
    simp only [visI, clI, e, e2, if_false, Int.toNat_natCast]
    exact allC_succ cl n
theorem cl_chosen {x : BitVec 64} {cl : Nat → List (BitVec 64)} (h : ∀ k : Nat, Chosen x (k : Int) (cl k)) (k : Int) : Chosen x k (clI cl k) := by
  rcases Int.lt_or_le k 0 with h1 | h1
  · rw [clI, if_pos h1]; exact .out (.inl h1)
  · obtain ⟨n, rfl⟩ := Int.eq_ofNat_of_zero_le h1
    rw [clI, if_neg (by omega)]
    exact h n
theorem cl_size {x : BitVec 64} {cl : Nat → List (BitVec 64)} (h : ∀ k : Nat, Chosen x (k : Int) (cl k)) (k : Int) {c : BitVec 64} (hc : c ∈ clI cl k) : ((bitsL c).length : Int) = k ∧ Sub x c := by
  rcases Int.lt_or_le k 0 with h1 | h1
  · rw [clI, if_pos h1] at hc; cases hc
  · obtain ⟨n, rfl⟩ := Int.eq_ofNat_of_zero_le h1
    rw [clI, if_neg (by omega)] at hc
    have := (chosen_mem (h n) c).1 (by simpa using hc)
    exact ⟨by rw [this.2], this.1⟩
theorem vis_nodup {x : BitVec 64} {cl : Nat → List (BitVec 64)} (h : ∀ k : Nat, Chosen x (k : Int) (cl k)) (k : Int) : (visI cl k).Nodup := allC_nodup h _
theorem vis_len {x : BitVec 64} {cl : Nat → List (BitVec 64)} (h : ∀ k : Nat, Chosen x (k : Int) (cl k)) (k : Int) (hk : ((bitsL x).length : Int) < k) : (visI cl k).length = 2 ^ (bitsL x).length := allC_len h (by omega)
theorem vis_le {x : BitVec 64} {cl : Nat → List (BitVec 64)} (h : ∀ k : Nat, Chosen x (k : Int) (cl k)) (k : Int) : (visI cl k).length ≤ 2 ^ (bitsL x).length := by
  have h1 := sub_len (visI cl k) (subsL x (2 ^ (bitsL x).length)) (vis_nodup h k) fun z hz => subs_all x z ((allC_mem h _ z).1 hz).1
  rwa [subsL_len] at h1
end Go.Proofs.YtpfanhbkjajocaaDoor

/-
  SetsCounts: the walk. Own work.
-/
namespace Go.Proofs.YtpfanhbkjajocaaDoor
open Go.AM
set_option maxRecDepth 100000

def lastV (x : BitVec 64) (j : Nat) : Int := if j = 0 then 0 else un (subsF x (j - 1))

/-- What lies in the statement's blocks while the map is laid. -/
def cB (x : BitVec 64) (n : Nat) (j : Nat) : List (Nat × Blk) :=
  [(0, .cells 23 [.one (.v (.int .u64 (un x)))]), (1, .cells 4 [.one (.tt false)]), (2, .map (encM .u64 .i64 (mqL ((subsL x (2 ^ n)).take j)))), (3, .cells 80 [.one (.mp 2)]),
    (4, .cells 23 [.one (.v (.int .u64 (lastV x j)))]), (5, .cells 3 [.one (.v (.int .i64 (j : Int)))])]

/-- What lies there while the sets of one size are gone through. -/
def dB (x : BitVec 64) (n : Nat) (V : List (BitVec 64)) (k : Int) : List (Nat × Blk) :=
  [(0, .cells 23 [.one (.v (.int .u64 (un x)))]), (1, .cells 4 [.one (.tt false)]), (2, .map (encM .u64 .i64 (mpL (subsL x (2 ^ n)) V))), (3, .cells 80 [.one (.mp 2)]),
    (5, .cells 3 [.one (.v (.int .i64 (((2 ^ n : Nat) : Int) - (V.length : Int))))]), (6, .cells 3 [.one (.v (.int .i64 k))])]

abbrev ctR (w : World) : Value → World → Prop := fun v' w' => v' = .bool true ∧ Agree (fun _ => False) w w'

set_option maxHeartbeats 1000000 in
theorem counts_ok (x : BitVec 64) (w : World) (hT : TabAt w) (h0 : 0 < w.heap.size) : Gives Tryd.prog 12 [.int .u64 (un x)] w (.bool true) := by
  refine Gives.of_run Tryd.func12 rfl (by show 1 ≤ 83; decide) ?_
  have hTA : ∀ w', Agree (fun _ => False) w w' → TabAt w' := fun w' hA => hT.agree hA (fun f => f)
  have hSA : ∀ w', Agree (fun _ => False) w w' → 0 < w'.heap.size := fun w' hA => Nat.lt_of_lt_of_le h0 hA.size
  have hsz := fun w' => size_ok x w'
  have hl64 := bitsL_len_le x
  refine RunF_sound tab_ok noX_local 100 [] _ _ rfl ?_ ?_
  · simp [okCell, argsT.ofConst', ofConst, Value.oneCell']
  refine Run.callFn (r := .bool true) noX_local rfl rfl rfl rfl rfl rfl rfl awake_enters rfl (fun w' hA => awake_ok w' (hTA w' hA) (hSA w' hA)) ?_
  refine RunF_sound tab_ok noX_local 100 [false] _ _ rfl ?_ ?_
  · simp
  obtain ⟨n, hn⟩ : ∃ n, n = (bitsL x).length := ⟨_, rfl⟩
  rw [← hn] at hl64
  have hsz' : ∀ w', Gives Tryd.prog 19 [.int .u64 (un x)] w' (.int .i64 (n : Int)) := fun w' => by rw [hn]; exact hsz w'
  refine Run.callFn (r := .int .i64 (n : Int)) noX_local rfl rfl rfl rfl rfl rfl rfl size_enters rfl (fun w' _ => hsz' w') ?_
  by_cases h12 : (n : Int) > 12
  · refine RunF_sound tab_ok noX_local 100 [true] _ _ rfl ?_ ?_
    · simp [h12, okCell, ofConst]
    refine Run.retP tab_ok Tryd.func12 rfl ?_ (fun M => rfl)
    simp
  refine RunF_sound tab_ok noX_local 100 [false] _ _ rfl ?_ ?_
  · simp
    omega
  refine Run.mkMap noX_local rfl rfl rfl rfl rfl ?_
  refine RunF_sound tab_ok noX_local 100 [] _ _ rfl ?_ ?_
  · simp [okCell, ofConst, Value.oneCell']
  refine Run.callR noX_local rfl rfl rfl rfl rfl rfl mkSubs_enters rfl (fun M w' _ _ => makeSubs_ok x w') ?_
  rintro v w2 w1 S1 hag hag2 ⟨bb, rfl, hbl, hW⟩ hS1
  have hB1 := (Based.refl w).call hag hag2 hS1
  have hbw1 : bb < w1.heap.size := World.block_lt_of_cell? w1 _ hW
  have hS1b : ¬ S1 bb := hS1.new bb hbl
  refine ⟨.v (.func (.func 64) #[] #[.pointer (some ⟨bb, 0, none⟩)]), fun M => rfl, ?_⟩
  refine RunF_sound tab_ok noX_local 100 [] _ _ rfl ?_ ?_
  · simp
  refine Run.fnNil tab_ok rfl rfl rfl rfl rfl rfl ?_
  refine RunF_sound tab_ok noX_local 100 [] _ _ rfl ?_ ?_
  · simp
  have hit := subsets_iter x bb w1 hW
  rw [← hn] at hit
  have hSl : (subsL x (2 ^ n)).length = 2 ^ n := subsL_len _ _
  have hSg : ∀ j (h : j < (subsL x (2 ^ n)).length), (subsL x (2 ^ n))[j] = subsF x j := fun j h => by simp [subsL]
  have hSn : (subsL x (2 ^ n)).Nodup := by rw [hn]; exact subs_nodup x
  have h2n : 2 ^ n ≤ 2 ^ 12 := Nat.pow_le_pow_right (by omega) (by omega)
  have hcs : ∀ t, Sub x t → t ∈ subsL x (2 ^ n) := fun t ht => by rw [hn]; exact subs_all x t ht
  have hlt : ∀ p q, q < 2 ^ n → p < q → (subsF x p).toNat < (subsF x q).toNat := fun p q h1 h2 => subs_lt x (by rw [← hn]; exact h1) h2
  have hand : ∀ q, subsF x q &&& ~~~x = 0#64 := fun q => sub_and (subs_sub x q)
  show Run (opM Tryd.prog 12 0 (Tryd.f12).ntmps #[] w1 S1 noX (ctR w) []) _ _
  refine Run.rangeFnM (fun _ : Unit => noX) (fun _ => noX_local) () rfl (fun M => rfl) subsetsIt_enters 8 [] [(1, .ptr 0 0), (2, .ptr 1 0), (3, .v (.int .i64 (n : Int))), (4, .ptr 3 0), (5, .ptr 4 0), (6, .ptr 5 0)]
    trivial rfl ⟨rfl, rfl, rfl, rfl, rfl, rfl, trivial⟩ rfl rfl hit
    (fun j hj => by rw [hj]; exact ⟨hbw1, hS1b⟩)
    (fun z hz => by simp only [encBs, List.mem_map] at hz; obtain ⟨e, _, rfl⟩ := hz; rfl)
    (fun pre _ h => ∃ j, j ≤ (subsL x (2 ^ n)).length ∧ pre = encBs ((subsL x (2 ^ n)).take j) ∧ h = cB x n j)
    (fun _ _ _ _ => False) 6 (cB x n 0) ⟨0, Nat.zero_le _, rfl, rfl⟩ ?_ ?_ ?_ ?_
  · exact ⟨rfl, rfl, rfl, rfl, rfl, rfl, trivial⟩
  · rintro D l a0 rc wy fpy pre z s h Rr hI hpx ⟨j, hj, rfl, rfl⟩ hRr
    obtain ⟨hjl, rfl⟩ := encBs_next hj hpx
    have hnext := encBs_succ hjl
    have hnew := mqL_new hSn hjl
    have hsn := mqL_snoc ((subsL x (2 ^ n)).take j) (subsL x (2 ^ n))[j]
    rw [← List.take_succ_eq_append_getElem hjl] at hsn
    have hg := hSg j hjl
    have hloc : ∀ st, Local (roundX (marksX noX (D :: [])) l rc st) := fun st => roundX_local (marksX_local noX_local _) l rc st
    generalize (subsL x (2 ^ n))[j] = c at *
    subst hg
    have hend : ∀ σ, inT σ.t [(1, .ptr 0 0), (2, .ptr 1 0), (3, .v (.int .i64 (n : Int))), (4, .ptr 3 0), (5, .ptr 4 0), (6, .ptr 5 0)] → inT σ.h (cB x n (j + 1)) → Run (roundC (opM Tryd.prog 12 0 (Tryd.f12).ntmps #[] w1 S1 noX (ctR w) (D :: [])) 8 a0 l rc .busy wy fpy Rr) [] σ := fun σ ht hh => by
      refine Run.to (n' := 6) ?_ ht hh
      exact Run.roundMono (hRr ()) (Run.roundEnd (hI ()) [] (cB x n (j + 1)) ⟨j + 1, hjl, hnext, rfl⟩ ⟨rfl, rfl, rfl, rfl, rfl, rfl, trivial⟩ ⟨rfl, rfl, rfl, rfl, rfl, rfl, trivial⟩ rfl)
    refine RunF_sound tab_ok (hloc .ready) 100 [] _ _ rfl ?_ ?_
    · simp
    refine Run.beginRound (hI ()).loc (hI ()).lw ?_
    suffices G : ∀ σ, inT σ.t [(1, .ptr 0 0), (2, .ptr 1 0), (3, .v (.int .i64 (n : Int))), (4, .ptr 3 0), (5, .ptr 4 0), (6, .ptr 5 0), (8, .v (.int .u64 (un (subsF x j)))), (38, .mp 2), (39, .v (.int .u64 (un (subsF x j))))] → inT σ.h (cB x n j) → Run (roundC (opM Tryd.prog 12 0 (Tryd.f12).ntmps #[] w1 S1 noX (ctR w) (D :: [])) 8 a0 l rc .busy wy fpy Rr) _ σ by
      have ha := hand j
      rcases Nat.eq_zero_or_pos j with hj0 | hj0
      · subst hj0
        refine RunF_sound tab_ok (hloc .busy) 100 [false, false] _ _ rfl ?_ ?_
        · simp [ha]
        exact G _ ⟨rfl, rfl, rfl, rfl, rfl, rfl, rfl, rfl, rfl, trivial⟩ ⟨rfl, rfl, rfl, rfl, rfl, rfl, trivial⟩
      · refine RunF_sound tab_ok (hloc .busy) 100 [false, true, false] _ _ rfl ?_ ?_
        · have h1 := hlt (j - 1) j (by omega) (by omega)
          have h2 : j ≠ 0 := by omega
          have h3 : un (subsF x (j - 1)) < un (subsF x j) := by unfold un; omega
          simp [ha, lastV, h2]
          omega
        exact G _ ⟨rfl, rfl, rfl, rfl, rfl, rfl, rfl, rfl, rfl, trivial⟩ ⟨rfl, rfl, rfl, rfl, rfl, rfl, trivial⟩
    intro σ ht hh
    refine Run.to ?_ ht hh (n' := 6)
    refine Run.mapNew tab_ok (hloc .busy) rfl rfl rfl rfl rfl rfl rfl rfl rfl hnew rfl ?_
    refine RunF_sound tab_ok (hloc .busy) 100 [] _ _ rfl ?_ ?_
    · simp [okCell, Value.oneCell']
    refine hend _ ⟨rfl, rfl, rfl, rfl, rfl, rfl, trivial⟩ ⟨rfl, rfl, ?_, rfl, ?_, ?_, trivial⟩
    · exact congrArg (fun z => some (Blk.map (encM .u64 .i64 z))) hsn.symm
    · exact congrArg (fun z => some (Blk.cells 23 [.one (.v (.int .u64 z))])) (show un (subsF x j) = lastV x (j + 1) by simp [lastV])
    · exact congrArg (fun z => some (Blk.cells 3 [.one (.v (.int .i64 z))])) (wrap_succ (by omega))
  · rintro D s h ⟨j, hj, hx', rfl⟩
    have hjl := encBs_all hj hx'
    rw [hSl] at hjl
    subst hjl
    clear hx' hit hlt hand
    have hm0 : mqL ((subsL x (2 ^ n)).take (2 ^ n)) = mpL (subsL x (2 ^ n)) [] := by rw [List.take_of_length_le (by omega), mqL_all]
    have hmpl : ∀ V, (encM .u64 .i64 (mpL (subsL x (2 ^ n)) V)).length = 2 ^ n := fun V => by simp [encM, mpL, hSl]
    refine Run.to (t' := [(1, .ptr 0 0), (2, .ptr 1 0), (3, .v (.int .i64 (n : Int))), (4, .ptr 3 0), (6, .ptr 5 0)])
      (h' := (dB x n [] 0).take 5) (n' := 6) ?_ ⟨rfl, rfl, rfl, rfl, rfl, trivial⟩ ⟨rfl, rfl, congrArg (fun z => some (Blk.map (encM .u64 .i64 z))) hm0, rfl, congrArg (fun z => some (Blk.cells 3 [.one (.v (.int .i64 z))])) (by simp), trivial⟩
    have hLm : ∀ Ds, Local (marksX noX Ds) := marksX_local noX_local
    refine RunF_sound tab_ok (hLm _) 100 [] _ _ rfl ?_ ?_
    · simp
    refine Run.drawA (hLm _) rfl [] [(2, .map (encM .u64 .i64 (mpL (subsL x (2 ^ n)) []))), (3, .cells 80 [.one (.mp 2)]), (5, .cells 3 [.one (.v (.int .i64 (((2 ^ n : Nat) : Int) - (([] : List (BitVec 64)).length : Int))))])] rfl rfl ⟨rfl, rfl, rfl, trivial⟩ ?_
    refine RunOF_sound tab_ok (hLm _) rfl rfl 100 [false] _ _ rfl ?_ ?_
    · simp
      simp only [shlI, IntKind.bits, Int.toNat_natCast, Nat.min_eq_left hl64]
      have h3 : (1 : Int) * 2 ^ n = ((2 ^ n : Nat) : Int) := by push_cast; omega
      rw [h3, wrap_i64 (by omega) (by omega)]
      push_cast; rfl
    refine RunO.mapLen tab_ok rfl rfl rfl rfl rfl rfl rfl rfl rfl rfl rfl rfl ?_
    rw [hmpl]
    refine RunOF_sound tab_ok (hLm _) rfl rfl 100 [] _ _ rfl ?_ ?_
    · simp
    refine RunO.done ?_
    refine RunF_sound tab_ok (hLm _) 100 [false] _ _ rfl ?_ ?_
    · simp [okCell, ofConst, Value.oneCell']
    clear hmpl hm0
    obtain ⟨cl, hcl⟩ : ∃ cl : Nat → List (BitVec 64), ∀ k : Nat, Chosen x (k : Int) (cl k) := ⟨fun k => Classical.choose (chosen_ex x (k : Int)), fun k => Classical.choose_spec (chosen_ex x (k : Int))⟩
    suffices H : ∀ (d : Nat) (k : Int), k + d = n + 2 → -1 ≤ k → ∀ (w1 : World) (S1 : Foot) (Ds : List Nat), Based w w1 S1 →
        Run (opM Tryd.prog 12 0 (Tryd.f12).ntmps #[] w1 S1 noX (ctR w) Ds) _ ⟨[(1, .ptr 0 0), (2, .ptr 1 0), (3, .v (.int .i64 (n : Int))), (4, .ptr 3 0), (6, .ptr 5 0), (9, .ptr 6 0)], dB x n (visI cl k) k, 7⟩ by
      exact Run.to (H (n + 3) (-1) (by omega) (by omega) w1 S1 [D] hB1) ⟨rfl, rfl, rfl, rfl, rfl, rfl, trivial⟩ ⟨rfl, rfl, rfl, rfl, rfl, rfl, trivial⟩
    clear hB1 hag hag2 hS1 hbw1 hS1b hW hbl
    intro d
    induction d with
    | zero =>
      intro k hk hk1 w1 S1 Ds hB
      have hl := vis_len hcl k (by rw [← hn]; omega)
      rw [← hn] at hl
      have hc0 : ((2 ^ n : Nat) : Int) - ((visI cl k).length : Int) = 0 := by rw [hl]; omega
      refine Run.to (t' := [(1, .ptr 0 0), (2, .ptr 1 0), (3, .v (.int .i64 (n : Int))), (6, .ptr 5 0), (9, .ptr 6 0)])
        (h' := [(1, .cells 4 [.one (.tt false)]), (5, .cells 3 [.one (.v (.int .i64 0))]), (6, .cells 3 [.one (.v (.int .i64 k))])]) (n' := 7) ?_ ⟨rfl, rfl, rfl, rfl, rfl, trivial⟩
        ⟨rfl, congrArg (fun z => some (Blk.cells 3 [.one (.v (.int .i64 z))])) hc0, rfl, trivial⟩
      refine RunF_sound tab_ok (hLm _) 100 [false] _ _ rfl ?_ ?_
      · simp [okCell, Value.oneCell']
        rw [wrap_i64 (by omega) (by omega)]
        omega
      rw [opM_eq]
      refine Run.retB tab_ok noX_local hB Tryd.func12 rfl ?_ (fun M => rfl)
      simp
    | succ d ih =>
      intro k hk hk1 w1 S1 Ds hB
      refine RunF_sound tab_ok (hLm _) 100 [true] _ _ rfl ?_ ?_
      · simp
        rw [wrap_i64 (by omega) (by omega)]
        omega
      refine Run.callR (hLm _) rfl rfl rfl rfl rfl rfl mkChoose_enters rfl (fun M w' _ _ => makeChoose_ok x k w') ?_
      rintro v w2 w3 S3 hag2 hag3 ⟨bb, cc, rfl, hbl, hcl', hW, hC⟩ hS3
      have hB3 := hB.call hag2 hag3 hS3
      refine ⟨.v (.func (.func 66) #[] #[.pointer (some ⟨bb, 0, none⟩), .pointer (some ⟨cc, 0, none⟩)]), fun M => rfl, ?_⟩
      refine RunF_sound tab_ok (hLm _) 100 [] _ _ rfl ?_ ?_
      · simp
      refine Run.fnNil tab_ok rfl rfl rfl rfl rfl rfl ?_
      refine RunF_sound tab_ok (hLm _) 100 [] _ _ rfl ?_ ?_
      · simp
      have hS3bb : ¬ S3 bb := hS3.new bb hbl
      have hS3cc : ¬ S3 cc := hS3.new cc hcl'
      have hbw3 : bb < w3.heap.size := World.block_lt_of_cell? w3 _ hW
      have hcw3 : cc < w3.heap.size := World.block_lt_of_cell? w3 _ hC
      have hT3 : TabAt w3 := hTA w3 hB3.agree
      have h03 : 0 < w3.heap.size := hSA w3 hB3.agree
      have hS30 : ¬ S3 0 := fun h => by have := hB3.new 0 h; omega
      have hit := choose_iter x k bb cc w3 hW hC hT3 h03 (clI cl k) (cl_chosen hcl k)
      have hvs := vis_step cl k hk1
      have hvn := vis_nodup hcl (k + 1)
      rw [hvs] at hvn
      have hcz : ∀ c ∈ clI cl k, ((bitsL c).length : Int) = k ∧ Sub x c := fun c hc => cl_size hcl k hc
      have hvl := vis_le hcl (k + 1)
      rw [hvs, ← hn, List.length_append] at hvl
      generalize clI cl k = L at *
      generalize visI cl k = V at *
      refine Run.rangeFnM (fun _ : Unit => noX) (fun _ => noX_local) () rfl (fun M => rfl) chooseIt_enters 11 [] [(1, .ptr 0 0), (2, .ptr 1 0), (3, .v (.int .i64 (n : Int))), (4, .ptr 3 0), (6, .ptr 5 0), (9, .ptr 6 0)]
        trivial rfl ⟨rfl, rfl, rfl, rfl, rfl, rfl, trivial⟩ rfl rfl hit
        (fun j hj => by rcases hj with rfl | rfl | rfl; exact ⟨h03, hS30⟩; exact ⟨hbw3, hS3bb⟩; exact ⟨hcw3, hS3cc⟩)
        (fun z hz => by simp only [encBs, List.mem_map] at hz; obtain ⟨e, _, rfl⟩ := hz; rfl)
        (fun pre _ h => ∃ j, j ≤ L.length ∧ pre = encBs (L.take j) ∧ h = dB x n (V ++ L.take j) k)
        (fun _ _ _ _ => False) 7 (dB x n V k) ⟨0, Nat.zero_le _, rfl, by simp⟩ ?_ ?_ ?_ ?_
      · exact ⟨rfl, rfl, rfl, rfl, rfl, rfl, trivial⟩
      · rintro D l a0 rc wy fpy pre z s h Rr hI hpx ⟨j, hj, rfl, rfl⟩ hRr
        obtain ⟨hjl, rfl⟩ := encBs_next hj hpx
        have hnext := encBs_succ hjl
        have hloc : ∀ st, Local (roundX (marksX noX (D :: Ds)) l rc st) := fun st => roundX_local (marksX_local noX_local _) l rc st
        have hVj : V ++ L.take (j + 1) = (V ++ L.take j) ++ [L[j]] := by rw [List.take_succ_eq_append_getElem hjl, List.append_assoc]
        have hcv : L[j] ∉ V ++ L.take j := fun hm => by
          have h1 : (V ++ L.take (j + 1)).Nodup := List.Sublist.nodup ((List.take_sublist _ _).append_left V) hvn
          rw [hVj, List.nodup_append] at h1
          exact h1.2.2 _ hm _ (by simp) rfl
        obtain ⟨hck, hsub⟩ := hcz _ (List.getElem_mem hjl)
        obtain ⟨A, B, e1, e2, hA⟩ := mp_split hSn (hcs _ hsub) hcv
        rw [← hVj] at e2
        have hsz2 := fun w' => size_ok L[j] w'
        rw [hck] at hsz2
        have hend : ∀ σ, inT σ.t [(1, .ptr 0 0), (2, .ptr 1 0), (3, .v (.int .i64 (n : Int))), (4, .ptr 3 0), (6, .ptr 5 0), (9, .ptr 6 0)] → inT σ.h (dB x n (V ++ L.take (j + 1)) k) → Run (roundC (opM Tryd.prog 12 0 (Tryd.f12).ntmps #[] w3 S3 noX (ctR w) (D :: Ds)) 11 a0 l rc .busy wy fpy Rr) [] σ := fun σ ht hh => by
          refine Run.to (n' := 7) ?_ ht hh
          exact Run.roundMono (hRr ()) (Run.roundEnd (hI ()) [] (dB x n (V ++ L.take (j + 1)) k) ⟨j + 1, hjl, hnext, rfl⟩ ⟨rfl, rfl, rfl, rfl, rfl, rfl, trivial⟩ ⟨rfl, rfl, rfl, rfl, rfl, rfl, trivial⟩ rfl)
        have hcnt : IntKind.i64.wrap (((2 ^ n : Nat) : Int) - ((V ++ L.take j).length : Int) - 1) = ((2 ^ n : Nat) : Int) - ((V ++ L.take (j + 1)).length : Int) := by
          rw [wrap_i64]
          · simp only [List.length_append, List.length_take]; omega
          · simp only [List.length_append, List.length_take]; omega
          · simp only [List.length_append, List.length_take]; omega
        generalize L[j] = c at *
        generalize hcn : ((2 ^ n : Nat) : Int) - ((V ++ L.take j).length : Int) = cn at *
        refine RunF_sound tab_ok (hloc .ready) 100 [] _ _ rfl ?_ ?_
        · simp
        refine Run.beginRound (hI ()).loc (hI ()).lw ?_
        refine Run.to (t' := [(1, .ptr 0 0), (2, .ptr 1 0), (3, .v (.int .i64 (n : Int))), (4, .ptr 3 0), (6, .ptr 5 0), (9, .ptr 6 0), (11, .v (.int .u64 (un c)))])
          (h' := [(0, .cells 23 [.one (.v (.int .u64 (un x)))]), (1, .cells 4 [.one (.tt false)]), (2, .map (encM .u64 .i64 (A ++ (un c, 1) :: B))), (3, .cells 80 [.one (.mp 2)]),
            (5, .cells 3 [.one (.v (.int .i64 cn))]), (6, .cells 3 [.one (.v (.int .i64 k))])]) (n' := 7) ?_ ⟨rfl, rfl, rfl, rfl, rfl, rfl, rfl, trivial⟩
          ⟨rfl, rfl, congrArg (fun z => some (Blk.map (encM .u64 .i64 z))) e1, rfl, congrArg (fun z => some (Blk.cells 3 [.one (.v (.int .i64 z))])) hcn, rfl, trivial⟩
        refine RunF_sound tab_ok (hloc .busy) 100 [] _ _ rfl ?_ ?_
        · simp
        refine Run.drawA (hloc .busy) rfl [] [(2, .map (encM .u64 .i64 (A ++ (un c, 1) :: B))), (3, .cells 80 [.one (.mp 2)]), (6, .cells 3 [.one (.v (.int .i64 k))])] rfl rfl ⟨rfl, rfl, rfl, trivial⟩ ?_
        refine RunOF_sound tab_ok (hloc .busy) rfl rfl 100 [] _ _ rfl ?_ ?_
        · simp
        refine RunO.mapGet tab_ok rfl rfl rfl rfl rfl rfl rfl rfl rfl hA rfl rfl ?_
        refine RunOF_sound tab_ok (hloc .busy) rfl rfl 100 [false] _ _ rfl ?_ ?_
        · simp
        refine RunO.callFn (r := .int .i64 k) (hloc .busy) rfl rfl rfl rfl rfl rfl rfl rfl size_enters rfl (fun w' _ => hsz2 w') ?_
        refine RunOF_sound tab_ok (hloc .busy) rfl rfl 100 [] _ _ rfl ?_ ?_
        · simp
        refine RunO.done ?_
        refine RunF_sound tab_ok (hloc .busy) 100 [false] _ _ rfl ?_ ?_
        · simp
        refine Run.mapSet tab_ok (hloc .busy) rfl rfl rfl rfl rfl rfl rfl rfl rfl hA rfl ?_
        refine RunF_sound tab_ok (hloc .busy) 100 [] _ _ rfl ?_ ?_
        · simp [okCell, Value.oneCell']
        refine hend _ ⟨rfl, rfl, rfl, rfl, rfl, rfl, trivial⟩ ⟨rfl, rfl, congrArg (fun z => some (Blk.map (encM .u64 .i64 z))) e2.symm, rfl, congrArg (fun z => some (Blk.cells 3 [.one (.v (.int .i64 z))])) hcnt, rfl, trivial⟩
      · rintro D s h ⟨j, hj, hx', rfl⟩
        have hjl := encBs_all hj hx'
        subst hjl
        rw [List.take_length, ← hvs]
        refine RunF_sound tab_ok (hLm _) 100 [] _ _ rfl ?_ ?_
        · simp [okCell, ofConst, Value.oneCell']
        refine Run.toR [(6, 7)] (ih (k + 1) (by omega) (by omega) w3 S3 (D :: Ds) hB3) ⟨rfl, rfl, rfl, rfl, rfl, rfl, trivial⟩ ⟨rfl, rfl, rfl, rfl, rfl, congrArg (fun z => some (Blk.cells 3 [.one (.v (.int .i64 z))])) (wrap_i64 (by omega) (by omega)), trivial⟩ rfl
      · rintro D pre s c h _ hf
        exact hf.elim
  · rintro D pre s c h _ hf
    exact hf.elim
end Go.Proofs.YtpfanhbkjajocaaDoor

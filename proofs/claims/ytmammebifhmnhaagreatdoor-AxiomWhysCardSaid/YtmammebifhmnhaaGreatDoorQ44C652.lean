/-
  Own work, merged: A13, A14, A15, A16.
-/
import Derived.AtR
import Derived.Below
import Derived.ChangeKeysEq
import Derived.KernelRfl
import Derived.LaidMore
import Derived.Laws.AppendOwn
import Derived.Laws.BytesString
import Derived.Laws.Cells
import Derived.Laws.CopyRow
import Derived.Laws.Entries
import Derived.Laws.Rows
import Derived.Laws.Small
import Derived.Laws.StructEq
import Derived.Lib.LaidTab
import Derived.Lib.TrailingZeros
import Derived.Maps.AppendAt
import Derived.OpenShut
import Derived.Orders
import Derived.ProofKit
import Derived.RangeFuncRecord
import Derived.SevenTiedAt
import Derived.Stop.Joined
import Derived.Test.YtmammebifhmnhaaGreatDoorCards
import Derived.Test.YtmammebifhmnhaaGreatDoorProg
import Derived.Test.YtmammebifhmnhaaGreatDoorRows
import Derived.Test.YtmammebifhmnhaaGreatDoorTie
import Derived.Test.YtmammebifhmnhaaGreatDoorQCB8C7E
/-
  The reference's between. Own work.
-/
namespace Go.Proofs.YtmammebifhmnhaaGreatDoor
open Go.AM
set_option maxRecDepth 100000

set_option maxHeartbeats 2000000 in
theorem betweenR_ok (x : Xn) (y : Option (List Nat)) (hy : IsBet (shortL x.ev).length (kFr x) (standsL 5 x.ev) (kCo x) y) (w : World) (hX : SeesX w x) :
    HandsZ Tryz.prog 21 [encX x] w (exZ y) (exH y) := by
  refine HandsZ.of_run Tryz.func21 rfl (by show 1 ≤ 57; decide) ?_
  have hone := xV_one hX.one1 hX.one4
  refine RunF_sound tab_ok noX_local 100 [] _ _ rfl ?_ ?_
  · simp
  refine Run.callFn (r := encRs (rsX x)) noX_local rfl rfl rfl rfl rfl rfl rfl rof_enters rfl (fun w' hA => rof_ok x w' (hX.agree hA)) ?_
  have hQ := rsX_ok x
  change IsBet (shortL x.ev).length (rsX x).fr (rsX x).rm (rsX x).co y at hy
  generalize rsX x = Q at *
  generalize (shortL x.ev).length = n at *
  have hl := rsV_len Q
  have h1 := rsV_one Q
  have hn64 := hQ.le
  have g0 := rs_n Q
  rw [hQ.sz] at g0
  have gm := fun (i : Nat) (hi : i < 64) => rs_rm Q hi
  have gf := fun (i : Nat) (hi : i < 64) => rs_fr Q hi
  have gc := fun (i : Nat) (hi : i < 64) => rs_co Q hi
  have e0 := int_of g0
  have em := fun (i : Nat) (hi : i < 64) => int_of (gm i hi)
  have ef := fun (i : Nat) (hi : i < 64) => int_of (gf i hi)
  have ec := fun (i : Nat) (hi : i < 64) => int_of (gc i hi)
  have em' : ∀ (i : Nat), i < 64 → intAt (rsV Q) (0 + 196 + 1 - 0 + i * 1) = un (Q.rm.row i) := fun i hi => by rw [show 0 + 196 + 1 - 0 + i * 1 = 197 + i by omega]; exact em i hi
  have ef' : ∀ (i : Nat), i < 64 → intAt (rsV Q) (0 + 391 + 1 - 0 + i * 1) = un (Q.fr.row i) := fun i hi => by rw [show 0 + 391 + 1 - 0 + i * 1 = 392 + i by omega]; exact ef i hi
  have ec' : ∀ (i : Nat), i < 64 → intAt (rsV Q) (0 + 326 + 1 - 0 + i * 1) = un (Q.co.row i) := fun i hi => by rw [show 0 + 326 + 1 - 0 + i * 1 = 327 + i by omega]; exact ec i hi
  unfold encRs
  generalize rsV Q = V at *
  refine RunF_sound tab_ok noX_local 100 [] _ _ rfl ?_ ?_
  · simp [hl]
    exact ⟨rfl, h1, rfl⟩
  suffices H : ∀ (d r : Nat), r + d = n → Clear n Q.fr Q.rm Q.co r 0 0 → ∀ σ, inT σ.t [(4, .ptr 1 0), (5, .v (.int .i64 (r : Int)))] → inT σ.h [(1, .cells 89 [.vals 461 V])] → Run _ _ σ by
    exact H n 0 (by omega) .start _ ⟨rfl, rfl, trivial⟩ ⟨rfl, trivial⟩
  intro d
  induction d with
  | zero =>
    intro r hr hcl σ ht hh
    refine Run.to ?_ ht hh (n' := 2)
    obtain rfl : r = n := by omega
    obtain rfl : y = none := hy.eq (.inl ⟨rfl, hcl⟩)
    refine RunF_sound tab_ok noX_local 100 [false] _ _ rfl ?_ ?_
    · simp [e0, g0]
    exact Run.retH tab_ok [] Tryz.func21 rfl trivial rfl trivial rfl
  | succ d ih =>
    intro r hr hcl σ ht hh
    refine Run.to ?_ ht hh (n' := 2)
    have hrn : r < n := by omega
    have hr64 : r < 64 := by omega
    refine RunF_sound tab_ok noX_local 100 [true] _ _ rfl ?_ ?_
    · simp [e0, g0]; exact hrn
    suffices H2 : ∀ (d v : Nat), v + d = n → Clear n Q.fr Q.rm Q.co r v 0 → ∀ σ, inT σ.t [(4, .ptr 1 0), (5, .v (.int .i64 (r : Int))), (6, .v (.int .i64 (v : Int)))] → inT σ.h [(1, .cells 89 [.vals 461 V])] → Run _ _ σ by
      exact H2 n 0 (by omega) hcl _ ⟨rfl, rfl, rfl, trivial⟩ ⟨rfl, trivial⟩
    clear ht hh hcl
    intro d2
    induction d2 with
    | zero =>
      intro v hv hcl σ ht hh
      refine Run.to ?_ ht hh (n' := 2)
      obtain rfl : v = n := by omega
      refine RunF_sound tab_ok noX_local 100 [false] _ _ rfl ?_ ?_
      · simp [e0, g0]
      exact ih (r + 1) (by omega) hcl.next1 _ ⟨rfl, i64_eq (wrap_succ (by omega)), trivial⟩ ⟨rfl, trivial⟩
    | succ d2 ih2 =>
      intro v hv hcl σ ht hh
      refine Run.to ?_ ht hh (n' := 2)
      have hvn : v < n := by omega
      have hv64 : v < 64 := by omega
      refine RunF_sound tab_ok noX_local 100 [true] _ _ rfl ?_ ?_
      · simp [e0, g0]; exact hvn
      suffices H3 : ∀ (d x : Nat), x + d = n → Clear n Q.fr Q.rm Q.co r v x → ∀ σ, inT σ.t [(4, .ptr 1 0), (5, .v (.int .i64 (r : Int))), (6, .v (.int .i64 (v : Int))), (7, .v (.int .i64 (x : Int)))] → inT σ.h [(1, .cells 89 [.vals 461 V])] → Run _ _ σ by
        exact H3 n 0 (by omega) hcl _ ⟨rfl, rfl, rfl, rfl, trivial⟩ ⟨rfl, trivial⟩
      clear ht hh hcl
      intro d3
      induction d3 with
      | zero =>
        intro x hx hcl σ ht hh
        refine Run.to ?_ ht hh (n' := 2)
        obtain rfl : x = n := by omega
        refine RunF_sound tab_ok noX_local 100 [false] _ _ rfl ?_ ?_
        · simp [e0, g0]
        exact ih2 (v + 1) (by omega) hcl.next2 _ ⟨rfl, rfl, i64_eq (wrap_succ (by omega)), trivial⟩ ⟨rfl, trivial⟩
      | succ d3 ih3 =>
        intro x hx hcl σ ht hh
        refine Run.to ?_ ht hh (n' := 2)
        have hxn : x < n := by omega
        have hx64 : x < 64 := by omega
        have hgo : brkP Q.fr Q.rm Q.co r v x = false → ∀ σ, inT σ.t [(4, .ptr 1 0), (5, .v (.int .i64 (r : Int))), (6, .v (.int .i64 (v : Int))), (7, .v (.int .i64 ((x + 1 : Nat) : Int)))] → inT σ.h [(1, .cells 89 [.vals 461 V])] → Run _ _ σ := fun hp => ih3 (x + 1) (by omega) (hcl.next3 hp)
        refine RunF_sound tab_ok noX_local 100 [true] _ _ rfl ?_ ?_
        · simp [e0, g0, gm r hr64, em r hr64]; omega
        simp only [Int.toNat_natCast, em' r hr64]
        refine Run.callFn (r := .bool (Q.rm.has r x)) noX_local rfl rfl rfl rfl rfl rfl rfl bit_enters rfl (fun w' _ => bit_ok (Q.rm.row r) x hx64 w') ?_
        cases c1 : Q.rm.has r x with
        | false =>
          refine RunF_sound tab_ok noX_local 100 [false, false] _ _ rfl ?_ ?_
          · simp
          exact hgo (by simp [brkP, c1]) _ ⟨rfl, rfl, rfl, i64_eq (wrap_succ (by omega)), trivial⟩ ⟨rfl, trivial⟩
        | true =>
          refine RunF_sound tab_ok noX_local 100 [true] _ _ rfl ?_ ?_
          · simp [gf r hr64, ef r hr64]; omega
          simp only [Int.toNat_natCast, ef' r hr64]
          refine Run.callFn (r := .bool (Q.fr.has r v)) noX_local rfl rfl rfl rfl rfl rfl rfl bit_enters rfl (fun w' _ => bit_ok (Q.fr.row r) v hv64 w') ?_
          cases c2 : Q.fr.has r v with
          | false =>
            refine RunF_sound tab_ok noX_local 100 [false, false] _ _ rfl ?_ ?_
            · simp
            exact hgo (by simp [brkP, c2]) _ ⟨rfl, rfl, rfl, i64_eq (wrap_succ (by omega)), trivial⟩ ⟨rfl, trivial⟩
          | true =>
            refine RunF_sound tab_ok noX_local 100 [true] _ _ rfl ?_ ?_
            · simp [gc v hv64, ec v hv64]; omega
            simp only [Int.toNat_natCast, ec' v hv64]
            refine Run.callFn (r := .bool (Q.co.has v x)) noX_local rfl rfl rfl rfl rfl rfl rfl bit_enters rfl (fun w' _ => bit_ok (Q.co.row v) x hx64 w') ?_
            cases c3 : Q.co.has v x with
            | false =>
              refine RunF_sound tab_ok noX_local 100 [false] _ _ rfl ?_ ?_
              · simp
              exact hgo (by simp [brkP, c3]) _ ⟨rfl, rfl, rfl, i64_eq (wrap_succ (by omega)), trivial⟩ ⟨rfl, trivial⟩
            | true =>
              obtain rfl : y = some [r, v, x] := hy.eq (.inr ⟨r, v, x, hrn, hvn, hxn, rfl, by simp [brkP, c1, c2, c3], hcl⟩)
              refine RunF_sound tab_ok noX_local 100 [true] _ _ rfl ?_ ?_
              · simp [fillL, repL, splice, Value.cells, maxLen]
              exact Run.retH tab_ok [(0, 2)] Tryz.func21 rfl trivial rfl ⟨rfl, trivial⟩ rfl
theorem betweenR_enters : Enters Tryz.prog 21 := enters_mk Tryz.func21 (by decide) rfl
end Go.Proofs.YtmammebifhmnhaaGreatDoor

/-
  The reference's Why, Holds and Order. Own work.
-/
namespace Go.Proofs.YtmammebifhmnhaaGreatDoor
open Go.AM
set_option maxRecDepth 100000

set_option maxHeartbeats 4000000 in
theorem whyR_ok (x : Xn) (k : Int) (w : World) (hX : SeesX w x) :
    Makes Tryz.prog 7 [.int .i64 k, encX x] w (WhyQ x k w) := by
  refine Makes.of_run Tryz.func7 rfl (by show 2 ≤ 55; decide) ?_
  have hone := xV_one hX.one1 hX.one4
  refine RunF_sound tab_ok noX_local 100 [] _ _ rfl ?_ ?_
  · simp
  refine Run.callFn (r := .tuple #[encRel (gR x k), .int .i64 (gE k)]) noX_local rfl rfl rfl rfl rfl rfl rfl globalR_enters rfl (fun w' hA => globalR_ok x k w' (hX.agree hA)) ?_
  by_cases hE : gE k = 0
  rotate_left
  · refine RunF_sound tab_ok noX_local 400 [true] _ _ rfl ?_ ?_
    · simp [segsVals, relV_one', hE]
    refine Run.retM (Ds := []) tab_ok noX_local Tryz.func7 rfl trivial fun M fp a w' hr => ?_
    refine ⟨hr.agree, [], none, 0, rfl, ?_, ⟨.inl ⟨rfl, rfl, rfl⟩, fun a h => (by cases h), fun e h => (by cases h), fun e h => (by cases h), List.Pairwise.nil, fun a h => (by cases h)⟩⟩
    have h13 : k < 1 ∨ k > 3 := Classical.byContradiction fun h => hE (by rw [gE, if_neg h])
    rw [whyL, if_pos h13]; rfl
  have hk13 : ¬ (k < 1 ∨ k > 3) := fun h => by rw [gE, if_pos h] at hE; cases hE
  have hwhy : whyL x k = ((cycO (unpR (woX x))).toList.map fun l => (1, l)) ++ (((betO (shortL x.ev).length (kFr x) (standsL 5 x.ev) (kCo x)).toList.map fun l => (2, l)) ++ ((cycO (gR x k)).toList.map fun l => (3, l))) := by rw [whyL, if_neg hk13]
  have hbet : ∀ w', Agree (fun _ => False) w w' → HandsZ Tryz.prog 21 [encX x] w' (exZ (betO (shortL x.ev).length (kFr x) (standsL 5 x.ev) (kCo x))) (exH (betO (shortL x.ev).length (kFr x) (standsL 5 x.ev) (kCo x))) := fun w' hA => betweenR_ok x _ (betO_is _ _ _ _) w' (hX.agree hA)
  have hU : ∀ w', Agree (fun _ => False) w w' → Gives Tryz.prog 20 [encX x] w' (encRel (unpR (woX x))) := fun w' hA => by rw [law_up]; exact unpR_ok x w' (hX.agree hA)
  generalize betO (shortL x.ev).length (kFr x) (standsL 5 x.ev) (kCo x) = yb at *
  generalize unpR (woX x) = U at *
  generalize hG : gR x k = G at *
  refine RunF_sound tab_ok noX_local 400 [false] _ _ rfl ?_ ?_
  · simp [segsVals, relV_one', hE]
  refine Run.callFn (r := encRel U) noX_local rfl rfl rfl rfl rfl rfl rfl unpR_enters rfl (fun w' hA => hU w' hA) ?_
  refine Run.to (t' := [(3, .ptr 0 0), (6, .ptr 1 0), (8, .v (.slice none 0 0)), (22, .v (encRel U))]) (h' := [(0, .cells 28 [.vals 5 (xV x)]), (1, .cells 60 [.vals 65 (relV G)])]) (n' := 2) ?_ ⟨rfl, rfl, rfl, rfl, trivial⟩ ⟨rfl, rfl, trivial⟩
  refine Run.callR noX_local rfl rfl rfl rfl rfl rfl cycleR_enters rfl (fun M w' _ hA => plain_of (cycleR_ok U _ (cycO_is U) w')) ?_
  rintro v w2 w1 S1 hag hag2 hv hS1
  have hB1 := (Based.refl w).call hag hag2 hS1
  suffices H2 : ∀ (w1 : World) (S1 : Foot) (s : List Bnt), Based w w1 S1 → KeepB w w1 S1 s → s.map bnC = (cycO U).toList.map (fun l => (1, l)) → s.length ≤ 1 → ∀ σ, inT σ.t [(3, .ptr 0 0), (6, .ptr 1 0), (33, .v (encX x)), (8, bz 6 s)] → inT σ.h ((0, .cells 28 [.vals 5 (xV x)]) :: (1, .cells 60 [.vals 65 (relV G)]) :: br 6 s) →
      Run ((fnQ Tryz.prog 7 (Tryz.f7).ntmps w (WhyQ x k w)).rebase w1 S1) _ σ by
    rcases hv with ⟨hv, rfl⟩ | ⟨e, hv, rfl, he, hen⟩
    · refine ⟨.v (.tuple #[.slice none 0 0, .bool false]), fun M => rfl, ?_⟩
      refine RunF_sound tab_ok noX_local 100 [false] _ _ rfl ?_ ?_
      · simp
      exact H2 w1 S1 [] hB1 (KeepB.nil _ _ _) (by rw [hv]; rfl) (by simp) _ ⟨rfl, rfl, rfl, rfl, trivial⟩ ⟨rfl, rfl, trivial⟩
    · refine ⟨.v (.tuple #[slV e, .bool true]), fun M => rfl, ?_⟩
      refine RunF_sound tab_ok noX_local 100 [true] _ _ rfl ?_ ?_
      · simp [fillL, repL, splice, Value.cells, maxLen, slV, szI, zB, zBd]
        rfl
      refine Run.toR [(6, 3)] (n' := 7) (H2 w1 S1 [(1, e)] hB1 ((KeepB.nil w w (fun _ => False)).snoc hag hag2 hS1 (hag.size) (1, e) he hen) (by rw [hv]; rfl) (by simp) ⟨[(3, .ptr 0 0), (6, .ptr 1 0), (33, .v (encX x)), (8, .sl 6 2 0 1)], [(0, .cells 28 [.vals 5 (xV x)]), (1, .cells 60 [.vals 65 (relV G)]), (6, .row 46 2 1 (bnsV [(1, e)]))], 7⟩ ⟨rfl, rfl, rfl, rfl, trivial⟩ ⟨rfl, rfl, rfl, trivial⟩) ⟨rfl, rfl, rfl, rfl, trivial⟩ ⟨rfl, rfl, rfl, trivial⟩ rfl
  clear hv hS1 hag hag2 hB1
  intro w1 S1 s hB hK hs hsl σ ht hh
  refine Run.to ?_ ht hh (n' := 7)
  refine Run.callR noX_local rfl rfl rfl rfl rfl rfl betweenR_enters rfl (fun M w' hM hA => plain_of (hbet w' (hB.later hA))) ?_
  rintro v w3 w2 S2 hag hag2 hv hS2
  have hB2 := hB.call hag hag2 hS2
  suffices H3 : ∀ (w1 : World) (S1 : Foot) (s : List Bnt), Based w w1 S1 → KeepB w w1 S1 s → s.map bnC = (cycO U).toList.map (fun l => (1, l)) ++ yb.toList.map (fun l => (2, l)) → s.length ≤ 2 → ∀ σ, inT σ.t [(44, .v (encRel G)), (8, bz 6 s)] → inT σ.h (br 6 s) →
      Run ((fnQ Tryz.prog 7 (Tryz.f7).ntmps w (WhyQ x k w)).rebase w1 S1) _ σ by
    rcases hv with ⟨hv, rfl⟩ | ⟨e, hv, rfl, he, hen⟩
    · refine ⟨.v (.tuple #[.slice none 0 0, .bool false]), fun M => rfl, ?_⟩
      rcases s with _ | ⟨e0, s⟩
      · refine RunF_sound tab_ok noX_local 100 [false] _ _ rfl ?_ ?_
        · simp
        exact H3 w2 S2 [] hB2 (KeepB.nil _ _ _) (by rw [← hs, hv]; rfl) (by decide) _ ⟨rfl, rfl, trivial⟩ trivial
      · refine RunF_sound tab_ok noX_local 100 [false] _ _ rfl ?_ ?_
        · simp
        exact H3 w2 S2 (e0 :: s) hB2 (hK.call hag hag2 hS2) (by rw [← hs, hv]; simp) (by omega) _ ⟨rfl, rfl, trivial⟩ ⟨rfl, trivial⟩
    · refine ⟨.v (.tuple #[slV e, .bool true]), fun M => rfl, ?_⟩
      have hK2 := hK.snoc hag hag2 hS2 (hB.later hag).size (2, e) he hen
      have hs2 : (s ++ [(2, e)]).map bnC = (cycO U).toList.map (fun l => (1, l)) ++ yb.toList.map (fun l => (2, l)) := by rw [List.map_append, hs, hv]; rfl
      rcases s with _ | ⟨e0, s⟩
      · refine RunF_sound tab_ok noX_local 100 [true] _ _ rfl ?_ ?_
        · simp [fillL, repL, splice, Value.cells, maxLen, slV, szI, zB, zBd]
          rfl
        refine Run.toR [(6, 8)] (n' := 7) (H3 w2 S2 [(2, e)] hB2 hK2 hs2 (by simp) ⟨[(44, .v (encRel G)), (8, .sl 6 2 0 1)], [(6, .row 46 2 1 (bnsV [(2, e)]))], 7⟩ ⟨rfl, rfl, trivial⟩ ⟨rfl, trivial⟩) ⟨rfl, rfl, trivial⟩ ⟨rfl, trivial⟩ rfl
      · refine RunF_sound tab_ok noX_local 100 [true] _ _ rfl ?_ ?_
        · simp [fillL, repL, splice, Value.cells, maxLen, slV, szI, zB, zBd]
          simp only [List.length_cons] at hsl
          exact ⟨by omega, rfl⟩
        refine Run.toR [(6, 8)] (n' := 7) (H3 w2 S2 (e0 :: s ++ [(2, e)]) hB2 hK2 hs2 (by simp at hsl ⊢; omega) ⟨[(44, .v (encRel G)), (8, .sl 6 2 0 (s.length + 2))], [(6, .row 46 2 (s.length + 2) (bnsV (e0 :: s ++ [(2, e)])))], 7⟩ ⟨rfl, ?_, trivial⟩ ⟨?_, trivial⟩) ⟨rfl, ?_, trivial⟩ ⟨?_, trivial⟩ rfl
        · rw [bz_app]; rfl
        · rw [show (s.append [((2 : Nat), e)]).length + 1 = s.length + 2 by simp]; rfl
        · rfl
        · exact congrArg (fun l => some (Blk.row 46 2 (s.length + 2) l)) (bns_app (e0 :: s) (s.length + 1) rfl (2, e))
  clear hv hS2 hag hag2 hB2 hK hs hB hsl hbet ht hh
  clear s
  intro w1 S1 s hB hK hs hsl σ ht hh
  refine Run.to ?_ ht hh (n' := 7)
  refine Run.callR noX_local rfl rfl rfl rfl rfl rfl cycleR_enters rfl (fun M w' hM hA => plain_of (cycleR_ok G _ (cycO_is G) w')) ?_
  rintro v w3 w2 S2 hag hag2 hv hS2
  have hB2 := hB.call hag hag2 hS2
  have hend : ∀ (S : List Bnt) (σ : St), KeepB w w2 S2 S → S.map bnC = whyL x k → inT σ.t [(4, bz 6 S), (5, .v (.int .i64 0))] → inT σ.h (br 6 S) → Run ((fnQ Tryz.prog 7 (Tryz.f7).ntmps w (WhyQ x k w)).rebase w2 S2) [.code .ret] σ := by
    intro S σ hKS hsS ht hh
    refine Run.to ?_ ht hh (n' := 7)
    rcases S with _ | ⟨e0, S⟩
    · refine Run.retM (Ds := []) tab_ok noX_local Tryz.func7 rfl trivial fun M fp a w' hr => ?_
      refine ⟨hB2.later hr.agree, [], none, 0, ?_, hsS, ⟨.inl ⟨rfl, rfl, rfl⟩, fun a h => (by cases h), fun e h => (by cases h), fun e h => (by cases h), List.Pairwise.nil, fun a h => (by cases h)⟩⟩
      rw [hE]; rfl
    · refine Run.retM (Ds := []) tab_ok noX_local Tryz.func7 rfl trivial fun M fp a w' hr => ?_
      have hb6 := hr.heap 6 _ rfl
      refine ⟨hB2.later hr.agree, e0 :: S, some ⟨(M 6).1, 0, none⟩, (M 6).2 - 0, ?_, hsS, ⟨.inr ⟨(M 6).1, rfl, hb6⟩, fun a h => ?_, fun e he => ?_, hKS.new, hKS.inc, fun a h e he hq => ?_⟩⟩
      · rw [hE]; simp [conc, concL, resAV, bz]
      · cases h
        show w.heap.size ≤ (M 6).1
        rcases Nat.lt_or_ge (M 6).1 w2.heap.size with hl | hl
        · exact hB2.new _ (hr.own 6 _ rfl hl)
        · exact Nat.le_trans hB2.agree.size hl
      · exact BlkAt.same (hKS.at_ e he) (hr.agree.block _ (hKS.lt he) (hKS.off e he))
      · cases h
        exact hKS.off e he (hq ▸ hr.own 6 _ rfl (by rw [← show e.2.1 = (M 6).1 from hq]; exact hKS.lt he))
  rcases hv with ⟨hv, rfl⟩ | ⟨e, hv, rfl, he, hen⟩
  · refine ⟨.v (.tuple #[.slice none 0 0, .bool false]), fun M => rfl, ?_⟩
    have hsw : s.map bnC = whyL x k := by rw [hwhy, hs, hv]; simp
    rcases s with _ | ⟨e0, s⟩
    · refine RunF_sound tab_ok noX_local 100 [false] _ _ rfl ?_ ?_
      · simp
      exact hend [] _ (KeepB.nil _ _ _) hsw ⟨rfl, rfl, trivial⟩ trivial
    · refine RunF_sound tab_ok noX_local 100 [false] _ _ rfl ?_ ?_
      · simp
      exact hend (e0 :: s) _ (hK.call hag hag2 hS2) hsw ⟨rfl, rfl, trivial⟩ ⟨rfl, trivial⟩
  · refine ⟨.v (.tuple #[slV e, .bool true]), fun M => rfl, ?_⟩
    have hK2 := hK.snoc hag hag2 hS2 (hB.later hag).size (3, e) he hen
    have hs2 : (s ++ [(3, e)]).map bnC = whyL x k := by rw [hwhy, List.map_append, hs, hv, ← List.append_assoc]; rfl
    rcases s with _ | ⟨e0, s⟩
    · refine RunF_sound tab_ok noX_local 100 [true] _ _ rfl ?_ ?_
      · simp [fillL, repL, splice, Value.cells, maxLen, slV, szI, zB, zBd]
        rfl
      refine Run.toR [(6, 8)] (n' := 7) (hend [(3, e)] ⟨[(4, .sl 6 2 0 1), (5, .v (.int .i64 0))], [(6, .row 46 2 1 (bnsV [(3, e)]))], 7⟩ hK2 hs2 ⟨rfl, rfl, trivial⟩ ⟨rfl, trivial⟩) ⟨rfl, rfl, trivial⟩ ⟨rfl, trivial⟩ rfl
    · refine RunF_sound tab_ok noX_local 100 [true] _ _ rfl ?_ ?_
      · simp [fillL, repL, splice, Value.cells, maxLen, slV, szI, zB, zBd]
        simp only [List.length_cons] at hsl
        exact ⟨by omega, rfl⟩
      refine Run.toR [(6, 8)] (n' := 7) (hend (e0 :: s ++ [(3, e)]) ⟨[(4, .sl 6 2 0 (s.length + 2)), (5, .v (.int .i64 0))], [(6, .row 46 2 (s.length + 2) (bnsV (e0 :: s ++ [(3, e)])))], 7⟩ hK2 hs2 ⟨?_, rfl, trivial⟩ ⟨?_, trivial⟩) ⟨?_, rfl, trivial⟩ ⟨?_, trivial⟩ rfl
      · rw [bz_app]; rfl
      · rw [show (s.append [((3 : Nat), e)]).length + 1 = s.length + 2 by simp]; rfl
      · rfl
      · exact congrArg (fun l => some (Blk.row 46 2 (s.length + 2) l)) (bns_app (e0 :: s) (s.length + 1) rfl (3, e))
theorem whyR_enters : Enters Tryz.prog 7 := enters_mk Tryz.func7 (by decide) rfl

set_option maxHeartbeats 1000000 in
theorem holdsR_ok (x : Xn) (k : Int) (w : World) (hX : SeesX w x) :
    Gives Tryz.prog 5 [.int .i64 k, encX x] w (.tuple #[.bool (hldB x k), .int .i64 (gE k)]) := by
  refine Gives.of_run Tryz.func5 rfl (by show 2 ≤ 22; decide) ?_
  have hone := xV_one hX.one1 hX.one4
  refine RunF_sound tab_ok noX_local 100 [] _ _ rfl ?_ ?_
  · simp
  refine Run.callR noX_local rfl rfl rfl rfl rfl rfl whyR_enters rfl (fun M w' _ hA => whyR_ok x k w' (hX.agree hA)) ?_
  rintro v w2 w1 S1 hag hag2 ⟨s, p, c, rfl, hs, _⟩ hS1
  have hB1 := (Based.refl w).call hag hag2 hS1
  refine ⟨.v (.tuple #[.slice p s.length c, .int .i64 (gE k)]), fun M => rfl, ?_⟩
  have hl : (whyL x k).length = s.length := by rw [← hs, List.length_map]
  have hh : hldB x k = (decide (gE k = 0) && decide (s.length = 0)) := by
    unfold hldB
    congr 1
    cases hw : whyL x k with
    | nil => rw [hw] at hl; simp at hl; simp [← hl]
    | cons a t => rw [hw] at hl; simp at hl; simp [← hl]
  rw [hh]
  have hz : ((s.length : Int) == 0) = decide (s.length = 0) := by
    rw [Bool.eq_iff_iff, beq_iff_eq, decide_eq_true_eq]; omega
  by_cases h0 : gE k = 0
  · refine RunF_sound tab_ok noX_local 100 [true] _ _ rfl ?_ ?_
    · simp [h0]
    exact Run.retB (Ds := []) tab_ok noX_local hB1 Tryz.func5 rfl trivial (fun M => by
      show Value.tuple #[.bool ((s.length : Int) == 0), .int .i64 (gE k)] = _
      rw [hz, decide_eq_true h0, Bool.true_and])
  · refine RunF_sound tab_ok noX_local 100 [false] _ _ rfl ?_ ?_
    · simp [h0]
    exact Run.retB (Ds := []) tab_ok noX_local hB1 Tryz.func5 rfl trivial (fun M => by simp [conc, concL, resAV, h0])
theorem holdsR_enters : Enters Tryz.prog 5 := enters_mk Tryz.func5 (by decide) rfl


set_option maxHeartbeats 1000000 in
theorem orderR_ok (x : Xn) (k : Int) (w : World) (hX : SeesX w x) :
    Makes Tryz.prog 9 [.int .i64 k, encX x] w (OrdQ (ordL x k).1 (ordL x k).2 w) := by
  refine Makes.of_run Tryz.func9 rfl (by show 2 ≤ 35; decide) ?_
  have hone := xV_one hX.one1 hX.one4
  refine RunF_sound tab_ok noX_local 100 [] _ _ rfl ?_ ?_
  · simp
  refine Run.callFn (r := .tuple #[.bool (hldB x k), .int .i64 (gE k)]) noX_local rfl rfl rfl rfl rfl rfl rfl holdsR_enters rfl (fun w' hA => holdsR_ok x k w' (hX.agree hA)) ?_
  have hg := fun w' (hA : Agree (fun _ => False) w w') => globalR_ok x k w' (hX.agree hA)
  unfold ordL
  generalize hldB x k = hb at *
  generalize gR x k = G at *
  generalize gE k = E at *
  by_cases h0 : E = 0
  · subst h0
    cases hb with
    | false =>
      refine RunF_sound tab_ok noX_local 100 [false, true] _ _ rfl ?_ ?_
      · simp
      refine Run.retM (Ds := []) tab_ok noX_local Tryz.func9 rfl trivial fun M fp a w' hr => ?_
      exact ⟨hr.agree, none, 0, rfl, seesN_nil w' none, fun a h => (by cases h)⟩
    | true =>
      refine RunF_sound tab_ok noX_local 100 [false, false] _ _ rfl ?_ ?_
      · simp
      refine Run.callFn (r := .tuple #[encRel G, .int .i64 0]) noX_local rfl rfl rfl rfl rfl rfl rfl globalR_enters rfl (fun w' hA => hg w' hA) ?_
      refine RunF_sound tab_ok noX_local 100 [] _ _ rfl ?_ ?_
      · simp [segsVals, relV_one']
      refine Run.callR noX_local rfl rfl rfl rfl rfl rfl extendR_enters rfl (fun M w' _ hA => extendR_ok G w') ?_
      rintro v w2 w1 S1 hag hag2 ⟨p, l, c, b, rfl, e1, z1, s1, n1⟩ hS1
      have hB1 := (Based.refl w).call hag hag2 hS1
      refine ⟨.v (.tuple #[.slice p l.length c, .bool b]), fun M => rfl, ?_⟩
      refine RunF_sound tab_ok noX_local 100 [] _ _ rfl ?_ ?_
      · simp
      refine Run.retM (Ds := []) tab_ok noX_local Tryz.func9 rfl trivial fun M fp a w' hr => ?_
      have hl : (extendL G).getD [] = l := by
        rw [e1]
        cases b with
        | true => rfl
        | false => rw [z1 rfl]; rfl
      refine ⟨hB1.later hr.agree, p, c, ?_, ?_, fun a h => Nat.le_trans hag.size (n1 a h)⟩
      · simp [hl, conc, concL, resAV]
      · simp only [hl]
        exact s1.agree hr.agree fun a h => hS1.new _ (n1 a h)
  · refine RunF_sound tab_ok noX_local 100 [true] _ _ rfl ?_ ?_
    · simp [h0]
    refine Run.retM (Ds := []) tab_ok noX_local Tryz.func9 rfl trivial fun M fp a w' hr => ?_
    refine ⟨hr.agree, none, 0, ?_, ?_, fun a h => (by cases h)⟩
    · simp [h0, conc, concL, resAV]
    · rw [if_pos h0]; exact seesN_nil w' none
theorem orderR_enters : Enters Tryz.prog 9 := enters_mk Tryz.func9 (by decide) rfl
end Go.Proofs.YtmammebifhmnhaaGreatDoor

/-
  AxiomWhys: lists that are written over. Own work.
-/
namespace Go.Proofs.YtmammebifhmnhaaGreatDoor
open Go.AM Go.RowKit
set_option maxRecDepth 100000

/-- Lists found, in memory that stands still, between two numbers of blocks. -/
structure KeepW (w1 : World) (S1 : Foot) (lo hi : Nat) (p : Option Addr) (c : Nat) (s : List Bnt) : Prop where
  row : RowB w1 p c s
  at_ : ∀ e ∈ s, EntAt w1 e.2
  po : ∀ a, p = some a → ¬ S1 a.block
  eo : ∀ e ∈ s, ¬ S1 e.2.1
  pb : ∀ a, p = some a → lo ≤ a.block ∧ a.block < hi
  eb : ∀ e ∈ s, lo ≤ e.2.1 ∧ e.2.1 < hi
  sep : ∀ a, p = some a → ∀ e ∈ s, e.2.1 ≠ a.block
theorem RowB.lt {w : World} {p : Option Addr} {c : Nat} {s : List Bnt} (h : RowB w p c s) {a : Addr} (hp : p = some a) : a.block < w.heap.size := by
  rcases h with ⟨_, hr, _⟩ | ⟨b, hb, hr⟩
  · rw [hr] at hp; cases hp
  · rw [hb] at hp; cases hp; exact hr.lt
theorem RowB.keep {w w' : World} {p : Option Addr} {c : Nat} {s : List Bnt} (h : RowB w p c s) (he : ∀ a, p = some a → w'.heap[a.block]? = w.heap[a.block]?) : RowB w' p c s := by
  rcases h with hr | ⟨b, hb, hr⟩
  · exact .inl hr
  · exact .inr ⟨b, hb, BlkAt.same hr (he _ hb)⟩
theorem KeepW.new {w0 w w1 : World} {S0 S1 : Foot} {p : Option Addr} {c : Nat} {s : List Bnt} (h : Found w w1 p c s) (hS : Since w0 S0 w S1) : KeepW w1 S1 w.heap.size w1.heap.size p c s :=
  ⟨h.row, h.at_, fun a ha => hS.new _ (h.new a ha), fun e he => hS.new _ (h.nw e he), fun a ha => ⟨h.new a ha, h.plt ha⟩, fun e he => ⟨h.nw e he, h.elt he⟩, h.sep⟩
theorem KeepW.to {w0 w1 : World} {S0 S1 : Foot} {lo hi : Nat} {p : Option Addr} {c : Nat} {s : List Bnt} (h : KeepW w0 S0 lo hi p c s) (hb : ∀ b, b < w0.heap.size → ¬ S0 b → lo ≤ b ∧ b < hi → w1.heap[b]? = w0.heap[b]? ∧ ¬ S1 b) : KeepW w1 S1 lo hi p c s :=
  ⟨h.row.keep fun a ha => (hb _ (h.row.lt ha) (h.po a ha) (h.pb a ha)).1, fun e he => BlkAt.same (h.at_ e he) (hb _ (h.at_ e he).lt (h.eo e he) (h.eb e he)).1, fun a ha => (hb _ (h.row.lt ha) (h.po a ha) (h.pb a ha)).2,
   fun e he => (hb _ (h.at_ e he).lt (h.eo e he) (h.eb e he)).2, h.pb, h.eb, h.sep⟩
theorem KeepW.call {w0 w w1 : World} {S0 S1 : Foot} {lo hi : Nat} {p : Option Addr} {c : Nat} {s : List Bnt} (h : KeepW w0 S0 lo hi p c s) (hA : Agree S0 w0 w) (hA2 : Agree (fun _ => False) w w1) (hS : Since w0 S0 w S1) : KeepW w1 S1 lo hi p c s :=
  h.to fun b hb hs _ => ⟨by rw [hA2.block _ (Nat.lt_of_lt_of_le hb hA.size) (fun f => f), hA.block _ hb hs], hS.old _ hb hs⟩
theorem KeepW.at {w1 w' : World} {S1 : Foot} {lo hi : Nat} {p : Option Addr} {c : Nat} {s : List Bnt} (h : KeepW w1 S1 lo hi p c s) (hA : Agree S1 w1 w') : SeesB w' p s := by
  have hE : ∀ e ∈ s, EntAt w' e.2 := fun e he => BlkAt.same (h.at_ e he) (hA.block _ (h.at_ e he).lt (h.eo e he))
  rcases h.row.keep (w' := w') (fun a ha => hA.block _ (h.row.lt ha) (h.po a ha)) with ⟨rfl, rfl, _⟩ | ⟨b, rfl, hb⟩
  · exact ⟨fun i hi => absurd hi (Nat.not_lt_zero _), fun e he => (by cases he)⟩
  · exact seesB_row hb hE

/-- What is known of lists that are written over. -/
def wX (b : Nat) (s : List Bnt) : Res := fun w fp => (∀ x, fp x ↔ x = b ∨ x ∈ s.map fun e => e.2.1) ∧
  (∃ cur, w.heap[b]? = some (.cells cur 46 (0, 0)) ∧ s.length * 2 ≤ cur.size ∧ ∀ i (h : i < s.length), cur[i * 2 + 1]? = some (slV s[i].2)) ∧
  (∀ e ∈ s, e.2.1 ≠ b ∧ ∃ cur, w.heap[e.2.1]? = some (.cells cur 3 (0, 0)) ∧ e.2.2.2.length ≤ cur.size)
theorem wX_local (b : Nat) (s : List Bnt) : Local (wX b s) := fun w w' fp ⟨h1, ⟨cur, h2, h3⟩, h4⟩ _ hs =>
  ⟨h1, ⟨cur, by rw [hs b ((h1 b).2 (.inl rfl))]; exact h2, h3⟩, fun e he => by
    obtain ⟨g1, cur, g2, g3⟩ := h4 e he
    exact ⟨g1, cur, by rw [hs _ ((h1 _).2 (.inr (List.mem_map.2 ⟨e, he, rfl⟩)))]; exact g2, g3⟩⟩
theorem wX_cell {b : Nat} {s : List Bnt} {w : World} {fp : Foot} (h : wX b s w fp) {i : Nat} (hi : i < s.length) : w.cell? ⟨b, i * 2 + 1, none⟩ = some (slV s[i].2) := by
  obtain ⟨_, ⟨cur, h2, _, h3⟩, _⟩ := h
  have := h3 i hi
  simp [World.cell?, h2, this]
theorem wX_set {b : Nat} {s : List Bnt} {w : World} {fp : Foot} (v : Value) (h : wX b s w fp) {i k : Nat} (hi : i < s.length) (hk : k < s[i].2.2.2.length) :
    fp s[i].2.1 ∧ ∃ cur e, w.heap[s[i].2.1]? = some (.cells cur e (0, 0)) ∧ k < cur.size ∧ wX b s (w.setRow s[i].2.1 (cur.toList.take k ++ [v] ++ cur.toList.drop (k + 1)).toArray) fp := by
  obtain ⟨h1, ⟨cb, hb, hb2, hb3⟩, h4⟩ := h
  obtain ⟨g1, cur, g2, g3⟩ := h4 s[i] (List.getElem_mem hi)
  have hkc : k < cur.size := by omega
  refine ⟨(h1 _).2 (.inr (List.mem_map.2 ⟨_, List.getElem_mem hi, rfl⟩)), cur, _, g2, hkc, h1, ⟨cb, ?_, hb2, hb3⟩, fun e he => ?_⟩
  · rw [setRow_other _ _ _ _ (fun e => g1 e.symm)]; exact hb
  · obtain ⟨q1, c2, q2, q3⟩ := h4 e he
    refine ⟨q1, ?_⟩
    by_cases hq : e.2.1 = s[i].2.1
    · rw [hq]
      rw [hq, g2] at q2
      cases q2
      refine ⟨_, setRow_heap w _ _ _ _ _ g2, ?_⟩
      simp only [List.size_toArray, List.length_append, List.length_take, List.length_drop, Array.length_toList, List.length_singleton]
      omega
    · exact ⟨c2, by rw [setRow_other _ _ _ _ hq]; exact q2, q3⟩
theorem wX_ax {b : Nat} {s : List Bnt} {w : World} {fp : Foot} (v : Value) (h : wX b s w fp) {i : Nat} (hi : i < s.length) :
    fp b ∧ ∃ cur e, w.heap[b]? = some (.cells cur e (0, 0)) ∧ i * 2 < cur.size ∧ wX b s (w.setRow b (cur.toList.take (i * 2) ++ [v] ++ cur.toList.drop (i * 2 + 1)).toArray) fp := by
  obtain ⟨h1, ⟨cb, hb, hb2, hb3⟩, h4⟩ := h
  have hlt : i * 2 < cb.size := by omega
  refine ⟨(h1 _).2 (.inl rfl), cb, _, hb, hlt, h1, ⟨_, setRow_heap w _ _ _ _ _ hb, ?_, fun j hj => ?_⟩, fun e he => ?_⟩
  · simp only [List.size_toArray, List.length_append, List.length_take, List.length_drop, Array.length_toList, List.length_singleton]
    omega
  · have e1 : cb.toList.take (i * 2) ++ [v] ++ cb.toList.drop (i * 2 + 1) = cb.toList.set (i * 2) v := by
      rw [List.set_eq_take_append_cons_drop, if_pos (by simpa using hlt)]; simp
    rw [e1, List.getElem?_toArray, List.getElem?_set, if_neg (by omega), Array.getElem?_toList]
    exact hb3 j hj
  · obtain ⟨q1, c2, q2, q3⟩ := h4 e he
    exact ⟨q1, c2, by rw [setRow_other _ _ _ _ q1]; exact q2, q3⟩
theorem wX_of {w1 w' : World} {S1 : Foot} {lo hi c b : Nat} {s : List Bnt} (h : KeepW w1 S1 lo hi (some ⟨b, 0, none⟩) c s) (hA : Agree S1 w1 w') : wX b s w' (fun x => x = b ∨ x ∈ s.map fun e => e.2.1) := by
  refine ⟨fun x => Iff.rfl, ?_, fun e he => ⟨h.sep _ rfl e he, ?_⟩⟩
  · rcases h.row with ⟨_, h2, _⟩ | ⟨b', h2, h3⟩
    · cases h2
    · cases h2
      have h3' := BlkAt.same h3 (hA.block _ h3.lt (h.po _ rfl))
      obtain ⟨g1, cur, g2, g3, g4, g5, g6⟩ := h3'
      refine ⟨cur, g2, ?_, fun i hi => ?_⟩
      · rw [g5]; exact Nat.mul_le_mul_right 2 g3
      · have e1 : (cur.toList.take (s.length * 2))[i * 2 + 1]? = some (slV s[i].2) := by
          rw [g6, bnsV_get s i hi 1 (by decide)]; rfl
        rw [List.getElem?_take, if_pos (by omega), Array.getElem?_toList] at e1
        exact e1
  · have h3' := BlkAt.same (h.at_ e he) (hA.block _ (h.at_ e he).lt (h.eo e he))
    obtain ⟨g1, cur, g2, g3, g4, g5, g6⟩ := h3'
    exact ⟨cur, g2, by rw [g5]; simpa using g3⟩
end Go.Proofs.YtmammebifhmnhaaGreatDoor

/-
  AxiomWhys answers true. Own work.
-/
namespace Go.Proofs.YtmammebifhmnhaaGreatDoor
open Go.AM
set_option maxRecDepth 100000

theorem why_few' (x : Xn) (k : Int) : (whyL x k).length ≤ 3 := by
  unfold whyL
  split
  · simp
  · have h : ∀ (o : Option (List Nat)) (n : Nat), (o.toList.map fun l => (n, l)).length ≤ 1 := fun o n => by cases o <;> simp
    rw [List.length_append, List.length_append]
    have h1 := h (cycO (unpR (woX x))) 1
    have h2 := h (betO (shortL x.ev).length (kFr x) (standsL 5 x.ev) (kCo x)) 2
    have h3 := h (cycO (gR x k)) 3
    omega
theorem ord_len (x : Xn) (k : Int) : (ordL x k).1.length ≤ 64 := by
  unfold ordL
  split
  · simp
  · split
    · simp
    · cases h : extendL (gR x k) with
      | none => simp
      | some l => exact extend_len h

set_option maxHeartbeats 4000000 in
theorem axiomWhys_ok (x : Xn) (k0 : Int) (w : World) (hX : SeesX w x) (hT : TabAt w) (h0w : 0 < w.heap.size) : Gives Tryz.prog 3 [encX x, .int .i64 k0] w (.bool true) := by
  have hTA : ∀ w', Agree (fun _ => False) w w' → TabAt w' := fun w' hA => hT.agree hA (fun f => f)
  have hSA : ∀ w', Agree (fun _ => False) w w' → 0 < w'.heap.size := fun w' hA => Nat.lt_of_lt_of_le h0w hA.size
  have hone := xV_one hX.one1 hX.one4
  have hml : maxLen = 9223372036854775807 := rfl
  refine Gives.of_run Tryz.func3 rfl (by show 2 ≤ 140; decide) ?_
  refine RunF_sound tab_ok noX_local 100 [] _ _ rfl ?_ ?_
  · simp
  suffices H : ∀ (d i : Nat), i + d = 5 → ∀ (w1 : World) (S1 : Foot), Based w w1 S1 → ∀ σ, inT σ.t [(1, .v (.int .i64 k0)), (2, .ptr 0 0), (5, .v (.int .i64 (i : Int)))] → inT σ.h [(0, .cells 28 [.vals 5 (xV x)])] →
      Run ((fnP Tryz.prog 3 (Tryz.f3).ntmps w (.bool true)).rebase w1 S1) _ σ by
    exact H 5 0 rfl w (fun _ => False) (Based.refl w) _ ⟨rfl, rfl, rfl, trivial⟩ ⟨rfl, trivial⟩
  intro d
  induction d with
  | zero =>
    intro i hi w1 S1 hB σ ht hh
    refine Run.to ?_ ht hh (n' := 1)
    refine RunF_sound tab_ok noX_local 400 [false] _ _ rfl ?_ ?_
    · simp; omega
    exact Run.retB (Ds := []) tab_ok noX_local hB Tryz.func3 rfl trivial (fun M => rfl)
  | succ d ih =>
    intro i hi w1 S1 hB σ ht hh
    refine Run.to ?_ ht hh (n' := 1)
    obtain ⟨k, hk⟩ : ∃ k : Int, k = if (i : Int) = 4 then k0 else (i : Int) := ⟨_, rfl⟩
    refine' Run.join (todo' := _) [(1, .v (.int .i64 k0)), (2, .ptr 0 0), (5, .v (.int .i64 (i : Int))), (6, .v (.int .i64 k)), (32, .v (.int .i64 k)), (33, .v (encX x))] [(0, .cells 28 [.vals 5 (xV x)])] 1 ?_ ?_
    rotate_left
    · intro J
      by_cases h4 : (i : Int) = 4
      · refine RunF_sound tab_ok noX_local 400 [true, true] _ _ rfl ?_ ?_
        · simp [h4]
        refine J _ ?_ ?_
        · exact ⟨⟨_, rfl, fun M => rfl⟩, ⟨_, rfl, fun M => rfl⟩, ⟨_, rfl, fun M => rfl⟩, ⟨_, rfl, fun M => congrArg (Value.int .i64) (by simp [hk, h4])⟩, ⟨_, rfl, fun M => congrArg (Value.int .i64) (by simp [hk, h4])⟩, ⟨_, rfl, fun M => rfl⟩, trivial⟩
        · exact ⟨rfl, trivial⟩
      · refine RunF_sound tab_ok noX_local 400 [true, false] _ _ rfl ?_ ?_
        · simp [h4]; omega
        refine J _ ?_ ?_
        · exact ⟨⟨_, rfl, fun M => rfl⟩, ⟨_, rfl, fun M => rfl⟩, ⟨_, rfl, fun M => rfl⟩, ⟨_, rfl, fun M => congrArg (Value.int .i64) (by simp [hk, h4])⟩, ⟨_, rfl, fun M => congrArg (Value.int .i64) (by simp [hk, h4])⟩, ⟨_, rfl, fun M => rfl⟩, trivial⟩
        · exact ⟨rfl, trivial⟩
    clear ht hh
    refine Run.callFn (r := .tuple #[.bool (hldB x k), .int .i64 (gE k)]) noX_local rfl rfl rfl rfl rfl rfl rfl holds_enters rfl (fun w' hA => holds_ok x k w' (hX.agree (hB.later hA)) (hTA w' (hB.later hA)) (hSA w' (hB.later hA))) ?_
    refine RunF_sound tab_ok noX_local 100 [] _ _ rfl ?_ ?_
    · simp
    refine Run.callFn (r := .tuple #[.bool (hldB x k), .int .i64 (gE k)]) noX_local rfl rfl rfl rfl rfl rfl rfl holdsR_enters rfl (fun w' hA => holdsR_ok x k w' (hX.agree (hB.later hA))) ?_
    refine RunF_sound tab_ok noX_local 100 [] _ _ rfl ?_ ?_
    · simp
    refine Run.callR noX_local rfl rfl rfl rfl rfl rfl why_enters rfl (fun M w' _ hA => why_ok x k w' (hX.agree (hB.later hA)) (hTA w' (hB.later hA)) (hSA w' (hB.later hA))) ?_
    rintro v wa w2 S2 hag hag2 ⟨s, p, c, rfl, hs, hF⟩ hS2
    have hB2 := hB.call hag hag2 hS2
    have K1 := KeepW.new hF hS2
    have h0a : w.heap.size ≤ wa.heap.size := Nat.le_trans hB.agree.size hag.size
    refine ⟨.v (.tuple #[.slice p s.length c, .int .i64 (gE k)]), fun M => rfl, ?_⟩
    clear hS2 hag hag2 hF hB
    refine RunF_sound tab_ok noX_local 100 [] _ _ rfl ?_ ?_
    · simp
    refine Run.callR noX_local rfl rfl rfl rfl rfl rfl why_enters rfl (fun M w' _ hA => why_ok x k w' (hX.agree (hB2.later hA)) (hTA w' (hB2.later hA)) (hSA w' (hB2.later hA))) ?_
    rintro v wb w3 S3 hag hag2 ⟨t, q, e, rfl, ht, hF⟩ hS3
    have hB3 := hB2.call hag hag2 hS3
    have K2 := KeepW.new hF hS3
    have hlo2 : w2.heap.size ≤ wb.heap.size := hag.size
    have hwb : wb.heap.size ≤ w3.heap.size := hag2.size
    replace K1 := K1.call hag hag2 hS3
    refine ⟨.v (.tuple #[.slice q t.length e, .int .i64 (gE k)]), fun M => rfl, ?_⟩
    clear hS3 hag hag2 hF hB2
    refine RunF_sound tab_ok noX_local 100 [] _ _ rfl ?_ ?_
    · simp
    refine Run.callR noX_local rfl rfl rfl rfl rfl rfl whyR_enters rfl (fun M w' _ hA => whyR_ok x k w' (hX.agree (hB3.later hA))) ?_
    rintro v wc w4 S4 hag hag2 ⟨u, r, f, rfl, hu, hF⟩ hS4
    have hB4 := hB3.call hag hag2 hS4
    have K3 := KeepW.new hF hS4
    have hlo3 : w3.heap.size ≤ wc.heap.size := hag.size
    replace K1 := K1.call hag hag2 hS4
    replace K2 := K2.call hag hag2 hS4
    refine ⟨.v (.tuple #[.slice r u.length f, .int .i64 (gE k)]), fun M => rfl, ?_⟩
    clear hS4 hag hag2 hF hB3
    refine RunF_sound tab_ok noX_local 100 [] _ _ rfl ?_ ?_
    · simp
    refine Run.callR noX_local rfl rfl rfl rfl rfl rfl order_enters rfl (fun M w' _ hA => order_ok x k w' (hX.agree (hB4.later hA)) (hTA w' (hB4.later hA)) (hSA w' (hB4.later hA))) ?_
    rintro v wd w5 S5 hag hag2 ⟨pl, cl, rfl, hol, hln⟩ hS5
    have hB5 := hB4.call hag hag2 hS5
    replace K1 := K1.call hag hag2 hS5
    replace K2 := K2.call hag hag2 hS5
    replace K3 := K3.call hag hag2 hS5
    have L1 := KeepN.new hol hln hS5
    refine ⟨.v (.tuple #[.slice pl (ordL x k).1.length cl, .int .i64 (ordL x k).2]), fun M => rfl, ?_⟩
    clear hS5 hag hag2 hB4 hol hln
    refine RunF_sound tab_ok noX_local 100 [] _ _ rfl ?_ ?_
    · simp
    refine Run.callR noX_local rfl rfl rfl rfl rfl rfl orderR_enters rfl (fun M w' _ hA => orderR_ok x k w' (hX.agree (hB5.later hA))) ?_
    rintro v we w6 S6 hag hag2 ⟨po, co, rfl, hoo, hon⟩ hS6
    have hB6 := hB5.call hag hag2 hS6
    replace K1 := K1.call hag hag2 hS6
    replace K2 := K2.call hag hag2 hS6
    replace K3 := K3.call hag hag2 hS6
    replace L1 := L1.call hag hag2 hS6
    have L2 := KeepN.new hoo hon hS6
    refine ⟨.v (.tuple #[.slice po (ordL x k).1.length co, .int .i64 (ordL x k).2]), fun M => rfl, ?_⟩
    clear hS6 hag hag2 hB5 hoo hon
    have hsl : s.length ≤ 3 := by rw [← List.length_map (f := bnC), hs]; exact why_few' x k
    have htl : t.length ≤ 3 := by rw [← List.length_map (f := bnC), ht]; exact why_few' x k
    have hst : s.map bnC = u.map bnC := hs.trans hu.symm
    have htu : t.map bnC = u.map bnC := ht.trans hu.symm
    clear hs ht hu
    generalize hldB x k = hb at *
    generalize gE k = E at *
    have hol64 := ord_len x k
    generalize (ordL x k).1 = o at *
    generalize (ordL x k).2 = I at *
    refine RunF_sound tab_ok noX_local 400 [false, false] _ _ rfl ?_ ?_
    · simp
    refine Run.callFn (r := .bool true) noX_local rfl rfl rfl rfl rfl rfl rfl sameBroken_enters rfl (fun w' hA => sameBroken_ok p r c f s u w' (K1.at hA) (K3.at hA) hst (by rw [hml]; omega)) ?_
    refine RunF_sound tab_ok noX_local 400 [false] _ _ rfl ?_ ?_
    · simp
    refine Run.callFn (r := .bool true) noX_local rfl rfl rfl rfl rfl rfl rfl sameBroken_enters rfl (fun w' hA => sameBroken_ok q r e f t u w' (K2.at hA) (K3.at hA) htu (by rw [hml]; omega)) ?_
    refine RunF_sound tab_ok noX_local 400 [false, false] _ _ rfl ?_ ?_
    · simp
    refine Run.callFn (r := .bool true) noX_local rfl rfl rfl rfl rfl rfl rfl sameInts_enters rfl (fun w' hA => ?_) ?_
    · have := sameInts_ok pl po cl co o o w' (L1.at hA) (L2.at hA) (by rw [hml]; omega)
      rwa [decide_eq_true rfl] at this
    refine RunF_sound tab_ok noX_local 400 [false, false] _ _ rfl ?_ ?_
    · simp
    have hpre : ∀ σ : St, True := fun _ => trivial
    rcases K1.row with ⟨rfl, rfl, rfl⟩ | ⟨b, rfl, _⟩
    · refine RunF_sound tab_ok noX_local 400 [false] _ _ rfl ?_ ?_
      · simp
      refine Run.callFn (r := .bool true) noX_local rfl rfl rfl rfl rfl rfl rfl sameBroken_enters rfl (fun w' hA => sameBroken_ok q r e f t u w' (K2.at hA) (K3.at hA) htu (by rw [hml]; omega)) ?_
      refine RunF_sound tab_ok noX_local 400 [false] _ _ rfl ?_ ?_
      · simp
      exact ih (i + 1) (by omega) w6 S6 hB6 _ ⟨rfl, rfl, i64_eq (wrap_succ (by omega)), trivial⟩ ⟨rfl, trivial⟩
    · have hFb : ∀ y, (y = b ∨ y ∈ s.map fun e => e.2.1) → y < w6.heap.size ∧ ¬ S6 y ∧ wa.heap.size ≤ y ∧ y < w2.heap.size := fun y hy => by
        rcases hy with rfl | hy
        · exact ⟨K1.row.lt rfl, K1.po _ rfl, K1.pb _ rfl⟩
        · obtain ⟨d, hd, rfl⟩ := List.mem_map.1 hy
          exact ⟨(K1.at_ d hd).lt, K1.eo d hd, K1.eb d hd⟩
      refine Run.to (t' := [(1, .v (.int .i64 k0)), (2, .ptr 0 0), (5, .v (.int .i64 (i : Int))), (11, .v (.slice (some ⟨b, 0, none⟩) s.length c)), (13, .v (.slice q t.length e)), (15, .v (.slice r u.length f)), (21, .v (.int .i64 ((0 : Nat) : Int)))]) (h' := [(0, .cells 28 [.vals 5 (xV x)])]) (n' := 1) ?_ ⟨rfl, rfl, rfl, rfl, rfl, rfl, rfl, trivial⟩ ⟨rfl, trivial⟩
      refine Run.unfreeze (w00 := w) (fun y => y = b ∨ y ∈ s.map fun e => e.2.1) (wX b s) (fun y hy => ?_) hB6 (fun w' hA => wX_of K1 hA) ?_
      · obtain ⟨h1, h2, h3, h4⟩ := hFb y hy
        exact ⟨h1, h2, by omega⟩
      intro w7 S7 hA7 hB7 hS7
      have hkeep : ∀ y, y < w6.heap.size → ¬ S6 y → wb.heap.size ≤ y → w7.heap[y]? = w6.heap[y]? ∧ ¬ S7 y := fun y h1 h2 h3 => ⟨hA7.block _ h1 h2, hS7 y h1 h2 fun hF => by have := (hFb y hF).2.2.2; omega⟩
      replace K2 := K2.to fun y h1 h2 h3 => hkeep y h1 h2 h3.1
      replace K3 := K3.to fun y h1 h2 h3 => hkeep y h1 h2 (by omega)
      have hEnt := K1.at_
      clear hkeep hS7 hA7 hFb K1 L1 L2 hB6
      have hXl := wX_local b s
      suffices H2 : ∀ (m n : Nat), n + m = s.length → ∀ σ, inT σ.t [(1, .v (.int .i64 k0)), (2, .ptr 0 0), (5, .v (.int .i64 (i : Int))), (11, .v (.slice (some ⟨b, 0, none⟩) s.length c)), (13, .v (.slice q t.length e)), (15, .v (.slice r u.length f)), (21, .v (.int .i64 (n : Int)))] → inT σ.h [(0, .cells 28 [.vals 5 (xV x)])] →
          Run (((fnP Tryz.prog 3 (Tryz.f3).ntmps w (.bool true)).rebase w7 S7).withX (wX b s)) _ σ by
        exact H2 s.length 0 (by omega) _ ⟨rfl, rfl, rfl, rfl, rfl, rfl, rfl, trivial⟩ ⟨rfl, trivial⟩
      intro m
      induction m with
      | zero =>
        intro n hn σ ht hh
        refine Run.to ?_ ht hh (n' := 1)
        obtain rfl : n = s.length := by omega
        refine RunF_sound tab_ok hXl 400 [false] _ _ rfl ?_ ?_
        · simp
        refine Run.callFn (r := .bool true) hXl rfl rfl rfl rfl rfl rfl rfl sameBroken_enters rfl (fun w' hA => sameBroken_ok q r e f t u w' (K2.at hA) (K3.at hA) htu (by rw [hml]; omega)) ?_
        refine RunF_sound tab_ok hXl 400 [false] _ _ rfl ?_ ?_
        · simp
        refine Run.toX noX (fun _ _ _ => trivial) ?_
        exact ih (i + 1) (by omega) w7 S7 hB7 _ ⟨rfl, rfl, i64_eq (wrap_succ (by omega)), trivial⟩ ⟨rfl, trivial⟩
      | succ m ihm =>
        intro n hn σ ht hh
        refine Run.to ?_ ht hh (n' := 1)
        have hns : n < s.length := by omega
        refine RunF_sound tab_ok hXl 400 [true] _ _ rfl ?_ ?_
        · simp
          exact hns
        suffices H3 : ∀ (m v : Nat), v + m = s[n].2.2.2.length → ∀ σ, inT σ.t [(1, .v (.int .i64 k0)), (2, .ptr 0 0), (5, .v (.int .i64 (i : Int))), (11, .v (.slice (some ⟨b, 0, none⟩) s.length c)), (13, .v (.slice q t.length e)), (15, .v (.slice r u.length f)), (21, .v (.int .i64 (n : Int))), (22, .v (.int .i64 (v : Int)))] → inT σ.h [(0, .cells 28 [.vals 5 (xV x)])] →
            Run (((fnP Tryz.prog 3 (Tryz.f3).ntmps w (.bool true)).rebase w7 S7).withX (wX b s)) _ σ by
          exact H3 s[n].2.2.2.length 0 (by omega) _ ⟨rfl, rfl, rfl, rfl, rfl, rfl, rfl, rfl, trivial⟩ ⟨rfl, trivial⟩
        clear ht hh
        intro m2
        have hlen : s[n].2.2.2.length ≤ 9223372036854775807 := by
          obtain ⟨_, cur, _, g1, g2, _⟩ := hEnt s[n] (List.getElem_mem hns)
          exact Nat.le_trans g1 g2
        induction m2 with
        | zero =>
          intro v hv σ ht hh
          refine Run.to ?_ ht hh (n' := 1)
          refine RunF_sound tab_ok hXl 8 [] _ _ rfl ?_ ?_
          · simp
            exact hns
          refine Run.toC (t' := [(1, .v (.int .i64 k0)), (2, .ptr 0 0), (5, .v (.int .i64 (i : Int))), (11, .v (.slice (some ⟨b, 0, none⟩) s.length c)), (13, .v (.slice q t.length e)), (15, .v (.slice r u.length f)), (21, .v (.int .i64 (n : Int))), (22, .v (.int .i64 (v : Int))), (115, .v (.int .i64 (v : Int))), (119, .v (.pointer (some ⟨b, n * 2 + 1, none⟩)))]) (h' := [(0, .cells 28 [.vals 5 (xV x)])]) (n' := 1) ?_
            ⟨inTC_same rfl, inTC_same rfl, inTC_same rfl, inTC_same rfl, inTC_same rfl, inTC_same rfl, inTC_same rfl, inTC_same rfl, inTC_same rfl, ⟨_, rfl, fun M => ?_⟩, trivial⟩ ⟨rfl, trivial⟩
          rotate_left
          · simp only [conc, Int.toNat_natCast, Option.getD_some, Addr.add_lit, Nat.zero_add]
          refine Run.loadX (Q := fun z => z = slV s[n].2) tab_ok rfl rfl rfl rfl rfl (fun w' fp' h => ⟨_, rfl, wX_cell h hns⟩) rfl rfl ?_
          rintro _ rfl
          refine RunF_sound tab_ok hXl 400 [false] _ _ rfl ?_ ?_
          · simp
            exact ⟨by omega, hns⟩
          refine Run.toC (t' := [(1, .v (.int .i64 k0)), (2, .ptr 0 0), (5, .v (.int .i64 (i : Int))), (11, .v (.slice (some ⟨b, 0, none⟩) s.length c)), (13, .v (.slice q t.length e)), (15, .v (.slice r u.length f)), (21, .v (.int .i64 (n : Int))), (135, .v (.pointer (some ⟨b, n * 2, none⟩)))]) (h' := [(0, .cells 28 [.vals 5 (xV x)])]) (n' := 1) ?_
            ⟨inTC_same rfl, inTC_same rfl, inTC_same rfl, inTC_same rfl, inTC_same rfl, inTC_same rfl, inTC_same rfl, ⟨_, rfl, fun M => ?_⟩, trivial⟩ ⟨rfl, trivial⟩
          rotate_left
          · simp only [conc, Int.toNat_natCast, Option.getD_some, Addr.add_lit, Nat.zero_add, Nat.add_zero]
          refine Run.storeX (v := .int .i64 (-1)) (X' := wX b s) tab_ok rfl rfl rfl rfl rfl rfl rfl rfl (fun w' fp' h _ => wX_ax _ h hns) rfl ?_
          refine RunF_sound tab_ok hXl 400 [] _ _ rfl ?_ ?_
          · simp
          exact ihm (n + 1) (by omega) _ ⟨rfl, rfl, rfl, rfl, rfl, rfl, i64_eq (wrap_succ (by omega)), trivial⟩ ⟨rfl, trivial⟩
        | succ m2 ihv =>
          intro v hv σ ht hh
          refine Run.to ?_ ht hh (n' := 1)
          have hvl : v < s[n].2.2.2.length := by omega
          refine RunF_sound tab_ok hXl 8 [] _ _ rfl ?_ ?_
          · simp
            exact hns
          refine Run.toC (t' := [(1, .v (.int .i64 k0)), (2, .ptr 0 0), (5, .v (.int .i64 (i : Int))), (11, .v (.slice (some ⟨b, 0, none⟩) s.length c)), (13, .v (.slice q t.length e)), (15, .v (.slice r u.length f)), (21, .v (.int .i64 (n : Int))), (22, .v (.int .i64 (v : Int))), (115, .v (.int .i64 (v : Int))), (119, .v (.pointer (some ⟨b, n * 2 + 1, none⟩)))]) (h' := [(0, .cells 28 [.vals 5 (xV x)])]) (n' := 1) ?_
            ⟨inTC_same rfl, inTC_same rfl, inTC_same rfl, inTC_same rfl, inTC_same rfl, inTC_same rfl, inTC_same rfl, inTC_same rfl, inTC_same rfl, ⟨_, rfl, fun M => ?_⟩, trivial⟩ ⟨rfl, trivial⟩
          rotate_left
          · simp only [conc, Int.toNat_natCast, Option.getD_some, Addr.add_lit, Nat.zero_add]
          refine Run.loadX (Q := fun z => z = slV s[n].2) tab_ok rfl rfl rfl rfl rfl (fun w' fp' h => ⟨_, rfl, wX_cell h hns⟩) rfl rfl ?_
          rintro _ rfl
          refine RunF_sound tab_ok hXl 12 [true] _ _ rfl ?_ ?_
          · simp
            exact ⟨hvl, hns⟩
          refine Run.toC (t' := [(1, .v (.int .i64 k0)), (2, .ptr 0 0), (5, .v (.int .i64 (i : Int))), (11, .v (.slice (some ⟨b, 0, none⟩) s.length c)), (13, .v (.slice q t.length e)), (15, .v (.slice r u.length f)), (21, .v (.int .i64 (n : Int))), (22, .v (.int .i64 (v : Int))), (128, .v (.pointer (some ⟨b, n * 2 + 1, none⟩)))]) (h' := [(0, .cells 28 [.vals 5 (xV x)])]) (n' := 1) ?_
            ⟨inTC_same rfl, inTC_same rfl, inTC_same rfl, inTC_same rfl, inTC_same rfl, inTC_same rfl, inTC_same rfl, inTC_same rfl, ⟨_, rfl, fun M => ?_⟩, trivial⟩ ⟨rfl, trivial⟩
          rotate_left
          · simp only [conc, Int.toNat_natCast, Option.getD_some, Addr.add_lit, Nat.zero_add]
          refine Run.loadX (Q := fun z => z = slV s[n].2) tab_ok rfl rfl rfl rfl rfl (fun w' fp' h => ⟨_, rfl, wX_cell h hns⟩) rfl rfl ?_
          rintro _ rfl
          refine RunF_sound tab_ok hXl 400 [] _ _ rfl ?_ ?_
          · simp
            exact hvl
          refine Run.toC (t' := [(1, .v (.int .i64 k0)), (2, .ptr 0 0), (5, .v (.int .i64 (i : Int))), (11, .v (.slice (some ⟨b, 0, none⟩) s.length c)), (13, .v (.slice q t.length e)), (15, .v (.slice r u.length f)), (21, .v (.int .i64 (n : Int))), (22, .v (.int .i64 (v : Int))), (131, .v (.pointer (some ⟨s[n].2.1, v, none⟩)))]) (h' := [(0, .cells 28 [.vals 5 (xV x)])]) (n' := 1) ?_
            ⟨inTC_same rfl, inTC_same rfl, inTC_same rfl, inTC_same rfl, inTC_same rfl, inTC_same rfl, inTC_same rfl, inTC_same rfl, ⟨_, rfl, fun M => ?_⟩, trivial⟩ ⟨rfl, trivial⟩
          rotate_left
          · simp only [conc, Int.toNat_natCast, Nat.mul_one]
            show Value.pointer (some ((⟨s[n].2.1, 0, none⟩ : Addr).add v)) = _
            rw [Addr.add_lit, Nat.zero_add]
          refine Run.storeX (v := .int .i64 (-1)) (X' := wX b s) tab_ok rfl rfl rfl rfl rfl rfl rfl rfl (fun w' fp' h _ => wX_set _ h hns hvl) rfl ?_
          refine RunF_sound tab_ok hXl 400 [] _ _ rfl ?_ ?_
          · simp
          exact ihv (v + 1) (by omega) _ ⟨rfl, rfl, rfl, rfl, rfl, rfl, rfl, i64_eq (wrap_succ (by omega)), trivial⟩ ⟨rfl, trivial⟩
end Go.Proofs.YtmammebifhmnhaaGreatDoor

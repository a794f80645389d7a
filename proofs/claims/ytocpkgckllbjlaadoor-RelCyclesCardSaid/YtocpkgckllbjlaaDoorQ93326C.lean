/-
  Own work, merged: N8, N9.
-/
import Derived.AtR
import Derived.Below
import Derived.ChangeKeysEq
import Derived.KernelRfl
import Derived.LaidMore
import Derived.Laws.AppendOwn
import Derived.Laws.BytesString
import Derived.Laws.Cells
import Derived.Laws.CopyRow
import Derived.Laws.Entries
import Derived.Laws.Rows
import Derived.Laws.Small
import Derived.Laws.StructEq
import Derived.Lib.LaidTab
import Derived.Lib.TrailingZeros
import Derived.Maps.AppendAt
import Derived.OpenShut
import Derived.Orders
import Derived.ProofKit
import Derived.RangeFuncRecord
import Derived.SevenTiedAt
import Derived.Stop.Joined
import Derived.Test.YtocpkgckllbjlaaDoorCards
import Derived.Test.YtocpkgckllbjlaaDoorProg
import Derived.Test.YtocpkgckllbjlaaDoorRows
import Derived.Test.YtocpkgckllbjlaaDoorTie
import Derived.Test.YtocpkgckllbjlaaDoorQBCADE4
/-
  RelCycles walked, over opaque answers. Own work; printed by a program of our own (tools/gen_cycles.py).
-/
namespace Go.Proofs.YtocpkgckllbjlaaDoor
open Go.AM
set_option maxRecDepth 100000

set_option maxHeartbeats 1000000 in
theorem cycles_00 (r : Rl) (l : List Nat) (L : List (BitVec 64)) (hl : l.length ≤ 64) (hL : L.length ≤ 64) (w : World)
    (g57 : ∀ w', Agree (fun _ => False) w w' → HandsZ Tryd.prog 57 [encRel r] w' (.tup [.v (.slice none 0 0), .tt false]) [])
    (g58 : ∀ w', Agree (fun _ => False) w w' → HandsZ Tryd.prog 58 [encRel r] w' (.tup [.v (.slice none 0 0), .tt false]) [])
    (g59 : ∀ w', Agree (fun _ => False) w w' → HandsZ Tryd.prog 59 [encRel r] w' (.v (.slice none 0 0)) [])
    (g60 : ∀ w', Agree (fun _ => False) w w' → HandsZ Tryd.prog 60 [encRel r] w' (.v (.slice none 0 0)) [])
    : Gives Tryd.prog 7 [encRel r] w (.bool true) := by
  refine Gives.of_run Tryd.func7 rfl (by show 1 ≤ 97; decide) ?_
  refine RunF_sound tab_ok noX_local 200 [] _ _ rfl ?_ ?_
  · simp
  refine Run.callH noX_local (.tup [.v (.slice none 0 0), .tt false]) [] 2 rfl rfl rfl rfl rfl rfl cycle_enters rfl rfl rfl rfl rfl (fun M w' _ hA => (g57 w' hA).to [] rfl trivial rfl) ?_
  refine RunF_sound tab_ok noX_local 200 [] _ _ rfl ?_ ?_
  · simp
  refine Run.callH noX_local (.tup [.v (.slice none 0 0), .tt false]) [] 3 rfl rfl rfl rfl rfl rfl cycle_enters rfl rfl rfl rfl rfl (fun M w' _ hA => (g57 w' hA).to [] rfl trivial rfl) ?_
  refine RunF_sound tab_ok noX_local 200 [] _ _ rfl ?_ ?_
  · simp
  refine Run.callH noX_local (.tup [.v (.slice none 0 0), .tt false]) [] 4 rfl rfl rfl rfl rfl rfl cycleR_enters rfl rfl rfl rfl rfl (fun M w' _ hA => (g58 w' hA).to [] rfl trivial rfl) ?_
  refine RunF_sound tab_ok noX_local 200 [false] _ _ rfl ?_ ?_
  · simp
  refine Run.callM (r := .bool true) noX_local rfl rfl rfl rfl rfl rfl sameInts_enters rfl (fun M w' hM _ => sameN0 w') ?_
  refine RunF_sound tab_ok noX_local 200 [false] _ _ rfl ?_ ?_
  · simp
  refine Run.callM (r := .bool true) noX_local rfl rfl rfl rfl rfl rfl sameInts_enters rfl (fun M w' hM _ => sameN0 w') ?_
  refine RunF_sound tab_ok noX_local 200 [false] _ _ rfl ?_ ?_
  · simp
  refine Run.to (t' := [(1, .ptr 0 0), (45, .v (encRel r)), (3, .v (.slice none 0 0)), (5, .v (.slice none 0 0)), (7, .v (.slice none 0 0))]) (h' := [(0, .cells 25 [.vals 65 (relV r)])]) (n' := 4) ?_ ⟨rfl, rfl, rfl, rfl, rfl, trivial⟩ ⟨rfl, trivial⟩
  refine Run.callH noX_local (.v (.slice none 0 0)) [] 5 rfl rfl rfl rfl rfl rfl parts_enters rfl rfl rfl rfl rfl (fun M w' _ hA => (g59 w' hA).to [] rfl trivial rfl) ?_
  refine RunF_sound tab_ok noX_local 200 [] _ _ rfl ?_ ?_
  · simp
  refine Run.to (t' := [(1, .ptr 0 0), (47, .v (encRel r)), (3, .v (.slice none 0 0)), (5, .v (.slice none 0 0)), (7, .v (.slice none 0 0)), (9, .v (.slice none 0 0))]) (h' := [(0, .cells 25 [.vals 65 (relV r)])]) (n' := 5) ?_ ⟨rfl, rfl, rfl, rfl, rfl, rfl, trivial⟩ ⟨rfl, trivial⟩
  refine Run.callH noX_local (.v (.slice none 0 0)) [] 6 rfl rfl rfl rfl rfl rfl parts_enters rfl rfl rfl rfl rfl (fun M w' _ hA => (g59 w' hA).to [] rfl trivial rfl) ?_
  refine RunF_sound tab_ok noX_local 200 [] _ _ rfl ?_ ?_
  · simp
  refine Run.to (t' := [(1, .ptr 0 0), (49, .v (encRel r)), (3, .v (.slice none 0 0)), (5, .v (.slice none 0 0)), (7, .v (.slice none 0 0)), (9, .v (.slice none 0 0)), (10, .v (.slice none 0 0))]) (h' := [(0, .cells 25 [.vals 65 (relV r)])]) (n' := 6) ?_ ⟨rfl, rfl, rfl, rfl, rfl, rfl, rfl, trivial⟩ ⟨rfl, trivial⟩
  refine Run.callH noX_local (.v (.slice none 0 0)) [] 7 rfl rfl rfl rfl rfl rfl partsR_enters rfl rfl rfl rfl rfl (fun M w' _ hA => (g60 w' hA).to [] rfl trivial rfl) ?_
  refine RunF_sound tab_ok noX_local 200 [] _ _ rfl ?_ ?_
  · simp
  refine Run.to (t' := [(51, .v (.slice none 0 0)), (52, .v (.slice none 0 0)), (3, .v (.slice none 0 0)), (5, .v (.slice none 0 0)), (7, .v (.slice none 0 0)), (9, .v (.slice none 0 0)), (10, .v (.slice none 0 0)), (11, .v (.slice none 0 0))]) (h' := []) (n' := 7) ?_ ⟨rfl, rfl, rfl, rfl, rfl, rfl, rfl, rfl, trivial⟩ trivial
  refine Run.callM (r := .bool true) noX_local rfl rfl rfl rfl rfl rfl sameSets_enters rfl (fun M w' hM _ => sameW0 w') ?_
  refine RunF_sound tab_ok noX_local 200 [false] _ _ rfl ?_ ?_
  · simp
  refine Run.callM (r := .bool true) noX_local rfl rfl rfl rfl rfl rfl sameSets_enters rfl (fun M w' hM _ => sameW0 w') ?_
  refine RunF_sound tab_ok noX_local 200 [false] _ _ rfl ?_ ?_
  · simp
  refine Run.to (t' := [(3, .v (.slice none 0 0)), (5, .v (.slice none 0 0)), (7, .v (.slice none 0 0)), (9, .v (.slice none 0 0)), (10, .v (.slice none 0 0)), (11, .v (.slice none 0 0)), (12, .v (.int .i64 0))]) (h' := []) (n' := 7) ?_ ⟨rfl, rfl, rfl, rfl, rfl, rfl, rfl, trivial⟩ trivial
  refine RunF_sound tab_ok noX_local 200 [false] _ _ rfl ?_ ?_
  · simp
  clear g57 g58 g59 g60
  refine Run.to (t' := [(3, .v (.slice none 0 0)), (5, .v (.slice none 0 0)), (7, .v (.slice none 0 0)), (9, .v (.slice none 0 0)), (10, .v (.slice none 0 0)), (11, .v (.slice none 0 0)), (13, .v (.int .i64 0))]) (h' := []) (n' := 7) ?_ ⟨rfl, rfl, rfl, rfl, rfl, rfl, rfl, trivial⟩ trivial
  refine RunF_sound tab_ok noX_local 200 [false] _ _ rfl ?_ ?_
  · simp
  suffices H : ∀ (m i a d : Nat) (vs us : List Value), i + m = 70 → a ≤ 64 + i → d ≤ 64 + i → vs.length = a → us.length = d → Run _ _ ⟨[(3, .sl 1 1 0 a), (5, .v (.slice none 0 0)), (7, .v (.slice none 0 0)), (9, .sl 4 1 0 d), (10, .v (.slice none 0 0)), (11, .v (.slice none 0 0)), (14, .v (.int .i64 (i : Int)))], [(1, .row 3 1 a vs), (4, .row 37 1 d us)], 7⟩ by
    refine RunF_sound tab_ok noX_local 200 [true] _ _ rfl ?_ ?_
    · simp [fillL, Value.cells, splice, repL, maxLen, Value.oneCell']
    refine Run.toR [(1, 8), (4, 10)] (H 69 1 (1) (1) _ _ (by omega) (by omega) (by omega) ?_ ?_) ⟨rfl, rfl, rfl, rfl, rfl, rfl, rfl, trivial⟩ ⟨rfl, rfl, trivial⟩ rfl
    · simp; rfl
    · simp; rfl
  intro m
  induction m with
  | succ m ih =>
    intro i a d vs us hi ha hd hv hu
    refine RunF_sound tab_ok noX_local 200 [true] _ _ rfl ?_ ?_
    · simp [fillL, Value.cells, splice, repL, maxLen, Value.oneCell']; omega
    refine Run.toR [(1, 8), (4, 10)] (ih (i + 1) (a + 1) (d + 1) _ _ (by omega) (by omega) (by omega) ?_ ?_) ⟨rfl, rfl, rfl, rfl, rfl, rfl, i64_eq (wrap_succ (by omega)), trivial⟩ ⟨rfl, rfl, trivial⟩ rfl
    · simp [hv]; rfl
    · simp [hu]; rfl
  | zero =>
    intro i a d vs us hi ha hd hv hu
    obtain rfl : i = 70 := by omega
    refine RunF_sound tab_ok noX_local 200 [false] _ _ rfl ?_ ?_
    · simp
    refine Run.callM (r := .bool true) noX_local rfl rfl rfl rfl rfl rfl sameInts_enters rfl (fun M w' hM _ => sameN0 w') ?_
    refine RunF_sound tab_ok noX_local 200 [true] _ _ rfl ?_ ?_
    · simp
    refine Run.callM (r := .bool true) noX_local rfl rfl rfl rfl rfl rfl sameSets_enters rfl (fun M w' hM _ => sameW0 w') ?_
    refine RunF_sound tab_ok noX_local 200 [] _ _ rfl ?_ ?_
    · simp
    exact Run.retP tab_ok Tryd.func7 rfl trivial (fun M => rfl)

set_option maxHeartbeats 1000000 in
theorem cycles_01 (r : Rl) (l : List Nat) (L : List (BitVec 64)) (hl : l.length ≤ 64) (hL : L.length ≤ 64) (w : World)
    (g57 : ∀ w', Agree (fun _ => False) w w' → HandsZ Tryd.prog 57 [encRel r] w' (.tup [.v (.slice none 0 0), .tt false]) [])
    (g58 : ∀ w', Agree (fun _ => False) w w' → HandsZ Tryd.prog 58 [encRel r] w' (.tup [.v (.slice none 0 0), .tt false]) [])
    (g59 : ∀ w', Agree (fun _ => False) w w' → HandsZ Tryd.prog 59 [encRel r] w' (.sl 20 1 0 L.length) [(20, .row 37 1 L.length (encW L))])
    (g60 : ∀ w', Agree (fun _ => False) w w' → HandsZ Tryd.prog 60 [encRel r] w' (.sl 20 1 0 L.length) [(20, .row 37 1 L.length (encW L))])
    : Gives Tryd.prog 7 [encRel r] w (.bool true) := by
  refine Gives.of_run Tryd.func7 rfl (by show 1 ≤ 97; decide) ?_
  refine RunF_sound tab_ok noX_local 200 [] _ _ rfl ?_ ?_
  · simp
  refine Run.callH noX_local (.tup [.v (.slice none 0 0), .tt false]) [] 2 rfl rfl rfl rfl rfl rfl cycle_enters rfl rfl rfl rfl rfl (fun M w' _ hA => (g57 w' hA).to [] rfl trivial rfl) ?_
  refine RunF_sound tab_ok noX_local 200 [] _ _ rfl ?_ ?_
  · simp
  refine Run.callH noX_local (.tup [.v (.slice none 0 0), .tt false]) [] 3 rfl rfl rfl rfl rfl rfl cycle_enters rfl rfl rfl rfl rfl (fun M w' _ hA => (g57 w' hA).to [] rfl trivial rfl) ?_
  refine RunF_sound tab_ok noX_local 200 [] _ _ rfl ?_ ?_
  · simp
  refine Run.callH noX_local (.tup [.v (.slice none 0 0), .tt false]) [] 4 rfl rfl rfl rfl rfl rfl cycleR_enters rfl rfl rfl rfl rfl (fun M w' _ hA => (g58 w' hA).to [] rfl trivial rfl) ?_
  refine RunF_sound tab_ok noX_local 200 [false] _ _ rfl ?_ ?_
  · simp
  refine Run.callM (r := .bool true) noX_local rfl rfl rfl rfl rfl rfl sameInts_enters rfl (fun M w' hM _ => sameN0 w') ?_
  refine RunF_sound tab_ok noX_local 200 [false] _ _ rfl ?_ ?_
  · simp
  refine Run.callM (r := .bool true) noX_local rfl rfl rfl rfl rfl rfl sameInts_enters rfl (fun M w' hM _ => sameN0 w') ?_
  refine RunF_sound tab_ok noX_local 200 [false] _ _ rfl ?_ ?_
  · simp
  refine Run.to (t' := [(1, .ptr 0 0), (45, .v (encRel r)), (3, .v (.slice none 0 0)), (5, .v (.slice none 0 0)), (7, .v (.slice none 0 0))]) (h' := [(0, .cells 25 [.vals 65 (relV r)])]) (n' := 4) ?_ ⟨rfl, rfl, rfl, rfl, rfl, trivial⟩ ⟨rfl, trivial⟩
  refine Run.callH noX_local (.sl 4 1 0 L.length) [(4, .row 37 1 L.length (encW L))] 5 rfl rfl rfl rfl rfl rfl parts_enters rfl rfl rfl rfl rfl (fun M w' _ hA => (g59 w' hA).to [(4, 20)] rfl ⟨rfl, trivial⟩ rfl) ?_
  refine RunF_sound tab_ok noX_local 200 [] _ _ rfl ?_ ?_
  · simp
  refine Run.to (t' := [(1, .ptr 0 0), (47, .v (encRel r)), (3, .v (.slice none 0 0)), (5, .v (.slice none 0 0)), (7, .v (.slice none 0 0)), (9, .sl 4 1 0 L.length)]) (h' := [(0, .cells 25 [.vals 65 (relV r)]), (4, .row 37 1 L.length (encW L))]) (n' := 5) ?_ ⟨rfl, rfl, rfl, rfl, rfl, rfl, trivial⟩ ⟨rfl, rfl, trivial⟩
  refine Run.callH noX_local (.sl 5 1 0 L.length) [(5, .row 37 1 L.length (encW L))] 6 rfl rfl rfl rfl rfl rfl parts_enters rfl rfl rfl rfl rfl (fun M w' _ hA => (g59 w' hA).to [(5, 20)] rfl ⟨rfl, trivial⟩ rfl) ?_
  refine RunF_sound tab_ok noX_local 200 [] _ _ rfl ?_ ?_
  · simp
  refine Run.to (t' := [(1, .ptr 0 0), (49, .v (encRel r)), (3, .v (.slice none 0 0)), (5, .v (.slice none 0 0)), (7, .v (.slice none 0 0)), (9, .sl 4 1 0 L.length), (10, .sl 5 1 0 L.length)]) (h' := [(0, .cells 25 [.vals 65 (relV r)]), (4, .row 37 1 L.length (encW L)), (5, .row 37 1 L.length (encW L))]) (n' := 6) ?_ ⟨rfl, rfl, rfl, rfl, rfl, rfl, rfl, trivial⟩ ⟨rfl, rfl, rfl, trivial⟩
  refine Run.callH noX_local (.sl 6 1 0 L.length) [(6, .row 37 1 L.length (encW L))] 7 rfl rfl rfl rfl rfl rfl partsR_enters rfl rfl rfl rfl rfl (fun M w' _ hA => (g60 w' hA).to [(6, 20)] rfl ⟨rfl, trivial⟩ rfl) ?_
  refine RunF_sound tab_ok noX_local 200 [] _ _ rfl ?_ ?_
  · simp
  refine Run.to (t' := [(51, .sl 4 1 0 L.length), (52, .sl 6 1 0 L.length), (3, .v (.slice none 0 0)), (5, .v (.slice none 0 0)), (7, .v (.slice none 0 0)), (9, .sl 4 1 0 L.length), (10, .sl 5 1 0 L.length), (11, .sl 6 1 0 L.length)]) (h' := [(4, .row 37 1 L.length (encW L)), (5, .row 37 1 L.length (encW L)), (6, .row 37 1 L.length (encW L))]) (n' := 7) ?_ ⟨rfl, rfl, rfl, rfl, rfl, rfl, rfl, rfl, trivial⟩ ⟨rfl, rfl, rfl, trivial⟩
  refine Run.callM (r := .bool true) noX_local rfl rfl rfl rfl rfl rfl sameSets_enters rfl (fun M w' hM _ => sameW L hL (hM 4 _ rfl) (hM 6 _ rfl) _ _) ?_
  refine RunF_sound tab_ok noX_local 200 [false] _ _ rfl ?_ ?_
  · simp
  refine Run.callM (r := .bool true) noX_local rfl rfl rfl rfl rfl rfl sameSets_enters rfl (fun M w' hM _ => sameW L hL (hM 5 _ rfl) (hM 6 _ rfl) _ _) ?_
  refine RunF_sound tab_ok noX_local 200 [false] _ _ rfl ?_ ?_
  · simp
  refine Run.to (t' := [(3, .v (.slice none 0 0)), (5, .v (.slice none 0 0)), (7, .v (.slice none 0 0)), (9, .sl 4 1 0 L.length), (10, .sl 5 1 0 L.length), (11, .sl 6 1 0 L.length), (12, .v (.int .i64 0))]) (h' := [(4, .row 37 1 L.length (encW L)), (5, .row 37 1 L.length (encW L)), (6, .row 37 1 L.length (encW L))]) (n' := 7) ?_ ⟨rfl, rfl, rfl, rfl, rfl, rfl, rfl, trivial⟩ ⟨rfl, rfl, rfl, trivial⟩
  refine RunF_sound tab_ok noX_local 200 [false] _ _ rfl ?_ ?_
  · simp
  clear g57 g58 g59 g60
  suffices H : ∀ (m i : Nat) (us : List Value), i + m = L.length → us.length = L.length → Run _ _ ⟨[(3, .v (.slice none 0 0)), (5, .v (.slice none 0 0)), (7, .v (.slice none 0 0)), (9, .sl 4 1 0 L.length), (10, .sl 5 1 0 L.length), (11, .sl 6 1 0 L.length), (13, .v (.int .i64 (i : Int)))], [(4, .row 37 1 L.length (us)), (5, .row 37 1 L.length (encW L)), (6, .row 37 1 L.length (encW L))], 7⟩ by
    exact Run.to (H L.length 0 (encW L) (by omega) (encW_length L)) ⟨rfl, rfl, rfl, rfl, rfl, rfl, rfl, trivial⟩ ⟨rfl, rfl, rfl, trivial⟩
  intro m
  induction m with
  | succ m ih =>
    intro i us hi hu
    refine RunF_sound tab_ok noX_local 200 [true] _ _ rfl ?_ ?_
    · simp [okCell, ofConst, Value.oneCell', hu]; omega
    exact Run.to (ih (i + 1) _ (by omega) (by simpa using hu)) ⟨rfl, rfl, rfl, rfl, rfl, rfl, i64_eq (wrap_succ (by omega)), trivial⟩ ⟨rfl, rfl, rfl, trivial⟩
  | zero =>
  intro i2 us hi2 hu
  refine RunF_sound tab_ok noX_local 200 [false] _ _ rfl ?_ ?_
  · simp; omega
  suffices H : ∀ (m i a d : Nat) (vs us : List Value), i + m = 70 → a ≤ 64 + i → d ≤ 64 + i → vs.length = a → us.length = d → Run _ _ ⟨[(3, .sl 1 1 0 a), (5, .v (.slice none 0 0)), (7, .v (.slice none 0 0)), (9, .sl 4 1 0 d), (10, .sl 5 1 0 L.length), (11, .sl 6 1 0 L.length), (14, .v (.int .i64 (i : Int)))], [(1, .row 3 1 a vs), (4, .row 37 1 d us), (5, .row 37 1 L.length (encW L)), (6, .row 37 1 L.length (encW L))], 7⟩ by
    refine RunF_sound tab_ok noX_local 200 [true] _ _ rfl ?_ ?_
    · simp [fillL, Value.cells, splice, repL, maxLen, Value.oneCell']; omega
    refine Run.toR [(1, 8), (4, 10)] (H 69 1 (1) (L.length + 1) _ _ (by omega) (by omega) (by omega) ?_ ?_) ⟨rfl, rfl, rfl, rfl, rfl, rfl, rfl, trivial⟩ ⟨rfl, rfl, rfl, rfl, trivial⟩ rfl
    · simp; rfl
    · simp [hu]; rfl
  intro m
  induction m with
  | succ m ih =>
    intro i a d vs us hi ha hd hv hu
    refine RunF_sound tab_ok noX_local 200 [true] _ _ rfl ?_ ?_
    · simp [fillL, Value.cells, splice, repL, maxLen, Value.oneCell']; omega
    refine Run.toR [(1, 8), (4, 10)] (ih (i + 1) (a + 1) (d + 1) _ _ (by omega) (by omega) (by omega) ?_ ?_) ⟨rfl, rfl, rfl, rfl, rfl, rfl, i64_eq (wrap_succ (by omega)), trivial⟩ ⟨rfl, rfl, rfl, rfl, trivial⟩ rfl
    · simp [hv]; rfl
    · simp [hu]; rfl
  | zero =>
    intro i a d vs us hi ha hd hv hu
    obtain rfl : i = 70 := by omega
    refine RunF_sound tab_ok noX_local 200 [false] _ _ rfl ?_ ?_
    · simp
    refine Run.callM (r := .bool true) noX_local rfl rfl rfl rfl rfl rfl sameInts_enters rfl (fun M w' hM _ => sameN0 w') ?_
    refine RunF_sound tab_ok noX_local 200 [true] _ _ rfl ?_ ?_
    · simp
    refine Run.callM (r := .bool true) noX_local rfl rfl rfl rfl rfl rfl sameSets_enters rfl (fun M w' hM _ => sameW L hL (hM 5 _ rfl) (hM 6 _ rfl) _ _) ?_
    refine RunF_sound tab_ok noX_local 200 [] _ _ rfl ?_ ?_
    · simp
    exact Run.retP tab_ok Tryd.func7 rfl trivial (fun M => rfl)

set_option maxHeartbeats 1000000 in
theorem cycles_10 (r : Rl) (l : List Nat) (L : List (BitVec 64)) (hl : l.length ≤ 64) (hL : L.length ≤ 64) (w : World)
    (g57 : ∀ w', Agree (fun _ => False) w w' → HandsZ Tryd.prog 57 [encRel r] w' (.tup [.sl 0 1 0 l.length, .tt true]) [(0, .row 3 1 l.length (encN l))])
    (g58 : ∀ w', Agree (fun _ => False) w w' → HandsZ Tryd.prog 58 [encRel r] w' (.tup [.sl 0 1 0 l.length, .tt true]) [(0, .row 3 1 l.length (encN l))])
    (g59 : ∀ w', Agree (fun _ => False) w w' → HandsZ Tryd.prog 59 [encRel r] w' (.v (.slice none 0 0)) [])
    (g60 : ∀ w', Agree (fun _ => False) w w' → HandsZ Tryd.prog 60 [encRel r] w' (.v (.slice none 0 0)) [])
    : Gives Tryd.prog 7 [encRel r] w (.bool true) := by
  refine Gives.of_run Tryd.func7 rfl (by show 1 ≤ 97; decide) ?_
  refine RunF_sound tab_ok noX_local 200 [] _ _ rfl ?_ ?_
  · simp
  refine Run.callH noX_local (.tup [.sl 1 1 0 l.length, .tt true]) [(1, .row 3 1 l.length (encN l))] 2 rfl rfl rfl rfl rfl rfl cycle_enters rfl rfl rfl rfl rfl (fun M w' _ hA => (g57 w' hA).to [(1, 0)] rfl ⟨rfl, trivial⟩ rfl) ?_
  refine RunF_sound tab_ok noX_local 200 [] _ _ rfl ?_ ?_
  · simp
  refine Run.callH noX_local (.tup [.sl 2 1 0 l.length, .tt true]) [(2, .row 3 1 l.length (encN l))] 3 rfl rfl rfl rfl rfl rfl cycle_enters rfl rfl rfl rfl rfl (fun M w' _ hA => (g57 w' hA).to [(2, 0)] rfl ⟨rfl, trivial⟩ rfl) ?_
  refine RunF_sound tab_ok noX_local 200 [] _ _ rfl ?_ ?_
  · simp
  refine Run.callH noX_local (.tup [.sl 3 1 0 l.length, .tt true]) [(3, .row 3 1 l.length (encN l))] 4 rfl rfl rfl rfl rfl rfl cycleR_enters rfl rfl rfl rfl rfl (fun M w' _ hA => (g58 w' hA).to [(3, 0)] rfl ⟨rfl, trivial⟩ rfl) ?_
  refine RunF_sound tab_ok noX_local 200 [false] _ _ rfl ?_ ?_
  · simp
  refine Run.callM (r := .bool true) noX_local rfl rfl rfl rfl rfl rfl sameInts_enters rfl (fun M w' hM _ => sameN l hl (hM 1 _ rfl) (hM 3 _ rfl) _ _) ?_
  refine RunF_sound tab_ok noX_local 200 [false] _ _ rfl ?_ ?_
  · simp
  refine Run.callM (r := .bool true) noX_local rfl rfl rfl rfl rfl rfl sameInts_enters rfl (fun M w' hM _ => sameN l hl (hM 2 _ rfl) (hM 3 _ rfl) _ _) ?_
  refine RunF_sound tab_ok noX_local 200 [false] _ _ rfl ?_ ?_
  · simp
  refine Run.to (t' := [(1, .ptr 0 0), (45, .v (encRel r)), (3, .sl 1 1 0 l.length), (5, .sl 2 1 0 l.length), (7, .sl 3 1 0 l.length)]) (h' := [(0, .cells 25 [.vals 65 (relV r)]), (1, .row 3 1 l.length (encN l)), (2, .row 3 1 l.length (encN l)), (3, .row 3 1 l.length (encN l))]) (n' := 4) ?_ ⟨rfl, rfl, rfl, rfl, rfl, trivial⟩ ⟨rfl, rfl, rfl, rfl, trivial⟩
  refine Run.callH noX_local (.v (.slice none 0 0)) [] 5 rfl rfl rfl rfl rfl rfl parts_enters rfl rfl rfl rfl rfl (fun M w' _ hA => (g59 w' hA).to [] rfl trivial rfl) ?_
  refine RunF_sound tab_ok noX_local 200 [] _ _ rfl ?_ ?_
  · simp
  refine Run.to (t' := [(1, .ptr 0 0), (47, .v (encRel r)), (3, .sl 1 1 0 l.length), (5, .sl 2 1 0 l.length), (7, .sl 3 1 0 l.length), (9, .v (.slice none 0 0))]) (h' := [(0, .cells 25 [.vals 65 (relV r)]), (1, .row 3 1 l.length (encN l)), (2, .row 3 1 l.length (encN l)), (3, .row 3 1 l.length (encN l))]) (n' := 5) ?_ ⟨rfl, rfl, rfl, rfl, rfl, rfl, trivial⟩ ⟨rfl, rfl, rfl, rfl, trivial⟩
  refine Run.callH noX_local (.v (.slice none 0 0)) [] 6 rfl rfl rfl rfl rfl rfl parts_enters rfl rfl rfl rfl rfl (fun M w' _ hA => (g59 w' hA).to [] rfl trivial rfl) ?_
  refine RunF_sound tab_ok noX_local 200 [] _ _ rfl ?_ ?_
  · simp
  refine Run.to (t' := [(1, .ptr 0 0), (49, .v (encRel r)), (3, .sl 1 1 0 l.length), (5, .sl 2 1 0 l.length), (7, .sl 3 1 0 l.length), (9, .v (.slice none 0 0)), (10, .v (.slice none 0 0))]) (h' := [(0, .cells 25 [.vals 65 (relV r)]), (1, .row 3 1 l.length (encN l)), (2, .row 3 1 l.length (encN l)), (3, .row 3 1 l.length (encN l))]) (n' := 6) ?_ ⟨rfl, rfl, rfl, rfl, rfl, rfl, rfl, trivial⟩ ⟨rfl, rfl, rfl, rfl, trivial⟩
  refine Run.callH noX_local (.v (.slice none 0 0)) [] 7 rfl rfl rfl rfl rfl rfl partsR_enters rfl rfl rfl rfl rfl (fun M w' _ hA => (g60 w' hA).to [] rfl trivial rfl) ?_
  refine RunF_sound tab_ok noX_local 200 [] _ _ rfl ?_ ?_
  · simp
  refine Run.to (t' := [(51, .v (.slice none 0 0)), (52, .v (.slice none 0 0)), (3, .sl 1 1 0 l.length), (5, .sl 2 1 0 l.length), (7, .sl 3 1 0 l.length), (9, .v (.slice none 0 0)), (10, .v (.slice none 0 0)), (11, .v (.slice none 0 0))]) (h' := [(1, .row 3 1 l.length (encN l)), (2, .row 3 1 l.length (encN l)), (3, .row 3 1 l.length (encN l))]) (n' := 7) ?_ ⟨rfl, rfl, rfl, rfl, rfl, rfl, rfl, rfl, trivial⟩ ⟨rfl, rfl, rfl, trivial⟩
  refine Run.callM (r := .bool true) noX_local rfl rfl rfl rfl rfl rfl sameSets_enters rfl (fun M w' hM _ => sameW0 w') ?_
  refine RunF_sound tab_ok noX_local 200 [false] _ _ rfl ?_ ?_
  · simp
  refine Run.callM (r := .bool true) noX_local rfl rfl rfl rfl rfl rfl sameSets_enters rfl (fun M w' hM _ => sameW0 w') ?_
  refine RunF_sound tab_ok noX_local 200 [false] _ _ rfl ?_ ?_
  · simp
  suffices H : ∀ (m i : Nat) (vs : List Value), i + m = l.length → vs.length = l.length → Run _ _ ⟨[(3, .sl 1 1 0 l.length), (5, .sl 2 1 0 l.length), (7, .sl 3 1 0 l.length), (9, .v (.slice none 0 0)), (10, .v (.slice none 0 0)), (11, .v (.slice none 0 0)), (12, .v (.int .i64 (i : Int)))], [(1, .row 3 1 l.length (vs)), (2, .row 3 1 l.length (encN l)), (3, .row 3 1 l.length (encN l))], 7⟩ by
    exact Run.to (H l.length 0 (encN l) (by omega) (encN_length l)) ⟨rfl, rfl, rfl, rfl, rfl, rfl, rfl, trivial⟩ ⟨rfl, rfl, rfl, trivial⟩
  intro m
  induction m with
  | succ m ih =>
    intro i vs hi hv
    refine RunF_sound tab_ok noX_local 200 [true] _ _ rfl ?_ ?_
    · simp [okCell, ofConst, Value.oneCell', hv]; omega
    exact Run.to (ih (i + 1) _ (by omega) (by simpa using hv)) ⟨rfl, rfl, rfl, rfl, rfl, rfl, i64_eq (wrap_succ (by omega)), trivial⟩ ⟨rfl, rfl, rfl, trivial⟩
  | zero =>
  intro i1 vs hi1 hv
  refine RunF_sound tab_ok noX_local 200 [false] _ _ rfl ?_ ?_
  · simp; omega
  clear g57 g58 g59 g60
  refine Run.to (t' := [(3, .sl 1 1 0 l.length), (5, .sl 2 1 0 l.length), (7, .sl 3 1 0 l.length), (9, .v (.slice none 0 0)), (10, .v (.slice none 0 0)), (11, .v (.slice none 0 0)), (13, .v (.int .i64 0))]) (h' := [(1, .row 3 1 l.length (vs)), (2, .row 3 1 l.length (encN l)), (3, .row 3 1 l.length (encN l))]) (n' := 7) ?_ ⟨rfl, rfl, rfl, rfl, rfl, rfl, rfl, trivial⟩ ⟨rfl, rfl, rfl, trivial⟩
  refine RunF_sound tab_ok noX_local 200 [false] _ _ rfl ?_ ?_
  · simp
  suffices H : ∀ (m i a d : Nat) (vs us : List Value), i + m = 70 → a ≤ 64 + i → d ≤ 64 + i → vs.length = a → us.length = d → Run _ _ ⟨[(3, .sl 1 1 0 a), (5, .sl 2 1 0 l.length), (7, .sl 3 1 0 l.length), (9, .sl 4 1 0 d), (10, .v (.slice none 0 0)), (11, .v (.slice none 0 0)), (14, .v (.int .i64 (i : Int)))], [(1, .row 3 1 a vs), (4, .row 37 1 d us), (2, .row 3 1 l.length (encN l)), (3, .row 3 1 l.length (encN l))], 7⟩ by
    refine RunF_sound tab_ok noX_local 200 [true] _ _ rfl ?_ ?_
    · simp [fillL, Value.cells, splice, repL, maxLen, Value.oneCell']; omega
    refine Run.toR [(1, 8), (4, 10)] (H 69 1 (l.length + 1) (1) _ _ (by omega) (by omega) (by omega) ?_ ?_) ⟨rfl, rfl, rfl, rfl, rfl, rfl, rfl, trivial⟩ ⟨rfl, rfl, rfl, rfl, trivial⟩ rfl
    · simp [hv]; rfl
    · simp; rfl
  intro m
  induction m with
  | succ m ih =>
    intro i a d vs us hi ha hd hv hu
    refine RunF_sound tab_ok noX_local 200 [true] _ _ rfl ?_ ?_
    · simp [fillL, Value.cells, splice, repL, maxLen, Value.oneCell']; omega
    refine Run.toR [(1, 8), (4, 10)] (ih (i + 1) (a + 1) (d + 1) _ _ (by omega) (by omega) (by omega) ?_ ?_) ⟨rfl, rfl, rfl, rfl, rfl, rfl, i64_eq (wrap_succ (by omega)), trivial⟩ ⟨rfl, rfl, rfl, rfl, trivial⟩ rfl
    · simp [hv]; rfl
    · simp [hu]; rfl
  | zero =>
    intro i a d vs us hi ha hd hv hu
    obtain rfl : i = 70 := by omega
    refine RunF_sound tab_ok noX_local 200 [false] _ _ rfl ?_ ?_
    · simp
    refine Run.callM (r := .bool true) noX_local rfl rfl rfl rfl rfl rfl sameInts_enters rfl (fun M w' hM _ => sameN l hl (hM 2 _ rfl) (hM 3 _ rfl) _ _) ?_
    refine RunF_sound tab_ok noX_local 200 [true] _ _ rfl ?_ ?_
    · simp
    refine Run.callM (r := .bool true) noX_local rfl rfl rfl rfl rfl rfl sameSets_enters rfl (fun M w' hM _ => sameW0 w') ?_
    refine RunF_sound tab_ok noX_local 200 [] _ _ rfl ?_ ?_
    · simp
    exact Run.retP tab_ok Tryd.func7 rfl trivial (fun M => rfl)

set_option maxHeartbeats 1000000 in
theorem cycles_11 (r : Rl) (l : List Nat) (L : List (BitVec 64)) (hl : l.length ≤ 64) (hL : L.length ≤ 64) (w : World)
    (g57 : ∀ w', Agree (fun _ => False) w w' → HandsZ Tryd.prog 57 [encRel r] w' (.tup [.sl 0 1 0 l.length, .tt true]) [(0, .row 3 1 l.length (encN l))])
    (g58 : ∀ w', Agree (fun _ => False) w w' → HandsZ Tryd.prog 58 [encRel r] w' (.tup [.sl 0 1 0 l.length, .tt true]) [(0, .row 3 1 l.length (encN l))])
    (g59 : ∀ w', Agree (fun _ => False) w w' → HandsZ Tryd.prog 59 [encRel r] w' (.sl 20 1 0 L.length) [(20, .row 37 1 L.length (encW L))])
    (g60 : ∀ w', Agree (fun _ => False) w w' → HandsZ Tryd.prog 60 [encRel r] w' (.sl 20 1 0 L.length) [(20, .row 37 1 L.length (encW L))])
    : Gives Tryd.prog 7 [encRel r] w (.bool true) := by
  refine Gives.of_run Tryd.func7 rfl (by show 1 ≤ 97; decide) ?_
  refine RunF_sound tab_ok noX_local 200 [] _ _ rfl ?_ ?_
  · simp
  refine Run.callH noX_local (.tup [.sl 1 1 0 l.length, .tt true]) [(1, .row 3 1 l.length (encN l))] 2 rfl rfl rfl rfl rfl rfl cycle_enters rfl rfl rfl rfl rfl (fun M w' _ hA => (g57 w' hA).to [(1, 0)] rfl ⟨rfl, trivial⟩ rfl) ?_
  refine RunF_sound tab_ok noX_local 200 [] _ _ rfl ?_ ?_
  · simp
  refine Run.callH noX_local (.tup [.sl 2 1 0 l.length, .tt true]) [(2, .row 3 1 l.length (encN l))] 3 rfl rfl rfl rfl rfl rfl cycle_enters rfl rfl rfl rfl rfl (fun M w' _ hA => (g57 w' hA).to [(2, 0)] rfl ⟨rfl, trivial⟩ rfl) ?_
  refine RunF_sound tab_ok noX_local 200 [] _ _ rfl ?_ ?_
  · simp
  refine Run.callH noX_local (.tup [.sl 3 1 0 l.length, .tt true]) [(3, .row 3 1 l.length (encN l))] 4 rfl rfl rfl rfl rfl rfl cycleR_enters rfl rfl rfl rfl rfl (fun M w' _ hA => (g58 w' hA).to [(3, 0)] rfl ⟨rfl, trivial⟩ rfl) ?_
  refine RunF_sound tab_ok noX_local 200 [false] _ _ rfl ?_ ?_
  · simp
  refine Run.callM (r := .bool true) noX_local rfl rfl rfl rfl rfl rfl sameInts_enters rfl (fun M w' hM _ => sameN l hl (hM 1 _ rfl) (hM 3 _ rfl) _ _) ?_
  refine RunF_sound tab_ok noX_local 200 [false] _ _ rfl ?_ ?_
  · simp
  refine Run.callM (r := .bool true) noX_local rfl rfl rfl rfl rfl rfl sameInts_enters rfl (fun M w' hM _ => sameN l hl (hM 2 _ rfl) (hM 3 _ rfl) _ _) ?_
  refine RunF_sound tab_ok noX_local 200 [false] _ _ rfl ?_ ?_
  · simp
  refine Run.to (t' := [(1, .ptr 0 0), (45, .v (encRel r)), (3, .sl 1 1 0 l.length), (5, .sl 2 1 0 l.length), (7, .sl 3 1 0 l.length)]) (h' := [(0, .cells 25 [.vals 65 (relV r)]), (1, .row 3 1 l.length (encN l)), (2, .row 3 1 l.length (encN l)), (3, .row 3 1 l.length (encN l))]) (n' := 4) ?_ ⟨rfl, rfl, rfl, rfl, rfl, trivial⟩ ⟨rfl, rfl, rfl, rfl, trivial⟩
  refine Run.callH noX_local (.sl 4 1 0 L.length) [(4, .row 37 1 L.length (encW L))] 5 rfl rfl rfl rfl rfl rfl parts_enters rfl rfl rfl rfl rfl (fun M w' _ hA => (g59 w' hA).to [(4, 20)] rfl ⟨rfl, trivial⟩ rfl) ?_
  refine RunF_sound tab_ok noX_local 200 [] _ _ rfl ?_ ?_
  · simp
  refine Run.to (t' := [(1, .ptr 0 0), (47, .v (encRel r)), (3, .sl 1 1 0 l.length), (5, .sl 2 1 0 l.length), (7, .sl 3 1 0 l.length), (9, .sl 4 1 0 L.length)]) (h' := [(0, .cells 25 [.vals 65 (relV r)]), (1, .row 3 1 l.length (encN l)), (2, .row 3 1 l.length (encN l)), (3, .row 3 1 l.length (encN l)), (4, .row 37 1 L.length (encW L))]) (n' := 5) ?_ ⟨rfl, rfl, rfl, rfl, rfl, rfl, trivial⟩ ⟨rfl, rfl, rfl, rfl, rfl, trivial⟩
  refine Run.callH noX_local (.sl 5 1 0 L.length) [(5, .row 37 1 L.length (encW L))] 6 rfl rfl rfl rfl rfl rfl parts_enters rfl rfl rfl rfl rfl (fun M w' _ hA => (g59 w' hA).to [(5, 20)] rfl ⟨rfl, trivial⟩ rfl) ?_
  refine RunF_sound tab_ok noX_local 200 [] _ _ rfl ?_ ?_
  · simp
  refine Run.to (t' := [(1, .ptr 0 0), (49, .v (encRel r)), (3, .sl 1 1 0 l.length), (5, .sl 2 1 0 l.length), (7, .sl 3 1 0 l.length), (9, .sl 4 1 0 L.length), (10, .sl 5 1 0 L.length)]) (h' := [(0, .cells 25 [.vals 65 (relV r)]), (1, .row 3 1 l.length (encN l)), (2, .row 3 1 l.length (encN l)), (3, .row 3 1 l.length (encN l)), (4, .row 37 1 L.length (encW L)), (5, .row 37 1 L.length (encW L))]) (n' := 6) ?_ ⟨rfl, rfl, rfl, rfl, rfl, rfl, rfl, trivial⟩ ⟨rfl, rfl, rfl, rfl, rfl, rfl, trivial⟩
  refine Run.callH noX_local (.sl 6 1 0 L.length) [(6, .row 37 1 L.length (encW L))] 7 rfl rfl rfl rfl rfl rfl partsR_enters rfl rfl rfl rfl rfl (fun M w' _ hA => (g60 w' hA).to [(6, 20)] rfl ⟨rfl, trivial⟩ rfl) ?_
  refine RunF_sound tab_ok noX_local 200 [] _ _ rfl ?_ ?_
  · simp
  refine Run.to (t' := [(51, .sl 4 1 0 L.length), (52, .sl 6 1 0 L.length), (3, .sl 1 1 0 l.length), (5, .sl 2 1 0 l.length), (7, .sl 3 1 0 l.length), (9, .sl 4 1 0 L.length), (10, .sl 5 1 0 L.length), (11, .sl 6 1 0 L.length)]) (h' := [(1, .row 3 1 l.length (encN l)), (2, .row 3 1 l.length (encN l)), (3, .row 3 1 l.length (encN l)), (4, .row 37 1 L.length (encW L)), (5, .row 37 1 L.length (encW L)), (6, .row 37 1 L.length (encW L))]) (n' := 7) ?_ ⟨rfl, rfl, rfl, rfl, rfl, rfl, rfl, rfl, trivial⟩ ⟨rfl, rfl, rfl, rfl, rfl, rfl, trivial⟩
  refine Run.callM (r := .bool true) noX_local rfl rfl rfl rfl rfl rfl sameSets_enters rfl (fun M w' hM _ => sameW L hL (hM 4 _ rfl) (hM 6 _ rfl) _ _) ?_
  refine RunF_sound tab_ok noX_local 200 [false] _ _ rfl ?_ ?_
  · simp
  refine Run.callM (r := .bool true) noX_local rfl rfl rfl rfl rfl rfl sameSets_enters rfl (fun M w' hM _ => sameW L hL (hM 5 _ rfl) (hM 6 _ rfl) _ _) ?_
  refine RunF_sound tab_ok noX_local 200 [false] _ _ rfl ?_ ?_
  · simp
  suffices H : ∀ (m i : Nat) (vs : List Value), i + m = l.length → vs.length = l.length → Run _ _ ⟨[(3, .sl 1 1 0 l.length), (5, .sl 2 1 0 l.length), (7, .sl 3 1 0 l.length), (9, .sl 4 1 0 L.length), (10, .sl 5 1 0 L.length), (11, .sl 6 1 0 L.length), (12, .v (.int .i64 (i : Int)))], [(1, .row 3 1 l.length (vs)), (4, .row 37 1 L.length (encW L)), (2, .row 3 1 l.length (encN l)), (3, .row 3 1 l.length (encN l)), (5, .row 37 1 L.length (encW L)), (6, .row 37 1 L.length (encW L))], 7⟩ by
    exact Run.to (H l.length 0 (encN l) (by omega) (encN_length l)) ⟨rfl, rfl, rfl, rfl, rfl, rfl, rfl, trivial⟩ ⟨rfl, rfl, rfl, rfl, rfl, rfl, trivial⟩
  intro m
  induction m with
  | succ m ih =>
    intro i vs hi hv
    refine RunF_sound tab_ok noX_local 200 [true] _ _ rfl ?_ ?_
    · simp [okCell, ofConst, Value.oneCell', hv]; omega
    exact Run.to (ih (i + 1) _ (by omega) (by simpa using hv)) ⟨rfl, rfl, rfl, rfl, rfl, rfl, i64_eq (wrap_succ (by omega)), trivial⟩ ⟨rfl, rfl, rfl, rfl, rfl, rfl, trivial⟩
  | zero =>
  intro i1 vs hi1 hv
  refine RunF_sound tab_ok noX_local 200 [false] _ _ rfl ?_ ?_
  · simp; omega
  clear g57 g58 g59 g60
  suffices H : ∀ (m i : Nat) (us : List Value), i + m = L.length → us.length = L.length → Run _ _ ⟨[(3, .sl 1 1 0 l.length), (5, .sl 2 1 0 l.length), (7, .sl 3 1 0 l.length), (9, .sl 4 1 0 L.length), (10, .sl 5 1 0 L.length), (11, .sl 6 1 0 L.length), (13, .v (.int .i64 (i : Int)))], [(1, .row 3 1 l.length (vs)), (4, .row 37 1 L.length (us)), (2, .row 3 1 l.length (encN l)), (3, .row 3 1 l.length (encN l)), (5, .row 37 1 L.length (encW L)), (6, .row 37 1 L.length (encW L))], 7⟩ by
    exact Run.to (H L.length 0 (encW L) (by omega) (encW_length L)) ⟨rfl, rfl, rfl, rfl, rfl, rfl, rfl, trivial⟩ ⟨rfl, rfl, rfl, rfl, rfl, rfl, trivial⟩
  intro m
  induction m with
  | succ m ih =>
    intro i us hi hu
    refine RunF_sound tab_ok noX_local 200 [true] _ _ rfl ?_ ?_
    · simp [okCell, ofConst, Value.oneCell', hu]; omega
    exact Run.to (ih (i + 1) _ (by omega) (by simpa using hu)) ⟨rfl, rfl, rfl, rfl, rfl, rfl, i64_eq (wrap_succ (by omega)), trivial⟩ ⟨rfl, rfl, rfl, rfl, rfl, rfl, trivial⟩
  | zero =>
  intro i2 us hi2 hu
  refine RunF_sound tab_ok noX_local 200 [false] _ _ rfl ?_ ?_
  · simp; omega
  suffices H : ∀ (m i a d : Nat) (vs us : List Value), i + m = 70 → a ≤ 64 + i → d ≤ 64 + i → vs.length = a → us.length = d → Run _ _ ⟨[(3, .sl 1 1 0 a), (5, .sl 2 1 0 l.length), (7, .sl 3 1 0 l.length), (9, .sl 4 1 0 d), (10, .sl 5 1 0 L.length), (11, .sl 6 1 0 L.length), (14, .v (.int .i64 (i : Int)))], [(1, .row 3 1 a vs), (4, .row 37 1 d us), (2, .row 3 1 l.length (encN l)), (3, .row 3 1 l.length (encN l)), (5, .row 37 1 L.length (encW L)), (6, .row 37 1 L.length (encW L))], 7⟩ by
    exact Run.to (H 70 0 _ _ _ _ (by omega) (by omega) (by omega) hv hu) ⟨rfl, rfl, rfl, rfl, rfl, rfl, rfl, trivial⟩ ⟨rfl, rfl, rfl, rfl, rfl, rfl, trivial⟩
  intro m
  induction m with
  | succ m ih =>
    intro i a d vs us hi ha hd hv hu
    refine RunF_sound tab_ok noX_local 200 [true] _ _ rfl ?_ ?_
    · simp [fillL, Value.cells, splice, repL, maxLen, Value.oneCell']; omega
    refine Run.toR [(1, 8), (4, 10)] (ih (i + 1) (a + 1) (d + 1) _ _ (by omega) (by omega) (by omega) ?_ ?_) ⟨rfl, rfl, rfl, rfl, rfl, rfl, i64_eq (wrap_succ (by omega)), trivial⟩ ⟨rfl, rfl, rfl, rfl, rfl, rfl, trivial⟩ rfl
    · simp [hv]; rfl
    · simp [hu]; rfl
  | zero =>
    intro i a d vs us hi ha hd hv hu
    obtain rfl : i = 70 := by omega
    refine RunF_sound tab_ok noX_local 200 [false] _ _ rfl ?_ ?_
    · simp
    refine Run.callM (r := .bool true) noX_local rfl rfl rfl rfl rfl rfl sameInts_enters rfl (fun M w' hM _ => sameN l hl (hM 2 _ rfl) (hM 3 _ rfl) _ _) ?_
    refine RunF_sound tab_ok noX_local 200 [true] _ _ rfl ?_ ?_
    · simp
    refine Run.callM (r := .bool true) noX_local rfl rfl rfl rfl rfl rfl sameSets_enters rfl (fun M w' hM _ => sameW L hL (hM 5 _ rfl) (hM 6 _ rfl) _ _) ?_
    refine RunF_sound tab_ok noX_local 200 [] _ _ rfl ?_ ?_
    · simp
    exact Run.retP tab_ok Tryd.func7 rfl trivial (fun M => rfl)

end Go.Proofs.YtocpkgckllbjlaaDoor

/-
  RelCycles answers true. Own work.
-/
namespace Go.Proofs.YtocpkgckllbjlaaDoor
open Go.AM
set_option maxRecDepth 100000

theorem relCycles_ok (r : Rl) (w : World) (hT : TabAt w) (h0 : 0 < w.heap.size) : Gives Tryd.prog 7 [encRel r] w (.bool true) := by
  obtain ⟨x, hx⟩ := cyc_ex (rightL r)
  have hcy : ∀ w', Agree (fun _ => False) w w' → HandsZ Tryd.prog 57 [encRel r] w' (exZ x) (exH x) := fun w' hA => cycle_ok r x hx w' (hT.agree hA (fun f => f)) (Nat.lt_of_lt_of_le h0 hA.size)
  have hcr : ∀ w', Agree (fun _ => False) w w' → HandsZ Tryd.prog 58 [encRel r] w' (exZ x) (exH x) := fun w' _ => cycleR_ok r x hx w'
  have hpa : ∀ w', Agree (fun _ => False) w w' → HandsZ Tryd.prog 59 [encRel r] w' (pZ (partsL r)) (pH (partsL r)) := fun w' hA => parts_ok r w' (hT.agree hA (fun f => f)) (Nat.lt_of_lt_of_le h0 hA.size)
  have hpr : ∀ w', Agree (fun _ => False) w w' → HandsZ Tryd.prog 60 [encRel r] w' (pZ (partsL r)) (pH (partsL r)) := fun w' _ => partsR_ok r w'
  have hL : (partsL r).length ≤ 64 := by
    have h1 := partsU_len (symR (rightL r)) (rightL r).n.toNat
    have h2 := (rt_right r).hi
    have h3 : (partsL r).length ≤ (rightL r).n.toNat := h1
    omega
  generalize partsL r = L at *
  rcases x with _ | l
  · rcases L with _ | ⟨y, L⟩
    · exact cycles_00 r [] [] (by decide) (by decide) w hcy hcr hpa hpr
    · exact cycles_01 r [] (y :: L) (by decide) hL w hcy hcr hpa hpr
  · have hl := cyc_len hx
    rcases L with _ | ⟨y, L⟩
    · exact cycles_10 r l [] hl (by decide) w hcy hcr hpa hpr
    · exact cycles_11 r l (y :: L) hl hL w hcy hcr hpa hpr
end Go.Proofs.YtocpkgckllbjlaaDoor

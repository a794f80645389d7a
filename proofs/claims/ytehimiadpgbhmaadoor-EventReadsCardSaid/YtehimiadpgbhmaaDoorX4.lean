/-
  Fr, here and in the reference; EventReads. Own work; the orders of the reference's drawn region printed by a program of our own.
-/
import Derived.Test.YtehimiadpgbhmaaDoorX3
namespace Go.Proofs.YtehimiadpgbhmaaDoor
open Go.AM
set_option maxRecDepth 100000

theorem fr_ok (x : Xn) (w : World) (hX : SeesX w x) (hT : TabAt w) (h0 : 0 < w.heap.size) :
    Gives Tryd.prog 10 [encX x] w (encRel (frL (shortL x.ev).length (rfL (shortL x.ev).length x.from_) (coL (shortL x.ev).length x.ord))) := by
  refine Gives.of_run Tryd.func10 rfl (by show 1 ≤ 15; decide) ?_
  have hone := xV_one hX.one1 hX.one4
  have hle := shortL_le x.ev
  have hrf := fun w' (hA : Agree (fun _ => False) w w') => rf_ok x w' (hX.agree hA)
  have hco := fun w' (hA : Agree (fun _ => False) w w') => co_ok x w' (hX.agree hA)
  have heq := fr_eq hle (F := rfL (shortL x.ev).length x.from_) (O := coL (shortL x.ev).length x.ord) (by unfold rfL; exact rfP_n _ _ _) (rfL_below _) (coL_n _ _ _) (coL_below hle _ _ (void_below _ _))
  rw [← heq]
  clear heq
  generalize rfL (shortL x.ev).length x.from_ = F at *
  generalize coL (shortL x.ev).length x.ord = O at *
  have k1 : ∀ w', Agree (fun _ => False) w w' → Gives Tryd.prog 27 [encRel F] w' (encRel (invF (rightL F).n (edgesL (rightL F)))) := fun w' hA => inverse_ok F w' (hT.agree hA (fun f => f)) (Nat.lt_of_lt_of_le h0 hA.size)
  generalize invF (rightL F).n (edgesL (rightL F)) = I at *
  have k2 : ∀ w', Agree (fun _ => False) w w' → Gives Tryd.prog 26 [encRel I, encRel O] w' (encRel (composeL I O)) := fun w' hA => compose_ok I O w' (hT.agree hA (fun f => f)) (Nat.lt_of_lt_of_le h0 hA.size)
  generalize composeL I O = C at *
  have k3 : ∀ w', Gives Tryd.prog 28 [.int .i64 F.n, .int .u64 18446744073709551615] w' (encRel (onL F.n 18446744073709551615#64)) := fun w' => by
    have h := on_ok F.n 18446744073709551615#64 w'
    rw [show un 18446744073709551615#64 = 18446744073709551615 from by decide] at h
    exact h
  generalize onL F.n 18446744073709551615#64 = N at *
  have k4 : ∀ w', Gives Tryd.prog 25 [encRel C, encRel N] w' (encRel (opL (fun a b => a &&& ~~~b) C N)) := fun w' => minus_ok C N w'
  generalize opL (fun a b => a &&& ~~~b) C N = Y at *
  refine RunF_sound tab_ok noX_local 200 [] _ _ rfl ?_ ?_
  · simp [segsVals, relV_one', hone]
  refine Run.callFn (r := encRel F) noX_local rfl rfl rfl rfl rfl rfl rfl rf_enters rfl (fun w' hA => hrf w' hA) ?_
  refine RunF_sound tab_ok noX_local 200 [] _ _ rfl ?_ ?_
  · simp [segsVals, relV_one', splice]
  refine Run.drawA noX_local rfl [] [(0, .cells 28 [.vals 5 (xV x)]), (2, .cells 32 [.vals 65 (relV F)])] rfl rfl ⟨rfl, by simp [splice, lk], trivial⟩ ?_
  refine RunOF_sound tab_ok noX_local rfl rfl 200 [] _ _ rfl ?_ ?_
  · simp
  refine RunO.callFn (r := encRel I) noX_local rfl rfl rfl rfl rfl rfl rfl rfl inverse_enters rfl (fun w' hA => k1 w' hA) ?_
  refine RunOF_sound tab_ok noX_local rfl rfl 200 [] _ _ rfl ?_ ?_
  · simp
  refine RunO.callFn (r := encRel O) noX_local rfl rfl rfl rfl rfl rfl rfl rfl co_enters rfl (fun w' hA => hco w' hA) ?_
  refine RunOF_sound tab_ok noX_local rfl rfl 200 [] _ _ rfl ?_ ?_
  · simp
  refine RunO.callFn (r := encRel C) noX_local rfl rfl rfl rfl rfl rfl rfl rfl compose_enters rfl (fun w' hA => k2 w' hA) ?_
  refine RunOF_sound tab_ok noX_local rfl rfl 200 [] _ _ rfl ?_ ?_
  · simp
  refine RunO.callFn (r := encRel N) noX_local rfl rfl rfl rfl rfl rfl rfl rfl on_enters rfl (fun w' _ => k3 w') ?_
  refine RunOF_sound tab_ok noX_local rfl rfl 200 [] _ _ rfl ?_ ?_
  · simp
  refine RunO.callFn (r := encRel Y) noX_local rfl rfl rfl rfl rfl rfl rfl rfl minus_enters rfl (fun w' _ => k4 w') ?_
  refine RunOF_sound tab_ok noX_local rfl rfl 200 [] _ _ rfl ?_ ?_
  · simp [fillL, Value.cells, segsVals, relV_one', inT, lk, splice]
  refine RunO.done ?_
  refine RunF_sound tab_ok noX_local 100 [] _ _ rfl ?_ ?_
  · simp
  refine Run.retP tab_ok Tryd.func10 rfl ?_ (fun M => ?_)
  · simp
  rfl
theorem fr_enters : Enters Tryd.prog 10 := enters_mk Tryd.func10 (by decide) rfl

theorem frR_ok (x : Xn) (w : World) (hX : SeesX w x) :
    Gives Tryd.prog 11 [encX x] w (encRel (frL (shortL x.ev).length (rfL (shortL x.ev).length x.from_) (coL (shortL x.ev).length x.ord))) := by
  refine Gives.of_run Tryd.func11 rfl (by show 1 ≤ 53; decide) ?_
  have hone := xV_one hX.one1 hX.one4
  have hle := shortL_le x.ev
  have hrf := fun w' (hA : Agree (fun _ => False) w w') => rfR_ok x w' (hX.agree hA)
  have hco := fun w' (hA : Agree (fun _ => False) w w') => coR_ok x w' (hX.agree hA)
  have hFn : (rfL (shortL x.ev).length x.from_).n = ((shortL x.ev).length : Int) := by unfold rfL; exact rfP_n _ _ _
  have hFb := rfL_below (n := (shortL x.ev).length) x.from_
  have hOn : (coL (shortL x.ev).length x.ord).n = ((shortL x.ev).length : Int) := coL_n _ _ _
  generalize rfL (shortL x.ev).length x.from_ = F at *
  generalize coL (shortL x.ev).length x.ord = O at *
  generalize (shortL x.ev).length = n at *
  obtain ⟨Z, hZ⟩ : ∃ Z, Z = frL n F O := ⟨_, rfl⟩
  rw [← hZ]
  refine RunF_sound tab_ok noX_local 200 [] _ _ rfl ?_ ?_
  · simp [segsVals, relV_one', hone]
  refine' Run.join (todo' := _) [(2, .ptr 1 0), (3, .ptr 2 0), (4, .ptr 3 0)] [(1, .cells 32 [.vals 65 (relV (Rl.void 0))]), (2, .cells 32 [.vals 65 (relV F)]), (3, .cells 32 [.vals 65 (relV O)])] 4 ?_ ?_
  rotate_left
  · intro J
    have J2 : ∀ σ, inT σ.t [(2, .ptr 1 0), (3, .ptr 3 0), (4, .ptr 2 0)] → inT σ.h [(1, .cells 32 [.vals 65 (relV (Rl.void 0))]), (3, .cells 32 [.vals 65 (relV F)]), (2, .cells 32 [.vals 65 (relV O)])] → Run _ _ σ := fun σ ht hh =>
      Run.toR [(2, 3), (3, 2)] (t' := [(2, .ptr 1 0), (3, .ptr 2 0), (4, .ptr 3 0)]) (h' := [(1, .cells 32 [.vals 65 (relV (Rl.void 0))]), (2, .cells 32 [.vals 65 (relV F)]), (3, .cells 32 [.vals 65 (relV O)])]) (n' := 4)
        (J _ ⟨⟨_, rfl, fun M => rfl⟩, ⟨_, rfl, fun M => rfl⟩, ⟨_, rfl, fun M => rfl⟩, trivial⟩ ⟨rfl, rfl, rfl, trivial⟩) ⟨ht.1, ht.2.1, ht.2.2.1, trivial⟩ ⟨hh.1, hh.2.1, hh.2.2.1, trivial⟩ rfl
    refine Run.drawOrd noX_local rfl [(0, .cells 28 [.vals 5 (xV x)])] ⟨rfl, trivial⟩ fun l hl => ?_
    have h := hl
    rcases ord_fork' 4 5 rfl h with h | h
    · rcases ord_fork' 1 4 rfl h with h | h
      · rcases ord_fork' 3 4 rfl h with h | h
        · refine draw_leaf [] (LikeS.add 3 4 (LikeS.add 1 4 (LikeS.add 4 5 (LikeS.refl _)))) h rfl rfl ?_
          refine RunOF_sound tab_ok noX_local rfl rfl 200 [] _ _ rfl ?_ ?_
          · simp [inT, lk, segsVals, relV_one']
          refine RunO.callFn (r := encRel F) noX_local rfl rfl rfl rfl rfl rfl rfl rfl rfR_enters rfl (fun w' hA => hrf w' hA) ?_
          refine RunOF_sound tab_ok noX_local rfl rfl 200 [] _ _ rfl ?_ ?_
          · simp [inT, lk, segsVals, relV_one']
          refine RunO.callFn (r := encRel O) noX_local rfl rfl rfl rfl rfl rfl rfl rfl coR_enters rfl (fun w' hA => hco w' hA) ?_
          refine RunOF_sound tab_ok noX_local rfl rfl 200 [] _ _ rfl ?_ ?_
          · simp [inT, lk, segsVals, relV_one']
          refine RunO.done ?_
          refine J _ ?_ ?_
          · exact ⟨⟨_, rfl, fun M => rfl⟩, ⟨_, rfl, fun M => rfl⟩, ⟨_, rfl, fun M => rfl⟩, trivial⟩
          · refine ⟨?_, ?_, ?_, trivial⟩ <;> simp [splice, lk]
        · rcases ord_fork' 3 5 rfl h with h | h
          · refine draw_leaf [] (LikeS.add 3 5 (LikeS.add 4 3 (LikeS.add 1 4 (LikeS.add 4 5 (LikeS.refl _))))) h rfl rfl ?_
            refine RunOF_sound tab_ok noX_local rfl rfl 200 [] _ _ rfl ?_ ?_
            · simp [inT, lk, segsVals, relV_one']
            refine RunO.callFn (r := encRel F) noX_local rfl rfl rfl rfl rfl rfl rfl rfl rfR_enters rfl (fun w' hA => hrf w' hA) ?_
            refine RunOF_sound tab_ok noX_local rfl rfl 200 [] _ _ rfl ?_ ?_
            · simp [inT, lk, segsVals, relV_one']
            refine RunO.callFn (r := encRel O) noX_local rfl rfl rfl rfl rfl rfl rfl rfl coR_enters rfl (fun w' hA => hco w' hA) ?_
            refine RunOF_sound tab_ok noX_local rfl rfl 200 [] _ _ rfl ?_ ?_
            · simp [inT, lk, segsVals, relV_one']
            refine RunO.done ?_
            refine J _ ?_ ?_
            · exact ⟨⟨_, rfl, fun M => rfl⟩, ⟨_, rfl, fun M => rfl⟩, ⟨_, rfl, fun M => rfl⟩, trivial⟩
            · refine ⟨?_, ?_, ?_, trivial⟩ <;> simp [splice, lk]
          · refine draw_leaf [] (LikeS.add 5 3 (LikeS.add 4 3 (LikeS.add 1 4 (LikeS.add 4 5 (LikeS.refl _))))) h rfl rfl ?_
            refine RunOF_sound tab_ok noX_local rfl rfl 200 [] _ _ rfl ?_ ?_
            · simp [inT, lk, segsVals, relV_one']
            refine RunO.callFn (r := encRel F) noX_local rfl rfl rfl rfl rfl rfl rfl rfl rfR_enters rfl (fun w' hA => hrf w' hA) ?_
            refine RunOF_sound tab_ok noX_local rfl rfl 200 [] _ _ rfl ?_ ?_
            · simp [inT, lk, segsVals, relV_one']
            refine RunO.callFn (r := encRel O) noX_local rfl rfl rfl rfl rfl rfl rfl rfl coR_enters rfl (fun w' hA => hco w' hA) ?_
            refine RunOF_sound tab_ok noX_local rfl rfl 200 [] _ _ rfl ?_ ?_
            · simp [inT, lk, segsVals, relV_one']
            refine RunO.done ?_
            refine J _ ?_ ?_
            · exact ⟨⟨_, rfl, fun M => rfl⟩, ⟨_, rfl, fun M => rfl⟩, ⟨_, rfl, fun M => rfl⟩, trivial⟩
            · refine ⟨?_, ?_, ?_, trivial⟩ <;> simp [splice, lk]
      · rcases ord_fork' 1 5 rfl h with h | h
        · rcases ord_fork' 3 5 rfl h with h | h
          · refine draw_leaf [] (LikeS.add 3 5 (LikeS.add 1 5 (LikeS.add 4 1 (LikeS.add 4 5 (LikeS.refl _))))) h rfl rfl ?_
            refine RunOF_sound tab_ok noX_local rfl rfl 200 [] _ _ rfl ?_ ?_
            · simp [inT, lk, segsVals, relV_one']
            refine RunO.callFn (r := encRel F) noX_local rfl rfl rfl rfl rfl rfl rfl rfl rfR_enters rfl (fun w' hA => hrf w' hA) ?_
            refine RunOF_sound tab_ok noX_local rfl rfl 200 [] _ _ rfl ?_ ?_
            · simp [inT, lk, segsVals, relV_one']
            refine RunO.callFn (r := encRel O) noX_local rfl rfl rfl rfl rfl rfl rfl rfl coR_enters rfl (fun w' hA => hco w' hA) ?_
            refine RunOF_sound tab_ok noX_local rfl rfl 200 [] _ _ rfl ?_ ?_
            · simp [inT, lk, segsVals, relV_one']
            refine RunO.done ?_
            refine J _ ?_ ?_
            · exact ⟨⟨_, rfl, fun M => rfl⟩, ⟨_, rfl, fun M => rfl⟩, ⟨_, rfl, fun M => rfl⟩, trivial⟩
            · refine ⟨?_, ?_, ?_, trivial⟩ <;> simp [splice, lk]
          · refine draw_leaf [] (LikeS.add 5 3 (LikeS.add 1 5 (LikeS.add 4 1 (LikeS.add 4 5 (LikeS.refl _))))) h rfl rfl ?_
            refine RunOF_sound tab_ok noX_local rfl rfl 200 [] _ _ rfl ?_ ?_
            · simp [inT, lk, segsVals, relV_one']
            refine RunO.callFn (r := encRel F) noX_local rfl rfl rfl rfl rfl rfl rfl rfl rfR_enters rfl (fun w' hA => hrf w' hA) ?_
            refine RunOF_sound tab_ok noX_local rfl rfl 200 [] _ _ rfl ?_ ?_
            · simp [inT, lk, segsVals, relV_one']
            refine RunO.callFn (r := encRel O) noX_local rfl rfl rfl rfl rfl rfl rfl rfl coR_enters rfl (fun w' hA => hco w' hA) ?_
            refine RunOF_sound tab_ok noX_local rfl rfl 200 [] _ _ rfl ?_ ?_
            · simp [inT, lk, segsVals, relV_one']
            refine RunO.done ?_
            refine J _ ?_ ?_
            · exact ⟨⟨_, rfl, fun M => rfl⟩, ⟨_, rfl, fun M => rfl⟩, ⟨_, rfl, fun M => rfl⟩, trivial⟩
            · refine ⟨?_, ?_, ?_, trivial⟩ <;> simp [splice, lk]
        · refine draw_leaf [] (LikeS.add 5 1 (LikeS.add 4 1 (LikeS.add 4 5 (LikeS.refl _)))) h rfl rfl ?_
          refine RunOF_sound tab_ok noX_local rfl rfl 200 [] _ _ rfl ?_ ?_
          · simp [inT, lk, segsVals, relV_one']
          refine RunO.callFn (r := encRel F) noX_local rfl rfl rfl rfl rfl rfl rfl rfl rfR_enters rfl (fun w' hA => hrf w' hA) ?_
          refine RunOF_sound tab_ok noX_local rfl rfl 200 [] _ _ rfl ?_ ?_
          · simp [inT, lk, segsVals, relV_one']
          refine RunO.callFn (r := encRel O) noX_local rfl rfl rfl rfl rfl rfl rfl rfl coR_enters rfl (fun w' hA => hco w' hA) ?_
          refine RunOF_sound tab_ok noX_local rfl rfl 200 [] _ _ rfl ?_ ?_
          · simp [inT, lk, segsVals, relV_one']
          refine RunO.done ?_
          refine J _ ?_ ?_
          · exact ⟨⟨_, rfl, fun M => rfl⟩, ⟨_, rfl, fun M => rfl⟩, ⟨_, rfl, fun M => rfl⟩, trivial⟩
          · refine ⟨?_, ?_, ?_, trivial⟩ <;> simp [splice, lk]
    · rcases ord_fork' 1 5 rfl h with h | h
      · rcases ord_fork' 3 5 rfl h with h | h
        · refine draw_leaf [] (LikeS.add 3 5 (LikeS.add 1 5 (LikeS.add 5 4 (LikeS.refl _)))) h rfl rfl ?_
          refine RunOF_sound tab_ok noX_local rfl rfl 200 [] _ _ rfl ?_ ?_
          · simp [inT, lk, segsVals, relV_one']
          refine RunO.callFn (r := encRel F) noX_local rfl rfl rfl rfl rfl rfl rfl rfl rfR_enters rfl (fun w' hA => hrf w' hA) ?_
          refine RunOF_sound tab_ok noX_local rfl rfl 200 [] _ _ rfl ?_ ?_
          · simp [inT, lk, segsVals, relV_one']
          refine RunO.callFn (r := encRel O) noX_local rfl rfl rfl rfl rfl rfl rfl rfl coR_enters rfl (fun w' hA => hco w' hA) ?_
          refine RunOF_sound tab_ok noX_local rfl rfl 200 [] _ _ rfl ?_ ?_
          · simp [inT, lk, segsVals, relV_one']
          refine RunO.done ?_
          refine J2 _ ?_ ?_
          · exact ⟨rfl, rfl, rfl, trivial⟩
          · refine ⟨?_, ?_, ?_, trivial⟩ <;> simp [splice, lk]
        · rcases ord_fork' 3 4 rfl h with h | h
          · refine draw_leaf [] (LikeS.add 3 4 (LikeS.add 5 3 (LikeS.add 1 5 (LikeS.add 5 4 (LikeS.refl _))))) h rfl rfl ?_
            refine RunOF_sound tab_ok noX_local rfl rfl 200 [] _ _ rfl ?_ ?_
            · simp [inT, lk, segsVals, relV_one']
            refine RunO.callFn (r := encRel F) noX_local rfl rfl rfl rfl rfl rfl rfl rfl rfR_enters rfl (fun w' hA => hrf w' hA) ?_
            refine RunOF_sound tab_ok noX_local rfl rfl 200 [] _ _ rfl ?_ ?_
            · simp [inT, lk, segsVals, relV_one']
            refine RunO.callFn (r := encRel O) noX_local rfl rfl rfl rfl rfl rfl rfl rfl coR_enters rfl (fun w' hA => hco w' hA) ?_
            refine RunOF_sound tab_ok noX_local rfl rfl 200 [] _ _ rfl ?_ ?_
            · simp [inT, lk, segsVals, relV_one']
            refine RunO.done ?_
            refine J2 _ ?_ ?_
            · exact ⟨rfl, rfl, rfl, trivial⟩
            · refine ⟨?_, ?_, ?_, trivial⟩ <;> simp [splice, lk]
          · refine draw_leaf [] (LikeS.add 4 3 (LikeS.add 5 3 (LikeS.add 1 5 (LikeS.add 5 4 (LikeS.refl _))))) h rfl rfl ?_
            refine RunOF_sound tab_ok noX_local rfl rfl 200 [] _ _ rfl ?_ ?_
            · simp [inT, lk, segsVals, relV_one']
            refine RunO.callFn (r := encRel F) noX_local rfl rfl rfl rfl rfl rfl rfl rfl rfR_enters rfl (fun w' hA => hrf w' hA) ?_
            refine RunOF_sound tab_ok noX_local rfl rfl 200 [] _ _ rfl ?_ ?_
            · simp [inT, lk, segsVals, relV_one']
            refine RunO.callFn (r := encRel O) noX_local rfl rfl rfl rfl rfl rfl rfl rfl coR_enters rfl (fun w' hA => hco w' hA) ?_
            refine RunOF_sound tab_ok noX_local rfl rfl 200 [] _ _ rfl ?_ ?_
            · simp [inT, lk, segsVals, relV_one']
            refine RunO.done ?_
            refine J2 _ ?_ ?_
            · exact ⟨rfl, rfl, rfl, trivial⟩
            · refine ⟨?_, ?_, ?_, trivial⟩ <;> simp [splice, lk]
      · rcases ord_fork' 1 4 rfl h with h | h
        · rcases ord_fork' 3 4 rfl h with h | h
          · refine draw_leaf [] (LikeS.add 3 4 (LikeS.add 1 4 (LikeS.add 5 1 (LikeS.add 5 4 (LikeS.refl _))))) h rfl rfl ?_
            refine RunOF_sound tab_ok noX_local rfl rfl 200 [] _ _ rfl ?_ ?_
            · simp [inT, lk, segsVals, relV_one']
            refine RunO.callFn (r := encRel F) noX_local rfl rfl rfl rfl rfl rfl rfl rfl rfR_enters rfl (fun w' hA => hrf w' hA) ?_
            refine RunOF_sound tab_ok noX_local rfl rfl 200 [] _ _ rfl ?_ ?_
            · simp [inT, lk, segsVals, relV_one']
            refine RunO.callFn (r := encRel O) noX_local rfl rfl rfl rfl rfl rfl rfl rfl coR_enters rfl (fun w' hA => hco w' hA) ?_
            refine RunOF_sound tab_ok noX_local rfl rfl 200 [] _ _ rfl ?_ ?_
            · simp [inT, lk, segsVals, relV_one']
            refine RunO.done ?_
            refine J2 _ ?_ ?_
            · exact ⟨rfl, rfl, rfl, trivial⟩
            · refine ⟨?_, ?_, ?_, trivial⟩ <;> simp [splice, lk]
          · refine draw_leaf [] (LikeS.add 4 3 (LikeS.add 1 4 (LikeS.add 5 1 (LikeS.add 5 4 (LikeS.refl _))))) h rfl rfl ?_
            refine RunOF_sound tab_ok noX_local rfl rfl 200 [] _ _ rfl ?_ ?_
            · simp [inT, lk, segsVals, relV_one']
            refine RunO.callFn (r := encRel F) noX_local rfl rfl rfl rfl rfl rfl rfl rfl rfR_enters rfl (fun w' hA => hrf w' hA) ?_
            refine RunOF_sound tab_ok noX_local rfl rfl 200 [] _ _ rfl ?_ ?_
            · simp [inT, lk, segsVals, relV_one']
            refine RunO.callFn (r := encRel O) noX_local rfl rfl rfl rfl rfl rfl rfl rfl coR_enters rfl (fun w' hA => hco w' hA) ?_
            refine RunOF_sound tab_ok noX_local rfl rfl 200 [] _ _ rfl ?_ ?_
            · simp [inT, lk, segsVals, relV_one']
            refine RunO.done ?_
            refine J2 _ ?_ ?_
            · exact ⟨rfl, rfl, rfl, trivial⟩
            · refine ⟨?_, ?_, ?_, trivial⟩ <;> simp [splice, lk]
        · refine draw_leaf [] (LikeS.add 4 1 (LikeS.add 5 1 (LikeS.add 5 4 (LikeS.refl _)))) h rfl rfl ?_
          refine RunOF_sound tab_ok noX_local rfl rfl 200 [] _ _ rfl ?_ ?_
          · simp [inT, lk, segsVals, relV_one']
          refine RunO.callFn (r := encRel F) noX_local rfl rfl rfl rfl rfl rfl rfl rfl rfR_enters rfl (fun w' hA => hrf w' hA) ?_
          refine RunOF_sound tab_ok noX_local rfl rfl 200 [] _ _ rfl ?_ ?_
          · simp [inT, lk, segsVals, relV_one']
          refine RunO.callFn (r := encRel O) noX_local rfl rfl rfl rfl rfl rfl rfl rfl coR_enters rfl (fun w' hA => hco w' hA) ?_
          refine RunOF_sound tab_ok noX_local rfl rfl 200 [] _ _ rfl ?_ ?_
          · simp [inT, lk, segsVals, relV_one']
          refine RunO.done ?_
          refine J2 _ ?_ ?_
          · exact ⟨rfl, rfl, rfl, trivial⟩
          · refine ⟨?_, ?_, ?_, trivial⟩ <;> simp [splice, lk]
  refine RunF_sound tab_ok noX_local 200 [] _ _ rfl ?_ ?_
  · simp [fillL, Value.cells, segsVals, relV_one', relV_tail_one, splice]
    try rfl
  suffices H : ∀ (d i : Nat), i + d = n → ∀ σ, inT σ.t [(2, .ptr 1 0), (3, .ptr 2 0), (4, .ptr 3 0), (5, .ptr 4 0), (6, .v (.int .i64 (i : Int)))] →
      inT σ.h [(1, .cells 32 [.vals 65 (relV (Rl.void 0))]), (2, .cells 32 [.vals 65 (relV F)]), (3, .cells 32 [.vals 65 (relV O)]), (4, .cells 32 [.vals 65 (relV (frP n F O i 0))])] → Run _ _ σ by
    refine H n 0 (by omega) _ ⟨rfl, rfl, rfl, rfl, rfl, trivial⟩ ⟨rfl, rfl, rfl, ?_, trivial⟩
    rw [frP_0, ← hFn]; rfl
  intro d
  induction d with
  | zero =>
    intro i hi σ ht hh
    refine Run.to ?_ ht hh (n' := 5)
    refine RunF_sound tab_ok noX_local 100 [false] _ _ rfl ?_ ?_
    · simp [relV_one', segsVals, hFn]; omega
    refine Run.retP tab_ok Tryd.func11 rfl ?_ (fun M => ?_)
    · simp
    rw [hZ, frL, show n = i by omega]; rfl
  | succ d ih =>
    intro i hi σ ht hh
    refine Run.to ?_ ht hh (n' := 5)
    have hi' : i < 64 := by omega
    refine RunF_sound tab_ok noX_local 100 [true] _ _ rfl ?_ ?_
    · simp [hFn]; omega
    suffices H2 : ∀ (e j : Nat), j + e = n → ∀ σ, inT σ.t [(2, .ptr 1 0), (3, .ptr 2 0), (4, .ptr 3 0), (5, .ptr 4 0), (6, .v (.int .i64 (i : Int))), (7, .v (.int .i64 (j : Int)))] →
        inT σ.h [(1, .cells 32 [.vals 65 (relV (Rl.void 0))]), (2, .cells 32 [.vals 65 (relV F)]), (3, .cells 32 [.vals 65 (relV O)]), (4, .cells 32 [.vals 65 (relV (frP n F O i j))])] → Run _ _ σ by
      exact H2 n 0 (by omega) _ ⟨rfl, rfl, rfl, rfl, rfl, rfl, trivial⟩ ⟨rfl, rfl, rfl, rfl, trivial⟩
    intro e
    induction e with
    | zero =>
      intro j hj σ ht hh
      refine Run.to ?_ ht hh (n' := 5)
      refine RunF_sound tab_ok noX_local 100 [false] _ _ rfl ?_ ?_
      · simp [hFn]; omega
      refine ih (i + 1) (by omega) _ ⟨rfl, rfl, rfl, rfl, i64_eq (wrap_succ (by omega)), trivial⟩ ⟨rfl, rfl, rfl, ?_, trivial⟩
      rw [← frP_row hFb, show j = n by omega]; rfl
    | succ e ihe =>
      intro j hj σ ht hh
      refine Run.to ?_ ht hh (n' := 5)
      have hj' : j < 64 := by omega
      have hbit := bit1 (F.row i) j
      by_cases c : (F.row i).getLsbD j = true
      · refine RunF_sound tab_ok noX_local 200 [true, true] _ _ rfl ?_ ?_
        · simp [hFn, wrapn j (by omega), relV_get _ _ hi', intAt_row _ _ hi', hbit, c]; omega
        refine Run.drawA noX_local rfl [] [(3, .cells 32 [.vals 65 (relV O)]), (4, .cells 32 [.vals 65 (relV (frP n F O i j))])] rfl rfl ⟨rfl, rfl, trivial⟩ ?_
        have e1 : intAt (relV (frP n F O i j)) (1 + j) = un ((frP n F O i j).row j) := intAt_row _ _ hj'
        have e2 : intAt (relV O) (1 + i) = un (O.row i) := intAt_row _ _ hi'
        refine RunOF_sound tab_ok noX_local rfl rfl 16 [] _ _ rfl ?_ ?_
        · simp [wrapn j (by omega), relV_get _ _ hj', relV_get _ _ hi', e1, e2, okCell, Value.oneCell', inT, lk]; omega
        refine RunO.effLast tab_ok noX_local rfl rfl rfl rfl ?_ (fun e => by cases e) rfl ?_
        · simp [okCell, Value.oneCell']; omega
        refine RunF_sound tab_ok noX_local 100 [] _ _ rfl ?_ ?_
        · simp
        refine ihe (j + 1) (by omega) _ ⟨rfl, rfl, rfl, rfl, rfl, i64_eq (wrap_succ (by omega)), trivial⟩ ⟨rfl, rfl, rfl, congrArg (fun l => some (Blk.cells 32 [.vals 65 l])) ?_, trivial⟩
        simp [e1, e2, wrapn j (by omega), shl1_un, relV_set _ _ hj', frP_yes hj' (show F.has i j = true from c)]
      · refine RunF_sound tab_ok noX_local 200 [true, false] _ _ rfl ?_ ?_
        · simp [hFn, wrapn j (by omega), relV_get _ _ hi', intAt_row _ _ hi', hbit, c]; omega
        refine ihe (j + 1) (by omega) _ ⟨rfl, rfl, rfl, rfl, rfl, i64_eq (wrap_succ (by omega)), trivial⟩ ⟨rfl, rfl, rfl, ?_, trivial⟩
        rw [← frP_no (show F.has i j = false by simpa [Rl.has] using c)]; rfl
theorem frR_enters : Enters Tryd.prog 11 := enters_mk Tryd.func11 (by decide) rfl
end Go.Proofs.YtehimiadpgbhmaaDoor

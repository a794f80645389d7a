/-
  The reference's whole and Parse; WordParses. Own work.
-/
import Derived.Test.YtpfanhbkjajocaaN6
import Derived.Test.YtpfanhbkjajocaaW5
namespace Go.Proofs.Ytpfanhbkjajocaa
open Go.AM
set_option maxRecDepth 100000

theorem whole_ok (s : ByteArray) (w : World) (hs : s.size ≤ maxLen) (h0 : begS s 0 < s.size) : Gives Try.prog 15 [.string s] w (.int .i64 (lenS s)) := by
  refine Gives.of_run Try.func15 rfl (by show 1 ≤ 60; decide) ?_
  have hsz : (s.size : Int) ≤ 9223372036854775807 := by simp only [maxLen] at hs; omega
  have ht0 : (((s[0]?.getD 0).toNat : Nat) : Int) = tk s 0 := rfl
  have hpos : 0 < s.size := by omega
  unfold lenS
  refine' Run.join (todo' := _) [(0, .v (.string s)), (3, .v (.int .i64 (begS s 0 : Nat))), (14, .v (.string s)), (15, .v (.int .i64 (begS s 0 : Nat)))] [] 0 ?_ ?_
  rotate_left
  · intro H
    by_cases c2 : tk s 0 = 45
    · have hn : negS s 0 = true := by unfold negS; rw [decide_eq_true hpos, Bool.true_and]; exact decide_eq_true c2
      have hb : begS s 0 = 1 := by unfold begS; rw [if_pos hn]
      refine RunF_sound tab_ok noX_local 200 [true] _ _ rfl ?_ ?_
      · simp [ht0, c2]; omega
      refine H _ ?_ trivial
      exact ⟨⟨_, rfl, fun M => rfl⟩, ⟨_, rfl, fun M => by rw [hb] <;> rfl⟩, ⟨_, rfl, fun M => rfl⟩, ⟨_, rfl, fun M => by rw [hb] <;> rfl⟩, trivial⟩
    · have hn : negS s 0 = false := by unfold negS; rw [decide_eq_true hpos, Bool.true_and]; exact decide_eq_false c2
      have hb : begS s 0 = 0 := by unfold begS; rw [hn]; rfl
      refine RunF_sound tab_ok noX_local 200 [false] _ _ rfl ?_ ?_
      · simp [ht0, c2]; omega
      refine H _ ?_ trivial
      exact ⟨⟨_, rfl, fun M => rfl⟩, ⟨_, rfl, fun M => by rw [hb] <;> rfl⟩, ⟨_, rfl, fun M => rfl⟩, ⟨_, rfl, fun M => by rw [hb] <;> rfl⟩, trivial⟩
  generalize begS s 0 = b at *
  refine Run.callFn noX_local rfl rfl rfl rfl rfl rfl rfl digitsR_enters rfl (fun w' _ => digitsR_ok s b 10 (.inl rfl) (by omega) hs w') ?_
  have hten := @runS_ten s b
  have hbd := dgo_bounds s 10 (s.size - b) b 0 false (by omega) (by omega)
  generalize hD : dgo s 10 (s.size - b) b 0 false = D1 at *
  have hw0 : IntKind.i64.wrap ((b : Int) + ((D1.2.2 : Int) - (b : Int))) = (D1.2.2 : Int) := by rw [wrap_i64] <;> omega
  have htb : (((s[b]?.getD 0).toNat : Nat) : Int) = tk s b := rfl
  have hw1 := wrap_succ (show b < 9223372036854775807 by omega)
  have hq1 : tk s ((b : Int) + 1) = tk s (b + 1 : Nat) := rfl
  have htb1 : (((s[b + 1]?.getD 0).toNat : Nat) : Int) = tk s (b + 1 : Nat) := rfl
  have hr : xS s b = false → (runS s b).2.2 = D1.2.2 := fun hx => by
    have hh2 : hexS s b = false := by unfold hexS; rw [hx]; rfl
    rw [(hten hh2).1]
  by_cases p1 : tk s b = 48
  · by_cases p2 : b + 1 < s.size
    · by_cases p34 : tk s (b + 1 : Nat) = 120 ∨ tk s (b + 1 : Nat) = 88
      · have hx : xS s b = true := xS_iff.2 ⟨p2, p1, p34⟩
        have hj : ∀ w', Gives Try.prog 20 [.string s, .int .i64 ((b + 2 : Nat) : Int), .int .i64 16] w' _ := fun w' => digitsR_ok s (b + 2) 16 (.inr rfl) (by omega) hs w'
        have hw2 : IntKind.i64.wrap ((b : Int) + 2) = ((b + 2 : Nat) : Int) := by rw [wrap_i64] <;> omega
        have hno2 := dgo_none s 16 (s.size - (b + 2)) (b + 2) 0 false
        have hhx := @hexS_iff' s b
        have hrx := @runS_hex s b
        have hb2 := dgo_bounds s 16 (s.size - (b + 2)) (b + 2) 0 false (by omega) (by omega)
        generalize hD2 : dgo s 16 (s.size - (b + 2)) (b + 2) 0 false = D2 at *
        refine' Run.join (todo' := _) [(3, .v (.int .i64 (b : Nat))), (6, .v (.int .i64 ((D1.2.2 : Nat) - (b : Int)))), (46, .v (.string s)), (48, .v (.int .i64 ((b + 2 : Nat) : Int)))] [] 0 ?_ ?_
        rotate_left
        · intro J
          by_cases p3 : tk s (b + 1 : Nat) = 120
          · have q3 : tk s ((b : Int) + 1) = 120 := p3
            refine RunF_sound tab_ok noX_local 200 [true, true, true, true] _ _ rfl ?_ ?_
            · simp [htb, p1, hw1, htb1, q3]; omega
            refine J _ ?_ trivial
            exact ⟨⟨_, rfl, fun M => rfl⟩, ⟨_, rfl, fun M => rfl⟩, ⟨_, rfl, fun M => rfl⟩, ⟨_, rfl, fun M => by simp only [conc, hw2]⟩, trivial⟩
          · have p4 := p34.resolve_left p3
            have q3 : ¬ tk s ((b : Int) + 1) = 120 := p3
            have q4 : tk s ((b : Int) + 1) = 88 := p4
            refine RunF_sound tab_ok noX_local 200 [true, true, false, true] _ _ rfl ?_ ?_
            · simp [htb, p1, hw1, htb1, q4]; omega
            refine J _ ?_ trivial
            exact ⟨⟨_, rfl, fun M => rfl⟩, ⟨_, rfl, fun M => rfl⟩, ⟨_, rfl, fun M => rfl⟩, ⟨_, rfl, fun M => by simp only [conc, hw2]⟩, trivial⟩
        refine Run.callFn noX_local rfl rfl rfl rfl rfl rfl rfl digitsR_enters rfl (fun w' _ => hj w') ?_
        by_cases cj : D2.2.2 = b + 2
        · have hh2 : hexS s b = false := Bool.eq_false_iff.2 fun h => by
            obtain ⟨_, g1, g2⟩ := hhx.1 h
            rcases hno2.1 cj with g3 | g3
            · omega
            · exact g3 g2
          refine RunF_sound tab_ok noX_local 200 [false] _ _ rfl ?_ ?_
          · simp [cj]
          refine Run.retP tab_ok Try.func15 rfl trivial (fun M => ?_)
          rw [(hten hh2).1]
          simp only [resAV, conc, hw0]
        · have hh2 : hexS s b = true := hhx.2 ⟨hx, by
            rcases Nat.lt_or_ge (b + 2) s.size with g | g
            · exact g
            · exact absurd (hno2.2 (.inl (by omega))) cj, by
            by_cases g : dv (tk s (b + 2 : Nat)) < 16
            · exact g
            · exact absurd (hno2.2 (.inr g)) cj⟩
          have hw3 : IntKind.i64.wrap ((D2.2.2 : Int) - ((b + 2 : Nat) : Int) + 2) = (D2.2.2 : Int) - (b : Int) := by rw [wrap_i64] <;> omega
          have hw4 : IntKind.i64.wrap ((b : Int) + ((D2.2.2 : Int) - (b : Int))) = (D2.2.2 : Int) := by rw [wrap_i64] <;> omega
          refine RunF_sound tab_ok noX_local 200 [true] _ _ rfl ?_ ?_
          · simp; omega
          refine Run.retP tab_ok Try.func15 rfl trivial (fun M => ?_)
          rw [(hrx hh2).1]
          simp only [resAV, conc, hw3, hw4]
      · have hx : xS s b = false := Bool.eq_false_iff.2 fun h => p34 (xS_iff.1 h).2.2
        have q3 : ¬ tk s ((b : Int) + 1) = 120 := fun h => p34 (.inl h)
        have q4 : ¬ tk s ((b : Int) + 1) = 88 := fun h => p34 (.inr h)
        refine RunF_sound tab_ok noX_local 200 [true, true, false, false] _ _ rfl ?_ ?_
        · simp [htb, p1, hw1, htb1, q3, q4]; omega
        refine Run.retP tab_ok Try.func15 rfl trivial (fun M => ?_)
        rw [hr hx]
        simp only [resAV, conc, hw0]
    · have hx : xS s b = false := Bool.eq_false_iff.2 fun h => p2 (xS_iff.1 h).1
      refine RunF_sound tab_ok noX_local 200 [true, false] _ _ rfl ?_ ?_
      · simp [htb, p1, hw1]; omega
      refine Run.retP tab_ok Try.func15 rfl trivial (fun M => ?_)
      rw [hr hx]
      simp only [resAV, conc, hw0]
  · have hx : xS s b = false := Bool.eq_false_iff.2 fun h => p1 (xS_iff.1 h).2.1
    refine RunF_sound tab_ok noX_local 200 [false] _ _ rfl ?_ ?_
    · simp [htb, p1]; omega
    refine Run.retP tab_ok Try.func15 rfl trivial (fun M => ?_)
    rw [hr hx]
    simp only [resAV, conc, hw0]
theorem whole_enters : Enters Try.prog 15 := enters_mk Try.func15 (by decide) rfl

theorem stS_ge (s : ByteArray) (b : Nat) : b ≤ stS s b := by unfold stS; split <;> omega
theorem begS_le (s : ByteArray) : begS s 0 ≤ s.size := by
  unfold begS
  split
  · rename_i h; unfold negS at h; simp at h; omega
  · omega
theorem next_big (s : ByteArray) (h : (nextS s 0).2.2 = 41) : (nextS s 0).1 = 0 ∧ begS s 0 < s.size := by
  unfold nextS at *
  rw [if_neg (by omega)] at *
  rw [show (0 : Int).toNat = 0 from rfl] at *
  unfold nextAt at *
  split at h
  · cases h
  · rename_i h1
    have hb : begS s 0 < s.size := by
      have h2 := stS_ge s (begS s 0)
      have h3 := dgo_bounds s (baseS s (begS s 0)) (s.size - stS s (begS s 0)) (stS s (begS s 0)) 0 false (by omega) (by omega)
      have h4 : (runS s (begS s 0)).2.2 = (dgo s (baseS s (begS s 0)) (s.size - stS s (begS s 0)) (stS s (begS s 0)) 0 false).2.2 := rfl
      omega
    split at h
    · rename_i h2
      rw [if_neg h1, if_pos h2]
      exact ⟨rfl, hb⟩
    · cases h

theorem parseR_ok (s : ByteArray) (w : World) (hs : s.size ≤ maxLen) : Gives Try.prog 11 [.string s] w (.tuple #[.int .i64 (parseS s).1, .int .i64 (parseS s).2]) := by
  refine Gives.of_run Try.func11 rfl (by show 1 ≤ 27; decide) ?_
  have he := next_err s
  have hbig := next_big s
  unfold parseS
  refine RunF_sound tab_ok noX_local 200 [] _ _ rfl ?_ ?_
  · simp
  refine Run.callFn noX_local rfl rfl rfl rfl rfl rfl rfl nextRef_enters rfl (fun w' _ => nextRef_ok s 0 w' hs) ?_
  have hlen : begS s 0 < s.size → ∀ w', Gives Try.prog 15 [.string s] w' (.int .i64 (lenS s)) := fun h w' => whole_ok s w' hs h
  generalize nextS s 0 = N at he hbig
  generalize lenS s = l at he hlen
  obtain ⟨v, n, e⟩ := N
  simp only [] at he hbig ⊢
  rcases he with h | h | ⟨h, hn⟩
  · subst h
    refine RunF_sound tab_ok noX_local 200 [false, true, true] _ _ rfl ?_ ?_
    · simp [tv]
    exact Run.retL tab_ok Try.func11 rfl trivial (fun M => rfl)
  · subst h
    obtain ⟨h1, h2⟩ := hbig rfl
    subst h1
    refine RunF_sound tab_ok noX_local 200 [true] _ _ rfl ?_ ?_
    · simp [tv]
    refine Run.callFn noX_local rfl rfl rfl rfl rfl rfl rfl whole_enters rfl (fun w' _ => hlen h2 w') ?_
    rw [if_neg (by decide)]
    by_cases c2 : l = s.size
    · rw [if_neg (by simpa using c2), if_pos (by decide)]
      refine RunF_sound tab_ok noX_local 200 [false, false] _ _ rfl ?_ ?_
      · simp [c2, tv]
      exact Run.retL tab_ok Try.func11 rfl trivial (fun M => rfl)
    · rw [if_pos (by simpa using c2)]
      refine RunF_sound tab_ok noX_local 200 [false, true] _ _ rfl ?_ ?_
      · simp [c2, tv]
      exact Run.retL tab_ok Try.func11 rfl trivial (fun M => rfl)
  · subst h
    subst hn
    rw [if_neg (by decide)]
    by_cases c2 : n = s.size
    · rw [if_neg (by simpa using c2), if_neg (by decide)]
      refine RunF_sound tab_ok noX_local 200 [false, false, false] _ _ rfl ?_ ?_
      · simp [c2, tv]
      exact Run.retL tab_ok Try.func11 rfl trivial (fun M => rfl)
    · rw [if_pos (by simpa using c2)]
      refine RunF_sound tab_ok noX_local 200 [false, false, true] _ _ rfl ?_ ?_
      · simp [c2, tv]
      exact Run.retL tab_ok Try.func11 rfl trivial (fun M => rfl)
theorem parseR_enters : Enters Try.prog 11 := enters_mk Try.func11 (by decide) rfl

theorem parses_ok (s : ByteArray) (a : Int) (w : World) (hs : s.size ≤ maxLen) : Gives Try.prog 4 [.string s, .int .i64 a] w (.bool true) := by
  refine Gives.of_run Try.func4 rfl (by show 2 ≤ 64; decide) ?_
  refine RunF_sound tab_ok noX_local 200 [] _ _ rfl ?_ ?_
  · simp
  refine Run.callFn noX_local rfl rfl rfl rfl rfl rfl rfl parse_enters rfl (fun w' _ => parse_ok s w' hs) ?_
  refine RunF_sound tab_ok noX_local 200 [] _ _ rfl ?_ ?_
  · simp
  refine Run.callFn noX_local rfl rfl rfl rfl rfl rfl rfl parseR_enters rfl (fun w' _ => parseR_ok s w' hs) ?_
  generalize parseS s = p
  refine RunF_sound tab_ok noX_local 200 [] _ _ rfl ?_ ?_
  · simp
  refine Run.callFn noX_local rfl rfl rfl rfl rfl rfl rfl next_enters rfl (fun w' _ => next_ok s a w' hs) ?_
  refine RunF_sound tab_ok noX_local 200 [] _ _ rfl ?_ ?_
  · simp [tv]
  refine Run.callFn noX_local rfl rfl rfl rfl rfl rfl rfl nextRef_enters rfl (fun w' _ => nextRef_ok s a w' hs) ?_
  generalize nextS s a = x
  refine RunF_sound tab_ok noX_local 200 [true] _ _ rfl ?_ ?_
  · simp [tv]
  refine Run.callFn noX_local rfl rfl rfl rfl rfl rfl rfl num_enters rfl (fun w' _ => num_ok _ w') ?_
  refine RunF_sound tab_ok noX_local 200 [true, true, true] _ _ rfl ?_ ?_
  · simp
  refine Run.callFn noX_local rfl rfl rfl rfl rfl rfl rfl num_enters rfl (fun w' _ => num_ok _ w') ?_
  refine RunF_sound tab_ok noX_local 200 [] _ _ rfl ?_ ?_
  · simp
  refine Run.retP tab_ok Try.func4 rfl trivial (fun M => ?_)
  simp [resAV, conc]
end Go.Proofs.Ytpfanhbkjajocaa

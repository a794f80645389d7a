/-
  The reference's Next, whole and Parse. Own work.
-/
import Derived.Test.YtpfanhbkjajocaaN5
namespace Go.Proofs.Ytpfanhbkjajocaa
open Go.AM
set_option maxRecDepth 100000

theorem runS_ten {s : ByteArray} {b : Nat} (h : hexS s b = false) : runS s b = dgo s 10 (s.size - b) b 0 false ∧ stS s b = b := by
  have h1 : baseS s b = 10 := by unfold baseS; rw [h]; rfl
  have h2 : stS s b = b := by unfold stS; rw [h]; rfl
  exact ⟨by unfold runS; rw [h1, h2], h2⟩
theorem runS_hex {s : ByteArray} {b : Nat} (h : hexS s b = true) : runS s b = dgo s 16 (s.size - (b + 2)) (b + 2) 0 false ∧ stS s b = b + 2 := by
  have h1 : baseS s b = 16 := by unfold baseS; rw [h]; rfl
  have h2 : stS s b = b + 2 := by unfold stS; rw [h]; rfl
  exact ⟨by unfold runS; rw [h1, h2], h2⟩
theorem hexS_iff' {s : ByteArray} {b : Nat} : hexS s b = true ↔ xS s b = true ∧ b + 2 < s.size ∧ dv (tk s (b + 2 : Nat)) < 16 := by
  unfold hexS; simp [and_assoc]
theorem xS_iff {s : ByteArray} {b : Nat} : xS s b = true ↔ b + 1 < s.size ∧ tk s b = 48 ∧ (tk s (b + 1 : Nat) = 120 ∨ tk s (b + 1 : Nat) = 88) := by
  unfold xS; simp
theorem hex_run {s : ByteArray} {b : Nat} (h : hexS s b = true) : (runS s b).2.2 ≠ stS s b := by
  obtain ⟨_, h1, h2⟩ := hexS_iff'.1 h
  rw [(runS_hex h).1, (runS_hex h).2]
  intro h3
  rcases (dgo_none s 16 _ _ _ _).1 h3 with h4 | h4
  · omega
  · exact h4 h2
theorem ten_zero {s : ByteArray} {b : Nat} (h : (dgo s 10 (s.size - b) b 0 false).2.2 = b) : hexS s b = false := by
  rw [Bool.eq_false_iff]
  intro h2
  obtain ⟨h3, h4, _⟩ := hexS_iff'.1 h2
  have h5 := (xS_iff.1 h3).2.1
  rcases (dgo_none s 10 _ _ _ _).1 h with h6 | h6
  · omega
  · apply h6; rw [h5]; decide

theorem nextRef_ok (s : ByteArray) (a : Int) (w : World) (hs : s.size ≤ maxLen) : Gives Try.prog 13 [.string s, .int .i64 a] w (tv (nextS s a)) := by
  refine Gives.of_run Try.func13 rfl (by show 2 ≤ 103; decide) ?_
  have hsz : (s.size : Int) ≤ 9223372036854775807 := by simp only [maxLen] at hs; omega
  unfold nextS
  by_cases h1 : a < 0
  · refine RunF_sound tab_ok noX_local 100 [true, true] _ _ rfl ?_ ?_
    · simp [h1]
    · refine Run.retL tab_ok Try.func13 rfl trivial (fun M => ?_)
      rw [if_pos (.inl h1)]; rfl
  by_cases h2 : a > s.size
  · refine RunF_sound tab_ok noX_local 100 [false, true] _ _ rfl ?_ ?_
    · simp; omega
    · refine Run.retL tab_ok Try.func13 rfl trivial (fun M => ?_)
      rw [if_pos (.inr h2)]; rfl
  rw [if_neg (by omega)]
  obtain ⟨A, hA⟩ : ∃ A : Nat, (A : Int) = a := ⟨a.toNat, by omega⟩
  subst hA
  rw [Int.toNat_natCast]
  have hA : A ≤ s.size := by omega
  have tA := tk_nonneg s A
  have htA : (((s[A]?.getD 0).toNat : Nat) : Int) = tk s A := rfl
  refine' Run.join (todo' := _) [(0, .v (.string s)), (1, .v (.int .i64 (begS s A : Nat))), (7, .v (.int .i64 (A : Nat))), (8, .v (.bool (negS s A))), (38, .v (.string s)), (39, .v (.int .i64 (begS s A : Nat)))] [] 0 ?_ ?_
  rotate_left
  · intro H
    by_cases c1 : A < s.size
    · have hq : ((((s[((A : Nat) : Int).toNat]?.getD 0).toNat : Nat) : Int) == 45) = negS s A := by unfold negS; rw [decide_eq_true c1]; rfl
      by_cases c2 : tk s A = 45
      · have hn : negS s A = true := by unfold negS; simp [c1, c2]
        have hb : begS s A = A + 1 := by unfold begS; rw [if_pos hn]
        have hw := wrap_succ (show A < 9223372036854775807 by omega)
        refine RunF_sound tab_ok noX_local 200 [false, false, true, true] _ _ rfl ?_ ?_
        · simp [htA, c2]; omega
        refine H _ ?_ trivial
        exact ⟨⟨_, rfl, fun M => rfl⟩, ⟨_, rfl, fun M => by simp only [conc, hb, hw]⟩, ⟨_, rfl, fun M => rfl⟩, ⟨_, rfl, fun M => congrArg Value.bool hq⟩, ⟨_, rfl, fun M => rfl⟩, ⟨_, rfl, fun M => by simp only [conc, hb, hw]⟩, trivial⟩
      · have hn : negS s A = false := by unfold negS; simp [c2]
        have hb : begS s A = A := by unfold begS; rw [hn]; rfl
        refine RunF_sound tab_ok noX_local 200 [false, false, true, false] _ _ rfl ?_ ?_
        · simp [htA, c2]; omega
        refine H _ ?_ trivial
        exact ⟨⟨_, rfl, fun M => rfl⟩, ⟨_, rfl, fun M => by rw [hb] <;> rfl⟩, ⟨_, rfl, fun M => rfl⟩, ⟨_, rfl, fun M => congrArg Value.bool hq⟩, ⟨_, rfl, fun M => rfl⟩, ⟨_, rfl, fun M => by rw [hb] <;> rfl⟩, trivial⟩
    · have hn : negS s A = false := by unfold negS; simp [c1]
      have hb : begS s A = A := by unfold begS; rw [hn]; rfl
      refine RunF_sound tab_ok noX_local 200 [false, false, false] _ _ rfl ?_ ?_
      · simp; omega
      refine H _ ?_ trivial
      exact ⟨⟨_, rfl, fun M => rfl⟩, ⟨_, rfl, fun M => by rw [hb] <;> rfl⟩, ⟨_, rfl, fun M => rfl⟩, ⟨_, rfl, fun M => by rw [hn]; rfl⟩, ⟨_, rfl, fun M => rfl⟩, ⟨_, rfl, fun M => by rw [hb] <;> rfl⟩, trivial⟩
  have hbA : A ≤ begS s A ∧ begS s A ≤ s.size := by
    unfold begS
    split
    · rename_i h; unfold negS at h; simp at h; omega
    · omega
  unfold nextAt
  generalize hbb : begS s A = b at *
  generalize negS s A = ng
  refine Run.callFn noX_local rfl rfl rfl rfl rfl rfl rfl digitsR_enters rfl (fun w' _ => digitsR_ok s b 10 (.inl rfl) hbA.2 hs w') ?_
  have hz := @ten_zero s b
  have hten := @runS_ten s b
  have hbd := dgo_bounds s 10 (s.size - b) b 0 false (by omega) (by omega)
  have hno := dgo_none s 10 (s.size - b) b 0 false
  generalize hD : dgo s 10 (s.size - b) b 0 false = D1 at *
  by_cases k0 : D1.2.2 = b
  · have hh := hz k0
    obtain ⟨e1, e2⟩ := hten hh
    refine RunF_sound tab_ok noX_local 200 [true] _ _ rfl ?_ ?_
    · simp [k0]
    refine Run.retL tab_ok Try.func13 rfl trivial (fun M => ?_)
    rw [e1, e2, if_pos k0]; rfl
  have hlt : b < s.size := by
    rcases Nat.lt_or_ge b s.size with h | h
    · exact h
    · exact absurd (hno.2 (.inl (by omega))) k0
  have hne : (runS s b).2.2 ≠ stS s b := by
    cases hh : hexS s b with
    | true => exact hex_run hh
    | false => rw [(hten hh).1, (hten hh).2]; exact k0
  have hRb : b ≤ (runS s b).2.2 ∧ (runS s b).2.2 ≤ s.size := by
    cases hh : hexS s b with
    | false => rw [(hten hh).1]; omega
    | true =>
      have h3 := (hexS_iff'.1 hh).2.1
      have h4 := dgo_bounds s 16 (s.size - (b + 2)) (b + 2) 0 false (by omega) (by omega)
      rw [(runS_hex hh).1]; omega
  have k0' : ¬ ((D1.2.2 : Int) - (b : Int) = 0) := by omega
  rw [if_neg hne]
  refine' Run.join (todo' := _) [(1, .v (.int .i64 (b : Nat))), (7, .v (.int .i64 (A : Nat))), (8, .v (.bool ng)), (9, .v (.int .u64 (runS s b).1)), (10, .v (.bool (runS s b).2.1)), (11, .v (.int .i64 (((runS s b).2.2 : Nat) - (b : Int)))), (86, .v (.bool (runS s b).2.1))] [] 0 ?_ ?_
  rotate_left
  · intro H
    have tb := tk_nonneg s b
    have htb : (((s[b]?.getD 0).toNat : Nat) : Int) = tk s b := rfl
    have hw1 := wrap_succ (show b < 9223372036854775807 by omega)
    have hq1 : tk s ((b : Int) + 1) = tk s (b + 1 : Nat) := rfl
    have htb1 : (((s[b + 1]?.getD 0).toNat : Nat) : Int) = tk s (b + 1 : Nat) := rfl
    have hleaf : ∀ σ : St, xS s b = false → inTC σ.t [(1, .v (.int .i64 (b : Nat))), (7, .v (.int .i64 (A : Nat))), (8, .v (.bool ng)), (9, .v (.int .u64 D1.1)), (10, .v (.bool D1.2.1)), (11, .v (.int .i64 ((D1.2.2 : Nat) - (b : Int)))), (86, .v (.bool D1.2.1))] → inT σ.h [] → Run _ _ σ := fun σ hx ht hh => by
      have hh2 : hexS s b = false := by unfold hexS; rw [hx]; rfl
      refine H σ ?_ hh
      rw [(hten hh2).1]
      exact ht
    by_cases p1 : tk s b = 48
    · by_cases p2 : b + 1 < s.size
      · by_cases p34 : tk s (b + 1 : Nat) = 120 ∨ tk s (b + 1 : Nat) = 88
        · have hx : xS s b = true := xS_iff.2 ⟨p2, p1, p34⟩
          have hj : ∀ w', Gives Try.prog 20 [.string s, .int .i64 ((b + 2 : Nat) : Int), .int .i64 16] w' _ := fun w' => digitsR_ok s (b + 2) 16 (.inr rfl) (by omega) hs w'
          have hw2 : IntKind.i64.wrap ((b : Int) + 2) = ((b + 2 : Nat) : Int) := by rw [wrap_i64] <;> omega
          have hno2 := dgo_none s 16 (s.size - (b + 2)) (b + 2) 0 false
          have hhx := @hexS_iff' s b
          have hrx := @runS_hex s b
          have hb2 := dgo_bounds s 16 (s.size - (b + 2)) (b + 2) 0 false (by omega) (by omega)
          generalize hD2 : dgo s 16 (s.size - (b + 2)) (b + 2) 0 false = D2 at *
          refine' Run.join (todo' := _) [(1, .v (.int .i64 (b : Nat))), (7, .v (.int .i64 (A : Nat))), (8, .v (.bool ng)), (9, .v (.int .u64 D1.1)), (10, .v (.bool D1.2.1)), (11, .v (.int .i64 ((D1.2.2 : Nat) - (b : Int)))), (72, .v (.string s)), (74, .v (.int .i64 ((b + 2 : Nat) : Int)))] [] 0 ?_ ?_
          rotate_left
          · intro J
            by_cases p3 : tk s (b + 1 : Nat) = 120
            · have q3 : tk s ((b : Int) + 1) = 120 := p3
              refine RunF_sound tab_ok noX_local 200 [false, true, true, true, true] _ _ rfl ?_ ?_
              · simp [htb, p1, hw1, htb1, k0', q3]; omega
              refine J _ ?_ trivial
              exact ⟨⟨_, rfl, fun M => rfl⟩, ⟨_, rfl, fun M => rfl⟩, ⟨_, rfl, fun M => rfl⟩, ⟨_, rfl, fun M => rfl⟩, ⟨_, rfl, fun M => rfl⟩, ⟨_, rfl, fun M => rfl⟩, ⟨_, rfl, fun M => rfl⟩, ⟨_, rfl, fun M => by simp only [conc, hw2]⟩, trivial⟩
            · have p4 := p34.resolve_left p3
              have q3 : ¬ tk s ((b : Int) + 1) = 120 := p3
              have q4 : tk s ((b : Int) + 1) = 88 := p4
              refine RunF_sound tab_ok noX_local 200 [false, true, true, false, true] _ _ rfl ?_ ?_
              · simp [htb, p1, hw1, htb1, k0', q4]; omega
              refine J _ ?_ trivial
              exact ⟨⟨_, rfl, fun M => rfl⟩, ⟨_, rfl, fun M => rfl⟩, ⟨_, rfl, fun M => rfl⟩, ⟨_, rfl, fun M => rfl⟩, ⟨_, rfl, fun M => rfl⟩, ⟨_, rfl, fun M => rfl⟩, ⟨_, rfl, fun M => rfl⟩, ⟨_, rfl, fun M => by simp only [conc, hw2]⟩, trivial⟩
          refine Run.callFn noX_local rfl rfl rfl rfl rfl rfl rfl digitsR_enters rfl (fun w' _ => hj w') ?_
          by_cases cj : D2.2.2 = b + 2
          · have hh2 : hexS s b = false := Bool.eq_false_iff.2 fun h => by
              obtain ⟨_, g1, g2⟩ := hhx.1 h
              rcases hno2.1 cj with g3 | g3
              · omega
              · exact g3 g2
            refine RunF_sound tab_ok noX_local 200 [false] _ _ rfl ?_ ?_
            · simp [cj]
            refine H _ ?_ trivial
            rw [(hten hh2).1]
            exact ⟨⟨_, rfl, fun M => rfl⟩, ⟨_, rfl, fun M => rfl⟩, ⟨_, rfl, fun M => rfl⟩, ⟨_, rfl, fun M => rfl⟩, ⟨_, rfl, fun M => rfl⟩, ⟨_, rfl, fun M => rfl⟩, ⟨_, rfl, fun M => rfl⟩, trivial⟩
          · have hh2 : hexS s b = true := hhx.2 ⟨hx, by
              rcases Nat.lt_or_ge (b + 2) s.size with g | g
              · exact g
              · exact absurd (hno2.2 (.inl (by omega))) cj, by
              by_cases g : dv (tk s (b + 2 : Nat)) < 16
              · exact g
              · exact absurd (hno2.2 (.inr g)) cj⟩
            have hw3 : IntKind.i64.wrap ((D2.2.2 : Int) - ((b + 2 : Nat) : Int) + 2) = (D2.2.2 : Int) - (b : Int) := by rw [wrap_i64] <;> omega
            refine RunF_sound tab_ok noX_local 200 [true] _ _ rfl ?_ ?_
            · simp; omega
            refine H _ ?_ trivial
            rw [(hrx hh2).1]
            exact ⟨⟨_, rfl, fun M => rfl⟩, ⟨_, rfl, fun M => rfl⟩, ⟨_, rfl, fun M => rfl⟩, ⟨_, rfl, fun M => rfl⟩, ⟨_, rfl, fun M => rfl⟩, ⟨_, rfl, fun M => congrArg (Value.int .i64) hw3⟩, ⟨_, rfl, fun M => rfl⟩, trivial⟩
        · have hx : xS s b = false := Bool.eq_false_iff.2 fun h => p34 (xS_iff.1 h).2.2
          refine RunF_sound tab_ok noX_local 200 [false, true, true, false, false] _ _ rfl ?_ ?_
          · have q3 : ¬ tk s ((b : Int) + 1) = 120 := fun h => p34 (.inl h)
            have q4 : ¬ tk s ((b : Int) + 1) = 88 := fun h => p34 (.inr h)
            simp [htb, p1, hw1, htb1, k0', q3, q4]; omega
          refine hleaf _ hx ?_ trivial
          exact ⟨⟨_, rfl, fun M => rfl⟩, ⟨_, rfl, fun M => rfl⟩, ⟨_, rfl, fun M => rfl⟩, ⟨_, rfl, fun M => rfl⟩, ⟨_, rfl, fun M => rfl⟩, ⟨_, rfl, fun M => rfl⟩, ⟨_, rfl, fun M => rfl⟩, trivial⟩
      · have hx : xS s b = false := Bool.eq_false_iff.2 fun h => p2 (xS_iff.1 h).1
        refine RunF_sound tab_ok noX_local 200 [false, true, false] _ _ rfl ?_ ?_
        · simp [htb, p1, hw1, k0']; omega
        refine hleaf _ hx ?_ trivial
        exact ⟨⟨_, rfl, fun M => rfl⟩, ⟨_, rfl, fun M => rfl⟩, ⟨_, rfl, fun M => rfl⟩, ⟨_, rfl, fun M => rfl⟩, ⟨_, rfl, fun M => rfl⟩, ⟨_, rfl, fun M => rfl⟩, ⟨_, rfl, fun M => rfl⟩, trivial⟩
    · have hx : xS s b = false := Bool.eq_false_iff.2 fun h => p1 (xS_iff.1 h).2.1
      refine RunF_sound tab_ok noX_local 200 [false, false] _ _ rfl ?_ ?_
      · simp [htb, p1, k0']; omega
      refine hleaf _ hx ?_ trivial
      exact ⟨⟨_, rfl, fun M => rfl⟩, ⟨_, rfl, fun M => rfl⟩, ⟨_, rfl, fun M => rfl⟩, ⟨_, rfl, fun M => rfl⟩, ⟨_, rfl, fun M => rfl⟩, ⟨_, rfl, fun M => rfl⟩, ⟨_, rfl, fun M => rfl⟩, trivial⟩
  clear hten hz hno hbd
  generalize runS s b = R at *
  have hR2 : IntKind.i64.wrap ((b : Int) + ((R.2.2 : Int) - (b : Int))) = (R.2.2 : Int) := by rw [wrap_i64] <;> omega
  have hR3 : IntKind.i64.wrap ((R.2.2 : Int) - (A : Int)) = ((R.2.2 - A : Nat) : Int) := by rw [wrap_i64] <;> omega
  obtain ⟨v, g, e⟩ := R
  simp only [] at hR2 hR3 ⊢
  cases ng with
  | true =>
    cases g with
    | true =>
      refine RunF_sound tab_ok noX_local 200 [true, true] _ _ rfl ?_ ?_
      · simp
      exact Run.retL tab_ok Try.func13 rfl trivial (fun M => rfl)
    | false =>
      by_cases x2 : v > 9223372036854775808
      · refine RunF_sound tab_ok noX_local 200 [false, true, true] _ _ rfl ?_ ?_
        · simp [x2]
        refine Run.retL tab_ok Try.func13 rfl trivial (fun M => ?_)
        rw [if_pos (by simp [x2])]; rfl
      · refine RunF_sound tab_ok noX_local 200 [false, true, false, true] _ _ rfl ?_ ?_
        · simp [x2]
        refine Run.retL tab_ok Try.func13 rfl trivial (fun M => ?_)
        rw [if_neg (by simp [x2])]
        simp only [resAV, conc, concL, hR2, hR3]
        rfl
  | false =>
    cases g with
    | true =>
      refine RunF_sound tab_ok noX_local 200 [true, true] _ _ rfl ?_ ?_
      · simp
      exact Run.retL tab_ok Try.func13 rfl trivial (fun M => rfl)
    | false =>
      refine RunF_sound tab_ok noX_local 200 [false, false, false] _ _ rfl ?_ ?_
      · simp
      refine Run.retL tab_ok Try.func13 rfl trivial (fun M => ?_)
      simp only [resAV, conc, concL, hR2, hR3]
      rfl
theorem nextRef_enters : Enters Try.prog 13 := enters_mk Try.func13 (by decide) rfl
end Go.Proofs.Ytpfanhbkjajocaa

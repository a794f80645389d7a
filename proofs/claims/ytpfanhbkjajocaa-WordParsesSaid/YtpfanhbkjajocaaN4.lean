/-
  word.length and word.Parse. Own work.
-/
import Derived.Test.YtpfanhbkjajocaaN3
namespace Go.Proofs.Ytpfanhbkjajocaa
open Go.AM
set_option maxRecDepth 100000

theorem length_ok (s : ByteArray) (w : World) (hs : s.size ≤ maxLen) : Gives Try.prog 14 [.string s] w (.int .i64 (lenS s)) := by
  refine Gives.of_run Try.func14 rfl (by show 1 ≤ 57; decide) ?_
  have hsz : (s.size : Int) ≤ 9223372036854775807 := by simp only [maxLen] at hs; omega
  rw [lenS_eq]
  refine RunF_sound tab_ok noX_local 200 [] _ _ rfl ?_ ?_
  · simp
  refine Run.callFn noX_local rfl rfl rfl rfl rfl rfl rfl cutPrefix_enters rfl (fun w' _ => cutPrefix_ok s hs w') ?_
  have hrs : (restS s).size ≤ s.size := by rw [(rest_from _).size]; omega
  have hrs2 : strt s = true → (restS s).size + 1 ≤ s.size := fun h => by
    have h4 := strt_size h
    rw [(rest_from _).size, h]; simp; omega
  generalize restS s = r at hrs hrs2
  generalize strt s = ng at hrs2
  have hB := base_or r 0
  have hSt := st_le r
  have hrsz : (r.size : Int) ≤ 9223372036854775807 := by omega
  refine' Run.join (todo' := _) [(3, .v (.string r)), (4, .v (.bool ng)), (5, .v (.int .u64 (baseS r 0))), (6, .v (.int .i64 (stS r 0 : Nat)))] [] 0 ?_ ?_
  rotate_left
  · intro H
    have b0 := tk_nonneg r 0
    have b1 := tk_nonneg r 1
    have b2 := tk_nonneg r 2
    have l1 := tk_lt r 1
    have l2 := tk_lt r 2
    have t0 : (((r[0]?.getD 0).toNat : Nat) : Int) = tk r 0 := rfl
    have t1 : (((r[1]?.getD 0).toNat : Nat) : Int) = tk r 1 := rfl
    have t2 : (((r[2]?.getD 0).toNat : Nat) : Int) = tk r 2 := rfl
    have ho : bor .u8 (tk r 1) 32 = 120 ↔ (tk r 1 = 120 ∨ tk r 1 = 88) := by
      have := or32 (tk r 1) b1 l1
      rw [Bool.eq_iff_iff] at this
      simpa using this
    by_cases c1 : r.size > 2
    · by_cases c2 : tk r 0 = 48
      · by_cases c3 : tk r 1 = 120 ∨ tk r 1 = 88
        · refine RunF_sound tab_ok noX_local 200 [true, true, true] _ _ rfl ?_ ?_
          · simp [t0, t1, ho, c2, c3]; omega
          refine Run.callFn noX_local rfl rfl rfl rfl rfl rfl rfl digit_enters rfl (fun w' _ => digit_ok (tk r 2) 16 b2 l2 w') ?_
          by_cases c4 : dv (tk r 2) < 16
          · have hx : hexS r 0 = true := hexS_iff.2 ⟨c1, c2, c3, c4⟩
            have hb : baseS r 0 = 16 := by unfold baseS; rw [hx]; rfl
            have hst : stS r 0 = 2 := by unfold stS; rw [hx]; rfl
            refine RunF_sound tab_ok noX_local 200 [true] _ _ rfl ?_ ?_
            · simp [c4]
            refine H _ ?_ trivial
            exact ⟨⟨_, rfl, fun M => rfl⟩, ⟨_, rfl, fun M => rfl⟩, ⟨_, rfl, fun M => by simp only [conc, hb]⟩, ⟨_, rfl, fun M => by simp only [conc, hst]; rfl⟩, trivial⟩
          · have hx : hexS r 0 = false := Bool.eq_false_iff.2 fun h => c4 (hexS_iff.1 h).2.2.2
            have hb : baseS r 0 = 10 := by unfold baseS; rw [hx]; rfl
            have hst : stS r 0 = 0 := by unfold stS; rw [hx]; rfl
            refine RunF_sound tab_ok noX_local 200 [false] _ _ rfl ?_ ?_
            · simp; omega
            refine H _ ?_ trivial
            exact ⟨⟨_, rfl, fun M => rfl⟩, ⟨_, rfl, fun M => rfl⟩, ⟨_, rfl, fun M => by simp only [conc, hb]⟩, ⟨_, rfl, fun M => by simp only [conc, hst]; rfl⟩, trivial⟩
        · have hx : hexS r 0 = false := Bool.eq_false_iff.2 fun h => c3 (hexS_iff.1 h).2.2.1
          have hb : baseS r 0 = 10 := by unfold baseS; rw [hx]; rfl
          have hst : stS r 0 = 0 := by unfold stS; rw [hx]; rfl
          refine RunF_sound tab_ok noX_local 200 [true, true, false] _ _ rfl ?_ ?_
          · simp [t0, t1, ho, c2]
            (repeat' refine And.intro ?_ ?_) <;> first | omega | simpa using c3
          refine H _ ?_ trivial
          exact ⟨⟨_, rfl, fun M => rfl⟩, ⟨_, rfl, fun M => rfl⟩, ⟨_, rfl, fun M => by simp only [conc, hb]⟩, ⟨_, rfl, fun M => by simp only [conc, hst]; rfl⟩, trivial⟩
      · have hx : hexS r 0 = false := Bool.eq_false_iff.2 fun h => c2 (hexS_iff.1 h).2.1
        have hb : baseS r 0 = 10 := by unfold baseS; rw [hx]; rfl
        have hst : stS r 0 = 0 := by unfold stS; rw [hx]; rfl
        refine RunF_sound tab_ok noX_local 200 [true, false] _ _ rfl ?_ ?_
        · simp [t0, c2]; omega
        refine H _ ?_ trivial
        exact ⟨⟨_, rfl, fun M => rfl⟩, ⟨_, rfl, fun M => rfl⟩, ⟨_, rfl, fun M => by simp only [conc, hb]⟩, ⟨_, rfl, fun M => by simp only [conc, hst]; rfl⟩, trivial⟩
    · have hx : hexS r 0 = false := Bool.eq_false_iff.2 fun h => c1 (hexS_iff.1 h).1
      have hb : baseS r 0 = 10 := by unfold baseS; rw [hx]; rfl
      have hst : stS r 0 = 0 := by unfold stS; rw [hx]; rfl
      refine RunF_sound tab_ok noX_local 200 [false] _ _ rfl ?_ ?_
      · simp; omega
      refine H _ ?_ trivial
      exact ⟨⟨_, rfl, fun M => rfl⟩, ⟨_, rfl, fun M => rfl⟩, ⟨_, rfl, fun M => by simp only [conc, hb]⟩, ⟨_, rfl, fun M => by simp only [conc, hst]; rfl⟩, trivial⟩
  have hF : runS r 0 = dgo r (baseS r 0) (r.size - stS r 0) (stS r 0) 0 false := rfl
  generalize runS r 0 = F at hF
  generalize baseS r 0 = B at *
  generalize stS r 0 = S0 at *
  have hFb := dgo_bounds r B (r.size - S0) S0 0 false (by omega) (by omega)
  rw [← hF] at hFb
  refine' Run.join (todo' := _) [(6, .v (.int .i64 (F.2.2 : Nat))), (53, .v (.bool ng))] [] 0 ?_ ?_
  rotate_left
  · intro H
    suffices K : ∀ (d i : Nat) (v : Int) (g : Bool), i + d = r.size → F = dgo r B d i v g → ∀ σ, inT σ.t [(3, .v (.string r)), (4, .v (.bool ng)), (5, .v (.int .u64 B)), (6, .v (.int .i64 (i : Nat)))] → inT σ.h [] → Run _ _ σ by
      exact K (r.size - S0) S0 0 false (by omega) hF _ ⟨rfl, rfl, rfl, rfl, trivial⟩ trivial
    intro d
    induction d with
    | zero =>
      intro i v g hi hv σ ht hh
      refine Run.to ?_ ht hh (n' := 0)
      rw [dgo] at hv
      refine RunF_sound tab_ok noX_local 200 [false] _ _ rfl ?_ ?_
      · simp; omega
      refine H _ ?_ trivial
      exact ⟨⟨_, rfl, fun M => by rw [hv]⟩, ⟨_, rfl, fun M => rfl⟩, trivial⟩
    | succ d ih =>
      intro i v g hi hv σ ht hh
      refine Run.to ?_ ht hh (n' := 0)
      rw [dgo] at hv
      have hil : i < r.size := by omega
      have c0 := tk_nonneg r i
      have c1 := tk_lt r i
      refine RunF_sound tab_ok noX_local 200 [true] _ _ rfl ?_ ?_
      · simp; omega
      refine Run.callFn noX_local rfl rfl rfl rfl rfl rfl rfl digit_enters rfl (fun w' _ => digit_ok (tk r i) B c0 c1 w') ?_
      by_cases cd : dv (tk r i) < B
      · rw [if_pos cd] at hv
        refine RunF_sound tab_ok noX_local 200 [false] _ _ rfl ?_ ?_
        · simp [cd]
        exact ih (i + 1) _ _ (by omega) hv _ ⟨rfl, rfl, rfl, i64_eq (wrap_succ (by omega)), trivial⟩ trivial
      · rw [if_neg cd] at hv
        refine RunF_sound tab_ok noX_local 200 [true] _ _ rfl ?_ ?_
        · simp [cd]
        refine H _ ?_ trivial
        exact ⟨⟨_, rfl, fun M => by rw [hv]⟩, ⟨_, rfl, fun M => rfl⟩, trivial⟩
  cases ng with
  | true =>
    have hrs3 := hrs2 rfl
    refine RunF_sound tab_ok noX_local 200 [true] _ _ rfl ?_ ?_
    · simp
    refine Run.retP tab_ok Try.func14 rfl trivial (fun M => ?_)
    have := wrap_succ (show F.2.2 < 9223372036854775807 by omega)
    simp only [resAV, conc, this]
    rfl
  | false =>
    refine RunF_sound tab_ok noX_local 200 [false] _ _ rfl ?_ ?_
    · simp
    exact Run.retP tab_ok Try.func14 rfl trivial (fun M => rfl)
theorem length_enters : Enters Try.prog 14 := enters_mk Try.func14 (by decide) rfl

theorem next_err (s : ByteArray) : (nextS s 0).2.2 = 40 ∨ (nextS s 0).2.2 = 41 ∨ ((nextS s 0).2.2 = 0 ∧ (nextS s 0).2.1 = lenS s) := by
  unfold nextS
  rw [if_neg (by omega)]
  unfold nextAt
  split
  · exact .inl rfl
  · split
    · exact .inr (.inl rfl)
    · exact .inr (.inr ⟨rfl, rfl⟩)

theorem parse_ok (s : ByteArray) (w : World) (hs : s.size ≤ maxLen) : Gives Try.prog 10 [.string s] w (.tuple #[.int .i64 (parseS s).1, .int .i64 (parseS s).2]) := by
  refine Gives.of_run Try.func10 rfl (by show 1 ≤ 33; decide) ?_
  have he := next_err s
  unfold parseS
  refine RunF_sound tab_ok noX_local 200 [] _ _ rfl ?_ ?_
  · simp
  refine Run.callFn noX_local rfl rfl rfl rfl rfl rfl rfl next_enters rfl (fun w' _ => next_ok s 0 w' hs) ?_
  have hlen : ∀ w', Gives Try.prog 14 [.string s] w' (.int .i64 (lenS s)) := fun w' => length_ok s w' hs
  generalize nextS s 0 = N at he
  generalize lenS s = l at he hlen
  obtain ⟨v, n, e⟩ := N
  simp only [] at he ⊢
  by_cases c1 : e = 40
  · refine RunF_sound tab_ok noX_local 200 [true] _ _ rfl ?_ ?_
    · simp [c1, tv]
    refine Run.retL tab_ok Try.func10 rfl trivial (fun M => ?_)
    rw [if_pos c1, c1]; rfl
  rw [if_neg c1]
  refine RunF_sound tab_ok noX_local 200 [false] _ _ rfl ?_ ?_
  · simp [c1, tv]
  refine Run.callFn noX_local rfl rfl rfl rfl rfl rfl rfl length_enters rfl (fun w' _ => hlen w') ?_
  by_cases c2 : l = s.size
  · rw [if_neg (by simpa using c2)]
    by_cases c3 : e = 0
    · rw [if_neg (by simpa using c3)]
      have hn : n = s.size := by
        rcases he with h | h | h
        · omega
        · omega
        · rw [h.2, c2]
      refine RunF_sound tab_ok noX_local 200 [false, false, false] _ _ rfl ?_ ?_
      · simp [c2, c3, hn]
      exact Run.retL tab_ok Try.func10 rfl trivial (fun M => rfl)
    · rw [if_pos (by simpa using c3)]
      refine RunF_sound tab_ok noX_local 200 [false, true] _ _ rfl ?_ ?_
      · simp [c2, c3]
      exact Run.retL tab_ok Try.func10 rfl trivial (fun M => rfl)
  · rw [if_pos (by simpa using c2)]
    refine RunF_sound tab_ok noX_local 200 [true] _ _ rfl ?_ ?_
    · simp [c2]
    exact Run.retL tab_ok Try.func10 rfl trivial (fun M => rfl)
theorem parse_enters : Enters Try.prog 10 := enters_mk Try.func10 (by decide) rfl
end Go.Proofs.Ytpfanhbkjajocaa

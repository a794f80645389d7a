/-
  The walk of word.Next. Own work.
-/
import Derived.Test.YtpfanhbkjajocaaN2
namespace Go.Proofs.Ytpfanhbkjajocaa
open Go.AM
set_option maxRecDepth 100000

theorem hexS_iff {r : ByteArray} : hexS r 0 = true ↔ 2 < r.size ∧ tk r 0 = 48 ∧ (tk r 1 = 120 ∨ tk r 1 = 88) ∧ dv (tk r 2) < 16 := by
  unfold hexS xS
  simp
  constructor
  · rintro ⟨⟨_, a, b⟩, c, d⟩; exact ⟨c, a, b, d⟩
  · rintro ⟨c, a, b, d⟩; exact ⟨⟨by omega, a, b⟩, c, d⟩

theorem add64_ok (x d : Int) (h0 : 0 ≤ x) (hd : 0 ≤ d) (w : World) :
    (callFunc 19 [Value.int .u64 x, .int .u64 d, .int .u64 0].toArray).run Try.prog w = .ok (.value (.tuple #[.int .u64 ((x + d + 0) % 18446744073709551616), .int .u64 ((x + d + 0) / 18446744073709551616)])) w := by
  rw [run_callFunc_extern Try.func19 (by kernel_rfl) (by kernel_rfl) (by kernel_rfl) (e := add64Entry) (by kernel_rfl)]
  show ((add64Entry #[.int .u64 x, .int .u64 d, .int .u64 0]).run Try.prog w).andThen _ = _
  rw [run_add64 x d 0 h0 hd (by omega) (by omega)]
  rfl

theorem next_ok (s : ByteArray) (a : Int) (w : World) (hs : s.size ≤ maxLen) : Gives Try.prog 12 [.string s, .int .i64 a] w (tv (nextS s a)) := by
  refine Gives.of_run Try.func12 rfl (by show 2 ≤ 116; decide) ?_
  have hsz : (s.size : Int) ≤ 9223372036854775807 := by simp only [maxLen] at hs; omega
  unfold nextS
  by_cases h1 : a < 0
  · refine RunF_sound tab_ok noX_local 100 [true, true] _ _ rfl ?_ ?_
    · simp [h1]
    · refine Run.retL tab_ok Try.func12 rfl trivial (fun M => ?_)
      rw [if_pos (.inl h1)]; rfl
  by_cases h2 : a > s.size
  · refine RunF_sound tab_ok noX_local 100 [false, true] _ _ rfl ?_ ?_
    · simp; omega
    · refine Run.retL tab_ok Try.func12 rfl trivial (fun M => ?_)
      rw [if_pos (.inr h2)]; rfl
  rw [if_neg (by omega)]
  have hA : a.toNat ≤ s.size := by omega
  rw [nextAt_eq s a.toNat hA]
  refine RunF_sound tab_ok noX_local 200 [false, false] _ _ rfl ?_ ?_
  · simp; omega
  have hs1 : (s.extract a.toNat s.size).size ≤ maxLen := by simp only [ByteArray.size_extract]; omega
  refine Run.callFn noX_local rfl rfl rfl rfl rfl rfl rfl cutPrefix_enters rfl (fun w' _ => cutPrefix_ok _ hs1 w') ?_
  rw [strt_cut s a.toNat hA]
  have hrs : (restS (s.extract a.toNat s.size)).size ≤ s.size := by
    rw [(rest_from _).size]; simp only [ByteArray.size_extract]; omega
  have hrs2 : negS s a.toNat = true → (restS (s.extract a.toNat s.size)).size + 1 ≤ s.size := fun h => by
    have h3 : strt (s.extract a.toNat s.size) = true := (strt_cut s a.toNat hA).trans h
    have h4 := strt_size h3
    rw [(rest_from _).size, h3]; simp only [ByteArray.size_extract] at h4 ⊢; simp; omega
  generalize restS (s.extract a.toNat s.size) = r at hrs hrs2
  generalize negS s a.toNat = ng at hrs2
  clear hs1 h1 h2 hA
  have hB := base_or r 0
  have hSt := st_le r
  have hrsz : (r.size : Int) ≤ 9223372036854775807 := by omega
  refine' Run.join (todo' := _) [(7, .v (.string r)), (8, .v (.bool ng)), (9, .v (.int .u64 (baseS r 0))), (10, .v (.int .i64 (stS r 0 : Nat))), (13, .v (.int .u64 0)), (14, .v (.bool false)), (15, .v (.int .i64 (stS r 0 : Nat)))] [] 0 ?_ ?_
  rotate_left
  · intro H
    have b0 := tk_nonneg r 0
    have b1 := tk_nonneg r 1
    have b2 := tk_nonneg r 2
    have l1 := tk_lt r 1
    have l2 := tk_lt r 2
    have t0 : (((r[0]?.getD 0).toNat : Nat) : Int) = tk r 0 := rfl
    have t1 : (((r[1]?.getD 0).toNat : Nat) : Int) = tk r 1 := rfl
    have t2 : (((r[2]?.getD 0).toNat : Nat) : Int) = tk r 2 := rfl
    have ho : bor .u8 (tk r 1) 32 = 120 ↔ (tk r 1 = 120 ∨ tk r 1 = 88) := by
      have := or32 (tk r 1) b1 l1
      rw [Bool.eq_iff_iff] at this
      simpa using this
    by_cases c1 : r.size > 2
    · by_cases c2 : tk r 0 = 48
      · by_cases c3 : tk r 1 = 120 ∨ tk r 1 = 88
        · refine RunF_sound tab_ok noX_local 200 [true, true, true] _ _ rfl ?_ ?_
          · simp [t0, t1, ho, c2, c3]; omega
          refine Run.callFn noX_local rfl rfl rfl rfl rfl rfl rfl digit_enters rfl (fun w' _ => digit_ok (tk r 2) 16 b2 l2 w') ?_
          by_cases c4 : dv (tk r 2) < 16
          · have hx : hexS r 0 = true := hexS_iff.2 ⟨c1, c2, c3, c4⟩
            have hb : baseS r 0 = 16 := by unfold baseS; rw [hx]; rfl
            have hst : stS r 0 = 2 := by unfold stS; rw [hx]; rfl
            refine RunF_sound tab_ok noX_local 200 [true] _ _ rfl ?_ ?_
            · simp [c4]
            refine H _ ?_ trivial
            exact ⟨⟨_, rfl, fun M => rfl⟩, ⟨_, rfl, fun M => rfl⟩, ⟨_, rfl, fun M => by simp only [conc, hb]⟩, ⟨_, rfl, fun M => by simp only [conc, hst]; rfl⟩, ⟨_, rfl, fun M => rfl⟩, ⟨_, rfl, fun M => rfl⟩, ⟨_, rfl, fun M => by simp only [conc, hst]; rfl⟩, trivial⟩
          · have hx : hexS r 0 = false := Bool.eq_false_iff.2 fun h => c4 (hexS_iff.1 h).2.2.2
            have hb : baseS r 0 = 10 := by unfold baseS; rw [hx]; rfl
            have hst : stS r 0 = 0 := by unfold stS; rw [hx]; rfl
            refine RunF_sound tab_ok noX_local 200 [false] _ _ rfl ?_ ?_
            · simp; omega
            refine H _ ?_ trivial
            exact ⟨⟨_, rfl, fun M => rfl⟩, ⟨_, rfl, fun M => rfl⟩, ⟨_, rfl, fun M => by simp only [conc, hb]⟩, ⟨_, rfl, fun M => by simp only [conc, hst]; rfl⟩, ⟨_, rfl, fun M => rfl⟩, ⟨_, rfl, fun M => rfl⟩, ⟨_, rfl, fun M => by simp only [conc, hst]; rfl⟩, trivial⟩
        · have hx : hexS r 0 = false := Bool.eq_false_iff.2 fun h => c3 (hexS_iff.1 h).2.2.1
          have hb : baseS r 0 = 10 := by unfold baseS; rw [hx]; rfl
          have hst : stS r 0 = 0 := by unfold stS; rw [hx]; rfl
          refine RunF_sound tab_ok noX_local 200 [true, true, false] _ _ rfl ?_ ?_
          · simp [t0, t1, ho, c2]
            (repeat' refine And.intro ?_ ?_) <;> first | omega | simpa using c3
          refine H _ ?_ trivial
          exact ⟨⟨_, rfl, fun M => rfl⟩, ⟨_, rfl, fun M => rfl⟩, ⟨_, rfl, fun M => by simp only [conc, hb]⟩, ⟨_, rfl, fun M => by simp only [conc, hst]; rfl⟩, ⟨_, rfl, fun M => rfl⟩, ⟨_, rfl, fun M => rfl⟩, ⟨_, rfl, fun M => by simp only [conc, hst]; rfl⟩, trivial⟩
      · have hx : hexS r 0 = false := Bool.eq_false_iff.2 fun h => c2 (hexS_iff.1 h).2.1
        have hb : baseS r 0 = 10 := by unfold baseS; rw [hx]; rfl
        have hst : stS r 0 = 0 := by unfold stS; rw [hx]; rfl
        refine RunF_sound tab_ok noX_local 200 [true, false] _ _ rfl ?_ ?_
        · simp [t0, c2]; omega
        refine H _ ?_ trivial
        exact ⟨⟨_, rfl, fun M => rfl⟩, ⟨_, rfl, fun M => rfl⟩, ⟨_, rfl, fun M => by simp only [conc, hb]⟩, ⟨_, rfl, fun M => by simp only [conc, hst]; rfl⟩, ⟨_, rfl, fun M => rfl⟩, ⟨_, rfl, fun M => rfl⟩, ⟨_, rfl, fun M => by simp only [conc, hst]; rfl⟩, trivial⟩
    · have hx : hexS r 0 = false := Bool.eq_false_iff.2 fun h => c1 (hexS_iff.1 h).1
      have hb : baseS r 0 = 10 := by unfold baseS; rw [hx]; rfl
      have hst : stS r 0 = 0 := by unfold stS; rw [hx]; rfl
      refine RunF_sound tab_ok noX_local 200 [false] _ _ rfl ?_ ?_
      · simp; omega
      refine H _ ?_ trivial
      exact ⟨⟨_, rfl, fun M => rfl⟩, ⟨_, rfl, fun M => rfl⟩, ⟨_, rfl, fun M => by simp only [conc, hb]⟩, ⟨_, rfl, fun M => by simp only [conc, hst]; rfl⟩, ⟨_, rfl, fun M => rfl⟩, ⟨_, rfl, fun M => rfl⟩, ⟨_, rfl, fun M => by simp only [conc, hst]; rfl⟩, trivial⟩
  have hF : runS r 0 = dgo r (baseS r 0) (r.size - stS r 0) (stS r 0) 0 false := rfl
  unfold nextR
  generalize runS r 0 = F at hF
  generalize baseS r 0 = B at *
  generalize stS r 0 = S0 at *
  have hFb := dgo_bounds r B (r.size - S0) S0 0 false (by omega) (by omega)
  rw [← hF] at hFb
  refine' Run.join (todo' := _) [(8, .v (.bool ng)), (13, .v (.int .u64 F.1)), (14, .v (.bool F.2.1)), (15, .v (.int .i64 (F.2.2 : Nat))), (99, .v (.bool (((F.2.2 : Nat) : Int) == (S0 : Int))))] [] 0 ?_ ?_
  rotate_left
  · intro H
    suffices K : ∀ (d i : Nat) (v : Int) (g : Bool), i + d = r.size → F = dgo r B d i v g → 0 ≤ v → v < 18446744073709551616 → ∀ σ, inTC σ.t [(7, .v (.string r)), (8, .v (.bool ng)), (9, .v (.int .u64 B)), (10, .v (.int .i64 (S0 : Nat))), (13, .v (.int .u64 v)), (14, .v (.bool g)), (15, .v (.int .i64 (i : Nat)))] → inT σ.h [] → Run _ _ σ by
      exact K (r.size - S0) S0 0 false (by omega) hF (by omega) (by omega) _ ⟨⟨_, rfl, fun M => rfl⟩, ⟨_, rfl, fun M => rfl⟩, ⟨_, rfl, fun M => rfl⟩, ⟨_, rfl, fun M => rfl⟩, ⟨_, rfl, fun M => rfl⟩, ⟨_, rfl, fun M => rfl⟩, ⟨_, rfl, fun M => rfl⟩, trivial⟩ trivial
    intro d
    induction d with
    | zero =>
      intro i v g hi hv h0 h1 σ ht hh
      refine Run.toC ?_ ht hh (n' := 0)
      rw [dgo] at hv
      refine RunF_sound tab_ok noX_local 200 [false] _ _ rfl ?_ ?_
      · simp; omega
      refine H _ ?_ trivial
      exact ⟨⟨_, rfl, fun M => rfl⟩, ⟨_, rfl, fun M => by rw [hv]⟩, ⟨_, rfl, fun M => by rw [hv]⟩, ⟨_, rfl, fun M => by rw [hv]⟩, ⟨_, rfl, fun M => by rw [hv] <;> rfl⟩, trivial⟩
    | succ d ih =>
      intro i v g hi hv h0 h1 σ ht hh
      refine Run.toC ?_ ht hh (n' := 0)
      rw [dgo] at hv
      have hil : i < r.size := by omega
      have c0 := tk_nonneg r i
      have c1 := tk_lt r i
      have hd := dv_bounds (tk r i)
      refine RunF_sound tab_ok noX_local 200 [true] _ _ rfl ?_ ?_
      · simp; omega
      refine Run.callFn noX_local rfl rfl rfl rfl rfl rfl rfl digit_enters rfl (fun w' _ => digit_ok (tk r i) B c0 c1 w') ?_
      by_cases cd : dv (tk r i) < B
      · rw [if_pos cd] at hv
        refine RunF_sound tab_ok noX_local 200 [false] _ _ rfl ?_ ?_
        · simp [cd]
        refine Run.callFn noX_local rfl rfl rfl rfl rfl rfl rfl mul64_enters rfl (fun w' _ => mul64_ok v B h0 h1 hB w') ?_
        obtain ⟨ho, hst⟩ := ovf_eq hB h0 h1 hd.1 hd.2
        have hlo : 0 ≤ v * B % 18446744073709551616 := by omega
        generalize v * B % 18446744073709551616 = lo at *
        generalize v * B / 18446744073709551616 = hi' at *
        refine RunF_sound tab_ok noX_local 200 [] _ _ rfl ?_ ?_
        · simp
        refine Run.callX rfl rfl rfl rfl rfl rfl rfl rfl (fun w' => add64_ok lo (dv (tk r i)) hlo hd.1 w') ?_
        have hst0 : 0 ≤ stp B v (dv (tk r i)) := by unfold stp; omega
        have hst1 : stp B v (dv (tk r i)) < 18446744073709551616 := by unfold stp; omega
        cases g with
        | true =>
          rw [Bool.true_or] at hv
          refine RunF_sound tab_ok noX_local 200 [true, true] _ _ rfl ?_ ?_
          · simp
          refine ih (i + 1) _ _ (by omega) hv hst0 hst1 _ ?_ trivial
          exact ⟨⟨_, rfl, fun M => rfl⟩, ⟨_, rfl, fun M => rfl⟩, ⟨_, rfl, fun M => rfl⟩, ⟨_, rfl, fun M => rfl⟩, ⟨_, rfl, fun M => by simp only [conc, hst]; rfl⟩, ⟨_, rfl, fun M => rfl⟩, ⟨_, rfl, fun M => by simp only [conc, wrap_succ (show i < 9223372036854775807 by omega)]⟩, trivial⟩
        | false =>
          rw [Bool.false_or] at hv
          by_cases ch : hi' > 0
          · refine RunF_sound tab_ok noX_local 200 [false, true] _ _ rfl ?_ ?_
            · simp [ch]
            have hov : ovf B v (dv (tk r i)) = true := by rw [ho, decide_eq_true ch]; rfl
            refine ih (i + 1) _ _ (by omega) hv hst0 hst1 _ ?_ trivial
            exact ⟨⟨_, rfl, fun M => rfl⟩, ⟨_, rfl, fun M => rfl⟩, ⟨_, rfl, fun M => rfl⟩, ⟨_, rfl, fun M => rfl⟩, ⟨_, rfl, fun M => by simp only [conc, hst]; rfl⟩, ⟨_, rfl, fun M => by rw [hov] <;> rfl⟩, ⟨_, rfl, fun M => by simp only [conc, wrap_succ (show i < 9223372036854775807 by omega)]⟩, trivial⟩
          · refine RunF_sound tab_ok noX_local 200 [false, false] _ _ rfl ?_ ?_
            · simp [ch]
            have hov : ovf B v (dv (tk r i)) = decide ((lo + dv (tk r i) + 0) / 18446744073709551616 > 0) := by rw [ho, decide_eq_false ch]; rfl
            refine ih (i + 1) _ _ (by omega) hv hst0 hst1 _ ?_ trivial
            exact ⟨⟨_, rfl, fun M => rfl⟩, ⟨_, rfl, fun M => rfl⟩, ⟨_, rfl, fun M => rfl⟩, ⟨_, rfl, fun M => rfl⟩, ⟨_, rfl, fun M => by simp only [conc, hst]; rfl⟩, ⟨_, rfl, fun M => by rw [hov] <;> rfl⟩, ⟨_, rfl, fun M => by simp only [conc, wrap_succ (show i < 9223372036854775807 by omega)]⟩, trivial⟩
      · rw [if_neg cd] at hv
        refine RunF_sound tab_ok noX_local 200 [true] _ _ rfl ?_ ?_
        · simp [cd]
        refine H _ ?_ trivial
        exact ⟨⟨_, rfl, fun M => rfl⟩, ⟨_, rfl, fun M => by rw [hv]⟩, ⟨_, rfl, fun M => by rw [hv]⟩, ⟨_, rfl, fun M => by rw [hv]⟩, ⟨_, rfl, fun M => by rw [hv] <;> rfl⟩, trivial⟩
  clear hF
  obtain ⟨v, g, e⟩ := F
  simp only [] at hFb ⊢
  by_cases x1 : e = S0
  · refine RunF_sound tab_ok noX_local 200 [true] _ _ rfl ?_ ?_
    · simp [x1]
    refine Run.retL tab_ok Try.func12 rfl trivial (fun M => ?_)
    rw [if_pos x1]; rfl
  rw [if_neg x1]
  have x1' : ¬ ((e : Int) = S0) := by omega
  cases ng with
  | true =>
    have hrs3 := hrs2 rfl
    cases g with
    | true =>
      refine RunF_sound tab_ok noX_local 200 [false, true, true, true] _ _ rfl ?_ ?_
      · simp [x1']
      refine Run.retL tab_ok Try.func12 rfl trivial (fun M => ?_)
      rfl
    | false =>
      by_cases x2 : v > 9223372036854775808
      · refine RunF_sound tab_ok noX_local 200 [false, true, false, true] _ _ rfl ?_ ?_
        · simp [x1', x2]
        refine Run.retL tab_ok Try.func12 rfl trivial (fun M => ?_)
        rw [if_pos (by simp [x2])]; rfl
      · refine RunF_sound tab_ok noX_local 200 [false, true, false, false] _ _ rfl ?_ ?_
        · simp [x1', x2]
        refine Run.retL tab_ok Try.func12 rfl trivial (fun M => ?_)
        rw [if_neg (by simp [x2])]
        have := wrap_succ (show e < 9223372036854775807 by omega)
        simp only [resAV, conc, concL, this]
        rfl
  | false =>
    cases g with
    | true =>
      refine RunF_sound tab_ok noX_local 200 [false, false, true] _ _ rfl ?_ ?_
      · simp [x1']
      refine Run.retL tab_ok Try.func12 rfl trivial (fun M => ?_)
      rfl
    | false =>
      refine RunF_sound tab_ok noX_local 200 [false, false, false] _ _ rfl ?_ ?_
      · simp [x1']
      refine Run.retL tab_ok Try.func12 rfl trivial (fun M => ?_)
      rfl
theorem next_enters : Enters Try.prog 12 := enters_mk Try.func12 (by decide) rfl
end Go.Proofs.Ytpfanhbkjajocaa

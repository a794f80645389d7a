/-
  What word.Take and its reference do. Own work.
-/
import Derived.Test.YtpfanhbkjajocaaW0
import Derived.Test.YtpfanhbkjajocaaTab
namespace Go.Proofs.Ytpfanhbkjajocaa
open Go.AM
set_option maxRecDepth 100000

theorem wrap_7 {k : Nat} (h : k < 10) : IntKind.i64.wrap (7 * (k : Int)) = 7 * (k : Int) := by rw [wrap_i64] <;> omega

theorem take_ok (s : ByteArray) (a : Int) (w : World) (hs : s.size ≤ maxLen) : Gives Try.prog 5 [.string s, .int .i64 a] w (tv (if a < 0 ∨ a ≥ s.size then err3 else takeP s a 10 0 0)) := by
  refine Gives.of_run Try.func5 rfl (by show 2 ≤ 67; decide) ?_
  have hsz : (s.size : Int) ≤ 9223372036854775807 := by simp only [maxLen] at hs; omega
  by_cases h1 : a < 0
  · refine RunF_sound tab_ok noX_local 100 [true, true] _ _ rfl ?_ ?_
    · simp [h1]
    · refine Run.retL tab_ok Try.func5 rfl trivial (fun M => ?_)
      rw [if_pos (.inl h1)]; rfl
  by_cases h2 : a ≥ s.size
  · refine RunF_sound tab_ok noX_local 100 [false, true] _ _ rfl ?_ ?_
    · simp; omega
    · refine Run.retL tab_ok Try.func5 rfl trivial (fun M => ?_)
      rw [if_pos (.inr h2)]; rfl
  rw [if_neg (by omega)]
  generalize hR : takeP s a 10 0 0 = R
  refine RunF_sound tab_ok noX_local 100 [false, false] _ _ rfl ?_ ?_
  · simp; omega
  suffices H : ∀ (d k : Nat) (u : Int), k + d = 10 → a + k ≤ s.size → R = takeP s a d k u → ∀ σ, inT σ.t [(0, .v (.string s)), (1, .v (.int .i64 a)), (7, .v (.int .u64 u)), (8, .v (.int .i64 (k : Int)))] → inT σ.h [] → Run _ _ σ by
    exact H 10 0 0 (by omega) (by omega) hR.symm _ ⟨rfl, rfl, rfl, rfl, trivial⟩ trivial
  intro d
  induction d with
  | zero =>
    intro k u hk ha hv σ ht hh
    refine Run.to ?_ ht hh (n' := 0)
    refine RunF_sound tab_ok noX_local 100 [false] _ _ rfl ?_ ?_
    · simp; omega
    · refine Run.retL tab_ok Try.func5 rfl trivial (fun M => ?_)
      rw [hv]; rfl
  | succ d ih =>
    intro k u hk ha hv σ ht hh
    refine Run.to ?_ ht hh (n' := 0)
    have hw : IntKind.i64.wrap (a + k) = a + k := by rw [wrap_i64] <;> omega
    have hk1 : IntKind.i64.wrap ((k : Int) + 1) = (k : Int) + 1 := by rw [wrap_i64] <;> omega
    have hw7 := wrap_7 (k := k) (by omega)
    by_cases h3 : a + k < s.size
    · have hi : (a + k).toNat < s.size := by omega
      rw [takeP, if_pos h3] at hv
      have hb0 := tk_nonneg s (a + k)
      have htk : ((s[(a + (k : Int)).toNat]?.getD 0).toNat : Int) = tk s (a + k) := rfl
      have hm : bor .u64 u (shlI .u64 (IntKind.u64.wrap (band .u8 (((s[(IntKind.i64.wrap (a + (k : Int))).toNat]?.getD 0).toNat : Nat) : Int) 127)) (IntKind.i64.wrap (7 * (k : Int)))) = addP u (tk s (a + k)) k := by
        rw [hw, hw7]; rfl
      by_cases c9 : k = 9
      · by_cases c1 : tk s (a + k) > 1
        · rw [if_pos ⟨c9, c1⟩] at hv
          refine RunF_sound tab_ok noX_local 100 [true, true, true, true] _ _ rfl ?_ ?_
          · simp [hw, htk]; omega
          · refine Run.retL tab_ok Try.func5 rfl trivial (fun M => ?_)
            rw [hv]; rfl
        · rw [if_neg (by omega), if_pos (by omega)] at hv
          by_cases c0 : tk s (a + k) = 0
          · rw [if_pos (by omega)] at hv
            refine RunF_sound tab_ok noX_local 100 [true, true, true, false, true, true, true] _ _ rfl ?_ ?_
            · simp [hw, hw7, htk]; omega
            · refine Run.retL tab_ok Try.func5 rfl trivial (fun M => ?_)
              rw [hv]; rfl
          · rw [if_neg (by omega)] at hv
            refine RunF_sound tab_ok noX_local 100 [true, true, true, false, true, false] _ _ rfl ?_ ?_
            · simp [hw, hw7, htk]; omega
            · refine Run.retL tab_ok Try.func5 rfl trivial (fun M => ?_)
              rw [hv, ← hm]; show Value.tuple #[_, .int .i64 (IntKind.i64.wrap ((k : Int) + 1)), _] = _; rw [hk1]; rfl
      · rw [if_neg (by omega)] at hv
        by_cases c1 : tk s (a + k) < 128
        · rw [if_pos c1] at hv
          by_cases c0 : tk s (a + k) = 0
          · by_cases ck : k > 0
            · rw [if_pos ⟨c0, ck⟩] at hv
              refine RunF_sound tab_ok noX_local 100 [true, true, false, true, true, true] _ _ rfl ?_ ?_
              · simp [hw, hw7, htk]; omega
              · refine Run.retL tab_ok Try.func5 rfl trivial (fun M => ?_)
                rw [hv]; rfl
            · rw [if_neg (by omega)] at hv
              refine RunF_sound tab_ok noX_local 100 [true, true, false, true, true, false] _ _ rfl ?_ ?_
              · simp [hw, hw7, htk]; omega
              · refine Run.retL tab_ok Try.func5 rfl trivial (fun M => ?_)
                rw [hv, ← hm]; show Value.tuple #[_, .int .i64 (IntKind.i64.wrap ((k : Int) + 1)), _] = _; rw [hk1]; rfl
          · rw [if_neg (by omega)] at hv
            refine RunF_sound tab_ok noX_local 100 [true, true, false, true, false] _ _ rfl ?_ ?_
            · simp [hw, hw7, htk]; omega
            · refine Run.retL tab_ok Try.func5 rfl trivial (fun M => ?_)
              rw [hv, ← hm]; show Value.tuple #[_, .int .i64 (IntKind.i64.wrap ((k : Int) + 1)), _] = _; rw [hk1]; rfl
        · rw [if_neg c1] at hv
          refine RunF_sound tab_ok noX_local 100 [true, true, false, false] _ _ rfl ?_ ?_
          · simp [hw, hw7, htk]; omega
          exact ih (k + 1) _ (by omega) (by omega) hv _ ⟨rfl, rfl, congrArg (fun z => some (AV.v (.int .u64 z))) hm, i64_eq (wrap_succ (by omega)), trivial⟩ trivial
    · rw [takeP, if_neg h3] at hv
      refine RunF_sound tab_ok noX_local 100 [true, false] _ _ rfl ?_ ?_
      · simp [hw]; omega
      · refine Run.retL tab_ok Try.func5 rfl trivial (fun M => ?_)
        rw [hv]; rfl

theorem take_enters : Enters Try.prog 5 := enters_mk Try.func5 (by decide) rfl
end Go.Proofs.Ytpfanhbkjajocaa

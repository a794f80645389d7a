/-
  The reference's digits. Own work.
-/
import Derived.Test.YtpfanhbkjajocaaN4
namespace Go.Proofs.Ytpfanhbkjajocaa
open Go.AM
set_option maxRecDepth 100000

theorem quo_ovf {B v d : Int} (hB : B = 10 ∨ B = 16) (hd : 0 ≤ d) (hd' : d ≤ 99) : decide (v > (18446744073709551615 - d).tdiv B) = ovf B v d := by
  unfold ovf
  rw [Int.tdiv_eq_ediv_of_nonneg (by omega)]
  rcases hB with rfl | rfl
  · rw [Bool.eq_iff_iff]; simp; omega
  · rw [Bool.eq_iff_iff]; simp; omega

theorem digitsR_ok (s : ByteArray) (a : Nat) (B : Int) (hB : B = 10 ∨ B = 16) (ha : a ≤ s.size) (hs : s.size ≤ maxLen) (w : World) :
    Gives Try.prog 20 [.string s, .int .i64 (a : Int), .int .i64 B] w (.tuple #[.int .u64 (dgo s B (s.size - a) a 0 false).1, .bool (dgo s B (s.size - a) a 0 false).2.1, .int .i64 (((dgo s B (s.size - a) a 0 false).2.2 : Nat) - (a : Int))]) := by
  refine Gives.of_run Try.func20 rfl (by show 3 ≤ 55; decide) ?_
  have hsz : (s.size : Int) ≤ 9223372036854775807 := by simp only [maxLen] at hs; omega
  have hB0 : ¬ B = 0 := by omega
  have hB1 : IntKind.u64.wrap B = B := u64w (by omega) (by omega)
  generalize hF : dgo s B (s.size - a) a 0 false = F
  refine RunF_sound tab_ok noX_local 200 [] _ _ rfl ?_ ?_
  · simp
  suffices K : ∀ (d k : Nat) (v : Int) (g : Bool), a + k + d = s.size → F = dgo s B d (a + k) v g → 0 ≤ v → v < 18446744073709551616 → ∀ σ, inTC σ.t [(0, .v (.string s)), (1, .v (.int .i64 (a : Int))), (2, .v (.int .i64 B)), (9, .v (.int .u64 v)), (10, .v (.bool g)), (11, .v (.int .i64 (k : Nat)))] → inT σ.h [] → Run _ _ σ by
    exact K (s.size - a) 0 0 false (by omega) hF.symm (by omega) (by omega) _ ⟨⟨_, rfl, fun M => rfl⟩, ⟨_, rfl, fun M => rfl⟩, ⟨_, rfl, fun M => rfl⟩, ⟨_, rfl, fun M => rfl⟩, ⟨_, rfl, fun M => rfl⟩, ⟨_, rfl, fun M => rfl⟩, trivial⟩ trivial
  intro d
  induction d with
  | zero =>
    intro k v g hk hv h0 h1 σ ht hh
    refine Run.toC ?_ ht hh (n' := 0)
    rw [dgo] at hv
    have hw : IntKind.i64.wrap ((a : Int) + k) = a + k := by rw [wrap_i64] <;> omega
    refine RunF_sound tab_ok noX_local 200 [false] _ _ rfl ?_ ?_
    · simp [hw]; omega
    refine Run.retL tab_ok Try.func20 rfl trivial (fun M => ?_)
    rw [hv]
    show Value.tuple #[_, _, .int .i64 (k : Int)] = Value.tuple #[_, _, .int .i64 (((a + k : Nat) : Int) - (a : Int))]
    rw [show ((a + k : Nat) : Int) - (a : Int) = (k : Int) by omega]
    rfl
  | succ d ih =>
    intro k v g hk hv h0 h1 σ ht hh
    refine Run.toC ?_ ht hh (n' := 0)
    rw [dgo] at hv
    obtain ⟨p, hp⟩ : ∃ p : Nat, p = a + k := ⟨_, rfl⟩
    rw [← hp] at hv
    have hw : IntKind.i64.wrap ((a : Int) + k) = (p : Int) := by rw [wrap_i64] <;> omega
    have c0 := tk_nonneg s p
    have c1 := tk_lt s p
    have hd := dv_bounds (tk s p)
    have hcall : ∀ w', Gives Try.prog 22 [.int .u8 (tk s p), .int .i64 B] w' (.int .i64 (if dv (tk s p) < B then dv (tk s p) else -1)) := fun w' => digitR_ok _ B c0 c1 (by omega) (by omega) w'
    have htk : (((s[(IntKind.i64.wrap ((a : Int) + k)).toNat]?.getD 0).toNat : Nat) : Int) = tk s p := by rw [hw]; rfl
    refine RunF_sound tab_ok noX_local 200 [true] _ _ rfl ?_ ?_
    · simp [hw]; omega
    refine Run.callFn (r := .int .i64 (if dv (tk s p) < B then dv (tk s p) else -1)) noX_local rfl rfl rfl rfl rfl rfl rfl digitR_enters rfl (fun w' _ => ?_) ?_
    · rw [htk]; exact hcall w'
    by_cases cd : dv (tk s p) < B
    · rw [if_pos cd] at hv hcall
      rw [if_pos cd]
      refine RunF_sound tab_ok noX_local 200 [true] _ _ rfl ?_ ?_
      · simp [hw, hd.1]; omega
      refine Run.callFn (r := .int .i64 (dv (tk s p))) noX_local rfl rfl rfl rfl rfl rfl rfl digitR_enters rfl (fun w' _ => ?_) ?_
      · rw [htk]; exact hcall w'
      generalize dv (tk s p) = D at *
      have hD1 : IntKind.u64.wrap D = D := u64w (by omega) (by omega)
      have hD2 : IntKind.u64.wrap (18446744073709551615 - D) = 18446744073709551615 - D := u64w (by omega) (by omega)
      have hq : IntKind.u64.wrap ((18446744073709551615 - D).tdiv B) = (18446744073709551615 - D).tdiv B := by
        rw [Int.tdiv_eq_ediv_of_nonneg (by omega)]
        rcases hB with rfl | rfl
        · exact u64w (by omega) (by omega)
        · exact u64w (by omega) (by omega)
      have hov := quo_ovf (v := v) hB hd.1 hd.2
      have hst : IntKind.u64.wrap (IntKind.u64.wrap (v * B) + D) = stp B v D := by
        rw [wrap_u64m, wrap_u64m]; unfold stp; omega
      have hst0 : 0 ≤ stp B v D := by unfold stp; omega
      have hst1 : stp B v D < 18446744073709551616 := by unfold stp; omega
      by_cases co : v > (18446744073709551615 - D).tdiv B
      · rw [decide_eq_true co] at hov
        refine RunF_sound tab_ok noX_local 200 [true] _ _ rfl ?_ ?_
        · simp [hD1, hD2, hB1, hB0, hq, hw]
          (repeat' refine And.intro ?_ ?_) <;> first | omega | exact co
        refine ih (k + 1) (stp B v D) (g || ovf B v D) (by omega) (by rw [hv, hp]; rfl) hst0 hst1 _ ?_ trivial
        exact ⟨⟨_, rfl, fun M => rfl⟩, ⟨_, rfl, fun M => rfl⟩, ⟨_, rfl, fun M => rfl⟩, ⟨_, rfl, fun M => by simp only [conc, hD1, hB1, hst]⟩, ⟨_, rfl, fun M => by rw [← hov, Bool.or_true]; rfl⟩, ⟨_, rfl, fun M => by simp only [conc, wrap_succ (show k < 9223372036854775807 by omega)]⟩, trivial⟩
      · rw [decide_eq_false co] at hov
        refine RunF_sound tab_ok noX_local 200 [false] _ _ rfl ?_ ?_
        · simp [hD1, hD2, hB1, hB0, hq, hw]
          (repeat' refine And.intro ?_ ?_) <;> first | omega | exact Int.not_lt.1 co
        refine ih (k + 1) (stp B v D) (g || ovf B v D) (by omega) (by rw [hv, hp]; rfl) hst0 hst1 _ ?_ trivial
        exact ⟨⟨_, rfl, fun M => rfl⟩, ⟨_, rfl, fun M => rfl⟩, ⟨_, rfl, fun M => rfl⟩, ⟨_, rfl, fun M => by simp only [conc, hD1, hB1, hst]⟩, ⟨_, rfl, fun M => by rw [← hov, Bool.or_false]⟩, ⟨_, rfl, fun M => by simp only [conc, wrap_succ (show k < 9223372036854775807 by omega)]⟩, trivial⟩
    · rw [if_neg cd] at hv
      rw [if_neg cd]
      refine RunF_sound tab_ok noX_local 200 [false] _ _ rfl ?_ ?_
      · simp
      refine Run.retL tab_ok Try.func20 rfl trivial (fun M => ?_)
      rw [hv]
      show Value.tuple #[_, _, .int .i64 (k : Int)] = Value.tuple #[_, _, .int .i64 ((p : Int) - (a : Int))]
      rw [show (p : Int) - (a : Int) = (k : Int) by omega]
      rfl
theorem digitsR_enters : Enters Try.prog 20 := enters_mk Try.func20 (by decide) rfl
end Go.Proofs.Ytpfanhbkjajocaa

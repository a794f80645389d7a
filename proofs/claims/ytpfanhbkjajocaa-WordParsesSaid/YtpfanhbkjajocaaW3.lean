/-
  What word.Put and its reference do. Own work.
-/
import Derived.Test.YtpfanhbkjajocaaW2
namespace Go.Proofs.Ytpfanhbkjajocaa
open Go.AM
set_option maxRecDepth 100000

theorem isU8 (l : List Value) (b : Int) (h : ∀ u ∈ l, u = .int .u8 (intOf u)) : ∀ u ∈ l ++ [.int .u8 b], u = .int .u8 (intOf u) := by
  intro u hu
  rcases List.mem_append.1 hu with h1 | h1
  · exact h u h1
  · simp only [List.mem_singleton] at h1; subst h1; rfl

theorem isU8' (l : List Value) (b : Int) (h : ∀ u ∈ l, u = .int .u8 (intOf u)) : ∀ u, u ∈ l ∨ u = .int .u8 b → u = .int .u8 (intOf u) := by
  rintro u (h1 | h1)
  · exact h u h1
  · subst h1; rfl

theorem shr7_lt {d : Nat} {u : BitVec 64} (h : u.toNat < 128 * 128 ^ (d + 1)) : (u >>> 7).toNat < 128 * 128 ^ d := by
  simp only [BitVec.toNat_ushiftRight, Nat.shiftRight_eq_div_pow]
  rw [Nat.div_lt_iff_lt_mul (by decide)]
  rw [Nat.pow_succ] at h
  omega

theorem put_ok (v : Int) (w : World) (h : -9223372036854775808 ≤ v) (h' : v ≤ 9223372036854775807) : Gives Try.prog 7 [.int .i64 v] w (.string (putS v)) := by
  refine Gives.of_run Try.func7 rfl (by show 1 ≤ 28; decide) ?_
  have hz := zigP h h'
  unfold putS
  generalize hR : putGo 10 (zig v) = R
  refine RunF_sound tab_ok noX_local 100 [] _ _ rfl ?_ ?_
  · simp
  suffices HB : ∀ (d n : Nat) (pre : List Value) (u : BitVec 64), n + d ≤ 11 → pre.length = n → (∀ x ∈ pre, x = .int .u8 (intOf x)) → u.toNat < 128 * 128 ^ d → R = pre ++ putGo d u →
      Run _ _ ⟨[(3, .v (.int .u64 (un u))), (4, .sl 0 1 0 n)], [(0, .row 5 1 n pre)], 1⟩ by
    by_cases c : (zig v).toNat ≥ 128
    · refine RunF_sound tab_ok noX_local 100 [true] _ _ rfl ?_ ?_
      · simp [hz, un_ge, c, maxLen, fillL, repL, splice, Value.cells, Value.oneCell']
      · refine Run.toR [(0, 1)] (HB 9 1 [.int .u8 (bor .u8 (IntKind.u8.wrap (un (zig v))) 128)] (zig v >>> 7) (by omega) rfl (by simp [intOf]) (shr7_lt (d := 9) (by have := (zig v).isLt; omega)) ?_) ⟨?_, rfl, trivial⟩ ⟨?_, trivial⟩ rfl
        · rw [← hR, putGo, if_pos c]; rfl
        · exact u64_eq (by rw [hz]; exact shr_un _ _)
        · rw [← hz]; rfl
    · refine RunF_sound tab_ok noX_local 100 [false] _ _ rfl ?_ ?_
      · simp [hz, un_ge, maxLen, fillL, repL, splice, Value.cells, Value.oneCell', intOf]; omega
      · refine Run.retP tab_ok Try.func7 rfl trivial (fun M => ?_)
        rw [← hR, putGo_last _ _ c, ← hz]; rfl
  intro d
  induction d with
  | zero => 
    intro n pre u hn hl hp hu hv
    have c : ¬ u.toNat ≥ 128 := by omega
    have htk : pre.take n = pre := by rw [← hl]; exact List.take_length
    have htk1 : ∀ x : Value, (pre ++ [x]).take (n + 1) = pre ++ [x] := fun x => List.take_of_length_le (by simp [hl])
    refine RunF_sound tab_ok noX_local 100 [false] _ _ rfl ?_ ?_
    · simp [un_ge, maxLen, fillL, repL, splice, Value.cells, Value.oneCell', htk, htk1]
      exact ⟨by omega, by omega, isU8' _ _ hp⟩
    · refine Run.retP tab_ok Try.func7 rfl trivial (fun M => ?_)
      rw [hv, putGo_last _ _ c]
      simp [conc, fillL, repL, splice, Value.cells, htk, htk1]
  | succ d ih => 
    intro n pre u hn hl hp hu hv
    have htk : pre.take n = pre := by rw [← hl]; exact List.take_length
    have htk1 : ∀ x : Value, (pre ++ [x]).take (n + 1) = pre ++ [x] := fun x => List.take_of_length_le (by simp [hl])
    by_cases c : u.toNat ≥ 128
    · refine RunF_sound tab_ok noX_local 100 [true] _ _ rfl ?_ ?_
      · simp [un_ge, c, maxLen, fillL, repL, splice, Value.cells, Value.oneCell']; omega
      · refine Run.toR [(0, 2)] (ih (n + 1) (pre ++ [.int .u8 (bor .u8 (IntKind.u8.wrap (un u)) 128)]) (u >>> 7) (by omega) (by simp [hl]) (isU8 _ _ hp) (shr7_lt hu) ?_) ⟨u64_eq (shr_un _ _), rfl, trivial⟩ ⟨?_, trivial⟩ rfl
        · rw [hv, putGo, if_pos c]; simp
        · refine congrArg (fun l => some (Blk.row 5 1 (n + 1) l)) ?_
          simp [fillL, repL, splice, Value.cells, htk]
    · refine RunF_sound tab_ok noX_local 100 [false] _ _ rfl ?_ ?_
      · simp [un_ge, maxLen, fillL, repL, splice, Value.cells, Value.oneCell', htk, htk1]
        exact ⟨by omega, by omega, isU8' _ _ hp⟩
      · refine Run.retP tab_ok Try.func7 rfl trivial (fun M => ?_)
        rw [hv, putGo_last _ _ c]
        simp [conc, fillL, repL, splice, Value.cells, htk, htk1]
theorem put_enters : Enters Try.prog 7 := enters_mk Try.func7 (by decide) rfl
end Go.Proofs.Ytpfanhbkjajocaa

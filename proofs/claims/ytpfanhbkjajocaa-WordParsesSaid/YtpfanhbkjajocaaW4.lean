/-
  What the reference's Put does. Own work.
-/
import Derived.Test.YtpfanhbkjajocaaW3
namespace Go.Proofs.Ytpfanhbkjajocaa
open Go.AM
set_option maxRecDepth 100000

theorem putR_ok (v : Int) (w : World) : Gives Try.prog 8 [.int .i64 v] w (.string (putS v)) := by
  refine Gives.of_run Try.func8 rfl (by show 1 ≤ 29; decide) ?_
  unfold putS
  generalize hR : putGo 10 (zig v) = R
  suffices HA : Run _ _ ⟨[(3, .v (.int .u64 (un (zig v)))), (4, .v (.slice none 0 0))], [], 0⟩ by
    by_cases c : v < 0
    · refine RunF_sound tab_ok noX_local 100 [true] _ _ rfl ?_ ?_
      · simp [c]
      · refine Run.to HA ⟨u64_eq ?_, rfl, trivial⟩ trivial
        show bxor .u64 18446744073709551615 (shlI .u64 (IntKind.u64.wrap v) 1) = _
        rw [shl_wrap, not_un, zig, if_pos c]
    · refine RunF_sound tab_ok noX_local 100 [false] _ _ rfl ?_ ?_
      · simp; omega
      · refine Run.to HA ⟨u64_eq ?_, rfl, trivial⟩ trivial
        rw [shl_wrap, zig, if_neg c]
  suffices HB : ∀ (d n : Nat) (pre : List Value) (u : BitVec 64), n + d ≤ 11 → pre.length = n → (∀ x ∈ pre, x = .int .u8 (intOf x)) → u.toNat < 128 * 128 ^ d → R = pre ++ putGo d u →
      Run _ _ ⟨[(3, .v (.int .u64 (un u))), (4, .sl 0 1 0 n)], [(0, .row 5 1 n pre)], 1⟩ by
    by_cases c : (zig v).toNat ≥ 128
    · refine RunF_sound tab_ok noX_local 100 [true] _ _ rfl ?_ ?_
      · simp [un_ge, c, maxLen, fillL, repL, splice, Value.cells, Value.oneCell']
      · refine Run.toR [(0, 1)] (HB 9 1 [.int .u8 (IntKind.u8.wrap (IntKind.u8.wrap ((un (zig v)).tmod 128) + 128))] (zig v >>> 7) (by omega) rfl (by simp [intOf]) (shr7_lt (d := 9) (by have := (zig v).isLt; omega)) ?_) ⟨?_, rfl, trivial⟩ ⟨?_, trivial⟩ rfl
        · rw [← hR, putGo, if_pos c, byte_eq]; rfl
        · exact u64_eq (quo_eq _)
        · rfl
    · refine RunF_sound tab_ok noX_local 100 [false] _ _ rfl ?_ ?_
      · simp [un_ge, maxLen, fillL, repL, splice, Value.cells, Value.oneCell', intOf]; omega
      · refine Run.retP tab_ok Try.func8 rfl trivial (fun M => ?_)
        rw [← hR, putGo_last _ _ c]; rfl
  intro d
  induction d with
  | zero => 
    intro n pre u hn hl hp hu hv
    have c : ¬ u.toNat ≥ 128 := by omega
    have htk : pre.take n = pre := by rw [← hl]; exact List.take_length
    have htk1 : ∀ x : Value, (pre ++ [x]).take (n + 1) = pre ++ [x] := fun x => List.take_of_length_le (by simp [hl])
    refine RunF_sound tab_ok noX_local 100 [false] _ _ rfl ?_ ?_
    · simp [un_ge, maxLen, fillL, repL, splice, Value.cells, Value.oneCell', htk, htk1]
      exact ⟨by omega, by omega, isU8' _ _ hp⟩
    · refine Run.retP tab_ok Try.func8 rfl trivial (fun M => ?_)
      rw [hv, putGo_last _ _ c]
      simp [conc, fillL, repL, splice, Value.cells, htk, htk1]
  | succ d ih => 
    intro n pre u hn hl hp hu hv
    have htk : pre.take n = pre := by rw [← hl]; exact List.take_length
    have htk1 : ∀ x : Value, (pre ++ [x]).take (n + 1) = pre ++ [x] := fun x => List.take_of_length_le (by simp [hl])
    by_cases c : u.toNat ≥ 128
    · refine RunF_sound tab_ok noX_local 100 [true] _ _ rfl ?_ ?_
      · simp [un_ge, c, maxLen, fillL, repL, splice, Value.cells, Value.oneCell']; omega
      · refine Run.toR [(0, 2)] (ih (n + 1) (pre ++ [.int .u8 (IntKind.u8.wrap (IntKind.u8.wrap ((un u).tmod 128) + 128))]) (u >>> 7) (by omega) (by simp [hl]) (isU8 _ _ hp) (shr7_lt hu) ?_) ⟨u64_eq (quo_eq _), rfl, trivial⟩ ⟨?_, trivial⟩ rfl
        · rw [hv, putGo, if_pos c, byte_eq]; simp
        · refine congrArg (fun l => some (Blk.row 5 1 (n + 1) l)) ?_
          simp [fillL, repL, splice, Value.cells, htk]
    · refine RunF_sound tab_ok noX_local 100 [false] _ _ rfl ?_ ?_
      · simp [un_ge, maxLen, fillL, repL, splice, Value.cells, Value.oneCell', htk, htk1]
        exact ⟨by omega, by omega, isU8' _ _ hp⟩
      · refine Run.retP tab_ok Try.func8 rfl trivial (fun M => ?_)
        rw [hv, putGo_last _ _ c]
        simp [conc, fillL, repL, splice, Value.cells, htk, htk1]
theorem putR_enters : Enters Try.prog 8 := enters_mk Try.func8 (by decide) rfl
end Go.Proofs.Ytpfanhbkjajocaa

/-
  WordPuts: what it does. Own work.
-/
import Derived.Test.YtpfanhbkjajocaaW4
namespace Go.Proofs.Ytpfanhbkjajocaa
open Go.AM
set_option maxRecDepth 100000

theorem num_ok (n : Int) (w : World) : Gives Try.prog 9 [.int .i64 n] w (.int .i64 n) := by
  refine Gives.of_run Try.func9 rfl (by show 1 ≤ 4; decide) ?_
  refine RunF_sound tab_ok noX_local 100 [] _ _ rfl ?_ ?_
  · simp
  · exact Run.retP tab_ok Try.func9 rfl trivial (fun M => rfl)

theorem num_enters : Enters Try.prog 9 := enters_mk Try.func9 (by decide) rfl

theorem puts_ok (v : Int) (s : ByteArray) (a : Int) (w : World) (h : -9223372036854775808 ≤ v) (h' : v ≤ 9223372036854775807) (hs : s.size ≤ maxLen) :
    Gives Try.prog 3 [.int .i64 v, .string s, .int .i64 a] w (.bool true) := by
  refine Gives.of_run Try.func3 rfl (by show 3 ≤ 48; decide) ?_
  refine RunF_sound tab_ok noX_local 100 [] _ _ rfl ?_ ?_
  · simp
  refine Run.callFn noX_local rfl rfl rfl rfl rfl rfl rfl take_enters rfl (fun w' _ => take_ok s a w' hs) ?_
  refine RunF_sound tab_ok noX_local 100 [] _ _ rfl ?_ ?_
  · simp
  refine Run.callFn noX_local rfl rfl rfl rfl rfl rfl rfl takeR_enters rfl (fun w' _ => takeR_ok s a w' hs) ?_
  refine RunF_sound tab_ok noX_local 100 [] _ _ rfl ?_ ?_
  · simp
  refine Run.callFn noX_local rfl rfl rfl rfl rfl rfl rfl put_enters rfl (fun w' _ => put_ok v w' h h') ?_
  refine RunF_sound tab_ok noX_local 100 [] _ _ rfl ?_ ?_
  · simp
  refine Run.callFn noX_local rfl rfl rfl rfl rfl rfl rfl putR_enters rfl (fun w' _ => putR_ok v w') ?_
  have e : (if a < 0 ∨ a ≥ s.size then err3 else takeR s a 10 0 0) = (if a < 0 ∨ a ≥ s.size then err3 else takeP s a 10 0 0) := by
    rw [show (0 : Int) = un 0#64 from rfl, take_eq s a 10 0 0#64 rfl]
  rw [e]
  generalize (if a < 0 ∨ a ≥ s.size then err3 else takeP s a 10 0 0) = x
  refine RunF_sound tab_ok noX_local 100 [true, true, true] _ _ rfl ?_ ?_
  · simp
  refine Run.callFn noX_local rfl rfl rfl rfl rfl rfl rfl num_enters rfl (fun w' _ => num_ok _ w') ?_
  refine RunF_sound tab_ok noX_local 100 [] _ _ rfl ?_ ?_
  · simp
  · refine Run.retP tab_ok Try.func3 rfl trivial (fun M => ?_)
    simp [conc]
end Go.Proofs.Ytpfanhbkjajocaa

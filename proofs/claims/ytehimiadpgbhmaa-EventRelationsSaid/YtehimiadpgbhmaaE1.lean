/-
  The tests of events and of pairs of events. Own work; the walks of chains of tests printed by a program of our own.
-/
import Derived.Test.YtehimiadpgbhmaaE0
namespace Go.Proofs.Ytehimiadpgbhmaa
open Go.AM
set_option maxRecDepth 100000

theorem enc5 (e : Ev) : encEv e = .agg (evV e).toArray := rfl
def memB (e : Ev) : Bool := decide (e.kind ≥ 1) && decide (e.kind ≤ 3)
def togB (a b : Ev) : Bool := decide (a.thread = b.thread) && !decide (a.thread = -1)
def wrB (e : Ev) : Bool := decide (e.kind = 1) || decide (e.kind = 2)
def rdB (e : Ev) : Bool := decide (e.kind = 3)

theorem memory_ok (e : Ev) (w : World) : Gives Try.prog 20 [encEv e] w (.bool (memB e)) := by
  refine Gives.of_run Try.func20 rfl (by show 1 ≤ 11; decide) ?_
  by_cases c : e.kind ≥ 1
  · refine RunF_sound tab_ok noX_local 100 [true] _ _ rfl ?_ ?_
    · simp [c]
    refine Run.retP tab_ok Try.func20 rfl trivial (fun M => ?_)
    simp [resAV, conc, memB, c]
  · refine RunF_sound tab_ok noX_local 100 [false] _ _ rfl ?_ ?_
    · simp [c]
    refine Run.retP tab_ok Try.func20 rfl trivial (fun M => ?_)
    simp [resAV, conc, memB, c]
theorem memory_enters : Enters Try.prog 20 := enters_mk Try.func20 (by decide) rfl

theorem together_ok (a b : Ev) (w : World) : Gives Try.prog 24 [encEv a, encEv b] w (.bool (togB a b)) := by
  refine Gives.of_run Try.func24 rfl (by show 2 ≤ 15; decide) ?_
  by_cases c : a.thread = b.thread
  · refine RunF_sound tab_ok noX_local 100 [true] _ _ rfl ?_ ?_
    · simp [c]
    refine Run.retP tab_ok Try.func24 rfl trivial (fun M => ?_)
    by_cases c2 : b.thread = -1 <;> simp [resAV, conc, togB, c, c2]
  · refine RunF_sound tab_ok noX_local 100 [false] _ _ rfl ?_ ?_
    · simp [c]
    refine Run.retP tab_ok Try.func24 rfl trivial (fun M => ?_)
    simp [resAV, conc, togB, c]
theorem together_enters : Enters Try.prog 24 := enters_mk Try.func24 (by decide) rfl

theorem isOf_ok (e : Ev) (b : Nat) (k : Int) (w : World) (hb : w.cell? ⟨b, 0, none⟩ = some (.int .i64 k)) : Gives Try.prog 18 [encEv e, .pointer (some ⟨b, 0, none⟩)] w (.bool (decide (e.kind = k))) := by
  refine Gives.of_run Try.func18 rfl (by show 2 ≤ 8; decide) ?_
  refine RunF_sound tab_ok noX_local 100 [] _ _ rfl ?_ ?_
  · simp only [fnC_w0, fnC_S0, hb]
    simp
  simp only [fnC_w0, hb]
  refine Run.retP tab_ok Try.func18 rfl trivial (fun M => ?_)
  by_cases c : e.kind = k <;> simp [resAV, conc, c]
theorem isOf_enters : Enters Try.prog 18 := enters_mk Try.func18 (by decide) rfl

theorem locked1_ok (e : Ev) (w : World) : Gives Try.prog 21 [encEv e] w (.bool e.locked) := by
  refine Gives.of_run Try.func21 rfl (by show 1 ≤ 5; decide) ?_
  refine RunF_sound tab_ok noX_local 100 [] _ _ rfl ?_ ?_
  · simp
  refine Run.retP tab_ok Try.func21 rfl trivial (fun M => ?_)
  simp [resAV, conc]
theorem locked1_enters : Enters Try.prog 21 := enters_mk Try.func21 (by decide) rfl

theorem po1_ok (i k : Int) (a b : Ev) (w : World) : Gives Try.prog 23 [.int .i64 i, .int .i64 k, encEv a, encEv b] w (.bool (decide (i < k) && togB a b)) := by
  refine Gives.of_run Try.func23 rfl (by show 4 ≤ 17; decide) ?_
  by_cases c : i < k
  · refine RunF_sound tab_ok noX_local 100 [true] _ _ rfl ?_ ?_
    · simp [c]
    refine Run.callFn noX_local rfl rfl rfl rfl rfl rfl rfl together_enters rfl (fun w' _ => together_ok a b w') ?_
    refine RunF_sound tab_ok noX_local 100 [] _ _ rfl ?_ ?_
    · simp
    refine Run.retP tab_ok Try.func23 rfl trivial (fun M => ?_)
    simp [resAV, conc, c]
  · refine RunF_sound tab_ok noX_local 100 [false] _ _ rfl ?_ ?_
    · simp [c]
    refine Run.retP tab_ok Try.func23 rfl trivial (fun M => ?_)
    simp [resAV, conc, c]
theorem po1_enters : Enters Try.prog 23 := enters_mk Try.func23 (by decide) rfl

theorem loc1_ok (i k : Int) (a b : Ev) (w : World) : Gives Try.prog 26 [.int .i64 i, .int .i64 k, encEv a, encEv b] w (.bool ((memB a && memB b) && decide (a.loc = b.loc))) := by
  refine Gives.of_run Try.func26 rfl (by show 4 ≤ 22; decide) ?_
  refine RunF_sound tab_ok noX_local 100 [] _ _ rfl ?_ ?_
  · simp
  refine Run.callFn noX_local rfl rfl rfl rfl rfl rfl rfl memory_enters rfl (fun w' _ => memory_ok a w') ?_
  by_cases c : memB a = true
  · refine RunF_sound tab_ok noX_local 100 [true] _ _ rfl ?_ ?_
    · simp [c]
    refine Run.callFn noX_local rfl rfl rfl rfl rfl rfl rfl memory_enters rfl (fun w' _ => memory_ok b w') ?_
    by_cases c2 : memB b = true
    · refine RunF_sound tab_ok noX_local 100 [true] _ _ rfl ?_ ?_
      · simp [c2]
      refine Run.retP tab_ok Try.func26 rfl trivial (fun M => ?_)
      by_cases c3 : a.loc = b.loc <;> simp [resAV, conc, c, c2, c3]
    · refine RunF_sound tab_ok noX_local 100 [false] _ _ rfl ?_ ?_
      · simpa using c2
      refine Run.retP tab_ok Try.func26 rfl trivial (fun M => ?_)
      simp [resAV, conc, c2]
  · refine RunF_sound tab_ok noX_local 100 [false] _ _ rfl ?_ ?_
    · simpa using c
    refine Run.retP tab_ok Try.func26 rfl trivial (fun M => ?_)
    simp [resAV, conc, c]
theorem loc1_enters : Enters Try.prog 26 := enters_mk Try.func26 (by decide) rfl

theorem int1_ok (i k : Int) (a b : Ev) (w : World) : Gives Try.prog 27 [.int .i64 i, .int .i64 k, encEv a, encEv b] w (.bool (togB a b)) := by
  refine Gives.of_run Try.func27 rfl (by show 4 ≤ 12; decide) ?_
  refine RunF_sound tab_ok noX_local 100 [] _ _ rfl ?_ ?_
  · simp
  refine Run.callFn noX_local rfl rfl rfl rfl rfl rfl rfl together_enters rfl (fun w' _ => together_ok a b w') ?_
  refine RunF_sound tab_ok noX_local 100 [] _ _ rfl ?_ ?_
  · simp
  exact Run.retP tab_ok Try.func27 rfl trivial (fun M => rfl)
theorem int1_enters : Enters Try.prog 27 := enters_mk Try.func27 (by decide) rfl

def rmwB (i k : Int) (a b : Ev) : Bool := ((((((decide (i < k) && togB a b) && decide (a.index = b.index)) && a.locked) && b.locked) && decide (a.kind = 3)) && (decide (b.kind = 2) || decide (b.kind = 1)))

theorem rmw1_ok (i k : Int) (a b : Ev) (w : World) : Gives Try.prog 29 [.int .i64 i, .int .i64 k, encEv a, encEv b] w (.bool (rmwB i k a b)) := by
  refine Gives.of_run Try.func29 rfl (by show 4 ≤ 47; decide) ?_
  by_cases c1 : i < k
  · refine RunF_sound tab_ok noX_local 200 [true] _ _ rfl ?_ ?_
    · simp [c1]
    refine Run.callFn noX_local rfl rfl rfl rfl rfl rfl rfl together_enters rfl (fun w' _ => together_ok a b w') ?_
    by_cases c2 : togB a b = true
    · have _ := c2
      by_cases c3 : a.index = b.index
      · have _ := c3
        by_cases c4 : a.locked = true
        · have _ := c4
          by_cases c5 : b.locked = true
          · have _ := c5
            by_cases c6 : a.kind = 3
            · have _ := c6
              by_cases c7 : b.kind = 2
              · have _ := c7
                refine RunF_sound tab_ok noX_local 200 [true, true, true, true, true, true] _ _ rfl ?_ ?_
                · simp [c2, c3, c4, c5, c6, c7]
                refine Run.retP tab_ok Try.func29 rfl trivial (fun M => ?_)
                simp [resAV, conc, rmwB, c1, c2, c3, c4, c5, c6, c7]
              · have _ := c7
                refine RunF_sound tab_ok noX_local 200 [true, true, true, true, true, false] _ _ rfl ?_ ?_
                · simp [c2, c3, c4, c5, c6, c7]
                refine Run.retP tab_ok Try.func29 rfl trivial (fun M => ?_)
                by_cases c8 : b.kind = 1 <;> simp [resAV, conc, rmwB, c1, c2, c3, c4, c5, c6, c7, c8]
            · have _ := c6
              refine RunF_sound tab_ok noX_local 200 [true, true, true, true, false] _ _ rfl ?_ ?_
              · simp [c2, c3, c4, c5, c6]
              refine Run.retP tab_ok Try.func29 rfl trivial (fun M => ?_)
              simp [resAV, conc, rmwB, c1, c2, c3, c4, c5, c6]
          · have _ := c5
            refine RunF_sound tab_ok noX_local 200 [true, true, true, false] _ _ rfl ?_ ?_
            · simp [c2, c3, c4, c5]
            refine Run.retP tab_ok Try.func29 rfl trivial (fun M => ?_)
            simp [resAV, conc, rmwB, c1, c2, c3, c4, c5]
        · have _ := c4
          refine RunF_sound tab_ok noX_local 200 [true, true, false] _ _ rfl ?_ ?_
          · simp [c2, c3, c4]
          refine Run.retP tab_ok Try.func29 rfl trivial (fun M => ?_)
          simp [resAV, conc, rmwB, c1, c2, c3, c4]
      · have _ := c3
        refine RunF_sound tab_ok noX_local 200 [true, false] _ _ rfl ?_ ?_
        · simp [c2, c3]
        refine Run.retP tab_ok Try.func29 rfl trivial (fun M => ?_)
        simp [resAV, conc, rmwB, c1, c2, c3]
    · have _ := c2
      refine RunF_sound tab_ok noX_local 200 [false] _ _ rfl ?_ ?_
      · simp [c2]
      refine Run.retP tab_ok Try.func29 rfl trivial (fun M => ?_)
      simp [resAV, conc, rmwB, c1, c2]
  · refine RunF_sound tab_ok noX_local 200 [false] _ _ rfl ?_ ?_
    · simp [c1]
    refine Run.retP tab_ok Try.func29 rfl trivial (fun M => ?_)
    simp [resAV, conc, rmwB, c1]
theorem rmw1_enters : Enters Try.prog 29 := enters_mk Try.func29 (by decide) rfl

theorem write_ok (e : Ev) (w : World) : Gives Try.prog 31 [encEv e] w (.bool (wrB e)) := by
  refine Gives.of_run Try.func31 rfl (by show 1 ≤ 11; decide) ?_
  by_cases c : e.kind = 1
  · refine RunF_sound tab_ok noX_local 100 [true] _ _ rfl ?_ ?_
    · simp [c]
    refine Run.retP tab_ok Try.func31 rfl trivial (fun M => ?_)
    simp [resAV, conc, wrB, c]
  · refine RunF_sound tab_ok noX_local 100 [false] _ _ rfl ?_ ?_
    · simp [c]
    refine Run.retP tab_ok Try.func31 rfl trivial (fun M => ?_)
    by_cases c2 : e.kind = 2 <;> simp [resAV, conc, wrB, c, c2]
theorem write_enters : Enters Try.prog 31 := enters_mk Try.func31 (by decide) rfl

theorem read_ok (e : Ev) (w : World) : Gives Try.prog 32 [encEv e] w (.bool (rdB e)) := by
  refine Gives.of_run Try.func32 rfl (by show 1 ≤ 6; decide) ?_
  refine RunF_sound tab_ok noX_local 100 [] _ _ rfl ?_ ?_
  · simp
  refine Run.retP tab_ok Try.func32 rfl trivial (fun M => ?_)
  by_cases c : e.kind = 3 <;> simp [resAV, conc, rdB, c]
theorem read_enters : Enters Try.prog 32 := enters_mk Try.func32 (by decide) rfl
end Go.Proofs.Ytehimiadpgbhmaa

/-
  Own work, merged: Q13, Q14, AM32, Q15, Q16, Q17.
-/
import Derived.AtR
import Derived.Below
import Derived.ChangeKeysEq
import Derived.KernelRfl
import Derived.Laws.AppendOwn
import Derived.Laws.BytesString
import Derived.Laws.Cells
import Derived.Laws.CopyRow
import Derived.Laws.Entries
import Derived.Laws.Rows
import Derived.Laws.Small
import Derived.Laws.StructEq
import Derived.Lib.TrailingZeros
import Derived.Maps.AppendAt
import Derived.Orders
import Derived.RangeFuncRecord
import Derived.Test.YtmammebifhmnhaaDoorProg
import Derived.Test.YtmammebifhmnhaaDoorQ5BB813
/-
  The reference's Global: models 1, 2, 3. Own work; printed by tools/gen_ax4.py.
-/
namespace Go.Proofs.YtmammebifhmnhaaDoor
open Go.AM
set_option maxRecDepth 100000

def freeB (Q : Rs) (a b : Nat) : Bool := Q.co.has a b || Q.fr.has a b
def memPB (Q : Rs) (a b : Nat) : Bool := (Q.po.has a b && Q.mm.getLsbD a) && Q.mm.getLsbD b
def con1 (Q : Rs) (a b : Nat) : Bool := (freeB Q a b || Q.po.has a b) || Q.rf.has a b
def conW (n : Nat) (Q : Rs) (a b : Nat) : Bool := ((freeB Q a b || (Q.rf.has a b && Q.it.has a b)) || fenB n Q a b) || (memPB Q a b && (Q.lk.getLsbD a || Q.lk.getLsbD b))
def con2 (n : Nat) (Q : Rs) (a b : Nat) : Bool := conW n Q a b || (memPB Q a b && !(Q.rw.getLsbD a && Q.wr.getLsbD b))
def con3 (n : Nat) (Q : Rs) (a b : Nat) : Bool := conW n Q a b || (memPB Q a b && Q.wr.getLsbD a)
theorem b_eq {x y : Bool} (h : x = y) : ∀ M, conc M (.v (.bool x)) = conc M (.v (.bool y)) := fun _ => by rw [h]
def cutB (n : Nat) (q : Nat → Nat → Bool) : Nat → Nat → Bool := fun a b => q a b && (decide (a < n) && decide (b < n))
theorem cutB_lt {n : Nat} {q : Nat → Nat → Bool} {a b : Nat} (h : cutB n q a b = true) : a < n ∧ b < n := by
  simp only [cutB, Bool.and_eq_true, decide_eq_true_eq] at h; exact h.2
theorem cutB_at {n : Nat} {q : Nat → Nat → Bool} {a b : Nat} (ha : a < n) (hb : b < n) : cutB n q a b = q a b := by
  simp [cutB, ha, hb]

theorem globalR_out (k : Int) (h : k < 1 ∨ k > 3) (x : Xn) (w : World) (hX : SeesX w x) :
    Gives Tryd.prog 8 [.int .i64 k, encX x] w (.tuple #[encRel (Rl.void 0), .int .i64 4]) := by
  refine Gives.of_run Tryd.func8 rfl (by show 2 ≤ 176; decide) ?_
  have hone := xV_one hX.one1 hX.one4
  have n1 : ¬ k = 1 := by omega
  have n2 : ¬ k = 2 := by omega
  have n3 : ¬ k = 3 := by omega
  refine RunF_sound tab_ok noX_local 400 [true, true, true] _ _ rfl ?_ ?_
  · simp [segsVals, relV_one', fillL, Value.cells, n1, n2, n3]
  refine Run.retL tab_ok Tryd.func8 rfl ?_ (fun M => ?_)
  · simp [fillL, Value.cells]
  rfl
theorem globalR_enters : Enters Tryd.prog 8 := enters_mk Tryd.func8 (by decide) rfl

set_option maxHeartbeats 4000000 in
theorem globalR1 (x : Xn) (w : World) (hX : SeesX w x) :
    Gives Tryd.prog 8 [.int .i64 1, encX x] w (.tuple #[encRel (Rl.gen ((shortL x.ev).length : Int) (cutB (shortL x.ev).length (con1 (rsX x)))), .int .i64 0]) := by
  refine Gives.of_run Tryd.func8 rfl (by show 2 ≤ 176; decide) ?_
  have hone := xV_one hX.one1 hX.one4
  have hrof := fun w' hA => rof_ok x w' (hX.agree hA)
  have hQ := rsX_ok x
  generalize rsX x = Q at *
  generalize (shortL x.ev).length = n at *
  have hlt := @cutB_lt n (con1 Q)
  have hat := fun {a b} ha hb => @cutB_at n (con1 Q) a b ha hb
  generalize cutB n (con1 Q) = q at *
  refine RunF_sound tab_ok noX_local 400 [false, false, false] _ _ rfl ?_ ?_
  · simp
  refine Run.callFn (r := encRs Q) noX_local rfl rfl rfl rfl rfl rfl rfl rof_enters rfl (fun w' hA => hrof w' hA) ?_
  have hl := rsV_len Q
  have h1 := rsV_one Q
  have hn64 := hQ.le
  have g0 := rs_n Q
  rw [hQ.sz] at g0
  have e0 := int_of g0
  have gpo := fun (i : Nat) (hi : i < 64) => rs_po Q hi
  have epo := fun (i : Nat) (hi : i < 64) => int_of (gpo i hi)
  have grf := fun (i : Nat) (hi : i < 64) => rs_rf Q hi
  have erf := fun (i : Nat) (hi : i < 64) => int_of (grf i hi)
  have git := fun (i : Nat) (hi : i < 64) => rs_it Q hi
  have eit := fun (i : Nat) (hi : i < 64) => int_of (git i hi)
  have gco := fun (i : Nat) (hi : i < 64) => rs_co Q hi
  have eco := fun (i : Nat) (hi : i < 64) => int_of (gco i hi)
  have gfr := fun (i : Nat) (hi : i < 64) => rs_fr Q hi
  have efr := fun (i : Nat) (hi : i < 64) => int_of (gfr i hi)
  have gmm := rs_mm Q
  have emm := int_of gmm
  have grw := rs_rw Q
  have erw := int_of grw
  have gwr := rs_wr Q
  have ewr := int_of gwr
  have glk := rs_lk Q
  have elk := int_of glk
  unfold encRs at *
  generalize rsV Q = V at *
  refine RunF_sound tab_ok noX_local 400 [] _ _ rfl ?_ ?_
  · simp [segsVals, hl, e0, fillL, Value.cells, splice, relV_tail_one]
    exact ⟨rfl, ⟨h1, rfl⟩, (List.getElem?_eq_some_iff.1 g0).2⟩
  suffices H : ∀ (d a : Nat), a + d = n → ∀ σ, inT σ.t [(0, .v (.int .i64 1)), (4, .ptr 1 0), (6, .ptr 2 0), (7, .ptr 3 0), (8, .v (.int .i64 (a : Int)))] → inT σ.h [(1, .cells 34 [.vals 65 (relV (Rl.void 0))]), (2, .cells 76 [.vals 461 V]), (3, .cells 34 [.vals 65 (relV (Rl.gen (n : Int) (Rl.seen q a 0)))])] → Run _ _ σ by
    refine H n 0 (by omega) _ ⟨rfl, rfl, rfl, rfl, rfl, trivial⟩ ⟨rfl, rfl, ?_, trivial⟩
    simp only [e0]
    rw [Rl.seen_0]; rfl
  intro d
  induction d with
  | zero =>
    intro a hka σ ht hh
    refine Run.to ?_ ht hh (n' := 4)
    refine RunF_sound tab_ok noX_local 400 [false] _ _ rfl ?_ ?_
    · simp [e0, g0, segsVals, relV_one']; try omega
    refine Run.retL tab_ok Tryd.func8 rfl ?_ (fun M => ?_)
    · simp
    rw [Rl.seen_all (fun x y h => by have := hlt h; omega)]; rfl
  | succ d ih =>
    intro a hka σ ht hh
    refine Run.to ?_ ht hh (n' := 4)
    have ha64 : a < 64 := by omega
    refine RunF_sound tab_ok noX_local 400 [true] _ _ rfl ?_ ?_
    · simp [e0, g0]; omega
    suffices H2 : ∀ (e b : Nat), b + e = n → ∀ σ, inT σ.t [(0, .v (.int .i64 1)), (4, .ptr 1 0), (6, .ptr 2 0), (7, .ptr 3 0), (8, .v (.int .i64 (a : Int))), (9, .v (.int .i64 (b : Int)))] → inT σ.h [(1, .cells 34 [.vals 65 (relV (Rl.void 0))]), (2, .cells 76 [.vals 461 V]), (3, .cells 34 [.vals 65 (relV (Rl.gen (n : Int) (Rl.seen q a b)))])] → Run _ _ σ by
      exact H2 n 0 (by omega) _ ⟨rfl, rfl, rfl, rfl, rfl, rfl, trivial⟩ ⟨rfl, rfl, rfl, trivial⟩
    intro e
    induction e with
    | zero =>
      intro b hkb σ ht hh
      refine Run.to ?_ ht hh (n' := 4)
      refine RunF_sound tab_ok noX_local 400 [false] _ _ rfl ?_ ?_
      · simp [e0, g0]; omega
      rw [Rl.seen_row (fun x y h => by have := hlt h; omega)]
      exact ih (a + 1) (by omega) _ ⟨rfl, rfl, rfl, rfl, i64_eq (wrap_succ (by omega)), trivial⟩ ⟨rfl, rfl, rfl, trivial⟩
    | succ e ihe =>
      intro b hkb σ ht hh
      refine Run.to ?_ ht hh (n' := 4)
      have hb64 : b < 64 := by omega
      have hC := hat (show a < n by omega) (show b < n by omega)
      have bco : ∀ w', Gives Tryd.prog 25 [.int .u64 (intAt V (0 + 326 + 1 - 0 + a * 1)), .int .i64 (b : Int)] w' (.bool (Q.co.has a b)) := fun w' => by rw [show 0 + 326 + 1 - 0 + a * 1 = 327 + a by omega, eco a ha64]; exact bit_ok _ _ hb64 w'
      obtain ⟨xco, dco⟩ : ∃ v, v = Q.co.has a b := ⟨_, rfl⟩
      rw [← dco] at bco
      have bfr : ∀ w', Gives Tryd.prog 25 [.int .u64 (intAt V (0 + 391 + 1 - 0 + a * 1)), .int .i64 (b : Int)] w' (.bool (Q.fr.has a b)) := fun w' => by rw [show 0 + 391 + 1 - 0 + a * 1 = 392 + a by omega, efr a ha64]; exact bit_ok _ _ hb64 w'
      obtain ⟨xfr, dfr⟩ : ∃ v, v = Q.fr.has a b := ⟨_, rfl⟩
      rw [← dfr] at bfr
      have bpo : ∀ w', Gives Tryd.prog 25 [.int .u64 (intAt V (0 + 1 + 1 - 0 + a * 1)), .int .i64 (b : Int)] w' (.bool (Q.po.has a b)) := fun w' => by rw [show 0 + 1 + 1 - 0 + a * 1 = 2 + a by omega, epo a ha64]; exact bit_ok _ _ hb64 w'
      obtain ⟨xpo, dpo⟩ : ∃ v, v = Q.po.has a b := ⟨_, rfl⟩
      rw [← dpo] at bpo
      have brf : ∀ w', Gives Tryd.prog 25 [.int .u64 (intAt V (0 + 261 + 1 - 0 + a * 1)), .int .i64 (b : Int)] w' (.bool (Q.rf.has a b)) := fun w' => by rw [show 0 + 261 + 1 - 0 + a * 1 = 262 + a by omega, erf a ha64]; exact bit_ok _ _ hb64 w'
      obtain ⟨xrf, drf⟩ : ∃ v, v = Q.rf.has a b := ⟨_, rfl⟩
      rw [← drf] at brf
      have bma : ∀ w', Gives Tryd.prog 25 [.int .u64 (intAt V 456), .int .i64 (a : Int)] w' (.bool (Q.mm.getLsbD a)) := fun w' => by rw [emm]; exact bit_ok _ _ ha64 w'
      obtain ⟨xma, dma⟩ : ∃ v, v = Q.mm.getLsbD a := ⟨_, rfl⟩
      rw [← dma] at bma
      have bmb : ∀ w', Gives Tryd.prog 25 [.int .u64 (intAt V 456), .int .i64 (b : Int)] w' (.bool (Q.mm.getLsbD b)) := fun w' => by rw [emm]; exact bit_ok _ _ hb64 w'
      obtain ⟨xmb, dmb⟩ : ∃ v, v = Q.mm.getLsbD b := ⟨_, rfl⟩
      rw [← dmb] at bmb
      obtain ⟨xF, eF⟩ : ∃ v, v = (xco || xfr) := ⟨_, rfl⟩
      obtain ⟨xm, em⟩ : ∃ v, v = ((xpo && xma) && xmb) := ⟨_, rfl⟩
      obtain ⟨xC, eC⟩ : ∃ v, v = ((xF || xpo) || xrf) := ⟨_, rfl⟩
      have hC : q a b = xC := by rw [hC, eC, eF, dco, dfr, dpo, drf]; rfl
      clear dco dfr dpo drf dma dmb
      refine RunF_sound tab_ok noX_local 400 [true] _ _ rfl ?_ ?_
      · first | (simp [gco _ ha64, eco _ ha64, g0, e0]; done) | (simp [gco _ ha64, eco _ ha64, g0, e0]; omega)
      refine' Run.join (todo' := _) [(0, .v (.int .i64 1)), (4, .ptr 1 0), (6, .ptr 2 0), (7, .ptr 3 0), (8, .v (.int .i64 (a : Int))), (9, .v (.int .i64 (b : Int))), (10, .v (.bool xF)), (61, .v (.int .u64 (intAt V (0 + 1 + 1 - 0 + a * 1)))), (62, .v (.int .i64 (b : Int)))] [(1, .cells 34 [.vals 65 (relV (Rl.void 0))]), (2, .cells 76 [.vals 461 V]), (3, .cells 34 [.vals 65 (relV (Rl.gen (n : Int) (Rl.seen q a b)))])] 4 ?_ ?_
      rotate_left
      · intro J
        refine Run.callFn (r := .bool xco) noX_local rfl rfl rfl rfl rfl rfl rfl bit_enters rfl (fun w' _ => bco w') ?_
        by_cases hco : xco = true
        ·
          refine RunF_sound tab_ok noX_local 400 [true] _ _ rfl ?_ ?_
          · first | (simp [gpo _ ha64, epo _ ha64, hco]; done) | (simp [gpo _ ha64, epo _ ha64, hco]; omega)
          refine J _ ?_ ?_
          · exact ⟨⟨_, rfl, fun M => rfl⟩, ⟨_, rfl, fun M => rfl⟩, ⟨_, rfl, fun M => rfl⟩, ⟨_, rfl, fun M => rfl⟩, ⟨_, rfl, fun M => rfl⟩, ⟨_, rfl, fun M => rfl⟩, ⟨_, rfl, fun M => congrArg Value.bool (by simp [eF, hco])⟩, ⟨_, rfl, fun M => rfl⟩, ⟨_, rfl, fun M => rfl⟩, trivial⟩
          · exact ⟨rfl, rfl, rfl, trivial⟩
        ·
          refine RunF_sound tab_ok noX_local 400 [false] _ _ rfl ?_ ?_
          · first | (simp [gfr _ ha64, efr _ ha64, hco]; done) | (simp [gfr _ ha64, efr _ ha64, hco]; omega)
          refine Run.callFn (r := .bool xfr) noX_local rfl rfl rfl rfl rfl rfl rfl bit_enters rfl (fun w' _ => bfr w') ?_
          refine RunF_sound tab_ok noX_local 400 [] _ _ rfl ?_ ?_
          · first | (simp [gpo _ ha64, epo _ ha64]; done) | (simp [gpo _ ha64, epo _ ha64]; omega)
          refine J _ ?_ ?_
          · exact ⟨⟨_, rfl, fun M => rfl⟩, ⟨_, rfl, fun M => rfl⟩, ⟨_, rfl, fun M => rfl⟩, ⟨_, rfl, fun M => rfl⟩, ⟨_, rfl, fun M => rfl⟩, ⟨_, rfl, fun M => rfl⟩, ⟨_, rfl, fun M => congrArg Value.bool (by simp [eF, hco])⟩, ⟨_, rfl, fun M => rfl⟩, ⟨_, rfl, fun M => rfl⟩, trivial⟩
          · exact ⟨rfl, rfl, rfl, trivial⟩
      refine' Run.join (todo' := _) [(0, .v (.int .i64 1)), (4, .ptr 1 0), (6, .ptr 2 0), (7, .ptr 3 0), (8, .v (.int .i64 (a : Int))), (9, .v (.int .i64 (b : Int))), (10, .v (.bool xF)), (11, .v (.bool xpo)), (12, .v (.bool xm)), (80, .v (.bool xF))] [(1, .cells 34 [.vals 65 (relV (Rl.void 0))]), (2, .cells 76 [.vals 461 V]), (3, .cells 34 [.vals 65 (relV (Rl.gen (n : Int) (Rl.seen q a b)))])] 4 ?_ ?_
      rotate_left
      · intro J
        refine Run.callFn (r := .bool xpo) noX_local rfl rfl rfl rfl rfl rfl rfl bit_enters rfl (fun w' _ => bpo w') ?_
        by_cases hpo : xpo = true
        ·
          refine RunF_sound tab_ok noX_local 400 [true] _ _ rfl ?_ ?_
          · first | (simp [gmm, emm, hpo]; done) | (simp [gpo _ ha64, epo _ ha64, grf _ ha64, erf _ ha64, git _ ha64, eit _ ha64, gco _ ha64, eco _ ha64, gfr _ ha64, efr _ ha64, gmm, emm, grw, erw, gwr, ewr, glk, elk, g0, e0, hpo]; omega)
          refine Run.callFn (r := .bool xma) noX_local rfl rfl rfl rfl rfl rfl rfl bit_enters rfl (fun w' _ => bma w') ?_
          by_cases hma : xma = true
          ·
            refine RunF_sound tab_ok noX_local 400 [true] _ _ rfl ?_ ?_
            · first | (simp [gmm, emm, hma]; done) | (simp [gpo _ ha64, epo _ ha64, grf _ ha64, erf _ ha64, git _ ha64, eit _ ha64, gco _ ha64, eco _ ha64, gfr _ ha64, efr _ ha64, gmm, emm, grw, erw, gwr, ewr, glk, elk, g0, e0, hpo, hma]; omega)
            refine Run.callFn (r := .bool xmb) noX_local rfl rfl rfl rfl rfl rfl rfl bit_enters rfl (fun w' _ => bmb w') ?_
            refine RunF_sound tab_ok noX_local 400 [true] _ _ rfl ?_ ?_
            · first | (simp; done) | (simp [gpo _ ha64, epo _ ha64, grf _ ha64, erf _ ha64, git _ ha64, eit _ ha64, gco _ ha64, eco _ ha64, gfr _ ha64, efr _ ha64, gmm, emm, grw, erw, gwr, ewr, glk, elk, g0, e0, hpo, hma]; omega)
            refine J _ ?_ ?_
            · exact ⟨⟨_, rfl, fun M => rfl⟩, ⟨_, rfl, fun M => rfl⟩, ⟨_, rfl, fun M => rfl⟩, ⟨_, rfl, fun M => rfl⟩, ⟨_, rfl, fun M => rfl⟩, ⟨_, rfl, fun M => rfl⟩, ⟨_, rfl, fun M => rfl⟩, ⟨_, rfl, fun M => rfl⟩, ⟨_, rfl, fun M => congrArg Value.bool (by simp [em, hpo, hma])⟩, ⟨_, rfl, fun M => rfl⟩, trivial⟩
            · exact ⟨rfl, rfl, rfl, trivial⟩
          ·
            refine RunF_sound tab_ok noX_local 400 [false, true] _ _ rfl ?_ ?_
            · first | (simp [hma]; done) | (simp [gpo _ ha64, epo _ ha64, grf _ ha64, erf _ ha64, git _ ha64, eit _ ha64, gco _ ha64, eco _ ha64, gfr _ ha64, efr _ ha64, gmm, emm, grw, erw, gwr, ewr, glk, elk, g0, e0, hpo, hma]; omega)
            refine J _ ?_ ?_
            · exact ⟨⟨_, rfl, fun M => rfl⟩, ⟨_, rfl, fun M => rfl⟩, ⟨_, rfl, fun M => rfl⟩, ⟨_, rfl, fun M => rfl⟩, ⟨_, rfl, fun M => rfl⟩, ⟨_, rfl, fun M => rfl⟩, ⟨_, rfl, fun M => rfl⟩, ⟨_, rfl, fun M => rfl⟩, ⟨_, rfl, fun M => congrArg Value.bool (by simp [em, hpo, hma])⟩, ⟨_, rfl, fun M => rfl⟩, trivial⟩
            · exact ⟨rfl, rfl, rfl, trivial⟩
        ·
          refine RunF_sound tab_ok noX_local 400 [false, true] _ _ rfl ?_ ?_
          · first | (simp [hpo]; done) | (simp [gpo _ ha64, epo _ ha64, grf _ ha64, erf _ ha64, git _ ha64, eit _ ha64, gco _ ha64, eco _ ha64, gfr _ ha64, efr _ ha64, gmm, emm, grw, erw, gwr, ewr, glk, elk, g0, e0, hpo]; omega)
          refine J _ ?_ ?_
          · exact ⟨⟨_, rfl, fun M => rfl⟩, ⟨_, rfl, fun M => rfl⟩, ⟨_, rfl, fun M => rfl⟩, ⟨_, rfl, fun M => rfl⟩, ⟨_, rfl, fun M => rfl⟩, ⟨_, rfl, fun M => rfl⟩, ⟨_, rfl, fun M => rfl⟩, ⟨_, rfl, fun M => rfl⟩, ⟨_, rfl, fun M => congrArg Value.bool (by simp [em, hpo])⟩, ⟨_, rfl, fun M => rfl⟩, trivial⟩
          · exact ⟨rfl, rfl, rfl, trivial⟩
      by_cases hF : xF = true
      ·
        refine RunF_sound tab_ok noX_local 400 [true, false, false] _ _ rfl ?_ ?_
        · have hwb0 := wrapn b (by omega)
          first | (simp [hwb0, relV_get _ _ ha64, intAt_row _ _ ha64, okCell, Value.oneCell', hF]; done) | (simp [hwb0, relV_get _ _ ha64, intAt_row _ _ ha64, okCell, Value.oneCell', hF]; omega)
        refine ihe (b + 1) (by omega) _ ⟨rfl, rfl, rfl, rfl, rfl, i64_eq (wrap_succ (by omega)), trivial⟩ ⟨rfl, rfl, congrArg (fun l => some (Blk.cells 34 [.vals 65 l])) ?_, trivial⟩
        simp [intAt_row _ _ ha64, wrapn b (by omega), shl1_un, relV_set _ _ ha64, Rl.seen_yes ha64 hb64 (show q a b = true by rw [hC]; simp [eC, hF])]
      ·
        by_cases hpo : xpo = true
        ·
          refine RunF_sound tab_ok noX_local 400 [false, true, false, false] _ _ rfl ?_ ?_
          · have hwb0 := wrapn b (by omega)
            first | (simp [hwb0, relV_get _ _ ha64, intAt_row _ _ ha64, okCell, Value.oneCell', hF, hpo]; done) | (simp [hwb0, relV_get _ _ ha64, intAt_row _ _ ha64, okCell, Value.oneCell', hF, hpo]; omega)
          refine ihe (b + 1) (by omega) _ ⟨rfl, rfl, rfl, rfl, rfl, i64_eq (wrap_succ (by omega)), trivial⟩ ⟨rfl, rfl, congrArg (fun l => some (Blk.cells 34 [.vals 65 l])) ?_, trivial⟩
          simp [intAt_row _ _ ha64, wrapn b (by omega), shl1_un, relV_set _ _ ha64, Rl.seen_yes ha64 hb64 (show q a b = true by rw [hC]; simp [eC, hF, hpo])]
        ·
          refine RunF_sound tab_ok noX_local 400 [false, false] _ _ rfl ?_ ?_
          · first | (simp [grf _ ha64, erf _ ha64, hF, hpo]; done) | (simp [grf _ ha64, erf _ ha64, hF, hpo]; omega)
          refine Run.callFn (r := .bool xrf) noX_local rfl rfl rfl rfl rfl rfl rfl bit_enters rfl (fun w' _ => brf w') ?_
          by_cases hrf : xrf = true
          ·
            refine RunF_sound tab_ok noX_local 400 [false, false, true] _ _ rfl ?_ ?_
            · have hwb0 := wrapn b (by omega)
              first | (simp [hwb0, relV_get _ _ ha64, intAt_row _ _ ha64, okCell, Value.oneCell', hrf]; done) | (simp [hwb0, relV_get _ _ ha64, intAt_row _ _ ha64, okCell, Value.oneCell', hrf]; omega)
            refine ihe (b + 1) (by omega) _ ⟨rfl, rfl, rfl, rfl, rfl, i64_eq (wrap_succ (by omega)), trivial⟩ ⟨rfl, rfl, congrArg (fun l => some (Blk.cells 34 [.vals 65 l])) ?_, trivial⟩
            simp [intAt_row _ _ ha64, wrapn b (by omega), shl1_un, relV_set _ _ ha64, Rl.seen_yes ha64 hb64 (show q a b = true by rw [hC]; simp [eC, hF, hpo, hrf])]
          ·
            refine RunF_sound tab_ok noX_local 400 [false, false, false] _ _ rfl ?_ ?_
            · first | (simp [hrf]; done) | (simp [gpo _ ha64, epo _ ha64, grf _ ha64, erf _ ha64, git _ ha64, eit _ ha64, gco _ ha64, eco _ ha64, gfr _ ha64, efr _ ha64, gmm, emm, grw, erw, gwr, ewr, glk, elk, g0, e0, hF, hpo, hrf]; omega)
            refine ihe (b + 1) (by omega) _ ⟨rfl, rfl, rfl, rfl, rfl, i64_eq (wrap_succ (by omega)), trivial⟩ ⟨rfl, rfl, ?_, trivial⟩
            rw [← Rl.seen_no (show q a b = false by rw [hC]; simp [eC, hF, hpo, hrf])]; rfl

set_option maxHeartbeats 4000000 in
theorem globalR2 (x : Xn) (w : World) (hX : SeesX w x) :
    Gives Tryd.prog 8 [.int .i64 2, encX x] w (.tuple #[encRel (Rl.gen ((shortL x.ev).length : Int) (cutB (shortL x.ev).length (con2 (shortL x.ev).length (rsX x)))), .int .i64 0]) := by
  refine Gives.of_run Tryd.func8 rfl (by show 2 ≤ 176; decide) ?_
  have hone := xV_one hX.one1 hX.one4
  have hrof := fun w' hA => rof_ok x w' (hX.agree hA)
  have hQ := rsX_ok x
  generalize rsX x = Q at *
  generalize (shortL x.ev).length = n at *
  have hlt := @cutB_lt n (con2 n Q)
  have hat := fun {a b} ha hb => @cutB_at n (con2 n Q) a b ha hb
  generalize cutB n (con2 n Q) = q at *
  refine RunF_sound tab_ok noX_local 400 [true, false, false] _ _ rfl ?_ ?_
  · simp
  refine Run.callFn (r := encRs Q) noX_local rfl rfl rfl rfl rfl rfl rfl rof_enters rfl (fun w' hA => hrof w' hA) ?_
  have hfen := fun a b ha hb w => fenR_ok Q n hQ a b ha hb w
  have hl := rsV_len Q
  have h1 := rsV_one Q
  have hn64 := hQ.le
  have g0 := rs_n Q
  rw [hQ.sz] at g0
  have e0 := int_of g0
  have gpo := fun (i : Nat) (hi : i < 64) => rs_po Q hi
  have epo := fun (i : Nat) (hi : i < 64) => int_of (gpo i hi)
  have grf := fun (i : Nat) (hi : i < 64) => rs_rf Q hi
  have erf := fun (i : Nat) (hi : i < 64) => int_of (grf i hi)
  have git := fun (i : Nat) (hi : i < 64) => rs_it Q hi
  have eit := fun (i : Nat) (hi : i < 64) => int_of (git i hi)
  have gco := fun (i : Nat) (hi : i < 64) => rs_co Q hi
  have eco := fun (i : Nat) (hi : i < 64) => int_of (gco i hi)
  have gfr := fun (i : Nat) (hi : i < 64) => rs_fr Q hi
  have efr := fun (i : Nat) (hi : i < 64) => int_of (gfr i hi)
  have gmm := rs_mm Q
  have emm := int_of gmm
  have grw := rs_rw Q
  have erw := int_of grw
  have gwr := rs_wr Q
  have ewr := int_of gwr
  have glk := rs_lk Q
  have elk := int_of glk
  unfold encRs at *
  generalize rsV Q = V at *
  refine RunF_sound tab_ok noX_local 400 [] _ _ rfl ?_ ?_
  · simp [segsVals, hl, e0, fillL, Value.cells, splice, relV_tail_one]
    exact ⟨rfl, ⟨h1, rfl⟩, (List.getElem?_eq_some_iff.1 g0).2⟩
  suffices H : ∀ (d a : Nat), a + d = n → ∀ σ, inT σ.t [(0, .v (.int .i64 2)), (4, .ptr 1 0), (6, .ptr 2 0), (7, .ptr 3 0), (8, .v (.int .i64 (a : Int)))] → inT σ.h [(1, .cells 34 [.vals 65 (relV (Rl.void 0))]), (2, .cells 76 [.vals 461 V]), (3, .cells 34 [.vals 65 (relV (Rl.gen (n : Int) (Rl.seen q a 0)))])] → Run _ _ σ by
    refine H n 0 (by omega) _ ⟨rfl, rfl, rfl, rfl, rfl, trivial⟩ ⟨rfl, rfl, ?_, trivial⟩
    simp only [e0]
    rw [Rl.seen_0]; rfl
  intro d
  induction d with
  | zero =>
    intro a hka σ ht hh
    refine Run.to ?_ ht hh (n' := 4)
    refine RunF_sound tab_ok noX_local 400 [false] _ _ rfl ?_ ?_
    · simp [e0, g0, segsVals, relV_one']; try omega
    refine Run.retL tab_ok Tryd.func8 rfl ?_ (fun M => ?_)
    · simp
    rw [Rl.seen_all (fun x y h => by have := hlt h; omega)]; rfl
  | succ d ih =>
    intro a hka σ ht hh
    refine Run.to ?_ ht hh (n' := 4)
    have ha64 : a < 64 := by omega
    refine RunF_sound tab_ok noX_local 400 [true] _ _ rfl ?_ ?_
    · simp [e0, g0]; omega
    suffices H2 : ∀ (e b : Nat), b + e = n → ∀ σ, inT σ.t [(0, .v (.int .i64 2)), (4, .ptr 1 0), (6, .ptr 2 0), (7, .ptr 3 0), (8, .v (.int .i64 (a : Int))), (9, .v (.int .i64 (b : Int)))] → inT σ.h [(1, .cells 34 [.vals 65 (relV (Rl.void 0))]), (2, .cells 76 [.vals 461 V]), (3, .cells 34 [.vals 65 (relV (Rl.gen (n : Int) (Rl.seen q a b)))])] → Run _ _ σ by
      exact H2 n 0 (by omega) _ ⟨rfl, rfl, rfl, rfl, rfl, rfl, trivial⟩ ⟨rfl, rfl, rfl, trivial⟩
    intro e
    induction e with
    | zero =>
      intro b hkb σ ht hh
      refine Run.to ?_ ht hh (n' := 4)
      refine RunF_sound tab_ok noX_local 400 [false] _ _ rfl ?_ ?_
      · simp [e0, g0]; omega
      rw [Rl.seen_row (fun x y h => by have := hlt h; omega)]
      exact ih (a + 1) (by omega) _ ⟨rfl, rfl, rfl, rfl, i64_eq (wrap_succ (by omega)), trivial⟩ ⟨rfl, rfl, rfl, trivial⟩
    | succ e ihe =>
      intro b hkb σ ht hh
      refine Run.to ?_ ht hh (n' := 4)
      have hb64 : b < 64 := by omega
      have hC := hat (show a < n by omega) (show b < n by omega)
      have bco : ∀ w', Gives Tryd.prog 25 [.int .u64 (intAt V (0 + 326 + 1 - 0 + a * 1)), .int .i64 (b : Int)] w' (.bool (Q.co.has a b)) := fun w' => by rw [show 0 + 326 + 1 - 0 + a * 1 = 327 + a by omega, eco a ha64]; exact bit_ok _ _ hb64 w'
      obtain ⟨xco, dco⟩ : ∃ v, v = Q.co.has a b := ⟨_, rfl⟩
      rw [← dco] at bco
      have bfr : ∀ w', Gives Tryd.prog 25 [.int .u64 (intAt V (0 + 391 + 1 - 0 + a * 1)), .int .i64 (b : Int)] w' (.bool (Q.fr.has a b)) := fun w' => by rw [show 0 + 391 + 1 - 0 + a * 1 = 392 + a by omega, efr a ha64]; exact bit_ok _ _ hb64 w'
      obtain ⟨xfr, dfr⟩ : ∃ v, v = Q.fr.has a b := ⟨_, rfl⟩
      rw [← dfr] at bfr
      have bpo : ∀ w', Gives Tryd.prog 25 [.int .u64 (intAt V (0 + 1 + 1 - 0 + a * 1)), .int .i64 (b : Int)] w' (.bool (Q.po.has a b)) := fun w' => by rw [show 0 + 1 + 1 - 0 + a * 1 = 2 + a by omega, epo a ha64]; exact bit_ok _ _ hb64 w'
      obtain ⟨xpo, dpo⟩ : ∃ v, v = Q.po.has a b := ⟨_, rfl⟩
      rw [← dpo] at bpo
      have brf : ∀ w', Gives Tryd.prog 25 [.int .u64 (intAt V (0 + 261 + 1 - 0 + a * 1)), .int .i64 (b : Int)] w' (.bool (Q.rf.has a b)) := fun w' => by rw [show 0 + 261 + 1 - 0 + a * 1 = 262 + a by omega, erf a ha64]; exact bit_ok _ _ hb64 w'
      obtain ⟨xrf, drf⟩ : ∃ v, v = Q.rf.has a b := ⟨_, rfl⟩
      rw [← drf] at brf
      have bma : ∀ w', Gives Tryd.prog 25 [.int .u64 (intAt V 456), .int .i64 (a : Int)] w' (.bool (Q.mm.getLsbD a)) := fun w' => by rw [emm]; exact bit_ok _ _ ha64 w'
      obtain ⟨xma, dma⟩ : ∃ v, v = Q.mm.getLsbD a := ⟨_, rfl⟩
      rw [← dma] at bma
      have bmb : ∀ w', Gives Tryd.prog 25 [.int .u64 (intAt V 456), .int .i64 (b : Int)] w' (.bool (Q.mm.getLsbD b)) := fun w' => by rw [emm]; exact bit_ok _ _ hb64 w'
      obtain ⟨xmb, dmb⟩ : ∃ v, v = Q.mm.getLsbD b := ⟨_, rfl⟩
      rw [← dmb] at bmb
      have bit : ∀ w', Gives Tryd.prog 25 [.int .u64 (intAt V (0 + 131 + 1 - 0 + a * 1)), .int .i64 (b : Int)] w' (.bool (Q.it.has a b)) := fun w' => by rw [show 0 + 131 + 1 - 0 + a * 1 = 132 + a by omega, eit a ha64]; exact bit_ok _ _ hb64 w'
      obtain ⟨xit, dit⟩ : ∃ v, v = Q.it.has a b := ⟨_, rfl⟩
      rw [← dit] at bit
      have bla : ∀ w', Gives Tryd.prog 25 [.int .u64 (intAt V 460), .int .i64 (a : Int)] w' (.bool (Q.lk.getLsbD a)) := fun w' => by rw [elk]; exact bit_ok _ _ ha64 w'
      obtain ⟨xla, dla⟩ : ∃ v, v = Q.lk.getLsbD a := ⟨_, rfl⟩
      rw [← dla] at bla
      have blb : ∀ w', Gives Tryd.prog 25 [.int .u64 (intAt V 460), .int .i64 (b : Int)] w' (.bool (Q.lk.getLsbD b)) := fun w' => by rw [elk]; exact bit_ok _ _ hb64 w'
      obtain ⟨xlb, dlb⟩ : ∃ v, v = Q.lk.getLsbD b := ⟨_, rfl⟩
      rw [← dlb] at blb
      have bra : ∀ w', Gives Tryd.prog 25 [.int .u64 (intAt V 457), .int .i64 (a : Int)] w' (.bool (Q.rw.getLsbD a)) := fun w' => by rw [erw]; exact bit_ok _ _ ha64 w'
      obtain ⟨xra, dra⟩ : ∃ v, v = Q.rw.getLsbD a := ⟨_, rfl⟩
      rw [← dra] at bra
      have bwb : ∀ w', Gives Tryd.prog 25 [.int .u64 (intAt V 458), .int .i64 (b : Int)] w' (.bool (Q.wr.getLsbD b)) := fun w' => by rw [ewr]; exact bit_ok _ _ hb64 w'
      obtain ⟨xwb, dwb⟩ : ∃ v, v = Q.wr.getLsbD b := ⟨_, rfl⟩
      rw [← dwb] at bwb
      have bfe := fun w' => hfen a b ha64 hb64 w'
      obtain ⟨xfe, dfe⟩ : ∃ v, v = fenB n Q a b := ⟨_, rfl⟩
      rw [← dfe] at bfe
      obtain ⟨xF, eF⟩ : ∃ v, v = (xco || xfr) := ⟨_, rfl⟩
      obtain ⟨xm, em⟩ : ∃ v, v = ((xpo && xma) && xmb) := ⟨_, rfl⟩
      obtain ⟨xA, eA⟩ : ∃ v, v = (xrf && xit) := ⟨_, rfl⟩
      obtain ⟨xD, eD⟩ : ∃ v, v = (((xF || xA) || xfe) || (xm && (xla || xlb))) := ⟨_, rfl⟩
      obtain ⟨xC, eC⟩ : ∃ v, v = (xD || (xm && !(xra && xwb))) := ⟨_, rfl⟩
      have hC : q a b = xC := by rw [hC, eC, eD, eA, em, eF, dco, dfr, dpo, drf, dma, dmb, dit, dla, dlb, dra, dwb, dfe]; rfl
      clear dco dfr dpo drf dma dmb dit dla dlb dra dwb dfe
      refine RunF_sound tab_ok noX_local 400 [true] _ _ rfl ?_ ?_
      · first | (simp [gco _ ha64, eco _ ha64, g0, e0]; done) | (simp [gco _ ha64, eco _ ha64, g0, e0]; omega)
      refine' Run.join (todo' := _) [(0, .v (.int .i64 2)), (4, .ptr 1 0), (6, .ptr 2 0), (7, .ptr 3 0), (8, .v (.int .i64 (a : Int))), (9, .v (.int .i64 (b : Int))), (10, .v (.bool xF)), (61, .v (.int .u64 (intAt V (0 + 1 + 1 - 0 + a * 1)))), (62, .v (.int .i64 (b : Int)))] [(1, .cells 34 [.vals 65 (relV (Rl.void 0))]), (2, .cells 76 [.vals 461 V]), (3, .cells 34 [.vals 65 (relV (Rl.gen (n : Int) (Rl.seen q a b)))])] 4 ?_ ?_
      rotate_left
      · intro J
        refine Run.callFn (r := .bool xco) noX_local rfl rfl rfl rfl rfl rfl rfl bit_enters rfl (fun w' _ => bco w') ?_
        by_cases hco : xco = true
        ·
          refine RunF_sound tab_ok noX_local 400 [true] _ _ rfl ?_ ?_
          · first | (simp [gpo _ ha64, epo _ ha64, hco]; done) | (simp [gpo _ ha64, epo _ ha64, hco]; omega)
          refine J _ ?_ ?_
          · exact ⟨⟨_, rfl, fun M => rfl⟩, ⟨_, rfl, fun M => rfl⟩, ⟨_, rfl, fun M => rfl⟩, ⟨_, rfl, fun M => rfl⟩, ⟨_, rfl, fun M => rfl⟩, ⟨_, rfl, fun M => rfl⟩, ⟨_, rfl, fun M => congrArg Value.bool (by simp [eF, hco])⟩, ⟨_, rfl, fun M => rfl⟩, ⟨_, rfl, fun M => rfl⟩, trivial⟩
          · exact ⟨rfl, rfl, rfl, trivial⟩
        ·
          refine RunF_sound tab_ok noX_local 400 [false] _ _ rfl ?_ ?_
          · first | (simp [gfr _ ha64, efr _ ha64, hco]; done) | (simp [gfr _ ha64, efr _ ha64, hco]; omega)
          refine Run.callFn (r := .bool xfr) noX_local rfl rfl rfl rfl rfl rfl rfl bit_enters rfl (fun w' _ => bfr w') ?_
          refine RunF_sound tab_ok noX_local 400 [] _ _ rfl ?_ ?_
          · first | (simp [gpo _ ha64, epo _ ha64]; done) | (simp [gpo _ ha64, epo _ ha64]; omega)
          refine J _ ?_ ?_
          · exact ⟨⟨_, rfl, fun M => rfl⟩, ⟨_, rfl, fun M => rfl⟩, ⟨_, rfl, fun M => rfl⟩, ⟨_, rfl, fun M => rfl⟩, ⟨_, rfl, fun M => rfl⟩, ⟨_, rfl, fun M => rfl⟩, ⟨_, rfl, fun M => congrArg Value.bool (by simp [eF, hco])⟩, ⟨_, rfl, fun M => rfl⟩, ⟨_, rfl, fun M => rfl⟩, trivial⟩
          · exact ⟨rfl, rfl, rfl, trivial⟩
      refine' Run.join (todo' := _) [(0, .v (.int .i64 2)), (4, .ptr 1 0), (6, .ptr 2 0), (7, .ptr 3 0), (8, .v (.int .i64 (a : Int))), (9, .v (.int .i64 (b : Int))), (10, .v (.bool xF)), (11, .v (.bool xpo)), (12, .v (.bool xm)), (93, .v (.bool xF))] [(1, .cells 34 [.vals 65 (relV (Rl.void 0))]), (2, .cells 76 [.vals 461 V]), (3, .cells 34 [.vals 65 (relV (Rl.gen (n : Int) (Rl.seen q a b)))])] 4 ?_ ?_
      rotate_left
      · intro J
        refine Run.callFn (r := .bool xpo) noX_local rfl rfl rfl rfl rfl rfl rfl bit_enters rfl (fun w' _ => bpo w') ?_
        by_cases hpo : xpo = true
        ·
          refine RunF_sound tab_ok noX_local 400 [true] _ _ rfl ?_ ?_
          · first | (simp [gmm, emm, hpo]; done) | (simp [gpo _ ha64, epo _ ha64, grf _ ha64, erf _ ha64, git _ ha64, eit _ ha64, gco _ ha64, eco _ ha64, gfr _ ha64, efr _ ha64, gmm, emm, grw, erw, gwr, ewr, glk, elk, g0, e0, hpo]; omega)
          refine Run.callFn (r := .bool xma) noX_local rfl rfl rfl rfl rfl rfl rfl bit_enters rfl (fun w' _ => bma w') ?_
          by_cases hma : xma = true
          ·
            refine RunF_sound tab_ok noX_local 400 [true] _ _ rfl ?_ ?_
            · first | (simp [gmm, emm, hma]; done) | (simp [gpo _ ha64, epo _ ha64, grf _ ha64, erf _ ha64, git _ ha64, eit _ ha64, gco _ ha64, eco _ ha64, gfr _ ha64, efr _ ha64, gmm, emm, grw, erw, gwr, ewr, glk, elk, g0, e0, hpo, hma]; omega)
            refine Run.callFn (r := .bool xmb) noX_local rfl rfl rfl rfl rfl rfl rfl bit_enters rfl (fun w' _ => bmb w') ?_
            refine RunF_sound tab_ok noX_local 400 [false] _ _ rfl ?_ ?_
            · first | (simp; done) | (simp [gpo _ ha64, epo _ ha64, grf _ ha64, erf _ ha64, git _ ha64, eit _ ha64, gco _ ha64, eco _ ha64, gfr _ ha64, efr _ ha64, gmm, emm, grw, erw, gwr, ewr, glk, elk, g0, e0, hpo, hma]; omega)
            refine J _ ?_ ?_
            · exact ⟨⟨_, rfl, fun M => rfl⟩, ⟨_, rfl, fun M => rfl⟩, ⟨_, rfl, fun M => rfl⟩, ⟨_, rfl, fun M => rfl⟩, ⟨_, rfl, fun M => rfl⟩, ⟨_, rfl, fun M => rfl⟩, ⟨_, rfl, fun M => rfl⟩, ⟨_, rfl, fun M => rfl⟩, ⟨_, rfl, fun M => congrArg Value.bool (by simp [em, hpo, hma])⟩, ⟨_, rfl, fun M => rfl⟩, trivial⟩
            · exact ⟨rfl, rfl, rfl, trivial⟩
          ·
            refine RunF_sound tab_ok noX_local 400 [false, false] _ _ rfl ?_ ?_
            · first | (simp [hma]; done) | (simp [gpo _ ha64, epo _ ha64, grf _ ha64, erf _ ha64, git _ ha64, eit _ ha64, gco _ ha64, eco _ ha64, gfr _ ha64, efr _ ha64, gmm, emm, grw, erw, gwr, ewr, glk, elk, g0, e0, hpo, hma]; omega)
            refine J _ ?_ ?_
            · exact ⟨⟨_, rfl, fun M => rfl⟩, ⟨_, rfl, fun M => rfl⟩, ⟨_, rfl, fun M => rfl⟩, ⟨_, rfl, fun M => rfl⟩, ⟨_, rfl, fun M => rfl⟩, ⟨_, rfl, fun M => rfl⟩, ⟨_, rfl, fun M => rfl⟩, ⟨_, rfl, fun M => rfl⟩, ⟨_, rfl, fun M => congrArg Value.bool (by simp [em, hpo, hma])⟩, ⟨_, rfl, fun M => rfl⟩, trivial⟩
            · exact ⟨rfl, rfl, rfl, trivial⟩
        ·
          refine RunF_sound tab_ok noX_local 400 [false, false] _ _ rfl ?_ ?_
          · first | (simp [hpo]; done) | (simp [gpo _ ha64, epo _ ha64, grf _ ha64, erf _ ha64, git _ ha64, eit _ ha64, gco _ ha64, eco _ ha64, gfr _ ha64, efr _ ha64, gmm, emm, grw, erw, gwr, ewr, glk, elk, g0, e0, hpo]; omega)
          refine J _ ?_ ?_
          · exact ⟨⟨_, rfl, fun M => rfl⟩, ⟨_, rfl, fun M => rfl⟩, ⟨_, rfl, fun M => rfl⟩, ⟨_, rfl, fun M => rfl⟩, ⟨_, rfl, fun M => rfl⟩, ⟨_, rfl, fun M => rfl⟩, ⟨_, rfl, fun M => rfl⟩, ⟨_, rfl, fun M => rfl⟩, ⟨_, rfl, fun M => congrArg Value.bool (by simp [em, hpo])⟩, ⟨_, rfl, fun M => rfl⟩, trivial⟩
          · exact ⟨rfl, rfl, rfl, trivial⟩
      refine' Run.join (todo' := _) [(0, .v (.int .i64 2)), (4, .ptr 1 0), (6, .ptr 2 0), (7, .ptr 3 0), (8, .v (.int .i64 (a : Int))), (9, .v (.int .i64 (b : Int))), (10, .v (.bool xD)), (12, .v (.bool xm)), (133, .v (.bool (decide ((2 : Int) = 2))))] [(1, .cells 34 [.vals 65 (relV (Rl.void 0))]), (2, .cells 76 [.vals 461 V]), (3, .cells 34 [.vals 65 (relV (Rl.gen (n : Int) (Rl.seen q a b)))])] 4 ?_ ?_
      rotate_left
      · intro J4
        by_cases hF : xF = true
        ·
          refine RunF_sound tab_ok noX_local 400 [true] _ _ rfl ?_ ?_
          · first | (simp [hF]; done) | (simp [gpo _ ha64, epo _ ha64, grf _ ha64, erf _ ha64, git _ ha64, eit _ ha64, gco _ ha64, eco _ ha64, gfr _ ha64, efr _ ha64, gmm, emm, grw, erw, gwr, ewr, glk, elk, g0, e0, hF]; omega)
          refine J4 _ ?_ ?_
          · exact ⟨⟨_, rfl, fun M => rfl⟩, ⟨_, rfl, fun M => rfl⟩, ⟨_, rfl, fun M => rfl⟩, ⟨_, rfl, fun M => rfl⟩, ⟨_, rfl, fun M => rfl⟩, ⟨_, rfl, fun M => rfl⟩, ⟨_, rfl, fun M => congrArg Value.bool (by simp [eD, hF])⟩, ⟨_, rfl, fun M => rfl⟩, ⟨_, rfl, fun M => rfl⟩, trivial⟩
          · exact ⟨rfl, rfl, rfl, trivial⟩
        ·
          by_cases hA : xA = true
          ·
            refine RunF_sound tab_ok noX_local 400 [false] _ _ rfl ?_ ?_
            · first | (simp [grf _ ha64, erf _ ha64, hF]; done) | (simp [grf _ ha64, erf _ ha64, hF]; omega)
            refine Run.callFn (r := .bool xrf) noX_local rfl rfl rfl rfl rfl rfl rfl bit_enters rfl (fun w' _ => brf w') ?_
            have hrf : xrf = true := by rw [eA] at hA; exact (Bool.and_eq_true_iff.1 hA).1
            have hit : xit = true := by rw [eA] at hA; exact (Bool.and_eq_true_iff.1 hA).2
            refine RunF_sound tab_ok noX_local 400 [true] _ _ rfl ?_ ?_
            · first | (simp [git _ ha64, eit _ ha64, hrf]; done) | (simp [git _ ha64, eit _ ha64, hrf]; omega)
            refine Run.callFn (r := .bool xit) noX_local rfl rfl rfl rfl rfl rfl rfl bit_enters rfl (fun w' _ => bit w') ?_
            refine RunF_sound tab_ok noX_local 400 [true] _ _ rfl ?_ ?_
            · first | (simp [hit]; done) | (simp [gpo _ ha64, epo _ ha64, grf _ ha64, erf _ ha64, git _ ha64, eit _ ha64, gco _ ha64, eco _ ha64, gfr _ ha64, efr _ ha64, gmm, emm, grw, erw, gwr, ewr, glk, elk, g0, e0, hF, hA, hrf, hit]; omega)
            refine J4 _ ?_ ?_
            · exact ⟨⟨_, rfl, fun M => rfl⟩, ⟨_, rfl, fun M => rfl⟩, ⟨_, rfl, fun M => rfl⟩, ⟨_, rfl, fun M => rfl⟩, ⟨_, rfl, fun M => rfl⟩, ⟨_, rfl, fun M => rfl⟩, ⟨_, rfl, fun M => congrArg Value.bool (by simp [eD, hF, hA])⟩, ⟨_, rfl, fun M => rfl⟩, ⟨_, rfl, fun M => rfl⟩, trivial⟩
            · exact ⟨rfl, rfl, rfl, trivial⟩
          ·
            refine RunF_sound tab_ok noX_local 400 [false] _ _ rfl ?_ ?_
            · first | (simp [grf _ ha64, erf _ ha64, hF]; done) | (simp [grf _ ha64, erf _ ha64, hF]; omega)
            refine' Run.join (todo' := _) [(0, .v (.int .i64 2)), (4, .ptr 1 0), (6, .ptr 2 0), (7, .ptr 3 0), (8, .v (.int .i64 (a : Int))), (9, .v (.int .i64 (b : Int))), (12, .v (.bool xm)), (111, .tt false), (112, .v (.agg V.toArray)), (113, .v (.int .i64 (a : Int))), (114, .v (.int .i64 (b : Int)))] [(1, .cells 34 [.vals 65 (relV (Rl.void 0))]), (2, .cells 76 [.vals 461 V]), (3, .cells 34 [.vals 65 (relV (Rl.gen (n : Int) (Rl.seen q a b)))])] 4 ?_ ?_
            rotate_left
            · intro J3
              refine Run.callFn (r := .bool xrf) noX_local rfl rfl rfl rfl rfl rfl rfl bit_enters rfl (fun w' _ => brf w') ?_
              by_cases hrf : xrf = true
              ·
                refine RunF_sound tab_ok noX_local 400 [true] _ _ rfl ?_ ?_
                · first | (simp [git _ ha64, eit _ ha64, hrf]; done) | (simp [git _ ha64, eit _ ha64, hrf]; omega)
                refine Run.callFn (r := .bool xit) noX_local rfl rfl rfl rfl rfl rfl rfl bit_enters rfl (fun w' _ => bit w') ?_
                have hit : ¬ xit = true := fun h => hA (by rw [eA, hrf, h]; rfl)
                refine RunF_sound tab_ok noX_local 400 [false] _ _ rfl ?_ ?_
                · first | (simp [hit, hl]; done) | (simp [gpo _ ha64, epo _ ha64, grf _ ha64, erf _ ha64, git _ ha64, eit _ ha64, gco _ ha64, eco _ ha64, gfr _ ha64, efr _ ha64, gmm, emm, grw, erw, gwr, ewr, glk, elk, g0, e0, hF, hA, hrf, hit, hl, segsVals, h1]; omega)
                refine J3 _ ?_ ?_
                · exact ⟨⟨_, rfl, fun M => rfl⟩, ⟨_, rfl, fun M => rfl⟩, ⟨_, rfl, fun M => rfl⟩, ⟨_, rfl, fun M => rfl⟩, ⟨_, rfl, fun M => rfl⟩, ⟨_, rfl, fun M => rfl⟩, ⟨_, rfl, fun M => rfl⟩, ⟨_, rfl, fun M => rfl⟩, ⟨_, rfl, fun M => rfl⟩, ⟨_, rfl, fun M => rfl⟩, ⟨_, rfl, fun M => rfl⟩, trivial⟩
                · exact ⟨rfl, rfl, rfl, trivial⟩
              ·
                refine RunF_sound tab_ok noX_local 400 [false] _ _ rfl ?_ ?_
                · first | (simp [hrf, hl]; done) | (simp [gpo _ ha64, epo _ ha64, grf _ ha64, erf _ ha64, git _ ha64, eit _ ha64, gco _ ha64, eco _ ha64, gfr _ ha64, efr _ ha64, gmm, emm, grw, erw, gwr, ewr, glk, elk, g0, e0, hF, hA, hrf, hl, segsVals, h1]; omega)
                refine J3 _ ?_ ?_
                · exact ⟨⟨_, rfl, fun M => rfl⟩, ⟨_, rfl, fun M => rfl⟩, ⟨_, rfl, fun M => rfl⟩, ⟨_, rfl, fun M => rfl⟩, ⟨_, rfl, fun M => rfl⟩, ⟨_, rfl, fun M => rfl⟩, ⟨_, rfl, fun M => rfl⟩, ⟨_, rfl, fun M => rfl⟩, ⟨_, rfl, fun M => rfl⟩, ⟨_, rfl, fun M => rfl⟩, ⟨_, rfl, fun M => rfl⟩, trivial⟩
                · exact ⟨rfl, rfl, rfl, trivial⟩
            refine Run.callFn (r := .bool xfe) noX_local rfl rfl rfl rfl rfl rfl rfl fenR_enters rfl (fun w' _ => bfe w') ?_
            by_cases hfe : xfe = true
            ·
              refine RunF_sound tab_ok noX_local 400 [true] _ _ rfl ?_ ?_
              · first | (simp [hfe]; done) | (simp [gpo _ ha64, epo _ ha64, grf _ ha64, erf _ ha64, git _ ha64, eit _ ha64, gco _ ha64, eco _ ha64, gfr _ ha64, efr _ ha64, gmm, emm, grw, erw, gwr, ewr, glk, elk, g0, e0, hF, hA, hfe]; omega)
              refine J4 _ ?_ ?_
              · exact ⟨⟨_, rfl, fun M => rfl⟩, ⟨_, rfl, fun M => rfl⟩, ⟨_, rfl, fun M => rfl⟩, ⟨_, rfl, fun M => rfl⟩, ⟨_, rfl, fun M => rfl⟩, ⟨_, rfl, fun M => rfl⟩, ⟨_, rfl, fun M => congrArg Value.bool (by simp [eD, hF, hA, hfe])⟩, ⟨_, rfl, fun M => rfl⟩, ⟨_, rfl, fun M => rfl⟩, trivial⟩
              · exact ⟨rfl, rfl, rfl, trivial⟩
            ·
              by_cases hm : xm = true
              ·
                refine RunF_sound tab_ok noX_local 400 [false, true] _ _ rfl ?_ ?_
                · first | (simp [glk, elk, hfe, hm]; done) | (simp [gpo _ ha64, epo _ ha64, grf _ ha64, erf _ ha64, git _ ha64, eit _ ha64, gco _ ha64, eco _ ha64, gfr _ ha64, efr _ ha64, gmm, emm, grw, erw, gwr, ewr, glk, elk, g0, e0, hF, hA, hfe, hm]; omega)
                refine Run.callFn (r := .bool xla) noX_local rfl rfl rfl rfl rfl rfl rfl bit_enters rfl (fun w' _ => bla w') ?_
                by_cases hla : xla = true
                ·
                  refine RunF_sound tab_ok noX_local 400 [true] _ _ rfl ?_ ?_
                  · first | (simp [hla]; done) | (simp [gpo _ ha64, epo _ ha64, grf _ ha64, erf _ ha64, git _ ha64, eit _ ha64, gco _ ha64, eco _ ha64, gfr _ ha64, efr _ ha64, gmm, emm, grw, erw, gwr, ewr, glk, elk, g0, e0, hF, hA, hfe, hm, hla]; omega)
                  refine J4 _ ?_ ?_
                  · exact ⟨⟨_, rfl, fun M => rfl⟩, ⟨_, rfl, fun M => rfl⟩, ⟨_, rfl, fun M => rfl⟩, ⟨_, rfl, fun M => rfl⟩, ⟨_, rfl, fun M => rfl⟩, ⟨_, rfl, fun M => rfl⟩, ⟨_, rfl, fun M => congrArg Value.bool (by simp [eD, hF, hA, hfe, hm, hla])⟩, ⟨_, rfl, fun M => rfl⟩, ⟨_, rfl, fun M => rfl⟩, trivial⟩
                  · exact ⟨rfl, rfl, rfl, trivial⟩
                ·
                  refine RunF_sound tab_ok noX_local 400 [false] _ _ rfl ?_ ?_
                  · first | (simp [glk, elk, hla]; done) | (simp [gpo _ ha64, epo _ ha64, grf _ ha64, erf _ ha64, git _ ha64, eit _ ha64, gco _ ha64, eco _ ha64, gfr _ ha64, efr _ ha64, gmm, emm, grw, erw, gwr, ewr, glk, elk, g0, e0, hF, hA, hfe, hm, hla]; omega)
                  refine Run.callFn (r := .bool xlb) noX_local rfl rfl rfl rfl rfl rfl rfl bit_enters rfl (fun w' _ => blb w') ?_
                  refine RunF_sound tab_ok noX_local 400 [] _ _ rfl ?_ ?_
                  · first | (simp; done) | (simp [gpo _ ha64, epo _ ha64, grf _ ha64, erf _ ha64, git _ ha64, eit _ ha64, gco _ ha64, eco _ ha64, gfr _ ha64, efr _ ha64, gmm, emm, grw, erw, gwr, ewr, glk, elk, g0, e0, hF, hA, hfe, hm, hla]; omega)
                  refine J4 _ ?_ ?_
                  · exact ⟨⟨_, rfl, fun M => rfl⟩, ⟨_, rfl, fun M => rfl⟩, ⟨_, rfl, fun M => rfl⟩, ⟨_, rfl, fun M => rfl⟩, ⟨_, rfl, fun M => rfl⟩, ⟨_, rfl, fun M => rfl⟩, ⟨_, rfl, fun M => congrArg Value.bool (by simp [eD, hF, hA, hfe, hm, hla])⟩, ⟨_, rfl, fun M => rfl⟩, ⟨_, rfl, fun M => rfl⟩, trivial⟩
                  · exact ⟨rfl, rfl, rfl, trivial⟩
              ·
                refine RunF_sound tab_ok noX_local 400 [false, false] _ _ rfl ?_ ?_
                · first | (simp [hfe, hm]; done) | (simp [gpo _ ha64, epo _ ha64, grf _ ha64, erf _ ha64, git _ ha64, eit _ ha64, gco _ ha64, eco _ ha64, gfr _ ha64, efr _ ha64, gmm, emm, grw, erw, gwr, ewr, glk, elk, g0, e0, hF, hA, hfe, hm]; omega)
                refine J4 _ ?_ ?_
                · exact ⟨⟨_, rfl, fun M => rfl⟩, ⟨_, rfl, fun M => rfl⟩, ⟨_, rfl, fun M => rfl⟩, ⟨_, rfl, fun M => rfl⟩, ⟨_, rfl, fun M => rfl⟩, ⟨_, rfl, fun M => rfl⟩, ⟨_, rfl, fun M => congrArg Value.bool (by simp [eD, hF, hA, hfe, hm])⟩, ⟨_, rfl, fun M => rfl⟩, ⟨_, rfl, fun M => rfl⟩, trivial⟩
                · exact ⟨rfl, rfl, rfl, trivial⟩
      by_cases hD : xD = true
      ·
        refine RunF_sound tab_ok noX_local 400 [true, true, false] _ _ rfl ?_ ?_
        · have hwb0 := wrapn b (by omega)
          first | (simp [hwb0, relV_get _ _ ha64, intAt_row _ _ ha64, okCell, Value.oneCell', hD]; done) | (simp [hwb0, relV_get _ _ ha64, intAt_row _ _ ha64, okCell, Value.oneCell', hD]; omega)
        refine ihe (b + 1) (by omega) _ ⟨rfl, rfl, rfl, rfl, rfl, i64_eq (wrap_succ (by omega)), trivial⟩ ⟨rfl, rfl, congrArg (fun l => some (Blk.cells 34 [.vals 65 l])) ?_, trivial⟩
        simp [intAt_row _ _ ha64, wrapn b (by omega), shl1_un, relV_set _ _ ha64, Rl.seen_yes ha64 hb64 (show q a b = true by rw [hC]; simp [eC, hD])]
      ·
        by_cases hm : xm = true
        ·
          refine RunF_sound tab_ok noX_local 400 [true, false, true] _ _ rfl ?_ ?_
          · first | (simp [grw, erw, hD, hm]; done) | (simp [gpo _ ha64, epo _ ha64, grf _ ha64, erf _ ha64, git _ ha64, eit _ ha64, gco _ ha64, eco _ ha64, gfr _ ha64, efr _ ha64, gmm, emm, grw, erw, gwr, ewr, glk, elk, g0, e0, hD, hm]; omega)
          refine Run.callFn (r := .bool xra) noX_local rfl rfl rfl rfl rfl rfl rfl bit_enters rfl (fun w' _ => bra w') ?_
          by_cases hra : xra = true
          ·
            refine RunF_sound tab_ok noX_local 400 [true] _ _ rfl ?_ ?_
            · first | (simp [gwr, ewr, hra]; done) | (simp [gpo _ ha64, epo _ ha64, grf _ ha64, erf _ ha64, git _ ha64, eit _ ha64, gco _ ha64, eco _ ha64, gfr _ ha64, efr _ ha64, gmm, emm, grw, erw, gwr, ewr, glk, elk, g0, e0, hD, hm, hra]; omega)
            refine Run.callFn (r := .bool xwb) noX_local rfl rfl rfl rfl rfl rfl rfl bit_enters rfl (fun w' _ => bwb w') ?_
            by_cases hwb : xwb = true
            ·
              refine RunF_sound tab_ok noX_local 400 [false, false] _ _ rfl ?_ ?_
              · first | (simp [hwb]; done) | (simp [gpo _ ha64, epo _ ha64, grf _ ha64, erf _ ha64, git _ ha64, eit _ ha64, gco _ ha64, eco _ ha64, gfr _ ha64, efr _ ha64, gmm, emm, grw, erw, gwr, ewr, glk, elk, g0, e0, hD, hm, hra, hwb]; omega)
              refine ihe (b + 1) (by omega) _ ⟨rfl, rfl, rfl, rfl, rfl, i64_eq (wrap_succ (by omega)), trivial⟩ ⟨rfl, rfl, ?_, trivial⟩
              rw [← Rl.seen_no (show q a b = false by rw [hC]; simp [eC, hD, hm, hra, hwb])]; rfl
            ·
              refine RunF_sound tab_ok noX_local 400 [false, true] _ _ rfl ?_ ?_
              · have hwb0 := wrapn b (by omega)
                first | (simp [hwb0, relV_get _ _ ha64, intAt_row _ _ ha64, okCell, Value.oneCell', hwb]; done) | (simp [hwb0, relV_get _ _ ha64, intAt_row _ _ ha64, okCell, Value.oneCell', hwb]; omega)
              refine ihe (b + 1) (by omega) _ ⟨rfl, rfl, rfl, rfl, rfl, i64_eq (wrap_succ (by omega)), trivial⟩ ⟨rfl, rfl, congrArg (fun l => some (Blk.cells 34 [.vals 65 l])) ?_, trivial⟩
              simp [intAt_row _ _ ha64, wrapn b (by omega), shl1_un, relV_set _ _ ha64, Rl.seen_yes ha64 hb64 (show q a b = true by rw [hC]; simp [eC, hD, hm, hra, hwb])]
          ·
            refine RunF_sound tab_ok noX_local 400 [false, false, true] _ _ rfl ?_ ?_
            · have hwb0 := wrapn b (by omega)
              first | (simp [hwb0, relV_get _ _ ha64, intAt_row _ _ ha64, okCell, Value.oneCell', hra]; done) | (simp [hwb0, relV_get _ _ ha64, intAt_row _ _ ha64, okCell, Value.oneCell', hra]; omega)
            refine ihe (b + 1) (by omega) _ ⟨rfl, rfl, rfl, rfl, rfl, i64_eq (wrap_succ (by omega)), trivial⟩ ⟨rfl, rfl, congrArg (fun l => some (Blk.cells 34 [.vals 65 l])) ?_, trivial⟩
            simp [intAt_row _ _ ha64, wrapn b (by omega), shl1_un, relV_set _ _ ha64, Rl.seen_yes ha64 hb64 (show q a b = true by rw [hC]; simp [eC, hD, hm, hra])]
        ·
          refine RunF_sound tab_ok noX_local 400 [true, false, false, false] _ _ rfl ?_ ?_
          · first | (simp [hD, hm]; done) | (simp [gpo _ ha64, epo _ ha64, grf _ ha64, erf _ ha64, git _ ha64, eit _ ha64, gco _ ha64, eco _ ha64, gfr _ ha64, efr _ ha64, gmm, emm, grw, erw, gwr, ewr, glk, elk, g0, e0, hD, hm]; omega)
          refine ihe (b + 1) (by omega) _ ⟨rfl, rfl, rfl, rfl, rfl, i64_eq (wrap_succ (by omega)), trivial⟩ ⟨rfl, rfl, ?_, trivial⟩
          rw [← Rl.seen_no (show q a b = false by rw [hC]; simp [eC, hD, hm])]; rfl

set_option maxHeartbeats 4000000 in
theorem globalR3 (x : Xn) (w : World) (hX : SeesX w x) :
    Gives Tryd.prog 8 [.int .i64 3, encX x] w (.tuple #[encRel (Rl.gen ((shortL x.ev).length : Int) (cutB (shortL x.ev).length (con3 (shortL x.ev).length (rsX x)))), .int .i64 0]) := by
  refine Gives.of_run Tryd.func8 rfl (by show 2 ≤ 176; decide) ?_
  have hone := xV_one hX.one1 hX.one4
  have hrof := fun w' hA => rof_ok x w' (hX.agree hA)
  have hQ := rsX_ok x
  generalize rsX x = Q at *
  generalize (shortL x.ev).length = n at *
  have hlt := @cutB_lt n (con3 n Q)
  have hat := fun {a b} ha hb => @cutB_at n (con3 n Q) a b ha hb
  generalize cutB n (con3 n Q) = q at *
  refine RunF_sound tab_ok noX_local 400 [true, true, false] _ _ rfl ?_ ?_
  · simp
  refine Run.callFn (r := encRs Q) noX_local rfl rfl rfl rfl rfl rfl rfl rof_enters rfl (fun w' hA => hrof w' hA) ?_
  have hfen := fun a b ha hb w => fenR_ok Q n hQ a b ha hb w
  have hl := rsV_len Q
  have h1 := rsV_one Q
  have hn64 := hQ.le
  have g0 := rs_n Q
  rw [hQ.sz] at g0
  have e0 := int_of g0
  have gpo := fun (i : Nat) (hi : i < 64) => rs_po Q hi
  have epo := fun (i : Nat) (hi : i < 64) => int_of (gpo i hi)
  have grf := fun (i : Nat) (hi : i < 64) => rs_rf Q hi
  have erf := fun (i : Nat) (hi : i < 64) => int_of (grf i hi)
  have git := fun (i : Nat) (hi : i < 64) => rs_it Q hi
  have eit := fun (i : Nat) (hi : i < 64) => int_of (git i hi)
  have gco := fun (i : Nat) (hi : i < 64) => rs_co Q hi
  have eco := fun (i : Nat) (hi : i < 64) => int_of (gco i hi)
  have gfr := fun (i : Nat) (hi : i < 64) => rs_fr Q hi
  have efr := fun (i : Nat) (hi : i < 64) => int_of (gfr i hi)
  have gmm := rs_mm Q
  have emm := int_of gmm
  have grw := rs_rw Q
  have erw := int_of grw
  have gwr := rs_wr Q
  have ewr := int_of gwr
  have glk := rs_lk Q
  have elk := int_of glk
  unfold encRs at *
  generalize rsV Q = V at *
  refine RunF_sound tab_ok noX_local 400 [] _ _ rfl ?_ ?_
  · simp [segsVals, hl, e0, fillL, Value.cells, splice, relV_tail_one]
    exact ⟨rfl, ⟨h1, rfl⟩, (List.getElem?_eq_some_iff.1 g0).2⟩
  suffices H : ∀ (d a : Nat), a + d = n → ∀ σ, inT σ.t [(0, .v (.int .i64 3)), (4, .ptr 1 0), (6, .ptr 2 0), (7, .ptr 3 0), (8, .v (.int .i64 (a : Int)))] → inT σ.h [(1, .cells 34 [.vals 65 (relV (Rl.void 0))]), (2, .cells 76 [.vals 461 V]), (3, .cells 34 [.vals 65 (relV (Rl.gen (n : Int) (Rl.seen q a 0)))])] → Run _ _ σ by
    refine H n 0 (by omega) _ ⟨rfl, rfl, rfl, rfl, rfl, trivial⟩ ⟨rfl, rfl, ?_, trivial⟩
    simp only [e0]
    rw [Rl.seen_0]; rfl
  intro d
  induction d with
  | zero =>
    intro a hka σ ht hh
    refine Run.to ?_ ht hh (n' := 4)
    refine RunF_sound tab_ok noX_local 400 [false] _ _ rfl ?_ ?_
    · simp [e0, g0, segsVals, relV_one']; try omega
    refine Run.retL tab_ok Tryd.func8 rfl ?_ (fun M => ?_)
    · simp
    rw [Rl.seen_all (fun x y h => by have := hlt h; omega)]; rfl
  | succ d ih =>
    intro a hka σ ht hh
    refine Run.to ?_ ht hh (n' := 4)
    have ha64 : a < 64 := by omega
    refine RunF_sound tab_ok noX_local 400 [true] _ _ rfl ?_ ?_
    · simp [e0, g0]; omega
    suffices H2 : ∀ (e b : Nat), b + e = n → ∀ σ, inT σ.t [(0, .v (.int .i64 3)), (4, .ptr 1 0), (6, .ptr 2 0), (7, .ptr 3 0), (8, .v (.int .i64 (a : Int))), (9, .v (.int .i64 (b : Int)))] → inT σ.h [(1, .cells 34 [.vals 65 (relV (Rl.void 0))]), (2, .cells 76 [.vals 461 V]), (3, .cells 34 [.vals 65 (relV (Rl.gen (n : Int) (Rl.seen q a b)))])] → Run _ _ σ by
      exact H2 n 0 (by omega) _ ⟨rfl, rfl, rfl, rfl, rfl, rfl, trivial⟩ ⟨rfl, rfl, rfl, trivial⟩
    intro e
    induction e with
    | zero =>
      intro b hkb σ ht hh
      refine Run.to ?_ ht hh (n' := 4)
      refine RunF_sound tab_ok noX_local 400 [false] _ _ rfl ?_ ?_
      · simp [e0, g0]; omega
      rw [Rl.seen_row (fun x y h => by have := hlt h; omega)]
      exact ih (a + 1) (by omega) _ ⟨rfl, rfl, rfl, rfl, i64_eq (wrap_succ (by omega)), trivial⟩ ⟨rfl, rfl, rfl, trivial⟩
    | succ e ihe =>
      intro b hkb σ ht hh
      refine Run.to ?_ ht hh (n' := 4)
      have hb64 : b < 64 := by omega
      have hC := hat (show a < n by omega) (show b < n by omega)
      have bco : ∀ w', Gives Tryd.prog 25 [.int .u64 (intAt V (0 + 326 + 1 - 0 + a * 1)), .int .i64 (b : Int)] w' (.bool (Q.co.has a b)) := fun w' => by rw [show 0 + 326 + 1 - 0 + a * 1 = 327 + a by omega, eco a ha64]; exact bit_ok _ _ hb64 w'
      obtain ⟨xco, dco⟩ : ∃ v, v = Q.co.has a b := ⟨_, rfl⟩
      rw [← dco] at bco
      have bfr : ∀ w', Gives Tryd.prog 25 [.int .u64 (intAt V (0 + 391 + 1 - 0 + a * 1)), .int .i64 (b : Int)] w' (.bool (Q.fr.has a b)) := fun w' => by rw [show 0 + 391 + 1 - 0 + a * 1 = 392 + a by omega, efr a ha64]; exact bit_ok _ _ hb64 w'
      obtain ⟨xfr, dfr⟩ : ∃ v, v = Q.fr.has a b := ⟨_, rfl⟩
      rw [← dfr] at bfr
      have bpo : ∀ w', Gives Tryd.prog 25 [.int .u64 (intAt V (0 + 1 + 1 - 0 + a * 1)), .int .i64 (b : Int)] w' (.bool (Q.po.has a b)) := fun w' => by rw [show 0 + 1 + 1 - 0 + a * 1 = 2 + a by omega, epo a ha64]; exact bit_ok _ _ hb64 w'
      obtain ⟨xpo, dpo⟩ : ∃ v, v = Q.po.has a b := ⟨_, rfl⟩
      rw [← dpo] at bpo
      have brf : ∀ w', Gives Tryd.prog 25 [.int .u64 (intAt V (0 + 261 + 1 - 0 + a * 1)), .int .i64 (b : Int)] w' (.bool (Q.rf.has a b)) := fun w' => by rw [show 0 + 261 + 1 - 0 + a * 1 = 262 + a by omega, erf a ha64]; exact bit_ok _ _ hb64 w'
      obtain ⟨xrf, drf⟩ : ∃ v, v = Q.rf.has a b := ⟨_, rfl⟩
      rw [← drf] at brf
      have bma : ∀ w', Gives Tryd.prog 25 [.int .u64 (intAt V 456), .int .i64 (a : Int)] w' (.bool (Q.mm.getLsbD a)) := fun w' => by rw [emm]; exact bit_ok _ _ ha64 w'
      obtain ⟨xma, dma⟩ : ∃ v, v = Q.mm.getLsbD a := ⟨_, rfl⟩
      rw [← dma] at bma
      have bmb : ∀ w', Gives Tryd.prog 25 [.int .u64 (intAt V 456), .int .i64 (b : Int)] w' (.bool (Q.mm.getLsbD b)) := fun w' => by rw [emm]; exact bit_ok _ _ hb64 w'
      obtain ⟨xmb, dmb⟩ : ∃ v, v = Q.mm.getLsbD b := ⟨_, rfl⟩
      rw [← dmb] at bmb
      have bit : ∀ w', Gives Tryd.prog 25 [.int .u64 (intAt V (0 + 131 + 1 - 0 + a * 1)), .int .i64 (b : Int)] w' (.bool (Q.it.has a b)) := fun w' => by rw [show 0 + 131 + 1 - 0 + a * 1 = 132 + a by omega, eit a ha64]; exact bit_ok _ _ hb64 w'
      obtain ⟨xit, dit⟩ : ∃ v, v = Q.it.has a b := ⟨_, rfl⟩
      rw [← dit] at bit
      have bla : ∀ w', Gives Tryd.prog 25 [.int .u64 (intAt V 460), .int .i64 (a : Int)] w' (.bool (Q.lk.getLsbD a)) := fun w' => by rw [elk]; exact bit_ok _ _ ha64 w'
      obtain ⟨xla, dla⟩ : ∃ v, v = Q.lk.getLsbD a := ⟨_, rfl⟩
      rw [← dla] at bla
      have blb : ∀ w', Gives Tryd.prog 25 [.int .u64 (intAt V 460), .int .i64 (b : Int)] w' (.bool (Q.lk.getLsbD b)) := fun w' => by rw [elk]; exact bit_ok _ _ hb64 w'
      obtain ⟨xlb, dlb⟩ : ∃ v, v = Q.lk.getLsbD b := ⟨_, rfl⟩
      rw [← dlb] at blb
      have bwa : ∀ w', Gives Tryd.prog 25 [.int .u64 (intAt V 458), .int .i64 (a : Int)] w' (.bool (Q.wr.getLsbD a)) := fun w' => by rw [ewr]; exact bit_ok _ _ ha64 w'
      obtain ⟨xwa, dwa⟩ : ∃ v, v = Q.wr.getLsbD a := ⟨_, rfl⟩
      rw [← dwa] at bwa
      have bfe := fun w' => hfen a b ha64 hb64 w'
      obtain ⟨xfe, dfe⟩ : ∃ v, v = fenB n Q a b := ⟨_, rfl⟩
      rw [← dfe] at bfe
      obtain ⟨xF, eF⟩ : ∃ v, v = (xco || xfr) := ⟨_, rfl⟩
      obtain ⟨xm, em⟩ : ∃ v, v = ((xpo && xma) && xmb) := ⟨_, rfl⟩
      obtain ⟨xA, eA⟩ : ∃ v, v = (xrf && xit) := ⟨_, rfl⟩
      obtain ⟨xD, eD⟩ : ∃ v, v = (((xF || xA) || xfe) || (xm && (xla || xlb))) := ⟨_, rfl⟩
      obtain ⟨xC, eC⟩ : ∃ v, v = (xD || (xm && xwa)) := ⟨_, rfl⟩
      have hC : q a b = xC := by rw [hC, eC, eD, eA, em, eF, dco, dfr, dpo, drf, dma, dmb, dit, dla, dlb, dwa, dfe]; rfl
      clear dco dfr dpo drf dma dmb dit dla dlb dwa dfe
      refine RunF_sound tab_ok noX_local 400 [true] _ _ rfl ?_ ?_
      · first | (simp [gco _ ha64, eco _ ha64, g0, e0]; done) | (simp [gco _ ha64, eco _ ha64, g0, e0]; omega)
      refine' Run.join (todo' := _) [(0, .v (.int .i64 3)), (4, .ptr 1 0), (6, .ptr 2 0), (7, .ptr 3 0), (8, .v (.int .i64 (a : Int))), (9, .v (.int .i64 (b : Int))), (10, .v (.bool xF)), (61, .v (.int .u64 (intAt V (0 + 1 + 1 - 0 + a * 1)))), (62, .v (.int .i64 (b : Int)))] [(1, .cells 34 [.vals 65 (relV (Rl.void 0))]), (2, .cells 76 [.vals 461 V]), (3, .cells 34 [.vals 65 (relV (Rl.gen (n : Int) (Rl.seen q a b)))])] 4 ?_ ?_
      rotate_left
      · intro J
        refine Run.callFn (r := .bool xco) noX_local rfl rfl rfl rfl rfl rfl rfl bit_enters rfl (fun w' _ => bco w') ?_
        by_cases hco : xco = true
        ·
          refine RunF_sound tab_ok noX_local 400 [true] _ _ rfl ?_ ?_
          · first | (simp [gpo _ ha64, epo _ ha64, hco]; done) | (simp [gpo _ ha64, epo _ ha64, hco]; omega)
          refine J _ ?_ ?_
          · exact ⟨⟨_, rfl, fun M => rfl⟩, ⟨_, rfl, fun M => rfl⟩, ⟨_, rfl, fun M => rfl⟩, ⟨_, rfl, fun M => rfl⟩, ⟨_, rfl, fun M => rfl⟩, ⟨_, rfl, fun M => rfl⟩, ⟨_, rfl, fun M => congrArg Value.bool (by simp [eF, hco])⟩, ⟨_, rfl, fun M => rfl⟩, ⟨_, rfl, fun M => rfl⟩, trivial⟩
          · exact ⟨rfl, rfl, rfl, trivial⟩
        ·
          refine RunF_sound tab_ok noX_local 400 [false] _ _ rfl ?_ ?_
          · first | (simp [gfr _ ha64, efr _ ha64, hco]; done) | (simp [gfr _ ha64, efr _ ha64, hco]; omega)
          refine Run.callFn (r := .bool xfr) noX_local rfl rfl rfl rfl rfl rfl rfl bit_enters rfl (fun w' _ => bfr w') ?_
          refine RunF_sound tab_ok noX_local 400 [] _ _ rfl ?_ ?_
          · first | (simp [gpo _ ha64, epo _ ha64]; done) | (simp [gpo _ ha64, epo _ ha64]; omega)
          refine J _ ?_ ?_
          · exact ⟨⟨_, rfl, fun M => rfl⟩, ⟨_, rfl, fun M => rfl⟩, ⟨_, rfl, fun M => rfl⟩, ⟨_, rfl, fun M => rfl⟩, ⟨_, rfl, fun M => rfl⟩, ⟨_, rfl, fun M => rfl⟩, ⟨_, rfl, fun M => congrArg Value.bool (by simp [eF, hco])⟩, ⟨_, rfl, fun M => rfl⟩, ⟨_, rfl, fun M => rfl⟩, trivial⟩
          · exact ⟨rfl, rfl, rfl, trivial⟩
      refine' Run.join (todo' := _) [(0, .v (.int .i64 3)), (4, .ptr 1 0), (6, .ptr 2 0), (7, .ptr 3 0), (8, .v (.int .i64 (a : Int))), (9, .v (.int .i64 (b : Int))), (10, .v (.bool xF)), (11, .v (.bool xpo)), (12, .v (.bool xm)), (93, .v (.bool xF))] [(1, .cells 34 [.vals 65 (relV (Rl.void 0))]), (2, .cells 76 [.vals 461 V]), (3, .cells 34 [.vals 65 (relV (Rl.gen (n : Int) (Rl.seen q a b)))])] 4 ?_ ?_
      rotate_left
      · intro J
        refine Run.callFn (r := .bool xpo) noX_local rfl rfl rfl rfl rfl rfl rfl bit_enters rfl (fun w' _ => bpo w') ?_
        by_cases hpo : xpo = true
        ·
          refine RunF_sound tab_ok noX_local 400 [true] _ _ rfl ?_ ?_
          · first | (simp [gmm, emm, hpo]; done) | (simp [gpo _ ha64, epo _ ha64, grf _ ha64, erf _ ha64, git _ ha64, eit _ ha64, gco _ ha64, eco _ ha64, gfr _ ha64, efr _ ha64, gmm, emm, grw, erw, gwr, ewr, glk, elk, g0, e0, hpo]; omega)
          refine Run.callFn (r := .bool xma) noX_local rfl rfl rfl rfl rfl rfl rfl bit_enters rfl (fun w' _ => bma w') ?_
          by_cases hma : xma = true
          ·
            refine RunF_sound tab_ok noX_local 400 [true] _ _ rfl ?_ ?_
            · first | (simp [gmm, emm, hma]; done) | (simp [gpo _ ha64, epo _ ha64, grf _ ha64, erf _ ha64, git _ ha64, eit _ ha64, gco _ ha64, eco _ ha64, gfr _ ha64, efr _ ha64, gmm, emm, grw, erw, gwr, ewr, glk, elk, g0, e0, hpo, hma]; omega)
            refine Run.callFn (r := .bool xmb) noX_local rfl rfl rfl rfl rfl rfl rfl bit_enters rfl (fun w' _ => bmb w') ?_
            refine RunF_sound tab_ok noX_local 400 [false] _ _ rfl ?_ ?_
            · first | (simp; done) | (simp [gpo _ ha64, epo _ ha64, grf _ ha64, erf _ ha64, git _ ha64, eit _ ha64, gco _ ha64, eco _ ha64, gfr _ ha64, efr _ ha64, gmm, emm, grw, erw, gwr, ewr, glk, elk, g0, e0, hpo, hma]; omega)
            refine J _ ?_ ?_
            · exact ⟨⟨_, rfl, fun M => rfl⟩, ⟨_, rfl, fun M => rfl⟩, ⟨_, rfl, fun M => rfl⟩, ⟨_, rfl, fun M => rfl⟩, ⟨_, rfl, fun M => rfl⟩, ⟨_, rfl, fun M => rfl⟩, ⟨_, rfl, fun M => rfl⟩, ⟨_, rfl, fun M => rfl⟩, ⟨_, rfl, fun M => congrArg Value.bool (by simp [em, hpo, hma])⟩, ⟨_, rfl, fun M => rfl⟩, trivial⟩
            · exact ⟨rfl, rfl, rfl, trivial⟩
          ·
            refine RunF_sound tab_ok noX_local 400 [false, false] _ _ rfl ?_ ?_
            · first | (simp [hma]; done) | (simp [gpo _ ha64, epo _ ha64, grf _ ha64, erf _ ha64, git _ ha64, eit _ ha64, gco _ ha64, eco _ ha64, gfr _ ha64, efr _ ha64, gmm, emm, grw, erw, gwr, ewr, glk, elk, g0, e0, hpo, hma]; omega)
            refine J _ ?_ ?_
            · exact ⟨⟨_, rfl, fun M => rfl⟩, ⟨_, rfl, fun M => rfl⟩, ⟨_, rfl, fun M => rfl⟩, ⟨_, rfl, fun M => rfl⟩, ⟨_, rfl, fun M => rfl⟩, ⟨_, rfl, fun M => rfl⟩, ⟨_, rfl, fun M => rfl⟩, ⟨_, rfl, fun M => rfl⟩, ⟨_, rfl, fun M => congrArg Value.bool (by simp [em, hpo, hma])⟩, ⟨_, rfl, fun M => rfl⟩, trivial⟩
            · exact ⟨rfl, rfl, rfl, trivial⟩
        ·
          refine RunF_sound tab_ok noX_local 400 [false, false] _ _ rfl ?_ ?_
          · first | (simp [hpo]; done) | (simp [gpo _ ha64, epo _ ha64, grf _ ha64, erf _ ha64, git _ ha64, eit _ ha64, gco _ ha64, eco _ ha64, gfr _ ha64, efr _ ha64, gmm, emm, grw, erw, gwr, ewr, glk, elk, g0, e0, hpo]; omega)
          refine J _ ?_ ?_
          · exact ⟨⟨_, rfl, fun M => rfl⟩, ⟨_, rfl, fun M => rfl⟩, ⟨_, rfl, fun M => rfl⟩, ⟨_, rfl, fun M => rfl⟩, ⟨_, rfl, fun M => rfl⟩, ⟨_, rfl, fun M => rfl⟩, ⟨_, rfl, fun M => rfl⟩, ⟨_, rfl, fun M => rfl⟩, ⟨_, rfl, fun M => congrArg Value.bool (by simp [em, hpo])⟩, ⟨_, rfl, fun M => rfl⟩, trivial⟩
          · exact ⟨rfl, rfl, rfl, trivial⟩
      refine' Run.join (todo' := _) [(0, .v (.int .i64 3)), (4, .ptr 1 0), (6, .ptr 2 0), (7, .ptr 3 0), (8, .v (.int .i64 (a : Int))), (9, .v (.int .i64 (b : Int))), (10, .v (.bool xD)), (12, .v (.bool xm)), (133, .v (.bool (decide ((3 : Int) = 2))))] [(1, .cells 34 [.vals 65 (relV (Rl.void 0))]), (2, .cells 76 [.vals 461 V]), (3, .cells 34 [.vals 65 (relV (Rl.gen (n : Int) (Rl.seen q a b)))])] 4 ?_ ?_
      rotate_left
      · intro J4
        by_cases hF : xF = true
        ·
          refine RunF_sound tab_ok noX_local 400 [true] _ _ rfl ?_ ?_
          · first | (simp [hF]; done) | (simp [gpo _ ha64, epo _ ha64, grf _ ha64, erf _ ha64, git _ ha64, eit _ ha64, gco _ ha64, eco _ ha64, gfr _ ha64, efr _ ha64, gmm, emm, grw, erw, gwr, ewr, glk, elk, g0, e0, hF]; omega)
          refine J4 _ ?_ ?_
          · exact ⟨⟨_, rfl, fun M => rfl⟩, ⟨_, rfl, fun M => rfl⟩, ⟨_, rfl, fun M => rfl⟩, ⟨_, rfl, fun M => rfl⟩, ⟨_, rfl, fun M => rfl⟩, ⟨_, rfl, fun M => rfl⟩, ⟨_, rfl, fun M => congrArg Value.bool (by simp [eD, hF])⟩, ⟨_, rfl, fun M => rfl⟩, ⟨_, rfl, fun M => rfl⟩, trivial⟩
          · exact ⟨rfl, rfl, rfl, trivial⟩
        ·
          by_cases hA : xA = true
          ·
            refine RunF_sound tab_ok noX_local 400 [false] _ _ rfl ?_ ?_
            · first | (simp [grf _ ha64, erf _ ha64, hF]; done) | (simp [grf _ ha64, erf _ ha64, hF]; omega)
            refine Run.callFn (r := .bool xrf) noX_local rfl rfl rfl rfl rfl rfl rfl bit_enters rfl (fun w' _ => brf w') ?_
            have hrf : xrf = true := by rw [eA] at hA; exact (Bool.and_eq_true_iff.1 hA).1
            have hit : xit = true := by rw [eA] at hA; exact (Bool.and_eq_true_iff.1 hA).2
            refine RunF_sound tab_ok noX_local 400 [true] _ _ rfl ?_ ?_
            · first | (simp [git _ ha64, eit _ ha64, hrf]; done) | (simp [git _ ha64, eit _ ha64, hrf]; omega)
            refine Run.callFn (r := .bool xit) noX_local rfl rfl rfl rfl rfl rfl rfl bit_enters rfl (fun w' _ => bit w') ?_
            refine RunF_sound tab_ok noX_local 400 [true] _ _ rfl ?_ ?_
            · first | (simp [hit]; done) | (simp [gpo _ ha64, epo _ ha64, grf _ ha64, erf _ ha64, git _ ha64, eit _ ha64, gco _ ha64, eco _ ha64, gfr _ ha64, efr _ ha64, gmm, emm, grw, erw, gwr, ewr, glk, elk, g0, e0, hF, hA, hrf, hit]; omega)
            refine J4 _ ?_ ?_
            · exact ⟨⟨_, rfl, fun M => rfl⟩, ⟨_, rfl, fun M => rfl⟩, ⟨_, rfl, fun M => rfl⟩, ⟨_, rfl, fun M => rfl⟩, ⟨_, rfl, fun M => rfl⟩, ⟨_, rfl, fun M => rfl⟩, ⟨_, rfl, fun M => congrArg Value.bool (by simp [eD, hF, hA])⟩, ⟨_, rfl, fun M => rfl⟩, ⟨_, rfl, fun M => rfl⟩, trivial⟩
            · exact ⟨rfl, rfl, rfl, trivial⟩
          ·
            refine RunF_sound tab_ok noX_local 400 [false] _ _ rfl ?_ ?_
            · first | (simp [grf _ ha64, erf _ ha64, hF]; done) | (simp [grf _ ha64, erf _ ha64, hF]; omega)
            refine' Run.join (todo' := _) [(0, .v (.int .i64 3)), (4, .ptr 1 0), (6, .ptr 2 0), (7, .ptr 3 0), (8, .v (.int .i64 (a : Int))), (9, .v (.int .i64 (b : Int))), (12, .v (.bool xm)), (111, .tt false), (112, .v (.agg V.toArray)), (113, .v (.int .i64 (a : Int))), (114, .v (.int .i64 (b : Int)))] [(1, .cells 34 [.vals 65 (relV (Rl.void 0))]), (2, .cells 76 [.vals 461 V]), (3, .cells 34 [.vals 65 (relV (Rl.gen (n : Int) (Rl.seen q a b)))])] 4 ?_ ?_
            rotate_left
            · intro J3
              refine Run.callFn (r := .bool xrf) noX_local rfl rfl rfl rfl rfl rfl rfl bit_enters rfl (fun w' _ => brf w') ?_
              by_cases hrf : xrf = true
              ·
                refine RunF_sound tab_ok noX_local 400 [true] _ _ rfl ?_ ?_
                · first | (simp [git _ ha64, eit _ ha64, hrf]; done) | (simp [git _ ha64, eit _ ha64, hrf]; omega)
                refine Run.callFn (r := .bool xit) noX_local rfl rfl rfl rfl rfl rfl rfl bit_enters rfl (fun w' _ => bit w') ?_
                have hit : ¬ xit = true := fun h => hA (by rw [eA, hrf, h]; rfl)
                refine RunF_sound tab_ok noX_local 400 [false] _ _ rfl ?_ ?_
                · first | (simp [hit, hl]; done) | (simp [gpo _ ha64, epo _ ha64, grf _ ha64, erf _ ha64, git _ ha64, eit _ ha64, gco _ ha64, eco _ ha64, gfr _ ha64, efr _ ha64, gmm, emm, grw, erw, gwr, ewr, glk, elk, g0, e0, hF, hA, hrf, hit, hl, segsVals, h1]; omega)
                refine J3 _ ?_ ?_
                · exact ⟨⟨_, rfl, fun M => rfl⟩, ⟨_, rfl, fun M => rfl⟩, ⟨_, rfl, fun M => rfl⟩, ⟨_, rfl, fun M => rfl⟩, ⟨_, rfl, fun M => rfl⟩, ⟨_, rfl, fun M => rfl⟩, ⟨_, rfl, fun M => rfl⟩, ⟨_, rfl, fun M => rfl⟩, ⟨_, rfl, fun M => rfl⟩, ⟨_, rfl, fun M => rfl⟩, ⟨_, rfl, fun M => rfl⟩, trivial⟩
                · exact ⟨rfl, rfl, rfl, trivial⟩
              ·
                refine RunF_sound tab_ok noX_local 400 [false] _ _ rfl ?_ ?_
                · first | (simp [hrf, hl]; done) | (simp [gpo _ ha64, epo _ ha64, grf _ ha64, erf _ ha64, git _ ha64, eit _ ha64, gco _ ha64, eco _ ha64, gfr _ ha64, efr _ ha64, gmm, emm, grw, erw, gwr, ewr, glk, elk, g0, e0, hF, hA, hrf, hl, segsVals, h1]; omega)
                refine J3 _ ?_ ?_
                · exact ⟨⟨_, rfl, fun M => rfl⟩, ⟨_, rfl, fun M => rfl⟩, ⟨_, rfl, fun M => rfl⟩, ⟨_, rfl, fun M => rfl⟩, ⟨_, rfl, fun M => rfl⟩, ⟨_, rfl, fun M => rfl⟩, ⟨_, rfl, fun M => rfl⟩, ⟨_, rfl, fun M => rfl⟩, ⟨_, rfl, fun M => rfl⟩, ⟨_, rfl, fun M => rfl⟩, ⟨_, rfl, fun M => rfl⟩, trivial⟩
                · exact ⟨rfl, rfl, rfl, trivial⟩
            refine Run.callFn (r := .bool xfe) noX_local rfl rfl rfl rfl rfl rfl rfl fenR_enters rfl (fun w' _ => bfe w') ?_
            by_cases hfe : xfe = true
            ·
              refine RunF_sound tab_ok noX_local 400 [true] _ _ rfl ?_ ?_
              · first | (simp [hfe]; done) | (simp [gpo _ ha64, epo _ ha64, grf _ ha64, erf _ ha64, git _ ha64, eit _ ha64, gco _ ha64, eco _ ha64, gfr _ ha64, efr _ ha64, gmm, emm, grw, erw, gwr, ewr, glk, elk, g0, e0, hF, hA, hfe]; omega)
              refine J4 _ ?_ ?_
              · exact ⟨⟨_, rfl, fun M => rfl⟩, ⟨_, rfl, fun M => rfl⟩, ⟨_, rfl, fun M => rfl⟩, ⟨_, rfl, fun M => rfl⟩, ⟨_, rfl, fun M => rfl⟩, ⟨_, rfl, fun M => rfl⟩, ⟨_, rfl, fun M => congrArg Value.bool (by simp [eD, hF, hA, hfe])⟩, ⟨_, rfl, fun M => rfl⟩, ⟨_, rfl, fun M => rfl⟩, trivial⟩
              · exact ⟨rfl, rfl, rfl, trivial⟩
            ·
              by_cases hm : xm = true
              ·
                refine RunF_sound tab_ok noX_local 400 [false, true] _ _ rfl ?_ ?_
                · first | (simp [glk, elk, hfe, hm]; done) | (simp [gpo _ ha64, epo _ ha64, grf _ ha64, erf _ ha64, git _ ha64, eit _ ha64, gco _ ha64, eco _ ha64, gfr _ ha64, efr _ ha64, gmm, emm, grw, erw, gwr, ewr, glk, elk, g0, e0, hF, hA, hfe, hm]; omega)
                refine Run.callFn (r := .bool xla) noX_local rfl rfl rfl rfl rfl rfl rfl bit_enters rfl (fun w' _ => bla w') ?_
                by_cases hla : xla = true
                ·
                  refine RunF_sound tab_ok noX_local 400 [true] _ _ rfl ?_ ?_
                  · first | (simp [hla]; done) | (simp [gpo _ ha64, epo _ ha64, grf _ ha64, erf _ ha64, git _ ha64, eit _ ha64, gco _ ha64, eco _ ha64, gfr _ ha64, efr _ ha64, gmm, emm, grw, erw, gwr, ewr, glk, elk, g0, e0, hF, hA, hfe, hm, hla]; omega)
                  refine J4 _ ?_ ?_
                  · exact ⟨⟨_, rfl, fun M => rfl⟩, ⟨_, rfl, fun M => rfl⟩, ⟨_, rfl, fun M => rfl⟩, ⟨_, rfl, fun M => rfl⟩, ⟨_, rfl, fun M => rfl⟩, ⟨_, rfl, fun M => rfl⟩, ⟨_, rfl, fun M => congrArg Value.bool (by simp [eD, hF, hA, hfe, hm, hla])⟩, ⟨_, rfl, fun M => rfl⟩, ⟨_, rfl, fun M => rfl⟩, trivial⟩
                  · exact ⟨rfl, rfl, rfl, trivial⟩
                ·
                  refine RunF_sound tab_ok noX_local 400 [false] _ _ rfl ?_ ?_
                  · first | (simp [glk, elk, hla]; done) | (simp [gpo _ ha64, epo _ ha64, grf _ ha64, erf _ ha64, git _ ha64, eit _ ha64, gco _ ha64, eco _ ha64, gfr _ ha64, efr _ ha64, gmm, emm, grw, erw, gwr, ewr, glk, elk, g0, e0, hF, hA, hfe, hm, hla]; omega)
                  refine Run.callFn (r := .bool xlb) noX_local rfl rfl rfl rfl rfl rfl rfl bit_enters rfl (fun w' _ => blb w') ?_
                  refine RunF_sound tab_ok noX_local 400 [] _ _ rfl ?_ ?_
                  · first | (simp; done) | (simp [gpo _ ha64, epo _ ha64, grf _ ha64, erf _ ha64, git _ ha64, eit _ ha64, gco _ ha64, eco _ ha64, gfr _ ha64, efr _ ha64, gmm, emm, grw, erw, gwr, ewr, glk, elk, g0, e0, hF, hA, hfe, hm, hla]; omega)
                  refine J4 _ ?_ ?_
                  · exact ⟨⟨_, rfl, fun M => rfl⟩, ⟨_, rfl, fun M => rfl⟩, ⟨_, rfl, fun M => rfl⟩, ⟨_, rfl, fun M => rfl⟩, ⟨_, rfl, fun M => rfl⟩, ⟨_, rfl, fun M => rfl⟩, ⟨_, rfl, fun M => congrArg Value.bool (by simp [eD, hF, hA, hfe, hm, hla])⟩, ⟨_, rfl, fun M => rfl⟩, ⟨_, rfl, fun M => rfl⟩, trivial⟩
                  · exact ⟨rfl, rfl, rfl, trivial⟩
              ·
                refine RunF_sound tab_ok noX_local 400 [false, false] _ _ rfl ?_ ?_
                · first | (simp [hfe, hm]; done) | (simp [gpo _ ha64, epo _ ha64, grf _ ha64, erf _ ha64, git _ ha64, eit _ ha64, gco _ ha64, eco _ ha64, gfr _ ha64, efr _ ha64, gmm, emm, grw, erw, gwr, ewr, glk, elk, g0, e0, hF, hA, hfe, hm]; omega)
                refine J4 _ ?_ ?_
                · exact ⟨⟨_, rfl, fun M => rfl⟩, ⟨_, rfl, fun M => rfl⟩, ⟨_, rfl, fun M => rfl⟩, ⟨_, rfl, fun M => rfl⟩, ⟨_, rfl, fun M => rfl⟩, ⟨_, rfl, fun M => rfl⟩, ⟨_, rfl, fun M => congrArg Value.bool (by simp [eD, hF, hA, hfe, hm])⟩, ⟨_, rfl, fun M => rfl⟩, ⟨_, rfl, fun M => rfl⟩, trivial⟩
                · exact ⟨rfl, rfl, rfl, trivial⟩
      by_cases hD : xD = true
      ·
        refine RunF_sound tab_ok noX_local 400 [false, true, true] _ _ rfl ?_ ?_
        · have hwb0 := wrapn b (by omega)
          first | (simp [hwb0, relV_get _ _ ha64, intAt_row _ _ ha64, okCell, Value.oneCell', hD]; done) | (simp [hwb0, relV_get _ _ ha64, intAt_row _ _ ha64, okCell, Value.oneCell', hD]; omega)
        refine ihe (b + 1) (by omega) _ ⟨rfl, rfl, rfl, rfl, rfl, i64_eq (wrap_succ (by omega)), trivial⟩ ⟨rfl, rfl, congrArg (fun l => some (Blk.cells 34 [.vals 65 l])) ?_, trivial⟩
        simp [intAt_row _ _ ha64, wrapn b (by omega), shl1_un, relV_set _ _ ha64, Rl.seen_yes ha64 hb64 (show q a b = true by rw [hC]; simp [eC, hD])]
      ·
        by_cases hm : xm = true
        ·
          refine RunF_sound tab_ok noX_local 400 [false, true, false, true] _ _ rfl ?_ ?_
          · first | (simp [gwr, ewr, hD, hm]; done) | (simp [gpo _ ha64, epo _ ha64, grf _ ha64, erf _ ha64, git _ ha64, eit _ ha64, gco _ ha64, eco _ ha64, gfr _ ha64, efr _ ha64, gmm, emm, grw, erw, gwr, ewr, glk, elk, g0, e0, hD, hm]; omega)
          refine Run.callFn (r := .bool xwa) noX_local rfl rfl rfl rfl rfl rfl rfl bit_enters rfl (fun w' _ => bwa w') ?_
          by_cases hwa : xwa = true
          ·
            refine RunF_sound tab_ok noX_local 400 [true] _ _ rfl ?_ ?_
            · have hwb0 := wrapn b (by omega)
              first | (simp [hwb0, relV_get _ _ ha64, intAt_row _ _ ha64, okCell, Value.oneCell', hwa]; done) | (simp [hwb0, relV_get _ _ ha64, intAt_row _ _ ha64, okCell, Value.oneCell', hwa]; omega)
            refine ihe (b + 1) (by omega) _ ⟨rfl, rfl, rfl, rfl, rfl, i64_eq (wrap_succ (by omega)), trivial⟩ ⟨rfl, rfl, congrArg (fun l => some (Blk.cells 34 [.vals 65 l])) ?_, trivial⟩
            simp [intAt_row _ _ ha64, wrapn b (by omega), shl1_un, relV_set _ _ ha64, Rl.seen_yes ha64 hb64 (show q a b = true by rw [hC]; simp [eC, hD, hm, hwa])]
          ·
            refine RunF_sound tab_ok noX_local 400 [false] _ _ rfl ?_ ?_
            · first | (simp [hwa]; done) | (simp [gpo _ ha64, epo _ ha64, grf _ ha64, erf _ ha64, git _ ha64, eit _ ha64, gco _ ha64, eco _ ha64, gfr _ ha64, efr _ ha64, gmm, emm, grw, erw, gwr, ewr, glk, elk, g0, e0, hD, hm, hwa]; omega)
            refine ihe (b + 1) (by omega) _ ⟨rfl, rfl, rfl, rfl, rfl, i64_eq (wrap_succ (by omega)), trivial⟩ ⟨rfl, rfl, ?_, trivial⟩
            rw [← Rl.seen_no (show q a b = false by rw [hC]; simp [eC, hD, hm, hwa])]; rfl
        ·
          refine RunF_sound tab_ok noX_local 400 [false, true, false, false] _ _ rfl ?_ ?_
          · first | (simp [hD, hm]; done) | (simp [gpo _ ha64, epo _ ha64, grf _ ha64, erf _ ha64, git _ ha64, eit _ ha64, gco _ ha64, eco _ ha64, gfr _ ha64, efr _ ha64, gmm, emm, grw, erw, gwr, ewr, glk, elk, g0, e0, hD, hm]; omega)
          refine ihe (b + 1) (by omega) _ ⟨rfl, rfl, rfl, rfl, rfl, i64_eq (wrap_succ (by omega)), trivial⟩ ⟨rfl, rfl, ?_, trivial⟩
          rw [← Rl.seen_no (show q a b = false by rw [hC]; simp [eC, hD, hm])]; rfl
end Go.Proofs.YtmammebifhmnhaaDoor

/-
  The model's axioms and the reference's: the same relations. Own work; no program in sight.
-/
namespace Go.Proofs.YtmammebifhmnhaaDoor
open Go.AM
set_option maxRecDepth 100000

theorem those_get (T : Ev → Bool) (xs : List Ev) {j : Nat} (hj : j < 64) : (thoseL T xs).getLsbD j = (decide (j < (shortL xs).length) && (match (shortL xs)[j]? with | some e => T e | none => false)) := by
  unfold thoseL thoseP; rw [bitsB_get]; simp [hj]; rfl
theorem wr_mem (xs : List Ev) {j : Nat} (hj : j < 64) (h : (thoseL (fun e => decide (e.kind = 3)) xs).getLsbD j = true) : (thoseL memB xs).getLsbD j = true := by
  rw [those_get _ _ hj] at h ⊢
  simp only [Bool.and_eq_true] at h ⊢
  refine ⟨h.1, ?_⟩
  have h2 := h.2
  cases e : (shortL xs)[j]? with
  | none => rw [e] at h2; cases h2
  | some v =>
    rw [e] at h2
    simp only [decide_eq_true_eq] at h2
    simp [memB, h2]

theorem uniF_wd {n : Nat} (hn : n ≤ 64) : ∀ (L : List Rl) {A : Rl}, Wd n A → (∀ R ∈ L, Wd n R) → Wd n (uniF A L) ∧ ∀ a b, a < n → b < n → (uniF A L).has a b = (A.has a b || L.any fun R => R.has a b)
  | [], A, hA, _ => ⟨hA, fun a b _ _ => by simp [uniF]⟩
  | R :: L, A, hA, hL => by
    obtain ⟨h1, h2⟩ := uni_wd hn hA (hL R (by simp))
    obtain ⟨h3, h4⟩ := uniF_wd hn L h1 (fun S hS => hL S (List.mem_cons_of_mem _ hS))
    refine ⟨h3, fun a b ha hb => ?_⟩
    show (uniF (uniL A R) L).has a b = _
    rw [h4 a b ha hb, h2 a b ha hb, List.any_cons, Bool.or_assoc]
theorem void_has (n : Int) (a b : Nat) : (Rl.void n).has a b = false := by rw [← has_row, Rl.row_void]; simp

/-- A world over n events. -/
structure WoOK (n : Nat) (W : Wo) : Prop where
  le : n ≤ 64
  p : Wd n W.p
  r : Wd n W.r
  c : Wd n W.c
  f : Wd n W.f
  ev : (shortL W.ev).length = n
theorem woX_ok (x : Xn) : WoOK (shortL x.ev).length (woX x) := ⟨shortL_le _, stands_wd _ _, kRf_wd x, kCo_wd x, kFr_wd x, rfl⟩

theorem all_get {a : Nat} (ha : a < 64) : allB.getLsbD a = true := by
  rw [show allB = BitVec.allOnes 64 from rfl, BitVec.getLsbD_allOnes]; simp [ha]

theorem fen_wd {n : Nat} {W : Wo} (h : WoOK n W) : Wd n (fenL W) ∧ ∀ a b, a < n → b < n → (fenL W).has a b = (List.range n).any fun k => (ofW W 4).getLsbD k && (W.p.has a k && W.p.has k b) := by
  have hn := h.le
  obtain ⟨h1, h2⟩ := res_wd hn h.p allB (ofW W 4)
  obtain ⟨h3, h4⟩ := res_wd hn h.p (ofW W 4) allB
  obtain ⟨h5, h6⟩ := com_wd hn h1 h3
  refine ⟨h5, fun a b ha hb => ?_⟩
  unfold fenL
  rw [h6 a b ha hb, Bool.eq_iff_iff, List.any_eq_true, List.any_eq_true]
  constructor
  · rintro ⟨c, _, hc⟩
    have hc := Bool.and_eq_true_iff.1 hc
    have hcn := (h1.below _ _ hc.1).2
    rw [h2 a c ha hcn, h4 c b hcn hb] at hc
    simp only [Bool.and_eq_true] at hc
    exact ⟨c, List.mem_range.2 hcn, by simp [hc.1.1, hc.1.2.2, hc.2.1]⟩
  · rintro ⟨c, hcm, hc⟩
    have hcn := List.mem_range.1 hcm
    simp only [Bool.and_eq_true] at hc
    refine ⟨c, List.mem_range.2 (by omega), ?_⟩
    rw [h2 a c ha hcn, h4 c b hcn hb, hc.1, hc.2.1, hc.2.2, all_get (by omega), all_get (by omega)]; rfl

theorem lock_wd {n : Nat} {W : Wo} (h : WoOK n W) : Wd n (lockL W) ∧ ∀ a b, a < n → b < n → (lockL W).has a b = ((W.p.has a b && ((lockS W).getLsbD a && W.m.getLsbD b)) || (W.p.has a b && (W.m.getLsbD a && (lockS W).getLsbD b))) := by
  have hn := h.le
  obtain ⟨h1, h2⟩ := res_wd hn h.p (lockS W) W.m
  obtain ⟨h3, h4⟩ := res_wd hn h.p W.m (lockS W)
  have hv : Wd n (Rl.void W.p.n) := by rw [h.p.sz]; exact void_wd n
  obtain ⟨h5, h6⟩ := uniF_wd hn [resL W.p (lockS W) W.m, resL W.p W.m (lockS W)] hv (by
    intro R hR
    simp only [List.mem_cons, List.not_mem_nil, or_false] at hR
    rcases hR with rfl | rfl
    · exact h1
    · exact h3)
  refine ⟨h5, fun a b ha hb => ?_⟩
  unfold lockL
  rw [h6 a b ha hb, void_has]
  simp [h2 a b ha hb, h4 a b ha hb]

theorem tso_wd {n : Nat} {W : Wo} (h : WoOK n W) : Wd n (tsoK W) ∧ ∀ a b, a < n → b < n → (tsoK W).has a b = ((W.p.has a b && (W.m.getLsbD a && W.m.getLsbD b)) && !((W.p.has a b && (W.m.getLsbD a && W.m.getLsbD b)) && ((ofW W 1 ||| ofW W 2).getLsbD a && (ofW W 3).getLsbD b))) := by
  have hn := h.le
  obtain ⟨h1, h2⟩ := res_wd hn h.p W.m W.m
  obtain ⟨h3, h4⟩ := res_wd hn h1 (ofW W 1 ||| ofW W 2) (ofW W 3)
  obtain ⟨h5, h6⟩ := min_wd hn h1 h3
  exact ⟨h5, fun a b ha hb => by unfold tsoK; rw [h6 a b ha hb, h4 a b ha hb, h2 a b ha hb]⟩
theorem pso_wd {n : Nat} {W : Wo} (h : WoOK n W) : Wd n (psoK W) ∧ ∀ a b, a < n → b < n → (psoK W).has a b = (W.p.has a b && ((ofW W 3).getLsbD a && W.m.getLsbD b)) := res_wd h.le h.p _ _

theorem weak_wd {n : Nat} {W : Wo} (h : WoOK n W) {K : Rl} (hK : Wd n K) : Wd n (uniF (Rl.void W.p.n) ((weakL W K).map (·.2))) ∧ ∀ a b, a < n → b < n → (uniF (Rl.void W.p.n) ((weakL W K).map (·.2))).has a b =
    (K.has a b || ((List.range n).any (fun k => (ofW W 4).getLsbD k && (W.p.has a k && W.p.has k b)) || (((W.p.has a b && ((lockS W).getLsbD a && W.m.getLsbD b)) || (W.p.has a b && (W.m.getLsbD a && (lockS W).getLsbD b))) || ((W.r.has a b && (standsL 4 W.ev).has a b) || (W.c.has a b || W.f.has a b))))) := by
  have hn := h.le
  have hs : Wd n (standsL 4 W.ev) := by have := stands_wd 4 W.ev; rwa [h.ev] at this
  obtain ⟨h1, h2⟩ := fen_wd h
  obtain ⟨h3, h4⟩ := lock_wd h
  obtain ⟨h5, h6⟩ := meet_wd hn h.r hs
  have hv : Wd n (Rl.void W.p.n) := by rw [h.p.sz]; exact void_wd n
  obtain ⟨h7, h8⟩ := uniF_wd hn ((weakL W K).map (·.2)) hv (by
    intro R hR
    simp only [weakL, List.map_cons, List.map_nil, List.mem_cons, List.not_mem_nil, or_false] at hR
    rcases hR with rfl | rfl | rfl | rfl | rfl | rfl
    · exact hK
    · exact h1
    · exact h3
    · exact h5
    · exact h.c
    · exact h.f)
  refine ⟨h7, fun a b ha hb => ?_⟩
  rw [h8 a b ha hb, void_has]
  simp only [weakL, List.map_cons, List.map_nil, List.any_cons, List.any_nil, Bool.or_false, Bool.false_or, h2 a b ha hb, h4 a b ha hb, h6 a b ha hb]
theorem up_wd {n : Nat} {W : Wo} (h : WoOK n W) {K : Rl} (hK : Wd n K) : Wd n (uniF (Rl.void W.p.n) ((upL W K).map (·.2))) ∧ ∀ a b, a < n → b < n → (uniF (Rl.void W.p.n) ((upL W K).map (·.2))).has a b =
    (K.has a b || (W.r.has a b || (W.c.has a b || W.f.has a b))) := by
  have hn := h.le
  have hv : Wd n (Rl.void W.p.n) := by rw [h.p.sz]; exact void_wd n
  obtain ⟨h7, h8⟩ := uniF_wd hn ((upL W K).map (·.2)) hv (by
    intro R hR
    simp only [upL, List.map_cons, List.map_nil, List.mem_cons, List.not_mem_nil, or_false] at hR
    rcases hR with rfl | rfl | rfl | rfl
    · exact hK
    · exact h.r
    · exact h.c
    · exact h.f)
  refine ⟨h7, fun a b ha hb => ?_⟩
  rw [h8 a b ha hb, void_has]
  simp only [upL, List.map_cons, List.map_nil, List.any_cons, List.any_nil, Bool.or_false, Bool.false_or]

theorem gen_cut (n : Nat) (q : Nat → Nat → Bool) (hn : n ≤ 64) : Wd n (Rl.gen (n : Int) (cutB n q)) ∧ ∀ a b, a < n → b < n → (Rl.gen (n : Int) (cutB n q)).has a b = q a b := by
  refine ⟨⟨Rl.n_gen _ _, fun a b h => ?_⟩, fun a b ha hb => ?_⟩
  · rw [Rl.has_gen] at h
    exact cutB_lt (Bool.and_eq_true_iff.1 h).2
  · rw [Rl.has_gen, cutB_at ha hb]
    simp [show a < 64 by omega, show b < 64 by omega]

/-! ### The four laws -/
theorem law_up (x : Xn) : unpR (woX x) = unpP ((shortL x.ev).length : Int) (rsX x) (shortL x.ev).length := by
  have h := woX_ok x
  have hQ := rsX_ok x
  have hs2 : Wd (shortL x.ev).length (standsL 2 x.ev) := stands_wd 2 x.ev
  obtain ⟨m1, m2⟩ := meet_wd h.le h.p hs2
  obtain ⟨h1, h2⟩ := up_wd h m1
  have hrow := fun a => unpP_row ((shortL x.ev).length : Int) (rsX x) a (shortL x.ev).length h.le
  have hw : ∀ a b, (unpW (rsX x) a).getLsbD b = (((((rsX x).po.has a b && (rsX x).lo.has a b) || (rsX x).rf.has a b) || (rsX x).co.has a b) || (rsX x).fr.has a b) := fun a b => by
    unfold unpW
    rw [BitVec.getLsbD_or, BitVec.getLsbD_or, BitVec.getLsbD_or, BitVec.getLsbD_and]; rfl
  have hR : Wd (shortL x.ev).length (unpP ((shortL x.ev).length : Int) (rsX x) (shortL x.ev).length) := ⟨unpP_n _ _ _, fun a b hab => by
    rw [← has_row, hrow] at hab
    split at hab
    · rename_i ha
      refine ⟨ha, ?_⟩
      rw [hw] at hab
      simp only [Bool.or_eq_true, Bool.and_eq_true] at hab
      rcases hab with ((hab | hab) | hab) | hab
      · exact (hQ.po.below _ _ hab.1).2
      · exact (hQ.rf.below _ _ hab).2
      · exact (hQ.co.below _ _ hab).2
      · exact (hQ.fr.below _ _ hab).2
    · simp at hab⟩
  refine Wd.ext h1 hR fun a b ha hb => ?_
  rw [← has_row (unpP _ _ _), hrow, if_pos ha, hw]
  refine (h2 a b ha hb).trans ?_
  rw [m2 a b ha hb]
  show ((standsL 1 x.ev).has a b && (standsL 2 x.ev).has a b || ((kRf x).has a b || ((kCo x).has a b || (kFr x).has a b))) = ((((standsL 1 x.ev).has a b && (standsL 2 x.ev).has a b || (kRf x).has a b) || (kCo x).has a b) || (kFr x).has a b)
  simp only [Bool.or_assoc]

theorem law_1 (x : Xn) : uniF (Rl.void (woX x).p.n) ((upL (woX x) (woX x).p).map (·.2)) = Rl.gen ((shortL x.ev).length : Int) (cutB (shortL x.ev).length (con1 (rsX x))) := by
  have h := woX_ok x
  obtain ⟨h1, h2⟩ := up_wd h h.p
  obtain ⟨h3, h4⟩ := gen_cut (shortL x.ev).length (con1 (rsX x)) h.le
  refine Wd.ext h1 h3 fun a b ha hb => ?_
  rw [h2 a b ha hb, h4 a b ha hb]
  unfold con1 freeB
  show ((standsL 1 x.ev).has a b || ((kRf x).has a b || ((kCo x).has a b || (kFr x).has a b))) = ((((kCo x).has a b || (kFr x).has a b) || (standsL 1 x.ev).has a b) || (kRf x).has a b)
  generalize (standsL 1 x.ev).has a b = p
  generalize (kRf x).has a b = r
  generalize (kCo x).has a b = c
  generalize (kFr x).has a b = f
  cases p <;> cases r <;> cases c <;> cases f <;> rfl

theorem lockS_get (x : Xn) (a : Nat) : (lockS (woX x)).getLsbD a = ((thoseL (fun e => e.locked) x.ev).getLsbD a && (thoseL memB x.ev).getLsbD a) := by
  unfold lockS; rw [BitVec.getLsbD_and]; rfl

theorem law_2 (x : Xn) : uniF (Rl.void (woX x).p.n) ((weakL (woX x) (tsoK (woX x))).map (·.2)) = Rl.gen ((shortL x.ev).length : Int) (cutB (shortL x.ev).length (con2 (shortL x.ev).length (rsX x))) := by
  have h := woX_ok x
  obtain ⟨k1, k2⟩ := tso_wd h
  obtain ⟨h1, h2⟩ := weak_wd h k1
  obtain ⟨h3, h4⟩ := gen_cut (shortL x.ev).length (con2 (shortL x.ev).length (rsX x)) h.le
  refine Wd.ext h1 h3 fun a b ha hb => ?_
  rw [h2 a b ha hb, h4 a b ha hb, k2 a b ha hb, lockS_get, lockS_get]
  unfold con2 conW freeB memPB fenB
  show _ = ((((((kCo x).has a b || (kFr x).has a b) || ((kRf x).has a b && (standsL 4 x.ev).has a b)) || _) || ((((standsL 1 x.ev).has a b && (thoseL memB x.ev).getLsbD a) && (thoseL memB x.ev).getLsbD b) && ((thoseL (fun e => e.locked) x.ev).getLsbD a || (thoseL (fun e => e.locked) x.ev).getLsbD b))) ||
    ((((standsL 1 x.ev).has a b && (thoseL memB x.ev).getLsbD a) && (thoseL memB x.ev).getLsbD b) && !((thoseL (fun e => decide (e.kind = 1)) x.ev ||| thoseL (fun e => decide (e.kind = 2)) x.ev).getLsbD a && (thoseL (fun e => decide (e.kind = 3)) x.ev).getLsbD b)))
  have e1 : (woX x).p.has a b = (standsL 1 x.ev).has a b := rfl
  have e2 : (woX x).r.has a b = (kRf x).has a b := rfl
  have e3 : (woX x).c.has a b = (kCo x).has a b := rfl
  have e4 : (woX x).f.has a b = (kFr x).has a b := rfl
  have e5 : ∀ j, (woX x).m.getLsbD j = (thoseL memB x.ev).getLsbD j := fun _ => rfl
  have e6 : (ofW (woX x) 1 ||| ofW (woX x) 2).getLsbD a = (thoseL (fun e => decide (e.kind = 1)) x.ev ||| thoseL (fun e => decide (e.kind = 2)) x.ev).getLsbD a := rfl
  have e7 : (ofW (woX x) 3).getLsbD b = (thoseL (fun e => decide (e.kind = 3)) x.ev).getLsbD b := rfl
  have e8 : (standsL 4 (woX x).ev).has a b = (standsL 4 x.ev).has a b := rfl
  have e9 : ((List.range (shortL x.ev).length).any fun k => (ofW (woX x) 4).getLsbD k && ((woX x).p.has a k && (woX x).p.has k b)) = ((List.range (shortL x.ev).length).any fun k => (rsX x).fe.getLsbD k && ((rsX x).po.has a k && (rsX x).po.has k b)) := rfl
  rw [e9]
  simp only [e1, e2, e3, e4, e5, e6, e7, e8]
  generalize ((List.range (shortL x.ev).length).any fun k => (rsX x).fe.getLsbD k && ((rsX x).po.has a k && (rsX x).po.has k b)) = f1
  generalize (standsL 1 x.ev).has a b = p
  generalize (standsL 4 x.ev).has a b = it
  generalize (kRf x).has a b = r
  generalize (kCo x).has a b = c
  generalize (kFr x).has a b = f
  generalize (thoseL memB x.ev).getLsbD a = ma
  generalize (thoseL memB x.ev).getLsbD b = mb
  generalize (thoseL (fun e => e.locked) x.ev).getLsbD a = la
  generalize (thoseL (fun e => e.locked) x.ev).getLsbD b = lb
  generalize (thoseL (fun e => decide (e.kind = 1)) x.ev ||| thoseL (fun e => decide (e.kind = 2)) x.ev).getLsbD a = ra
  generalize (thoseL (fun e => decide (e.kind = 3)) x.ev).getLsbD b = wb
  cases f1 <;> cases p <;> cases ma <;> cases mb <;> cases c <;> cases f <;> cases r <;> simp <;> cases la <;> cases lb <;> simp <;> cases it <;> cases ra <;> cases wb <;> rfl

theorem law_3 (x : Xn) : uniF (Rl.void (woX x).p.n) ((weakL (woX x) (psoK (woX x))).map (·.2)) = Rl.gen ((shortL x.ev).length : Int) (cutB (shortL x.ev).length (con3 (shortL x.ev).length (rsX x))) := by
  have h := woX_ok x
  obtain ⟨k1, k2⟩ := pso_wd h
  obtain ⟨h1, h2⟩ := weak_wd h k1
  obtain ⟨h3, h4⟩ := gen_cut (shortL x.ev).length (con3 (shortL x.ev).length (rsX x)) h.le
  refine Wd.ext h1 h3 fun a b ha hb => ?_
  rw [h2 a b ha hb, h4 a b ha hb, k2 a b ha hb, lockS_get, lockS_get]
  have hwm := @wr_mem x.ev a (by have := h.le; omega)
  unfold con3 conW freeB memPB fenB
  show _ = ((((((kCo x).has a b || (kFr x).has a b) || ((kRf x).has a b && (standsL 4 x.ev).has a b)) || _) || ((((standsL 1 x.ev).has a b && (thoseL memB x.ev).getLsbD a) && (thoseL memB x.ev).getLsbD b) && ((thoseL (fun e => e.locked) x.ev).getLsbD a || (thoseL (fun e => e.locked) x.ev).getLsbD b))) ||
    ((((standsL 1 x.ev).has a b && (thoseL memB x.ev).getLsbD a) && (thoseL memB x.ev).getLsbD b) && (thoseL (fun e => decide (e.kind = 3)) x.ev).getLsbD a))
  have e1 : (woX x).p.has a b = (standsL 1 x.ev).has a b := rfl
  have e2 : (woX x).r.has a b = (kRf x).has a b := rfl
  have e3 : (woX x).c.has a b = (kCo x).has a b := rfl
  have e4 : (woX x).f.has a b = (kFr x).has a b := rfl
  have e5 : ∀ j, (woX x).m.getLsbD j = (thoseL memB x.ev).getLsbD j := fun _ => rfl
  have e7 : (ofW (woX x) 3).getLsbD a = (thoseL (fun e => decide (e.kind = 3)) x.ev).getLsbD a := rfl
  have e8 : (standsL 4 (woX x).ev).has a b = (standsL 4 x.ev).has a b := rfl
  have e9 : ((List.range (shortL x.ev).length).any fun k => (ofW (woX x) 4).getLsbD k && ((woX x).p.has a k && (woX x).p.has k b)) = ((List.range (shortL x.ev).length).any fun k => (rsX x).fe.getLsbD k && ((rsX x).po.has a k && (rsX x).po.has k b)) := rfl
  rw [e9]
  simp only [e1, e2, e3, e4, e5, e7, e8]
  generalize ((List.range (shortL x.ev).length).any fun k => (rsX x).fe.getLsbD k && ((rsX x).po.has a k && (rsX x).po.has k b)) = f1
  generalize (standsL 1 x.ev).has a b = p
  generalize (standsL 4 x.ev).has a b = it
  generalize (kRf x).has a b = r
  generalize (kCo x).has a b = c
  generalize (kFr x).has a b = f
  generalize (thoseL memB x.ev).getLsbD a = ma at *
  generalize (thoseL memB x.ev).getLsbD b = mb
  generalize (thoseL (fun e => e.locked) x.ev).getLsbD a = la
  generalize (thoseL (fun e => e.locked) x.ev).getLsbD b = lb
  generalize (thoseL (fun e => decide (e.kind = 3)) x.ev).getLsbD a = wa at *
  cases wa
  · cases f1 <;> cases p <;> cases ma <;> cases mb <;> cases c <;> cases f <;> cases r <;> simp <;> cases la <;> cases lb <;> simp
  · obtain rfl := hwm rfl
    cases f1 <;> cases p <;> cases mb <;> cases c <;> cases f <;> cases r <;> simp <;> cases la <;> cases lb <;> simp
end Go.Proofs.YtmammebifhmnhaaDoor

/-
  The abstract machine, thirty-second part: a struct that holds owned things, loaded whole. Own work; over any program.
-/
namespace Go.AM

theorem loadAgg_run {C : Ctx} {M : Loc} {σ : St} {a : Act} {w : World} {T : Tab} {t id e : Nat} {ti : TI} {segs : List Seg} {l : List AV}
    (hT : tabOK C.P T) (hR : RelQ C M σ a w) (hi : lk T t = some ti) (h1 : oneCellTy ti.d = false) (hb : lk σ.h id = some (.cells e segs)) (hl : ∀ M, concSegs M segs = concL M l) (hsz : ti.size = l.length) :
    (Instr.loadAt t (conc M (.ptr id 0))).run C.P w = .ok (conc M (.agg l)) w := by
  have hB := hR.heap _ _ hb
  have h3 := run_loadVar_agg hT hi h1 (w := w) (b := (M id).1) (o := 0) (vs := concSegs M segs) (j := 0) (by rw [hl, concL_length]; omega) (fun q x hq => by rw [Nat.zero_add, cells_of_blk hB]; exact hq)
  rw [hl, List.drop_zero, List.take_of_length_le (by rw [concL_length]; omega)] at h3
  simpa [Instr.loadAt, Instr.sureAddr, conc] using h3

theorem Run.loadAgg {C : Ctx} {ops : Array Oper} {i : Nat} {rest : List Nat} {k : List Item} {σ : St} {o : Oper} {T : Tab} {t id e : Nat} {ti : TI} {segs : List Seg} {x : Operand} (l : List AV)
    (hT : tabOK C.P T) (ho : ops[i]? = some o) (hop : o.op = .load t x) (hx : σ.ev x = some (.ptr id 0)) (hi : lk T t = some ti) (h1 : oneCellTy ti.d = false) (hb : lk σ.h id = some (.cells e segs)) (hl : ∀ M, concSegs M segs = concL M l) (hsz : ti.size = l.length)
    (hw : wantOf ops σ o = some .yes) (hd : dstOK C.n o.dst = true) (h : Run C (.inRegion ops rest :: k) (σ.put o.dst (.agg l))) : Run C (.inRegion ops (i :: rest) :: k) σ := by
  intro M fp a w hR cs
  obtain ⟨m, s, z'⟩ := h M fp _ w (hR.put (z := .agg l) (dstOK_lt hd)) cs
  refine ⟨m, .head (step_value ho (wantOf_yes hR.q hw) (fun c e => by rw [hop] at e; cases e) ?_) s, z'⟩
  have h2 := hR.q.ev hx
  have h3 := loadAgg_run hT hR.q hi h1 hb hl hsz
  simp [execOp, hop, h2, h3]

theorem RunO.loadAgg {C : Ctx} {held : List (Nat × Blk)} {n0 : Nat} {ops : Array Oper} {i : Nat} {ord : List (Nat × Bool)} {k : List Item} {σ : St} {o : Oper} {T : Tab} {t id e : Nat} {ti : TI} {segs : List Seg} {x : Operand} (l : List AV)
    (hT : tabOK C.P T) (hsel : noSel ops = true) (hbel : hBelow n0 held = true) (ho : ops[i]? = some o) (hop : o.op = .load t x) (hx : σ.ev x = some (.ptr id 0)) (hi : lk T t = some ti) (h1 : oneCellTy ti.d = false) (hb : lk held id = some (.cells e segs)) (hl : ∀ M, concSegs M segs = concL M l) (hsz : ti.size = l.length)
    (hw : wantOf ops σ o = some .yes) (hd : dstOK C.n o.dst = true) (h : RunO C held n0 ops ord k (σ.put o.dst (.agg l))) : RunO C held n0 ops ((i, true) :: ord) k σ := by
  refine RunO.first hsel ho hd (fun M0 M fp a w hM hR => .inl ⟨wantOf_yes hR.q hw, (fun c e => by rw [hop] at e; cases e), fun w' hS' => ?_⟩) h
  have h2 := hR.q.ev hx
  have h3 := loadAgg_run (σ := ⟨σ.t, held, σ.nx⟩) hT (RelQ.held hR hbel hM hS') hi h1 hb hl hsz
  simp [execOp, hop, h2, h3]
end Go.AM

/-
  What Global says, there and here, by the model's number. Own work.
-/
namespace Go.Proofs.YtmammebifhmnhaaDoor
open Go.AM
set_option maxRecDepth 100000

noncomputable def gR (x : Xn) (k : Int) : Rl :=
  if k = 1 then Rl.gen ((shortL x.ev).length : Int) (cutB (shortL x.ev).length (con1 (rsX x)))
  else if k = 2 then Rl.gen ((shortL x.ev).length : Int) (cutB (shortL x.ev).length (con2 (shortL x.ev).length (rsX x)))
  else if k = 3 then Rl.gen ((shortL x.ev).length : Int) (cutB (shortL x.ev).length (con3 (shortL x.ev).length (rsX x)))
  else Rl.void 0
def gE (k : Int) : Int := if k < 1 ∨ k > 3 then 4 else 0

theorem globalM_ok (x : Xn) (k : Int) (w : World) (hX : SeesX w x) (hT : TabAt w) (h0w : 0 < w.heap.size) : Gives Tryd.prog 7 [.int .i64 k, encX x] w (.tuple #[encRel (gR x k), .int .i64 (gE k)]) := by
  have hev : ∀ w', Agree (fun _ => False) w w' → SeesV w' (woX x).pe (woX x).ev := fun w' hA => hX.ev.agree hA (fun _ _ h => h)
  have hTA : ∀ w', Agree (fun _ => False) w w' → TabAt w' := fun w' hA => hT.agree hA (fun f => f)
  have h0A : ∀ w', Agree (fun _ => False) w w' → 0 < w'.heap.size := fun w' hA => Nat.lt_of_lt_of_le h0w hA.size
  by_cases h : k < 1 ∨ k > 3
  · have e1 : gR x k = Rl.void 0 := by unfold gR; rw [if_neg (by omega), if_neg (by omega), if_neg (by omega)]
    rw [e1, gE, if_pos h]
    exact global_out k h x w hX
  · rw [gE, if_neg h]
    have hk : k = 1 ∨ k = 2 ∨ k = 3 := by omega
    rcases hk with rfl | rfl | rfl
    · rw [show gR x 1 = _ from if_pos rfl, ← law_1]
      exact global_of 1 _ (.inl ⟨rfl, rfl⟩) x w hX hT h0w 4 (by decide) _ rfl glob1_enters (fun w' hA b hW => glob1_ok _ b w' hW (hev w' hA))
    · rw [show gR x 2 = _ from (if_neg (by decide)).trans (if_pos rfl), ← law_2]
      exact global_of 2 _ (.inr (.inl ⟨rfl, rfl⟩)) x w hX hT h0w 6 (by decide) _ rfl glob2_enters (fun w' hA b hW => glob2_ok _ b w' hW (hev w' hA) (hTA w' hA) (h0A w' hA))
    · rw [show gR x 3 = _ from (if_neg (by decide)).trans ((if_neg (by decide)).trans (if_pos rfl)), ← law_3]
      exact global_of 3 _ (.inr (.inr ⟨rfl, rfl⟩)) x w hX hT h0w 6 (by decide) _ rfl glob3_enters (fun w' hA b hW => glob3_ok _ b w' hW (hev w' hA) (hTA w' hA) (h0A w' hA))
theorem global_enters : Enters Tryd.prog 7 := enters_mk Tryd.func7 (by decide) rfl

theorem globalR_ok (x : Xn) (k : Int) (w : World) (hX : SeesX w x) : Gives Tryd.prog 8 [.int .i64 k, encX x] w (.tuple #[encRel (gR x k), .int .i64 (gE k)]) := by
  by_cases h : k < 1 ∨ k > 3
  · have e1 : gR x k = Rl.void 0 := by unfold gR; rw [if_neg (by omega), if_neg (by omega), if_neg (by omega)]
    rw [e1, gE, if_pos h]
    exact globalR_out k h x w hX
  · rw [gE, if_neg h]
    have hk : k = 1 ∨ k = 2 ∨ k = 3 := by omega
    rcases hk with rfl | rfl | rfl
    · rw [show gR x 1 = _ from if_pos rfl]; exact globalR1 x w hX
    · rw [show gR x 2 = _ from (if_neg (by decide)).trans (if_pos rfl)]; exact globalR2 x w hX
    · rw [show gR x 3 = _ from (if_neg (by decide)).trans ((if_neg (by decide)).trans (if_pos rfl))]; exact globalR3 x w hX

/-- What is seen of an execution does not hang on where its events lie. -/
theorem gR_at (x : Xn) (p : Option Addr) (c : Nat) (k : Int) : gR { x with pe := p, ce := c } k = gR x k := rfl
theorem unpR_at (x : Xn) (p : Option Addr) (c : Nat) : unpR (woX { x with pe := p, ce := c }) = unpR (woX x) := rfl
end Go.Proofs.YtmammebifhmnhaaDoor

/-
  Lists of events as rows. Own work.
-/
namespace Go.Proofs.YtmammebifhmnhaaDoor
open Go.AM
set_option maxRecDepth 100000

def evsV : List Ev → List Value
  | [] => []
  | e :: l => evV e ++ evsV l
theorem evsV_length : ∀ l : List Ev, (evsV l).length = l.length * 5
  | [] => rfl
  | e :: l => by simp [evsV, evsV_length l]; omega
theorem evsV_get : ∀ (l : List Ev) (i : Nat) (h : i < l.length) (j : Nat), j < 5 → (evsV l)[i * 5 + j]? = (evV l[i])[j]?
  | [], i, h, _, _ => by simp at h
  | e :: l, 0, h, j, hj => by
    simp only [evsV, Nat.zero_mul, Nat.zero_add, List.getElem_cons_zero]
    rw [List.getElem?_append_left (by simpa using hj)]
  | e :: l, i + 1, h, j, hj => by
    have := evsV_get l i (by simpa using h) j hj
    simp only [evsV, List.getElem_cons_succ]
    rw [List.getElem?_append_right (by simp; omega), show (i + 1) * 5 + j - (evV e).length = i * 5 + j by simp; omega]
    exact this
theorem evsV_one (l : List Ev) : ∀ c ∈ evsV l, c.oneCell' = true := by
  induction l with
  | nil => intro c h; cases h
  | cons e l ih =>
    intro c h
    simp only [evsV, List.mem_append] at h
    rcases h with h | h
    · exact (evV_one e).2 trivial c h
    · exact ih c h

theorem seesE_row {M : AM.Loc} {w : World} {id e n : Nat} {vs : List Value} (hb : BlkAt M w id (.row e 5 n vs)) {xs : List Ev} (h : ∀ i (h : i < xs.length) j, j < 5 → vs[i * 5 + j]? = (evV xs[i])[j]?) :
    SeesV w (some ⟨(M id).1, 0, none⟩) xs := by
  intro i hi
  refine ⟨rfl, fun j x hx => ?_⟩
  have hj : j < 5 := by have := (List.getElem?_eq_some_iff.1 hx).1; simpa using this
  have c1 := row_cells hb _ _ ((h i hi j hj).trans hx)
  rw [Nat.zero_add] at c1
  simpa [Addr.add_lit] using c1

theorem ext_evs (w : World) (a : Addr) : ∀ (xs : List Ev) (k : Nat), (∀ i (h : i < xs.length) j x, (evV xs[i])[j]? = some x → w.cell? (a.add ((k + i) * 5 + j)) = some x) → extCells w a (k * 5) (xs.length * 5) = evsV xs
  | [], _, _ => rfl
  | e :: l, k, h => by
    have c := fun j x hx => h 0 (by simp) j x hx
    simp only [List.getElem_cons_zero, Nat.add_zero] at c
    have ih := ext_evs w a l (k + 1) (fun i hi j x hx => by
      have := h (i + 1) (by simpa using hi) j x (by simpa using hx)
      rwa [show k + 1 + i = k + (i + 1) by omega])
    rw [show (e :: l).length * 5 = l.length * 5 + 1 + 1 + 1 + 1 + 1 by simp; omega]
    have c0 := c 0 _ (evV_0 e); have c1 := c 1 _ (evV_1 e); have c2 := c 2 _ (evV_2 e); have c3 := c 3 _ (evV_3 e); have c4 := c 4 _ (evV_4 e)
    simp only [Nat.add_zero] at c0
    simp only [extCells, c0, c1, c2, c3, c4, show k * 5 + 1 + 1 = k * 5 + 2 from rfl, show k * 5 + 2 + 1 = k * 5 + 3 from rfl, show k * 5 + 3 + 1 = k * 5 + 4 from rfl, show k * 5 + 4 + 1 = (k + 1) * 5 by omega, ih]
    rfl

theorem SeesV.ext_all {w : World} {a : Addr} {xs : List Ev} (h : SeesV w (Option.some a) xs) : extCells w a 0 (xs.length * 5) = evsV xs := by
  have := ext_evs w a xs 0 (fun i hi j x hx => by rw [Nat.zero_add]; exact (h i hi).2 j x hx)
  simpa using this

theorem SeesV.some_all {w : World} {a : Addr} {xs : List Ev} (h : SeesV w (Option.some a) xs) : ∀ j, j < xs.length * 5 → (w.cell? (a.add j)).isSome := by
  intro j hj
  have h1 : j / 5 < xs.length := by omega
  have h2 := (h (j / 5) h1).2 (j % 5)
  have h3 : j % 5 < (evV xs[j / 5]).length := by simp; omega
  have := h2 _ (List.getElem?_eq_getElem h3)
  rw [show j / 5 * 5 + j % 5 = j by omega] at this
  rw [show (Option.some a).getD default = a from rfl] at this
  rw [this]; rfl
end Go.Proofs.YtmammebifhmnhaaDoor

/-
  AxiomRelations: the walk. Own work.
-/
namespace Go.Proofs.YtmammebifhmnhaaDoor
open Go.AM
set_option maxRecDepth 100000

set_option maxHeartbeats 4000000 in
theorem axiomRelations_ok (x : Xn) (k : Int) (w : World) (hX : SeesX w x) (hT : TabAt w) (h0w : 0 < w.heap.size) (hp : x.pe = none → x.ev = [] ∧ x.ce = 0) (hl : x.ev.length < maxLen) (hl2 : (x.ev.length + 1) * 40 ≤ 140737488355328) :
    Gives Tryd.prog 3 [encX x, .int .i64 k] w (.bool true) := by
  refine Gives.of_run Tryd.func3 rfl (by show 2 ≤ 77; decide) ?_
  have hone := xV_one hX.one1 hX.one4
  obtain ⟨ev, from_, ord, pe, ce, u1, pf, cf, po, co, u4⟩ := x
  simp only at hl hl2
  suffices H : ∀ σ, inT σ.t [(1, .v (.int .i64 k)), (2, .ptr 0 0), (5, .sl 4 5 0 (ev.length + 1)), (6, .ptr 5 0), (7, .v (.int .i64 0))] →
      inT σ.h [(0, .cells 28 [.vals 5 (xV ⟨ev, from_, ord, pe, ce, u1, pf, cf, po, co, u4⟩)]), (4, .row 30 5 (ev.length + 1) (evsV ev ++ evV ⟨77, 0, 0, 0, false⟩)),
        (5, .cells 28 [.vals 0 [], .one (.sl 4 5 0 ev.length), .vals 4 [u1, .slice pf from_.length cf, .slice po ord.length co, u4]])] → Run _ _ σ by
    cases pe with
    | none =>
      obtain ⟨e1, e2⟩ := hp rfl
      simp only at e1 e2
      subst e1 e2
      refine RunF_sound tab_ok noX_local 400 [] _ _ rfl ?_ ?_
      · simp [fillL, Value.cells, splice, repL, maxLen, segsVals, hone]
        exact ⟨by simp [show tab.size 4 = some 1 from rfl], fun a ha => (evV_one _).2 trivial a (List.mem_of_mem_tail ha), rfl, trivial⟩
      refine Run.toR [(4, 3), (5, 4)] (n' := 6) (H ⟨[(1, .v (.int .i64 k)), (2, .ptr 0 0), (5, .sl 4 5 0 1), (6, .ptr 5 0), (7, .v (.int .i64 0))], [(0, .cells 28 [.vals 5 (xV ⟨[], from_, ord, none, 0, u1, pf, cf, po, co, u4⟩)]), (4, .row 30 5 1 (evsV [] ++ evV ⟨77, 0, 0, 0, false⟩)),
        (5, .cells 28 [.vals 0 [], .one (.sl 4 5 0 0), .vals 4 [u1, .slice pf from_.length cf, .slice po ord.length co, u4]])], 6⟩ ⟨rfl, rfl, rfl, rfl, rfl, trivial⟩ ⟨rfl, rfl, rfl, trivial⟩) ?_ ?_ rfl
      · exact ⟨rfl, rfl, rfl, rfl, rfl, trivial⟩
      · exact ⟨rfl, rfl, rfl, trivial⟩
    | some a =>
      have hx := hX.ev.ext_all
      have hx2 := hX.ev.some_all
      have h1 := evsV_one ev
      refine RunF_sound tab_ok noX_local 400 [] _ _ rfl ?_ ?_
      · simp [hx, fillL, Value.cells, splice, repL, segsVals, hone]
        exact ⟨⟨⟨hx2, by omega, by omega⟩, h1⟩, by simp [show tab.size 4 = some 1 from rfl], by simp only [maxLen]; omega, ⟨⟨by omega, by omega⟩, fun a ha => (evV_one _).2 trivial a (List.mem_of_mem_tail ha)⟩, rfl, trivial⟩
      refine H _ ⟨rfl, rfl, congrArg (fun m => some (AV.sl 4 5 0 m)) (show 0 + ev.length + 1 = ev.length + 1 by omega), rfl, rfl, trivial⟩ ⟨rfl, ?_, rfl, trivial⟩
      have hrowv : (List.take ((0 + ev.length) * 5) (List.take (0 * 5) ([] : List Value) ++ extCells w a 0 (ev.length * 5)) ++ evV ⟨77, 0, 0, 0, false⟩) = evsV ev ++ evV ⟨77, 0, 0, 0, false⟩ := by
        rw [hx]; simp [← evsV_length]
      rw [← hrowv]
      exact congrArg (fun k => some (Blk.row 30 5 (k + 1) _)) (Nat.zero_add _)
  have hrow : ∀ {M : AM.Loc} {w' : World}, BlkAt M w' 4 (.row 30 5 (ev.length + 1) (evsV ev ++ evV ⟨77, 0, 0, 0, false⟩)) → SeesV w' (some ⟨(M 4).1, 0, none⟩) ev := fun hb => seesE_row hb fun i hi j hj => by
    rw [List.getElem?_append_left (by rw [evsV_length]; omega)]
    exact evsV_get ev i hi j hj
  have hcmp : ∀ R : Rl, EqT Tryd.prog 34 (relV R).toArray (relV R).toArray true := fun R => by have := eqRel R R; simpa using this
  have hevX : SeesV w pe ev := hX.ev
  generalize hXX : (⟨ev, from_, ord, pe, ce, u1, pf, cf, po, co, u4⟩ : Xn) = X at *
  have hY : ∀ {M : AM.Loc} {w' : World}, BlkAt M w' 4 (.row 30 5 (ev.length + 1) (evsV ev ++ evV ⟨77, 0, 0, 0, false⟩)) → Agree (fun _ => False) w w' → SeesX w' { X with pe := some ⟨(M 4).1, 0, none⟩, ce := (M 4).2 - 0 } := fun hb hA => by
    have h := hX.agree hA
    subst hXX
    exact { h with ev := hrow hb }
  have hYv : ∀ (M : AM.Loc), conc M (.agg [.sl 4 5 0 ev.length, .v u1, .v (.slice pf from_.length cf), .v (.slice po ord.length co), .v u4]) = encX { X with pe := some ⟨(M 4).1, 0, none⟩, ce := (M 4).2 - 0 } := fun M => by
    subst hXX
    simp [conc, concL, encX, xV]
  have hXe : X.ev = ev := by subst hXX; rfl
  have hsl : slOf (xV X)[0]? = (pe, ev.length, ce) := by subst hXX; rfl
  have hTA : ∀ {w'}, Agree (fun _ => False) w w' → TabAt w' := fun hA => hT.agree hA (fun f => f)
  have h0A : ∀ {w' : World}, Agree (fun _ => False) w w' → 0 < w'.heap.size := fun hA => Nat.lt_of_lt_of_le h0w hA.size
  intro σ ht hh
  refine Run.to ?_ ht hh (n' := 6)
  suffices L : ∀ (d i : Nat), i + d = 5 → ∀ σ, inT σ.t [(1, .v (.int .i64 k)), (2, .ptr 0 0), (5, .sl 4 5 0 (ev.length + 1)), (6, .ptr 5 0), (7, .v (.int .i64 (i : Int)))] →
      inT σ.h [(0, .cells 28 [.vals 5 (xV X)]), (4, .row 30 5 (ev.length + 1) (evsV ev ++ evV ⟨77, 0, 0, 0, false⟩)),
        (5, .cells 28 [.vals 0 [], .one (.sl 4 5 0 ev.length), .vals 4 [u1, .slice pf from_.length cf, .slice po ord.length co, u4]])] → Run _ _ σ by
    exact L 5 0 rfl _ ⟨rfl, rfl, rfl, rfl, rfl, trivial⟩ ⟨rfl, rfl, rfl, trivial⟩
  intro d
  induction d with
  | zero =>
    intro i hi σ ht hh
    refine Run.to ?_ ht hh (n' := 6)
    refine RunF_sound tab_ok noX_local 400 [false] _ _ rfl ?_ ?_
    · simp; omega
    refine Run.drawA noX_local rfl [] [(0, .cells 28 [.vals 5 (xV X)]), (4, .row 30 5 (ev.length + 1) (evsV ev ++ evV ⟨77, 0, 0, 0, false⟩)),
        (5, .cells 28 [.vals 0 [], .one (.sl 4 5 0 ev.length), .vals 4 [u1, .slice pf from_.length cf, .slice po ord.length co, u4]])] rfl rfl ⟨rfl, rfl, rfl, trivial⟩ ?_
    refine RunO.loadAgg [.sl 4 5 0 ev.length, .v u1, .v (.slice pf from_.length cf), .v (.slice po ord.length co), .v u4] tab_ok rfl rfl rfl rfl rfl rfl rfl rfl (fun M => rfl) rfl rfl rfl ?_
    refine RunOF_sound tab_ok noX_local rfl rfl 100 [] _ _ rfl ?_ ?_
    · simp
    refine RunO.callM (r := encRel (unpR (woX X))) noX_local rfl rfl rfl rfl rfl rfl rfl unp_enters rfl (fun M w' hM hA => ?_) ?_
    · have := unp_ok { X with pe := some ⟨(M 4).1, 0, none⟩, ce := (M 4).2 - 0 } w' (hY (hM 4 _ rfl) hA) (hTA hA) (h0A hA)
      rw [← hYv M, unpR_at] at this
      exact this
    have hur : ∀ w' (_ : Agree (fun _ => False) w w'), Gives Tryd.prog 10 [encX X] w' (encRel (unpR (woX X))) := fun w' hA => by rw [law_up]; exact unpR_ok X w' (hX.agree hA)
    generalize unpR (woX X) = R at *
    refine RunOF_sound tab_ok noX_local rfl rfl 100 [] _ _ rfl ?_ ?_
    · simp
    refine RunO.callFn (r := encRel R) noX_local rfl rfl rfl rfl rfl rfl rfl rfl unpR_enters rfl (fun w' hA => hur w' hA) ?_
    refine RunO.cmp rfl rfl rfl rfl rfl rfl rfl (b := true) (c := true) (hcmp R) (.inl ⟨rfl, rfl⟩) ?_
    refine RunOF_sound tab_ok noX_local rfl rfl 100 [true] _ _ rfl ?_ ?_
    · simp
    refine RunO.callM (r := .bool true) noX_local rfl rfl rfl rfl rfl rfl rfl sameEvents_enters rfl (fun M w' hM hA => ?_) ?_
    · have h := sameEvents_ok (some ⟨(M 4).1, 0, none⟩) pe ((M 4).2 - 0) ce ev ev w' (hrow (hM 4 _ rfl)) (hevX.agree hA (fun _ _ h => h)) (by omega)
      show Gives Tryd.prog _ _ _ _
      simp only [Nat.add_zero, Nat.sub_zero, hsl] at h ⊢
      simpa [concL, conc] using h
    have hget : (evsV ev ++ evV ⟨77, 0, 0, 0, false⟩)[ev.length * 5]? = some (.int .i64 77) := by
      rw [List.getElem?_append_right (by rw [evsV_length]; omega), evsV_length]; simp
    have hint : intAt (evsV ev ++ evV ⟨77, 0, 0, 0, false⟩) (ev.length * 5) = 77 := by
      unfold intAt; rw [hget]
    refine RunOF_sound tab_ok noX_local rfl rfl 100 [true] _ _ rfl ?_ ?_
    · have hw := wrap_succ (k := ev.length) (by simp only [maxLen] at hl; omega)
      simp [hget, hint, hXe]
      omega
    refine RunO.done ?_
    refine RunF_sound tab_ok noX_local 100 [] _ _ rfl ?_ ?_
    · simp
    refine Run.retP tab_ok Tryd.func3 rfl trivial (fun M => ?_)
    simp [conc, hint, hXe]
  | succ d ih =>
    intro i hi σ ht hh
    refine Run.to ?_ ht hh (n' := 6)
    obtain ⟨K, hK⟩ : ∃ K : Int, K = if (i : Int) = 4 then k else (i : Int) := ⟨_, rfl⟩
    refine' Run.join (todo' := _) [(1, .v (.int .i64 k)), (2, .ptr 0 0), (5, .sl 4 5 0 (ev.length + 1)), (6, .ptr 5 0), (7, .v (.int .i64 (i : Int))), (8, .v (.int .i64 K)), (36, .v (.int .i64 K))] [(0, .cells 28 [.vals 5 (xV X)]), (4, .row 30 5 (ev.length + 1) (evsV ev ++ evV ⟨77, 0, 0, 0, false⟩)),
        (5, .cells 28 [.vals 0 [], .one (.sl 4 5 0 ev.length), .vals 4 [u1, .slice pf from_.length cf, .slice po ord.length co, u4]])] 6 ?_ ?_
    rotate_left
    · intro J
      by_cases h4 : (i : Int) = 4
      · refine RunF_sound tab_ok noX_local 400 [true, true] _ _ rfl ?_ ?_
        · simp [h4]
        refine J _ ?_ ?_
        · exact ⟨⟨_, rfl, fun M => rfl⟩, ⟨_, rfl, fun M => rfl⟩, ⟨_, rfl, fun M => rfl⟩, ⟨_, rfl, fun M => rfl⟩, ⟨_, rfl, fun M => rfl⟩, ⟨_, rfl, fun M => congrArg (Value.int .i64) (by simp [hK, h4])⟩, ⟨_, rfl, fun M => congrArg (Value.int .i64) (by simp [hK, h4])⟩, trivial⟩
        · exact ⟨rfl, rfl, rfl, trivial⟩
      · refine RunF_sound tab_ok noX_local 400 [true, false] _ _ rfl ?_ ?_
        · simp [h4]; omega
        refine J _ ?_ ?_
        · exact ⟨⟨_, rfl, fun M => rfl⟩, ⟨_, rfl, fun M => rfl⟩, ⟨_, rfl, fun M => rfl⟩, ⟨_, rfl, fun M => rfl⟩, ⟨_, rfl, fun M => rfl⟩, ⟨_, rfl, fun M => congrArg (Value.int .i64) (by simp [hK, h4])⟩, ⟨_, rfl, fun M => congrArg (Value.int .i64) (by simp [hK, h4])⟩, trivial⟩
        · exact ⟨rfl, rfl, rfl, trivial⟩
    refine Run.loadAgg [.sl 4 5 0 ev.length, .v u1, .v (.slice pf from_.length cf), .v (.slice po ord.length co), .v u4] tab_ok rfl rfl rfl rfl rfl rfl (fun M => rfl) rfl rfl rfl ?_
    refine Run.callM (r := .tuple #[encRel (gR X K), .int .i64 (gE K)]) noX_local rfl rfl rfl rfl rfl rfl global_enters rfl (fun M w' hM hA => ?_) ?_
    · have := globalM_ok { X with pe := some ⟨(M 4).1, 0, none⟩, ce := (M 4).2 - 0 } K w' (hY (hM 4 _ rfl) hA) (hTA hA) (h0A hA)
      rw [← hYv M, gR_at] at this
      exact this
    have hgR := fun w' (hA : Agree (fun _ => False) w w') => globalR_ok X K w' (hX.agree hA)
    generalize gR X K = R at *
    generalize gE K = E at *
    refine RunF_sound tab_ok noX_local 400 [] _ _ rfl ?_ ?_
    · simp [segsVals, relV_one']
    refine Run.callFn (r := .tuple #[encRel R, .int .i64 E]) noX_local rfl rfl rfl rfl rfl rfl rfl globalR_enters rfl (fun w' hA => hgR w' hA) ?_
    refine RunF_sound tab_ok noX_local 400 [] _ _ rfl ?_ ?_
    · simp [segsVals, relV_one']
    refine Run.cmp rfl rfl rfl rfl rfl rfl (b := true) (c := false) (hcmp R) (.inr ⟨rfl, rfl⟩) ?_
    refine RunF_sound tab_ok noX_local 400 [false, false] _ _ rfl ?_ ?_
    · simp
    exact ih (i + 1) (by omega) _ ⟨rfl, rfl, rfl, rfl, i64_eq (wrap_succ (by omega)), trivial⟩ ⟨rfl, rfl, rfl, trivial⟩
end Go.Proofs.YtmammebifhmnhaaDoor

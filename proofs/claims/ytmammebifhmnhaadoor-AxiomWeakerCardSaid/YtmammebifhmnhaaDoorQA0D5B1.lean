/-
  Own work, merged: A2, A3, AM40, A4, A5.
-/
import Derived.AtR
import Derived.Below
import Derived.ChangeKeysEq
import Derived.KernelRfl
import Derived.LaidMore
import Derived.Laws.AppendOwn
import Derived.Laws.BytesString
import Derived.Laws.Cells
import Derived.Laws.CopyRow
import Derived.Laws.Entries
import Derived.Laws.Rows
import Derived.Laws.Small
import Derived.Laws.StructEq
import Derived.Lib.LaidTab
import Derived.Lib.TrailingZeros
import Derived.Maps.AppendAt
import Derived.OpenShut
import Derived.Orders
import Derived.ProofKit
import Derived.RangeFuncRecord
import Derived.SevenTiedAt
import Derived.Stop.Joined
import Derived.Test.YtmammebifhmnhaaDoorCards
import Derived.Test.YtmammebifhmnhaaDoorProg
import Derived.Test.YtmammebifhmnhaaDoorRows
import Derived.Test.YtmammebifhmnhaaDoorTie
import Derived.Test.YtmammebifhmnhaaDoorQ25BE50
/-
  Between: the first read, write between, and its write. Own work.
-/
namespace Go.Proofs.YtmammebifhmnhaaDoor
open Go.AM
set_option maxRecDepth 100000

/-- A write comes between a read and its write. -/
def brkP (F M C : Rl) (r v x : Nat) : Bool := F.has r v && (M.has r x && C.has v x)
/-- No such three stand ahead of these three. -/
def Clear (n : Nat) (F M C : Rl) (r v x : Nat) : Prop := ∀ r' v' x', r' < n → v' < n → x' < n → (r' < r ∨ (r' = r ∧ (v' < v ∨ (v' = v ∧ x' < x)))) → brkP F M C r' v' x' = false
def IsBet (n : Nat) (F M C : Rl) (y : Option (List Nat)) : Prop :=
  (y = none ∧ Clear n F M C n 0 0) ∨ ∃ r v x, r < n ∧ v < n ∧ x < n ∧ y = some [r, v, x] ∧ brkP F M C r v x = true ∧ Clear n F M C r v x

theorem IsBet.eq {n : Nat} {F M C : Rl} {y z : Option (List Nat)} (hy : IsBet n F M C y) (hz : IsBet n F M C z) : y = z := by
  rcases hy with ⟨rfl, h⟩ | ⟨r, v, x, h1, h2, h3, rfl, h4, h5⟩ <;> rcases hz with ⟨rfl, g⟩ | ⟨r', v', x', g1, g2, g3, rfl, g4, g5⟩
  · rfl
  · have := h r' v' x' g1 g2 g3 (.inl g1); rw [g4] at this; cases this
  · have := g r v x h1 h2 h3 (.inl h1); rw [h4] at this; cases this
  · have k1 : ¬ (r' < r ∨ (r' = r ∧ (v' < v ∨ (v' = v ∧ x' < x)))) := fun h => by have := h5 r' v' x' g1 g2 g3 h; rw [g4] at this; cases this
    have k2 : ¬ (r < r' ∨ (r = r' ∧ (v < v' ∨ (v = v' ∧ x < x')))) := fun h => by have := g5 r v x h1 h2 h3 h; rw [h4] at this; cases this
    have e1 : r = r' := by omega
    have e2 : v = v' := by omega
    have e3 : x = x' := by omega
    rw [e1, e2, e3]

theorem bet_ex (n : Nat) (F M C : Rl) : ∃ y, IsBet n F M C y := by
  by_cases h : ∃ r, ∃ v x, r < n ∧ v < n ∧ x < n ∧ brkP F M C r v x = true
  · obtain ⟨r, ⟨v0, x0, hr, hv0, hx0, hb0⟩, hr2⟩ := least_ex _ h
    obtain ⟨v, ⟨x1, hv, hx1, hb1⟩, hv2⟩ := least_ex (fun v => ∃ x, v < n ∧ x < n ∧ brkP F M C r v x = true) ⟨v0, x0, hv0, hx0, hb0⟩
    obtain ⟨x, ⟨hx, hb⟩, hx2⟩ := least_ex (fun x => x < n ∧ brkP F M C r v x = true) ⟨x1, hx1, hb1⟩
    refine ⟨some [r, v, x], .inr ⟨r, v, x, hr, hv, hx, rfl, hb, fun r' v' x' g1 g2 g3 g4 => ?_⟩⟩
    cases hq : brkP F M C r' v' x' with
    | false => rfl
    | true =>
      rcases g4 with g | ⟨rfl, g | ⟨rfl, g⟩⟩
      · exact absurd ⟨v', x', g1, g2, g3, hq⟩ (hr2 r' g)
      · exact absurd ⟨x', g2, g3, hq⟩ (hv2 v' g)
      · exact absurd ⟨g3, hq⟩ (hx2 x' g)
  · refine ⟨none, .inl ⟨rfl, fun r' v' x' g1 g2 g3 _ => ?_⟩⟩
    cases hq : brkP F M C r' v' x' with
    | false => rfl
    | true => exact absurd ⟨r', v', x', g1, g2, g3, hq⟩ h

theorem Clear.next3 {n : Nat} {F M C : Rl} {r v x : Nat} (h : Clear n F M C r v x) (hp : brkP F M C r v x = false) : Clear n F M C r v (x + 1) := fun r' v' x' g1 g2 g3 g4 => by
  by_cases e : r' = r ∧ v' = v ∧ x' = x
  · obtain ⟨rfl, rfl, rfl⟩ := e; exact hp
  · exact h r' v' x' g1 g2 g3 (by omega)
theorem Clear.next2 {n : Nat} {F M C : Rl} {r v : Nat} (h : Clear n F M C r v n) : Clear n F M C r (v + 1) 0 := fun r' v' x' g1 g2 g3 g4 => h r' v' x' g1 g2 g3 (by omega)
theorem Clear.skip2 {n : Nat} {F M C : Rl} {r v : Nat} (h : Clear n F M C r v 0) (hp : F.has r v = false) : Clear n F M C r (v + 1) 0 := fun r' v' x' g1 g2 g3 g4 => by
  by_cases e : r' = r ∧ v' = v
  · obtain ⟨rfl, rfl⟩ := e; simp [brkP, hp]
  · exact h r' v' x' g1 g2 g3 (by omega)
theorem Clear.next1 {n : Nat} {F M C : Rl} {r : Nat} (h : Clear n F M C r n 0) : Clear n F M C (r + 1) 0 0 := fun r' v' x' g1 g2 g3 g4 => h r' v' x' g1 g2 g3 (by omega)
theorem Clear.start {n : Nat} {F M C : Rl} : Clear n F M C 0 0 0 := fun r' v' x' g1 g2 g3 g4 => by omega

theorem hasW {n : Nat} {R : Rl} (hn : n ≤ 64) (h : Wd n R) {a b : Nat} (ha : a < n) (hb : b < n) (w : World) : Gives Tryd.prog 81 [encRel R, .int .i64 (a : Int), .int .i64 (b : Int)] w (.bool (R.has a b)) := by
  have := has_ok R (a : Int) (b : Int) w
  rw [h.right hn] at this
  have e : hasI R (a : Int) (b : Int) = R.has a b := by
    unfold hasI
    rw [h.sz, decide_eq_true ⟨by omega, by omega, by omega, by omega⟩]
    simp
  rwa [e] at this

set_option maxHeartbeats 2000000 in
theorem between_ok (W : Wo) (hc : Wd (shortL W.ev).length W.c) (hf : Wd (shortL W.ev).length W.f) (y : Option (List Nat)) (hy : IsBet (shortL W.ev).length W.f (standsL 5 W.ev) W.c y) (b : Nat) (w : World) (hW : WoAt w b W) (hs : SeesV w W.pe W.ev) :
    HandsZ Tryd.prog 47 [.pointer (some ⟨b, 0, none⟩)] w (exZ y) (exH y) := by
  refine HandsZ.of_run Tryd.func47 rfl (by show 1 ≤ 56; decide) ?_
  have r3 := hW.rel3; have r4 := hW.rel4; have ee := hW.evs
  have i3 := hW.some (o := 131) (d := 65) (by decide); have i4 := hW.some (o := 196) (d := 65) (by decide)
  have hev : ∀ {w'}, Agree (fun _ => False) w w' → SeesV w' W.pe W.ev := fun hA => hs.agree hA (fun _ _ h => h)
  have hm : Wd (shortL W.ev).length (standsL 5 W.ev) := stands_wd 5 W.ev
  have hn := shortL_le W.ev
  refine RunF_sound tab_ok noX_local 100 [] _ _ rfl ?_ ?_
  · simp [ee]
  try simp only [fnC_w0, ee, slOf_slice]
  refine Run.callFn (r := encRel (standsL 5 W.ev)) noX_local rfl rfl rfl rfl rfl rfl rfl rmw_enters rfl (fun w' hA => by have := rmw_ok W.pe W.ce W.ev w' (hev hA); rw [eqRmw] at this; exact this) ?_
  generalize standsL 5 W.ev = M at *
  generalize (shortL W.ev).length = n at *
  have hMn := hm.sz
  refine RunF_sound tab_ok noX_local 100 [] _ _ rfl ?_ ?_
  · simp [segsVals, relV_one']
  suffices H : ∀ (d r : Nat), r + d = n → Clear n W.f M W.c r 0 0 → ∀ σ, inT σ.t [(0, .v (.pointer (some ⟨b, 0, none⟩))), (4, .ptr 0 0), (14, .v (.int .i64 (n : Int))), (15, .v (.int .i64 (r : Int)))] → inT σ.h [(0, .cells 34 [.vals 65 (relV M)])] → Run _ _ σ by
    refine H n 0 (by omega) .start _ ⟨rfl, rfl, ?_, rfl, trivial⟩ ⟨rfl, trivial⟩
    simp [lk, hMn]
  intro d
  induction d with
  | zero =>
    intro r hr hcl σ ht hh
    refine Run.to ?_ ht hh (n' := 1)
    obtain rfl : r = n := by omega
    obtain rfl : y = none := hy.eq (.inl ⟨rfl, hcl⟩)
    refine RunF_sound tab_ok noX_local 100 [false] _ _ rfl ?_ ?_
    · simp
    exact Run.retH tab_ok [] Tryd.func47 rfl trivial rfl trivial rfl
  | succ d ih =>
    intro r hr hcl σ ht hh
    refine Run.to ?_ ht hh (n' := 1)
    have hrn : r < n := by omega
    refine RunF_sound tab_ok noX_local 100 [true] _ _ rfl ?_ ?_
    · simp [hMn]; omega
    suffices H2 : ∀ (d v : Nat), v + d = n → Clear n W.f M W.c r v 0 → ∀ σ, inT σ.t [(0, .v (.pointer (some ⟨b, 0, none⟩))), (4, .ptr 0 0), (14, .v (.int .i64 (n : Int))), (15, .v (.int .i64 (r : Int))), (5, .v (.int .i64 (r : Int))), (19, .v (.int .i64 (n : Int))), (20, .v (.int .i64 (v : Int)))] → inT σ.h [(0, .cells 34 [.vals 65 (relV M)])] → Run _ _ σ by
      refine H2 n 0 (by omega) hcl _ ⟨rfl, rfl, rfl, rfl, rfl, ?_, rfl, trivial⟩ ⟨rfl, trivial⟩
      simp [lk, hMn]
    clear ht hh hcl
    intro d2
    induction d2 with
    | zero =>
      intro v hv hcl σ ht hh
      refine Run.to ?_ ht hh (n' := 1)
      obtain rfl : v = n := by omega
      refine RunF_sound tab_ok noX_local 100 [false] _ _ rfl ?_ ?_
      · simp
      exact ih (r + 1) (by omega) hcl.next1 _ ⟨rfl, rfl, rfl, i64_eq (wrap_succ (by omega)), trivial⟩ ⟨rfl, trivial⟩
    | succ d2 ih2 =>
      intro v hv hcl σ ht hh
      refine Run.to ?_ ht hh (n' := 1)
      have hvn : v < n := by omega
      refine RunF_sound tab_ok noX_local 100 [true] _ _ rfl ?_ ?_
      · simp; exact ⟨hvn, i4⟩
      try simp only [fnC_w0, r4]
      refine Run.callFn (r := .bool (W.f.has r v)) noX_local rfl rfl rfl rfl rfl rfl rfl has_enters rfl (fun w' _ => hasW hn hf hrn hvn w') ?_
      cases hfv : W.f.has r v with
      | false =>
        refine RunF_sound tab_ok noX_local 100 [true] _ _ rfl ?_ ?_
        · simp
        exact ih2 (v + 1) (by omega) (hcl.skip2 hfv) _ ⟨rfl, rfl, rfl, rfl, rfl, rfl, i64_eq (wrap_succ (by omega)), trivial⟩ ⟨rfl, trivial⟩
      | true =>
        refine RunF_sound tab_ok noX_local 100 [false] _ _ rfl ?_ ?_
        · simp
        suffices H3 : ∀ (d x : Nat), x + d = n → Clear n W.f M W.c r v x → ∀ σ, inT σ.t [(0, .v (.pointer (some ⟨b, 0, none⟩))), (4, .ptr 0 0), (14, .v (.int .i64 (n : Int))), (15, .v (.int .i64 (r : Int))), (5, .v (.int .i64 (r : Int))), (19, .v (.int .i64 (n : Int))), (20, .v (.int .i64 (v : Int))), (6, .v (.int .i64 (v : Int))), (32, .v (.int .i64 (n : Int))), (33, .v (.int .i64 (x : Int)))] → inT σ.h [(0, .cells 34 [.vals 65 (relV M)])] → Run _ _ σ by
          refine H3 n 0 (by omega) hcl _ ⟨rfl, rfl, rfl, rfl, rfl, rfl, rfl, rfl, ?_, rfl, trivial⟩ ⟨rfl, trivial⟩
          simp [lk, hMn]
        clear ht hh hcl
        intro d3
        induction d3 with
        | zero =>
          intro x hx hcl σ ht hh
          refine Run.to ?_ ht hh (n' := 1)
          obtain rfl : x = n := by omega
          refine RunF_sound tab_ok noX_local 100 [false] _ _ rfl ?_ ?_
          · simp
          exact ih2 (v + 1) (by omega) hcl.next2 _ ⟨rfl, rfl, rfl, rfl, rfl, rfl, i64_eq (wrap_succ (by omega)), trivial⟩ ⟨rfl, trivial⟩
        | succ d3 ih3 =>
          intro x hx hcl σ ht hh
          refine Run.to ?_ ht hh (n' := 1)
          have hxn : x < n := by omega
          refine RunF_sound tab_ok noX_local 100 [true] _ _ rfl ?_ ?_
          · simp; exact hxn
          refine Run.callFn (r := .bool (M.has r x)) noX_local rfl rfl rfl rfl rfl rfl rfl has_enters rfl (fun w' _ => hasW hn hm hrn hxn w') ?_
          have hgo : brkP W.f M W.c r v x = false → ∀ σ, inT σ.t [(0, .v (.pointer (some ⟨b, 0, none⟩))), (4, .ptr 0 0), (14, .v (.int .i64 (n : Int))), (15, .v (.int .i64 (r : Int))), (5, .v (.int .i64 (r : Int))), (19, .v (.int .i64 (n : Int))), (20, .v (.int .i64 (v : Int))), (6, .v (.int .i64 (v : Int))), (32, .v (.int .i64 (n : Int))), (33, .v (.int .i64 ((x + 1 : Nat) : Int)))] → inT σ.h [(0, .cells 34 [.vals 65 (relV M)])] → Run _ _ σ := fun hp => ih3 (x + 1) (by omega) (hcl.next3 hp)
          cases hmx : M.has r x with
          | false =>
            refine RunF_sound tab_ok noX_local 100 [false, false] _ _ rfl ?_ ?_
            · simp
            exact hgo (by simp [brkP, hmx]) _ ⟨rfl, rfl, rfl, rfl, rfl, rfl, rfl, rfl, rfl, i64_eq (wrap_succ (by omega)), trivial⟩ ⟨rfl, trivial⟩
          | true =>
            refine RunF_sound tab_ok noX_local 100 [true] _ _ rfl ?_ ?_
            · simp; exact i3
            try simp only [fnC_w0, r3]
            refine Run.callFn (r := .bool (W.c.has v x)) noX_local rfl rfl rfl rfl rfl rfl rfl has_enters rfl (fun w' _ => hasW hn hc hvn hxn w') ?_
            cases hcx : W.c.has v x with
            | false =>
              refine RunF_sound tab_ok noX_local 100 [false] _ _ rfl ?_ ?_
              · simp
              exact hgo (by simp [brkP, hcx]) _ ⟨rfl, rfl, rfl, rfl, rfl, rfl, rfl, rfl, rfl, i64_eq (wrap_succ (by omega)), trivial⟩ ⟨rfl, trivial⟩
            | true =>
              obtain rfl : y = some [r, v, x] := hy.eq (.inr ⟨r, v, x, hrn, hvn, hxn, rfl, by simp [brkP, hfv, hmx, hcx], hcl⟩)
              refine RunF_sound tab_ok noX_local 100 [true] _ _ rfl ?_ ?_
              · simp [fillL, repL, splice, Value.cells, maxLen]
              exact Run.retH tab_ok [(0, 1)] Tryd.func47 rfl trivial rfl ⟨rfl, trivial⟩ rfl
theorem between_enters : Enters Tryd.prog 47 := enters_mk Tryd.func47 (by decide) rfl
end Go.Proofs.YtmammebifhmnhaaDoor

/-
  Why: the axioms that do not hold, each with a round. Own work.
-/
namespace Go.Proofs.YtmammebifhmnhaaDoor
open Go.AM
set_option maxRecDepth 100000

noncomputable def cycO (r : Rl) : Option (List Nat) := (cyc_ex (rightL r)).choose
theorem cycO_is (r : Rl) : IsCyc (rightL r) (cycO r) := (cyc_ex (rightL r)).choose_spec
noncomputable def betO (n : Nat) (F M C : Rl) : Option (List Nat) := (bet_ex n F M C).choose
theorem betO_is (n : Nat) (F M C : Rl) : IsBet n F M C (betO n F M C) := (bet_ex n F M C).choose_spec

/-- What hands over a list or none, said as of old memory. -/
theorem plain_of {f : FuncId} {args : List Value} {w : World} {x : Option (List Nat)} (h : HandsZ Tryd.prog f args w (exZ x) (exH x)) :
    GivesR Tryd.prog f args w (fun v w' => Agree (fun _ => False) w w' ∧ ((x = none ∧ v = .tuple #[.slice none 0 0, .bool false]) ∨ ∃ e : Ent, x = some e.2.2 ∧ v = .tuple #[slV e, .bool true] ∧ EntAt w' e ∧ w.heap.size ≤ e.1)) := by
  refine Calls.mono' h fun e w' ⟨v, h1, hh⟩ => ⟨v, h1, hh.agree, ?_⟩
  obtain ⟨M, hv, hb, _⟩ := hh.ex
  cases x with
  | none => exact .inl ⟨rfl, by rw [← hv]; simp [exZ, conc, concL]⟩
  | some l =>
    have h2 := hb 0 _ rfl
    refine .inr ⟨((M 0).1, (M 0).2, l), rfl, by rw [← hv]; simp [exZ, conc, concL, slV], ?_, h2.2⟩
    exact h2.1

/-- An axiom's number and its round, where it lies. -/
abbrev Bnt := Nat × Ent
def bnV (e : Bnt) : List Value := [.int .i64 (e.1 : Int), slV e.2]
def bnsV (s : List Bnt) : List Value := s.flatMap bnV
def bnC (e : Bnt) : Nat × List Nat := (e.1, e.2.2.2)
theorem bnsV_len (s : List Bnt) : (bnsV s).length = s.length * 2 := by
  induction s with
  | nil => rfl
  | cons a s ih => simp only [bnsV, List.flatMap_cons, List.length_append, List.length_cons] at ih ⊢; rw [ih]; simp [bnV]; omega
theorem bnsV_one (s : List Bnt) : (∀ u ∈ bnsV s, u.oneCell' = true) ↔ True := iff_true_intro fun u hu => by
  obtain ⟨e, _, h⟩ := List.mem_flatMap.1 hu
  simp only [bnV, List.mem_cons, List.not_mem_nil, or_false] at h
  rcases h with rfl | rfl <;> rfl
def bz (id : Nat) : List Bnt → AV
  | [] => .v (.slice none 0 0)
  | _ :: s => .sl id 2 0 (s.length + 1)
def br (id : Nat) : List Bnt → List (Nat × Blk)
  | [] => []
  | e :: s => [(id, .row 62 2 (s.length + 1) (bnsV (e :: s)))]

/-- What has been found so far, in memory that stands still. -/
structure KeepB (w0 w1 : World) (S : Foot) (s : List Bnt) : Prop where
  at_ : ∀ e ∈ s, EntAt w1 e.2
  off : ∀ e ∈ s, ¬ S e.2.1
  new : ∀ e ∈ s, w0.heap.size ≤ e.2.1
  inc : (s.map fun e => e.2.1).Pairwise (· < ·)
theorem KeepB.nil (w0 w1 : World) (S : Foot) : KeepB w0 w1 S [] := ⟨fun e h => (by cases h), fun e h => (by cases h), fun e h => (by cases h), List.Pairwise.nil⟩
theorem KeepB.lt {w0 w1 : World} {S : Foot} {s : List Bnt} (h : KeepB w0 w1 S s) {e : Bnt} (he : e ∈ s) : e.2.1 < w1.heap.size := (h.at_ e he).lt
theorem KeepB.call {w0 w1 w w2 : World} {S S2 : Foot} {s : List Bnt} (h : KeepB w0 w1 S s) (k : Agree S w1 w) (l : Agree (fun _ => False) w w2) (hs : Since w1 S w S2) : KeepB w0 w2 S2 s :=
  ⟨fun e he => BlkAt.same (h.at_ e he) (by
    show w2.heap[e.2.1]? = w1.heap[e.2.1]?
    rw [l.block _ (Nat.lt_of_lt_of_le (h.lt he) k.size) (fun f => f), k.block _ (h.lt he) (h.off e he)]), fun e he => hs.old _ (h.lt he) (h.off e he), h.new, h.inc⟩
theorem KeepB.snoc {w0 w1 w w2 : World} {S S2 : Foot} {s : List Bnt} (h : KeepB w0 w1 S s) (k : Agree S w1 w) (l : Agree (fun _ => False) w w2) (hs : Since w1 S w S2) (h0 : w0.heap.size ≤ w.heap.size) (e : Bnt) (he : EntAt w2 e.2) (hn : w.heap.size ≤ e.2.1) : KeepB w0 w2 S2 (s ++ [e]) := by
  have h' := h.call k l hs
  refine ⟨fun d hd => ?_, fun d hd => ?_, fun d hd => ?_, ?_⟩
  · rcases List.mem_append.1 hd with hd | hd
    · exact h'.at_ d hd
    · rw [List.mem_singleton] at hd; subst hd; exact he
  · rcases List.mem_append.1 hd with hd | hd
    · exact h'.off d hd
    · rw [List.mem_singleton] at hd; subst hd; exact hs.new _ hn
  · rcases List.mem_append.1 hd with hd | hd
    · exact h'.new d hd
    · rw [List.mem_singleton] at hd; subst hd; exact Nat.le_trans h0 hn
  · rw [List.map_append, List.pairwise_append]
    refine ⟨h.inc, by simp, fun a ha b hb => ?_⟩
    obtain ⟨d, hd, rfl⟩ := List.mem_map.1 ha
    simp only [List.map_cons, List.map_nil, List.mem_singleton] at hb
    subst hb
    have := h.lt hd
    have := k.size
    omega

noncomputable def whyL (x : Xn) (k : Int) : List (Nat × List Nat) :=
  if k < 1 ∨ k > 3 then [] else ((cycO (unpR (woX x))).toList.map fun l => (1, l)) ++ (((betO (shortL x.ev).length (kFr x) (standsL 5 x.ev) (kCo x)).toList.map fun l => (2, l)) ++ ((cycO (gR x k)).toList.map fun l => (3, l)))

/-- Where the row of what was found lies. -/
def RowB (w : World) (p : Option Addr) (c : Nat) (s : List Bnt) : Prop :=
  (s = [] ∧ p = none ∧ c = 0) ∨ ∃ b, p = some ⟨b, 0, none⟩ ∧ BlkAt (fun _ => (b, c)) w 0 (.row 62 2 s.length (bnsV s))
structure Found (w0 w : World) (p : Option Addr) (c : Nat) (s : List Bnt) : Prop where
  row : RowB w p c s
  new : ∀ a, p = some a → w0.heap.size ≤ a.block
  at_ : ∀ e ∈ s, EntAt w e.2
  nw : ∀ e ∈ s, w0.heap.size ≤ e.2.1
  inc : (s.map fun e => e.2.1).Pairwise (· < ·)
  sep : ∀ a, p = some a → ∀ e ∈ s, e.2.1 ≠ a.block
def WhyQ (x : Xn) (k : Int) (w : World) (v : Value) (w' : World) : Prop :=
  ∃ (s : List Bnt) (p : Option Addr) (c : Nat), v = .tuple #[.slice p s.length c, .int .i64 (gE k)] ∧ s.map bnC = whyL x k ∧ Found w w' p c s

set_option maxHeartbeats 2000000 in
theorem why_out (k : Int) (h : k < 1 ∨ k > 3) (x : Xn) (w : World) (hX : SeesX w x) :
    Makes Tryd.prog 18 [.int .i64 k, encX x] w (WhyQ x k w) := by
  refine Makes.of_run Tryd.func18 rfl (by show 2 ≤ 67; decide) ?_
  have hone := xV_one hX.one1 hX.one4
  refine RunF_sound tab_ok noX_local 100 [] _ _ rfl ?_ ?_
  · simp
  refine Run.callFn noX_local rfl rfl rfl rfl rfl rfl rfl globals_enters rfl (fun w' _ => globals_out k h w') ?_
  refine RunF_sound tab_ok noX_local 400 [true] _ _ rfl ?_ ?_
  · simp [segsVals]
    exact ⟨rfl, rfl, rfl⟩
  refine Run.retM (Ds := []) tab_ok noX_local Tryd.func18 rfl trivial fun M fp a w' hr => ?_
  refine ⟨hr.agree, [], none, 0, ?_, ?_, ⟨.inl ⟨rfl, rfl, rfl⟩, fun a h => (by cases h), fun e h => (by cases h), fun e h => (by cases h), List.Pairwise.nil, fun a h => (by cases h)⟩⟩
  · rw [gE, if_pos h]; rfl
  · rw [whyL, if_pos h]; rfl

theorem szI : tab.size 24 = some 1 := rfl
theorem zB : z62.length = 2 := rfl
theorem zBd : z62.drop 2 = [] := rfl
theorem bz_app (id : Nat) (s : List Bnt) (e : Bnt) : bz id (s ++ [e]) = .sl id 2 0 (s.length + 1) := by cases s <;> simp [bz]
theorem br_app (id : Nat) (s : List Bnt) (e : Bnt) : br id (s ++ [e]) = [(id, .row 62 2 (s.length + 1) (bnsV (s ++ [e])))] := by cases s <;> simp [br]
theorem bns_app (s : List Bnt) (n : Nat) (hn : n = s.length) (e : Bnt) : (bnsV s).take (n * 2) ++ bnV e = bnsV (s ++ [e]) := by
  subst hn
  rw [← bnsV_len, List.take_length]
  simp [bnsV]
set_option maxHeartbeats 4000000 in
theorem why_of (k : Int) (g : FuncId) (hk : k = 1 ∧ g = 49 ∨ k = 2 ∧ g = 50 ∨ k = 3 ∧ g = 55) (x : Xn) (w : World) (hX : SeesX w x) (hT : TabAt w) (h0w : 0 < w.heap.size)
    (n : Nat) (hn : n ≤ 64) (L : List (ByteArray × Rl)) (hL : L.length = n) (hent : Enters Tryd.prog g)
    (hg : ∀ w', Agree (fun _ => False) w w' → ∀ b, WoAt w' b (woX x) → HandsZ Tryd.prog g [.pointer (some ⟨b, 0, none⟩)] w' (.sl 0 66 0 n) [(0, .row 98 66 n (encNm L))])
    (hGr : uniF (Rl.void (woX x).p.n) (L.map (·.2)) = gR x k) :
    Makes Tryd.prog 18 [.int .i64 k, encX x] w (WhyQ x k w) := by
  have hTA : ∀ w', Agree (fun _ => False) w w' → TabAt w' := fun w' hA => hT.agree hA (fun f => f)
  have hSA : ∀ w', Agree (fun _ => False) w w' → 0 < w'.heap.size := fun w' hA => Nat.lt_of_lt_of_le h0w hA.size
  have hk13 : ¬ (k < 1 ∨ k > 3) := by omega
  have hwhy : whyL x k = ((cycO (unpR (woX x))).toList.map fun l => (1, l)) ++ (((betO (shortL x.ev).length (kFr x) (standsL 5 x.ev) (kCo x)).toList.map fun l => (2, l)) ++ ((cycO (gR x k)).toList.map fun l => (3, l))) := by rw [whyL, if_neg hk13]
  have hgE : gE k = 0 := by rw [gE, if_neg hk13]
  refine Makes.of_run Tryd.func18 rfl (by show 2 ≤ 67; decide) ?_
  have hone := xV_one hX.one1 hX.one4
  refine RunF_sound tab_ok noX_local 100 [] _ _ rfl ?_ ?_
  · simp
  refine Run.callFn noX_local rfl rfl rfl rfl rfl rfl rfl globals_enters rfl (fun w' _ => globals_in k g hk w') ?_
  refine RunF_sound tab_ok noX_local 400 [false] _ _ rfl ?_ ?_
  · simp [segsVals]
    exact ⟨rfl, rfl, rfl⟩
  refine Run.callH noX_local (.ptr 3 0) [(3, .cells 96 [.vals 262 (woV (woX x))])] 4 rfl rfl rfl rfl rfl rfl look_enters rfl rfl rfl rfl rfl (fun M w' hM hA => (look_ok x w' (hX.agree hA) (hTA _ hA) (hSA _ hA)).to [(3, 0)] rfl ⟨rfl, trivial⟩ rfl) ?_
  have hev : ∀ {w'}, Agree (fun _ => False) w w' → SeesV w' (woX x).pe (woX x).ev := fun hA => hX.ev.agree hA (fun _ _ h => h)
  have hbet : ∀ b w', Agree (fun _ => False) w w' → WoAt w' b (woX x) → HandsZ Tryd.prog 47 [.pointer (some ⟨b, 0, none⟩)] w' (exZ (betO (shortL x.ev).length (kFr x) (standsL 5 x.ev) (kCo x))) (exH (betO (shortL x.ev).length (kFr x) (standsL 5 x.ev) (kCo x))) := fun b w' hA hW => between_ok (woX x) (kCo_wd x) (kFr_wd x) _ (betO_is _ _ _ _) b w' hW (hev hA)
  generalize betO (shortL x.ev).length (kFr x) (standsL 5 x.ev) (kCo x) = yb at *
  generalize woX x = W at *
  refine RunF_sound tab_ok noX_local 100 [] _ _ rfl ?_ ?_
  · simp
  refine Run.callH noX_local (.sl 4 66 0 4) [(4, .row 98 66 4 (encNm (upL W (meetL W.p (standsL 2 W.ev)))))] 5 rfl rfl rfl rfl rfl rfl uniproc_enters rfl rfl rfl rfl rfl (fun M w' hM hA => (uniproc_ok W (M 3).1 w' (woAt_blk (hM 3 _ rfl)) (hev hA)).to [(4, 0)] rfl ⟨rfl, trivial⟩ rfl) ?_
  refine RunF_sound tab_ok noX_local 100 [] _ _ rfl ?_ ?_
  · simp
  refine Run.callM (r := encRel (unpR W)) noX_local rfl rfl rfl rfl rfl rfl tog_enters rfl (fun M w' hM hA => ?_) ?_
  · exact tog_ok W (M 3).1 _ _ _ w' (woAt_blk (hM 3 _ rfl)) (seesNm_row (hM 4 _ rfl)) (by simp [upL])
  generalize unpR W = U at *
  refine RunF_sound tab_ok noX_local 100 [] _ _ rfl ?_ ?_
  · simp
  refine Run.to (t' := [(6, .ptr 1 0), (8, .ptr 3 0), (9, .v (.slice none 0 0)), (29, .v (encRel U))]) (h' := [(1, .cells 68 [.vals 1 [.func (.func g) #[] #[]]]), (3, .cells 96 [.vals 262 (woV W)])]) (n' := 5) ?_ ⟨rfl, rfl, rfl, rfl, trivial⟩ ⟨rfl, rfl, trivial⟩
  refine Run.callR noX_local rfl rfl rfl rfl rfl rfl cycle_enters rfl (fun M w' _ hA => plain_of (cycle_ok U _ (cycO_is U) w' (hTA w' hA) (hSA w' hA))) ?_
  rintro v w2 w1 S1 hag hag2 hv hS1
  have hB1 := (Based.refl w).call hag hag2 hS1
  suffices H2 : ∀ (w1 : World) (S1 : Foot) (s : List Bnt), Based w w1 S1 → KeepB w w1 S1 s → s.map bnC = (cycO U).toList.map (fun l => (1, l)) → s.length ≤ 1 → ∀ σ, inT σ.t [(6, .ptr 1 0), (8, .ptr 3 0), (40, .ptr 3 0), (9, bz 6 s)] → inT σ.h ((1, .cells 68 [.vals 1 [.func (.func g) #[] #[]]]) :: (3, .cells 96 [.vals 262 (woV W)]) :: br 6 s) →
      Run ((fnQ Tryd.prog 18 (Tryd.f18).ntmps w (WhyQ x k w)).rebase w1 S1) _ σ by
    rcases hv with ⟨hv, rfl⟩ | ⟨e, hv, rfl, he, hen⟩
    · refine ⟨.v (.tuple #[.slice none 0 0, .bool false]), fun M => rfl, ?_⟩
      refine RunF_sound tab_ok noX_local 100 [false] _ _ rfl ?_ ?_
      · simp
      exact H2 w1 S1 [] hB1 (KeepB.nil _ _ _) (by rw [hv]; rfl) (by decide) _ ⟨rfl, rfl, rfl, rfl, trivial⟩ ⟨rfl, rfl, trivial⟩
    · refine ⟨.v (.tuple #[slV e, .bool true]), fun M => rfl, ?_⟩
      refine RunF_sound tab_ok noX_local 100 [true] _ _ rfl ?_ ?_
      · simp [fillL, repL, splice, Value.cells, maxLen, slV, szI, zB, zBd]
        rfl
      exact H2 w1 S1 [(1, e)] hB1 ((KeepB.nil w w (fun _ => False)).snoc hag hag2 hS1 (hag.size) (1, e) he hen) (by rw [hv]; rfl) (by simp) _ ⟨rfl, rfl, rfl, rfl, trivial⟩ ⟨rfl, rfl, rfl, trivial⟩
  clear hv hS1 hag hag2 hB1
  intro w1 S1 s hB hK hs hsl σ ht hh
  refine Run.to ?_ ht hh (n' := 7)
  refine Run.callR noX_local rfl rfl rfl rfl rfl rfl between_enters rfl (fun M w' hM hA => plain_of (hbet (M 3).1 w' (hB.later hA) (woAt_blk (hM 3 _ rfl)))) ?_
  rintro v w3 w2 S2 hag hag2 hv hS2
  have hB2 := hB.call hag hag2 hS2
  suffices H3 : ∀ (w1 : World) (S1 : Foot) (s : List Bnt), Based w w1 S1 → KeepB w w1 S1 s → s.map bnC = (cycO U).toList.map (fun l => (1, l)) ++ yb.toList.map (fun l => (2, l)) → s.length ≤ 2 → ∀ σ, inT σ.t [(6, .ptr 1 0), (8, .ptr 3 0), (51, .ptr 3 0), (52, .ptr 1 0), (9, bz 6 s)] → inT σ.h ((1, .cells 68 [.vals 1 [.func (.func g) #[] #[]]]) :: (3, .cells 96 [.vals 262 (woV W)]) :: br 6 s) →
      Run ((fnQ Tryd.prog 18 (Tryd.f18).ntmps w (WhyQ x k w)).rebase w1 S1) _ σ by
    rcases hv with ⟨hv, rfl⟩ | ⟨e, hv, rfl, he, hen⟩
    · refine ⟨.v (.tuple #[.slice none 0 0, .bool false]), fun M => rfl, ?_⟩
      rcases s with _ | ⟨e0, s⟩
      · refine RunF_sound tab_ok noX_local 100 [false] _ _ rfl ?_ ?_
        · simp
        exact H3 w2 S2 [] hB2 (KeepB.nil _ _ _) (by rw [← hs, hv]; rfl) (by decide) _ ⟨rfl, rfl, rfl, rfl, rfl, trivial⟩ ⟨rfl, rfl, trivial⟩
      · refine RunF_sound tab_ok noX_local 100 [false] _ _ rfl ?_ ?_
        · simp
        exact H3 w2 S2 (e0 :: s) hB2 (hK.call hag hag2 hS2) (by rw [← hs, hv]; simp) (by omega) _ ⟨rfl, rfl, rfl, rfl, rfl, trivial⟩ ⟨rfl, rfl, rfl, trivial⟩
    · refine ⟨.v (.tuple #[slV e, .bool true]), fun M => rfl, ?_⟩
      have hK2 := hK.snoc hag hag2 hS2 (hB.later hag).size (2, e) he hen
      have hs2 : (s ++ [(2, e)]).map bnC = (cycO U).toList.map (fun l => (1, l)) ++ yb.toList.map (fun l => (2, l)) := by rw [List.map_append, hs, hv]; rfl
      rcases s with _ | ⟨e0, s⟩
      · refine RunF_sound tab_ok noX_local 100 [true] _ _ rfl ?_ ?_
        · simp [fillL, repL, splice, Value.cells, maxLen, slV, szI, zB, zBd]
          rfl
        refine Run.toR [(6, 8)] (n' := 7) (H3 w2 S2 [(2, e)] hB2 hK2 hs2 (by simp) ⟨[(6, .ptr 1 0), (8, .ptr 3 0), (51, .ptr 3 0), (52, .ptr 1 0), (9, .sl 6 2 0 1)], [(1, .cells 68 [.vals 1 [.func (.func g) #[] #[]]]), (3, .cells 96 [.vals 262 (woV W)]), (6, .row 62 2 1 (bnsV [(2, e)]))], 7⟩ ⟨rfl, rfl, rfl, rfl, rfl, trivial⟩ ⟨rfl, rfl, rfl, trivial⟩) ⟨rfl, rfl, rfl, rfl, rfl, trivial⟩ ⟨rfl, rfl, rfl, trivial⟩ rfl
      · refine RunF_sound tab_ok noX_local 100 [true] _ _ rfl ?_ ?_
        · simp [fillL, repL, splice, Value.cells, maxLen, slV, szI, zB, zBd]
          simp only [List.length_cons] at hsl
          exact ⟨by omega, rfl⟩
        refine Run.toR [(6, 8)] (n' := 7) (H3 w2 S2 (e0 :: s ++ [(2, e)]) hB2 hK2 hs2 (by simp at hsl ⊢; omega) ⟨[(6, .ptr 1 0), (8, .ptr 3 0), (51, .ptr 3 0), (52, .ptr 1 0), (9, .sl 6 2 0 (s.length + 2))], [(1, .cells 68 [.vals 1 [.func (.func g) #[] #[]]]), (3, .cells 96 [.vals 262 (woV W)]), (6, .row 62 2 (s.length + 2) (bnsV (e0 :: s ++ [(2, e)])))], 7⟩ ⟨rfl, rfl, rfl, rfl, ?_, trivial⟩ ⟨rfl, rfl, ?_, trivial⟩) ⟨rfl, rfl, rfl, rfl, ?_, trivial⟩ ⟨rfl, rfl, ?_, trivial⟩ rfl
        · rw [bz_app]; rfl
        · rw [show (s.append [((2 : Nat), e)]).length + 1 = s.length + 2 by simp]; rfl
        · rfl
        · exact congrArg (fun l => some (Blk.row 62 2 (s.length + 2) l)) (bns_app (e0 :: s) (s.length + 1) rfl (2, e))
  clear hv hS2 hag hag2 hB2 hK hs hB hsl hbet ht hh
  clear s
  intro w1 S1 s hB hK hs hsl σ ht hh
  refine Run.to ?_ ht hh (n' := 7)
  refine Run.loadOne (v := .func (.func g) #[] #[]) tab_ok rfl rfl rfl rfl rfl rfl rfl rfl rfl rfl ?_
  refine Run.asFn (g := g) 53 rfl ?_
  refine RunF_sound tab_ok noX_local 100 [] _ _ rfl ?_ ?_
  · simp
  suffices H4 : ∀ σ, inT σ.t [(9, bz 6 s), (56, .v (encRel (gR x k)))] → inT σ.h (br 6 s) → Run ((fnQ Tryd.prog 18 (Tryd.f18).ntmps w (WhyQ x k w)).rebase w1 S1) _ σ by
    rcases s with _ | ⟨e0, s⟩
    · refine Run.callH noX_local (.sl 7 66 0 n) [(7, .row 98 66 n (encNm L))] 8 rfl rfl rfl rfl rfl rfl hent rfl rfl rfl rfl rfl (fun M w' hM hA => (hg w' (hB.later hA) (M 3).1 (woAt_blk (hM 3 _ rfl))).to [(7, 0)] rfl ⟨rfl, trivial⟩ rfl) ?_
      refine RunF_sound tab_ok noX_local 100 [] _ _ rfl ?_ ?_
      · simp
      refine Run.callM (r := encRel (gR x k)) noX_local rfl rfl rfl rfl rfl rfl tog_enters rfl (fun M w' hM hA => ?_) ?_
      · subst hL
        rw [← hGr]
        exact tog_ok W (M 3).1 _ _ _ w' (woAt_blk (hM 3 _ rfl)) (seesNm_row (hM 7 _ rfl)) hn
      exact H4 _ ⟨rfl, rfl, trivial⟩ trivial
    · refine Run.callH noX_local (.sl 7 66 0 n) [(7, .row 98 66 n (encNm L))] 8 rfl rfl rfl rfl rfl rfl hent rfl rfl rfl rfl rfl (fun M w' hM hA => (hg w' (hB.later hA) (M 3).1 (woAt_blk (hM 3 _ rfl))).to [(7, 0)] rfl ⟨rfl, trivial⟩ rfl) ?_
      refine RunF_sound tab_ok noX_local 100 [] _ _ rfl ?_ ?_
      · simp
      refine Run.callM (r := encRel (gR x k)) noX_local rfl rfl rfl rfl rfl rfl tog_enters rfl (fun M w' hM hA => ?_) ?_
      · subst hL
        rw [← hGr]
        exact tog_ok W (M 3).1 _ _ _ w' (woAt_blk (hM 3 _ rfl)) (seesNm_row (hM 7 _ rfl)) hn
      exact H4 _ ⟨rfl, rfl, trivial⟩ ⟨rfl, trivial⟩
  clear ht hh
  intro σ ht hh
  refine Run.to ?_ ht hh (n' := 7)
  generalize gR x k = G at *
  refine Run.callR noX_local rfl rfl rfl rfl rfl rfl cycle_enters rfl (fun M w' hM hA => plain_of (cycle_ok G _ (cycO_is G) w' (hTA w' (hB.later hA)) (hSA w' (hB.later hA)))) ?_
  rintro v w3 w2 S2 hag hag2 hv hS2
  have hB2 := hB.call hag hag2 hS2
  have hend : ∀ (S : List Bnt) (σ : St), KeepB w w2 S2 S → S.map bnC = whyL x k → inT σ.t [(4, bz 6 S), (5, .v (.int .i64 0))] → inT σ.h (br 6 S) → Run ((fnQ Tryd.prog 18 (Tryd.f18).ntmps w (WhyQ x k w)).rebase w2 S2) [.code .ret] σ := by
    intro S σ hKS hsS ht hh
    refine Run.to ?_ ht hh (n' := 7)
    rcases S with _ | ⟨e0, S⟩
    · refine Run.retM (Ds := []) tab_ok noX_local Tryd.func18 rfl trivial fun M fp a w' hr => ?_
      refine ⟨hB2.later hr.agree, [], none, 0, ?_, hsS, ⟨.inl ⟨rfl, rfl, rfl⟩, fun a h => (by cases h), fun e h => (by cases h), fun e h => (by cases h), List.Pairwise.nil, fun a h => (by cases h)⟩⟩
      rw [hgE]; rfl
    · refine Run.retM (Ds := []) tab_ok noX_local Tryd.func18 rfl trivial fun M fp a w' hr => ?_
      have hb6 := hr.heap 6 _ rfl
      refine ⟨hB2.later hr.agree, e0 :: S, some ⟨(M 6).1, 0, none⟩, (M 6).2 - 0, ?_, hsS, ⟨.inr ⟨(M 6).1, rfl, hb6⟩, fun a h => ?_, fun e he => ?_, hKS.new, hKS.inc, fun a h e he hq => ?_⟩⟩
      · rw [hgE]; simp [conc, concL, resAV, bz]
      · cases h
        show w.heap.size ≤ (M 6).1
        rcases Nat.lt_or_ge (M 6).1 w2.heap.size with hl | hl
        · exact hB2.new _ (hr.own 6 _ rfl hl)
        · exact Nat.le_trans hB2.agree.size hl
      · exact BlkAt.same (hKS.at_ e he) (hr.agree.block _ (hKS.lt he) (hKS.off e he))
      · cases h
        exact hKS.off e he (hq ▸ hr.own 6 _ rfl (by rw [← show e.2.1 = (M 6).1 from hq]; exact hKS.lt he))
  rcases hv with ⟨hv, rfl⟩ | ⟨e, hv, rfl, he, hen⟩
  · refine ⟨.v (.tuple #[.slice none 0 0, .bool false]), fun M => rfl, ?_⟩
    have hsw : s.map bnC = whyL x k := by rw [hwhy, hs, hv]; simp
    rcases s with _ | ⟨e0, s⟩
    · refine RunF_sound tab_ok noX_local 100 [false] _ _ rfl ?_ ?_
      · simp
      exact hend [] _ (KeepB.nil _ _ _) hsw ⟨rfl, rfl, trivial⟩ trivial
    · refine RunF_sound tab_ok noX_local 100 [false] _ _ rfl ?_ ?_
      · simp
      exact hend (e0 :: s) _ (hK.call hag hag2 hS2) hsw ⟨rfl, rfl, trivial⟩ ⟨rfl, trivial⟩
  · refine ⟨.v (.tuple #[slV e, .bool true]), fun M => rfl, ?_⟩
    have hK2 := hK.snoc hag hag2 hS2 (hB.later hag).size (3, e) he hen
    have hs2 : (s ++ [(3, e)]).map bnC = whyL x k := by rw [hwhy, List.map_append, hs, hv, ← List.append_assoc]; rfl
    rcases s with _ | ⟨e0, s⟩
    · refine RunF_sound tab_ok noX_local 100 [true] _ _ rfl ?_ ?_
      · simp [fillL, repL, splice, Value.cells, maxLen, slV, szI, zB, zBd]
        rfl
      refine Run.toR [(6, 8)] (n' := 7) (hend [(3, e)] ⟨[(4, .sl 6 2 0 1), (5, .v (.int .i64 0))], [(6, .row 62 2 1 (bnsV [(3, e)]))], 7⟩ hK2 hs2 ⟨rfl, rfl, trivial⟩ ⟨rfl, trivial⟩) ⟨rfl, rfl, trivial⟩ ⟨rfl, trivial⟩ rfl
    · refine RunF_sound tab_ok noX_local 100 [true] _ _ rfl ?_ ?_
      · simp [fillL, repL, splice, Value.cells, maxLen, slV, szI, zB, zBd]
        simp only [List.length_cons] at hsl
        exact ⟨by omega, rfl⟩
      refine Run.toR [(6, 8)] (n' := 7) (hend (e0 :: s ++ [(3, e)]) ⟨[(4, .sl 6 2 0 (s.length + 2)), (5, .v (.int .i64 0))], [(6, .row 62 2 (s.length + 2) (bnsV (e0 :: s ++ [(3, e)])))], 7⟩ hK2 hs2 ⟨?_, rfl, trivial⟩ ⟨?_, trivial⟩) ⟨?_, rfl, trivial⟩ ⟨?_, trivial⟩ rfl
      · rw [bz_app]; rfl
      · rw [show (s.append [((3 : Nat), e)]).length + 1 = s.length + 2 by simp]; rfl
      · rfl
      · exact congrArg (fun l => some (Blk.row 62 2 (s.length + 2) l)) (bns_app (e0 :: s) (s.length + 1) rfl (3, e))

theorem why_ok (x : Xn) (k : Int) (w : World) (hX : SeesX w x) (hT : TabAt w) (h0w : 0 < w.heap.size) : Makes Tryd.prog 18 [.int .i64 k, encX x] w (WhyQ x k w) := by
  have hev : ∀ w', Agree (fun _ => False) w w' → SeesV w' (woX x).pe (woX x).ev := fun w' hA => hX.ev.agree hA (fun _ _ h => h)
  have hTA : ∀ w', Agree (fun _ => False) w w' → TabAt w' := fun w' hA => hT.agree hA (fun f => f)
  have h0A : ∀ w', Agree (fun _ => False) w w' → 0 < w'.heap.size := fun w' hA => Nat.lt_of_lt_of_le h0w hA.size
  by_cases h : k < 1 ∨ k > 3
  · exact why_out k h x w hX
  · have hk : k = 1 ∨ k = 2 ∨ k = 3 := by omega
    rcases hk with rfl | rfl | rfl
    · refine why_of 1 _ (.inl ⟨rfl, rfl⟩) x w hX hT h0w 4 (by decide) _ rfl glob1_enters (fun w' hA b hW => glob1_ok _ b w' hW (hev w' hA)) ?_
      rw [show gR x 1 = _ from if_pos rfl, ← law_1]
    · refine why_of 2 _ (.inr (.inl ⟨rfl, rfl⟩)) x w hX hT h0w 6 (by decide) _ rfl glob2_enters (fun w' hA b hW => glob2_ok _ b w' hW (hev w' hA) (hTA w' hA) (h0A w' hA)) ?_
      rw [show gR x 2 = _ from (if_neg (by decide)).trans (if_pos rfl), ← law_2]
    · refine why_of 3 _ (.inr (.inr ⟨rfl, rfl⟩)) x w hX hT h0w 6 (by decide) _ rfl glob3_enters (fun w' hA b hW => glob3_ok _ b w' hW (hev w' hA) (hTA w' hA) (h0A w' hA)) ?_
      rw [show gR x 3 = _ from (if_neg (by decide)).trans ((if_neg (by decide)).trans (if_pos rfl)), ← law_3]
theorem why_enters : Enters Tryd.prog 18 := enters_mk Tryd.func18 (by decide) rfl
end Go.Proofs.YtmammebifhmnhaaDoor

/-
  The abstract machine, fortieth part: blocks that are given up stand still from here on. Own work; over any program.
-/
namespace Go.AM

theorem Run.freeze {C : Ctx} {todo : List Item} {σ : St} (T' : Loc → List (Nat × AV)) (h' : List (Nat × Blk)) (nx : Nat) (ht : ∀ M, inTM M σ.t (T' M)) (hh : inT σ.h h')
    (h : ∀ M w S1, Base C.S0 C.w0 S1 w → (∀ id B, lk σ.h id = some B → BlkAt M w id B) → (∀ id B, lk σ.h id = some B → lk h' id = none → ¬ S1 (M id).1) → (∀ id B, lk σ.h id = some B → (M id).1 < C.w0.heap.size → C.S0 (M id).1) →
      Run (C.rebase w S1) todo ⟨T' M, h', nx⟩) : Run C todo σ := by
  intro M fp a w hR cs
  have hk : ∀ id B, lk h' id = some B → lk σ.h id = some B := fun id B hB => inT_lk hh id B hB
  refine h M w (fun b => fp b ∨ ∃ id B, lk h' id = some B ∧ (M id).1 = b) ⟨hR.agree, ?_⟩ hR.heap ?_ hR.own M fp a w ?_ cs
  · rintro b (hb | ⟨id, B, hB, rfl⟩) hl
    · exact (hR.fpok b hb).2 hl
    · exact hR.own _ _ (hk _ _ hB) hl
  · rintro id B hB hn (hf | ⟨id', B', hB', e⟩)
    · exact hR.apart _ _ hB hf
    · have := hR.inj _ _ _ _ (hk _ _ hB') hB e
      subst this
      rw [hB'] at hn; cases hn
  · refine { heap := fun id B hB => hR.heap _ _ (hk _ _ hB), inj := fun id id' B B' hB hB' e => hR.inj _ _ _ _ (hk _ _ hB) (hk _ _ hB') e, own := fun id B hB _ => .inr ⟨id, B, hB, rfl⟩,
             apart := fun id B hB => hR.apart _ _ (hk _ _ hB), agree := Agree.refl _ _, outer := hR.outer, fpok := fun b hb => ⟨(hR.fpok b hb).1, fun _ => .inl hb⟩, size := hR.size, frozen := hR.frozen,
             tmps := fun i x hx => ?_, defers := hR.defers }
    obtain ⟨y, hy, e⟩ := inTM_lk (ht M) hx
    rw [hR.tmps i y hy, e]

/-- What stands still goes on to do so. -/
theorem Base.off {S S1 : Foot} {w w1 : World} (k : Base S w S1 w1) {b : Nat} (hl : b < w.heap.size) (hb : ¬ S b) : ¬ S1 b := fun h => hb (k.old b h hl)
end Go.AM

/-
  Holds and Order; the comparing of lists. Own work.
-/
namespace Go.Proofs.YtmammebifhmnhaaDoor
open Go.AM
set_option maxRecDepth 100000

/-- Are two lists alike from a place on? -/
theorem sameInts_ok (p q : Option Addr) (c d : Nat) (xs ys : List Nat) (w : World) (hx : SeesN w p xs) (hy : SeesN w q ys) (hl : xs.length ≤ maxLen) :
    Gives Tryd.prog 77 [.slice p xs.length c, .slice q ys.length d] w (.bool (decide (xs = ys))) := by
  refine Gives.of_run Tryd.func77 rfl (by show 2 ≤ 26; decide) ?_
  have hml : maxLen = 9223372036854775807 := rfl
  by_cases hlen : xs.length = ys.length
  · refine RunF_sound tab_ok noX_local 100 [false] _ _ rfl ?_ ?_
    · simp [hlen]
    suffices H : ∀ (m i : Nat), i + m = xs.length → xs.take i = ys.take i → ∀ σ, inT σ.t [(0, .v (.slice p xs.length c)), (1, .v (.slice q ys.length d)), (5, .v (.int .i64 (i : Int)))] → inT σ.h [] → Run _ _ σ by
      exact H xs.length 0 (by omega) rfl _ ⟨rfl, rfl, rfl, trivial⟩ trivial
    intro m
    induction m with
    | zero =>
      intro i hi he σ ht hh
      refine Run.to ?_ ht hh (n' := 0)
      refine RunF_sound tab_ok noX_local 100 [false] _ _ rfl ?_ ?_
      · simp; omega
      refine Run.retP tab_ok Tryd.func77 rfl trivial (fun M => ?_)
      have : xs = ys := by rw [List.take_of_length_le (by omega), List.take_of_length_le (by omega)] at he; exact he
      simp [conc, this]
    | succ m ih =>
      intro i hi he σ ht hh
      refine Run.to ?_ ht hh (n' := 0)
      have hix : i < xs.length := by omega
      have hiy : i < ys.length := by omega
      obtain ⟨hp, hpc⟩ := hx i hix
      obtain ⟨hq, hqc⟩ := hy i hiy
      refine RunF_sound tab_ok noX_local 100 [true] _ _ rfl ?_ ?_
      · simp; omega
      refine Run.drawA noX_local rfl [] [] rfl rfl trivial ?_
      refine RunOF_sound tab_ok noX_local rfl rfl 100 [] _ _ rfl ?_ ?_
      · simp only [fnC_w0, fnC_S0, Int.toNat_natCast, Nat.mul_one, hpc, hqc]
        simp
        (repeat' refine And.intro ?_ ?_) <;> first | omega | exact hp | exact hq
      refine RunO.done ?_
      simp only [fnC_w0, Int.toNat_natCast, Nat.mul_one, hpc, hqc]
      by_cases c0 : xs[i] = ys[i]
      · refine RunF_sound tab_ok noX_local 100 [false] _ _ rfl ?_ ?_
        · simp [c0]
        refine ih (i + 1) (by omega) ?_ _ ⟨rfl, rfl, i64_eq (wrap_succ (by omega)), trivial⟩ trivial
        rw [List.take_succ_eq_append_getElem hix, List.take_succ_eq_append_getElem hiy, he, c0]
      · refine RunF_sound tab_ok noX_local 100 [true] _ _ rfl ?_ ?_
        · simp; omega
        refine Run.retP tab_ok Tryd.func77 rfl trivial (fun M => ?_)
        have : xs ≠ ys := fun e => by subst e; exact c0 rfl
        simp [conc, this]
  · refine RunF_sound tab_ok noX_local 100 [true] _ _ rfl ?_ ?_
    · simp; omega
    refine Run.retP tab_ok Tryd.func77 rfl trivial (fun M => ?_)
    have : xs ≠ ys := fun e => hlen (by rw [e])
    simp [conc, this]
theorem sameInts_enters : Enters Tryd.prog 77 := enters_mk Tryd.func77 (by decide) rfl

noncomputable def hldB (x : Xn) (k : Int) : Bool := decide (gE k = 0) && (whyL x k).isEmpty

set_option maxHeartbeats 1000000 in
theorem holds_ok (x : Xn) (k : Int) (w : World) (hX : SeesX w x) (hT : TabAt w) (h0w : 0 < w.heap.size) :
    Gives Tryd.prog 16 [.int .i64 k, encX x] w (.tuple #[.bool (hldB x k), .int .i64 (gE k)]) := by
  refine Gives.of_run Tryd.func16 rfl (by show 2 ≤ 22; decide) ?_
  have hone := xV_one hX.one1 hX.one4
  refine RunF_sound tab_ok noX_local 100 [] _ _ rfl ?_ ?_
  · simp
  refine Run.callR noX_local rfl rfl rfl rfl rfl rfl why_enters rfl (fun M w' _ hA => why_ok x k w' (hX.agree hA) (hT.agree hA (fun f => f)) (Nat.lt_of_lt_of_le h0w hA.size)) ?_
  rintro v w2 w1 S1 hag hag2 ⟨s, p, c, rfl, hs, _⟩ hS1
  have hB1 := (Based.refl w).call hag hag2 hS1
  refine ⟨.v (.tuple #[.slice p s.length c, .int .i64 (gE k)]), fun M => rfl, ?_⟩
  have hl : (whyL x k).length = s.length := by rw [← hs, List.length_map]
  have hh : hldB x k = (decide (gE k = 0) && decide (s.length = 0)) := by
    unfold hldB
    congr 1
    cases hw : whyL x k with
    | nil => rw [hw] at hl; simp at hl; simp [← hl]
    | cons a t => rw [hw] at hl; simp at hl; simp [← hl]
  rw [hh]
  have hz : ((s.length : Int) == 0) = decide (s.length = 0) := by
    rw [Bool.eq_iff_iff, beq_iff_eq, decide_eq_true_eq]; omega
  by_cases h0 : gE k = 0
  · refine RunF_sound tab_ok noX_local 100 [true] _ _ rfl ?_ ?_
    · simp [h0]
    exact Run.retB (Ds := []) tab_ok noX_local hB1 Tryd.func16 rfl trivial (fun M => by
      show Value.tuple #[.bool ((s.length : Int) == 0), .int .i64 (gE k)] = _
      rw [hz, decide_eq_true h0, Bool.true_and])
  · refine RunF_sound tab_ok noX_local 100 [false] _ _ rfl ?_ ?_
    · simp [h0]
    exact Run.retB (Ds := []) tab_ok noX_local hB1 Tryd.func16 rfl trivial (fun M => by simp [conc, concL, resAV, h0])
theorem holds_enters : Enters Tryd.prog 16 := enters_mk Tryd.func16 (by decide) rfl

/-- What Order answers: the order, the error. -/
noncomputable def ordL (x : Xn) (k : Int) : List Nat × Int := if gE k ≠ 0 then ([], gE k) else if hldB x k = false then ([], 3) else ((extendL (gR x k)).getD [], 0)
def OrdQ (l : List Nat) (E : Int) (w : World) (v : Value) (w' : World) : Prop :=
  ∃ (p : Option Addr) (c : Nat), v = .tuple #[.slice p l.length c, .int .i64 E] ∧ SeesN w' p l ∧ ∀ a, p = some a → w.heap.size ≤ a.block

set_option maxHeartbeats 1000000 in
theorem order_ok (x : Xn) (k : Int) (w : World) (hX : SeesX w x) (hT : TabAt w) (h0w : 0 < w.heap.size) :
    Makes Tryd.prog 19 [.int .i64 k, encX x] w (OrdQ (ordL x k).1 (ordL x k).2 w) := by
  have hTA : ∀ w', Agree (fun _ => False) w w' → TabAt w' := fun w' hA => hT.agree hA (fun f => f)
  have hSA : ∀ w', Agree (fun _ => False) w w' → 0 < w'.heap.size := fun w' hA => Nat.lt_of_lt_of_le h0w hA.size
  refine Makes.of_run Tryd.func19 rfl (by show 2 ≤ 37; decide) ?_
  have hone := xV_one hX.one1 hX.one4
  refine RunF_sound tab_ok noX_local 100 [] _ _ rfl ?_ ?_
  · simp
  refine Run.callFn (r := .tuple #[.bool (hldB x k), .int .i64 (gE k)]) noX_local rfl rfl rfl rfl rfl rfl rfl holds_enters rfl (fun w' hA => holds_ok x k w' (hX.agree hA) (hTA w' hA) (hSA w' hA)) ?_
  have hg := fun w' (hA : Agree (fun _ => False) w w') => globalM_ok x k w' (hX.agree hA) (hTA w' hA) (hSA w' hA)
  unfold ordL
  generalize hldB x k = hb at *
  generalize gR x k = G at *
  generalize gE k = E at *
  by_cases h0 : E = 0
  · subst h0
    cases hb with
    | false =>
      refine RunF_sound tab_ok noX_local 100 [false, true] _ _ rfl ?_ ?_
      · simp
      refine Run.retM (Ds := []) tab_ok noX_local Tryd.func19 rfl trivial fun M fp a w' hr => ?_
      exact ⟨hr.agree, none, 0, rfl, seesN_nil w' none, fun a h => (by cases h)⟩
    | true =>
      refine RunF_sound tab_ok noX_local 100 [false, false] _ _ rfl ?_ ?_
      · simp
      refine Run.callFn (r := .tuple #[encRel G, .int .i64 0]) noX_local rfl rfl rfl rfl rfl rfl rfl global_enters rfl (fun w' hA => hg w' hA) ?_
      refine RunF_sound tab_ok noX_local 100 [] _ _ rfl ?_ ?_
      · simp [segsVals, relV_one']
      refine Run.callR noX_local rfl rfl rfl rfl rfl rfl extend_enters rfl (fun M w' _ hA => extendP_ok G w' (hTA w' hA) (hSA w' hA)) ?_
      rintro v w2 w1 S1 hag hag2 ⟨p, l, c, b, rfl, e1, z1, s1, n1⟩ hS1
      have hB1 := (Based.refl w).call hag hag2 hS1
      refine ⟨.v (.tuple #[.slice p l.length c, .bool b]), fun M => rfl, ?_⟩
      refine RunF_sound tab_ok noX_local 100 [] _ _ rfl ?_ ?_
      · simp
      refine Run.retM (Ds := []) tab_ok noX_local Tryd.func19 rfl trivial fun M fp a w' hr => ?_
      have hl : (extendL G).getD [] = l := by
        rw [e1]
        cases b with
        | true => rfl
        | false => rw [z1 rfl]; rfl
      refine ⟨hB1.later hr.agree, p, c, ?_, ?_, fun a h => Nat.le_trans hag.size (n1 a h)⟩
      · simp [hl, conc, concL, resAV]
      · simp only [hl]
        exact s1.agree hr.agree fun a h => hS1.new _ (n1 a h)
  · refine RunF_sound tab_ok noX_local 100 [true] _ _ rfl ?_ ?_
    · simp [h0]
    refine Run.retM (Ds := []) tab_ok noX_local Tryd.func19 rfl trivial fun M fp a w' hr => ?_
    refine ⟨hr.agree, none, 0, ?_, ?_, fun a h => (by cases h)⟩
    · simp [h0, conc, concL, resAV]
    · rw [if_pos h0]; exact seesN_nil w' none
theorem order_enters : Enters Tryd.prog 19 := enters_mk Tryd.func19 (by decide) rfl
end Go.Proofs.YtmammebifhmnhaaDoor

/-
  Lists of broken axioms compared. Own work.
-/
namespace Go.Proofs.YtmammebifhmnhaaDoor
open Go.AM
set_option maxRecDepth 100000

def SeesB (w : World) (p : Option Addr) (s : List Bnt) : Prop :=
  (∀ i (h : i < s.length), p = some (p.getD default) ∧ ∀ j v, (bnV s[i])[j]? = some v → w.cell? (((p.getD default).add (i * 2)).add j) = some v) ∧ ∀ e ∈ s, EntAt w e.2
theorem bnsV_get (s : List Bnt) (i : Nat) (hi : i < s.length) (j : Nat) (hj : j < 2) : (bnsV s)[i * 2 + j]? = (bnV s[i])[j]? := by
  unfold bnsV
  exact flat_get bnV 2 (fun _ => rfl) s i j hi hj
theorem seesB_row {M : AM.Loc} {w : World} {id e n : Nat} {s : List Bnt} (hb : BlkAt M w id (.row e 2 n (bnsV s))) (hE : ∀ e ∈ s, EntAt w e.2) : SeesB w (some ⟨(M id).1, 0, none⟩) s := ⟨fun i hi => by
  refine ⟨rfl, fun j v hv => ?_⟩
  have hj : j < 2 := (List.getElem?_eq_some_iff.1 hv).1
  have := row_cells hb (i * 2 + j) v (by rw [bnsV_get s i hi j hj]; exact hv)
  rw [add_add, Option.getD_some, Addr.add_lit]
  exact this, hE⟩
theorem Found.sees {w0 w : World} {p : Option Addr} {c : Nat} {s : List Bnt} (h : Found w0 w p c s) : SeesB w p s := by
  rcases h.row with ⟨rfl, rfl, _⟩ | ⟨b, rfl, hb⟩
  · exact ⟨fun i hi => absurd hi (Nat.not_lt_zero _), fun e he => (by cases he)⟩
  · exact seesB_row hb h.at_

theorem Found.plt {w0 w : World} {p : Option Addr} {c : Nat} {s : List Bnt} (h : Found w0 w p c s) {a : Addr} (hp : p = some a) : a.block < w.heap.size := by
  rcases h.row with ⟨_, hr, _⟩ | ⟨b, hb, hr⟩
  · rw [hr] at hp; cases hp
  · rw [hb] at hp; cases hp; exact hr.lt
theorem Found.elt {w0 w : World} {p : Option Addr} {c : Nat} {s : List Bnt} (h : Found w0 w p c s) {e : Bnt} (he : e ∈ s) : e.2.1 < w.heap.size := (h.at_ e he).lt
theorem Found.keep {w0 w w' : World} {S : Foot} {p : Option Addr} {c : Nat} {s : List Bnt} (h : Found w0 w p c s) (hA : Agree S w w') (hp : ∀ a, p = some a → ¬ S a.block) (he : ∀ e ∈ s, ¬ S e.2.1) : Found w0 w' p c s := by
  refine ⟨?_, h.new, fun e hm => BlkAt.same (h.at_ e hm) (hA.block _ (h.elt hm) (he e hm)), h.nw, h.inc, h.sep⟩
  rcases h.row with hr | ⟨b, hb, hr⟩
  · exact .inl hr
  · exact .inr ⟨b, hb, BlkAt.same hr (hA.block _ hr.lt (hp _ hb))⟩

set_option maxHeartbeats 1000000 in
theorem sameBroken_ok (p q : Option Addr) (c d : Nat) (s t : List Bnt) (w : World) (hs : SeesB w p s) (ht : SeesB w q t) (hst : s.map bnC = t.map bnC) (hl : s.length ≤ maxLen) :
    Gives Tryd.prog 43 [.slice p s.length c, .slice q t.length d] w (.bool true) := by
  have hlen : s.length = t.length := by have := congrArg List.length hst; simpa using this
  have hml : maxLen = 9223372036854775807 := rfl
  refine Gives.of_run Tryd.func43 rfl (by show 2 ≤ 42; decide) ?_
  refine RunF_sound tab_ok noX_local 100 [false] _ _ rfl ?_ ?_
  · simp [hlen]
  suffices H : ∀ (m i : Nat), i + m = s.length → ∀ σ, inT σ.t [(0, .v (.slice p s.length c)), (1, .v (.slice q t.length d)), (5, .v (.int .i64 (i : Int)))] → inT σ.h [] → Run _ _ σ by
    exact H s.length 0 (by omega) _ ⟨rfl, rfl, rfl, trivial⟩ trivial
  intro m
  induction m with
  | zero =>
    intro i hi σ htt hh
    refine Run.to ?_ htt hh (n' := 0)
    refine RunF_sound tab_ok noX_local 100 [false] _ _ rfl ?_ ?_
    · simp; omega
    exact Run.retP tab_ok Tryd.func43 rfl trivial (fun M => rfl)
  | succ m ih =>
    intro i hi σ htt hh
    refine Run.to ?_ htt hh (n' := 0)
    have his : i < s.length := by omega
    have hit : i < t.length := by omega
    obtain ⟨hp, hpc⟩ := hs.1 i his
    obtain ⟨hq, hqc⟩ := ht.1 i hit
    have hee : bnC s[i] = bnC t[i] := by
      have : (s.map bnC)[i]'(by simpa using his) = (t.map bnC)[i]'(by simpa using hit) := by simp only [hst]
      simpa using this
    obtain ⟨h1, h2⟩ : s[i].1 = t[i].1 ∧ s[i].2.2.2 = t[i].2.2.2 := Prod.mk.inj hee
    have p0 := hpc 0 _ rfl
    have p1 := hpc 1 _ rfl
    have q0 := hqc 0 _ rfl
    have q1 := hqc 1 _ rfl
    have hsl : ∀ w', Agree (fun _ => False) w w' → Gives Tryd.prog 77 [slV s[i].2, slV t[i].2] w' (.bool true) := fun w' hA => by
      have k1 := (entSees' (hs.2 s[i] (List.getElem_mem his))).agree hA (fun a _ h => h)
      have k2 := (entSees' (ht.2 t[i] (List.getElem_mem hit))).agree hA (fun a _ h => h)
      have hml2 : s[i].2.2.2.length ≤ maxLen := by
        obtain ⟨_, cur, _, g1, g2, _⟩ := hs.2 s[i] (List.getElem_mem his)
        exact Nat.le_trans g1 g2
      have := sameInts_ok (some ⟨s[i].2.1, 0, none⟩) (some ⟨t[i].2.1, 0, none⟩) s[i].2.2.1 t[i].2.2.1 s[i].2.2.2 t[i].2.2.2 w' k1 k2 hml2
      rw [decide_eq_true h2] at this
      exact this
    refine RunF_sound tab_ok noX_local 100 [true] _ _ rfl ?_ ?_
    · simp; omega
    refine Run.drawA noX_local rfl [] [] rfl rfl trivial ?_
    refine RunOF_sound tab_ok noX_local rfl rfl 200 [false] _ _ rfl ?_ ?_
    · simp only [fnC_w0, fnC_S0, Int.toNat_natCast, p0, p1, q0, q1]
      simp [h1]
      exact ⟨⟨hp, his⟩, ⟨hq, hit⟩, ⟨hp, his⟩, rfl, ⟨hq, hit⟩, rfl⟩
    refine RunO.callFn (r := .bool true) noX_local rfl rfl rfl rfl rfl rfl rfl rfl sameInts_enters rfl (fun w' hA => ?_) ?_
    · have := hsl w' hA
      rw [← slOf_eq' p1, ← slOf_eq' q1] at this
      simp only [fnC_w0, Int.toNat_natCast]
      exact this
    refine RunOF_sound tab_ok noX_local rfl rfl 200 [] _ _ rfl ?_ ?_
    · simp
    refine RunO.done ?_
    refine RunF_sound tab_ok noX_local 100 [false] _ _ rfl ?_ ?_
    · simp
    exact ih (i + 1) (by omega) _ ⟨rfl, rfl, i64_eq (wrap_succ (by omega)), trivial⟩ trivial
theorem sameBroken_enters : Enters Tryd.prog 43 := enters_mk Tryd.func43 (by decide) rfl
end Go.Proofs.YtmammebifhmnhaaDoor

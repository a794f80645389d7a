/-
  Own work, merged: O2, O3, O4, O5.
-/
import Derived.AtR
import Derived.Below
import Derived.ChangeKeysEq
import Derived.KernelRfl
import Derived.LaidMore
import Derived.Laws.AppendOwn
import Derived.Laws.BytesString
import Derived.Laws.Cells
import Derived.Laws.CopyRow
import Derived.Laws.Entries
import Derived.Laws.Rows
import Derived.Laws.Small
import Derived.Laws.StructEq
import Derived.Lib.LaidTab
import Derived.Lib.TrailingZeros
import Derived.Maps.AppendAt
import Derived.OpenShut
import Derived.Orders
import Derived.ProofKit
import Derived.RangeFuncRecord
import Derived.SevenTiedAt
import Derived.Stop.Joined
import Derived.Test.YtocpkgckllbjlaaDoorCards
import Derived.Test.YtocpkgckllbjlaaDoorProg
import Derived.Test.YtocpkgckllbjlaaDoorRows
import Derived.Test.YtocpkgckllbjlaaDoorTie
import Derived.Test.YtocpkgckllbjlaaDoorQA2E554
/-
  forward walked: a good list is an order. Own work.
-/
namespace Go.Proofs.YtocpkgckllbjlaaDoor
open Go.AM
set_option maxRecDepth 100000

theorem cross_has {n : Int} (h0 : 0 ≤ n) (h1 : n ≤ 64) (x y : BitVec 64) (a b : Nat) : (crossL n x y).has a b = true ↔ ((a : Int) < n ∧ (b : Int) < n) ∧ x.getLsbD a = true ∧ y.getLsbD b = true := by
  rw [crossL, if_neg (by omega), Rl.has, Rl.row_by]
  by_cases ha : a < 64
  · rw [if_pos ha]
    by_cases c : (a : Int) < n ∧ x.getLsbD a = true
    · rw [if_pos c, BitVec.getLsbD_and, mask_get _ _ h0, Bool.and_eq_true, decide_eq_true_eq]
      constructor
      · rintro ⟨h2, h3⟩; exact ⟨⟨c.1, h3.2⟩, c.2, h2⟩
      · rintro ⟨h2, h3⟩; exact ⟨h3.2, by omega, h2.2⟩
    · rw [if_neg c, BitVec.getLsbD_zero]
      exact ⟨fun h => (by cases h), fun h => absurd ⟨h.1.1, h.2.1⟩ c⟩
  · rw [if_neg ha, BitVec.getLsbD_zero]
    exact ⟨fun h => (by cases h), fun h => absurd h.1.1 (by omega)⟩
theorem cross_n {n : Int} (h0 : 0 ≤ n) (h1 : n ≤ 64) (x y : BitVec 64) : (crossL n x y).n = n := by
  rw [crossL, if_neg (by omega)]; exact Rl.n_by _ _
theorem cross_rt {n : Int} (h0 : 0 ≤ n) (h1 : n ≤ 64) (x y : BitVec 64) : Rt (crossL n x y) := ⟨by rw [cross_n h0 h1]; exact h0, by rw [cross_n h0 h1]; exact h1, fun a b h => by
  rw [cross_n h0 h1]; exact ((cross_has h0 h1 x y a b).1 h).1⟩

theorem restrictT {R : Rl} (hR : Rt R) (x y : BitVec 64) (w : World) : Gives Tryd.prog 30 [encRel R, .int .u64 (un x), .int .u64 (un y)] w (encRel (twoR 1 R (crossL R.n x y))) := by
  have := restrict_ok R x y w
  rwa [hR.right, meet_eq] at this
theorem rangeT {Z : Rl} (hZ : Rt Z) (h : ∀ a b, ¬ Z.has a b = true) (w : World) (hT : TabAt w) (h0 : 0 < w.heap.size) : Gives Tryd.prog 40 [encRel Z] w (.int .u64 0) := by
  have hr := range_ok Z w hT h0
  have e : ranL Z = 0#64 := by
    unfold ranL
    rw [hZ.right]
    have hi := invR_rt hZ
    unfold invR at hi
    rw [hi.right]
    apply BitVec.eq_of_getLsbD_eq
    intro j hj
    rw [BitVec.getLsbD_zero, domL, domP_get]
    have : (Rl.gen Z.n fun x y => Z.has y x).row j = 0#64 := by
      apply BitVec.eq_of_getLsbD_eq
      intro b _
      rw [BitVec.getLsbD_zero]
      cases hb : ((Rl.gen Z.n fun x y => Z.has y x).row j).getLsbD b with
      | false => rfl
      | true => exact absurd ((invR_has Z j b).1 hb) (h _ _)
    rw [this]; simp
  rw [e] at hr
  exact hr

/-- What is done is done with all that stands ahead. -/
def Cl (A : Rl) (dn : BitVec 64) : Prop := ∀ b j, dn.getLsbD b = true → A.has b j = true → dn.getLsbD j = true
theorem Cl.take {A : Rl} {dn : BitVec 64} {i : Nat} (h : Cl A dn) (hi : i < 64) (hr : rdyB A dn i = true) : Cl A (dn ||| 1#64 <<< i) := by
  intro b j hb hj
  rw [BitVec.getLsbD_or, Bool.or_eq_true] at hb ⊢
  rw [one_shl_get i b hi, decide_eq_true_eq] at hb
  rcases hb with hb | rfl
  · exact .inl (h b j hb hj)
  · exact .inl (((rdyB_iff _ _ _).1 hr).2 j hj)

theorem shl1_un' (v : Nat) : shlI .u64 1 (v : Int) = un (1#64 <<< v) := by rw [shl1_un, Int.toNat_natCast]

set_option maxHeartbeats 600000 in
theorem forward_ok {R : Rl} (hR : Rt R) {n : Nat} (hn : R.n = (n : Int)) (hac : irB (clos R) = true) (p : Option Addr) (c : Nat) (l : List Nat) (w : World) (hs : SeesN w p l) (hl : l.length = n) (hg : goodL (aheadL R) n 0#64 l) (hT : TabAt w) (h0 : 0 < w.heap.size) :
    Gives Tryd.prog 66 [encRel R, .slice p l.length c] w (.bool true) := by
  refine Gives.of_run Tryd.func66 rfl (by show 2 ≤ 57; decide) ?_
  have hn64 : n ≤ 64 := by have := hR.hi; omega
  have hir : ∀ a, R.has a a = false := fun a => by
    cases h : R.has a a with
    | false => rfl
    | true => rw [irB_false (clos_sub hR _ _ h)] at hac; cases hac
  refine RunF_sound tab_ok noX_local 100 [false] _ _ rfl ?_ ?_
  · simp [hl, hn, segsVals, relV_one']
  suffices H : ∀ (m i : Nat) (dn : BitVec 64), i + m = n → goodL (aheadL R) n dn (l.drop i) → Cl (aheadL R) dn → Run _ _ ⟨[(1, .v (.slice p l.length c)), (2, .ptr 0 0), (5, .v (.int .u64 (un dn))), (6, .v (.int .i64 (i : Int)))], [(0, .cells 25 [.vals 65 (relV R)])], 1⟩ by
    exact Run.to (H n 0 0#64 (by omega) hg (fun b j hb => by rw [BitVec.getLsbD_zero] at hb; cases hb)) ⟨rfl, rfl, rfl, rfl, trivial⟩ ⟨rfl, trivial⟩
  intro m
  induction m with
  | zero =>
    intro i dn hi _ _
    refine RunF_sound tab_ok noX_local 100 [false] _ _ rfl ?_ ?_
    · simp; omega
    exact Run.retP tab_ok Tryd.func66 rfl trivial (fun M => rfl)
  | succ m ih =>
    intro i dn hi hgd hcl
    have hil : i < l.length := by omega
    rw [List.drop_eq_getElem_cons hil] at hgd
    obtain ⟨hvn, hrd, hgn⟩ := hgd
    obtain ⟨hp, hpc⟩ := hs i hil
    generalize hv : l[i] = v at *
    have hv64 : v < 64 := by omega
    have hbit := ((rdyB_iff _ _ _).1 hrd).1
    have hb := bit_eq dn (v : Int)
    rw [Int.toNat_natCast, hbit, shr_un, Int.toNat_natCast] at hb
    have hb0 : ¬ band .u64 (un (dn >>> v)) 1 = 1 := by simpa using hb
    have hZr := cross_rt hR.lo hR.hi (1#64 <<< v) dn
    have hZn := cross_n hR.lo hR.hi (1#64 <<< v) dn
    have hZ := twoR_rt 1 hR hZr hZn.symm
    have hno : ∀ a b, ¬ (twoR 1 R (crossL R.n (1#64 <<< v) dn)).has a b = true := by
      intro a b h
      rw [meet_has hR hZr hZn.symm, cross_has hR.lo hR.hi, one_shl_get v a hv64, decide_eq_true_eq] at h
      obtain ⟨h1, _, rfl, h2⟩ := h
      have := hcl b a h2 ((aheadL_has hR b a).2 h1)
      rw [hbit] at this; cases this
    have k1 : ∀ w', Gives Tryd.prog 30 [encRel R, .int .u64 (un (1#64 <<< v)), .int .u64 (un dn)] w' (encRel (twoR 1 R (crossL R.n (1#64 <<< v) dn))) := fun w' => restrictT hR _ _ w'
    have k2 : ∀ w', Agree (fun _ => False) w w' → Gives Tryd.prog 40 [encRel (twoR 1 R (crossL R.n (1#64 <<< v) dn))] w' (.int .u64 0) := fun w' hA => rangeT hZ hno w' (hT.agree hA (fun f => f)) (Nat.lt_of_lt_of_le h0 hA.size)
    generalize twoR 1 R (crossL R.n (1#64 <<< v) dn) = Z at *
    have k3 : ∀ w', Gives Tryd.prog 16 [encRel R, .int .i64 (v : Int), .int .i64 (v : Int)] w' (.bool false) := fun w' => by
      have := has_ok R v v w'
      rw [hR.right, hasI_in (by omega) (by omega), hir] at this
      exact this
    refine RunF_sound tab_ok noX_local 100 [true] _ _ rfl ?_ ?_
    · simp only [fnC_w0, fnC_S0, Int.toNat_natCast, Nat.mul_one, hpc]
      simp
      (repeat' refine And.intro ?_ ?_) <;> first | omega | exact hp
    simp only [fnC_w0, Int.toNat_natCast, Nat.mul_one, hpc]
    refine Run.to (t' := [(1, .v (.slice p l.length c)), (2, .ptr 0 0), (5, .v (.int .u64 (un dn))), (6, .v (.int .i64 (i : Int))), (7, .v (.int .i64 (v : Int)))]) (h' := [(0, .cells 25 [.vals 65 (relV R)])]) (n' := 1) ?_ ⟨rfl, rfl, rfl, rfl, rfl, trivial⟩ ⟨rfl, trivial⟩
    refine Run.drawA noX_local rfl [] [(0, .cells 25 [.vals 65 (relV R)])] rfl rfl ⟨rfl, trivial⟩ ?_
    refine RunOF_sound tab_ok noX_local rfl rfl 200 [false, false, false] _ _ rfl ?_ ?_
    · simp only [fnC_w0, fnC_S0]
      simp [hn]
      exact ⟨by omega, hb0⟩
    refine RunO.callFn (r := encRel Z) noX_local rfl rfl rfl rfl rfl rfl rfl rfl restrict_enters rfl (fun w' _ => ?_) ?_
    · have := k1 w'
      rw [← shl1_un' v] at this
      exact this
    refine RunOF_sound tab_ok noX_local rfl rfl 200 [] _ _ rfl ?_ ?_
    · simp
    refine RunO.callFn (r := .int .u64 0) noX_local rfl rfl rfl rfl rfl rfl rfl rfl range_enters rfl (fun w' hA => k2 w' hA) ?_
    refine RunOF_sound tab_ok noX_local rfl rfl 200 [false] _ _ rfl ?_ ?_
    · simp
    refine RunO.callFn (r := .bool false) noX_local rfl rfl rfl rfl rfl rfl rfl rfl has_enters rfl (fun w' _ => k3 w') ?_
    refine RunOF_sound tab_ok noX_local rfl rfl 200 [] _ _ rfl ?_ ?_
    · simp
    refine RunO.done ?_
    refine RunF_sound tab_ok noX_local 100 [false] _ _ rfl ?_ ?_
    · simp
    refine Run.to (ih (i + 1) (dn ||| 1#64 <<< v) (by omega) hgn (hcl.take hv64 hrd)) ⟨rfl, rfl, u64_eq ?_, i64_eq (wrap_succ (by omega)), trivial⟩ ⟨rfl, trivial⟩
    rw [shl1_un, bor_un, Int.toNat_natCast]
theorem forward_enters : Enters Tryd.prog 66 := enters_mk Tryd.func66 (by decide) rfl
end Go.Proofs.YtocpkgckllbjlaaDoor

/-
  What a way round is like; how many classes there are. Own work; no program in sight.
-/
namespace Go.Proofs.YtocpkgckllbjlaaDoor
open Go.AM

/-- The numbers of a way, from where it stands. -/
noncomputable def wayL (R : Rl) (g a k : Nat) : List Nat := a :: pathR R g a k
theorem wayL_len (R : Rl) (g a k : Nat) : (wayL R g a k).length = k + 1 := by rw [wayL, List.length_cons, pathR_length]
theorem wayL_succ {R : Rl} {g a k : Nat} (h : W R (k + 2) a g) : ∃ b, wayL R g a (k + 1) = a :: wayL R g b k ∧ R.has a b = true ∧ W R (k + 1) b g := by
  obtain ⟨b, hb, _, h1, h2⟩ := nxtR_some R g a (k + 1) h
  refine ⟨b, ?_, h1, h2⟩
  unfold wayL
  rw [pathR, hb]; rfl

theorem way_from {R : Rl} {g : Nat} : ∀ (k a : Nat), W R (k + 1) a g → ∀ j, j ≤ k → W R j a ((wayL R g a k).getD j 0)
  | _, a, _, 0, _ => rfl
  | 0, a, _, j + 1, hj => by omega
  | k + 1, a, h, j + 1, hj => by
    obtain ⟨b, e, h1, h2⟩ := wayL_succ h
    rw [e, List.getD_cons_succ]
    exact ⟨b, h1, way_from k b h2 j (by omega)⟩
theorem way_mid {R : Rl} {g : Nat} : ∀ (k a : Nat), W R (k + 1) a g → ∀ i j, i ≤ j → j ≤ k → W R (j - i) ((wayL R g a k).getD i 0) ((wayL R g a k).getD j 0)
  | k, a, h, 0, j, _, hj => by rw [Nat.sub_zero]; exact way_from k a h j hj
  | 0, a, _, i + 1, j, hi, hj => by omega
  | k + 1, a, h, i + 1, j, hi, hj => by
    obtain ⟨j, rfl⟩ : ∃ j', j = j' + 1 := ⟨j - 1, by omega⟩
    obtain ⟨b, e, h1, h2⟩ := wayL_succ h
    rw [e, List.getD_cons_succ, List.getD_cons_succ, show j + 1 - (i + 1) = j - i by omega]
    exact way_mid k b h2 i j (by omega) (by omega)
theorem way_last {R : Rl} {g : Nat} : ∀ (k a : Nat), W R (k + 1) a g → R.has ((wayL R g a k).getD k 0) g = true
  | 0, a, h => by
    obtain ⟨c, h1, e⟩ := h
    have e' : c = g := e
    subst e'
    exact h1
  | k + 1, a, h => by
    obtain ⟨b, e, h1, h2⟩ := wayL_succ h
    rw [e, List.getD_cons_succ]
    exact way_last k b h2

/-- Round and round: from each to the next, and none twice. -/
theorem cyc_step {R : Rl} {l : List Nat} (h : IsCyc R (some l)) (i : Nat) (hi : i < l.length) : R.has (l.getD i 0) (l.getD ((i + 1) % l.length) 0) = true := by
  rcases h with ⟨h, _⟩ | ⟨g, k, e, h1, _, _⟩
  · cases h
  · obtain rfl : l = wayL R g g k := Option.some.inj e
    rw [wayL_len] at hi ⊢
    rcases Nat.lt_or_ge i k with hl | hl
    · rw [Nat.mod_eq_of_lt (by omega)]
      have := way_mid k g h1 i (i + 1) (by omega) (by omega)
      rw [show i + 1 - i = 0 + 1 by omega] at this
      obtain ⟨c, h2, e2⟩ := this
      have e' : c = _ := e2
      rw [← e']; exact h2
    · obtain rfl : i = k := by omega
      rw [Nat.mod_self]
      exact way_last i g h1
theorem cyc_diff {R : Rl} {l : List Nat} (h : IsCyc R (some l)) (i j : Nat) (hij : i < j) (hj : j < l.length) : l.getD i 0 ≠ l.getD j 0 := by
  rcases h with ⟨h, _⟩ | ⟨g, k, e, h1, h2, _⟩
  · cases h
  · obtain rfl : l = wayL R g g k := Option.some.inj e
    rw [wayL_len] at hj
    intro e
    have := way_mid k g h1 i j (by omega) (by omega)
    rw [e] at this
    exact h2 _ _ (by omega) (by omega) this
theorem cyc_pos {R : Rl} {l : List Nat} (h : IsCyc R (some l)) : 0 < l.length := by
  rcases h with ⟨h, _⟩ | ⟨g, k, e, _⟩
  · cases h
  · obtain rfl := Option.some.inj e
    simp
theorem cyc_not {R : Rl} (hR : Rt R) {l : List Nat} (h : IsCyc R (some l)) : irB (clos R) = false := by
  rcases h with ⟨h, _⟩ | ⟨g, k, e, h1, _⟩
  · cases h
  · exact irB_false ((clos_has hR g g).2 (W_trans h1))
theorem cyc_acyc {R : Rl} (hR : Rt R) (h : IsCyc R none) : irB (clos R) = true := by
  refine irB_true fun a => ?_
  cases hc : (clos R).has a a with
  | false => rfl
  | true =>
    obtain ⟨m, hm⟩ := trans_W ((clos_has hR a a).1 hc)
    rcases h with ⟨_, h⟩ | ⟨g, k, e, _⟩
    · exact absurd hm (h a _ (by omega))
    · cases e

theorem irB_iff (R : Rl) : irB R = true ↔ ∀ a, R.has a a = false := by
  constructor
  · intro h a
    cases hc : R.has a a with
    | false => rfl
    | true => rw [irB_false hc] at h; cases h
  · exact irB_true

theorem parts_count {R : Rl} (hR : Rt R) {n : Nat} (hn : R.n = (n : Int)) : irB (clos R) = (decide ((partsU (symR R) n).length = n) && irB R) := by
  have hV := symR_eqv hR hn
  have hlen : (partsU (symR R) n).length = n ↔ ∀ v, v < n → leadB (symR R) v = true := by
    unfold partsU
    rw [List.length_map]
    have := List.length_filter_eq_length_iff (l := List.range n) (p := leadB (symR R))
    rw [List.length_range] at this
    rw [this]
    exact ⟨fun h v hv => h v (List.mem_range.2 hv), fun h v hv => h v (List.mem_range.1 hv)⟩
  rw [Bool.eq_iff_iff, Bool.and_eq_true, decide_eq_true_eq, hlen]
  constructor
  · intro h
    have h1 := (irB_iff _).1 h
    refine ⟨fun v _ => (leadB_iff _ v).2 fun u hu => ?_, (irB_iff _).2 fun a => ?_⟩
    · cases hc : (symR R).has u v with
      | false => rfl
      | true =>
        rcases (symR_has hR u v).1 hc with ⟨rfl, _⟩ | ⟨h2, h3⟩
        · omega
        · have := clos_trans hR _ _ _ h2 h3
          rw [h1] at this; cases this
    · cases hc : R.has a a with
      | false => rfl
      | true => have := clos_sub hR _ _ hc; rw [h1] at this; cases this
  · rintro ⟨h1, h2⟩
    have h2 := (irB_iff _).1 h2
    have heq : ∀ a b, (symR R).has a b = true → a = b := by
      intro a b h
      rcases Nat.lt_trichotomy a b with hl | hl | hl
      · have := (leadB_iff _ b).1 (h1 b (hV.lt _ _ h).2) a hl
        rw [h] at this; cases this
      · exact hl
      · have := (leadB_iff _ a).1 (h1 a (hV.lt _ _ h).1) b hl
        rw [hV.symm _ _ h] at this; cases this
    refine (irB_iff _).2 fun a => ?_
    cases hc : (clos R).has a a with
    | false => rfl
    | true =>
      obtain ⟨m, c, h3, h4⟩ := trans_W ((clos_has hR a a).1 hc)
      rcases m with _ | m
      · have e' : c = a := h4
        subst e'
        rw [h2] at h3; cases h3
      · have := heq a c ((symR_has hR a c).2 (.inr ⟨clos_sub hR _ _ h3, (clos_has hR c a).2 (W_trans h4)⟩))
        subst this
        rw [h2] at h3; cases h3
end Go.Proofs.YtocpkgckllbjlaaDoor

/-
  RelRound walked. Own work.
-/
namespace Go.Proofs.YtocpkgckllbjlaaDoor
open Go.AM
set_option maxRecDepth 100000

theorem round_1 (r : Rl) (w : World) (cr : checkI r ≠ 0)
    (g62 : ∀ w', Agree (fun _ => False) w w' → Gives Tryd.prog 62 [] w' (.bool true))
    : Gives Tryd.prog 12 [encRel r] w (.bool true) := by
  refine Gives.of_run Tryd.func12 rfl (by show 1 ≤ 100; decide) ?_
  refine RunF_sound tab_ok noX_local 400 [] _ _ rfl ?_ ?_
  · simp
  refine Run.callFn (r := .bool true) noX_local rfl rfl rfl rfl rfl rfl rfl works_enters rfl (fun w' hA => g62 w' hA) ?_
  refine RunF_sound tab_ok noX_local 400 [false] _ _ rfl ?_ ?_
  · simp
  refine Run.callFn (r := .int .i64 (checkI r)) noX_local rfl rfl rfl rfl rfl rfl rfl check_enters rfl (fun w' _ => check_ok r w') ?_
  refine RunF_sound tab_ok noX_local 400 [] _ _ rfl ?_ ?_
  · simp
  refine Run.callFn (r := .int .i64 (checkI r)) noX_local rfl rfl rfl rfl rfl rfl rfl num_enters rfl (fun w' _ => num_ok _ w') ?_
  refine RunF_sound tab_ok noX_local 400 [true] _ _ rfl ?_ ?_
  · simp [cr]
  exact Run.retP tab_ok Tryd.func12 rfl trivial (fun M => rfl)

set_option maxHeartbeats 800000 in
theorem round_2 (r : Rl) (n : Nat) (hn : r.n = (n : Int)) (l : List Nat) (L : List (BitVec 64)) (w : World) (cr : checkI r = 0) (hL : L.length = n) (hn64 : n ≤ 64)
    (g62 : ∀ w', Agree (fun _ => False) w w' → Gives Tryd.prog 62 [] w' (.bool true))
    (g57 : ∀ w', Agree (fun _ => False) w w' → HandsZ Tryd.prog 57 [encRel r] w' (exZ none) (exH none))
    (g49 : ∀ w', Agree (fun _ => False) w w' → HandsZ Tryd.prog 49 [encRel r] w' (exZ (some l)) (exH (some l)))
    (g46 : ∀ w', Agree (fun _ => False) w w' → Gives Tryd.prog 46 [encRel r] w' (.bool true))
    (g59 : ∀ w', Agree (fun _ => False) w w' → HandsZ Tryd.prog 59 [encRel r] w' (pZ L) (pH L))
    (g42 : ∀ w', Agree (fun _ => False) w w' → Gives Tryd.prog 42 [encRel r] w' (.bool true))
    (g66 : ∀ w' p c, Agree (fun _ => False) w w' → SeesN w' p l → Gives Tryd.prog 66 [encRel r, .slice p l.length c] w' (.bool true))
    : Gives Tryd.prog 12 [encRel r] w (.bool true) := by
  refine Gives.of_run Tryd.func12 rfl (by show 1 ≤ 100; decide) ?_
  refine RunF_sound tab_ok noX_local 400 [] _ _ rfl ?_ ?_
  · simp
  refine Run.callFn (r := .bool true) noX_local rfl rfl rfl rfl rfl rfl rfl works_enters rfl (fun w' hA => g62 w' hA) ?_
  refine RunF_sound tab_ok noX_local 400 [false] _ _ rfl ?_ ?_
  · simp
  refine Run.callFn (r := .int .i64 (checkI r)) noX_local rfl rfl rfl rfl rfl rfl rfl check_enters rfl (fun w' _ => check_ok r w') ?_
  refine RunF_sound tab_ok noX_local 400 [] _ _ rfl ?_ ?_
  · simp
  refine Run.callFn (r := .int .i64 (checkI r)) noX_local rfl rfl rfl rfl rfl rfl rfl num_enters rfl (fun w' _ => num_ok _ w') ?_
  refine RunF_sound tab_ok noX_local 400 [false] _ _ rfl ?_ ?_
  · simp [cr]
  refine Run.callH noX_local (.tup [.v (.slice none 0 0), .tt false]) [] 1 rfl rfl rfl rfl rfl rfl cycle_enters rfl rfl rfl rfl rfl (fun M w' _ hA => g57 w' hA) ?_
  refine RunF_sound tab_ok noX_local 400 [] _ _ rfl ?_ ?_
  · simp
  refine Run.callH noX_local (.tup [.sl 1 1 0 l.length, .tt true]) [(1, .row 3 1 l.length (encN l))] 2 rfl rfl rfl rfl rfl rfl extend_enters rfl rfl rfl rfl rfl (fun M w' _ hA => (g49 w' hA).to [(1, 0)] rfl ⟨rfl, trivial⟩ rfl) ?_
  refine RunF_sound tab_ok noX_local 400 [false] _ _ rfl ?_ ?_
  · simp
  refine Run.callFn (r := .bool true) noX_local rfl rfl rfl rfl rfl rfl rfl acyclic_enters rfl (fun w' hA => g46 w' hA) ?_
  refine RunF_sound tab_ok noX_local 400 [false, false] _ _ rfl ?_ ?_
  · simp
  refine RunF_sound tab_ok noX_local 400 [false] _ _ rfl ?_ ?_
  · simp
  refine Run.to (t' := [(1, .ptr 0 0), (4, .tt false), (5, .sl 1 1 0 l.length), (6, .tt true), (80, .v (encRel r))]) (h' := [(0, .cells 25 [.vals 65 (relV r)]), (1, .row 3 1 l.length (encN l))]) (n' := 2) ?_ ⟨rfl, rfl, rfl, rfl, rfl, trivial⟩ ⟨rfl, rfl, trivial⟩
  suffices H : ∀ (z : AV) (h : List (Nat × Blk)), (∀ w', Agree (fun _ => False) w w' → HandsZ Tryd.prog 59 [encRel r] w' z h) → (z = .v (.slice none 0 0) ∧ h = [] ∧ n = 0 ∨ z = .sl 2 1 0 L.length ∧ h = [(2, .row 37 1 L.length (encW L))]) → Run _ _ _ by
    rcases L with _ | ⟨y, L⟩
    · exact H _ _ g59 (.inl ⟨rfl, rfl, hL.symm⟩)
    · exact H (.sl 2 1 0 (y :: L).length) [(2, .row 37 1 (y :: L).length (encW (y :: L)))] (fun w' hA => (g59 w' hA).to [(2, 20)] rfl ⟨rfl, trivial⟩ rfl) (.inr ⟨rfl, rfl⟩)
  rintro z h gz (⟨rfl, rfl, hn0⟩ | ⟨rfl, rfl⟩)
  · refine Run.callH noX_local (.v (.slice none 0 0)) [] 2 rfl rfl rfl rfl rfl rfl parts_enters rfl rfl rfl rfl rfl (fun M w' _ hA => gz w' hA) ?_
    refine RunF_sound tab_ok noX_local 400 [true] _ _ rfl ?_ ?_
    · simp [hn, hn0]
    refine Run.callFn (r := .bool true) noX_local rfl rfl rfl rfl rfl rfl rfl irreflexive_enters rfl (fun w' hA => g42 w' hA) ?_
    refine RunF_sound tab_ok noX_local 400 [false, false] _ _ rfl ?_ ?_
    · simp
    refine Run.callM (r := .bool true) noX_local rfl rfl rfl rfl rfl rfl forward_enters rfl (fun M w' hM hA => g66 w' _ _ hA (seesN_row (hM 1 _ rfl))) ?_
    refine RunF_sound tab_ok noX_local 400 [] _ _ rfl ?_ ?_
    · simp
    exact Run.retP tab_ok Tryd.func12 rfl trivial (fun M => rfl)
  · refine Run.callH noX_local (.sl 2 1 0 L.length) [(2, .row 37 1 L.length (encW L))] 3 rfl rfl rfl rfl rfl rfl parts_enters rfl rfl rfl rfl rfl (fun M w' _ hA => gz w' hA) ?_
    refine RunF_sound tab_ok noX_local 400 [true] _ _ rfl ?_ ?_
    · simp [hn, hL]
    refine Run.callFn (r := .bool true) noX_local rfl rfl rfl rfl rfl rfl rfl irreflexive_enters rfl (fun w' hA => g42 w' hA) ?_
    refine RunF_sound tab_ok noX_local 400 [false, false] _ _ rfl ?_ ?_
    · simp
    refine Run.callM (r := .bool true) noX_local rfl rfl rfl rfl rfl rfl forward_enters rfl (fun M w' hM hA => g66 w' _ _ hA (seesN_row (hM 1 _ rfl))) ?_
    refine RunF_sound tab_ok noX_local 400 [] _ _ rfl ?_ ?_
    · simp
    exact Run.retP tab_ok Tryd.func12 rfl trivial (fun M => rfl)

/-- What is seen of a way round. -/
def SeenC (l : List Nat) (i : Nat) (d : BitVec 64) : Prop := ∀ v, d.getLsbD v = true → ∃ j, j < i ∧ l.getD j 0 = v

set_option maxHeartbeats 800000 in
theorem round_3 (r : Rl) (hr : Rt r) (n : Nat) (hn : r.n = (n : Int)) (l : List Nat) (hx : IsCyc r (some l)) (L : List (BitVec 64)) (w : World) (cr : checkI r = 0) (hn64 : n ≤ 64) (hLn : L.length ≤ 64) (bi : Bool) (hL : L.length = n → bi = false)
    (g62 : ∀ w', Agree (fun _ => False) w w' → Gives Tryd.prog 62 [] w' (.bool true))
    (g57 : ∀ w', Agree (fun _ => False) w w' → HandsZ Tryd.prog 57 [encRel r] w' (exZ (some l)) (exH (some l)))
    (g49 : ∀ w', Agree (fun _ => False) w w' → HandsZ Tryd.prog 49 [encRel r] w' (exZ none) (exH none))
    (g46 : ∀ w', Agree (fun _ => False) w w' → Gives Tryd.prog 46 [encRel r] w' (.bool false))
    (g59 : ∀ w', Agree (fun _ => False) w w' → HandsZ Tryd.prog 59 [encRel r] w' (pZ L) (pH L))
    (g42 : ∀ w', Agree (fun _ => False) w w' → Gives Tryd.prog 42 [encRel r] w' (.bool bi))
    : Gives Tryd.prog 12 [encRel r] w (.bool true) := by
  have hpos := cyc_pos hx
  have hlen := cyc_len hx
  have hstep := cyc_step hx
  have hdiff := cyc_diff hx
  clear hx
  refine Gives.of_run Tryd.func12 rfl (by show 1 ≤ 100; decide) ?_
  refine RunF_sound tab_ok noX_local 400 [] _ _ rfl ?_ ?_
  · simp
  refine Run.callFn (r := .bool true) noX_local rfl rfl rfl rfl rfl rfl rfl works_enters rfl (fun w' hA => g62 w' hA) ?_
  refine RunF_sound tab_ok noX_local 400 [false] _ _ rfl ?_ ?_
  · simp
  refine Run.callFn (r := .int .i64 (checkI r)) noX_local rfl rfl rfl rfl rfl rfl rfl check_enters rfl (fun w' _ => check_ok r w') ?_
  refine RunF_sound tab_ok noX_local 400 [] _ _ rfl ?_ ?_
  · simp
  refine Run.callFn (r := .int .i64 (checkI r)) noX_local rfl rfl rfl rfl rfl rfl rfl num_enters rfl (fun w' _ => num_ok _ w') ?_
  refine RunF_sound tab_ok noX_local 400 [false] _ _ rfl ?_ ?_
  · simp [cr]
  refine Run.callH noX_local (.tup [.sl 1 1 0 l.length, .tt true]) [(1, .row 3 1 l.length (encN l))] 2 rfl rfl rfl rfl rfl rfl cycle_enters rfl rfl rfl rfl rfl (fun M w' _ hA => (g57 w' hA).to [(1, 0)] rfl ⟨rfl, trivial⟩ rfl) ?_
  refine RunF_sound tab_ok noX_local 400 [] _ _ rfl ?_ ?_
  · simp
  refine Run.callH noX_local (.tup [.v (.slice none 0 0), .tt false]) [] 2 rfl rfl rfl rfl rfl rfl extend_enters rfl rfl rfl rfl rfl (fun M w' _ hA => g49 w' hA) ?_
  refine RunF_sound tab_ok noX_local 400 [false] _ _ rfl ?_ ?_
  · simp
  refine Run.callFn (r := .bool false) noX_local rfl rfl rfl rfl rfl rfl rfl acyclic_enters rfl (fun w' hA => g46 w' hA) ?_
  refine RunF_sound tab_ok noX_local 400 [false, false] _ _ rfl ?_ ?_
  · simp; omega
  suffices H : ∀ (m i : Nat) (d : BitVec 64), i + m = l.length → SeenC l i d → Run _ _ ⟨[(1, .ptr 0 0), (3, .sl 1 1 0 l.length), (4, .tt true), (5, .v (.slice none 0 0)), (6, .tt false), (7, .v (.int .u64 (un d))), (8, .v (.int .i64 (i : Int)))], [(0, .cells 25 [.vals 65 (relV r)]), (1, .row 3 1 l.length (encN l))], 2⟩ by
    exact Run.to (H l.length 0 0#64 (by omega) (fun v h => by rw [BitVec.getLsbD_zero] at h; cases h)) ⟨rfl, rfl, rfl, rfl, rfl, rfl, rfl, trivial⟩ ⟨rfl, rfl, trivial⟩
  intro m
  induction m with
  | zero =>
    intro i d hi hd
    clear hd
    refine RunF_sound tab_ok noX_local 400 [false] _ _ rfl ?_ ?_
    · simp; omega
    refine Run.to (t' := [(1, .ptr 0 0), (4, .tt true), (5, .v (.slice none 0 0)), (6, .tt false), (80, .v (encRel r))]) (h' := [(0, .cells 25 [.vals 65 (relV r)])]) (n' := 2) ?_ ⟨rfl, rfl, rfl, rfl, rfl, trivial⟩ ⟨rfl, trivial⟩
    suffices H : ∀ (z : AV) (h : List (Nat × Blk)) (b : Bool), (∀ w', Agree (fun _ => False) w w' → HandsZ Tryd.prog 59 [encRel r] w' z h) → (z = .v (.slice none 0 0) ∧ h = [] ∧ L.length = 0 ∨ z = .sl 2 1 0 L.length ∧ h = [(2, .row 37 1 L.length (encW L))]) → Run _ _ _ by
      rcases L with _ | ⟨y, L⟩
      · exact H _ _ true g59 (.inl ⟨rfl, rfl, rfl⟩)
      · exact H (.sl 2 1 0 (y :: L).length) [(2, .row 37 1 (y :: L).length (encW (y :: L)))] true (fun w' hA => (g59 w' hA).to [(2, 20)] rfl ⟨rfl, trivial⟩ rfl) (.inr ⟨rfl, rfl⟩)
    rintro z h _ gz (⟨rfl, rfl, hL0⟩ | ⟨rfl, rfl⟩)
    · refine Run.callH noX_local (.v (.slice none 0 0)) [] 2 rfl rfl rfl rfl rfl rfl parts_enters rfl rfl rfl rfl rfl (fun M w' _ hA => gz w' hA) ?_
      by_cases c : L.length = n
      · have hb := hL c
        subst hb
        refine RunF_sound tab_ok noX_local 400 [true] _ _ rfl ?_ ?_
        · simp [hn, ← c, hL0]
        refine Run.callFn (r := .bool false) noX_local rfl rfl rfl rfl rfl rfl rfl irreflexive_enters rfl (fun w' hA => g42 w' hA) ?_
        refine RunF_sound tab_ok noX_local 400 [false, true] _ _ rfl ?_ ?_
        · simp
        exact Run.retP tab_ok Tryd.func12 rfl trivial (fun M => rfl)
      · refine RunF_sound tab_ok noX_local 400 [false, false, true] _ _ rfl ?_ ?_
        · simp [hn]; omega
        exact Run.retP tab_ok Tryd.func12 rfl trivial (fun M => rfl)
    · refine Run.callH noX_local (.sl 2 1 0 L.length) [(2, .row 37 1 L.length (encW L))] 3 rfl rfl rfl rfl rfl rfl parts_enters rfl rfl rfl rfl rfl (fun M w' _ hA => gz w' hA) ?_
      by_cases c : L.length = n
      · have hb := hL c
        subst hb
        refine RunF_sound tab_ok noX_local 400 [true] _ _ rfl ?_ ?_
        · simp [hn, ← c]
        refine Run.callFn (r := .bool false) noX_local rfl rfl rfl rfl rfl rfl rfl irreflexive_enters rfl (fun w' hA => g42 w' hA) ?_
        refine RunF_sound tab_ok noX_local 400 [false, true] _ _ rfl ?_ ?_
        · simp
        exact Run.retP tab_ok Tryd.func12 rfl trivial (fun M => rfl)
      · refine RunF_sound tab_ok noX_local 400 [false, false, true] _ _ rfl ?_ ?_
        · simp [hn]; omega
        exact Run.retP tab_ok Tryd.func12 rfl trivial (fun M => rfl)
  | succ m ih =>
    intro i d hi hd
    have hil : i < l.length := by omega
    have hs := hstep i hil
    have hj : (i + 1) % l.length < l.length := Nat.mod_lt _ hpos
    have e1 : l.getD i 0 = l[i] := by simp [hil]
    have e2 : l.getD ((i + 1) % l.length) 0 = l[(i + 1) % l.length] := by simp [hj]
    have hbit : d.getLsbD l[i] = false := by
      cases hb : d.getLsbD l[i] with
      | false => rfl
      | true =>
        obtain ⟨j, hji, hjv⟩ := hd _ hb
        exact absurd (hjv.trans e1.symm) (hdiff j i hji hil)
    have ha : intAt (encN l) i = (l[i] : Int) := by simp [intAt, encN, hil]
    have hb : intAt (encN l) ((i + 1) % l.length) = (l[(i + 1) % l.length] : Int) := by simp [intAt, encN, hj]
    have hga : (encN l)[i]? = some (.int .i64 (l[i] : Int)) := by simp [encN, hil]
    have hgb : (encN l)[(i + 1) % l.length]? = some (.int .i64 (l[(i + 1) % l.length] : Int)) := by simp [encN, hj]
    have hmod : ((i : Int) + 1).tmod (l.length : Int) = ((i + 1) % l.length : Nat) := rfl
    have hz : (((i : Int) + 1) % (l.length : Int)).toNat = (i + 1) % l.length := by rw [← Int.tmod_eq_emod_of_nonneg (by omega), hmod]; rfl
    have hz2 : 0 ≤ ((i : Int) + 1) % (l.length : Int) ∧ ((i : Int) + 1) % (l.length : Int) < (l.length : Int) := ⟨Int.emod_nonneg _ (by omega), Int.emod_lt_of_pos _ (by omega)⟩
    have hw1 : IntKind.i64.wrap ((i : Int) + 1) = (i : Int) + 1 := by rw [wrap_i64] <;> omega
    refine RunF_sound tab_ok noX_local 400 [true] _ _ rfl ?_ ?_
    · simp; omega
    refine Run.drawA noX_local rfl [] [(0, .cells 25 [.vals 65 (relV r)]), (1, .row 3 1 l.length (encN l))] rfl rfl ⟨rfl, rfl, trivial⟩ ?_
    refine RunOF_sound tab_ok noX_local rfl rfl 200 [] _ _ rfl ?_ ?_
    · simp [hw1, hmod, hga, ha, hz, hz2, hgb, hb]
      exact ⟨hil, fun h => by rw [h] at hpos; exact absurd hpos (by decide)⟩
    refine RunO.callFn (r := .bool true) noX_local rfl rfl rfl rfl rfl rfl rfl rfl has_enters rfl (fun w' _ => ?_) ?_
    · have hh : r.has l[i] l[(i + 1) % l.length] = true := by rw [← e1, ← e2]; exact hs
      have hlt := hr.lt _ _ hh
      have := has_ok r (l[i] : Nat) (l[(i + 1) % l.length] : Nat) w'
      rw [hr.right, hasI_in hlt.1 hlt.2, hh] at this
      simp only [Nat.zero_add, Nat.mul_one, hw1, hmod, Int.toNat_natCast, ha, hb]
      exact this
    have hbe := bit_eq d (l[i] : Nat)
    rw [Int.toNat_natCast, hbit, shr_un, Int.toNat_natCast] at hbe
    have hb0 : ¬ band .u64 (un (d >>> l[i])) 1 = 1 := by simpa using hbe
    have hv64 : l[i] < 64 := by rw [← e1]; exact (Rl.has_lt r hs).1
    refine RunOF_sound tab_ok noX_local rfl rfl 200 [false] _ _ rfl ?_ ?_
    · simp [hga, ha]; omega
    refine RunO.done ?_
    refine RunF_sound tab_ok noX_local 100 [false] _ _ rfl ?_ ?_
    · simp [hga, ha, hb0]; omega
    refine Run.to (ih (i + 1) (d ||| 1#64 <<< l[i]) (by omega) (fun v hv => ?_)) ⟨rfl, rfl, rfl, rfl, rfl, u64_eq ?_, i64_eq (wrap_succ (by omega)), trivial⟩ ⟨rfl, rfl, trivial⟩
    · rw [BitVec.getLsbD_or, Bool.or_eq_true, one_shl_get _ v hv64, decide_eq_true_eq] at hv
      rcases hv with hv | rfl
      · obtain ⟨j, h1, h2⟩ := hd v hv
        exact ⟨j, by omega, h2⟩
      · exact ⟨i, by omega, e1⟩
    · simp only [Nat.zero_add, Nat.mul_one, Int.toNat_natCast, ha]
      rw [shl1_un, bor_un, Int.toNat_natCast]
end Go.Proofs.YtocpkgckllbjlaaDoor

/-
  RelRound answers true. Own work.
-/
namespace Go.Proofs.YtocpkgckllbjlaaDoor
open Go.AM
set_option maxRecDepth 100000

theorem relRound_ok (r : Rl) (w : World) (hT : TabAt w) (h0 : 0 < w.heap.size) : Gives Tryd.prog 12 [encRel r] w (.bool true) := by
  have hTA : ∀ w', Agree (fun _ => False) w w' → TabAt w' := fun w' hA => hT.agree hA (fun f => f)
  have hSA : ∀ w', Agree (fun _ => False) w w' → 0 < w'.heap.size := fun w' hA => Nat.lt_of_lt_of_le h0 hA.size
  have hwk : ∀ w', Agree (fun _ => False) w w' → Gives Tryd.prog 62 [] w' (.bool true) := fun w' hA => works_ok w' (hTA w' hA) (hSA w' hA)
  by_cases cr : checkI r = 0
  · have hr := rt_check cr
    obtain ⟨n, hn⟩ : ∃ n : Nat, r.n = (n : Int) := ⟨r.n.toNat, by have := hr.lo; omega⟩
    have hnt : r.n.toNat = n := by omega
    have hn64 : n ≤ 64 := by have := hr.hi; omega
    obtain ⟨x, hx⟩ := cyc_ex r
    have hcy : ∀ w', Agree (fun _ => False) w w' → HandsZ Tryd.prog 57 [encRel r] w' (exZ x) (exH x) := fun w' hA => cycle_ok r x (by rw [hr.right]; exact hx) w' (hTA w' hA) (hSA w' hA)
    have hex : ∀ w', Agree (fun _ => False) w w' → HandsZ Tryd.prog 49 [encRel r] w' (exZ (extendL r)) (exH (extendL r)) := fun w' hA => extend_ok r w' (hTA w' hA) (hSA w' hA)
    have hac : ∀ w', Agree (fun _ => False) w w' → Gives Tryd.prog 46 [encRel r] w' (.bool (irB (clos r))) := fun w' _ => by
      have := acyclic_ok r w'
      rwa [hr.right] at this
    have hir : ∀ w', Agree (fun _ => False) w w' → Gives Tryd.prog 42 [encRel r] w' (.bool (irB r)) := fun w' _ => by
      have := irreflexive_ok r w'
      rwa [hr.right] at this
    have hpa : ∀ w', Agree (fun _ => False) w w' → HandsZ Tryd.prog 59 [encRel r] w' (pZ (partsU (symR r) n)) (pH (partsU (symR r) n)) := fun w' hA => by
      have := parts_ok r w' (hTA w' hA) (hSA w' hA)
      have e : partsL r = partsU (symR r) n := by rw [partsL, hr.right, hnt]
      rwa [e] at this
    have hcount := parts_count hr hn
    have hlen := partsU_len (symR r) n
    rcases x with _ | l
    · have ha := cyc_acyc hr hx
      obtain ⟨l, he, hl, hg⟩ := extend_some hr ha
      rw [hnt] at hl hg
      rw [he] at hex
      rw [ha] at hac hcount
      have hc := hcount.symm
      rw [Bool.and_eq_true, decide_eq_true_eq] at hc
      rw [hc.2] at hir
      exact round_2 r n hn l _ w cr hc.1 hn64 hwk hcy hex hac hpa hir (fun w' p c hA hs => forward_ok hr hn ha p c l w' hs hl hg (hTA w' hA) (hSA w' hA))
    · have ha := cyc_not hr hx
      rw [extend_none hr (by rw [ha]; decide)] at hex
      rw [ha] at hac hcount
      refine round_3 r hr n hn l hx _ w cr hn64 (by omega) (irB r) (fun h => ?_) hwk hcy hex hac hpa hir
      rw [h, decide_eq_true rfl, Bool.true_and] at hcount
      exact hcount.symm
  · exact round_1 r w cr hwk
end Go.Proofs.YtocpkgckllbjlaaDoor

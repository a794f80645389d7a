/-
  Own work, merged: O2, X1, X2, AM33, AM34, AM37, X3, X4, X5.
-/
import Derived.AtR
import Derived.Below
import Derived.ChangeKeysEq
import Derived.KernelRfl
import Derived.LaidMore
import Derived.Laws.AppendOwn
import Derived.Laws.BytesString
import Derived.Laws.Cells
import Derived.Laws.CopyRow
import Derived.Laws.Entries
import Derived.Laws.Rows
import Derived.Laws.Small
import Derived.Laws.StructEq
import Derived.Lib.LaidTab
import Derived.Lib.TrailingZeros
import Derived.Maps.AppendAt
import Derived.OpenShut
import Derived.Orders
import Derived.ProofKit
import Derived.RangeFuncRecord
import Derived.SevenTiedAt
import Derived.Stop.Joined
import Derived.Test.YtocpkgckllbjlaaDoorCards
import Derived.Test.YtocpkgckllbjlaaDoorProg
import Derived.Test.YtocpkgckllbjlaaDoorRows
import Derived.Test.YtocpkgckllbjlaaDoorTie
import Derived.Test.YtocpkgckllbjlaaDoorQ867301
/-
  forward walked: a good list is an order. Own work.
-/
namespace Go.Proofs.YtocpkgckllbjlaaDoor
open Go.AM
set_option maxRecDepth 100000

theorem cross_has {n : Int} (h0 : 0 ≤ n) (h1 : n ≤ 64) (x y : BitVec 64) (a b : Nat) : (crossL n x y).has a b = true ↔ ((a : Int) < n ∧ (b : Int) < n) ∧ x.getLsbD a = true ∧ y.getLsbD b = true := by
  rw [crossL, if_neg (by omega), Rl.has, Rl.row_by]
  by_cases ha : a < 64
  · rw [if_pos ha]
    by_cases c : (a : Int) < n ∧ x.getLsbD a = true
    · rw [if_pos c, BitVec.getLsbD_and, mask_get _ _ h0, Bool.and_eq_true, decide_eq_true_eq]
      constructor
      · rintro ⟨h2, h3⟩; exact ⟨⟨c.1, h3.2⟩, c.2, h2⟩
      · rintro ⟨h2, h3⟩; exact ⟨h3.2, by omega, h2.2⟩
    · rw [if_neg c, BitVec.getLsbD_zero]
      exact ⟨fun h => (by cases h), fun h => absurd ⟨h.1.1, h.2.1⟩ c⟩
  · rw [if_neg ha, BitVec.getLsbD_zero]
    exact ⟨fun h => (by cases h), fun h => absurd h.1.1 (by omega)⟩
theorem cross_n {n : Int} (h0 : 0 ≤ n) (h1 : n ≤ 64) (x y : BitVec 64) : (crossL n x y).n = n := by
  rw [crossL, if_neg (by omega)]; exact Rl.n_by _ _
theorem cross_rt {n : Int} (h0 : 0 ≤ n) (h1 : n ≤ 64) (x y : BitVec 64) : Rt (crossL n x y) := ⟨by rw [cross_n h0 h1]; exact h0, by rw [cross_n h0 h1]; exact h1, fun a b h => by
  rw [cross_n h0 h1]; exact ((cross_has h0 h1 x y a b).1 h).1⟩

theorem restrictT {R : Rl} (hR : Rt R) (x y : BitVec 64) (w : World) : Gives Tryd.prog 30 [encRel R, .int .u64 (un x), .int .u64 (un y)] w (encRel (twoR 1 R (crossL R.n x y))) := by
  have := restrict_ok R x y w
  rwa [hR.right, meet_eq] at this
theorem rangeT {Z : Rl} (hZ : Rt Z) (h : ∀ a b, ¬ Z.has a b = true) (w : World) (hT : TabAt w) (h0 : 0 < w.heap.size) : Gives Tryd.prog 40 [encRel Z] w (.int .u64 0) := by
  have hr := range_ok Z w hT h0
  have e : ranL Z = 0#64 := by
    unfold ranL
    rw [hZ.right]
    have hi := invR_rt hZ
    unfold invR at hi
    rw [hi.right]
    apply BitVec.eq_of_getLsbD_eq
    intro j hj
    rw [BitVec.getLsbD_zero, domL, domP_get]
    have : (Rl.gen Z.n fun x y => Z.has y x).row j = 0#64 := by
      apply BitVec.eq_of_getLsbD_eq
      intro b _
      rw [BitVec.getLsbD_zero]
      cases hb : ((Rl.gen Z.n fun x y => Z.has y x).row j).getLsbD b with
      | false => rfl
      | true => exact absurd ((invR_has Z j b).1 hb) (h _ _)
    rw [this]; simp
  rw [e] at hr
  exact hr

/-- What is done is done with all that stands ahead. -/
def Cl (A : Rl) (dn : BitVec 64) : Prop := ∀ b j, dn.getLsbD b = true → A.has b j = true → dn.getLsbD j = true
theorem Cl.take {A : Rl} {dn : BitVec 64} {i : Nat} (h : Cl A dn) (hi : i < 64) (hr : rdyB A dn i = true) : Cl A (dn ||| 1#64 <<< i) := by
  intro b j hb hj
  rw [BitVec.getLsbD_or, Bool.or_eq_true] at hb ⊢
  rw [one_shl_get i b hi, decide_eq_true_eq] at hb
  rcases hb with hb | rfl
  · exact .inl (h b j hb hj)
  · exact .inl (((rdyB_iff _ _ _).1 hr).2 j hj)

theorem shl1_un' (v : Nat) : shlI .u64 1 (v : Int) = un (1#64 <<< v) := by rw [shl1_un, Int.toNat_natCast]

set_option maxHeartbeats 600000 in
theorem forward_ok {R : Rl} (hR : Rt R) {n : Nat} (hn : R.n = (n : Int)) (hac : irB (clos R) = true) (p : Option Addr) (c : Nat) (l : List Nat) (w : World) (hs : SeesN w p l) (hl : l.length = n) (hg : goodL (aheadL R) n 0#64 l) (hT : TabAt w) (h0 : 0 < w.heap.size) :
    Gives Tryd.prog 66 [encRel R, .slice p l.length c] w (.bool true) := by
  refine Gives.of_run Tryd.func66 rfl (by show 2 ≤ 57; decide) ?_
  have hn64 : n ≤ 64 := by have := hR.hi; omega
  have hir : ∀ a, R.has a a = false := fun a => by
    cases h : R.has a a with
    | false => rfl
    | true => rw [irB_false (clos_sub hR _ _ h)] at hac; cases hac
  refine RunF_sound tab_ok noX_local 100 [false] _ _ rfl ?_ ?_
  · simp [hl, hn, segsVals, relV_one']
  suffices H : ∀ (m i : Nat) (dn : BitVec 64), i + m = n → goodL (aheadL R) n dn (l.drop i) → Cl (aheadL R) dn → Run _ _ ⟨[(1, .v (.slice p l.length c)), (2, .ptr 0 0), (5, .v (.int .u64 (un dn))), (6, .v (.int .i64 (i : Int)))], [(0, .cells 25 [.vals 65 (relV R)])], 1⟩ by
    exact Run.to (H n 0 0#64 (by omega) hg (fun b j hb => by rw [BitVec.getLsbD_zero] at hb; cases hb)) ⟨rfl, rfl, rfl, rfl, trivial⟩ ⟨rfl, trivial⟩
  intro m
  induction m with
  | zero =>
    intro i dn hi _ _
    refine RunF_sound tab_ok noX_local 100 [false] _ _ rfl ?_ ?_
    · simp; omega
    exact Run.retP tab_ok Tryd.func66 rfl trivial (fun M => rfl)
  | succ m ih =>
    intro i dn hi hgd hcl
    have hil : i < l.length := by omega
    rw [List.drop_eq_getElem_cons hil] at hgd
    obtain ⟨hvn, hrd, hgn⟩ := hgd
    obtain ⟨hp, hpc⟩ := hs i hil
    generalize hv : l[i] = v at *
    have hv64 : v < 64 := by omega
    have hbit := ((rdyB_iff _ _ _).1 hrd).1
    have hb := bit_eq dn (v : Int)
    rw [Int.toNat_natCast, hbit, shr_un, Int.toNat_natCast] at hb
    have hb0 : ¬ band .u64 (un (dn >>> v)) 1 = 1 := by simpa using hb
    have hZr := cross_rt hR.lo hR.hi (1#64 <<< v) dn
    have hZn := cross_n hR.lo hR.hi (1#64 <<< v) dn
    have hZ := twoR_rt 1 hR hZr hZn.symm
    have hno : ∀ a b, ¬ (twoR 1 R (crossL R.n (1#64 <<< v) dn)).has a b = true := by
      intro a b h
      rw [meet_has hR hZr hZn.symm, cross_has hR.lo hR.hi, one_shl_get v a hv64, decide_eq_true_eq] at h
      obtain ⟨h1, _, rfl, h2⟩ := h
      have := hcl b a h2 ((aheadL_has hR b a).2 h1)
      rw [hbit] at this; cases this
    have k1 : ∀ w', Gives Tryd.prog 30 [encRel R, .int .u64 (un (1#64 <<< v)), .int .u64 (un dn)] w' (encRel (twoR 1 R (crossL R.n (1#64 <<< v) dn))) := fun w' => restrictT hR _ _ w'
    have k2 : ∀ w', Agree (fun _ => False) w w' → Gives Tryd.prog 40 [encRel (twoR 1 R (crossL R.n (1#64 <<< v) dn))] w' (.int .u64 0) := fun w' hA => rangeT hZ hno w' (hT.agree hA (fun f => f)) (Nat.lt_of_lt_of_le h0 hA.size)
    generalize twoR 1 R (crossL R.n (1#64 <<< v) dn) = Z at *
    have k3 : ∀ w', Gives Tryd.prog 16 [encRel R, .int .i64 (v : Int), .int .i64 (v : Int)] w' (.bool false) := fun w' => by
      have := has_ok R v v w'
      rw [hR.right, hasI_in (by omega) (by omega), hir] at this
      exact this
    refine RunF_sound tab_ok noX_local 100 [true] _ _ rfl ?_ ?_
    · simp only [fnC_w0, fnC_S0, Int.toNat_natCast, Nat.mul_one, hpc]
      simp
      (repeat' refine And.intro ?_ ?_) <;> first | omega | exact hp
    simp only [fnC_w0, Int.toNat_natCast, Nat.mul_one, hpc]
    refine Run.to (t' := [(1, .v (.slice p l.length c)), (2, .ptr 0 0), (5, .v (.int .u64 (un dn))), (6, .v (.int .i64 (i : Int))), (7, .v (.int .i64 (v : Int)))]) (h' := [(0, .cells 25 [.vals 65 (relV R)])]) (n' := 1) ?_ ⟨rfl, rfl, rfl, rfl, rfl, trivial⟩ ⟨rfl, trivial⟩
    refine Run.drawA noX_local rfl [] [(0, .cells 25 [.vals 65 (relV R)])] rfl rfl ⟨rfl, trivial⟩ ?_
    refine RunOF_sound tab_ok noX_local rfl rfl 200 [false, false, false] _ _ rfl ?_ ?_
    · simp only [fnC_w0, fnC_S0]
      simp [hn]
      exact ⟨by omega, hb0⟩
    refine RunO.callFn (r := encRel Z) noX_local rfl rfl rfl rfl rfl rfl rfl rfl restrict_enters rfl (fun w' _ => ?_) ?_
    · have := k1 w'
      rw [← shl1_un' v] at this
      exact this
    refine RunOF_sound tab_ok noX_local rfl rfl 200 [] _ _ rfl ?_ ?_
    · simp
    refine RunO.callFn (r := .int .u64 0) noX_local rfl rfl rfl rfl rfl rfl rfl rfl range_enters rfl (fun w' hA => k2 w' hA) ?_
    refine RunOF_sound tab_ok noX_local rfl rfl 200 [false] _ _ rfl ?_ ?_
    · simp
    refine RunO.callFn (r := .bool false) noX_local rfl rfl rfl rfl rfl rfl rfl rfl has_enters rfl (fun w' _ => k3 w') ?_
    refine RunOF_sound tab_ok noX_local rfl rfl 200 [] _ _ rfl ?_ ?_
    · simp
    refine RunO.done ?_
    refine RunF_sound tab_ok noX_local 100 [false] _ _ rfl ?_ ?_
    · simp
    refine Run.to (ih (i + 1) (dn ||| 1#64 <<< v) (by omega) hgn (hcl.take hv64 hrd)) ⟨rfl, rfl, u64_eq ?_, i64_eq (wrap_succ (by omega)), trivial⟩ ⟨rfl, trivial⟩
    rw [shl1_un, bor_un, Int.toNat_natCast]
theorem forward_enters : Enters Tryd.prog 66 := enters_mk Tryd.func66 (by decide) rfl
end Go.Proofs.YtocpkgckllbjlaaDoor

/-
  All orders, plain: they rise; what goes forward is one of them. Own work.
-/
namespace Go.Proofs.YtocpkgckllbjlaaDoor
open Go.AM
set_option maxRecDepth 100000

/-- Does a list come ahead of another one? -/
def belowL : List Nat → List Nat → Bool
  | a :: s, b :: t => if a = b then belowL s t else decide (a < b)
  | _, _ => false

theorem below_pre (i j : Nat) (s t : List Nat) (h : i < j) : ∀ l : List Nat, belowL (l ++ i :: s) (l ++ j :: t) = true
  | [] => by
    have hne : i ≠ j := by omega
    simp [belowL, hne, h]
  | a :: l => by simp [belowL, below_pre i j s t h l]

theorem extL_rise (A : Rl) (n : Nat) : ∀ (d : Nat) (l : List Nat) (dn : BitVec 64), (extL A n d l dn).Pairwise fun x y => belowL x y = true
  | 0, l, dn => by rw [extL]; exact List.pairwise_singleton _ _
  | d + 1, l, dn => by
    rw [extL, List.pairwise_flatMap]
    refine ⟨fun i _ => ?_, ?_⟩
    · by_cases c : rdyB A dn i = true
      · rw [if_pos c]; exact extL_rise A n d _ _
      · rw [if_neg c]; exact List.Pairwise.nil
    · refine List.Pairwise.imp ?_ List.pairwise_lt_range
      intro i j hij x hx y hy
      by_cases c : rdyB A dn i = true
      · rw [if_pos c, extL_mem] at hx
        by_cases c2 : rdyB A dn j = true
        · rw [if_pos c2, extL_mem] at hy
          obtain ⟨t, rfl, _, _⟩ := hx
          obtain ⟨u, rfl, _, _⟩ := hy
          rw [List.append_assoc, List.append_assoc]
          exact below_pre i j t u hij l
        · rw [if_neg c2] at hy; cases hy
      · rw [if_neg c] at hx; cases hx

theorem orders_rise (r : Rl) : (ordersL r).Pairwise fun x y => belowL x y = true := by
  rw [ordersL]
  by_cases c : irB (clos (rightL r)) = true
  · rw [if_pos c]; exact extL_rise _ _ _ _ _
  · rw [if_neg c]; exact List.Pairwise.nil

/-- What the test of an order says, number by number. -/
def fwdGo (R : Rl) (n : Nat) : BitVec 64 → List Int → Bool
  | _, [] => true
  | dn, v :: t => (((decide (0 ≤ v) && decide (v < (n : Int))) && !dn.getLsbD v.toNat) && ((List.range 64).all fun b => !(R.has v.toNat b && dn.getLsbD b)) && !R.has v.toNat v.toNat) && fwdGo R n (dn ||| 1#64 <<< v.toNat) t

theorem fwdGo_cons {R : Rl} {n : Nat} {dn : BitVec 64} {v : Int} {t : List Int} (h : fwdGo R n dn (v :: t) = true) : ∃ k : Nat, v = (k : Int) ∧ k < n ∧ dn.getLsbD k = false ∧ (∀ b, R.has k b = true → dn.getLsbD b = false) ∧ R.has k k = false ∧ fwdGo R n (dn ||| 1#64 <<< k) t = true := by
  simp only [fwdGo, Bool.and_eq_true, decide_eq_true_eq, Bool.not_eq_true', List.all_eq_true] at h
  obtain ⟨⟨⟨⟨⟨h1, h2⟩, h3⟩, h4⟩, h5⟩, h6⟩ := h
  obtain ⟨k, rfl⟩ := Int.eq_ofNat_of_zero_le h1
  simp only [Int.toNat_natCast] at *
  refine ⟨k, rfl, by omega, h3, fun b hb => ?_, h5, h6⟩
  have := h4 b (List.mem_range.2 (Rl.has_lt R hb).2)
  rw [hb] at this
  simpa using this

theorem fwd_later {R : Rl} {n : Nat} (hn : n ≤ 64) : ∀ (xs : List Int) (dn : BitVec 64), fwdGo R n dn xs = true → ∀ j : Nat, (j : Int) ∈ xs → j < n ∧ dn.getLsbD j = false ∧ ∀ b, dn.getLsbD b = true → R.has j b = false
  | [], _, _, j, hj => by cases hj
  | v :: t, dn, h, j, hj => by
    obtain ⟨k, rfl, hk, h1, h2, h3, h4⟩ := fwdGo_cons h
    rcases List.mem_cons.1 hj with e | hj
    · obtain rfl : j = k := by omega
      refine ⟨hk, h1, fun b hb => ?_⟩
      cases hh : R.has j b with
      | false => rfl
      | true => rw [h2 b hh] at hb; cases hb
    · obtain ⟨q1, q2, q3⟩ := fwd_later hn t _ h4 j hj
      rw [BitVec.getLsbD_or, Bool.or_eq_false_iff] at q2
      exact ⟨q1, q2.1, fun b hb => q3 b (by rw [BitVec.getLsbD_or, hb]; rfl)⟩

theorem fwd_nats {R : Rl} {n : Nat} : ∀ (xs : List Int) (dn : BitVec 64), fwdGo R n dn xs = true → ∃ ys : List Nat, xs = ys.map fun k : Nat => (k : Int)
  | [], _, _ => ⟨[], rfl⟩
  | v :: t, dn, h => by
    obtain ⟨k, rfl, _, _, _, _, h4⟩ := fwdGo_cons h
    obtain ⟨ys, rfl⟩ := fwd_nats t _ h4
    exact ⟨k :: ys, rfl⟩

theorem mem_cast {ys : List Nat} {j : Nat} : (j : Int) ∈ (ys.map fun k : Nat => (k : Int)) ↔ j ∈ ys := by
  rw [List.mem_map]
  constructor
  · rintro ⟨k, hk, e⟩
    obtain rfl : k = j := by omega
    exact hk
  · exact fun h => ⟨j, h, rfl⟩

theorem fwd_diff {R : Rl} {n : Nat} (hn : n ≤ 64) : ∀ (ys : List Nat) (dn : BitVec 64), fwdGo R n dn (ys.map fun k : Nat => (k : Int)) = true → ys.Nodup
  | [], _, _ => List.nodup_nil
  | k :: t, dn, h => by
    rw [List.map_cons] at h
    obtain ⟨k', e, hk, h1, h2, h3, h4⟩ := fwdGo_cons h
    obtain rfl : k = k' := by omega
    refine List.nodup_cons.2 ⟨fun hm => ?_, fwd_diff hn t _ h4⟩
    have := (fwd_later hn _ _ h4 k (mem_cast.2 hm)).2.1
    rw [BitVec.getLsbD_or, one_shl_get k k (by omega)] at this
    simp at this

theorem sub_len (a b : List Nat) (ha : a.Nodup) (h : ∀ z ∈ a, z ∈ b) : a.length ≤ b.length := by
  induction a generalizing b with
  | nil => simp
  | cons x a ih =>
    have hx := h x (by simp)
    have h1 := ih (b.erase x) (List.nodup_cons.1 ha).2 (fun z hz => by
      have hne : z ≠ x := fun e => (List.nodup_cons.1 ha).1 (e ▸ hz)
      exact (List.mem_erase_of_ne hne).2 (h z (by simp [hz])))
    rw [List.length_erase_of_mem hx] at h1
    have := List.length_pos_of_mem hx
    simp; omega

theorem fwd_good {R : Rl} (hR : Rt R) {n : Nat} (hn : R.n = (n : Int)) (hn64 : n ≤ 64) : ∀ (ys : List Nat) (dn : BitVec 64), fwdGo R n dn (ys.map fun k : Nat => (k : Int)) = true → (∀ j, j < n → dn.getLsbD j = true ∨ j ∈ ys) → goodL (aheadL R) n dn ys
  | [], _, _, _ => trivial
  | k :: t, dn, h, hall => by
    rw [List.map_cons] at h
    obtain ⟨k', e, hk, h1, h2, h3, h4⟩ := fwdGo_cons h
    obtain rfl : k = k' := by omega
    refine ⟨hk, (rdyB_iff _ _ _).2 ⟨h1, fun j hj => ?_⟩, fwd_good hR hn hn64 t _ h4 fun j hj => ?_⟩
    · rw [aheadL_has hR] at hj
      have hjn := (hR.lt _ _ hj).1
      rw [hn] at hjn
      rcases hall j (by omega) with h | h
      · exact h
      · rcases List.mem_cons.1 h with rfl | h
        · rw [h3] at hj; cases hj
        · have := (fwd_later hn64 _ _ h4 j (mem_cast.2 h)).2.2 k (by rw [BitVec.getLsbD_or, one_shl_get k k (by omega)]; simp)
          rw [this] at hj; cases hj
    · rcases hall j hj with h | h
      · exact .inl (by rw [BitVec.getLsbD_or, h]; rfl)
      · rcases List.mem_cons.1 h with rfl | h
        · exact .inl (by rw [BitVec.getLsbD_or, one_shl_get j j (by omega)]; simp)
        · exact .inr h

theorem fwd_order {R : Rl} (hR : Rt R) (hac : irB (clos R) = true) {n : Nat} (hn : R.n = (n : Int)) {xs : List Int} (hl : xs.length = n) (h : fwdGo R n 0#64 xs = true) : ∃ ys ∈ ordersL R, xs = ys.map fun k : Nat => (k : Int) := by
  have hn64 : n ≤ 64 := by have := hR.hi; omega
  obtain ⟨ys, rfl⟩ := fwd_nats xs _ h
  rw [List.length_map] at hl
  refine ⟨ys, ?_, rfl⟩
  have hd := fwd_diff hn64 ys _ h
  have hall : ∀ j, j < n → j ∈ ys := by
    intro j hj
    by_cases hm : j ∈ ys
    · exact hm
    · have := sub_len (j :: ys) (List.range n) (List.nodup_cons.2 ⟨hm, hd⟩) (fun z hz => by
        rcases List.mem_cons.1 hz with rfl | hz
        · exact List.mem_range.2 hj
        · exact List.mem_range.2 (fwd_later hn64 _ _ h z (mem_cast.2 hz)).1)
      simp at this; omega
  rw [ordersL, hR.right, if_pos hac, sizeL, hR.right, extL_mem]
  refine ⟨ys, by simp, by omega, ?_⟩
  have : R.n.toNat = n := by omega
  rw [this]
  exact fwd_good hR hn hn64 ys _ h fun j hj => .inr (hall j hj)
end Go.Proofs.YtocpkgckllbjlaaDoor

/-
  Lists of ints compared; the test of an order, of any list. Own work.
-/
namespace Go.Proofs.YtocpkgckllbjlaaDoor
open Go.AM
set_option maxRecDepth 100000

/-- A slice of ints, as it lies in a world. -/
def SeesZ (w : World) (p : Option Addr) (xs : List Int) : Prop :=
  ∀ i (h : i < xs.length), p = some (p.getD default) ∧ w.cell? ((p.getD default).add i) = some (.int .i64 xs[i])

theorem SeesZ.agree {S : Nat → Prop} {w w' : World} {p : Option Addr} {xs : List Int} (h : SeesZ w p xs) (hA : Agree S w w') (hS : ∀ a, p = some a → ¬ S a.block) : SeesZ w' p xs := by
  intro i hi
  obtain ⟨h1, h2⟩ := h i hi
  exact ⟨h1, hA.cell h2 (by rw [add_block]; exact hS _ h1)⟩

def castZ (ys : List Nat) : List Int := ys.map fun k : Nat => (k : Int)
theorem castZ_len (ys : List Nat) : (castZ ys).length = ys.length := by simp [castZ]
theorem SeesN.ints {w : World} {p : Option Addr} {ys : List Nat} (h : SeesN w p ys) : SeesZ w p (castZ ys) := by
  intro i hi
  have := h i (by simpa [castZ] using hi)
  simpa [castZ] using this

/-- Are two lists alike from a place on? -/
theorem sameIntsZ_ok (p q : Option Addr) (c d : Nat) (xs ys : List Int) (w : World) (hx : SeesZ w p xs) (hy : SeesZ w q ys) (hl : xs.length ≤ maxLen) :
    Gives Tryd.prog 53 [.slice p xs.length c, .slice q ys.length d] w (.bool (decide (xs = ys))) := by
  refine Gives.of_run Tryd.func53 rfl (by show 2 ≤ 26; decide) ?_
  have hml : maxLen = 9223372036854775807 := rfl
  by_cases hlen : xs.length = ys.length
  · refine RunF_sound tab_ok noX_local 100 [false] _ _ rfl ?_ ?_
    · simp [hlen]
    suffices H : ∀ (m i : Nat), i + m = xs.length → xs.take i = ys.take i → ∀ σ, inT σ.t [(0, .v (.slice p xs.length c)), (1, .v (.slice q ys.length d)), (5, .v (.int .i64 (i : Int)))] → inT σ.h [] → Run _ _ σ by
      exact H xs.length 0 (by omega) rfl _ ⟨rfl, rfl, rfl, trivial⟩ trivial
    intro m
    induction m with
    | zero =>
      intro i hi he σ ht hh
      refine Run.to ?_ ht hh (n' := 0)
      refine RunF_sound tab_ok noX_local 100 [false] _ _ rfl ?_ ?_
      · simp; omega
      refine Run.retP tab_ok Tryd.func53 rfl trivial (fun M => ?_)
      have : xs = ys := by rw [List.take_of_length_le (by omega), List.take_of_length_le (by omega)] at he; exact he
      simp [conc, this]
    | succ m ih =>
      intro i hi he σ ht hh
      refine Run.to ?_ ht hh (n' := 0)
      have hix : i < xs.length := by omega
      have hiy : i < ys.length := by omega
      obtain ⟨hp, hpc⟩ := hx i hix
      obtain ⟨hq, hqc⟩ := hy i hiy
      refine RunF_sound tab_ok noX_local 100 [true] _ _ rfl ?_ ?_
      · simp; omega
      refine Run.drawA noX_local rfl [] [] rfl rfl trivial ?_
      refine RunOF_sound tab_ok noX_local rfl rfl 100 [] _ _ rfl ?_ ?_
      · simp only [fnC_w0, fnC_S0, Int.toNat_natCast, Nat.mul_one, hpc, hqc]
        simp
        (repeat' refine And.intro ?_ ?_) <;> first | omega | exact hp | exact hq
      refine RunO.done ?_
      simp only [fnC_w0, Int.toNat_natCast, Nat.mul_one, hpc, hqc]
      by_cases c0 : xs[i] = ys[i]
      · refine RunF_sound tab_ok noX_local 100 [false] _ _ rfl ?_ ?_
        · simp [c0]
        refine ih (i + 1) (by omega) ?_ _ ⟨rfl, rfl, i64_eq (wrap_succ (by omega)), trivial⟩ trivial
        rw [List.take_succ_eq_append_getElem hix, List.take_succ_eq_append_getElem hiy, he, c0]
      · refine RunF_sound tab_ok noX_local 100 [true] _ _ rfl ?_ ?_
        · simp [c0]
        refine Run.retP tab_ok Tryd.func53 rfl trivial (fun M => ?_)
        have : xs ≠ ys := fun e => by subst e; exact c0 rfl
        simp [conc, this]
  · refine RunF_sound tab_ok noX_local 100 [true] _ _ rfl ?_ ?_
    · simp; omega
    refine Run.retP tab_ok Tryd.func53 rfl trivial (fun M => ?_)
    have : xs ≠ ys := fun e => by subst e; exact hlen rfl
    simp [conc, this]

theorem below_ok (p q : Option Addr) (c d : Nat) (xs ys : List Nat) (w : World) (hx : SeesN w p xs) (hy : SeesN w q ys) (hlen : xs.length = ys.length) (hm : xs.length ≤ maxLen) :
    Gives Tryd.prog 67 [.slice p xs.length c, .slice q ys.length d] w (.bool (belowL xs ys)) := by
  refine Gives.of_run Tryd.func67 rfl (by show 2 ≤ 36; decide) ?_
  have hml : maxLen = 9223372036854775807 := rfl
  obtain ⟨B, hB⟩ : ∃ B, B = belowL xs ys := ⟨_, rfl⟩
  rw [← hB]
  refine RunF_sound tab_ok noX_local 100 [] _ _ rfl ?_ ?_
  · simp
  suffices H : ∀ (m i : Nat), i + m = xs.length → B = belowL (xs.drop i) (ys.drop i) → ∀ σ, inT σ.t [(0, .v (.slice p xs.length c)), (1, .v (.slice q ys.length d)), (5, .v (.int .i64 (i : Int)))] → inT σ.h [] → Run _ _ σ by
    exact H xs.length 0 (by omega) hB _ ⟨rfl, rfl, rfl, trivial⟩ trivial
  intro m
  induction m with
  | zero =>
    intro i hi he σ ht hh
    refine Run.to ?_ ht hh (n' := 0)
    rw [List.drop_of_length_le (by omega)] at he
    have hf : B = false := by rw [he]; simp [belowL]
    refine RunF_sound tab_ok noX_local 100 [false] _ _ rfl ?_ ?_
    · simp; omega
    exact Run.retP tab_ok Tryd.func67 rfl trivial (fun M => by rw [hf]; rfl)
  | succ m ih =>
    intro i hi he σ ht hh
    refine Run.to ?_ ht hh (n' := 0)
    have hix : i < xs.length := by omega
    have hiy : i < ys.length := by omega
    obtain ⟨hp, hpc⟩ := hx i hix
    obtain ⟨hq, hqc⟩ := hy i hiy
    rw [List.drop_eq_getElem_cons hix, List.drop_eq_getElem_cons hiy] at he
    refine RunF_sound tab_ok noX_local 100 [true, true] _ _ rfl ?_ ?_
    · simp; omega
    refine Run.to (t' := [(0, .v (.slice p xs.length c)), (1, .v (.slice q ys.length d)), (5, .v (.int .i64 (i : Int)))]) (h' := []) (n' := 0) ?_ ⟨rfl, rfl, rfl, trivial⟩ trivial
    refine Run.drawA noX_local rfl [] [] rfl rfl trivial ?_
    refine RunOF_sound tab_ok noX_local rfl rfl 100 [] _ _ rfl ?_ ?_
    · simp only [fnC_w0, fnC_S0, Int.toNat_natCast, Nat.mul_one, hpc, hqc]
      simp
      (repeat' refine And.intro ?_ ?_) <;> first | omega | exact hp | exact hq
    refine RunO.done ?_
    simp only [fnC_w0, Int.toNat_natCast, Nat.mul_one, hpc, hqc]
    by_cases c0 : xs[i] = ys[i]
    · refine RunF_sound tab_ok noX_local 100 [false] _ _ rfl ?_ ?_
      · simp [c0]
      refine ih (i + 1) (by omega) ?_ _ ⟨rfl, rfl, i64_eq (wrap_succ (by omega)), trivial⟩ trivial
      rw [he, belowL, if_pos c0]
    · refine RunF_sound tab_ok noX_local 100 [true] _ _ rfl ?_ ?_
      · simp; omega
      refine Run.to (t' := [(0, .v (.slice p xs.length c)), (1, .v (.slice q ys.length d)), (5, .v (.int .i64 (i : Int)))]) (h' := []) (n' := 0) ?_ ⟨rfl, rfl, rfl, trivial⟩ trivial
      refine Run.drawA noX_local rfl [] [] rfl rfl trivial ?_
      refine RunOF_sound tab_ok noX_local rfl rfl 100 [] _ _ rfl ?_ ?_
      · simp only [fnC_w0, fnC_S0, Int.toNat_natCast, Nat.mul_one, hpc, hqc]
        simp
        (repeat' refine And.intro ?_ ?_) <;> first | omega | exact hp | exact hq
      refine RunO.done ?_
      simp only [fnC_w0, Int.toNat_natCast, Nat.mul_one, hpc, hqc]
      refine RunF_sound tab_ok noX_local 100 [] _ _ rfl ?_ ?_
      · simp
      refine Run.retP tab_ok Tryd.func67 rfl trivial (fun M => ?_)
      rw [he, belowL, if_neg c0]
      simp [conc]
theorem below_enters : Enters Tryd.prog 67 := enters_mk Tryd.func67 (by decide) rfl

theorem ranL_get {Z : Rl} (hZ : Rt Z) {a b : Nat} (h : Z.has a b = true) : ranL Z ≠ 0#64 := by
  intro e
  unfold ranL at e
  rw [hZ.right] at e
  have hi := invR_rt hZ
  unfold invR at hi
  rw [hi.right] at e
  have hb := (Rl.has_lt Z h).2
  have := congrArg (fun z : BitVec 64 => z.getLsbD b) e
  simp only [BitVec.getLsbD_zero] at this
  rw [domL, domP_get, decide_eq_true hb, Bool.true_and, Bool.true_and, Bool.not_eq_false'] at this
  have h1 : (Rl.gen Z.n fun x y => Z.has y x).has b a = true := (invR_has Z b a).2 h
  rw [Rl.has, eq_of_beq this, BitVec.getLsbD_zero] at h1
  cases h1

set_option maxHeartbeats 1000000 in
theorem forwardG_ok {R : Rl} (hR : Rt R) {n : Nat} (hn : R.n = (n : Int)) (p : Option Addr) (c : Nat) (l : List Int) (w : World) (hs : SeesZ w p l) (hT : TabAt w) (h0 : 0 < w.heap.size) :
    Gives Tryd.prog 66 [encRel R, .slice p l.length c] w (.bool (decide (l.length = n) && fwdGo R n 0#64 l)) := by
  refine Gives.of_run Tryd.func66 rfl (by show 2 ≤ 57; decide) ?_
  have hn64 : n ≤ 64 := by have := hR.hi; omega
  by_cases hl : l.length = n
  · rw [decide_eq_true hl, Bool.true_and]
    refine RunF_sound tab_ok noX_local 100 [false] _ _ rfl ?_ ?_
    · simp [hl, hn]
    obtain ⟨B, hB⟩ : ∃ B, B = fwdGo R n 0#64 l := ⟨_, rfl⟩
    rw [← hB]
    suffices H : ∀ (m i : Nat) (dn : BitVec 64), i + m = n → B = fwdGo R n dn (l.drop i) → Run _ _ ⟨[(1, .v (.slice p l.length c)), (2, .ptr 0 0), (5, .v (.int .u64 (un dn))), (6, .v (.int .i64 (i : Int)))], [(0, .cells 25 [.vals 65 (relV R)])], 1⟩ by
      exact Run.to (H n 0 0#64 (by omega) hB) ⟨rfl, rfl, rfl, rfl, trivial⟩ ⟨rfl, trivial⟩
    intro m
    induction m with
    | zero =>
      intro i dn hi hb
      rw [List.drop_of_length_le (by omega)] at hb
      subst hb
      refine RunF_sound tab_ok noX_local 100 [false] _ _ rfl ?_ ?_
      · simp; omega
      exact Run.retP tab_ok Tryd.func66 rfl trivial (fun M => rfl)
    | succ m ih =>
      intro i dn hi hb
      have hil : i < l.length := by omega
      rw [List.drop_eq_getElem_cons hil] at hb
      obtain ⟨hp, hpc⟩ := hs i hil
      generalize l[i] = v at *
      refine RunF_sound tab_ok noX_local 100 [true] _ _ rfl ?_ ?_
      · simp only [fnC_w0, fnC_S0, Int.toNat_natCast, Nat.mul_one, hpc]
        simp
        (repeat' refine And.intro ?_ ?_) <;> first | omega | exact hp
      simp only [fnC_w0, Int.toNat_natCast, Nat.mul_one, hpc]
      refine Run.to (t' := [(1, .v (.slice p l.length c)), (2, .ptr 0 0), (5, .v (.int .u64 (un dn))), (6, .v (.int .i64 (i : Int))), (7, .v (.int .i64 v))]) (h' := [(0, .cells 25 [.vals 65 (relV R)])]) (n' := 1) ?_ ⟨rfl, rfl, rfl, rfl, rfl, trivial⟩ ⟨rfl, trivial⟩
      refine Run.drawA noX_local rfl [] [(0, .cells 25 [.vals 65 (relV R)])] rfl rfl ⟨rfl, trivial⟩ ?_
      by_cases c1 : v < 0
      · have hf : B = false := by rw [hb]; simp [fwdGo]; omega
        refine RunOF_sound tab_ok noX_local rfl rfl 200 [true] _ _ rfl ?_ ?_
        · simp only []
          simp [c1]
        refine RunO.done ?_
        refine RunF_sound tab_ok noX_local 100 [] _ _ rfl ?_ ?_
        · simp
        exact Run.retP tab_ok Tryd.func66 rfl trivial (fun M => by rw [hf]; rfl)
      by_cases c2 : v ≥ (n : Int)
      · have hf : B = false := by rw [hb]; simp [fwdGo]; omega
        refine RunOF_sound tab_ok noX_local rfl rfl 200 [false, true] _ _ rfl ?_ ?_
        · simp only []
          simp [hn]; omega
        refine RunO.done ?_
        refine RunF_sound tab_ok noX_local 100 [] _ _ rfl ?_ ?_
        · simp
        exact Run.retP tab_ok Tryd.func66 rfl trivial (fun M => by rw [hf]; rfl)
      obtain ⟨v, rfl⟩ := Int.eq_ofNat_of_zero_le (show 0 ≤ v by omega)
      have hv64 : v < 64 := by omega
      have hbe := bit_eq dn (v : Int)
      rw [Int.toNat_natCast, shr_un, Int.toNat_natCast] at hbe
      by_cases c3 : dn.getLsbD v = true
      · have hf : B = false := by rw [hb]; simp [fwdGo, c3]
        rw [c3] at hbe
        have hb1 : band .u64 (un (dn >>> v)) 1 = 1 := by simpa using hbe
        refine RunOF_sound tab_ok noX_local rfl rfl 200 [false, false, true] _ _ rfl ?_ ?_
        · simp only []
          simp [hn, hb1]; omega
        refine RunO.done ?_
        refine RunF_sound tab_ok noX_local 100 [] _ _ rfl ?_ ?_
        · simp
        exact Run.retP tab_ok Tryd.func66 rfl trivial (fun M => by rw [hf]; rfl)
      rw [Bool.not_eq_true] at c3
      rw [c3] at hbe
      have hb0 : ¬ band .u64 (un (dn >>> v)) 1 = 1 := by simpa using hbe
      have hZr := cross_rt hR.lo hR.hi (1#64 <<< v) dn
      have hZn := cross_n hR.lo hR.hi (1#64 <<< v) dn
      have hZ := twoR_rt 1 hR hZr hZn.symm
      have hZh : ∀ a b, (twoR 1 R (crossL R.n (1#64 <<< v) dn)).has a b = true ↔ a = v ∧ R.has v b = true ∧ dn.getLsbD b = true := by
        intro a b
        rw [meet_has hR hZr hZn.symm, cross_has hR.lo hR.hi, one_shl_get v a hv64, decide_eq_true_eq]
        constructor
        · rintro ⟨h1, _, rfl, h2⟩; exact ⟨rfl, h1, h2⟩
        · rintro ⟨rfl, h1, h2⟩
          have := hR.lt _ _ h1
          exact ⟨h1, this, rfl, h2⟩
      have k1 : ∀ w', Gives Tryd.prog 30 [encRel R, .int .u64 (un (1#64 <<< v)), .int .u64 (un dn)] w' (encRel (twoR 1 R (crossL R.n (1#64 <<< v) dn))) := fun w' => restrictT hR _ _ w'
      have k2 : ∀ w', Agree (fun _ => False) w w' → Gives Tryd.prog 40 [encRel (twoR 1 R (crossL R.n (1#64 <<< v) dn))] w' (.int .u64 (un (ranL (twoR 1 R (crossL R.n (1#64 <<< v) dn))))) := fun w' hA => range_ok _ w' (hT.agree hA (fun f => f)) (Nat.lt_of_lt_of_le h0 hA.size)
      have kz : (∃ b, R.has v b = true ∧ dn.getLsbD b = true) → ranL (twoR 1 R (crossL R.n (1#64 <<< v) dn)) ≠ 0#64 := fun ⟨b, h1, h2⟩ => ranL_get hZ ((hZh v b).2 ⟨rfl, h1, h2⟩)
      have ky : (¬ ∃ b, R.has v b = true ∧ dn.getLsbD b = true) → ∀ w', Agree (fun _ => False) w w' → Gives Tryd.prog 40 [encRel (twoR 1 R (crossL R.n (1#64 <<< v) dn))] w' (.int .u64 0) := fun hno w' hA =>
        rangeT hZ (fun a b h => hno ⟨b, ((hZh a b).1 h).2⟩) w' (hT.agree hA (fun f => f)) (Nat.lt_of_lt_of_le h0 hA.size)
      have k3 : ∀ w', Gives Tryd.prog 16 [encRel R, .int .i64 (v : Int), .int .i64 (v : Int)] w' (.bool (R.has v v)) := fun w' => by
        have := has_ok R v v w'
        rw [hR.right, hasI_in (by omega) (by omega)] at this
        exact this
      have hx4 : ((List.range 64).all fun b => !(R.has v b && dn.getLsbD b)) = true ↔ ¬ ∃ b, R.has v b = true ∧ dn.getLsbD b = true := by
        rw [List.all_eq_true]
        constructor
        · rintro h ⟨b, h1, h2⟩
          have := h b (List.mem_range.2 (Rl.has_lt R h1).2)
          rw [h1, h2] at this; cases this
        · intro h b _
          by_cases q1 : R.has v b = true
          · by_cases q2 : dn.getLsbD b = true
            · exact absurd ⟨b, q1, q2⟩ h
            · rw [Bool.not_eq_true] at q2; rw [q2]; simp
          · rw [Bool.not_eq_true] at q1; rw [q1]; simp
      have hgo : fwdGo R n dn ((v : Int) :: l.drop (i + 1)) = ((((List.range 64).all fun b => !(R.has v b && dn.getLsbD b)) && !R.has v v) && fwdGo R n (dn ||| 1#64 <<< v) (l.drop (i + 1))) := by
        rw [fwdGo, Int.toNat_natCast, decide_eq_true (show (0 : Int) ≤ v by omega), decide_eq_true (show (v : Int) < n by omega), c3]
        simp only [Bool.true_and, Bool.not_false, Bool.and_true]
      rw [hgo] at hb
      generalize twoR 1 R (crossL R.n (1#64 <<< v) dn) = Z at *
      refine RunOF_sound tab_ok noX_local rfl rfl 200 [false, false, false] _ _ rfl ?_ ?_
      · simp only []
        simp [hn]
        exact ⟨by omega, hb0⟩
      refine RunO.callFn (r := encRel Z) noX_local rfl rfl rfl rfl rfl rfl rfl rfl restrict_enters rfl (fun w' _ => ?_) ?_
      · have := k1 w'
        rw [← shl1_un' v] at this
        exact this
      refine RunOF_sound tab_ok noX_local rfl rfl 200 [] _ _ rfl ?_ ?_
      · simp
      by_cases c4 : ∃ b, R.has v b = true ∧ dn.getLsbD b = true
      · have hf : B = false := by
          rw [hb, Bool.eq_false_iff.2 (fun h => hx4.1 h c4)]; rfl
        have hz := kz c4
        generalize ranL Z = rz at *
        refine RunO.callFn (r := .int .u64 (un rz)) noX_local rfl rfl rfl rfl rfl rfl rfl rfl range_enters rfl (fun w' hA => k2 w' hA) ?_
        refine RunOF_sound tab_ok noX_local rfl rfl 200 [true] _ _ rfl ?_ ?_
        · simp
          exact hz
        refine RunO.done ?_
        refine RunF_sound tab_ok noX_local 100 [] _ _ rfl ?_ ?_
        · simp
        exact Run.retP tab_ok Tryd.func66 rfl trivial (fun M => by rw [hf]; rfl)
      rw [hx4.2 c4, Bool.true_and] at hb
      refine RunO.callFn (r := .int .u64 0) noX_local rfl rfl rfl rfl rfl rfl rfl rfl range_enters rfl (fun w' hA => ky c4 w' hA) ?_
      refine RunOF_sound tab_ok noX_local rfl rfl 200 [false] _ _ rfl ?_ ?_
      · simp
      generalize R.has v v = bv at *
      refine RunO.callFn (r := .bool bv) noX_local rfl rfl rfl rfl rfl rfl rfl rfl has_enters rfl (fun w' _ => k3 w') ?_
      refine RunOF_sound tab_ok noX_local rfl rfl 200 [] _ _ rfl ?_ ?_
      · simp
      refine RunO.done ?_
      cases bv with
      | true =>
        refine RunF_sound tab_ok noX_local 100 [true] _ _ rfl ?_ ?_
        · simp
        exact Run.retP tab_ok Tryd.func66 rfl trivial (fun M => by rw [hb]; rfl)
      | false =>
        refine RunF_sound tab_ok noX_local 100 [false] _ _ rfl ?_ ?_
        · simp
        refine Run.to (ih (i + 1) (dn ||| 1#64 <<< v) (by omega) (by rw [hb]; simp)) ⟨rfl, rfl, u64_eq ?_, i64_eq (wrap_succ (by omega)), trivial⟩ ⟨rfl, trivial⟩
        rw [shl1_un, bor_un, Int.toNat_natCast]
  · rw [decide_eq_false hl, Bool.false_and]
    refine RunF_sound tab_ok noX_local 100 [true] _ _ rfl ?_ ?_
    · simp [hn]
      omega
    exact Run.retP tab_ok Tryd.func66 rfl trivial (fun M => rfl)
end Go.Proofs.YtocpkgckllbjlaaDoor

/-
  The abstract machine, thirty-third part: a range over a function whose outer part turns. Own work; over any program.
-/
namespace Go.AM
open Go.RowKit

theorem old_alloc (w : World) (o : Obj) {b : Nat} (hb : b < w.heap.size) : (w.alloc o).heap[b]? = w.heap[b]? := by
  first | exact heap_alloc_old _ _ hb | exact heap_alloc_old _ _ b hb

def roundRX {S : Type} (C : Ctx) (XS : S → Res) (D : Nat) (t : List (Nat × AV)) (a0 : Array Value) (l : Nat) (rc : Loop) (wy : World) (fpy : Foot) (Next : S → List (Nat × Blk) → Prop) (Stop : S → Code → List (Nat × Blk) → Prop) : Value → World → Prop := fun v w' =>
  ∃ fp', Grown fpy wy fp' w' ∧ (v = .bool true ∧ (∃ s h M fpX, Next s h ∧ LoopJ ((C.withX (XS s)).marked D) t a0 l rc .ready none h M fpX w' fp') ∨
    v = .bool false ∧ (∃ s c h M fpX, Stop s c h ∧ LoopJ ((C.withX (XS s)).marked D) t a0 l rc .done (some c) h M fpX w' fp'))

def plainT : List (Nat × AV) → Bool
  | [] => true
  | (_, .v _) :: r => plainT r
  | (_, .tt _) :: r => plainT r
  | _ :: _ => false

theorem plainT_lk : ∀ {l : List (Nat × AV)} {i : Nat} {x : AV}, plainT l = true → lk l i = some x → ∀ M M' : Loc, conc M x = conc M' x
  | [], i, x, _, h => by cases h
  | (j, y) :: r, i, x, hb, h => by
    simp only [lk] at h
    split at h
    · cases h
      cases y with
      | v _ => intro M M'; simp [conc]
      | tt _ => intro M M'; simp [conc]
      | _ => simp [plainT] at hb
    · cases y with
      | v _ => exact plainT_lk (show plainT r = true from hb) h
      | tt _ => exact plainT_lk (show plainT r = true from hb) h
      | _ => simp [plainT] at hb

theorem lkA {α : Type} {i : Nat} : ∀ {a b : List (Nat × α)}, lk (a ++ b) i = match lk a i with | some x => some x | none => lk b i
  | [], b => rfl
  | (j, y) :: a, b => by
    simp only [List.cons_append, lk]
    split
    · rfl
    · exact lkA

theorem Run.rangeFnX {C : Ctx} {S : Type} (XS : S → Res) (hLS : ∀ s, Local (XS s)) (s0 : S) (hX0 : C.X = XS s0) {k : List Item} {σ : St} {g : Operand} {ps : Array Tmp} {assign body : Code} {f : FuncId} {vs : List Value} {z : AV}
    (hro : C.b.roundOf = none) (hg : σ.ev g = some z) (hz : ∀ M, conc M z = .func (.func f) #[] vs.toArray) (hent : Enters C.P f)
    (lo : Nat) (tv t : List (Nat × AV)) (hvin : inT σ.t tv) (hvp : plainT tv = true) (htin : inT σ.t t) (hlo : keysLt lo t = true) (hps : psOK lo C.n.hi ps.toList = true)
    {K : Nat → Prop} {xs : List (List Value)} (hit : Iter C.P f vs K C.w0 xs) (hK : ∀ b, K b → b < C.w0.heap.size ∧ ¬ C.S0 b) (hlen : ∀ x ∈ xs, x.length = ps.size)
    (Inv : List (List Value) → S → List (Nat × Blk) → Prop) (Stop : List (List Value) → S → Code → List (Nat × Blk) → Prop) (N : Nat)
    (h0 : List (Nat × Blk)) (hI0 : Inv [] s0 h0) (hin : inT σ.h h0)
    (hround : ∀ D l a0 rc wy fpy pre x s h, RoundIn ((C.withX (XS s)).marked D) lo t l wy fpy → pre ++ [x] <+: xs → Inv pre s h →
      Run (roundC ((C.withX (XS s)).marked D) lo a0 l rc .ready wy fpy (roundRX C XS D t a0 l rc wy fpy (Inv (pre ++ [x])) (Stop (pre ++ [x])))) [.code assign, .beginRound, .code body] ⟨parT (ps.toList.zip x) (tv ++ t), h, N⟩)
    (hdone : ∀ D s h, Inv xs s h → Run ((C.withX (XS s)).marked D) k ⟨tv ++ t, h, N⟩)
    (hstop : ∀ D pre s c h, pre <+: xs → Stop pre s c h → Run ((C.withX (XS s)).marked D) (.code c :: k) ⟨tv ++ t, h, N⟩) :
    Run C (.code (.rangeFunc g ps assign body) :: k) σ := by
  have hL : Local C.X := by rw [hX0]; exact hLS s0
  intro M fp a w hR cs
  let D := w.heap.size
  let l := w.heap.size + 1
  let rc : Loop := { state := .ready, pending := none, fn := C.b.fn, tmps := a.tmps, params := ps, assign, body, defers := D }
  let W1 : World := (w.alloc (.deferred (some []))).alloc (.loop rc)
  let y : Value := .func (.yield l) #[] #[]
  have he : (Instr.enterLoop C.b.fn a.tmps ps assign body C.b.roundOf).run C.P w = .ok (l, [mark D]) W1 := by rw [hro]; exact run_enterLoop_outer C.b.fn a.tmps ps assign body
  have hres : (resolve a.eval (rangeCall g l) 0).run C.P W1 = .ok { target := .fn (.func f) vs.toArray, args := #[y] } W1 := by
    simp [resolve, hR.q.ev hg, hz, Deferred.ofValue, y]
    rfl
  have hinv : (invoke (.fn (.func f) vs.toArray) #[y]).run C.P W1 = .ok (.enter f (y :: vs).toArray) W1 := by
    have : (#[y] ++ vs.toArray : Array Value) = (y :: vs).toArray := by simp
    simp only [invoke, this, hent _ _]
  have s1 := stepR_rangeFunc (P := C.P) (b := C.b) (a := a) (k := k) (cs := cs) (w := w) he hres hinv
  have hws : W1.heap.size = w.heap.size + 2 := by simp only [W1, World.size_alloc]
  have hold : ∀ b, b < w.heap.size → W1.heap[b]? = w.heap[b]? := by
    intro b hb
    simp only [W1]
    rw [old_alloc _ _ (by rw [World.size_alloc]; omega), old_alloc _ _ hb]
  have hD : W1.heap[D]? = some (.deferred (some [])) := by
    simp only [W1, D]
    rw [old_alloc _ _ (by rw [World.size_alloc]; omega)]
    exact World.alloc_heap_new _ _
  have hl : W1.heap[l]? = some (.loop rc) := by
    have := World.alloc_heap_new (w.alloc (.deferred (some []))) (.loop rc)
    rw [show (w.alloc (.deferred (some []))).heap.size = l by simp only [World.size_alloc, l]] at this
    exact this
  have hblk : ∀ id B, lk h0 id = some B → lk σ.h id = some B := fun id B hB => inT_lk hin id B hB
  let J : List (List Value) → Res := fun pre w fp => ∃ s h M fpX, Inv pre s h ∧ LoopJ ((C.withX (XS s)).marked D) t a.tmps l rc .ready none h M fpX w fp
  let Js : List (List Value) → Res := fun pre w fp => ∃ s c h M fpX, Stop pre s c h ∧ LoopJ ((C.withX (XS s)).marked D) t a.tmps l rc .done (some c) h M fpX w fp
  have hLm : ∀ s, Local ((C.withX (XS s)).marked D).X := fun s => markX_local (hLS s) D
  have hJl : ∀ pre, Local (J pre) := fun pre w w' fp ⟨s, h, M, fpX, h1, h2⟩ _ hs => ⟨s, h, M, fpX, h1, h2.moved (hLm s) hs⟩
  have hJsl : ∀ pre, Local (Js pre) := fun pre w w' fp ⟨s, c, h, M, fpX, h1, h2⟩ _ hs => ⟨s, c, h, M, fpX, h1, h2.moved (hLm s) hs⟩
  let fp1 : Foot := fun b => (fp b ∨ b = D) ∨ b = l ∨ ∃ id B, lk h0 id = some B ∧ (M id).1 = b
  have hfl : ∀ b, fp b → b < w.heap.size := fun b hb => (hR.fpok b hb).1
  have hml : ∀ id B, lk h0 id = some B → (M id).1 < w.heap.size := fun id B hB => (hR.heap _ _ (hblk _ _ hB)).lt
  have hwle : C.w0.heap.size ≤ w.heap.size := hR.agree.size
  have hfp1 : ∀ b, fp1 b → b < W1.heap.size ∧ (b < C.w0.heap.size → C.S0 b) := by
    intro b hb
    rw [hws]
    rcases hb with (hb | rfl) | rfl | ⟨id, B, hB, rfl⟩
    · exact ⟨by have := hfl b hb; omega, (hR.fpok b hb).2⟩
    · exact ⟨by simp only [D]; omega, fun h => by simp only [D] at h; omega⟩
    · exact ⟨by simp only [l]; omega, fun h => by simp only [l] at h; omega⟩
    · exact ⟨by have := hml _ _ hB; omega, hR.own _ _ (hblk _ _ hB)⟩
  have hW1 : Agree C.S0 C.w0 W1 := ⟨hR.agree.os, hR.agree.tape, hR.agree.output, by rw [hws]; omega, fun b hb hs => by rw [hold b (by omega)]; exact hR.agree.block b hb hs⟩
  have hJ0 : J [] W1 fp1 := by
    refine ⟨s0, h0, M, fun b => fp b ∨ b = D, hI0, ?_⟩
    refine { tmps := fun i x hx => hR.tmps i x (inT_lk htin i x hx), heap := ?_, inj := ?_, own := ?_, apart := ?_, outer := ?_, fpok := ?_, rc := hl, lX := ?_, lnew := ?_, foot := fun b => Iff.rfl }
    · exact fun id B hB => (hR.heap _ _ (hblk _ _ hB)).same (hold _ (hml _ _ hB))
    · exact fun id id' B B' hB hB' e => hR.inj _ _ _ _ (hblk _ _ hB) (hblk _ _ hB') e
    · exact fun id B hB => hR.own _ _ (hblk _ _ hB)
    · intro id B hB
      have := hml _ _ hB
      refine ⟨fun hf => ?_, fun e => by simp only [l] at e; omega⟩
      rcases hf with hf | hf
      · exact hR.apart _ _ (hblk _ _ hB) hf
      · simp only [D] at hf; omega
    · exact ⟨fp, hX0 ▸ hL w W1 fp hR.outer hfl (fun b hb => hold b (hfl b hb)), fun hf => Nat.lt_irrefl _ (hfl _ hf), hD, fun b => Iff.rfl⟩
    · intro b hb
      exact hfp1 b (.inl hb)
    · intro hf
      rcases hf with hf | hf
      · have := hfl _ hf; simp only [l] at this; omega
      · simp only [l, D] at hf; omega
    · show C.w0.heap.size ≤ l
      simp only [l]; omega
  have hvt : ∀ M' : Loc, (∀ i x, lk t i = some x → a.tmps[i]? = some (conc M' x)) → ∀ i x, lk (tv ++ t) i = some x → a.tmps[i]? = some (conc M' x) := fun M' h i x hx => by
    rw [lkA] at hx
    split at hx
    · rename_i z hz
      cases hx
      rw [plainT_lk hvp hz M' M]
      exact hR.tmps i x (inT_lk hvin i x hz)
    · exact h i x hx
  have hys : ∀ pre x, pre ++ [x] <+: xs → Yields C.P y J Js W1 fp1 pre x := by
    intro pre x hpx wy fpy hJy hgr
    obtain ⟨sx, h, M', fpX, hinvp, hJ⟩ := hJy
    have hx : x.length = ps.size := hlen x (hpx.subset (by simp))
    have hag : Agree C.S0 C.w0 wy := hW1.trans hgr.1 (fun i hi hl => (hfp1 i hi).2 hl)
    have hfy : ∀ b, fpy b → b < C.w0.heap.size → C.S0 b := fun b hb hlt => (hfp1 b ((hgr.2 b hb).2 (by have := hW1.size; omega))).2 hlt
    have hrun := run_yield (P := C.P) (args := x.toArray) hJ.rc (by simpa using hx)
    refine ⟨{ target := .fn (.yield l) #[], args := x.toArray }, _, by simp [Deferred.ofValue, y], by simp only [invoke]; exact hrun, ?_⟩
    intro c cs'
    have hpr := parT_run (M := M') (lo := lo) (ps.toList.zip x) (tv ++ t) a.tmps (fun q hq => by
      have := psOK_mem hps q.1 (List.of_mem_zip hq).1
      rw [hR.size]; exact this) (hvt M' hJ.tmps)
    have htm : (ps.zip x.toArray).foldl (fun tmps (q : Nat × Value) => tmps.setIfInBounds q.1 q.2) a.tmps = (ps.toList.zip x).foldl (fun tm q => tm.setIfInBounds q.1 q.2) a.tmps := by
      rw [← Array.foldl_toList]; simp
    let a' : Act := { tmps := (ps.toList.zip x).foldl (fun tm q => tm.setIfInBounds q.1 q.2) a.tmps, defers := [] }
    have hI : RoundIn ((C.withX (XS sx)).marked D) lo t l wy fpy := ⟨hLm sx, (hJ.foot l).2 (.inr (.inl rfl)), hag, hfy, hJ.lnew, hlo⟩
    have hrel : Rel (roundC ((C.withX (XS sx)).marked D) lo a.tmps l rc .ready wy fpy (roundRX C XS D t a.tmps l rc wy fpy (Inv (pre ++ [x])) (Stop (pre ++ [x])))) M' (fun b => fpX b ∨ b = l) ⟨parT (ps.toList.zip x) (tv ++ t), h, N⟩ a' wy := by
      refine { heap := hJ.heap, inj := hJ.inj, own := ?_, apart := ?_, agree := Agree.refl _ _, outer := ⟨fpX, hJ.outer, hJ.lX, hJ.rc, fun b => Iff.rfl⟩, fpok := ?_, size := ?_, frozen := hpr.2.1, tmps := hpr.2.2, defers := rfl }
      · exact fun id B hB _ => (hJ.foot _).2 (.inr (.inr ⟨id, B, hB, rfl⟩))
      · exact fun id B hB hf => hf.elim (hJ.apart _ _ hB).1 (hJ.apart _ _ hB).2
      · intro b hb
        have hb' : fpy b := (hJ.foot b).2 (hb.imp id .inl)
        exact ⟨(hgr.2 b hb').1, fun _ => hb'⟩
      · show a'.tmps.size = C.n.hi
        simp only [a']; rw [hpr.1, hR.size]
    obtain ⟨m, s, zz⟩ := hround D l a.tmps rc wy fpy pre x sx h hI hpx hinvp M' _ a' wy hrel (c :: cs')
    obtain ⟨v, w', rfl, fp', hg', hv⟩ := zz c cs' rfl
    refine ⟨v, w', ⟨fp', hg', ?_⟩, ?_⟩
    · rcases hv with ⟨hv, hh⟩ | ⟨hv, hh⟩
      · exact .inl ⟨hv, hh⟩
      · exact .inr ⟨hv, hh⟩
    · have hfr : Frame.round l C.b.fn ((ps.zip x.toArray).foldl (fun tmps (q : Nat × Value) => tmps.setIfInBounds q.1 q.2) a.tmps) assign body .normal =
          (roundC ((C.withX (XS sx)).marked D) lo a.tmps l rc .ready wy fpy (roundRX C XS D t a.tmps l rc wy fpy (Inv (pre ++ [x])) (Stop (pre ++ [x])))).b.atR a' [.code assign, .beginRound, .code body] := by
        rw [htm]; simp [Frame.round, Frame.atR, roundC, Ctx.marked, a']
      exact hfr ▸ s
  have hcall := hit y J Js W1 fp1 hJl hJsl hys hJ0 (fun b hb => (hfp1 b hb).1) (fun b hb hk => (hK b hk).2 ((hfp1 b hb).2 (hK b hk).1))
    ⟨hW1.os, hW1.tape, hW1.output, hW1.size, fun b hb hk => hW1.block b hb (fun hs => by
      have : K b := Classical.byContradiction hk
      exact (hK b this).2 hs)⟩
  obtain ⟨e, w', fr, ⟨v, rfl, fp', hgr, hend⟩, hsteps, _, hleave⟩ := hcall (C.b.atR { a with defers := [mark D] ++ a.defers } (.inRangeFunc l :: k) :: cs)
  have s2 := step_leave_returned (c := C.b.atR { a with defers := [mark D] ++ a.defers } (.inRangeFunc l :: k)) (cs := cs) hleave
  rw [finish_atR_inRangeFunc] at s2
  have hag : Agree C.S0 C.w0 w' := hW1.trans hgr.1 (fun i hi hl => (hfp1 i hi).2 hl)
  have key : ∀ (sx : S) (st : LoopState) (pd : Option Code) (h : List (Nat × Blk)) (M' : Loc) (fpX : Foot), st ≠ .busy → LoopJ ((C.withX (XS sx)).marked D) t a.tmps l rc st pd h M' fpX w' fp' →
      Run ((C.withX (XS sx)).marked D) ((pd.map Item.code).toList ++ k) ⟨tv ++ t, h, N⟩ → ∃ m, Steps C.P (lone (C.b.atR a (.code (.rangeFunc g ps assign body) :: k)) cs w) m ∧ C.Z cs m := by
    intro sx st pd h M' fpX hst hJ hr
    obtain ⟨k1, k2, k3⟩ := hJ.record (hLm sx) (o := .loop { rc with state := .exhausted, pending := pd })
    have hrel : Rel ((C.withX (XS sx)).marked D) M' fpX ⟨tv ++ t, h, N⟩ { a with defers := [mark D] ++ a.defers } (w'.putObj l (.loop { rc with state := .exhausted, pending := pd })) := by
      refine { heap := k1, inj := hJ.inj, own := hJ.own, apart := fun id B hB => (hJ.apart _ _ hB).1, agree := ?_, outer := k2, fpok := k3, size := hR.size, frozen := hR.frozen, tmps := hvt M' hJ.tmps, defers := ?_ }
      · refine agree_putObj hag (fun h => ?_)
        have : C.w0.heap.size ≤ l := hJ.lnew
        exact absurd (show l < C.w0.heap.size from h) (by omega)
      · show [mark D] ++ a.defers = mark D :: C.ds
        rw [hR.defers]; rfl
    obtain ⟨m, s, zz⟩ := hr M' fpX _ _ hrel cs
    have s3 := stepR_endRangeFunc (P := C.P) (b := C.b) (a := { a with defers := [mark D] ++ a.defers }) (k := k) (cs := cs) (run_endLoop (P := C.P) hJ.rc hst)
    exact ⟨m, .head s1 (Steps.trans hsteps (.head s2 (.head s3 s))), zz⟩
  rcases hend with ⟨sx, h, M', fpX, hI, hJ⟩ | ⟨pre, hpre, sx, c, h, M', fpX, hS, hJ⟩
  · exact key sx .ready none h M' fpX (by simp) hJ (hdone D sx h hI)
  · exact key sx .done (some c) h M' fpX (by simp) hJ (hstop D pre sx c h hpre hS)


/-- A round may end in more ways. -/
theorem Run.roundMono {C : Ctx} {lo : Nat} {a0 : Array Value} {l : Nat} {rc : Loop} {st : LoopState} {wy : World} {fpy : Foot} {Rr Rr' : Value → World → Prop} {todo : List Item} {σ : St} (h : ∀ v w, Rr v w → Rr' v w)
    (hr : Run (roundC C lo a0 l rc st wy fpy Rr) todo σ) : Run (roundC C lo a0 l rc st wy fpy Rr') todo σ := fun M fp a w hR cs => by
  obtain ⟨m, s, z⟩ := hr M fp a w { heap := hR.heap, inj := hR.inj, own := hR.own, apart := hR.apart, agree := hR.agree, outer := hR.outer, fpok := hR.fpok, size := hR.size, frozen := hR.frozen, tmps := hR.tmps, defers := hR.defers } cs
  refine ⟨m, s, fun c cs' e => ?_⟩
  obtain ⟨v, w', e1, h1⟩ := z c cs' e
  exact ⟨v, w', e1, h _ _ h1⟩
theorem roundRX_of {S : Type} {C : Ctx} {XS : S → Res} {D : Nat} {t : List (Nat × AV)} {a0 : Array Value} {l : Nat} {rc : Loop} {wy : World} {fpy : Foot} {Next : S → List (Nat × Blk) → Prop} {Stop : S → Code → List (Nat × Blk) → Prop} (s : S) :
    ∀ v w, roundR ((C.withX (XS s)).marked D) t a0 l rc wy fpy (Next s) (Stop s) v w → roundRX C XS D t a0 l rc wy fpy Next Stop v w := by
  rintro v w ⟨fp', hg, ⟨hv, h⟩ | ⟨hv, c, h⟩⟩
  · exact ⟨fp', hg, .inl ⟨hv, s, h⟩⟩
  · exact ⟨fp', hg, .inr ⟨hv, s, c, h⟩⟩
end Go.AM

/-
  The abstract machine, thirty-fourth part: function values that turn the outer part, called in rounds; a run begun anew where some blocks are given up. Own work; over any program.
-/
namespace Go.AM
open Go.RowKit

/-- A later base of the same run. -/
structure Base (S : Foot) (w : World) (S1 : Foot) (w1 : World) : Prop where
  agree : Agree S w w1
  old : ∀ b, S1 b → b < w.heap.size → S b

theorem Base.refl (S : Foot) (w : World) : Base S w S w := ⟨Agree.refl _ _, fun _ h _ => h⟩

theorem Base.trans {S S1 S2 : Foot} {w w1 w2 : World} (h : Base S w S1 w1) (k : Base S1 w1 S2 w2) : Base S w S2 w2 :=
  ⟨h.agree.trans k.agree (fun i hi hl => h.old i hi hl), fun b hb hl => h.old b (k.old b hb (Nat.lt_of_lt_of_le hl h.agree.size)) hl⟩

theorem Base.grown {S S1 fp' : Foot} {w w1 w' : World} (h : Base S w S1 w1) (k : Grown S1 w1 fp' w') : Grown S w fp' w' :=
  ⟨h.agree.trans k.1 (fun i hi hl => h.old i hi hl), fun b hb => ⟨(k.2 b hb).1, fun hl => h.old b ((k.2 b hb).2 (Nat.lt_of_lt_of_le hl h.agree.size)) hl⟩⟩

theorem Base.call {S S1 S3 : Foot} {w w1 w2 w3 : World} (h : Base S w S1 w1) (k : Agree S1 w1 w2) (l : Agree (fun _ => False) w2 w3) (hs : Since w1 S1 w2 S3) : Base S w S3 w3 :=
  ⟨(h.agree.trans k (fun i hi hl => h.old i hi hl)).trans l (fun _ f _ => f.elim), fun b hb hl => h.old b (Classical.byContradiction fun hn => hs.old b (Nat.lt_of_lt_of_le hl h.agree.size) hn hb) hl⟩

theorem RoundIn.base {C : Ctx} {lo : Nat} {t : List (Nat × AV)} {l : Nat} {wy : World} {fpy : Foot} (h : RoundIn C lo t l wy fpy) : Base C.S0 C.w0 fpy wy := ⟨h.w0, h.fy⟩

theorem Based.base {w0 w1 w2 : World} {S S2 : Foot} (h : Based w0 w1 S) (k : Base S w1 S2 w2) : Based w0 w2 S2 :=
  ⟨h.later k.agree, fun b hb => by
    rcases Nat.lt_or_ge b w1.heap.size with hl | hl
    · exact h.new b (k.old b hb hl)
    · exact Nat.le_trans h.agree.size hl⟩

/-- What a call of a function value does to the outer part. -/
def Does (P : Program) (y : Value) (x : List Value) (X : Res) (Q : Value → Res) (S : Foot) (w0 : World) : Prop :=
  ∀ w fp, X w fp → Grown S w0 fp w → CallsV P y x w fun v w' => ∃ fp', Grown fp w fp' w' ∧ Q v w' fp'

section
variable {P : Program} {y : Value} {x : List Value} {X : Res} {Q : Value → Res} {S S1 : Foot} {w0 w1 : World}

theorem Does.at (h : Does P y x X Q S w0) (hb : Base S w0 S1 w1) : Does P y x X Q S1 w1 := fun w fp hX hg => h w fp hX (hb.grown hg)

theorem Does.mark (h : Does P y x X Q S w0) (D : Nat) : Does P y x (markX X D) (fun v => markX (Q v) D) S w0 := by
  rintro w fp ⟨fpX, h1, h2, h3, h4⟩ hg
  refine (h w fpX h1 ⟨hg.1, fun b hb => hg.2 b ((h4 b).2 (.inl hb))⟩).mono fun v w' ⟨fp', k, q⟩ => ?_
  have hD : D < w.heap.size := (Array.getElem?_eq_some_iff.1 h3).1
  have hD' : ¬ fp' D := fun hf => h2 ((k.2 D hf).2 hD)
  refine ⟨fun b => fp' b ∨ b = D, ⟨⟨k.1.os, k.1.tape, k.1.output, k.1.size, fun b hb hs => k.1.block b hb (fun hf => hs ((h4 b).2 (.inl hf)))⟩, ?_⟩, fp', q, hD', ?_, fun b => Iff.rfl⟩
  · rintro b (hb | rfl)
    · exact ⟨(k.2 b hb).1, fun hl => (h4 b).2 (.inl ((k.2 b hb).2 hl))⟩
    · exact ⟨Nat.lt_of_lt_of_le hD k.1.size, fun _ => (h4 b).2 (.inr rfl)⟩
  · rw [k.1.block D hD h2]; exact h3

theorem Does.round (h : Does P y x X Q S w0) (l : Nat) (rc : Loop) (st : LoopState) : Does P y x (roundX X l rc st) (fun v => roundX (Q v) l rc st) S w0 := by
  rintro w fp ⟨fpX, h1, h2, h3, h4⟩ hg
  refine (h w fpX h1 ⟨hg.1, fun b hb => hg.2 b ((h4 b).2 (.inl hb))⟩).mono fun v w' ⟨fp', k, q⟩ => ?_
  have hD : l < w.heap.size := (Array.getElem?_eq_some_iff.1 h3).1
  have hD' : ¬ fp' l := fun hf => h2 ((k.2 l hf).2 hD)
  refine ⟨fun b => fp' b ∨ b = l, ⟨⟨k.1.os, k.1.tape, k.1.output, k.1.size, fun b hb hs => k.1.block b hb (fun hf => hs ((h4 b).2 (.inl hf)))⟩, ?_⟩, fp', q, hD', ?_, fun b => Iff.rfl⟩
  · rintro b (hb | rfl)
    · exact ⟨(k.2 b hb).1, fun hl => (h4 b).2 (.inl ((k.2 b hb).2 hl))⟩
    · exact ⟨Nat.lt_of_lt_of_le hD k.1.size, fun _ => (h4 b).2 (.inr rfl)⟩
  · rw [k.1.block l hD h2]; exact h3

def marksX (X : Res) : List Nat → Res
  | [] => X
  | D :: Ds => markX (marksX X Ds) D

theorem marksX_local (hX : Local X) : ∀ Ds : List Nat, Local (marksX X Ds)
  | [] => hX
  | D :: Ds => markX_local (marksX_local hX Ds) D

theorem Does.marks (h : Does P y x X Q S w0) : ∀ Ds : List Nat, Does P y x (marksX X Ds) (fun v => marksX (Q v) Ds) S w0
  | [] => h
  | D :: Ds => (Does.marks h Ds).mark D

theorem marksX_mono {X X' : Res} (h : ∀ w fp, X w fp → X' w fp) : ∀ (Ds : List Nat) w fp, marksX X Ds w fp → marksX X' Ds w fp
  | [], w, fp, hX => h w fp hX
  | D :: Ds, w, fp, ⟨fpX, h1, h2⟩ => ⟨fpX, marksX_mono h Ds w fpX h1, h2⟩

theorem marksX_ex {X : Res} : ∀ (Ds : List Nat) w fp, marksX X Ds w fp → ∃ fp', X w fp'
  | [], w, fp, hX => ⟨fp, hX⟩
  | D :: Ds, w, _, ⟨fpX, h1, _⟩ => marksX_ex Ds w fpX h1
end

/-- A function's surroundings behind some ranges, opened. -/
abbrev opM (P : Program) (f : FuncId) (lo n : Nat) (t0 : Array Value) (w : World) (S0 : Foot) (X : Res) (R : Value → World → Prop) (Ds : List Nat) : Ctx :=
  { fnC P f n w S0 (marksX X Ds) R with ds := Ds.map mark, n := ⟨lo, n⟩, t0 := t0 }

theorem opM_eq {P : Program} {f : FuncId} {n : Nat} {w : World} {S0 : Foot} {X : Res} {R : Value → World → Prop} : ∀ Ds : List Nat, opM P f 0 n #[] w S0 X R Ds = fnM P f n w S0 X R Ds
  | [] => rfl
  | D :: Ds => by
    show (opM P f 0 n #[] w S0 X R Ds).marked D = (fnM P f n w S0 X R Ds).marked D
    rw [opM_eq Ds]

theorem Run.thaw (C : Ctx) {lo hi lo' : Nat} {t0 t0' : Array Value} {todo : List Item} {σ : St} (hlo : lo' = 0) (h : Run { C with n := ⟨lo', hi⟩, t0 := t0' } todo σ) : Run { C with n := ⟨lo, hi⟩, t0 := t0 } todo σ := fun M fp a w hR cs =>
  h M fp a w { heap := hR.heap, inj := hR.inj, own := hR.own, apart := hR.apart, agree := hR.agree, outer := hR.outer, fpok := hR.fpok, size := hR.size, frozen := fun i hi => absurd (show i < lo' from hi) (by omega), tmps := hR.tmps, defers := hR.defers } cs

/-- A call of a function value that turns the outer part. -/
theorem Run.ask {C : Ctx} {k : List Item} {σ : St} {ops : Array Oper} {i : Nat} {rest : List Nat} {o : Oper} {c : Call} {g : Operand} {y : Value} {xs : List AV} {x : List Value} {Q : Value → Res}
    (hy : Does C.P y x C.X Q C.S0 C.w0)
    (ho : ops[i]? = some o) (hop : o.op = .call c) (hc : c.callee = .value g) (hg : σ.ev g = some (.v y)) (hxs : evs σ c.args.toList = some xs) (hx : toVs xs = some x) (hw : wantOf ops σ o = some .yes) (hd : dstOK C.n o.dst = true)
    (h : ∀ v w fp, Q v w fp → ∃ z X', (∀ M, conc M z = v) ∧ X' w fp ∧ Run (C.withX X') (.inRegion ops rest :: k) (σ.put o.dst z)) : Run C (.inRegion ops (i :: rest) :: k) σ := by
  refine Run.callV ho hop hc hg hxs hw fun M fp a w hR => ?_
  rw [toVs_conc hx]
  refine (hy w fp hR.outer ⟨hR.agree, hR.fpok⟩).mono fun v w' ⟨fp', hgr, hv⟩ cs => ?_
  obtain ⟨z, X', hz, hX', hr⟩ := h v w' fp' hv
  have := hr M fp' _ w' ((hR.grown hgr hX').put (C := C.withX X') (z := z) (dstOK_lt hd)) cs
  rwa [hz] at this

/-- The same in a round. -/
theorem Run.askRound {P : Program} {f : FuncId} {lo lo1 n l : Nat} {t0 a0 : Array Value} {w0 wy : World} {S0 fpy : Foot} {X : Res} {R Rr : Value → World → Prop} {Ds : List Nat} {rc : Loop} {k : List Item} {σ : St} {ops : Array Oper} {i : Nat} {rest : List Nat} {o : Oper} {c : Call} {g : Operand} {y : Value} {xs : List AV} {x : List Value} {Q : Value → Res}
    (hy : Does P y x X Q fpy wy)
    (ho : ops[i]? = some o) (hop : o.op = .call c) (hc : c.callee = .value g) (hg : σ.ev g = some (.v y)) (hxs : evs σ c.args.toList = some xs) (hx : toVs xs = some x) (hw : wantOf ops σ o = some .yes) (hd : dstOK ⟨lo1, n⟩ o.dst = true)
    (h : ∀ v w fp, Q v w fp → ∃ z X', (∀ M, conc M z = v) ∧ (∀ w fp, Q v w fp → X' w fp) ∧ Run (roundC (opM P f lo n t0 w0 S0 X' R Ds) lo1 a0 l rc .busy wy fpy Rr) (.inRegion ops rest :: k) (σ.put o.dst z)) :
    Run (roundC (opM P f lo n t0 w0 S0 X R Ds) lo1 a0 l rc .busy wy fpy Rr) (.inRegion ops (i :: rest) :: k) σ := by
  refine Run.ask (Q := fun v => roundX (marksX (Q v) Ds) l rc .busy) ((hy.marks Ds).round l rc .busy) ho hop hc hg hxs hx hw hd ?_
  rintro v w fp ⟨fpX, h1, h2, h3, h4⟩
  obtain ⟨fp1, hq⟩ := marksX_ex Ds w fpX h1
  obtain ⟨z, X', hz, hm, hr⟩ := h v w fp1 hq
  exact ⟨z, roundX (marksX X' Ds) l rc .busy, hz, ⟨fpX, marksX_mono hm Ds w fpX h1, h2, h3, h4⟩, hr⟩

/-- A range over an iterator in an iterator: the outer part turns. -/
theorem Run.rangeFnM {P : Program} {fu : FuncId} {lo0 n : Nat} {t0 : Array Value} {w0 : World} {S0 : Foot} {R : Value → World → Prop} {Ds : List Nat} {S : Type} (XS : S → Res) (hLS : ∀ s, Local (XS s)) (s0 : S) {k : List Item} {σ : St} {g : Operand} {ps : Array Tmp} {assign body : Code} {f : FuncId} {vs : List Value} {z : AV}
    (hg : σ.ev g = some z) (hz : ∀ M, conc M z = .func (.func f) #[] vs.toArray) (hent : Enters P f)
    (lo : Nat) (tv t : List (Nat × AV)) (hvin : inT σ.t tv) (hvp : plainT tv = true) (htin : inT σ.t t) (hlo : keysLt lo t = true) (hps : psOK lo n ps.toList = true)
    {K : Nat → Prop} {xs : List (List Value)} (hit : Iter P f vs K w0 xs) (hK : ∀ b, K b → b < w0.heap.size ∧ ¬ S0 b) (hlen : ∀ x ∈ xs, x.length = ps.size)
    (Inv : List (List Value) → S → List (Nat × Blk) → Prop) (Stop : List (List Value) → S → Code → List (Nat × Blk) → Prop) (N : Nat)
    (h0 : List (Nat × Blk)) (hI0 : Inv [] s0 h0) (hin : inT σ.h h0)
    (hround : ∀ D l a0 rc wy fpy pre x s h Rr, (∀ s', RoundIn (opM P fu lo0 n t0 w0 S0 (XS s') R (D :: Ds)) lo t l wy fpy) → pre ++ [x] <+: xs → Inv pre s h →
      (∀ s' v w', roundR (opM P fu lo0 n t0 w0 S0 (XS s') R (D :: Ds)) t a0 l rc wy fpy (Inv (pre ++ [x]) s') (Stop (pre ++ [x]) s') v w' → Rr v w') →
      Run (roundC (opM P fu lo0 n t0 w0 S0 (XS s) R (D :: Ds)) lo a0 l rc .ready wy fpy Rr) [.code assign, .beginRound, .code body] ⟨parT (ps.toList.zip x) (tv ++ t), h, N⟩)
    (hdone : ∀ D s h, Inv xs s h → Run (opM P fu lo0 n t0 w0 S0 (XS s) R (D :: Ds)) k ⟨tv ++ t, h, N⟩)
    (hstop : ∀ D pre s c h, pre <+: xs → Stop pre s c h → Run (opM P fu lo0 n t0 w0 S0 (XS s) R (D :: Ds)) (.code c :: k) ⟨tv ++ t, h, N⟩) :
    Run (opM P fu lo0 n t0 w0 S0 (XS s0) R Ds) (.code (.rangeFunc g ps assign body) :: k) σ := by
  refine Run.rangeFnX (fun s => marksX (XS s) Ds) (fun s => marksX_local (hLS s) Ds) s0 rfl rfl hg hz hent lo tv t hvin hvp htin hlo hps hit hK hlen Inv Stop N h0 hI0 hin ?_ ?_ ?_
  · intro D l a0 rc wy fpy pre x s h hI hp hinv
    refine hround D l a0 rc wy fpy pre x s h _ (fun s' => ⟨markX_local (marksX_local (hLS s') Ds) D, hI.lw, hI.w0, hI.fy, hI.ln, hI.lo⟩) hp hinv fun s' v w' hr => ?_
    exact roundRX_of s' v w' hr
  · exact hdone
  · exact hstop

/-- An iterator's return behind ranges. -/
theorem Run.retIM {P : Program} {T : Tab} (hT : tabOK P T) {f : FuncId} {fn : Func} {lo n : Nat} {t0 : Array Value} {w0 : World} {S0 : Foot} {X : Res} (hX : Local X) {R : Value → World → Prop} {σ : St} {k : List Item} {Ds : List Nat}
    (hf : P.funcs[f]? = some fn) (hres : fn.results = #[]) (hR : ∀ v w' fp', Grown S0 w0 fp' w' → X w' fp' → R v w') : Run (opM P f lo n t0 w0 S0 X R Ds) (.code .ret :: k) σ := by
  refine Run.thaw (opM P f 0 n #[] w0 S0 X R Ds) (hi := n) (lo' := 0) (t0' := #[]) rfl ?_
  show Run (opM P f 0 n #[] w0 S0 X R Ds) (.code .ret :: k) σ
  rw [opM_eq]
  exact Run.retM (p := True) (l := []) hT hX hf (by rw [hres]; rfl) trivial fun M fp a w hr => hR _ w fp ⟨hr.agree, hr.fpok⟩ hr.outer

theorem Run.finIM {P : Program} {T : Tab} (hT : tabOK P T) {f : FuncId} {fn : Func} {lo n : Nat} {t0 : Array Value} {w0 : World} {S0 : Foot} {X : Res} (hX : Local X) {R : Value → World → Prop} {σ : St} {Ds : List Nat}
    (hf : P.funcs[f]? = some fn) (hres : fn.results = #[]) (hR : ∀ v w' fp', Grown S0 w0 fp' w' → X w' fp' → R v w') : Run (opM P f lo n t0 w0 S0 X R Ds) [] σ := by
  refine Run.thaw (opM P f 0 n #[] w0 S0 X R Ds) (hi := n) (lo' := 0) (t0' := #[]) rfl ?_
  show Run (opM P f 0 n #[] w0 S0 X R Ds) [] σ
  rw [opM_eq]
  exact Run.finM (p := True) (l := []) hT hX hf (by rw [hres]; rfl) trivial fun M fp a w hr => hR _ w fp ⟨hr.agree, hr.fpok⟩ hr.outer

/-- One cell of any type of one cell, loaded out of old memory. -/
theorem Run.loadExt {C : Ctx} {ops : Array Oper} {i : Nat} {rest : List Nat} {k : List Item} {σ : St} {o : Oper} {T : Tab} {t : Nat} {ti : TI} {a : Addr} {v : Value} {x : Operand}
    (hT : tabOK C.P T) (ho : ops[i]? = some o) (hop : o.op = .load t x) (hx : σ.ev x = some (.v (.pointer (some a)))) (hi : lk T t = some ti) (h1 : oneCellTy ti.d = true) (hc : C.w0.cell? a = some v) (hs : ¬ C.S0 a.block)
    (hw : wantOf ops σ o = some .yes) (hd : dstOK C.n o.dst = true) (h : Run C (.inRegion ops rest :: k) (σ.put o.dst (.v v))) : Run C (.inRegion ops (i :: rest) :: k) σ := by
  intro M fp ac w hR cs
  obtain ⟨m, s, z'⟩ := h M fp _ w (hR.put (z := .v v) (dstOK_lt hd)) cs
  refine ⟨m, .head (step_value ho (wantOf_yes hR.q hw) (fun c e => by rw [hop] at e; cases e) ?_) s, z'⟩
  have h2 := hR.q.ev hx
  simp only [conc] at h2
  have h3 := run_loadVar_one (w := w) hT hi h1 (hR.agree.cell hc hs)
  simp [execOp, hop, h2, Instr.loadAt, Instr.sureAddr, conc, h3]

/-! ### A run begun anew; some blocks are given up -/

def inTM (M : Loc) (t : List (Nat × AV)) : List (Nat × AV) → Prop
  | [] => True
  | (i, x) :: r => (∃ y, lk t i = some y ∧ conc M y = conc M x) ∧ inTM M t r

theorem inTM_lk {M : Loc} {t : List (Nat × AV)} : ∀ {l : List (Nat × AV)} {i : Nat} {x : AV}, inTM M t l → lk l i = some x → ∃ y, lk t i = some y ∧ conc M y = conc M x
  | [], i, x, _, h => by cases h
  | (j, z) :: r, i, x, hb, h => by
    simp only [lk] at h
    split at h
    · rename_i he
      have e := Nat.eq_of_beq_eq_true he
      subst e; cases h
      exact hb.1
    · exact inTM_lk hb.2 h

theorem Run.anew {C : Ctx} {todo : List Item} {σ : St} (lo : Nat) (T' : Loc → List (Nat × AV)) (h' : List (Nat × Blk)) (nx : Nat) (ht : ∀ M, inTM M σ.t (T' M)) (hh : inT σ.h h')
    (h : ∀ M w S1 t0, Base C.S0 C.w0 S1 w → (∀ id B, lk σ.h id = some B → BlkAt M w id B) → (∀ id B, lk σ.h id = some B → lk h' id = none → ¬ S1 (M id).1) →
      (∀ i x, lk σ.t i = some x → t0[i]? = some (conc M x)) → Run { C with w0 := w, S0 := S1, n := ⟨lo, C.n.hi⟩, t0 := t0 } todo ⟨T' M, h', nx⟩) : Run C todo σ := by
  intro M fp a w hR cs
  have hk : ∀ id B, lk h' id = some B → lk σ.h id = some B := fun id B hB => inT_lk hh id B hB
  refine h M w (fun b => fp b ∨ ∃ id B, lk h' id = some B ∧ (M id).1 = b) a.tmps ⟨hR.agree, ?_⟩ hR.heap ?_ hR.tmps M fp a w ?_ cs
  · rintro b (hb | ⟨id, B, hB, rfl⟩) hl
    · exact (hR.fpok b hb).2 hl
    · exact hR.own _ _ (hk _ _ hB) hl
  · rintro id B hB hn (hf | ⟨id', B', hB', e⟩)
    · exact hR.apart _ _ hB hf
    · have := hR.inj _ _ _ _ (hk _ _ hB') hB e
      subst this
      rw [hB'] at hn; cases hn
  · refine { heap := fun id B hB => hR.heap _ _ (hk _ _ hB), inj := fun id id' B B' hB hB' e => hR.inj _ _ _ _ (hk _ _ hB) (hk _ _ hB') e, own := fun id B hB _ => .inr ⟨id, B, hB, rfl⟩,
             apart := fun id B hB => hR.apart _ _ (hk _ _ hB), agree := Agree.refl _ _, outer := hR.outer, fpok := fun b hb => ⟨(hR.fpok b hb).1, fun _ => .inl hb⟩, size := hR.size, frozen := fun i _ => rfl,
             tmps := fun i x hx => ?_, defers := hR.defers }
    obtain ⟨y, hy, e⟩ := inTM_lk (ht M) hx
    rw [hR.tmps i y hy, e]
end Go.AM

/-
  The abstract machine, thirty-seventh part: a range over an iterator that hands over blocks, of which the outer part takes some; blocks given to the outer part. Own work; over any program.
-/
namespace Go.AM
open Go.RowKit

theorem Run.rangeFnHX {α : Type} {C : Ctx} {S : Type} (XS : S → Res) (hLS : ∀ s, Local (XS s)) (s0 : S) (hX0 : C.X = XS s0) {k : List Item} {σ : St} {g : Operand} {p : Tmp} {assign body : Code} {f : FuncId} {vs : List Value} {z : AV}
    (hro : C.b.roundOf = none) (hg : σ.ev g = some z) (hz : ∀ M, conc M z = .func (.func f) #[] vs.toArray) (hent : Enters C.P f)
    (lo : Nat) (t : List (Nat × AV)) (htin : inT σ.t t) (hlo : keysLt lo t = true) (hp : Nat.ble lo p = true) (hp2 : Nat.blt p C.n.hi = true)
    {K : Nat → Prop} {xs : List α} {zf : α → AV} {hf : α → List (Nat × Blk)} (hit : IterH C.P f vs K C.w0 xs zf hf) (hK : ∀ b, K b → b < C.w0.heap.size ∧ ¬ C.S0 b)
    (Inv : List α → S → List (Nat × Blk) → Prop) (Stop : List α → S → Code → List (Nat × Blk) → Prop) (N m : Nat)
    (htb : tBelow N t = true) (hib : ∀ pre s h, Inv pre s h → hBelow N h = true) (hfge : ∀ x ∈ xs, hGe N m (hf x) = true) (hzge : ∀ x ∈ xs, (zf x).ge N = true)
    (h0 : List (Nat × Blk)) (hI0 : Inv [] s0 h0) (hin : inT σ.h h0)
    (hround : ∀ D l a0 rc wy fpy pre x s h, (∀ s', RoundIn ((C.withX (XS s')).marked D) lo t l wy fpy) → pre ++ [x] <+: xs → Inv pre s h →
      Run (roundC ((C.withX (XS s)).marked D) lo a0 l rc .ready wy fpy (roundRX C XS D t a0 l rc wy fpy (Inv (pre ++ [x])) (Stop (pre ++ [x])))) [.code assign, .beginRound, .code body] ⟨(p, zf x) :: t, hf x ++ h, m⟩)
    (hdone : ∀ D s h, Inv xs s h → Run ((C.withX (XS s)).marked D) k ⟨t, h, N⟩)
    (hstop : ∀ D pre s c h, pre <+: xs → Stop pre s c h → Run ((C.withX (XS s)).marked D) (.code c :: k) ⟨t, h, N⟩) :
    Run C (.code (.rangeFunc g #[p] assign body) :: k) σ := by
  have hL : Local C.X := by rw [hX0]; exact hLS s0
  intro M fp a w hR cs
  let D := w.heap.size
  let l := w.heap.size + 1
  let rc : Loop := { state := .ready, pending := none, fn := C.b.fn, tmps := a.tmps, params := #[p], assign, body, defers := D }
  let W1 : World := (w.alloc (.deferred (some []))).alloc (.loop rc)
  let y : Value := .func (.yield l) #[] #[]
  have he : (Instr.enterLoop C.b.fn a.tmps #[p] assign body C.b.roundOf).run C.P w = .ok (l, [mark D]) W1 := by rw [hro]; exact run_enterLoop_outer C.b.fn a.tmps #[p] assign body
  have hres : (resolve a.eval (rangeCall g l) 0).run C.P W1 = .ok { target := .fn (.func f) vs.toArray, args := #[y] } W1 := by
    simp [resolve, hR.q.ev hg, hz, Deferred.ofValue, y]
    rfl
  have hinv : (invoke (.fn (.func f) vs.toArray) #[y]).run C.P W1 = .ok (.enter f (y :: vs).toArray) W1 := by
    have : (#[y] ++ vs.toArray : Array Value) = (y :: vs).toArray := by simp
    simp only [invoke, this, hent _ _]
  have s1 := stepR_rangeFunc (P := C.P) (b := C.b) (a := a) (k := k) (cs := cs) (w := w) he hres hinv
  have hws : W1.heap.size = w.heap.size + 2 := by simp only [W1, World.size_alloc]
  have hold : ∀ b, b < w.heap.size → W1.heap[b]? = w.heap[b]? := by
    intro b hb
    rw [old_alloc _ _ (by rw [World.size_alloc]; omega), old_alloc _ _ hb]
  have hD : W1.heap[D]? = some (.deferred (some [])) := by
    rw [old_alloc _ _ (by rw [World.size_alloc]; omega)]
    exact World.alloc_heap_new _ _
  have hl : W1.heap[l]? = some (.loop rc) := by
    have := World.alloc_heap_new (w.alloc (.deferred (some []))) (.loop rc)
    rw [show (w.alloc (.deferred (some []))).heap.size = l by simp only [World.size_alloc, l]] at this
    exact this
  have hblk : ∀ id B, lk h0 id = some B → lk σ.h id = some B := fun id B hB => inT_lk hin id B hB
  let J : List α → Res := fun pre w fp => ∃ s h M fpX, Inv pre s h ∧ LoopJ ((C.withX (XS s)).marked D) t a.tmps l rc .ready none h M fpX w fp
  let Js : List α → Res := fun pre w fp => ∃ s c h M fpX, Stop pre s c h ∧ LoopJ ((C.withX (XS s)).marked D) t a.tmps l rc .done (some c) h M fpX w fp
  have hLm : ∀ s, Local ((C.withX (XS s)).marked D).X := fun s => markX_local (hLS s) D
  have hJl : ∀ pre, Local (J pre) := fun pre w w' fp ⟨s, h, M, fpX, h1, h2⟩ _ hs => ⟨s, h, M, fpX, h1, h2.moved (hLm s) hs⟩
  have hJsl : ∀ pre, Local (Js pre) := fun pre w w' fp ⟨s, c, h, M, fpX, h1, h2⟩ _ hs => ⟨s, c, h, M, fpX, h1, h2.moved (hLm s) hs⟩
  let fp1 : Foot := fun b => (fp b ∨ b = D) ∨ b = l ∨ ∃ id B, lk h0 id = some B ∧ (M id).1 = b
  have hfl : ∀ b, fp b → b < w.heap.size := fun b hb => (hR.fpok b hb).1
  have hml : ∀ id B, lk h0 id = some B → (M id).1 < w.heap.size := fun id B hB => (hR.heap _ _ (hblk _ _ hB)).lt
  have hwle : C.w0.heap.size ≤ w.heap.size := hR.agree.size
  have hfp1 : ∀ b, fp1 b → b < W1.heap.size ∧ (b < C.w0.heap.size → C.S0 b) := by
    intro b hb
    rw [hws]
    rcases hb with (hb | rfl) | rfl | ⟨id, B, hB, rfl⟩
    · exact ⟨by have := hfl b hb; omega, (hR.fpok b hb).2⟩
    · exact ⟨by simp only [D]; omega, fun h => by simp only [D] at h; omega⟩
    · exact ⟨by simp only [l]; omega, fun h => by simp only [l] at h; omega⟩
    · exact ⟨by have := hml _ _ hB; omega, hR.own _ _ (hblk _ _ hB)⟩
  have hW1 : Agree C.S0 C.w0 W1 := ⟨hR.agree.os, hR.agree.tape, hR.agree.output, by rw [hws]; omega, fun b hb hs => by rw [hold b (by omega)]; exact hR.agree.block b hb hs⟩
  have hJ0 : J [] W1 fp1 := by
    refine ⟨s0, h0, M, fun b => fp b ∨ b = D, hI0, ?_⟩
    refine { tmps := fun i x hx => hR.tmps i x (inT_lk htin i x hx), heap := ?_, inj := ?_, own := ?_, apart := ?_, outer := ?_, fpok := ?_, rc := hl, lX := ?_, lnew := ?_, foot := fun b => Iff.rfl }
    · exact fun id B hB => (hR.heap _ _ (hblk _ _ hB)).same (hold _ (hml _ _ hB))
    · exact fun id id' B B' hB hB' e => hR.inj _ _ _ _ (hblk _ _ hB) (hblk _ _ hB') e
    · exact fun id B hB => hR.own _ _ (hblk _ _ hB)
    · intro id B hB
      have := hml _ _ hB
      refine ⟨fun hf => ?_, fun e => by simp only [l] at e; omega⟩
      rcases hf with hf | hf
      · exact hR.apart _ _ (hblk _ _ hB) hf
      · simp only [D] at hf; omega
    · exact ⟨fp, hX0 ▸ hL w W1 fp hR.outer hfl (fun b hb => hold b (hfl b hb)), fun hf => Nat.lt_irrefl _ (hfl _ hf), hD, fun b => Iff.rfl⟩
    · intro b hb
      exact hfp1 b (.inl hb)
    · intro hf
      rcases hf with hf | hf
      · have := hfl _ hf; simp only [l] at this; omega
      · simp only [l, D] at hf; omega
    · show C.w0.heap.size ≤ l
      simp only [l]; omega
  have hys : ∀ pre x, pre ++ [x] <+: xs → YieldsH C.P y J Js W1 fp1 pre x (zf x) (hf x) := by
    intro pre x hpx wy fpy F v hJy hitem hFf hgr
    obtain ⟨sx, h, M', fpX, hinvp, hJ⟩ := hJy
    obtain ⟨Mi, hv, hbi, hji, hFi⟩ := hitem
    have hx := hpx.subset (show x ∈ pre ++ [x] by simp)
    have hge := hfge x hx
    have hzg := hzge x hx
    have hbel := hib _ _ _ hinvp
    have hag : Agree C.S0 C.w0 wy := hW1.trans hgr.1 (fun i hi hl => (hfp1 i hi).2 hl)
    let fpz : Foot := fun b => fpy b ∨ F b
    have hfy : ∀ b, fpz b → b < C.w0.heap.size → C.S0 b := fun b hb hlt => (hfp1 b ((hgr.2 b hb).2 (by have := hW1.size; omega))).2 hlt
    let M'' : Loc := fun i => if i < N then M' i else Mi i
    have hlow : ∀ i, i < N → M'' i = M' i := fun i hi => by simp only [M'', if_pos hi]
    have hhi : ∀ i, N ≤ i → M'' i = Mi i := fun i hi => by simp only [M'', if_neg (Nat.not_lt.2 hi)]
    have key : ∀ id B, lk (hf x ++ h) id = some B → (N ≤ id ∧ lk (hf x) id = some B) ∨ (id < N ∧ lk h id = some B) := by
      intro id B hB
      rw [lk_append] at hB
      split at hB
      · rename_i u hu
        cases hB
        exact .inl ⟨(hGe_lk hge hu).1, hu⟩
      · exact .inr ⟨(lkh_below hbel hB).1, hB⟩
    have hinF : ∀ id B, lk (hf x) id = some B → F (Mi id).1 := fun id B hB => (hFi _).2 ⟨id, B, hB, rfl⟩
    have hinY : ∀ id B, lk h id = some B → fpy (M' id).1 := fun id B hB => (hJ.foot _).2 (.inr (.inr ⟨id, B, hB, rfl⟩))
    have hrun := run_yield (P := C.P) (args := #[v]) hJ.rc (by simp [rc])
    refine ⟨{ target := .fn (.yield l) #[], args := #[v] }, _, by simp [Deferred.ofValue, y], by simp only [invoke]; exact hrun, ?_⟩
    intro c cs'
    have hpl : p < a.tmps.size := by rw [hR.size]; simpa using hp2
    let a' : Act := { tmps := a.tmps.setIfInBounds p v, defers := [] }
    have htm : (#[p].zip #[v]).foldl (fun tmps (q : Nat × Value) => tmps.setIfInBounds q.1 q.2) a.tmps = a.tmps.setIfInBounds p v := by simp
    have hI : ∀ s', RoundIn ((C.withX (XS s')).marked D) lo t l wy fpz := fun s' => ⟨hLm s', .inl ((hJ.foot l).2 (.inr (.inl rfl))), hag, hfy, hJ.lnew, hlo⟩
    have hrel : Rel (roundC ((C.withX (XS sx)).marked D) lo a.tmps l rc .ready wy fpz (roundRX C XS D t a.tmps l rc wy fpz (Inv (pre ++ [x])) (Stop (pre ++ [x])))) M'' (fun b => fpX b ∨ b = l) ⟨(p, zf x) :: t, hf x ++ h, m⟩ a' wy := by
      refine { heap := ?_, inj := ?_, own := ?_, apart := ?_, agree := Agree.refl _ _, outer := ⟨fpX, hJ.outer, hJ.lX, hJ.rc, fun b => Iff.rfl⟩, fpok := ?_, size := ?_, frozen := ?_, tmps := ?_, defers := rfl }
      · intro id B hB
        rcases key id B hB with ⟨h1, h2⟩ | ⟨h1, h2⟩
        · exact BlkAt.congrG hhi h1 (hGe_lk hge h2).2.2.1 (hbi id B h2)
        · exact BlkAt.congr hlow h1 (lkh_below hbel h2).2 rfl (hJ.heap id B h2)
      · intro id id' B B' hB hB' e
        rcases key id B hB with ⟨h1, h2⟩ | ⟨h1, h2⟩ <;> rcases key id' B' hB' with ⟨h3, h4⟩ | ⟨h3, h4⟩
        · rw [hhi id h1, hhi id' h3] at e; exact hji _ _ _ _ h2 h4 e
        · rw [hhi id h1, hlow id' h3] at e; exact (hFf _ (hinF _ _ h2) (e ▸ hinY _ _ h4)).elim
        · rw [hlow id h1, hhi id' h3] at e; exact (hFf _ (hinF _ _ h4) (e ▸ hinY _ _ h2)).elim
        · rw [hlow id h1, hlow id' h3] at e; exact hJ.inj _ _ _ _ h2 h4 e
      · intro id B hB _
        rcases key id B hB with ⟨h1, h2⟩ | ⟨h1, h2⟩
        · rw [hhi id h1]; exact .inr (hinF _ _ h2)
        · rw [hlow id h1]; exact .inl (hinY _ _ h2)
      · intro id B hB hf'
        rcases key id B hB with ⟨h1, h2⟩ | ⟨h1, h2⟩
        · rw [hhi id h1] at hf'
          refine hFf _ (hinF _ _ h2) ((hJ.foot _).2 ?_)
          exact hf'.imp (fun h => h) .inl
        · rw [hlow id h1] at hf'
          exact hf'.elim (hJ.apart _ _ h2).1 (hJ.apart _ _ h2).2
      · intro b hb
        have hb' : fpy b := (hJ.foot b).2 (hb.imp id .inl)
        exact ⟨(hgr.2 b (.inl hb')).1, fun _ => .inl hb'⟩
      · show a'.tmps.size = C.n.hi
        simp only [a', Array.size_setIfInBounds]; exact hR.size
      · intro i hi
        show (a.tmps.setIfInBounds p v)[i]? = a.tmps[i]?
        have hi' : i < lo := hi
        have : p ≠ i := fun e => Nat.lt_irrefl i (Nat.lt_of_lt_of_le hi' (e ▸ Nat.le_of_ble_eq_true hp))
        rw [Array.getElem?_setIfInBounds, if_neg this]
      · intro i u hu
        simp only [lk] at hu
        show (a.tmps.setIfInBounds p v)[i]? = _
        split at hu
        · rename_i he
          have e := Nat.eq_of_beq_eq_true he
          subst e; cases hu
          rw [Array.getElem?_setIfInBounds, if_pos rfl, if_pos hpl, conc_congrG hhi _ hzg, hv]
        · rename_i he
          have hne : p ≠ i := fun e => by subst e; simp at he
          rw [Array.getElem?_setIfInBounds, if_neg hne, hJ.tmps i u hu, conc_congr hlow u (lk_below htb hu)]
    obtain ⟨m', s, zz⟩ := hround D l a.tmps rc wy fpz pre x sx h hI hpx hinvp M'' _ a' wy hrel (c :: cs')
    obtain ⟨r, w', rfl, fp', hg', hv'⟩ := zz c cs' rfl
    refine ⟨r, w', ⟨fp', hg', ?_⟩, ?_⟩
    · rcases hv' with ⟨hv', hh⟩ | ⟨hv', hh⟩
      · exact .inl ⟨hv', hh⟩
      · exact .inr ⟨hv', hh⟩
    · have hfr : Frame.round l C.b.fn ((#[p].zip #[v]).foldl (fun tmps (q : Nat × Value) => tmps.setIfInBounds q.1 q.2) a.tmps) assign body .normal =
          (roundC ((C.withX (XS sx)).marked D) lo a.tmps l rc .ready wy fpz (roundRX C XS D t a.tmps l rc wy fpz (Inv (pre ++ [x])) (Stop (pre ++ [x])))).b.atR a' [.code assign, .beginRound, .code body] := by
        rw [htm]; simp [Frame.round, Frame.atR, roundC, Ctx.marked, a']
      exact hfr ▸ s
  have hcall := hit y J Js W1 fp1 hJl hJsl hys hJ0 (fun b hb => (hfp1 b hb).1) (fun b hb hk => (hK b hk).2 ((hfp1 b hb).2 (hK b hk).1))
    ⟨hW1.os, hW1.tape, hW1.output, hW1.size, fun b hb hk => hW1.block b hb (fun hs => by
      have : K b := Classical.byContradiction hk
      exact (hK b this).2 hs)⟩
  obtain ⟨e, w', fr, ⟨v, rfl, fp', hgr, hend⟩, hsteps, _, hleave⟩ := hcall (C.b.atR { a with defers := [mark D] ++ a.defers } (.inRangeFunc l :: k) :: cs)
  have s2 := step_leave_returned (c := C.b.atR { a with defers := [mark D] ++ a.defers } (.inRangeFunc l :: k)) (cs := cs) hleave
  rw [finish_atR_inRangeFunc] at s2
  have hag : Agree C.S0 C.w0 w' := hW1.trans hgr.1 (fun i hi hl => (hfp1 i hi).2 hl)
  have key : ∀ (sx : S) (st : LoopState) (pd : Option Code) (h : List (Nat × Blk)) (M' : Loc) (fpX : Foot), st ≠ .busy → LoopJ ((C.withX (XS sx)).marked D) t a.tmps l rc st pd h M' fpX w' fp' →
      Run ((C.withX (XS sx)).marked D) ((pd.map Item.code).toList ++ k) ⟨t, h, N⟩ → ∃ m, Steps C.P (lone (C.b.atR a (.code (.rangeFunc g #[p] assign body) :: k)) cs w) m ∧ C.Z cs m := by
    intro sx st pd h M' fpX hst hJ hr
    obtain ⟨k1, k2, k3⟩ := hJ.record (hLm sx) (o := .loop { rc with state := .exhausted, pending := pd })
    have hrel : Rel ((C.withX (XS sx)).marked D) M' fpX ⟨t, h, N⟩ { a with defers := [mark D] ++ a.defers } (w'.putObj l (.loop { rc with state := .exhausted, pending := pd })) := by
      refine { heap := k1, inj := hJ.inj, own := hJ.own, apart := fun id B hB => (hJ.apart _ _ hB).1, agree := ?_, outer := k2, fpok := k3, size := hR.size, frozen := hR.frozen, tmps := hJ.tmps, defers := ?_ }
      · refine agree_putObj hag (fun h => ?_)
        have : C.w0.heap.size ≤ l := hJ.lnew
        exact absurd (show l < C.w0.heap.size from h) (by omega)
      · show [mark D] ++ a.defers = mark D :: C.ds
        rw [hR.defers]; rfl
    obtain ⟨m, s, zz⟩ := hr M' fpX _ _ hrel cs
    have s3 := stepR_endRangeFunc (P := C.P) (b := C.b) (a := { a with defers := [mark D] ++ a.defers }) (k := k) (cs := cs) (run_endLoop (P := C.P) hJ.rc hst)
    exact ⟨m, .head s1 (Steps.trans hsteps (.head s2 (.head s3 s))), zz⟩
  rcases hend with ⟨sx, h, M', fpX, hI, hJ⟩ | ⟨pre, hpre, sx, c, h, M', fpX, hS, hJ⟩
  · exact key sx .ready none h M' fpX (by simp) hJ (hdone D sx h hI)
  · exact key sx .done (some c) h M' fpX (by simp) hJ (hstop D pre sx c h hpre hS)

/-- The outer part takes a footprint in. -/
def Joins (X : Res) (F : Foot) (X' : Res) (w : World) : Prop := ∀ fp, X w fp → (∀ b, F b → ¬ fp b) → X' w (fun b => fp b ∨ F b)

theorem Joins.mark {X X' : Res} {F : Foot} {w : World} (h : Joins X F X' w) (D : Nat) : Joins (markX X D) F (markX X' D) w := by
  rintro fp ⟨fpX, h1, h2, h3, h4⟩ hF
  refine ⟨fun b => fpX b ∨ F b, h fpX h1 (fun b hb hf => hF b hb ((h4 b).2 (.inl hf))), ?_, h3, fun b => ?_⟩
  · rintro (hf | hf)
    · exact h2 hf
    · exact hF D hf ((h4 D).2 (.inr rfl))
  · show fp b ∨ F b ↔ (fpX b ∨ F b) ∨ b = D
    rw [h4 b]
    constructor
    · rintro ((h | h) | h)
      · exact .inl (.inl h)
      · exact .inr h
      · exact .inl (.inr h)
    · rintro ((h | h) | h)
      · exact .inl (.inl h)
      · exact .inr h
      · exact .inl (.inr h)

theorem Joins.round {X X' : Res} {F : Foot} {w : World} (h : Joins X F X' w) (l : Nat) (rc : Loop) (st : LoopState) : Joins (roundX X l rc st) F (roundX X' l rc st) w := by
  rintro fp ⟨fpX, h1, h2, h3, h4⟩ hF
  refine ⟨fun b => fpX b ∨ F b, h fpX h1 (fun b hb hf => hF b hb ((h4 b).2 (.inl hf))), ?_, h3, fun b => ?_⟩
  · rintro (hf | hf)
    · exact h2 hf
    · exact hF l hf ((h4 l).2 (.inr rfl))
  · show fp b ∨ F b ↔ (fpX b ∨ F b) ∨ b = l
    rw [h4 b]
    constructor
    · rintro ((h | h) | h)
      · exact .inl (.inl h)
      · exact .inr h
      · exact .inl (.inr h)
    · rintro ((h | h) | h)
      · exact .inl (.inl h)
      · exact .inr h
      · exact .inl (.inr h)

/-- The outer part, seen otherwise. -/
theorem Run.toX {C : Ctx} {todo : List Item} {σ : St} (X' : Res) (hX : ∀ w fp, C.X w fp → X' w fp) (h : Run (C.withX X') todo σ) : Run C todo σ := fun M fp a w hR cs =>
  h M fp a w { heap := hR.heap, inj := hR.inj, own := hR.own, apart := hR.apart, agree := hR.agree, outer := hX _ _ hR.outer, fpok := hR.fpok, size := hR.size, frozen := hR.frozen, tmps := hR.tmps, defers := hR.defers } cs

/-- An owned block is given to the outer part. -/
theorem Run.give {C : Ctx} {todo : List Item} {σ : St} (id : Nat) {B : Blk} (X' : Loc → Res) (T' : Loc → List (Nat × AV)) (h' : List (Nat × Blk)) (nx : Nat) (hB : lk σ.h id = some B) (hh : inT σ.h h') (hn : lk h' id = none) (ht : ∀ M, inTM M σ.t (T' M))
    (hj : ∀ M w, BlkAt M w id B → Joins C.X (fun b => b = (M id).1) (X' M) w)
    (h : ∀ M, Run (C.withX (X' M)) todo ⟨T' M, h', nx⟩) : Run C todo σ := by
  intro M fp a w hR cs
  have hk : ∀ i B, lk h' i = some B → lk σ.h i = some B := fun i B hB => inT_lk hh i B hB
  have hb := hR.heap _ _ hB
  refine h M M (fun b => fp b ∨ b = (M id).1) a w ?_ cs
  refine { heap := fun i B hB => hR.heap _ _ (hk _ _ hB), inj := fun i j B B' hB hB' e => hR.inj _ _ _ _ (hk _ _ hB) (hk _ _ hB') e, own := fun i B hB => hR.own _ _ (hk _ _ hB),
           apart := ?_, agree := hR.agree, outer := hj M w hb fp hR.outer (fun b hb => by rw [hb]; exact hR.apart _ _ hB), fpok := ?_, size := hR.size, frozen := hR.frozen, tmps := fun i x hx => ?_, defers := hR.defers }
  · rintro i Bi hi (hf | hf)
    · exact hR.apart _ _ (hk _ _ hi) hf
    · have := hR.inj _ _ _ _ (hk _ _ hi) hB hf
      subst this
      rw [hi] at hn; cases hn
  · rintro b (hf | rfl)
    · exact hR.fpok b hf
    · exact ⟨hb.lt, hR.own _ _ hB⟩
  · obtain ⟨y, hy, e⟩ := inTM_lk (ht M) hx
    rw [hR.tmps i y hy, e]
end Go.AM

/-
  The first orders collected: a row of rows. Own work.
-/
namespace Go.Proofs.YtocpkgckllbjlaaDoor
open Go.AM
set_option maxRecDepth 100000

/-- A list of numbers that lies somewhere: where, its capacity, the list. -/
abbrev Ent := Nat × Nat × List Nat
def slV (e : Ent) : Value := .slice (some ⟨e.1, 0, none⟩) e.2.2.length e.2.1
def EntAt (w : World) (e : Ent) : Prop := BlkAt (fun _ => (e.1, e.2.1)) w 0 (.row 3 1 e.2.2.length (encN e.2.2))
def rowsX (s : List Ent) : Res := fun w fp => (∀ b, fp b ↔ ∃ e ∈ s, e.1 = b) ∧ (s.map fun e => e.1).Nodup ∧ ∀ e ∈ s, EntAt w e

theorem rowsX_local (s : List Ent) : Local (rowsX s) := fun _ _ _ ⟨h1, h2, h3⟩ _ hs =>
  ⟨h1, h2, fun e he => BlkAt.same (h3 e he) (hs e.1 ((h1 e.1).2 ⟨e, he, rfl⟩))⟩

theorem rowsX_join {M : AM.Loc} {w : World} {id : Nat} {l : List Nat} (s : List Ent) (hb : BlkAt M w id (.row 3 1 l.length (encN l))) : Joins (rowsX s) (fun b => b = (M id).1) (rowsX (s ++ [((M id).1, (M id).2, l)])) w := by
  rintro fp ⟨h1, h2, h3⟩ hF
  refine ⟨fun b => ?_, ?_, fun e he => ?_⟩
  · show fp b ∨ b = (M id).1 ↔ _
    rw [h1 b]
    constructor
    · rintro (⟨e, he, rfl⟩ | rfl)
      · exact ⟨e, by simp [he], rfl⟩
      · exact ⟨_, List.mem_append_right _ (List.mem_singleton.2 rfl), rfl⟩
    · rintro ⟨e, he, rfl⟩
      rcases List.mem_append.1 he with he | he
      · exact .inl ⟨e, he, rfl⟩
      · rw [List.mem_singleton] at he; subst he; exact .inr rfl
  · rw [List.map_append, List.nodup_append]
    refine ⟨h2, by simp, ?_⟩
    intro a ha b hb' e
    simp only [List.map_cons, List.map_nil, List.mem_singleton] at hb'
    subst hb'
    obtain ⟨q, hq, rfl⟩ := List.mem_map.1 ha
    exact hF _ rfl ((h1 _).2 ⟨q, hq, e⟩)
  · rcases List.mem_append.1 he with he | he
    · exact h3 e he
    · rw [List.mem_singleton] at he; subst he; exact hb

def lz (id : Nat) : List Ent → AV
  | [] => .v (.slice none 0 0)
  | _ :: s => .sl id 1 0 (s.length + 1)
def lr (id : Nat) : List Ent → List (Nat × Blk)
  | [] => []
  | e :: s => [(id, .row 47 1 (s.length + 1) ((e :: s).map slV))]
theorem lz_app (id : Nat) (s : List Ent) (e : Ent) : lz id (s ++ [e]) = .sl id 1 0 (s.length + 1) := by cases s <;> simp [lz]
theorem lr_app (id : Nat) (s : List Ent) (e : Ent) : lr id (s ++ [e]) = [(id, .row 47 1 (s.length + 1) ((s ++ [e]).map slV))] := by cases s <;> simp [lr]

/-- What lies in the blocks of orders. -/
def oB (most : Int) (s : List Ent) : List (Nat × Blk) := (0, .cells 3 [.one (.v (.int .i64 most))]) :: (1, .cells 53 [.one (lz 2 s)]) :: lr 2 s

/-- A row of lists, as it lies in a world. -/
def SeesL (w : World) (p : Option Addr) (s : List Ent) : Prop :=
  (∀ i (h : i < s.length), p = some (p.getD default) ∧ w.cell? ((p.getD default).add i) = some (slV s[i])) ∧ ∀ e ∈ s, EntAt w e

set_option maxHeartbeats 1000000 in
theorem orders_ok (r : Rl) (b : Nat) (m : Nat) (hm : 0 < m ∧ m ≤ 1000000) (w : World) (hb : RelAt w b r) (hT : TabAt w) (h0 : 0 < w.heap.size) :
    GivesR Tryd.prog 54 [extendsF b, .int .i64 (m : Int)] w (fun v w' => Agree (fun _ => False) w w' ∧ ∃ (s : List Ent) (p : Option Addr) (c : Nat), v = .slice p s.length c ∧ s.map (fun e => e.2.2) = (ordersL r).take m ∧ SeesL w' p s ∧ (∀ a, p = some a → w.heap.size ≤ a.block) ∧ ∀ e ∈ s, w.heap.size ≤ e.1) := by
  have hbl : b < w.heap.size := World.block_lt_of_cell? w _ (hb 0 _ rfl)
  have hit := extends_iter r b w hb hT h0
  generalize ordersL r = os at *
  refine givesX_of_run (S0 := fun _ => False) (X := rowsX []) (fp := fun _ => False) Tryd.func54 rfl (by show 2 ≤ 20; decide) ⟨fun b => ⟨fun h => h.elim, fun ⟨e, he, _⟩ => (by cases he)⟩, List.nodup_nil, fun e he => (by cases he)⟩ (fun b h => h.elim) ?_
  obtain ⟨R, hR⟩ : ∃ R : Value → World → Prop, R = fun (v : Value) (w' : World) => Agree (fun _ => False) w w' ∧ ∃ (s : List Ent) (p : Option Addr) (c : Nat), v = .slice p s.length c ∧ s.map (fun e => e.2.2) = os.take m ∧ SeesL w' p s ∧ (∀ a, p = some a → w.heap.size ≤ a.block) ∧ ∀ e ∈ s, w.heap.size ≤ e.1 := ⟨_, rfl⟩
  rw [← hR]
  have hm9 : ¬ ((m : Int) ≤ 0) := by omega
  refine RunF_sound tab_ok (rowsX_local []) 100 [false] _ _ rfl ?_ ?_
  · simp [okCell, argsT.ofConst', ofConst, Value.oneCell']
    omega
  have hret : ∀ (D : Nat) (s : List Ent) (σ : St), s.map (fun e => e.2.2) = os.take m → inT σ.t [(4, lz 2 s)] → inT σ.h (oB m s) → Run (fnM Tryd.prog 54 (Tryd.f54).ntmps w (fun _ => False) (rowsX s) R [D]) [.code .ret] σ := by
    intro D s σ hs ht hh
    refine Run.to ?_ ht hh (n' := 3)
    rcases s with _ | ⟨e, s⟩
    · refine Run.retM tab_ok (rowsX_local []) Tryd.func54 rfl trivial fun M fp a w' hr => ?_
      rw [hR]
      exact ⟨hr.agree, [], none, 0, rfl, hs, ⟨fun i h => absurd h (Nat.not_lt_zero _), fun e he => (by cases he)⟩, fun a h => (by cases h), fun e he => (by cases he)⟩
    · refine Run.retM tab_ok (rowsX_local (e :: s)) Tryd.func54 rfl trivial fun M fp a w' hr => ?_
      rw [hR]
      refine ⟨hr.agree, e :: s, some ⟨(M 2).1, 0, none⟩, (M 2).2 - 0, by simp [conc, resAV, lz], hs, ⟨fun i h => ⟨rfl, ?_⟩, (show rowsX (e :: s) w' fp from hr.outer).2.2⟩, fun a h => ?_, fun e' he => ?_⟩
      rotate_left
      · cases h
        exact Nat.le_of_not_lt fun hlt => hr.own 2 _ rfl hlt
      · exact Nat.le_of_not_lt fun hlt => (hr.fpok e'.1 (((show rowsX (e :: s) w' fp from hr.outer).1 _).2 ⟨e', he, rfl⟩)).2 hlt
      have := row_cells (hr.heap 2 _ rfl) i (slV (e :: s)[i]) (by rw [List.getElem?_map, List.getElem?_eq_getElem h]; rfl)
      rw [Option.getD_some, Addr.add_lit]
      exact this
  refine Run.rangeFnHX rowsX rowsX_local [] rfl rfl rfl (fun M => rfl) extendsIt_enters 6 [(3, .ptr 0 0), (5, .ptr 1 0)] ⟨rfl, rfl, trivial⟩ rfl rfl rfl hit (fun j hj => by rcases hj with rfl | rfl; exact ⟨h0, fun h => h⟩; exact ⟨hbl, fun h => h⟩)
    (fun pre s h => pre.length < m ∧ s.map (fun e => e.2.2) = pre ∧ h = oB m s) (fun pre s c h => c = .exit 0 ∧ pre.length = m ∧ s.map (fun e => e.2.2) = pre ∧ h = oB m s) 3 51 rfl ?_ (fun _ _ => rfl) (fun _ _ => rfl) (oB m []) ⟨hm.1, rfl, rfl⟩ ?_ ?_ ?_ ?_
  · rintro pre s h ⟨_, _, rfl⟩
    cases s <;> rfl
  · exact ⟨rfl, rfl, trivial⟩
  · rintro D l a0 rc wy fpy pre x s h hRI hpx ⟨hlt, hs, rfl⟩
    have hsl : s.length = pre.length := by rw [← hs]; simp
    refine RunF_sound tab_ok (roundX_local (hRI s).loc l rc .ready) 100 [] _ _ rfl ?_ ?_
    · simp
    refine Run.beginRound (hRI s).loc (hRI s).lw ?_
    refine Run.give 50 (B := .row 3 1 x.length (encN x)) (fun M => roundX (markX (rowsX (s ++ [((M 50).1, (M 50).2, x)])) D) l rc .busy) (fun M => [(3, .ptr 0 0), (5, .ptr 1 0), (6, .v (slV ((M 50).1, (M 50).2, x)))]) (oB m s) 51 rfl ?_ ?_ ?_ ?_ ?_
    · cases s with
      | nil => exact ⟨rfl, rfl, trivial⟩
      | cons e s => exact ⟨rfl, rfl, rfl, trivial⟩
    · cases s <;> rfl
    · exact fun M => ⟨⟨_, rfl, rfl⟩, ⟨_, rfl, rfl⟩, ⟨_, rfl, by simp [conc, slV]⟩, trivial⟩
    · exact fun M w hb => ((rowsX_join s hb).mark D).round l rc .busy
    intro M
    generalize hE : (((M 50).1, (M 50).2, x) : Ent) = E
    have hEx : E.2.2 = x := by rw [← hE]
    have hs' : (s ++ [E]).map (fun e => e.2.2) = pre ++ [x] := by rw [List.map_append, hs]; simp [hEx]
    have hpl : (pre ++ [x]).length = s.length + 1 := by simp [hsl]
    have hml : maxLen = 9223372036854775807 := rfl
    clear hE
    have hloc : Local (roundX (markX (rowsX (s ++ [E])) D) l rc .busy) := roundX_local (markX_local (rowsX_local _) D) l rc .busy
    suffices Y : ∀ σ, inT σ.t [(3, .ptr 0 0), (5, .ptr 1 0), (18, .v (.bool (decide (((s.length + 1 : Nat) : Int) ≥ (m : Int)))))] → inT σ.h [(0, .cells 3 [.one (.v (.int .i64 (m : Int)))]), (1, .cells 53 [.one (.sl 52 1 0 (s.length + 1))]), (52, .row 47 1 (s.length + 1) ((s ++ [E]).map slV))] →
        Run (roundC ((Ctx.withX (fnC Tryd.prog 54 (Tryd.f54).ntmps w (fun _ => False) (rowsX []) R) (rowsX (s ++ [E]))).marked D) 6 a0 l rc .busy wy fpy (roundRX (fnC Tryd.prog 54 (Tryd.f54).ntmps w (fun _ => False) (rowsX []) R) rowsX D [(3, .ptr 0 0), (5, .ptr 1 0)] a0 l rc wy fpy (fun s h => (pre ++ [x]).length < m ∧ s.map (fun e => e.2.2) = pre ++ [x] ∧ h = oB m s) (fun s c h => c = .exit 0 ∧ (pre ++ [x]).length = m ∧ s.map (fun e => e.2.2) = pre ++ [x] ∧ h = oB m s))) _ σ by
      cases s with
      | nil =>
        refine RunF_sound tab_ok hloc 100 [] _ _ rfl ?_ ?_
        · simp [slV, maxLen, fillL, repL, splice, Value.cells, Value.oneCell', okCell]
        exact Y _ ⟨rfl, rfl, rfl, trivial⟩ ⟨rfl, rfl, rfl, trivial⟩
      | cons e0 s =>
        refine RunF_sound tab_ok hloc 100 [] _ _ rfl ?_ ?_
        · simp [slV, maxLen, fillL, repL, splice, Value.cells, Value.oneCell', okCell]
          simp at hsl
          omega
        refine Y _ ⟨rfl, rfl, rfl, trivial⟩ ⟨rfl, rfl, ?_, trivial⟩
        exact congrArg (fun z => some (Blk.row 47 1 (s.length + 1 + 1) z)) (show ((e0 :: s).map slV).take ((s.length + 1) * 1) ++ [slV E] = (e0 :: s ++ [E]).map slV by rw [List.take_of_length_le (by simp), List.map_append]; rfl)
    intro σ ht hh
    refine Run.to ?_ ht hh (n' := 53)
    by_cases c : s.length + 1 < m
    · refine RunF_sound tab_ok hloc 100 [false] _ _ rfl ?_ ?_
      · simp; omega
      refine Run.roundMono (roundRX_of (s ++ [E])) (Run.roundEnd (hRI (s ++ [E])) [(2, 52)] (oB m (s ++ [E])) ⟨by omega, hs', rfl⟩ ⟨rfl, rfl, trivial⟩ ?_ ?_)
      · unfold oB; rw [lz_app, lr_app]; exact ⟨rfl, rfl, rfl, trivial⟩
      · unfold oB; rw [lr_app]; rfl
    · refine RunF_sound tab_ok hloc 100 [true] _ _ rfl ?_ ?_
      · simp; omega
      refine Run.roundMono (roundRX_of (s ++ [E])) (Run.roundExit (hRI (s ++ [E])) [(2, 52)] (oB m (s ++ [E])) rfl ⟨rfl, by omega, hs', rfl⟩ ⟨rfl, rfl, trivial⟩ ?_ ?_)
      · unfold oB; rw [lz_app, lr_app]; exact ⟨rfl, rfl, rfl, trivial⟩
      · unfold oB; rw [lr_app]; rfl
  · rintro D s h ⟨hlt, hs, rfl⟩
    have hoe : s.map (fun e => e.2.2) = os.take m := by rw [hs, List.take_of_length_le (by omega)]
    cases s with
    | nil =>
      refine RunF_sound tab_ok (markX_local (rowsX_local []) D) 100 [] _ _ rfl ?_ ?_
      · simp
      exact hret D [] _ hoe ⟨rfl, trivial⟩ ⟨rfl, rfl, trivial⟩
    | cons e s =>
      refine RunF_sound tab_ok (markX_local (rowsX_local (e :: s)) D) 100 [] _ _ rfl ?_ ?_
      · simp
      exact hret D (e :: s) _ hoe ⟨rfl, trivial⟩ ⟨rfl, rfl, rfl, trivial⟩
  · rintro D pre s c h hpre ⟨rfl, hl, hs, rfl⟩
    have hoe : s.map (fun e => e.2.2) = os.take m := by
      rw [hs]
      obtain ⟨t, rfl⟩ := hpre
      rw [← hl]; simp
    cases s with
    | nil =>
      refine RunF_sound tab_ok (markX_local (rowsX_local []) D) 100 [] _ _ rfl ?_ ?_
      · simp
      exact hret D [] _ hoe ⟨rfl, trivial⟩ ⟨rfl, rfl, trivial⟩
    | cons e s =>
      refine RunF_sound tab_ok (markX_local (rowsX_local (e :: s)) D) 100 [] _ _ rfl ?_ ?_
      · simp
      exact hret D (e :: s) _ hoe ⟨rfl, trivial⟩ ⟨rfl, rfl, rfl, trivial⟩
end Go.Proofs.YtocpkgckllbjlaaDoor

/-
  RelExtends answers true. Own work.
-/
namespace Go.Proofs.YtocpkgckllbjlaaDoor
open Go.AM
set_option maxRecDepth 100000

theorem orders_enters : Enters Tryd.prog 54 := enters_mk Tryd.func54 (by decide) rfl

/-- Which of the orders has been found. -/
def fndB (s : List Ent) (i : Nat) (xs : List Int) : Bool := (s.take i).any fun e => decide (castZ e.2.2 = xs)
theorem fnd_step {s : List Ent} {i : Nat} (h : i < s.length) (xs : List Int) : fndB s (i + 1) xs = (fndB s i xs || decide (castZ s[i].2.2 = xs)) := by
  unfold fndB
  rw [List.take_succ_eq_append_getElem h, List.any_append]
  simp

theorem entSees {w : World} {e : Ent} (h : EntAt w e) : SeesN w (some ⟨e.1, 0, none⟩) e.2.2 := seesN_row h

theorem slOf_eq {w : World} {a : Addr} {e : Ent} (h : w.cell? a = some (slV e)) : Value.slice (slOf (w.cell? a)).1 (slOf (w.cell? a)).2.1 (slOf (w.cell? a)).2.2 = slV e := by rw [h]; rfl

set_option maxHeartbeats 2000000 in
theorem relExtends_ok (r : Rl) (pp : Option Addr) (pc : Nat) (xs : List Int) (w : World) (hxs : SeesZ w pp xs) (hT : TabAt w) (h0 : 0 < w.heap.size) :
    Gives Tryd.prog 10 [encRel r, .slice pp xs.length pc] w (.bool true) := by
  have hTA : ∀ w', Agree (fun _ => False) w w' → TabAt w' := fun w' hA => hT.agree hA (fun f => f)
  have hSA : ∀ w', Agree (fun _ => False) w w' → 0 < w'.heap.size := fun w' hA => Nat.lt_of_lt_of_le h0 hA.size
  have hml : maxLen = 9223372036854775807 := rfl
  refine Gives.of_run Tryd.func10 rfl (by show 2 ≤ 107; decide) ?_
  refine RunF_sound tab_ok noX_local 400 [] _ _ rfl ?_ ?_
  · simp
  refine Run.callFn (r := .bool true) noX_local rfl rfl rfl rfl rfl rfl rfl works_enters rfl (fun w' hA => works_ok w' (hTA w' hA) (hSA w' hA)) ?_
  refine RunF_sound tab_ok noX_local 400 [false] _ _ rfl ?_ ?_
  · simp
  refine Run.callFn (r := .int .i64 (checkI r)) noX_local rfl rfl rfl rfl rfl rfl rfl check_enters rfl (fun w' _ => check_ok r w') ?_
  refine RunF_sound tab_ok noX_local 400 [] _ _ rfl ?_ ?_
  · simp
  refine Run.callFn (r := .int .i64 (checkI r)) noX_local rfl rfl rfl rfl rfl rfl rfl num_enters rfl (fun w' _ => num_ok _ w') ?_
  by_cases cr : checkI r = 0
  rotate_left
  · refine RunF_sound tab_ok noX_local 400 [true] _ _ rfl ?_ ?_
    · simp [cr]
    exact Run.retP tab_ok Tryd.func10 rfl trivial (fun M => rfl)
  have hr := rt_check cr
  obtain ⟨n, hn⟩ : ∃ n : Nat, r.n = (n : Int) := ⟨r.n.toNat, by have := hr.lo; omega⟩
  refine RunF_sound tab_ok noX_local 400 [false] _ _ rfl ?_ ?_
  · simp [cr]
  refine Run.callR noX_local rfl rfl rfl rfl rfl rfl extends_enters rfl (fun M w' _ _ => extends_ok r w') ?_
  rintro v w2 w1 S1 hag hag2 ⟨bb, rfl, hbl, hRel⟩ hS1
  have hB1 := (Based.refl w).call hag hag2 hS1
  have hbw1 : bb < w1.heap.size := World.block_lt_of_cell? w1 _ (hRel 0 _ rfl)
  have hS1b : ¬ S1 bb := hS1.new bb hbl
  refine ⟨.v (extendsF bb), fun M => rfl, ?_⟩
  refine RunF_sound tab_ok noX_local 400 [] _ _ rfl ?_ ?_
  · simp
  refine Run.fnNil tab_ok rfl rfl rfl rfl rfl rfl ?_
  refine RunF_sound tab_ok noX_local 400 [] _ _ rfl ?_ ?_
  · simp
  refine Run.callR noX_local rfl rfl rfl rfl rfl rfl orders_enters rfl (fun M w' _ hA => orders_ok r bb 720 (by decide) w' (hRel.agree hA hS1b) (hTA w' (hB1.later hA)) (hSA w' (hB1.later hA))) ?_
  rintro v w4 w3 S3 hag3 hag4 ⟨s, p, c, rfl, hs, hsee, hpn, hen⟩ hS3
  have hB3 := hB1.call hag3 hag4 hS3
  refine ⟨.v (.slice p s.length c), fun M => rfl, ?_⟩
  have hcell : ∀ i (h : i < s.length), p = some (p.getD default) ∧ w3.cell? ((p.getD default).add i) = some (slV s[i]) ∧ ¬ S3 ((p.getD default).add i).block := fun i h => by
    have h1 := hsee.1 i h
    refine ⟨h1.1, h1.2, ?_⟩
    rw [add_block]; exact hS3.new _ (hpn _ h1.1)
  have hent : ∀ e ∈ s, SeesN w3 (some ⟨e.1, 0, none⟩) e.2.2 ∧ ¬ S3 e.1 := fun e he => ⟨entSees (hsee.2 e he), hS3.new _ (hen e he)⟩
  clear hsee hpn hen
  refine RunF_sound tab_ok noX_local 400 [] _ _ rfl ?_ ?_
  · simp
  have hxs3 : SeesZ w3 pp xs := hxs.agree hB3.agree (fun _ _ h => h)
  have hxS : ∀ i, i < xs.length → ∀ a, pp = some a → ¬ S3 a.block := fun i hi a ha h => by
    have h1 := (hxs i hi).2
    rw [ha, Option.getD_some] at h1
    have h2 := World.block_lt_of_cell? w _ h1
    rw [add_block] at h2
    have := hB3.new _ h
    omega
  have hac : ∀ w', Gives Tryd.prog 46 [encRel r] w' (.bool (irB (clos r))) := fun w' => by
    have := acyclic_ok r w'
    rwa [hr.right] at this
  have hex : ∀ w', Agree S3 w3 w' → HandsZ Tryd.prog 49 [encRel r] w' (exZ (extendL r)) (exH (extendL r)) := fun w' hA => extend_ok r w' (hTA w' (hB3.later hA)) (hSA w' (hB3.later hA))
  by_cases ac : irB (clos r) = true
  rotate_left
  · rw [extend_none hr ac] at hex
    rw [Bool.not_eq_true] at ac
    rw [ac] at hac
    have hs0 : s = [] := by
      have : ordersL r = [] := by rw [ordersL, hr.right, if_neg (by rw [ac]; decide)]
      rw [this] at hs
      simpa using hs
    subst hs0
    refine Run.callH noX_local (.tup [.v (.slice none 0 0), .tt false]) [] 1 rfl rfl rfl rfl rfl rfl extend_enters rfl rfl rfl rfl rfl (fun M w' _ hA => hex w' hA) ?_
    refine RunF_sound tab_ok noX_local 400 [true, true] _ _ rfl ?_ ?_
    · simp
    refine Run.callFn (r := .bool false) noX_local rfl rfl rfl rfl rfl rfl rfl acyclic_enters rfl (fun w' hA => hac w') ?_
    refine RunF_sound tab_ok noX_local 400 [] _ _ rfl ?_ ?_
    · simp
    exact Run.retB (Ds := []) tab_ok noX_local hB3 Tryd.func10 rfl trivial (fun M => rfl)
  obtain ⟨x, hx, hxl', hxg⟩ := extend_some hr ac
  rw [hx] at hex
  have hor := orders_rise r
  have hog := fun y (hy : y ∈ ordersL r) => orders_good hr hy
  have hoc := fun (hl : xs.length = n) (h : fwdGo r n 0#64 xs = true) => fwd_order hr ac hn hl h
  have hhd : (ordersL r).head? = some x := hx
  have hnt : r.n.toNat = n := by omega
  generalize ordersL r = os at *
  have hmem : ∀ e ∈ s, e.2.2 ∈ os := fun e he => List.mem_of_mem_take (hs ▸ List.mem_map.2 ⟨e, he, rfl⟩)
  have hgood : ∀ e ∈ s, e.2.2.length = n ∧ goodL (aheadL r) n 0#64 e.2.2 := fun e he => by
    have := (hog _ (hmem e he)).2
    rwa [hnt] at this
  have hlt64 : n ≤ 64 := by have := hr.hi; omega
  have hslen : s.length ≤ 720 := by
    have := congrArg List.length hs
    rw [List.length_map, List.length_take] at this
    omega
  have hbel : ∀ i (h1 : i < s.length) (h2 : i + 1 < s.length), belowL s[i].2.2 s[i + 1].2.2 = true := fun i h1 h2 => by
    have h3 : (s.map fun e => e.2.2).Pairwise fun x y => belowL x y = true := by rw [hs]; exact hor.sublist (List.take_sublist _ _)
    have := List.pairwise_iff_getElem.1 h3 i (i + 1) (by simpa using h1) (by simpa using h2) (by omega)
    simpa using this
  have hall : s.length < 720 → s.map (fun e => e.2.2) = os := fun h => by
    rw [hs]
    have := congrArg List.length hs
    rw [List.length_map, List.length_take] at this
    exact List.take_of_length_le (by omega)
  obtain ⟨e0, s', hse⟩ : ∃ e0 s', s = e0 :: s' := by
    cases s with
    | nil =>
      cases os with
      | nil => cases hhd
      | cons a l => cases hs
    | cons e0 s' => exact ⟨e0, s', rfl⟩
  have he0 : e0.2.2 = x := by
    subst hse
    cases os with
    | nil => cases hs
    | cons a l =>
      simp only [List.map_cons, List.take_succ_cons, List.cons.injEq] at hs
      rw [hs.1]
      simpa using hhd
  have h0s : 0 < s.length := by rw [hse]; simp
  have hs00 : s[0] = e0 := by subst hse; rfl
  clear hs hor hog hmem hhd hx
  refine Run.callH noX_local (.tup [.sl 1 1 0 x.length, .tt true]) [(1, .row 3 1 x.length (encN x))] 2 rfl rfl rfl rfl rfl rfl extend_enters rfl rfl rfl rfl rfl (fun M w' _ hA => (hex w' hA).to [(1, 0)] rfl ⟨rfl, trivial⟩ rfl) ?_
  obtain ⟨hp0, hpc0, hpS0⟩ := hcell 0 h0s
  rw [hs00] at hpc0
  refine RunF_sound tab_ok noX_local 400 [false, false] _ _ rfl ?_ ?_
  · simp only []
    simp
    refine ⟨by rw [hse]; simp, ⟨hp0, h0s⟩, ?_, hpS0⟩
    rw [slOf_eq hpc0]; exact hpc0
  have hnn : x.length ≤ maxLen := by rw [hxl']; omega
  refine Run.toC (t' := [(1, .v (.slice pp xs.length pc)), (2, .ptr 0 0), (6, .v (.slice p s.length c)), (41, .tt false), (44, .v (slV e0)), (45, .sl 1 1 0 x.length)]) (h' := [(0, .cells 25 [.vals 65 (relV r)]), (1, .row 3 1 x.length (encN x))]) (n' := 2) ?_
    ⟨inTC_same rfl, inTC_same rfl, inTC_same rfl, inTC_same rfl, ⟨_, rfl, fun M => by simp only [conc]; exact slOf_eq hpc0⟩, inTC_same rfl, trivial⟩ ⟨rfl, rfl, trivial⟩
  refine Run.callM (r := .bool true) noX_local rfl rfl rfl rfl rfl rfl sameInts_enters rfl (fun M w' hM hA => ?_) ?_
  · have h1 := (hent e0 (by rw [hse]; simp))
    have := sameInts_ok (some ⟨e0.1, 0, none⟩) (some ⟨(M 1).1, 0, none⟩) e0.2.1 ((M 1).2 - 0) e0.2.2 x w' (h1.1.agree hA (fun a ha => by cases ha; exact h1.2)) (seesN_row (hM 1 _ rfl)) (by rw [he0]; exact hnn)
    rw [he0, decide_eq_true rfl] at this
    show Gives Tryd.prog _ _ _ _
    simpa [concL, conc, slV, he0] using this
  refine RunF_sound tab_ok noX_local 400 [false] _ _ rfl ?_ ?_
  · simp
  have hfw : ∀ i (h : i < s.length) w', Agree S3 w3 w' → Gives Tryd.prog 66 [encRel r, slV s[i]] w' (.bool true) := fun i h w' hA => by
    have h1 := hent s[i] (List.getElem_mem h)
    have h2 := hgood s[i] (List.getElem_mem h)
    have h3 := hB3.later hA
    exact forward_ok hr hn ac (some ⟨s[i].1, 0, none⟩) s[i].2.1 s[i].2.2 w' (h1.1.agree hA (fun a ha => by cases ha; exact h1.2)) h2.1 h2.2 (hTA w' h3) (hSA w' h3)
  have hbw : ∀ i (h1 : i < s.length) (h2 : i + 1 < s.length) w', Agree S3 w3 w' → Gives Tryd.prog 67 [slV s[i], slV s[i + 1]] w' (.bool true) := fun i h1 h2 w' hA => by
    have k1 := hent s[i] (List.getElem_mem h1)
    have k2 := hent s[i + 1] (List.getElem_mem h2)
    have g1 := hgood s[i] (List.getElem_mem h1)
    have g2 := hgood s[i + 1] (List.getElem_mem h2)
    have := below_ok (some ⟨s[i].1, 0, none⟩) (some ⟨s[i + 1].1, 0, none⟩) s[i].2.1 s[i + 1].2.1 s[i].2.2 s[i + 1].2.2 w' (k1.1.agree hA (fun a ha => by cases ha; exact k1.2)) (k2.1.agree hA (fun a ha => by cases ha; exact k2.2)) (by rw [g1.1, g2.1]) (by rw [g1.1]; omega)
    rw [hbel i h1 h2] at this
    exact this
  have hsm : ∀ i (h : i < s.length) w', Agree S3 w3 w' → Gives Tryd.prog 53 [slV s[i], .slice pp xs.length pc] w' (.bool (decide (castZ s[i].2.2 = xs))) := fun i h w' hA => by
    have k1 := hent s[i] (List.getElem_mem h)
    have g1 := hgood s[i] (List.getElem_mem h)
    have k3 : SeesZ w' pp xs := fun j hj => ⟨(hxs3 j hj).1, hA.cell (hxs3 j hj).2 (by rw [add_block]; exact hxS j hj _ (hxs3 j hj).1)⟩
    have := sameIntsZ_ok (some ⟨s[i].1, 0, none⟩) pp s[i].2.1 pc (castZ s[i].2.2) xs w' (SeesN.ints (k1.1.agree hA (fun a ha => by cases ha; exact k1.2))) k3 (by rw [castZ_len, g1.1]; omega)
    rw [castZ_len] at this
    exact this
  suffices H : ∀ (m i : Nat), i + m = s.length → ∀ σ, inT σ.t [(1, .v (.slice pp xs.length pc)), (2, .ptr 0 0), (6, .v (.slice p s.length c)), (9, .v (.bool (fndB s i xs))), (10, .v (.int .i64 (i : Int)))] → inT σ.h [(0, .cells 25 [.vals 65 (relV r)])] → Run (((fnP Tryd.prog 10 (Tryd.f10).ntmps w (.bool true)).rebase w1 S1).rebase w3 S3) _ σ by
    exact Run.toC (t' := [(1, .v (.slice pp xs.length pc)), (2, .ptr 0 0), (6, .v (.slice p s.length c)), (9, .v (.bool (fndB s 0 xs))), (10, .v (.int .i64 ((0 : Nat) : Int)))]) (h' := [(0, .cells 25 [.vals 65 (relV r)])]) (n' := 2) (H s.length 0 (by omega) _ ⟨rfl, rfl, rfl, rfl, rfl, trivial⟩ ⟨rfl, trivial⟩) ⟨inTC_same rfl, inTC_same rfl, inTC_same rfl, ⟨_, rfl, fun M => by simp [conc, fndB]⟩, inTC_same rfl, trivial⟩ ⟨rfl, trivial⟩
  intro m
  induction m with
  | zero =>
    intro i hi σ ht hh
    refine Run.to ?_ ht hh (n' := 2)
    obtain rfl : i = s.length := by omega
    have hfd : s.length < 720 → xs.length = n → fwdGo r n 0#64 xs = true → fndB s s.length xs = true := fun h1 h2 h3 => by
      obtain ⟨ys, hy, hxy⟩ := hoc h2 h3
      rw [← hall h1] at hy
      obtain ⟨e, he, rfl⟩ := List.mem_map.1 hy
      unfold fndB
      rw [List.take_length, List.any_eq_true]
      exact ⟨e, he, by rw [decide_eq_true_eq, hxy]; rfl⟩
    by_cases c7 : s.length ≥ 720
    · refine RunF_sound tab_ok noX_local 400 [false, true] _ _ rfl ?_ ?_
      · simp; omega
      exact Run.retB (Ds := []) tab_ok noX_local hB3 Tryd.func10 rfl trivial (fun M => rfl)
    by_cases c8 : xs.length = n
    · refine RunF_sound tab_ok noX_local 400 [false, false, false] _ _ rfl ?_ ?_
      · simp [hn, c8]; omega
      have hfg : ∀ w', Agree S3 w3 w' → Gives Tryd.prog 66 [encRel r, .slice pp xs.length pc] w' (.bool (fwdGo r n 0#64 xs)) := fun w' hA => by
        have k3 : SeesZ w' pp xs := fun j hj => ⟨(hxs3 j hj).1, hA.cell (hxs3 j hj).2 (by rw [add_block]; exact hxS j hj _ (hxs3 j hj).1)⟩
        have := forwardG_ok hr hn pp pc xs w' k3 (hTA w' (hB3.later hA)) (hSA w' (hB3.later hA))
        rwa [decide_eq_true c8, Bool.true_and] at this
      have hfd' := hfd (by omega) c8
      generalize fwdGo r n 0#64 xs = fg at *
      refine Run.callFn (r := .bool fg) noX_local rfl rfl rfl rfl rfl rfl rfl forward_enters rfl (fun w' hA => hfg w' hA) ?_
      cases fg with
      | true =>
        rw [hfd' rfl]
        refine RunF_sound tab_ok noX_local 400 [false] _ _ rfl ?_ ?_
        · simp
        exact Run.retB (Ds := []) tab_ok noX_local hB3 Tryd.func10 rfl trivial (fun M => rfl)
      | false =>
        refine RunF_sound tab_ok noX_local 400 [true] _ _ rfl ?_ ?_
        · simp
        exact Run.retB (Ds := []) tab_ok noX_local hB3 Tryd.func10 rfl trivial (fun M => rfl)
    · refine RunF_sound tab_ok noX_local 400 [false, false, true] _ _ rfl ?_ ?_
      · simp [hn]; omega
      exact Run.retB (Ds := []) tab_ok noX_local hB3 Tryd.func10 rfl trivial (fun M => rfl)
  | succ m ih =>
    intro i hi σ ht hh
    refine Run.to ?_ ht hh (n' := 2)
    have hil : i < s.length := by omega
    obtain ⟨hpi, hpci, hpSi⟩ := hcell i hil
    have hci : w3.cell? ((p.getD default).add i) = some (slV s[i]) := hpci
    have hstep := fnd_step hil xs
    generalize hfi : fndB s i xs = fi at *
    refine RunF_sound tab_ok noX_local 400 [true] _ _ rfl ?_ ?_
    · simp; omega
    refine Run.drawA noX_local rfl [] [(0, .cells 25 [.vals 65 (relV r)])] rfl rfl ⟨rfl, trivial⟩ ?_
    refine RunOF_sound tab_ok noX_local rfl rfl 400 [] _ _ rfl ?_ ?_
    · simp only [Int.toNat_natCast, Nat.mul_one, hci]
      simp
      exact ⟨⟨hpi, hil⟩, rfl, hpSi⟩
    refine RunO.callFn (r := .bool true) noX_local rfl rfl rfl rfl rfl rfl rfl rfl forward_enters rfl (fun w' hA => ?_) ?_
    · have := hfw i hil w' hA
      rw [← slOf_eq hci] at this
      simp only [Int.toNat_natCast, Nat.mul_one]
      exact this
    suffices G : ∀ σ, inT σ.t [(1, .v (.slice pp xs.length pc)), (2, .ptr 0 0), (6, .v (.slice p s.length c)), (9, .v (.bool fi)), (10, .v (.int .i64 (i : Int))), (80, .v (.bool fi))] → inT σ.h [(0, .cells 25 [.vals 65 (relV r)])] → Run (((fnP Tryd.prog 10 (Tryd.f10).ntmps w (.bool true)).rebase w1 S1).rebase w3 S3) _ σ by
      rcases Nat.eq_zero_or_pos i with hi0 | hi0
      · subst hi0
        refine RunOF_sound tab_ok noX_local rfl rfl 400 [false, false] _ _ rfl ?_ ?_
        · simp
        refine RunO.done ?_
        refine RunF_sound tab_ok noX_local 400 [] _ _ rfl ?_ ?_
        · simp
        exact G _ ⟨rfl, rfl, rfl, rfl, rfl, rfl, trivial⟩ ⟨rfl, trivial⟩
      · obtain ⟨k, rfl⟩ : ∃ k, i = k + 1 := ⟨i - 1, by omega⟩
        have hkl : k < s.length := by omega
        obtain ⟨hpk, hpck, hpSk⟩ := hcell k hkl
        have hwk : IntKind.i64.wrap (((k + 1 : Nat) : Int) - 1) = (k : Int) := by rw [wrap_i64] <;> omega
        refine RunOF_sound tab_ok noX_local rfl rfl 400 [false, true] _ _ rfl ?_ ?_
        · simp only [Int.toNat_natCast, Nat.mul_one, hci, hwk, hpck]
          simp
          exact ⟨⟨hpk, hkl⟩, ⟨rfl, hpSk⟩, ⟨hpi, by omega, by omega⟩, rfl, hpSi⟩
        refine RunO.callFn (r := .bool true) noX_local rfl rfl rfl rfl rfl rfl rfl rfl below_enters rfl (fun w' hA => ?_) ?_
        · have := hbw k hkl hil w' hA
          rw [← slOf_eq hci, ← slOf_eq hpck] at this
          simp only [Int.toNat_natCast, Nat.mul_one, hwk]
          exact this
        refine RunOF_sound tab_ok noX_local rfl rfl 400 [] _ _ rfl ?_ ?_
        · simp
        refine RunO.done ?_
        refine RunF_sound tab_ok noX_local 400 [false] _ _ rfl ?_ ?_
        · simp
        exact G _ ⟨rfl, rfl, rfl, rfl, rfl, rfl, trivial⟩ ⟨rfl, trivial⟩
    intro σ ht hh
    refine Run.to ?_ ht hh (n' := 2)
    cases fi with
    | true =>
      refine RunF_sound tab_ok noX_local 400 [true] _ _ rfl ?_ ?_
      · simp
      refine Run.toC (t' := [(1, .v (.slice pp xs.length pc)), (2, .ptr 0 0), (6, .v (.slice p s.length c)), (9, .v (.bool (fndB s (i + 1) xs))), (10, .v (.int .i64 ((i + 1 : Nat) : Int)))]) (h' := [(0, .cells 25 [.vals 65 (relV r)])]) (n' := 2) (ih (i + 1) (by omega) _ ⟨rfl, rfl, rfl, rfl, rfl, trivial⟩ ⟨rfl, trivial⟩)
        ⟨inTC_same rfl, inTC_same rfl, inTC_same rfl, ⟨_, rfl, fun M => by simp [conc, hstep]⟩, ⟨_, rfl, fun M => by simp only [conc]; rw [wrap_succ (by omega)]⟩, trivial⟩ ⟨rfl, trivial⟩
    | false =>
      refine RunF_sound tab_ok noX_local 400 [false] _ _ rfl ?_ ?_
      · simp only [Int.toNat_natCast, Nat.mul_one, hci]
        simp
        exact ⟨⟨hpi, hil⟩, rfl, hpSi⟩
      refine Run.callFn (r := .bool (decide (castZ s[i].2.2 = xs))) noX_local rfl rfl rfl rfl rfl rfl rfl sameInts_enters rfl (fun w' hA => ?_) ?_
      · have := hsm i hil w' hA
        rw [← slOf_eq hci] at this
        simp only [Int.toNat_natCast, Nat.mul_one]
        exact this
      refine RunF_sound tab_ok noX_local 400 [] _ _ rfl ?_ ?_
      · simp
      refine Run.toC (t' := [(1, .v (.slice pp xs.length pc)), (2, .ptr 0 0), (6, .v (.slice p s.length c)), (9, .v (.bool (fndB s (i + 1) xs))), (10, .v (.int .i64 ((i + 1 : Nat) : Int)))]) (h' := [(0, .cells 25 [.vals 65 (relV r)])]) (n' := 2) (ih (i + 1) (by omega) _ ⟨rfl, rfl, rfl, rfl, rfl, trivial⟩ ⟨rfl, trivial⟩)
        ⟨inTC_same rfl, inTC_same rfl, inTC_same rfl, ⟨_, rfl, fun M => by simp [conc, hstep]⟩, ⟨_, rfl, fun M => by simp only [conc]; rw [wrap_succ (by omega)]⟩, trivial⟩ ⟨rfl, trivial⟩
end Go.Proofs.YtocpkgckllbjlaaDoor

/-
  A list of ints as an argument of a row, opened. Own work.
-/
namespace Go.Proofs.YtocpkgckllbjlaaDoor
open Go.ChangeShapes Go.WideShapes Go.ChangeAt Go.RowKit Go.AM

section
variable {H : Type} {enc : TypeId × Value → H} {w W : World} {base b0 : Nat} {sp : Nat → Bool} {held : Bool} {v : Value} {d : DataW H} {ps : List MemPlace}

theorem i_add_add (a : Addr) (i j : Nat) : (a.add i).add j = a.add (i + j) := by
  obtain ⟨b, o, x⟩ := a
  unfold Addr.add
  by_cases hi : i = 0
  · subst hi; simp
  · by_cases hj : j = 0
    · subst hj; simp [hi]
    · have : ¬ i + j = 0 := by omega
      simp [hi, hj, this, Nat.add_assoc]

set_option maxRecDepth 100000 in
theorem open_ints (hval : Value.okWide Tryd.prog W .any b0 47 v) (hd : DataW.Trod enc Tryd.prog w base sp held 47 v d ps) :
    ∃ (p : Option Addr) (c : Nat) (xs : List Int), v = .slice p xs.length c ∧ SeesZ w p xs ∧ (p = none → xs = [] ∧ c = 0) ∧ xs.length ≤ maxLen ∧ ((∃ es rest, d = .slice es rest ∧ es.length = xs.length) ∨ xs = []) := by
  have hs := tab_undP tab_ok (t := 47) (d := .slice 3) rfl
  have hi := tab_undP tab_ok (t := 3) (d := .int .i64) rfl
  have c2 : Tryd.prog.cellsOf 3 = 1 := by kernel_rfl
  obtain ⟨p, len, cap, rfl⟩ := okWide_slice hs hval
  obtain ⟨fuel, hf⟩ := hd
  simp only [Value.cells] at hf
  rcases DataW.trod_slice hs hf with ⟨hcs, _⟩ | ⟨a, len', cap', elems, rest, n, _, hcs, hx, _, hlc, hcm, hle, hel, _, _⟩
  · simp at hcs
    obtain ⟨rfl, rfl, rfl⟩ := hcs
    exact ⟨none, 0, [], rfl, fun i h => by simp at h, fun _ => ⟨rfl, rfl⟩, Nat.zero_le _, .inr rfl⟩
  · simp at hcs
    obtain ⟨rfl, rfl, rfl⟩ := hcs
    have key : ∀ i, i < len → ∃ z : Int, w.cell? (a.add i) = some (.int .i64 z) := by
      intro i hi'
      have he := hel i hi'
      rw [c2, List.getElem?_eq_getElem (by omega)] at he
      simp only [Option.bind_eq_some_iff] at he
      obtain ⟨ds, hds, ht⟩ := he
      unfold World.cells? at hds
      split at hds
      · obtain ⟨m1, m2⟩ := mapM_some hds
        obtain ⟨u0, g0, g0'⟩ := m2 0 0 rfl
        obtain ⟨A, hA, _, _⟩ := DataW.trod_int hi ht
        rw [hA] at g0
        simp at g0
        subst g0
        rw [i_add_add, Nat.mul_one, Nat.add_zero] at g0'
        exact ⟨A, g0'⟩
      · cases hds
    obtain ⟨g, hg⟩ : ∃ g : Nat → Int, ∀ i, i < len → w.cell? (a.add i) = some (.int .i64 (g i)) :=
      ⟨fun i => if h : i < len then (key i h).choose else 0, fun i h => by simp only [dif_pos h]; exact (key i h).choose_spec⟩
    refine ⟨some a, cap, (List.range len).map g, by simp, ?_, fun h => (by cases h), by simp; omega, .inl ⟨elems.map (·.1), rest.map (·.1), ?_, by simp [hle]⟩⟩
    · intro i hi'
      have hlt : i < len := by simpa using hi'
      have eg : ((List.range len).map g)[i] = g i := by simp
      rw [eg]
      exact ⟨rfl, hg i hlt⟩
    · simp only [Prod.mk.injEq] at hx; exact hx.1
end
end Go.Proofs.YtocpkgckllbjlaaDoor

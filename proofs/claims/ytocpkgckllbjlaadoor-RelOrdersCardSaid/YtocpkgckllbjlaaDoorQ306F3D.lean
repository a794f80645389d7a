/-
  Own work, merged: M3, M4, N1, N2, N3, N4, N5, N6, N7, O1, O2, X1, X6, X7, X8.
-/
import Derived.AtR
import Derived.Below
import Derived.ChangeKeysEq
import Derived.KernelRfl
import Derived.LaidMore
import Derived.Laws.AppendOwn
import Derived.Laws.BytesString
import Derived.Laws.Cells
import Derived.Laws.CopyRow
import Derived.Laws.Entries
import Derived.Laws.Rows
import Derived.Laws.Small
import Derived.Laws.StructEq
import Derived.Lib.LaidTab
import Derived.Lib.TrailingZeros
import Derived.Maps.AppendAt
import Derived.OpenShut
import Derived.Orders
import Derived.ProofKit
import Derived.RangeFuncRecord
import Derived.SevenTiedAt
import Derived.Stop.Joined
import Derived.Test.YtocpkgckllbjlaaDoorCards
import Derived.Test.YtocpkgckllbjlaaDoorProg
import Derived.Test.YtocpkgckllbjlaaDoorRows
import Derived.Test.YtocpkgckllbjlaaDoorTie
import Derived.Test.YtocpkgckllbjlaaDoorQB74C38
/-
  The first shortest way round: plain. Own work; no program in sight.
-/
namespace Go.Proofs.YtocpkgckllbjlaaDoor
open Go.AM Relation

theorem W_add (R : Rl) : ∀ (a b x y z : Nat), W R a x y → W R b y z → W R (a + b) x z
  | 0, b, x, y, z, h, k => by cases h; rw [Nat.zero_add]; exact k
  | a + 1, b, x, y, z, ⟨c, h1, h2⟩, k => by
    rw [show a + 1 + b = (a + b) + 1 by omega]
    exact ⟨c, h1, W_add R a b c y z h2 k⟩
theorem W_snoc (R : Rl) {n x y z : Nat} (h : W R n x y) (k : R.has y z = true) : W R (n + 1) x z := W_add R n 1 x y z h ⟨z, k, rfl⟩

theorem W_trans {R : Rl} : ∀ {n a b : Nat}, W R (n + 1) a b → TransGen (Pr R) a b
  | 0, a, b, hw => by
    obtain ⟨c, h, e⟩ := hw
    have e' : c = b := e
    subst e'
    exact .single h
  | n + 1, a, b, hw => by
    obtain ⟨c, h, k⟩ := hw
    exact TransGen_trans (.single h) (W_trans k)
theorem trans_W {R : Rl} {a b : Nat} (h : TransGen (Pr R) a b) : ∃ n, W R (n + 1) a b := by
  induction h with
  | single h => exact ⟨0, _, h, rfl⟩
  | tail _ h ih => obtain ⟨n, hn⟩ := ih; exact ⟨n + 1, W_snoc R hn h⟩

open Classical in
/-- Where one goes on, so many steps from the goal. -/
noncomputable def nxtR (R : Rl) (g a k : Nat) : Option Nat := (List.range 64).find? fun b => R.has a b && decide (W R k b g)
/-- The way, each time by the least number. -/
noncomputable def pathR (R : Rl) (g : Nat) : Nat → Nat → List Nat
  | _, 0 => []
  | a, k + 1 => (nxtR R g a (k + 1)).getD 0 :: pathR R g ((nxtR R g a (k + 1)).getD 0) k

theorem pathR_length (R : Rl) (g : Nat) : ∀ k a, (pathR R g a k).length = k
  | 0, _ => rfl
  | k + 1, a => by simp [pathR, pathR_length R g k]

open Classical in
theorem nxtR_some (R : Rl) (g a k : Nat) (h : W R (k + 1) a g) : ∃ b, nxtR R g a k = some b ∧ b < 64 ∧ R.has a b = true ∧ W R k b g := by
  unfold nxtR
  cases hf : (List.range 64).find? (fun b => R.has a b && decide (W R k b g)) with
  | none =>
    obtain ⟨c, h1, h2⟩ := h
    have := List.find?_eq_none.1 hf c (List.mem_range.2 (Rl.has_lt R h1).2)
    simp [h1, h2] at this
  | some b =>
    have h1 := List.find?_some hf
    have h2 := List.mem_of_find?_eq_some hf
    simp only [Bool.and_eq_true, decide_eq_true_eq] at h1
    exact ⟨b, rfl, List.mem_range.1 h2, h1.1, h1.2⟩

/-- What the first shortest way round is. -/
def IsCyc (R : Rl) (x : Option (List Nat)) : Prop :=
  (x = none ∧ ∀ a m, 1 ≤ m → ¬ W R m a a) ∨
  ∃ g k, x = some (g :: pathR R g g k) ∧ W R (k + 1) g g ∧ (∀ a m, 1 ≤ m → m < k + 1 → ¬ W R m a a) ∧ ∀ a, a < g → ¬ W R (k + 1) a a

theorem IsCyc.eq {R : Rl} {x y : Option (List Nat)} (hx : IsCyc R x) (hy : IsCyc R y) : x = y := by
  rcases hx with ⟨rfl, h1⟩ | ⟨g, k, rfl, h1, h2, h3⟩ <;> rcases hy with ⟨rfl, h4⟩ | ⟨g', k', rfl, h4, h5, h6⟩
  · rfl
  · exact absurd h4 (h1 _ _ (by omega))
  · exact absurd h1 (h4 _ _ (by omega))
  · obtain rfl : k = k' := by
      rcases Nat.lt_trichotomy k k' with h | h | h
      · exact absurd h1 (h5 _ _ (by omega) (by omega))
      · exact h
      · exact absurd h4 (h2 _ _ (by omega) (by omega))
    obtain rfl : g = g' := by
      rcases Nat.lt_trichotomy g g' with h | h | h
      · exact absurd h1 (h6 _ h)
      · exact h
      · exact absurd h4 (h3 _ h)
    rfl

theorem cyc_ex (R : Rl) : ∃ x, IsCyc R x := by
  by_cases h : ∃ k, ∃ a, W R (k + 1) a a
  · obtain ⟨k, ⟨a, ha⟩, hk⟩ := least_ex _ h
    obtain ⟨g, hg, hl⟩ := least_ex (fun a => W R (k + 1) a a) ⟨a, ha⟩
    refine ⟨some (g :: pathR R g g k), .inr ⟨g, k, rfl, hg, fun a m hm hl hw => ?_, hl⟩⟩
    obtain ⟨m', rfl⟩ : ∃ m', m = m' + 1 := ⟨m - 1, by omega⟩
    exact hk m' (by omega) ⟨a, hw⟩
  · refine ⟨none, .inl ⟨rfl, fun a m hm hw => h ⟨m - 1, a, ?_⟩⟩⟩
    rwa [show m - 1 + 1 = m by omega]

/-- Which start is the best one so far. -/
def Best (R : Rl) (i b f : Nat) : Prop :=
  (b = 0 ∧ ∀ j, j < i → distR R j j = 0) ∨
  (0 < b ∧ f < i ∧ distR R f f = b ∧ (∀ j, j < i → distR R j j = 0 ∨ b ≤ distR R j j) ∧ ∀ j, j < f → distR R j j = 0 ∨ b < distR R j j)

theorem Best.keep {R : Rl} {i b f : Nat} (h : Best R i b f) (hd : distR R i i = 0 ∨ (b ≠ 0 ∧ b ≤ distR R i i)) : Best R (i + 1) b f := by
  rcases h with ⟨h1, h2⟩ | ⟨h1, h2, h3, h4, h5⟩
  · refine .inl ⟨h1, fun j hj => ?_⟩
    rcases Nat.lt_or_ge j i with h | h
    · exact h2 j h
    · obtain rfl : j = i := by omega
      rcases hd with h | h
      · exact h
      · exact absurd h1 h.1
  · refine .inr ⟨h1, by omega, h3, fun j hj => ?_, h5⟩
    rcases Nat.lt_or_ge j i with h | h
    · exact h4 j h
    · obtain rfl : j = i := by omega
      rcases hd with h | h
      · exact .inl h
      · exact .inr h.2
theorem Best.take {R : Rl} {i b f : Nat} (h : Best R i b f) (hd : distR R i i ≠ 0) (hb : b = 0 ∨ distR R i i < b) : Best R (i + 1) (distR R i i) i := by
  refine .inr ⟨by omega, by omega, rfl, fun j hj => ?_, fun j hj => ?_⟩
  · rcases Nat.lt_or_ge j i with hl | hl
    · rcases h with ⟨h1, h2⟩ | ⟨h1, h2, h3, h4, h5⟩
      · exact .inl (h2 j hl)
      · rcases h4 j hl with h | h
        · exact .inl h
        · exact .inr (by omega)
    · obtain rfl : j = i := by omega
      exact .inr (Nat.le_refl _)
  · rcases h with ⟨h1, h2⟩ | ⟨h1, h2, h3, h4, h5⟩
    · exact .inl (h2 j hj)
    · rcases h4 j hj with h | h
      · exact .inl h
      · exact .inr (by omega)

theorem Best.none {R : Rl} (hR : Rt R) {n f : Nat} (hn : R.n = (n : Int)) (h : Best R n 0 f) : IsCyc R none := by
  refine .inl ⟨rfl, fun a m hm hw => ?_⟩
  rcases h with ⟨_, h⟩ | ⟨h, _⟩
  · obtain ⟨m', rfl⟩ : ∃ m', m = m' + 1 := ⟨m - 1, by omega⟩
    have ha : a < n := by
      have := hR.lt _ _ hw.choose_spec.1
      omega
    rcases distR_spec R a a with h1 | h1
    · exact h1.2 _ hm hw
    · have := h a ha; omega
  · exact absurd h (Nat.lt_irrefl 0)
theorem Best.some {R : Rl} (hR : Rt R) {n f k : Nat} (hn : R.n = (n : Int)) (h : Best R n (k + 1) f) : f < n ∧ W R (k + 1) f f ∧ (∀ a m, 1 ≤ m → m < k + 1 → ¬ W R m a a) ∧ ∀ a, a < f → ¬ W R (k + 1) a a := by
  rcases h with ⟨h, _⟩ | ⟨_, h2, h3, h4, h5⟩
  · omega
  · have hlt : ∀ a m, 1 ≤ m → W R m a a → a < n := by
      intro a m hm hw
      obtain ⟨m', rfl⟩ : ∃ m', m = m' + 1 := ⟨m - 1, by omega⟩
      have := hR.lt _ _ hw.choose_spec.1
      omega
    refine ⟨h2, ?_, fun a m hm hl hw => ?_, fun a ha hw => ?_⟩
    · rcases distR_spec R f f with h | h
      · omega
      · rw [h3] at h; exact h.2.1
    · have ha := hlt a m hm hw
      rcases distR_spec R a a with h | ⟨h6, h7, h8⟩
      · exact h.2 m hm hw
      · rcases h4 a ha with h | h
        · omega
        · rcases Nat.lt_or_ge m (distR R a a) with hml | hml
          · exact h8 m hm hml hw
          · omega
    · have h1 : 1 ≤ k + 1 := by omega
      rcases distR_spec R a a with h | ⟨h6, h7, h8⟩
      · exact h.2 _ h1 hw
      · rcases h5 a ha with h | h
        · omega
        · exact h8 _ h1 h hw

/-- On the way round: how far it is tells where one may go on. -/
theorem way_iff {R : Rl} {g a k j b : Nat} (hk : 1 ≤ k) (h1 : W R j g a) (h2 : ∀ a m, 1 ≤ m → m < j + 1 + k → ¬ W R m a a) (hab : R.has a b = true) : W R k b g ↔ distR R g b = k := by
  constructor
  · intro h
    rcases distR_spec R g b with h3 | ⟨h3, h4, h5⟩
    · exact absurd h (h3.2 k hk)
    · rcases Nat.lt_trichotomy (distR R g b) k with hl | hl | hl
      · have := W_add R (j + 1) (distR R g b) g b g (W_snoc R h1 hab) h4
        exact absurd this (h2 g _ (by omega) (by omega))
      · exact hl
      · exact absurd h (h5 k hk hl)
  · intro h
    rcases distR_spec R g b with h3 | ⟨h3, h4, h5⟩
    · omega
    · rwa [h] at h4
end Go.Proofs.YtocpkgckllbjlaaDoor

/-
  Cycle walked. Own work.
-/
namespace Go.Proofs.YtocpkgckllbjlaaDoor
open Go.AM
set_option maxRecDepth 100000

theorem level_le (R : Rl) (g : Nat) : ∀ n, 1 ≤ n → ∀ x, nxP R g n x → unseen R g (n + 1) + n ≤ 64
  | 1, _, x, hx => by
    have h1 := unseen_64 R g 1
    have := unseen_lt R g 1 (by omega) (Rl.has_lt R hx.2.choose_spec.1).1 hx
    omega
  | n + 2, _, x, hx => by
    obtain ⟨c, hc, _⟩ := (now_step R g (n + 2) x (by omega) hx.1).2 hx.2
    have h1 : unseen R g (n + 2) + (n + 1) ≤ 64 := level_le R g (n + 1) (by omega) c hc
    have h2 : unseen R g (n + 2 + 1) < unseen R g (n + 2) := unseen_lt R g (n + 2) (by omega) (Rl.has_lt R hx.2.choose_spec.1).1 hx
    omega
theorem dist_le (R : Rl) (g b : Nat) : distR R g b ≤ 64 := by
  rcases distR_spec R g b with h | ⟨h1, h2, h3⟩
  · omega
  · have hn : nxP R g (distR R g b) b := by
      refine ⟨?_, h2⟩
      rcases dst_spec R g (distR R g b) b with h | ⟨h4, h5, h6, _⟩
      · exact h.1
      · exact absurd h6 (h3 _ h4 h5)
    have := level_le R g _ h1 b hn
    omega

open Classical in
theorem find_way {R : Rl} {g a k j : Nat} (hk : 1 ≤ k) (h1 : W R j g a) (h2 : ∀ a m, 1 ≤ m → m < j + 1 + k → ¬ W R m a a) :
    (bitsL (R.row a)).find? (fun b => decide (distR R g b = k)) = nxtR R g a k := by
  unfold nxtR bitsL
  rw [List.find?_filter]
  congr 1
  funext b
  rw [Bool.eq_iff_iff]
  simp only [Bool.and_eq_true, decide_eq_true_eq]
  exact ⟨fun ⟨h, e⟩ => ⟨h, (way_iff hk h1 h2 h).2 e⟩, fun ⟨h, e⟩ => ⟨h, (way_iff hk h1 h2 h).1 e⟩⟩

theorem encN_snoc {l : List Nat} {j : Nat} (hl : l.length = j) (x : Nat) : (encN l).take (j * 1) ++ [Value.int .i64 (x : Int)] = encN (l ++ [x]) := by
  rw [Nat.mul_one, List.take_of_length_le (by simp [hl]), encN_append]; rfl

abbrev cy2T (bst a j : Nat) : List (Nat × AV) := [(1, .ptr 0 0), (4, .v (.int .i64 (bst : Int))), (8, .ptr 1 0), (9, .sl 20 1 0 j), (10, .v (.int .i64 (a : Int)))]
abbrev cy2B (R : Rl) (f : Nat → Nat) (l : List Nat) (j : Nat) : List (Nat × Blk) := [(0, .cells 25 [.vals 65 (relV R)]), (1, .cells 88 [.vals 64 (outV f)]), (20, .row 3 1 j (encN l))]

set_option maxHeartbeats 600000 in
open Classical in
theorem cycle_ok (r : Rl) (x : Option (List Nat)) (hx : IsCyc (rightL r) x) (w : World) (hT : TabAt w) (h0 : 0 < w.heap.size) : HandsZ Tryd.prog 57 [encRel r] w (exZ x) (exH x) := by
  refine HandsZ.of_run Tryd.func57 rfl (by show 1 ≤ 77; decide) ?_
  refine RunF_sound tab_ok noX_local 100 [] _ _ rfl ?_ ?_
  · simp [segsVals, relV_one']
  refine Run.callFn noX_local rfl rfl rfl rfl rfl rfl rfl right_enters rfl (fun w' _ => right_ok r w') ?_
  have hR := rt_right r
  generalize rightL r = R at hx hR
  obtain ⟨n, hn⟩ : ∃ n : Nat, R.n = (n : Int) := ⟨R.n.toNat, by have := hR.lo; omega⟩
  have hn64 : n ≤ 64 := by have := hR.hi; omega
  have hfar : ∀ g : Nat, g < 64 → ∀ w', Agree (fun _ => False) w w' → Gives Tryd.prog 88 [encRel R, .int .i64 (g : Int)] w' (.agg (outV (distR R g)).toArray) :=
    fun g hg w' hA => far_ok R hR g hg w' (hT.agree hA (fun f => f)) (Nat.lt_of_lt_of_le h0 hA.size)
  refine RunF_sound tab_ok noX_local 100 [] _ _ rfl ?_ ?_
  · simp [segsVals, relV_one', relV_tail_one]
  suffices H : ∀ (m i b f : Nat), i + m = n → Best R i b f → Run _ _ ⟨[(1, .ptr 0 0), (4, .v (.int .i64 (b : Int))), (5, .v (.int .i64 (f : Int))), (16, .v (.int .i64 (n : Int))), (17, .v (.int .i64 (i : Int)))], [(0, .cells 25 [.vals 65 (relV R)])], 1⟩ by
    refine Run.to (H n 0 0 0 (by omega) (.inl ⟨rfl, fun j hj => absurd hj (Nat.not_lt_zero _)⟩)) ⟨rfl, rfl, rfl, ?_, rfl, trivial⟩ ⟨rfl, trivial⟩
    exact congrArg (fun z : Int => some (AV.v (.int .i64 z))) hn
  intro m
  induction m with
  | zero =>
    intro i b f hi hb
    obtain rfl : i = n := by omega
    rcases b with _ | k
    · obtain rfl : x = none := hx.eq (hb.none hR hn)
      refine RunF_sound tab_ok noX_local 100 [false, true] _ _ rfl ?_ ?_
      · simp
      refine Run.retH tab_ok [] Tryd.func57 rfl ?_ rfl trivial rfl
      simp
    · obtain ⟨hf, h1, h2, h3⟩ := hb.some hR hn
      obtain rfl : x = some (f :: pathR R f f k) := hx.eq (.inr ⟨f, k, rfl, h1, h2, h3⟩)
      have hf64 : f < 64 := by omega
      have hk64 : k + 1 ≤ 64 := by
        have := dist_le R f f
        rwa [distR_at (k := k + 1) (by omega) h1 (fun m hm hl => h2 f m hm hl)] at this
      refine RunF_sound tab_ok noX_local 100 [false, false] _ _ rfl ?_ ?_
      · simp; omega
      refine Run.callFn noX_local rfl rfl rfl rfl rfl rfl rfl far_enters rfl (fun w' hA => hfar f hf64 w' hA) ?_
      have z64 : z88.length = 64 := rfl
      refine RunF_sound tab_ok noX_local 100 [] _ _ rfl ?_ ?_
      · simp [segsVals, z64, outV_one', fillL, Value.cells, splice, repL, maxLen]
      suffices H2 : ∀ (k' a j : Nat) (l : List Nat), l.length = j → j + k' = k + 1 → 1 ≤ j → W R (j - 1) f a → W R (k' + 1) a f → l ++ pathR R f a k' = f :: pathR R f f k →
          Run _ _ ⟨cy2T (k + 1) a j, cy2B R (distR R f) l j, 21⟩ by
        exact Run.toR [(20, 2)] (H2 k f 1 [f] rfl (by omega) (by omega) rfl h1 rfl) ⟨rfl, rfl, rfl, rfl, rfl, trivial⟩ ⟨rfl, rfl, rfl, trivial⟩ rfl
      intro k'
      induction k' with
      | zero =>
        intro a j l hl hj h1j _ _ hpath
        have e : l = f :: pathR R f f k := by rw [← hpath]; simp [pathR]
        have ej : j = (f :: pathR R f f k).length := by rw [← e, hl]
        subst e
        refine RunF_sound tab_ok noX_local 100 [false] _ _ rfl ?_ ?_
        · simp; omega
        refine Run.retH tab_ok [(0, 20)] Tryd.func57 rfl ?_ ?_ ⟨?_, trivial⟩ rfl
        · simp
        · rw [ej]; rfl
        · rw [ej]; rfl
      | succ k' ihk =>
        intro a j l hl hj h1j hwa hwb hpath
        have ha64 : a < 64 := (Rl.has_lt R hwb.choose_spec.1).1
        obtain ⟨b, hb, hb64, hab, hwbb⟩ := nxtR_some R f a (k' + 1) hwb
        have hfind := find_way (R := R) (g := f) (a := a) (k := k' + 1) (j := j - 1) (by omega) hwa (by rw [show j - 1 + 1 + (k' + 1) = k + 1 by omega]; exact h2)
        rw [hb] at hfind
        have hpath' : (l ++ [b]) ++ pathR R f b k' = f :: pathR R f f k := by
          rw [← hpath, pathR, hb]; simp
        refine RunF_sound tab_ok noX_local 100 [true] _ _ rfl ?_ ?_
        · simp [relV_get _ _ ha64, intAt_row _ _ ha64]; omega
        suffices H3 : ∀ (m : Nat) (y : BitVec 64), (bitsL y).length = m → (bitsL y).find? (fun x => decide (distR R f x = k' + 1)) = some b →
            Run _ _ ⟨[(1, .ptr 0 0), (4, .v (.int .i64 ((k + 1 : Nat) : Int))), (8, .ptr 1 0), (9, .sl 20 1 0 j), (10, .v (.int .i64 (a : Int))), (11, .v (.int .u64 (un y)))], cy2B R (distR R f) l j, 21⟩ by
          refine Run.to (H3 _ (R.row a) rfl hfind) ⟨rfl, rfl, rfl, rfl, rfl, ?_, trivial⟩ ⟨rfl, rfl, rfl, trivial⟩
          have e1 : intAt (relV R) (1 + a) = un (R.row a) := intAt_row _ _ ha64
          simp [lk, e1]
        intro m3
        induction m3 with
        | zero =>
          intro y hm hfd
          have : bitsL y = [] := List.length_eq_zero_iff.1 hm
          rw [this] at hfd; cases hfd
        | succ m3 ih3 =>
          intro y hm hfd
          have hy : y ≠ 0#64 := fun h => by rw [h, bitsL_zero] at hm; cases hm
          have hty := tz_lt y hy
          rw [bitsL_cons y hy] at hm hfd
          have hget := outV_get (distR R f) (tz y) hty
          have hgi : intAt (outV (distR R f)) (tz y) = (distR R f (tz y) : Int) := by simp [intAt, hget]
          refine RunF_sound tab_ok noX_local 100 [true] _ _ rfl ?_ ?_
          · simp [hy]
          refine Run.callFn (r := .int .i64 (tz y : Int)) noX_local rfl rfl rfl rfl rfl rfl rfl tz_enters rfl (fun w' hw' => by have := tz_ok y w' (hT.agree hw' (fun f => f)); rwa [tzI, if_neg hy] at this) ?_
          have hsub : IntKind.i64.wrap ((k : Int) + 1 - (j : Int)) = (k' : Int) + 1 := by rw [wrap_i64] <;> omega
          by_cases c : distR R f (tz y) = k' + 1
          · rw [List.find?_cons_of_pos (by simpa using c)] at hfd
            obtain rfl : tz y = b := Option.some.inj hfd
            refine RunF_sound tab_ok noX_local 100 [true] _ _ rfl ?_ ?_
            · simp [hget, hgi, hsub, c, fillL, Value.cells, splice, repL, maxLen, Value.oneCell']
              omega
            refine Run.toR [(20, 22)] (ihk (tz y) (j + 1) (l ++ [tz y]) (by simp [hl]) (by omega) (by omega) (by rw [show j + 1 - 1 = (j - 1) + 1 by omega]; exact W_snoc R hwa hab) hwbb hpath') ⟨rfl, rfl, rfl, rfl, rfl, trivial⟩ ⟨rfl, rfl, ?_, trivial⟩ rfl
            refine congrArg (fun v => some (Blk.row 3 1 (j + 1) v)) ?_
            exact encN_snoc hl (tz y)
          · rw [List.find?_cons_of_neg (by simpa using c)] at hfd
            refine RunF_sound tab_ok noX_local 100 [false] _ _ rfl ?_ ?_
            · simp [hget, hgi, hsub]; omega
            exact Run.to (ih3 (dropLow y) (by simpa using hm) hfd) ⟨rfl, rfl, rfl, rfl, rfl, u64_eq (by rw [sub1_un, band_un]; rfl), trivial⟩ ⟨rfl, rfl, rfl, trivial⟩
  | succ m ih =>
    intro i b f hi hb
    have hi64 : i < 64 := by omega
    refine RunF_sound tab_ok noX_local 100 [true] _ _ rfl ?_ ?_
    · simp; omega
    refine Run.callFn noX_local rfl rfl rfl rfl rfl rfl rfl far_enters rfl (fun w' hA => hfar i hi64 w' hA) ?_
    have hget := outV_get (distR R i) i hi64
    have hgi : intAt (outV (distR R i)) i = (distR R i i : Int) := by simp [intAt, hget]
    by_cases c0 : distR R i i = 0
    · refine RunF_sound tab_ok noX_local 100 [false] _ _ rfl ?_ ?_
      · simp [hget, hgi, c0]; omega
      exact Run.to (ih (i + 1) b f (by omega) (hb.keep (.inl c0))) ⟨rfl, rfl, rfl, rfl, i64_eq (wrap_succ (by omega)), trivial⟩ ⟨rfl, trivial⟩
    · by_cases c1 : b = 0
      · refine RunF_sound tab_ok noX_local 100 [true, true] _ _ rfl ?_ ?_
        · simp [hget, hgi, c1]; omega
        refine Run.to (ih (i + 1) (distR R i i) i (by omega) (hb.take c0 (.inl c1))) ⟨rfl, ?_, rfl, rfl, i64_eq (wrap_succ (by omega)), trivial⟩ ⟨rfl, trivial⟩
        simp [lk, hgi]
      · by_cases c2 : distR R i i < b
        · refine RunF_sound tab_ok noX_local 100 [true, false, true] _ _ rfl ?_ ?_
          · simp [hget, hgi, c1, c2]; omega
          refine Run.to (ih (i + 1) (distR R i i) i (by omega) (hb.take c0 (.inr c2))) ⟨rfl, ?_, rfl, rfl, i64_eq (wrap_succ (by omega)), trivial⟩ ⟨rfl, trivial⟩
          simp [lk, hgi]
        · refine RunF_sound tab_ok noX_local 100 [true, false, false] _ _ rfl ?_ ?_
          · simp [hget, hgi, c1]; omega
          exact Run.to (ih (i + 1) b f (by omega) (hb.keep (.inr ⟨c1, by omega⟩))) ⟨rfl, rfl, rfl, rfl, i64_eq (wrap_succ (by omega)), trivial⟩ ⟨rfl, trivial⟩
theorem cycle_enters : Enters Tryd.prog 57 := enters_mk Tryd.func57 (by decide) rfl
end Go.Proofs.YtocpkgckllbjlaaDoor

/-
  Parts, plain: the classes, each once, by its least member. Own work.
-/
namespace Go.Proofs.YtocpkgckllbjlaaDoor
open Go.AM
set_option maxRecDepth 100000

/-- Both ways. -/
noncomputable def symR (R : Rl) : Rl := twoR 1 (optL (clos R)) (invR (optL (clos R)))
theorem symR_rt {R : Rl} (hR : Rt R) : Rt (symR R) := twoR_rt 1 (optL_rt (clos_rt hR)) (invR_rt (optL_rt (clos_rt hR))) (invR_n _).symm
theorem symR_n {R : Rl} (hR : Rt R) : (symR R).n = R.n := by
  rw [symR, twoR_n 1 (optL_rt (clos_rt hR)) (invR_rt (optL_rt (clos_rt hR))) (invR_n _).symm, optL_n (clos_rt hR), clos_n]
theorem symR_has {R : Rl} (hR : Rt R) (a b : Nat) : (symR R).has a b = true ↔ (a = b ∧ (a : Int) < R.n) ∨ ((clos R).has a b = true ∧ (clos R).has b a = true) := by
  rw [symR, meet_has (optL_rt (clos_rt hR)) (invR_rt (optL_rt (clos_rt hR))) (invR_n _).symm, invR_has, optL_has (clos_rt hR), optL_has (clos_rt hR), clos_n]
  constructor
  · rintro ⟨h1 | h1, h2 | h2⟩
    · exact .inr ⟨h1, h2⟩
    · exact .inl ⟨h2.1.symm, by rw [← h2.1]; exact h2.2⟩
    · exact .inl h1
    · exact .inl h1
  · rintro (⟨rfl, h⟩ | ⟨h1, h2⟩)
    · exact ⟨.inr ⟨rfl, h⟩, .inr ⟨rfl, h⟩⟩
    · exact ⟨.inl h1, .inl h2⟩

/-- An equivalence on the numbers below n. -/
structure Eqv (V : Rl) (n : Nat) : Prop where
  refl : ∀ a, a < n → V.has a a = true
  symm : ∀ a b, V.has a b = true → V.has b a = true
  trans : ∀ a b c, V.has a b = true → V.has b c = true → V.has a c = true
  lt : ∀ a b, V.has a b = true → a < n ∧ b < n
theorem symR_eqv {R : Rl} (hR : Rt R) {n : Nat} (hn : R.n = (n : Int)) : Eqv (symR R) n where
  refl a h := (symR_has hR a a).2 (.inl ⟨rfl, by omega⟩)
  symm a b h := by
    rcases (symR_has hR a b).1 h with ⟨rfl, _⟩ | ⟨h1, h2⟩
    · exact h
    · exact (symR_has hR b a).2 (.inr ⟨h2, h1⟩)
  trans a b c h1 h2 := by
    rcases (symR_has hR a b).1 h1 with ⟨rfl, _⟩ | ⟨h3, h4⟩
    · exact h2
    · rcases (symR_has hR b c).1 h2 with ⟨rfl, _⟩ | ⟨h5, h6⟩
      · exact h1
      · exact (symR_has hR a c).2 (.inr ⟨clos_trans hR _ _ _ h3 h5, clos_trans hR _ _ _ h6 h4⟩)
  lt a b h := by
    have := (symR_rt hR).lt _ _ h
    rw [symR_n hR] at this
    omega

/-- Is it the least of its class? -/
def leadB (V : Rl) (v : Nat) : Bool := (List.range v).all fun u => !V.has u v
theorem leadB_iff (V : Rl) (v : Nat) : leadB V v = true ↔ ∀ u, u < v → V.has u v = false := by
  simp [leadB]
/-- The classes of those below i. -/
def partsU (V : Rl) (i : Nat) : List (BitVec 64) := ((List.range i).filter (leadB V)).map V.row
theorem partsU_succ (V : Rl) (i : Nat) : partsU V (i + 1) = partsU V i ++ if leadB V i then [V.row i] else [] := by
  unfold partsU
  rw [List.range_succ, List.filter_append, List.map_append]
  congr 1
  cases h : leadB V i <;> simp [h]
theorem partsU_len (V : Rl) (i : Nat) : (partsU V i).length ≤ i := by
  unfold partsU
  rw [List.length_map]
  exact Nat.le_trans (List.length_filter_le _ _) (by simp)

/-- Who is in the classes so far. -/
def Seen (V : Rl) (i : Nat) (d : BitVec 64) : Prop := ∀ v, d.getLsbD v = true ↔ ∃ u, u < i ∧ V.has u v = true
theorem Seen.iff {V : Rl} {i : Nat} {d : BitVec 64} (h : Seen V i d) (v : Nat) : d.getLsbD v = true ↔ ∃ u, u < i ∧ V.has u v = true := h v
theorem seen_zero (V : Rl) : Seen V 0 0#64 := fun v => by
  rw [BitVec.getLsbD_zero]
  exact ⟨fun h => (by cases h), fun ⟨u, h, _⟩ => absurd h (Nat.not_lt_zero _)⟩
theorem Seen.lead {V : Rl} {i : Nat} {d : BitVec 64} (h : Seen V i d) : leadB V i = !d.getLsbD i := by
  cases hd : d.getLsbD i with
  | true =>
    obtain ⟨u, h1, h2⟩ := (h.iff i).1 hd
    cases hl : leadB V i with
    | false => rfl
    | true => rw [(leadB_iff V i).1 hl u h1] at h2; cases h2
  | false =>
    refine (leadB_iff V i).2 fun u hu => ?_
    cases hv : V.has u i with
    | false => rfl
    | true => rw [(h.iff i).2 ⟨u, hu, hv⟩] at hd; cases hd
theorem Seen.skip {V : Rl} {n i : Nat} {d : BitVec 64} (hV : Eqv V n) (h : Seen V i d) (hi : d.getLsbD i = true) : Seen V (i + 1) d := fun v => by
  rw [h.iff]
  constructor
  · rintro ⟨u, h1, h2⟩; exact ⟨u, by omega, h2⟩
  · rintro ⟨u, h1, h2⟩
    rcases Nat.lt_or_ge u i with hl | hl
    · exact ⟨u, hl, h2⟩
    · obtain rfl : u = i := by omega
      obtain ⟨x, h3, h4⟩ := (h.iff u).1 hi
      exact ⟨x, h3, hV.trans _ _ _ h4 h2⟩
theorem Seen.take {V : Rl} {i : Nat} {d : BitVec 64} (h : Seen V i d) : Seen V (i + 1) (d ||| V.row i) := fun v => by
  rw [BitVec.getLsbD_or, Bool.or_eq_true, h.iff]
  constructor
  · rintro (⟨u, h1, h2⟩ | h2)
    · exact ⟨u, by omega, h2⟩
    · exact ⟨i, by omega, h2⟩
  · rintro ⟨u, h1, h2⟩
    rcases Nat.lt_or_ge u i with hl | hl
    · exact .inl ⟨u, hl, h2⟩
    · obtain rfl : u = i := by omega
      exact .inr h2

def encW (l : List (BitVec 64)) : List Value := l.map fun x => Value.int .u64 (un x)
@[simp] theorem encW_length (l : List (BitVec 64)) : (encW l).length = l.length := by simp [encW]
theorem encW_append (l m : List (BitVec 64)) : encW (l ++ m) = encW l ++ encW m := by simp [encW]
/-- A list of sets, as a slice: nothing, or a row. -/
def pZ : List (BitVec 64) → AV
  | [] => .v (.slice none 0 0)
  | l => .sl 20 1 0 l.length
def pH : List (BitVec 64) → List (Nat × Blk)
  | [] => []
  | l => [(20, .row 37 1 l.length (encW l))]
noncomputable def partsL (r : Rl) : List (BitVec 64) := partsU (symR (rightL r)) (rightL r).n.toNat
end Go.Proofs.YtocpkgckllbjlaaDoor

/-
  Parts walked. Own work.
-/
namespace Go.Proofs.YtocpkgckllbjlaaDoor
open Go.AM
set_option maxRecDepth 100000

theorem bit_eq0 (x : BitVec 64) (b : Int) : (band .u64 (shrI .u64 (un x) b) 1 == 0) = !x.getLsbD b.toNat := by
  rw [shr_un, Bool.eq_iff_iff, beq_iff_eq, bit0 x b.toNat]
  simp

theorem encW_snoc {l : List (BitVec 64)} {j : Nat} (hl : l.length = j) (x : BitVec 64) : (encW l).take (j * 1) ++ [Value.int .u64 (un x)] = encW (l ++ [x]) := by
  rw [Nat.mul_one, List.take_of_length_le (by simp [hl]), encW_append]; rfl
theorem pZ_cons (x : BitVec 64) (l : List (BitVec 64)) : pZ (x :: l) = .sl 20 1 0 (l.length + 1) := rfl

theorem parts_ok (r : Rl) (w : World) (hT : TabAt w) (h0 : 0 < w.heap.size) : HandsZ Tryd.prog 59 [encRel r] w (pZ (partsL r)) (pH (partsL r)) := by
  refine HandsZ.of_run Tryd.func59 rfl (by show 1 ≤ 39; decide) ?_
  have hR := rt_right r
  have k0 : ∀ w', Gives Tryd.prog 36 [encRel r] w' (encRel (optL (clos (rightL r)))) := fun w' => star_ok r w'
  have hV : ∀ n : Nat, (rightL r).n = (n : Int) → Eqv (symR (rightL r)) n := fun n hn => symR_eqv hR hn
  have hVn := symR_n hR
  have hS := optL_rt (clos_rt hR)
  have hp : partsL r = partsU (symR (rightL r)) (rightL r).n.toNat := rfl
  have hsym : symR (rightL r) = twoR 1 (optL (clos (rightL r))) (invR (optL (clos (rightL r)))) := rfl
  rw [hp]
  obtain ⟨n, hn⟩ : ∃ n : Nat, (rightL r).n = (n : Int) := ⟨(rightL r).n.toNat, by have := hR.lo; omega⟩
  have hn64 : n ≤ 64 := by have := hR.hi; omega
  replace hV := hV n hn
  rw [hn, Int.toNat_natCast]
  rw [hn] at hVn
  clear hp
  generalize symR (rightL r) = V at *
  generalize optL (clos (rightL r)) = S at *
  obtain ⟨I, hI⟩ : ∃ I, I = invR S := ⟨_, rfl⟩
  have k1 : ∀ w', Agree (fun _ => False) w w' → Gives Tryd.prog 26 [encRel S] w' (encRel I) := fun w' hA => by
    rw [hI]; exact inverseT hS w' (hT.agree hA (fun f => f)) (Nat.lt_of_lt_of_le h0 hA.size)
  have k2 : ∀ w', Gives Tryd.prog 23 [encRel S, encRel I] w' (encRel V) := fun w' => by
    rw [hsym, ← hI]; exact meetT S I w'
  refine RunF_sound tab_ok noX_local 100 [] _ _ rfl ?_ ?_
  · simp
  refine Run.callFn noX_local rfl rfl rfl rfl rfl rfl rfl star_enters rfl (fun w' _ => k0 w') ?_
  refine Run.to (t' := [(1, .ptr 0 0), (9, .v (encRel S))]) (h' := [(0, .cells 25 [.vals 65 (relV r)])]) (n' := 1) ?_ ⟨rfl, rfl, trivial⟩ ⟨rfl, trivial⟩
  refine RunF_sound tab_ok noX_local 100 [] _ _ rfl ?_ ?_
  · simp [segsVals, relV_one']
  refine' Run.join (todo' := _) [(4, .ptr 2 0)] [(2, .cells 25 [.vals 65 (relV V)])] 3 ?_ ?_
  rotate_left
  · intro J
    refine Run.drawF2 noX_local rfl 4 2 3 rfl rfl [] [(1, .cells 25 [.vals 65 (relV S)])] rfl rfl rfl rfl rfl rfl ⟨rfl, trivial⟩ ?_ ?_ ?_
    · refine RunOF_sound tab_ok noX_local rfl rfl 200 [] _ _ rfl ?_ ?_
      · simp [inT, lk]
      refine RunO.callFn noX_local rfl rfl rfl rfl rfl rfl rfl rfl inverse_enters rfl (fun w' hA => k1 w' hA) ?_
      refine RunOF_sound tab_ok noX_local rfl rfl 200 [] _ _ rfl ?_ ?_
      · simp
      refine RunO.callFn noX_local rfl rfl rfl rfl rfl rfl rfl rfl meet_enters rfl (fun w' _ => k2 w') ?_
      refine RunOF_sound tab_ok noX_local rfl rfl 200 [] _ _ rfl ?_ ?_
      · simp [inT, lk, segsVals, relV_one']
      refine RunO.done ?_
      refine J _ ?_ ?_
      · exact ⟨⟨_, rfl, fun M => rfl⟩, trivial⟩
      · refine ⟨?_, trivial⟩; simp [lk]
    · refine RunOF_sound tab_ok noX_local rfl rfl 200 [] _ _ rfl ?_ ?_
      · simp
      refine RunO.callFn noX_local rfl rfl rfl rfl rfl rfl rfl rfl inverse_enters rfl (fun w' hA => k1 w' hA) ?_
      refine RunOF_sound tab_ok noX_local rfl rfl 200 [] _ _ rfl ?_ ?_
      · simp [inT, lk]
      refine RunO.callFn noX_local rfl rfl rfl rfl rfl rfl rfl rfl meet_enters rfl (fun w' _ => k2 w') ?_
      refine RunOF_sound tab_ok noX_local rfl rfl 200 [] _ _ rfl ?_ ?_
      · simp [inT, lk, segsVals, relV_one']
      refine RunO.done ?_
      refine J _ ?_ ?_
      · exact ⟨⟨_, rfl, fun M => rfl⟩, trivial⟩
      · refine ⟨?_, trivial⟩; simp [lk]
    · refine RunOF_sound tab_ok noX_local rfl rfl 200 [] _ _ rfl ?_ ?_
      · simp
      refine RunO.callFn noX_local rfl rfl rfl rfl rfl rfl rfl rfl inverse_enters rfl (fun w' hA => k1 w' hA) ?_
      refine RunOF_sound tab_ok noX_local rfl rfl 200 [] _ _ rfl ?_ ?_
      · simp
      refine RunO.callFn noX_local rfl rfl rfl rfl rfl rfl rfl rfl meet_enters rfl (fun w' _ => k2 w') ?_
      refine RunOF_sound tab_ok noX_local rfl rfl 200 [] _ _ rfl ?_ ?_
      · simp [inT, lk, segsVals, relV_one']
      refine RunO.done ?_
      refine J _ ?_ ?_
      · exact ⟨⟨_, rfl, fun M => rfl⟩, trivial⟩
      · refine ⟨?_, trivial⟩; simp [lk]
  clear k0 k1 k2 hsym hI hS
  refine RunF_sound tab_ok noX_local 100 [] _ _ rfl ?_ ?_
  · simp
  suffices H : ∀ (m i : Nat) (d : BitVec 64) (l : List (BitVec 64)), i + m = n → Seen V i d → l = partsU V i →
      Run _ _ ⟨[(4, .ptr 2 0), (5, .v (.int .u64 (un d))), (6, pZ l), (15, .v (.int .i64 (n : Int))), (16, .v (.int .i64 (i : Int)))], (2, .cells 25 [.vals 65 (relV V)]) :: pH l, 21⟩ by
    refine Run.to (H n 0 0#64 [] (by omega) (seen_zero V) rfl) ⟨rfl, rfl, rfl, ?_, rfl, trivial⟩ ⟨rfl, trivial⟩
    exact congrArg (fun z : Int => some (AV.v (.int .i64 z))) hVn
  intro m
  induction m with
  | zero =>
    intro i d l hi hd hl
    obtain rfl : i = n := by omega
    rw [← hl]
    rcases l with _ | ⟨x, l⟩
    · refine RunF_sound tab_ok noX_local 100 [false] _ _ rfl ?_ ?_
      · simp
      refine Run.retH tab_ok [] Tryd.func59 rfl ?_ rfl trivial rfl
      simp
    · refine RunF_sound tab_ok noX_local 100 [false] _ _ rfl ?_ ?_
      · simp
      refine Run.retH tab_ok [(20, 20)] Tryd.func59 rfl ?_ rfl ⟨rfl, trivial⟩ rfl
      simp
  | succ m ih =>
    intro i d l hi hd hl
    have hi64 : i < 64 := by omega
    have hb := bit_eq0 d (i : Int)
    rw [Int.toNat_natCast, shr_un, Int.toNat_natCast] at hb
    have hlead := hd.lead
    have hll : l.length ≤ i := by rw [hl]; exact partsU_len V i
    cases hbit : d.getLsbD i with
    | true =>
      rw [hbit] at hb hlead
      have hb0 : ¬ band .u64 (un (d >>> i)) 1 = 0 := by simpa using hb
      have hl' : l = partsU V (i + 1) := by rw [partsU_succ, hlead, hl]; simp
      have step := ih (i + 1) d l (by omega) (hd.skip hV hbit) hl'
      rcases l with _ | ⟨x, l⟩
      · refine RunF_sound tab_ok noX_local 100 [true, false] _ _ rfl ?_ ?_
        · simp [hb0]; omega
        exact Run.to step ⟨rfl, rfl, rfl, rfl, i64_eq (wrap_succ (by omega)), trivial⟩ ⟨rfl, trivial⟩
      · refine RunF_sound tab_ok noX_local 100 [true, false] _ _ rfl ?_ ?_
        · simp [hb0]; omega
        exact Run.to step ⟨rfl, rfl, rfl, rfl, i64_eq (wrap_succ (by omega)), trivial⟩ ⟨rfl, rfl, trivial⟩
    | false =>
      rw [hbit] at hb hlead
      have hb0 : band .u64 (un (d >>> i)) 1 = 0 := by simpa using hb
      have hl' : l ++ [V.row i] = partsU V (i + 1) := by rw [partsU_succ, hlead, hl]; simp
      have step := ih (i + 1) (d ||| V.row i) (l ++ [V.row i]) (by omega) hd.take hl'
      have eg := relV_get V i hi64
      have ei := intAt_row V i hi64
      have ei' : intAt (relV V) (0 + 1 - 0 + ((i : Nat) : Int).toNat * 1) = un (V.row i) := by rw [show 0 + 1 - 0 + ((i : Nat) : Int).toNat * 1 = 1 + i by simp]; exact ei
      rcases l with _ | ⟨x, l⟩
      · refine RunF_sound tab_ok noX_local 100 [true, true] _ _ rfl ?_ ?_
        · simp [hb0, eg, ei, fillL, Value.cells, splice, repL, maxLen, Value.oneCell']; omega
        refine Run.toR [(20, 22)] step ⟨rfl, u64_eq ?_, rfl, rfl, i64_eq (wrap_succ (by omega)), trivial⟩ ⟨rfl, ?_, trivial⟩ rfl
        · simp [ei, bor_un]
        · show _ = some (Blk.row 37 1 1 [Value.int .u64 (un (V.row i))])
          simp only [ei']; rfl
      · refine RunF_sound tab_ok noX_local 100 [true, true] _ _ rfl ?_ ?_
        · simp [hb0, eg, ei, fillL, Value.cells, splice, repL, maxLen, Value.oneCell']; simp at hll; omega
        refine Run.toR [(20, 22)] step ⟨rfl, u64_eq ?_, ?_, rfl, i64_eq (wrap_succ (by omega)), trivial⟩ ⟨rfl, ?_, trivial⟩ rfl
        · simp [ei, bor_un]
        · refine congrArg (fun k => some (AV.sl 22 1 0 k)) ?_
          simp
        · have e2 : (x :: l ++ [V.row i]).length = l.length + 1 + 1 := by simp
          show _ = some (Blk.row 37 1 (x :: l ++ [V.row i]).length (encW (x :: l ++ [V.row i])))
          rw [e2, ← encW_snoc (j := l.length + 1) rfl]; simp only [ei']; rfl
theorem parts_enters : Enters Tryd.prog 59 := enters_mk Tryd.func59 (by decide) rfl
end Go.Proofs.YtocpkgckllbjlaaDoor

/-
  The reference's Parts. Own work.
-/
namespace Go.Proofs.YtocpkgckllbjlaaDoor
open Go.AM
set_option maxRecDepth 100000

/-- The members of i's class below j. -/
def Mem (V : Rl) (i j : Nat) (x : BitVec 64) : Prop := ∀ v, x.getLsbD v = true ↔ v < j ∧ V.has i v = true
/-- None of them lies below i. -/
def Low (V : Rl) (i j : Nat) (b : Bool) : Prop := b = true ↔ ∀ v, v < j → V.has i v = true → i ≤ v
theorem mem_zero (V : Rl) (i : Nat) : Mem V i 0 0#64 := fun v => by
  rw [BitVec.getLsbD_zero]
  exact ⟨fun h => (by cases h), fun h => absurd h.1 (Nat.not_lt_zero _)⟩
theorem low_zero (V : Rl) (i : Nat) : Low V i 0 true := ⟨fun _ _ h => absurd h (Nat.not_lt_zero _), fun _ => rfl⟩
theorem Mem.skip {V : Rl} {i j : Nat} {x : BitVec 64} (h : Mem V i j x) (hv : ¬ V.has i j = true) : Mem V i (j + 1) x := fun v => by
  rw [h v]
  constructor
  · rintro ⟨h1, h2⟩; exact ⟨by omega, h2⟩
  · rintro ⟨h1, h2⟩
    refine ⟨?_, h2⟩
    rcases Nat.lt_or_ge v j with hl | hl
    · exact hl
    · obtain rfl : v = j := by omega
      exact absurd h2 hv
theorem Low.skip {V : Rl} {i j : Nat} {b : Bool} (h : Low V i j b) (hv : ¬ V.has i j = true) : Low V i (j + 1) b := by
  unfold Low at *
  rw [h]
  constructor
  · intro h1 v h2 h3
    rcases Nat.lt_or_ge v j with hl | hl
    · exact h1 v hl h3
    · obtain rfl : v = j := by omega
      exact absurd h3 hv
  · intro h1 v h2 h3; exact h1 v (by omega) h3
theorem Mem.take {V : Rl} {i j : Nat} {x : BitVec 64} (h : Mem V i j x) (hj : j < 64) (hv : V.has i j = true) : Mem V i (j + 1) (x ||| 1#64 <<< j) := fun v => by
  rw [BitVec.getLsbD_or, Bool.or_eq_true, h v, one_shl_get j v hj, decide_eq_true_eq]
  constructor
  · rintro (⟨h1, h2⟩ | rfl)
    · exact ⟨by omega, h2⟩
    · exact ⟨by omega, hv⟩
  · rintro ⟨h1, h2⟩
    rcases Nat.lt_or_ge v j with hl | hl
    · exact .inl ⟨hl, h2⟩
    · exact .inr (by omega)
theorem Low.take {V : Rl} {i j : Nat} {b : Bool} (h : Low V i j b) (hv : V.has i j = true) : Low V i (j + 1) (b && decide (i ≤ j)) := by
  unfold Low at *
  rw [Bool.and_eq_true, h, decide_eq_true_eq]
  constructor
  · rintro ⟨h1, h4⟩ v h2 h3
    rcases Nat.lt_or_ge v j with hl | hl
    · exact h1 v hl h3
    · obtain rfl : v = j := by omega
      exact h4
  · intro h1; exact ⟨fun v h2 h3 => h1 v (by omega) h3, h1 j (by omega) hv⟩
theorem Mem.done {V : Rl} {n i : Nat} {x : BitVec 64} (hV : Eqv V n) (h : Mem V i n x) : x = V.row i := by
  apply BitVec.eq_of_getLsbD_eq
  intro v _
  rw [Bool.eq_iff_iff, h v]
  exact ⟨fun h => h.2, fun h => ⟨(hV.lt _ _ h).2, h⟩⟩
theorem Low.done {V : Rl} {n i : Nat} {b : Bool} (hV : Eqv V n) (h : Low V i n b) : leadB V i = b := by
  unfold Low at h
  rw [Bool.eq_iff_iff, leadB_iff, h]
  constructor
  · intro h1 v h2 h3
    rcases Nat.lt_or_ge v i with hl | hl
    · have := h1 v hl
      rw [hV.symm _ _ h3] at this; cases this
    · exact hl
  · intro h1 u hu
    cases hv : V.has u i with
    | false => rfl
    | true =>
      have := h1 u (hV.lt _ _ hv).1 (hV.symm _ _ hv)
      omega

abbrev prT (i : Nat) (l : List (BitVec 64)) (x : BitVec 64) (b : Bool) (j : Nat) : List (Nat × AV) := [(3, .ptr 1 0), (4, pZ l), (5, .v (.int .i64 (i : Int))), (6, .v (.int .u64 (un x))), (7, .v (.bool b)), (8, .v (.int .i64 (j : Int)))]

set_option maxHeartbeats 800000 in
theorem partsR_ok (r : Rl) (w : World) : HandsZ Tryd.prog 60 [encRel r] w (pZ (partsL r)) (pH (partsL r)) := by
  refine HandsZ.of_run Tryd.func60 rfl (by show 1 ≤ 54; decide) ?_
  have hR := rt_right r
  have k0 : ∀ w', Gives Tryd.prog 35 [encRel r] w' (encRel (clos (rightL r))) := fun w' => plusR_ok r w'
  have hV : ∀ n : Nat, (rightL r).n = (n : Int) → Eqv (symR (rightL r)) n := fun n hn => symR_eqv hR hn
  have hP := clos_rt hR
  have hPn := clos_n (rightL r)
  have hsym := symR_has hR
  have hp : partsL r = partsU (symR (rightL r)) (rightL r).n.toNat := rfl
  rw [hp]
  obtain ⟨n, hn⟩ : ∃ n : Nat, (rightL r).n = (n : Int) := ⟨(rightL r).n.toNat, by have := hR.lo; omega⟩
  have hn64 : n ≤ 64 := by have := hR.hi; omega
  replace hV := hV n hn
  rw [hn, Int.toNat_natCast]
  rw [hn] at hPn hsym
  clear hp
  generalize symR (rightL r) = V at *
  generalize clos (rightL r) = P at *
  have hP2 : 0 ≤ P.n ∧ P.n ≤ 64 := ⟨hP.lo, hP.hi⟩
  refine RunF_sound tab_ok noX_local 100 [] _ _ rfl ?_ ?_
  · simp
  refine Run.callFn noX_local rfl rfl rfl rfl rfl rfl rfl plusR_enters rfl (fun w' _ => k0 w') ?_
  refine Run.to (t' := [(1, .ptr 0 0), (10, .v (encRel P))]) (h' := [(0, .cells 25 [.vals 65 (relV r)])]) (n' := 1) ?_ ⟨rfl, rfl, trivial⟩ ⟨rfl, trivial⟩
  refine RunF_sound tab_ok noX_local 100 [] _ _ rfl ?_ ?_
  · simp [segsVals, relV_one']
  suffices H : ∀ (m i : Nat) (l : List (BitVec 64)), i + m = n → l = partsU V i →
      Run _ _ ⟨[(3, .ptr 1 0), (4, pZ l), (5, .v (.int .i64 (i : Int)))], (1, .cells 25 [.vals 65 (relV P)]) :: pH l, 21⟩ by
    exact Run.to (H n 0 [] (by omega) rfl) ⟨rfl, rfl, rfl, trivial⟩ ⟨rfl, trivial⟩
  intro m
  induction m with
  | zero =>
    intro i l hi hl
    obtain rfl : i = n := by omega
    rw [← hl]
    rcases l with _ | ⟨x, l⟩
    · refine RunF_sound tab_ok noX_local 100 [false] _ _ rfl ?_ ?_
      · simp [hPn]
      refine Run.retH tab_ok [] Tryd.func60 rfl ?_ rfl trivial rfl
      simp
    · refine RunF_sound tab_ok noX_local 100 [false] _ _ rfl ?_ ?_
      · simp [hPn]
      refine Run.retH tab_ok [(20, 20)] Tryd.func60 rfl ?_ rfl ⟨rfl, trivial⟩ rfl
      simp
  | succ m ih =>
    intro i l hi hl
    have hi64 : i < 64 := by omega
    have hll : l.length ≤ i := by rw [hl]; exact partsU_len V i
    have hin : (i : Int) < P.n := by omega
    refine RunF_sound tab_ok noX_local 100 [true] _ _ rfl ?_ ?_
    · simp [hPn]; omega
    suffices H2 : ∀ (e j : Nat) (x : BitVec 64) (b : Bool), j + e = n → Mem V i j x → Low V i j b →
        Run _ _ ⟨prT i l x b j, (1, .cells 25 [.vals 65 (relV P)]) :: pH l, 21⟩ by
      have := H2 n 0 0#64 true (by omega) (mem_zero V i) (low_zero V i)
      rcases l with _ | ⟨x, l⟩
      · exact Run.toC this ⟨inTC_same rfl, inTC_same rfl, inTC_same rfl, inTC_same rfl, ⟨_, rfl, fun M => rfl⟩, inTC_same rfl, trivial⟩ ⟨rfl, trivial⟩
      · exact Run.toC this ⟨inTC_same rfl, inTC_same rfl, inTC_same rfl, inTC_same rfl, ⟨_, rfl, fun M => rfl⟩, inTC_same rfl, trivial⟩ ⟨rfl, rfl, trivial⟩
    intro e
    induction e with
    | zero =>
      intro j x b hj hm hlo
      obtain rfl : j = n := by omega
      obtain rfl := hm.done hV
      have hlead := hlo.done hV
      cases b with
      | false =>
        have hl' : l = partsU V (i + 1) := by rw [partsU_succ, hlead, hl]; simp
        have step := ih (i + 1) l (by omega) hl'
        rcases l with _ | ⟨x, l⟩
        · refine RunF_sound tab_ok noX_local 100 [false, false] _ _ rfl ?_ ?_
          · simp [hPn]
          exact Run.to step ⟨rfl, rfl, i64_eq (wrap_succ (by omega)), trivial⟩ ⟨rfl, trivial⟩
        · refine RunF_sound tab_ok noX_local 100 [false, false] _ _ rfl ?_ ?_
          · simp [hPn]
          exact Run.to step ⟨rfl, rfl, i64_eq (wrap_succ (by omega)), trivial⟩ ⟨rfl, rfl, trivial⟩
      | true =>
        have hl' : l ++ [V.row i] = partsU V (i + 1) := by rw [partsU_succ, hlead, hl]; simp
        have step := ih (i + 1) (l ++ [V.row i]) (by omega) hl'
        rcases l with _ | ⟨x, l⟩
        · refine RunF_sound tab_ok noX_local 100 [false, true] _ _ rfl ?_ ?_
          · simp [hPn, fillL, Value.cells, splice, repL, maxLen, Value.oneCell']
          exact Run.toR [(20, 22)] step ⟨rfl, rfl, i64_eq (wrap_succ (by omega)), trivial⟩ ⟨rfl, rfl, trivial⟩ rfl
        · refine RunF_sound tab_ok noX_local 100 [false, true] _ _ rfl ?_ ?_
          · simp [hPn, fillL, Value.cells, splice, repL, maxLen, Value.oneCell']; simp at hll; omega
          refine Run.toR [(20, 22)] step ⟨rfl, ?_, i64_eq (wrap_succ (by omega)), trivial⟩ ⟨rfl, ?_, trivial⟩ rfl
          · refine congrArg (fun k => some (AV.sl 22 1 0 k)) ?_
            simp
          · have e2 : (x :: l ++ [V.row i]).length = l.length + 1 + 1 := by simp
            show _ = some (Blk.row 37 1 (x :: l ++ [V.row i]).length (encW (x :: l ++ [V.row i])))
            rw [e2, ← encW_snoc (j := l.length + 1) rfl]; rfl
    | succ e ihe =>
      intro j x b hj hm hlo
      have hj64 : j < 64 := by omega
      have hjn : (j : Int) < P.n := by omega
      have hI : hasI P i j = P.has i j := hasI_in hin hjn
      have hJ : hasI P j i = P.has j i := hasI_in hjn hin
      have hvs := hsym i j
      by_cases c : i = j
      · subst c
        have hv : V.has i i = true := hvs.2 (.inl ⟨rfl, by omega⟩)
        have step := ihe (i + 1) _ _ (by omega) (hm.take hi64 hv) (hlo.take hv)
        cases b with
        | true =>
          refine RunF_sound tab_ok noX_local 200 [true, true, true] _ _ rfl ?_ ?_
          · simp [hPn]; omega
          refine Run.toC step ⟨inTC_same rfl, inTC_same rfl, inTC_same rfl, inTC_same (u64_eq (by rw [shl1_un, bor_un, Int.toNat_natCast])), ⟨_, rfl, fun M => ?_⟩, inTC_same (i64_eq (wrap_succ (by omega))), trivial⟩ ?_
          · simp [conc]
          · rcases l with _ | ⟨x, l⟩
            · exact ⟨rfl, trivial⟩
            · exact ⟨rfl, rfl, trivial⟩
        | false =>
          refine RunF_sound tab_ok noX_local 200 [true, true, false] _ _ rfl ?_ ?_
          · simp [hPn]; omega
          refine Run.toC step ⟨inTC_same rfl, inTC_same rfl, inTC_same rfl, inTC_same (u64_eq (by rw [shl1_un, bor_un, Int.toNat_natCast])), ⟨_, rfl, fun M => ?_⟩, inTC_same (i64_eq (wrap_succ (by omega))), trivial⟩ ?_
          · simp [conc]
          · rcases l with _ | ⟨x, l⟩
            · exact ⟨rfl, trivial⟩
            · exact ⟨rfl, rfl, trivial⟩
      · refine RunF_sound tab_ok noX_local 200 [true, false] _ _ rfl ?_ ?_
        · simp [hPn]; omega
        refine Run.callFn noX_local rfl rfl rfl rfl rfl rfl rfl hasR_enters rfl (fun w' _ => hasR_ok P hP2 i j w') ?_
        rw [hI]
        by_cases c1 : P.has i j = true
        · refine RunF_sound tab_ok noX_local 200 [true] _ _ rfl ?_ ?_
          · simp [c1]
          refine Run.callFn noX_local rfl rfl rfl rfl rfl rfl rfl hasR_enters rfl (fun w' _ => hasR_ok P hP2 j i w') ?_
          rw [hJ]
          by_cases c2 : P.has j i = true
          · have hv : V.has i j = true := hvs.2 (.inr ⟨c1, c2⟩)
            have step := ihe (j + 1) _ _ (by omega) (hm.take hj64 hv) (hlo.take hv)
            cases b with
            | true =>
              refine RunF_sound tab_ok noX_local 200 [true, true] _ _ rfl ?_ ?_
              · simp [c2]
              refine Run.toC step ⟨inTC_same rfl, inTC_same rfl, inTC_same rfl, inTC_same (u64_eq (by rw [shl1_un, bor_un, Int.toNat_natCast])), ⟨_, rfl, fun M => ?_⟩, inTC_same (i64_eq (wrap_succ (by omega))), trivial⟩ ?_
              · simp [conc]
              · rcases l with _ | ⟨x, l⟩
                · exact ⟨rfl, trivial⟩
                · exact ⟨rfl, rfl, trivial⟩
            | false =>
              refine RunF_sound tab_ok noX_local 200 [true, false] _ _ rfl ?_ ?_
              · simp [c2]
              refine Run.toC step ⟨inTC_same rfl, inTC_same rfl, inTC_same rfl, inTC_same (u64_eq (by rw [shl1_un, bor_un, Int.toNat_natCast])), ⟨_, rfl, fun M => ?_⟩, inTC_same (i64_eq (wrap_succ (by omega))), trivial⟩ ?_
              · simp [conc]
              · rcases l with _ | ⟨x, l⟩
                · exact ⟨rfl, trivial⟩
                · exact ⟨rfl, rfl, trivial⟩
          · have hv : ¬ V.has i j = true := fun h => by
              rcases hvs.1 h with h | h
              · exact c h.1
              · exact c2 h.2
            refine RunF_sound tab_ok noX_local 200 [false] _ _ rfl ?_ ?_
            · simpa using c2
            refine Run.to (ihe (j + 1) _ _ (by omega) (hm.skip hv) (hlo.skip hv)) ⟨rfl, rfl, rfl, rfl, rfl, i64_eq (wrap_succ (by omega)), trivial⟩ ?_
            rcases l with _ | ⟨x, l⟩
            · exact ⟨rfl, trivial⟩
            · exact ⟨rfl, rfl, trivial⟩
        · have hv : ¬ V.has i j = true := fun h => by
            rcases hvs.1 h with h | h
            · exact c h.1
            · exact c1 h.1
          refine RunF_sound tab_ok noX_local 200 [false] _ _ rfl ?_ ?_
          · simpa using c1
          refine Run.to (ihe (j + 1) _ _ (by omega) (hm.skip hv) (hlo.skip hv)) ⟨rfl, rfl, rfl, rfl, rfl, i64_eq (wrap_succ (by omega)), trivial⟩ ?_
          rcases l with _ | ⟨x, l⟩
          · exact ⟨rfl, trivial⟩
          · exact ⟨rfl, rfl, trivial⟩
theorem partsR_enters : Enters Tryd.prog 60 := enters_mk Tryd.func60 (by decide) rfl
end Go.Proofs.YtocpkgckllbjlaaDoor

/-
  Relations in a row; the steps of the reference's Cycle, plain. Own work.
-/
namespace Go.Proofs.YtocpkgckllbjlaaDoor
open Go.AM
set_option maxRecDepth 100000

/-! ### Relations in a row -/

def relsV (L : List Rl) : List Value := L.flatMap relV
theorem relsV_cons (R : Rl) (L : List Rl) : relsV (R :: L) = relV R ++ relsV L := rfl
theorem relsV_app (L M : List Rl) : relsV (L ++ M) = relsV L ++ relsV M := by simp [relsV]
theorem relV_len (R : Rl) : (relV R).length = 65 := relV_length R
theorem relsV_len : ∀ L : List Rl, (relsV L).length = L.length * 65
  | [] => rfl
  | R :: L => by rw [relsV_cons, List.length_append, relV_len, relsV_len L, List.length_cons]; omega
theorem relsV_drop : ∀ (L : List Rl) (k : Nat) (h : k < L.length), ((relsV L).drop (k * 65)).take 65 = relV L[k]
  | R :: L, 0, h => by
    rw [relsV_cons, Nat.zero_mul, List.drop_zero, List.take_append_of_le_length (by rw [relV_len]; exact Nat.le_refl _), List.take_of_length_le (by rw [relV_len]; exact Nat.le_refl _)]; rfl
  | R :: L, k + 1, h => by
    rw [relsV_cons, List.drop_append, List.drop_eq_nil_of_le (by rw [relV_len]; omega), List.nil_append, relV_len, show (k + 1) * 65 - 65 = k * 65 by omega, relsV_drop L k (by simpa using h)]; rfl
theorem relsV_get (L : List Rl) (k j : Nat) (h : k < L.length) (hj : j < 65) : (relsV L)[k * 65 + j]? = (relV L[k])[j]? := by
  rw [← relsV_drop L k h, List.getElem?_take_of_lt hj, List.getElem?_drop]

/-- A slice of relations, as it lies in a world. -/
def SeesR (w : World) (p : Option Addr) (L : List Rl) : Prop :=
  ∀ i (h : i < L.length), p = some (p.getD default) ∧ extCells w ((p.getD default).add (i * 65)) 0 65 = relV L[i] ∧ ∀ j, j < 65 → (w.cell? (((p.getD default).add (i * 65)).add j)).isSome

theorem extCells_of (w : World) (a : Addr) : ∀ (n j : Nat) (l : List Value), l.length = n → (∀ k, k < n → w.cell? (a.add (j + k)) = l[k]?) → extCells w a j n = l
  | 0, j, l, h, _ => by rw [List.length_eq_zero_iff.1 h]; rfl
  | n + 1, j, [], h, _ => by cases h
  | n + 1, j, x :: l, h, hc => by
    have h0 := hc 0 (by omega)
    rw [Nat.add_zero, List.getElem?_cons_zero] at h0
    have := extCells_of w a n (j + 1) l (by simpa using h) (fun k hk => by
      have := hc (k + 1) (by omega)
      rw [List.getElem?_cons_succ] at this
      rw [← this]; congr 2; omega)
    simp only [extCells, h0, this, Option.getD_some]

theorem seesR_row {M : AM.Loc} {w : World} {id e n : Nat} {L : List Rl} (hb : BlkAt M w id (.row e 65 n (relsV L))) : SeesR w (some ⟨(M id).1, 0, none⟩) L := by
  intro i hi
  have hc : ∀ j, j < 65 → w.cell? ((((some ⟨(M id).1, 0, none⟩ : Option Addr).getD default).add (i * 65)).add j) = (relV L[i])[j]? := by
    intro j hj
    rw [Option.getD_some, Addr.add_lit, Addr.add_lit, ← relsV_get L i j hi hj]
    have hlt : i * 65 + j < (relsV L).length := by rw [relsV_len]; omega
    rw [List.getElem?_eq_getElem hlt]
    have := row_cells hb (i * 65 + j) _ (List.getElem?_eq_getElem hlt)
    rw [Nat.zero_add] at this ⊢
    exact this
  refine ⟨rfl, extCells_of _ _ _ _ _ (relV_len _) (fun k hk => by rw [Nat.zero_add]; exact hc k hk), fun j hj => ?_⟩
  rw [hc j hj, List.getElem?_eq_getElem (by rw [relV_len]; exact hj)]; rfl

/-! ### Steps -/

theorem onA_has {n : Int} (h0 : 0 ≤ n) (h1 : n ≤ 64) (a b : Nat) : (onL n (BitVec.allOnes 64)).has a b = true ↔ a = b ∧ (a : Int) < n := by
  rw [onL, if_neg (by omega), Rl.has, Rl.row_by]
  by_cases ha : a < 64
  · rw [if_pos ha]
    by_cases c : (a : Int) < n
    · rw [if_pos ⟨c, by rw [BitVec.getLsbD_allOnes, decide_eq_true ha]⟩, one_shl_get a b ha, decide_eq_true_eq]
      exact ⟨fun h => ⟨h.symm, c⟩, fun h => h.1.symm⟩
    · rw [if_neg (fun h => c h.1), BitVec.getLsbD_zero]
      exact ⟨fun h => (by cases h), fun h => absurd h.2 c⟩
  · rw [if_neg ha, BitVec.getLsbD_zero]
    exact ⟨fun h => (by cases h), fun h => absurd h.2 (by omega)⟩

/-- So many steps. -/
noncomputable def stR (R : Rl) : Nat → Rl
  | 0 => onL R.n (BitVec.allOnes 64)
  | k + 1 => twoR 3 (stR R k) R
theorem stR_ok {R : Rl} (hR : Rt R) : ∀ k, Rt (stR R k) ∧ (stR R k).n = R.n
  | 0 => ⟨onL_rt hR.lo hR.hi, onL_n hR.lo hR.hi⟩
  | k + 1 => ⟨twoR_rt 3 (stR_ok hR k).1 hR (stR_ok hR k).2, (twoR_n 3 (stR_ok hR k).1 hR (stR_ok hR k).2).trans (stR_ok hR k).2⟩

theorem W_split {R : Rl} : ∀ {n a b : Nat}, W R (n + 1) a b → ∃ c, W R n a c ∧ R.has c b = true
  | 0, a, b, hw => by
    obtain ⟨c, h, e⟩ := hw
    have e' : c = b := e
    subst e'
    exact ⟨a, rfl, h⟩
  | n + 1, a, b, hw => by
    obtain ⟨c, h, k⟩ := hw
    obtain ⟨d, h1, h2⟩ := W_split k
    exact ⟨d, ⟨c, h, h1⟩, h2⟩

theorem stR_has {R : Rl} (hR : Rt R) : ∀ k a b, (stR R k).has a b = true ↔ W R k a b ∧ (a : Int) < R.n
  | 0, a, b => by rw [stR, onA_has hR.lo hR.hi]; rfl
  | k + 1, a, b => by
    rw [stR, comp_has (stR_ok hR k).1 hR (stR_ok hR k).2]
    constructor
    · rintro ⟨c, h1, h2⟩
      obtain ⟨h3, h4⟩ := (stR_has hR k a c).1 h1
      exact ⟨W_snoc R h3 h2, h4⟩
    · rintro ⟨h1, h2⟩
      obtain ⟨c, h3, h4⟩ := W_split h1
      exact ⟨c, (stR_has hR k a c).2 ⟨h3, h2⟩, h4⟩

/-- The first so many of them. -/
noncomputable def stsR (R : Rl) (k : Nat) : List Rl := (List.range k).map (stR R)
theorem stsR_len (R : Rl) (k : Nat) : (stsR R k).length = k := by simp [stsR]
theorem stsR_succ (R : Rl) (k : Nat) : stsR R (k + 1) = stsR R k ++ [stR R k] := by simp [stsR, List.range_succ]
theorem stsR_get (R : Rl) (k i : Nat) (h : i < (stsR R k).length) : (stsR R k)[i] = stR R i := by simp [stsR]

/-- None has a shorter way round than there are numbers. -/
theorem unseen_out {R : Rl} (hR : Rt R) {n : Nat} (hn : R.n = (n : Int)) (g m : Nat) : 64 - n ≤ unseen R g m := by
  unfold unseen
  have h64 : n ≤ 64 := by have := hR.hi; omega
  have e : List.range 64 = List.range n ++ (List.range (64 - n)).map (n + ·) := by
    rw [← List.range_add]; congr 1; omega
  rw [e, List.countP_append]
  have : ((List.range (64 - n)).map (n + ·)).countP (fun b => dst R g m b == 0) = 64 - n := by
    rw [List.countP_eq_length.2 ?_]
    · simp
    · intro b hb
      obtain ⟨x, _, rfl⟩ := List.mem_map.1 hb
      rw [beq_iff_eq]
      rcases dst_spec R g m (n + x) with h | ⟨h1, h2, h3, _⟩
      · exact h.1
      · exfalso
        obtain ⟨y, hy⟩ : ∃ y, dst R g m (n + x) = y + 1 := ⟨dst R g m (n + x) - 1, by omega⟩
        rw [hy] at h3
        obtain ⟨c, h4, _⟩ := h3
        have := (hR.lt _ _ h4).1
        omega
  omega
theorem dist_le_n {R : Rl} (hR : Rt R) {n : Nat} (hn : R.n = (n : Int)) (g b : Nat) : distR R g b ≤ n := by
  rcases distR_spec R g b with h | ⟨h1, h2, h3⟩
  · omega
  · have hnx : nxP R g (distR R g b) b := by
      refine ⟨?_, h2⟩
      rcases dst_spec R g (distR R g b) b with h | ⟨h4, h5, h6, _⟩
      · exact h.1
      · exact absurd h6 (h3 _ h4 h5)
    have h4 := level_le R g _ h1 b hnx
    have h5 := unseen_out hR hn g (distR R g b + 1)
    have h6 : n ≤ 64 := by have := hR.hi; omega
    omega
end Go.Proofs.YtocpkgckllbjlaaDoor

/-
  The reference's round walked. Own work.
-/
namespace Go.Proofs.YtocpkgckllbjlaaDoor
open Go.AM
set_option maxRecDepth 100000

open Classical in
theorem nxtR_min (R : Rl) {g a k b : Nat} (h : nxtR R g a k = some b) : ∀ c, c < b → ¬ (R.has a c = true ∧ W R k c g) := by
  unfold nxtR at h
  have h2 := (List.find?_range_eq_some.1 h).2.2
  rintro c hc ⟨h3, h4⟩
  have := h2 c hc
  simp [h3, h4] at this

set_option maxHeartbeats 600000 in
theorem round_ok (R : Rl) (hR : Rt R) (n : Nat) (hn : R.n = (n : Int)) (p : Option Addr) (c : Nat) (g k : Nat) (w : World) (hs : SeesR w p (stsR R (k + 2))) (hw : W R (k + 1) g g) (hk64 : k + 1 ≤ 64) :
    HandsZ Tryd.prog 89 [encRel R, .slice p (k + 2) c, .int .i64 (g : Int), .int .i64 ((k + 1 : Nat) : Int)] w (.sl 0 1 0 (k + 1)) [(0, .row 3 1 (k + 1) (encN (g :: pathR R g g k)))] := by
  refine HandsZ.of_run Tryd.func89 rfl (by show 4 ≤ 47; decide) ?_
  have hn64 : n ≤ 64 := by have := hR.hi; omega
  have hP2 : 0 ≤ R.n ∧ R.n ≤ 64 := ⟨hR.lo, hR.hi⟩
  have hlt : ∀ m a b, W R (m + 1) a b → a < n := fun m a b h => by
    have := (hR.lt _ _ h.choose_spec.1).1
    omega
  have hgn := hlt _ _ _ hw
  refine RunF_sound tab_ok noX_local 100 [] _ _ rfl ?_ ?_
  · simp [fillL, Value.cells, splice, repL, maxLen]
  suffices H2 : ∀ (i a j : Nat) (l : List Nat), l.length = j → j + i = k + 1 → 1 ≤ j → W R (i + 1) a g → l ++ pathR R g a i = g :: pathR R g g k →
      Run _ _ ⟨[(1, .v (.slice p (k + 2) c)), (2, .v (.int .i64 (g : Int))), (4, .ptr 0 0), (9, .sl 20 1 0 j), (10, .v (.int .i64 (a : Int))), (11, .v (.int .i64 (i : Int)))], [(0, .cells 25 [.vals 65 (relV R)]), (20, .row 3 1 j (encN l))], 21⟩ by
    exact Run.toR [(20, 1)] (H2 k g 1 [g] rfl (by omega) (by omega) hw rfl) ⟨rfl, rfl, rfl, rfl, rfl, i64_eq (by rw [wrap_i64] <;> omega), trivial⟩ ⟨rfl, rfl, trivial⟩ rfl
  intro i
  induction i with
  | zero =>
    intro a j l hl hj h1j _ hpath
    have e : l = g :: pathR R g g k := by rw [← hpath]; simp [pathR]
    obtain rfl : j = k + 1 := by omega
    refine RunF_sound tab_ok noX_local 100 [false] _ _ rfl ?_ ?_
    · simp
    refine Run.retH tab_ok [(0, 20)] Tryd.func89 rfl ?_ rfl ⟨?_, trivial⟩ rfl
    · simp
    · rw [← e]; rfl
  | succ i ih =>
    intro a j l hl hj h1j hwa hpath
    have han := hlt _ _ _ hwa
    obtain ⟨nb, hnb, hnb64, hanb, hwnb⟩ := nxtR_some R g a (i + 1) hwa
    have hmin := nxtR_min R hnb
    have hnbn : nb < n := by have := (hR.lt _ _ hanb).2; omega
    have hpath' : (l ++ [nb]) ++ pathR R g nb i = g :: pathR R g g k := by
      rw [← hpath, pathR, hnb]; simp
    refine RunF_sound tab_ok noX_local 100 [true] _ _ rfl ?_ ?_
    · simp
    suffices H3 : ∀ (m b : Nat), b + m = n → b ≤ nb →
        Run _ _ ⟨[(1, .v (.slice p (k + 2) c)), (2, .v (.int .i64 (g : Int))), (4, .ptr 0 0), (9, .sl 20 1 0 j), (10, .v (.int .i64 (a : Int))), (11, .v (.int .i64 ((i + 1 : Nat) : Int))), (12, .v (.int .i64 (b : Int)))], [(0, .cells 25 [.vals 65 (relV R)]), (20, .row 3 1 j (encN l))], 21⟩ by
      exact Run.to (H3 n 0 (by omega) (by omega)) ⟨rfl, rfl, rfl, rfl, rfl, rfl, rfl, trivial⟩ ⟨rfl, rfl, trivial⟩
    intro m
    induction m with
    | zero => intro b hb hle; omega
    | succ m ihm =>
      intro b hb hle
      have hI : hasI R a b = R.has a b := hasI_in (by omega) (by omega)
      refine RunF_sound tab_ok noX_local 200 [true] _ _ rfl ?_ ?_
      · simp [hn]; omega
      refine Run.callFn noX_local rfl rfl rfl rfl rfl rfl rfl hasR_enters rfl (fun w' _ => hasR_ok R hP2 a b w') ?_
      rw [hI]
      by_cases c1 : R.has a b = true
      · obtain ⟨hp, hext, hsome⟩ := hs (i + 1) (by rw [stsR_len]; omega)
        rw [stsR_get] at hext
        refine RunF_sound tab_ok noX_local 200 [true] _ _ rfl ?_ ?_
        · simp only [fnC_w0, fnC_S0, Int.toNat_natCast]
          simp [c1]
          exact ⟨⟨hp, by omega, by omega⟩, hsome⟩
        have hS := stR_ok hR (i + 1)
        have hJ : hasI (stR R (i + 1)) b g = (stR R (i + 1)).has b g := hasI_in (by rw [hS.2]; omega) (by rw [hS.2]; omega)
        refine Run.callFn (r := .bool ((stR R (i + 1)).has b g)) noX_local rfl rfl rfl rfl rfl rfl rfl hasR_enters rfl (fun w' _ => ?_) ?_
        · have := hasR_ok (stR R (i + 1)) ⟨hS.1.lo, hS.1.hi⟩ b g w'
          rw [hJ] at this
          simp only [fnC_w0, Int.toNat_natCast, hext]
          exact this
        by_cases c2 : (stR R (i + 1)).has b g = true
        · have hwb := ((stR_has hR _ _ _).1 c2).1
          obtain rfl : b = nb := by
            rcases Nat.lt_or_ge b nb with h | h
            · exact absurd ⟨c1, hwb⟩ (hmin b h)
            · omega
          refine RunF_sound tab_ok noX_local 200 [true] _ _ rfl ?_ ?_
          · simp [c2, fillL, Value.cells, splice, repL, maxLen, Value.oneCell']
            omega
          refine Run.toR [(20, 22)] (ih b (j + 1) (l ++ [b]) (by simp [hl]) (by omega) (by omega) hwnb hpath') ⟨rfl, rfl, rfl, rfl, rfl, i64_eq ?_, trivial⟩ ⟨rfl, ?_, trivial⟩ rfl
          · rw [wrap_i64] <;> omega
          refine congrArg (fun v => some (Blk.row 3 1 (j + 1) v)) ?_
          exact encN_snoc hl b
        · refine RunF_sound tab_ok noX_local 200 [false] _ _ rfl ?_ ?_
          · simpa using c2
          have hne : b ≠ nb := fun e => c2 ((stR_has hR _ _ _).2 ⟨by rw [e]; exact hwnb, by omega⟩)
          exact Run.to (ihm (b + 1) (by omega) (by omega)) ⟨rfl, rfl, rfl, rfl, rfl, rfl, i64_eq (wrap_succ (by omega)), trivial⟩ ⟨rfl, rfl, trivial⟩
      · refine RunF_sound tab_ok noX_local 200 [false] _ _ rfl ?_ ?_
        · simpa using c1
        have hne : b ≠ nb := fun e => c1 (by rw [e]; exact hanb)
        exact Run.to (ihm (b + 1) (by omega) (by omega)) ⟨rfl, rfl, rfl, rfl, rfl, rfl, i64_eq (wrap_succ (by omega)), trivial⟩ ⟨rfl, rfl, trivial⟩
theorem round_enters : Enters Tryd.prog 89 := enters_mk Tryd.func89 (by decide) rfl
end Go.Proofs.YtocpkgckllbjlaaDoor

/-
  The reference's Cycle walked. Own work.
-/
namespace Go.Proofs.YtocpkgckllbjlaaDoor
open Go.AM
set_option maxRecDepth 100000

theorem un_ones : un (BitVec.allOnes 64) = 18446744073709551615 := by decide
theorem relsV_snoc {L : List Rl} {k : Nat} (hl : L.length = k) (R : Rl) : (relsV L).take (k * 65) ++ relV R = relsV (L ++ [R]) := by
  rw [List.take_of_length_le (by rw [relsV_len, hl]; exact Nat.le_refl _), relsV_app]; simp [relsV]

/-- None has a way round, if none has one of at most n steps. -/
theorem no_way {R : Rl} (hR : Rt R) {n : Nat} (hn : R.n = (n : Int)) (h : ∀ a m, 1 ≤ m → m < n + 1 → ¬ W R m a a) : irB (clos R) = true := by
  refine irB_true fun a => ?_
  cases hc : (clos R).has a a with
  | false => rfl
  | true =>
    obtain ⟨m, hm⟩ := trans_W ((clos_has hR a a).1 hc)
    rcases distR_spec R a a with h1 | ⟨h1, h2, h3⟩
    · exact absurd hm (h1.2 _ (by omega))
    · have := dist_le_n hR hn a a
      exact absurd h2 (h a _ h1 (by omega))
theorem acyc_none {R : Rl} (hR : Rt R) (h : irB (clos R) = true) : IsCyc R none := by
  refine .inl ⟨rfl, fun a m hm hw => ?_⟩
  obtain ⟨m', rfl⟩ : ∃ m', m = m' + 1 := ⟨m - 1, by omega⟩
  have := (clos_has hR a a).2 (W_trans hw)
  rw [irB_false this] at h; cases h

theorem fill_one (R : Rl) : (fillL (fun j => some (j * 65, 65)) (repL 1 (Value.agg z25.toArray).cells.toList) [(0, encRel R)]).snd = relV R := by
  have e : (repL 1 (Value.agg z25.toArray).cells.toList).length = 65 := by decide
  generalize repL 1 (Value.agg z25.toArray).cells.toList = Z at e
  show splice Z 0 (relV R).toArray.toList = _
  unfold splice
  rw [List.take_zero, List.nil_append, List.drop_eq_nil_of_le (by simp [e]), List.append_nil]
theorem fill_one1 (R : Rl) : (fillL (fun j => some (j * 65, 65)) (repL 1 (Value.agg z25.toArray).cells.toList) [(0, encRel R)]).1 = True := by
  refine eq_true ⟨?_, ?_, trivial⟩
  · show (relV R).toArray.size = 65
    simp
  · decide

set_option maxHeartbeats 800000 in
theorem cycleR_ok (r : Rl) (x : Option (List Nat)) (hx : IsCyc (rightL r) x) (w : World) : HandsZ Tryd.prog 58 [encRel r] w (exZ x) (exH x) := by
  refine HandsZ.of_run Tryd.func58 rfl (by show 1 ≤ 49; decide) ?_
  refine RunF_sound tab_ok noX_local 100 [] _ _ rfl ?_ ?_
  · simp
  refine Run.callFn noX_local rfl rfl rfl rfl rfl rfl rfl rightR_enters rfl (fun w' _ => rightR_ok r w') ?_
  have hR := rt_right r
  generalize rightL r = R at hx hR
  obtain ⟨n, hn⟩ : ∃ n : Nat, R.n = (n : Int) := ⟨R.n.toNat, by have := hR.lo; omega⟩
  have hn64 : n ≤ 64 := by have := hR.hi; omega
  have hlt : ∀ m a b, W R (m + 1) a b → a < n := fun m a b h => by
    have := (hR.lt _ _ h.choose_spec.1).1
    omega
  have k1 : ∀ w', Gives Tryd.prog 47 [encRel R] w' (.bool (irB (clos R))) := fun w' => by
    have := acyclicR_ok R w'
    rwa [hR.right] at this
  refine RunF_sound tab_ok noX_local 100 [] _ _ rfl ?_ ?_
  · simp [segsVals, relV_one']
  refine Run.callFn noX_local rfl rfl rfl rfl rfl rfl rfl acyclicR_enters rfl (fun w' _ => k1 w') ?_
  by_cases c : irB (clos R) = true
  · obtain rfl : x = none := hx.eq (acyc_none hR c)
    refine RunF_sound tab_ok noX_local 100 [true] _ _ rfl ?_ ?_
    · simp [c]
    refine Run.retH tab_ok [] Tryd.func58 rfl ?_ rfl trivial rfl
    simp
  refine RunF_sound tab_ok noX_local 100 [false] _ _ rfl ?_ ?_
  · simp [c]
  refine Run.callFn (r := encRel (onL R.n (BitVec.allOnes 64))) noX_local rfl rfl rfl rfl rfl rfl rfl onR_enters rfl (fun w' _ => ?_) ?_
  · have := onR_ok R.n (BitVec.allOnes 64) w'
    rw [un_ones] at this
    exact this
  refine Run.to (t' := [(1, .ptr 0 0), (13, .v (encRel (stR R 0)))]) (h' := [(0, .cells 25 [.vals 65 (relV R)])]) (n' := 20) ?_ ⟨rfl, rfl, trivial⟩ ⟨rfl, trivial⟩
  refine RunF_sound tab_ok noX_local 100 [] _ _ rfl ?_ ?_
  · simp [fillL, Value.cells, splice, repL, maxLen]
    exact relV_len _
  suffices H : ∀ (m k : Nat), k + m = n → (∀ a j, 1 ≤ j → j < k + 1 → ¬ W R j a a) →
      Run _ _ ⟨[(1, .ptr 0 0), (4, .sl 20 65 0 (k + 1)), (5, .v (.int .i64 ((k + 1 : Nat) : Int)))], [(0, .cells 25 [.vals 65 (relV R)]), (20, .row 25 65 (k + 1) (relsV (stsR R (k + 1))))], 21⟩ by
    refine Run.to (H n 0 (by omega) (fun a j h1 h2 => by omega)) ⟨rfl, rfl, rfl, trivial⟩ ⟨rfl, ?_, trivial⟩
    refine congrArg (fun v => some (Blk.row 25 65 1 v)) ?_
    have e1 : (fillL (fun j => some (j * 65, 65)) (repL 1 (Value.agg z25.toArray).cells.toList) [(0, encRel (stR R 0))]).snd = relV (stR R 0) := fill_one _
    refine e1.trans ?_
    simp [stsR, relsV]
  intro m
  induction m with
  | zero =>
    intro k hk hno
    obtain rfl : k = n := by omega
    exact absurd (no_way hR hn hno) c
  | succ m ih =>
    intro k hk hno
    have hwk : IntKind.i64.wrap (((k + 1 : Nat) : Int) - 1) = (k : Int) := by rw [wrap_i64] <;> omega
    have hwk2 : IntKind.i64.wrap (k : Int) = (k : Int) := by rw [wrap_i64] <;> omega
    have hlen := stsR_len R (k + 1)
    have hdrop := relsV_drop (stsR R (k + 1)) k (by rw [hlen]; omega)
    rw [stsR_get] at hdrop
    have hS := stR_ok hR (k + 1)
    have hS2 : 0 ≤ (stR R (k + 1)).n ∧ (stR R (k + 1)).n ≤ 64 := ⟨hS.1.lo, hS.1.hi⟩
    have hstep : ∀ w', Gives Tryd.prog 22 [.int .i64 3, encRel (stR R k), encRel R] w' (encRel (stR R (k + 1))) := fun w' => two_R 3 (by decide) (stR R k) R w'
    have hVs : (relsV (stsR R (k + 1))).length = (k + 1) * 65 := by rw [relsV_len, hlen]
    have hsn : (relsV (stsR R (k + 1))).take ((k + 1) * 65) ++ relV (stR R (k + 1)) = relsV (stsR R (k + 1 + 1)) := by rw [relsV_snoc hlen, ← stsR_succ]
    refine RunF_sound tab_ok noX_local 100 [true] _ _ rfl ?_ ?_
    · simp [hn]; omega
    refine Run.drawA noX_local rfl [5] [(0, .cells 25 [.vals 65 (relV R)])] rfl rfl ⟨rfl, trivial⟩ ?_
    refine RunOF_sound tab_ok noX_local rfl rfl 100 [] _ _ rfl ?_ ?_
    · simp [hVs]
      rw [hwk2, Int.toNat_natCast]; omega
    refine RunO.callFn (r := encRel (stR R (k + 1))) noX_local rfl rfl rfl rfl rfl rfl rfl rfl two_R_enters rfl (fun w' _ => ?_) ?_
    · rw [hwk, Int.toNat_natCast, Nat.zero_add, hdrop]
      exact hstep w'
    refine RunOF_sound tab_ok noX_local rfl rfl 100 [] _ _ rfl ?_ ?_
    · simp only [fill_one, fill_one1]
      simp [maxLen, inT, lk]
      exact ⟨rfl, ⟨rfl, by omega, by omega⟩, fun u hu => relV_one _ u (List.mem_of_mem_take hu)⟩
    refine RunO.done ?_
    refine RunF_sound tab_ok noX_local 100 [] _ _ rfl ?_ ?_
    · simp
    have hwlt : ∀ a, W R (k + 1) a a → a < n := fun a h => hlt k a a h
    have hlen2 := stsR_len R (k + 2)
    have hdrop2 := relsV_drop (stsR R (k + 2)) (k + 1) (by rw [hlen2]; omega)
    rw [stsR_get] at hdrop2
    have hVs2 : (relsV (stsR R (k + 2))).length = (k + 2) * 65 := by rw [relsV_len, hlen2]
    suffices H3 : ∀ (m a : Nat), a + m = n → (∀ b, b < a → ¬ W R (k + 1) b b) →
        Run _ _ ⟨[(1, .ptr 0 0), (4, .sl 20 65 0 (k + 2)), (5, .v (.int .i64 ((k + 1 : Nat) : Int))), (6, .v (.int .i64 (a : Int)))], [(0, .cells 25 [.vals 65 (relV R)]), (20, .row 25 65 (k + 2) (relsV (stsR R (k + 2))))], 21⟩ by
      refine Run.toR [(20, 22)] (H3 n 0 (by omega) (fun b h => absurd h (Nat.not_lt_zero _))) ⟨rfl, rfl, rfl, rfl, trivial⟩ ⟨rfl, ?_, trivial⟩ rfl
      show _ = some (Blk.row 25 65 (k + 2) (relsV (stsR R (k + 2))))
      rw [← hsn]
      simp only [fill_one]
      refine congrArg (fun v => some (Blk.row 25 65 (k + 2) ((relsV (stsR R (k + 1))).take ((k + 1) * 65) ++ v))) ?_
      show ((relV (stR R (k + 1))).drop 0).take 65 = _
      rw [List.drop_zero, List.take_of_length_le (by rw [relV_len]; exact Nat.le_refl _)]
    intro m3
    induction m3 with
    | zero =>
      intro a ha hno3
      obtain rfl : a = n := by omega
      refine RunF_sound tab_ok noX_local 100 [false] _ _ rfl ?_ ?_
      · simp [hn]
      refine Run.to (ih (k + 1) (by omega) (fun b j h1 h2 hw => ?_)) ⟨rfl, rfl, i64_eq (wrap_succ (by omega)), trivial⟩ ⟨rfl, rfl, trivial⟩
      rcases Nat.lt_or_ge j (k + 1) with h | h
      · exact hno b j h1 h hw
      · obtain rfl : j = k + 1 := by omega
        exact hno3 b (hwlt b hw) hw
    | succ m3 ih3 =>
      intro a ha hno3
      have hI : hasI (stR R (k + 1)) a a = (stR R (k + 1)).has a a := hasI_in (by rw [hS.2]; omega) (by rw [hS.2]; omega)
      refine RunF_sound tab_ok noX_local 100 [true] _ _ rfl ?_ ?_
      · simp [hn, hVs2]; omega
      refine Run.callFn (r := .bool ((stR R (k + 1)).has a a)) noX_local rfl rfl rfl rfl rfl rfl rfl hasR_enters rfl (fun w' _ => ?_) ?_
      · have := hasR_ok (stR R (k + 1)) hS2 a a w'
        rw [hI] at this
        rw [Int.toNat_natCast, Nat.zero_add, hdrop2]
        exact this
      by_cases c2 : (stR R (k + 1)).has a a = true
      · have hwa := ((stR_has hR _ _ _).1 c2).1
        obtain rfl : x = some (a :: pathR R a a k) := hx.eq (.inr ⟨a, k, rfl, hwa, fun b j h1 h2 => hno b j h1 h2, hno3⟩)
        refine RunF_sound tab_ok noX_local 100 [true] _ _ rfl ?_ ?_
        · simp [c2]
        refine Run.callH noX_local (.sl 21 1 0 (k + 1)) [(21, .row 3 1 (k + 1) (encN (a :: pathR R a a k)))] 22 rfl rfl rfl rfl rfl rfl round_enters rfl rfl rfl rfl rfl (fun M w' hM _ => ?_) ?_
        · have hb := hM 20 _ rfl
          exact (round_ok R hR n hn _ _ a k w' (seesR_row hb) hwa (by omega)).to [(21, 0)] rfl ⟨rfl, trivial⟩ rfl
        refine RunF_sound tab_ok noX_local 100 [] _ _ rfl ?_ ?_
        · simp
        refine Run.retH tab_ok [(0, 21)] Tryd.func58 rfl ?_ ?_ ⟨?_, trivial⟩ rfl
        · simp
        · simp [exZ, pathR_length, ren, renL]; rfl
        · simp [pathR_length]; rfl
      · refine RunF_sound tab_ok noX_local 100 [false] _ _ rfl ?_ ?_
        · simpa using c2
        refine Run.to (ih3 (a + 1) (by omega) (fun b hb hw => ?_)) ⟨rfl, rfl, rfl, i64_eq (wrap_succ (by omega)), trivial⟩ ⟨rfl, rfl, trivial⟩
        rcases Nat.lt_or_ge b a with h | h
        · exact hno3 b h hw
        · obtain rfl : b = a := by omega
          exact c2 ((stR_has hR _ _ _).2 ⟨hw, by omega⟩)
theorem cycleR_enters : Enters Tryd.prog 58 := enters_mk Tryd.func58 (by decide) rfl
end Go.Proofs.YtocpkgckllbjlaaDoor

/-
  Lists of sets compared; how long ways round are. Own work.
-/
namespace Go.Proofs.YtocpkgckllbjlaaDoor
open Go.AM
set_option maxRecDepth 100000

/-- A slice of sets, as it lies in a world. -/
def SeesW (w : World) (p : Option Addr) (xs : List (BitVec 64)) : Prop :=
  ∀ i (h : i < xs.length), p = some (p.getD default) ∧ w.cell? ((p.getD default).add i) = some (.int .u64 (un xs[i]))

theorem seesW_row {M : AM.Loc} {w : World} {id e n : Nat} {l : List (BitVec 64)} (hb : BlkAt M w id (.row e 1 n (encW l))) : SeesW w (some ⟨(M id).1, 0, none⟩) l := by
  intro i hi
  have := row_cells hb i (.int .u64 (un l[i])) (by simp [encW, hi])
  refine ⟨rfl, ?_⟩
  rw [Option.getD_some, Addr.add_lit]
  exact this

theorem seesW_nil (w : World) (p : Option Addr) : SeesW w p [] := fun i hi => absurd hi (Nat.not_lt_zero _)

theorem sameSets_ok (p q : Option Addr) (c d : Nat) (xs ys : List (BitVec 64)) (w : World) (hx : SeesW w p xs) (hy : SeesW w q ys) (hl : xs.length ≤ maxLen) :
    Gives Tryd.prog 61 [.slice p xs.length c, .slice q ys.length d] w (.bool (decide (xs = ys))) := by
  refine Gives.of_run Tryd.func61 rfl (by show 2 ≤ 26; decide) ?_
  have hml : maxLen = 9223372036854775807 := rfl
  by_cases hlen : xs.length = ys.length
  · refine RunF_sound tab_ok noX_local 100 [false] _ _ rfl ?_ ?_
    · simp [hlen]
    suffices H : ∀ (m i : Nat), i + m = xs.length → xs.take i = ys.take i → ∀ σ, inT σ.t [(0, .v (.slice p xs.length c)), (1, .v (.slice q ys.length d)), (5, .v (.int .i64 (i : Int)))] → inT σ.h [] → Run _ _ σ by
      exact H xs.length 0 (by omega) rfl _ ⟨rfl, rfl, rfl, trivial⟩ trivial
    intro m
    induction m with
    | zero =>
      intro i hi he σ ht hh
      refine Run.to ?_ ht hh (n' := 0)
      refine RunF_sound tab_ok noX_local 100 [false] _ _ rfl ?_ ?_
      · simp; omega
      refine Run.retP tab_ok Tryd.func61 rfl trivial (fun M => ?_)
      have : xs = ys := by rw [List.take_of_length_le (by omega), List.take_of_length_le (by omega)] at he; exact he
      simp [conc, this]
    | succ m ih =>
      intro i hi he σ ht hh
      refine Run.to ?_ ht hh (n' := 0)
      have hix : i < xs.length := by omega
      have hiy : i < ys.length := by omega
      obtain ⟨hp, hpc⟩ := hx i hix
      obtain ⟨hq, hqc⟩ := hy i hiy
      refine RunF_sound tab_ok noX_local 100 [true] _ _ rfl ?_ ?_
      · simp; omega
      refine Run.drawA noX_local rfl [] [] rfl rfl trivial ?_
      refine RunOF_sound tab_ok noX_local rfl rfl 100 [] _ _ rfl ?_ ?_
      · simp only [fnC_w0, fnC_S0, Int.toNat_natCast, Nat.mul_one, hpc, hqc]
        simp
        (repeat' refine And.intro ?_ ?_) <;> first | omega | exact hp | exact hq
      refine RunO.done ?_
      simp only [fnC_w0, Int.toNat_natCast, Nat.mul_one, hpc, hqc]
      by_cases c0 : xs[i] = ys[i]
      · refine RunF_sound tab_ok noX_local 100 [false] _ _ rfl ?_ ?_
        · simp [c0]
        refine ih (i + 1) (by omega) ?_ _ ⟨rfl, rfl, i64_eq (wrap_succ (by omega)), trivial⟩ trivial
        rw [List.take_succ_eq_append_getElem hix, List.take_succ_eq_append_getElem hiy, he, c0]
      · refine RunF_sound tab_ok noX_local 100 [true] _ _ rfl ?_ ?_
        · simp; exact c0
        refine Run.retP tab_ok Tryd.func61 rfl trivial (fun M => ?_)
        have : xs ≠ ys := fun e => by subst e; exact c0 rfl
        simp [conc, this]
  · refine RunF_sound tab_ok noX_local 100 [true] _ _ rfl ?_ ?_
    · simp; omega
    refine Run.retP tab_ok Tryd.func61 rfl trivial (fun M => ?_)
    have : xs ≠ ys := fun e => hlen (by rw [e])
    simp [conc, this]
theorem sameSets_enters : Enters Tryd.prog 61 := enters_mk Tryd.func61 (by decide) rfl

theorem cyc_len {R : Rl} {l : List Nat} (h : IsCyc R (some l)) : l.length ≤ 64 := by
  rcases h with ⟨h, _⟩ | ⟨g, k, e, h1, h2, _⟩
  · cases h
  · obtain rfl := Option.some.inj e
    have := dist_le R g g
    rw [distR_at (k := k + 1) (by omega) h1 (fun m hm hl => h2 g m hm hl)] at this
    rw [List.length_cons, pathR_length]
    exact this

theorem sameN (l : List Nat) (hl : l.length ≤ 64) {M : AM.Loc} {w : World} {i j e e' : Nat} (h1 : BlkAt M w i (.row e 1 l.length (encN l))) (h2 : BlkAt M w j (.row e' 1 l.length (encN l))) (c d : Nat) :
    Gives Tryd.prog 53 [.slice (some ⟨(M i).1, 0, none⟩) l.length c, .slice (some ⟨(M j).1, 0, none⟩) l.length d] w (.bool true) := by
  have := sameInts_ok _ _ c d l l w (seesN_row h1) (seesN_row h2) (by show _ ≤ 9223372036854775807; omega)
  rwa [decide_eq_true rfl] at this
theorem sameN0 (w : World) : Gives Tryd.prog 53 [.slice none 0 0, .slice none 0 0] w (.bool true) := by
  have := sameInts_ok none none 0 0 [] [] w (seesN_nil w none) (seesN_nil w none) (by decide)
  rwa [decide_eq_true rfl] at this
theorem sameW (l : List (BitVec 64)) (hl : l.length ≤ 64) {M : AM.Loc} {w : World} {i j e e' : Nat} (h1 : BlkAt M w i (.row e 1 l.length (encW l))) (h2 : BlkAt M w j (.row e' 1 l.length (encW l))) (c d : Nat) :
    Gives Tryd.prog 61 [.slice (some ⟨(M i).1, 0, none⟩) l.length c, .slice (some ⟨(M j).1, 0, none⟩) l.length d] w (.bool true) := by
  have := sameSets_ok _ _ c d l l w (seesW_row h1) (seesW_row h2) (by show _ ≤ 9223372036854775807; omega)
  rwa [decide_eq_true rfl] at this
theorem sameW0 (w : World) : Gives Tryd.prog 61 [.slice none 0 0, .slice none 0 0] w (.bool true) := by
  have := sameSets_ok none none 0 0 [] [] w (seesW_nil w none) (seesW_nil w none) (by decide)
  rwa [decide_eq_true rfl] at this
end Go.Proofs.YtocpkgckllbjlaaDoor

/-
  Orders, plain: which lists are orders, and there is one. Own work.
-/
namespace Go.Proofs.YtocpkgckllbjlaaDoor
open Go.AM

/-- A list goes on well, behind what is done. -/
def goodL (A : Rl) (n : Nat) : BitVec 64 → List Nat → Prop
  | _, [] => True
  | dn, i :: t => i < n ∧ rdyB A dn i = true ∧ goodL A n (dn ||| 1#64 <<< i) t

theorem extL_mem (A : Rl) (n : Nat) : ∀ (d : Nat) (l : List Nat) (dn : BitVec 64) (x : List Nat), x ∈ extL A n d l dn ↔ ∃ t, x = l ++ t ∧ t.length = d ∧ goodL A n dn t
  | 0, l, dn, x => by
    rw [extL, List.mem_singleton]
    constructor
    · rintro rfl; exact ⟨[], by simp, rfl, trivial⟩
    · rintro ⟨t, h1, h2, _⟩
      rw [h1, List.length_eq_zero_iff.1 h2, List.append_nil]
  | d + 1, l, dn, x => by
    rw [extL, List.mem_flatMap]
    constructor
    · rintro ⟨i, hi, hx⟩
      by_cases c : rdyB A dn i = true
      · rw [if_pos c, extL_mem A n d] at hx
        obtain ⟨t, rfl, h2, h3⟩ := hx
        exact ⟨i :: t, by simp, by simp [h2], List.mem_range.1 hi, c, h3⟩
      · rw [if_neg c] at hx; cases hx
    · rintro ⟨t, rfl, h2, h3⟩
      rcases t with _ | ⟨i, t⟩
      · cases h2
      · refine ⟨i, List.mem_range.2 h3.1, ?_⟩
        rw [if_pos h3.2.1, extL_mem A n d]
        exact ⟨t, by simp, by simpa using h2, h3.2.2⟩

theorem rdyB_iff (A : Rl) (dn : BitVec 64) (i : Nat) : rdyB A dn i = true ↔ dn.getLsbD i = false ∧ ∀ j, A.has i j = true → dn.getLsbD j = true := by
  unfold rdyB
  rw [Bool.and_eq_true, Bool.not_eq_true', decide_eq_true_eq]
  refine and_congr_right fun _ => ?_
  constructor
  · intro h j hj
    have h64 := (Rl.has_lt A hj).2
    have := congrArg (fun z : BitVec 64 => z.getLsbD j) h
    simp only [BitVec.getLsbD_and, BitVec.getLsbD_not, BitVec.getLsbD_zero] at this
    have hj' : (A.row i).getLsbD j = true := hj
    rw [hj', decide_eq_true h64] at this
    simpa using this
  · intro h
    apply BitVec.eq_of_getLsbD_eq
    intro j hj
    rw [BitVec.getLsbD_and, BitVec.getLsbD_not, BitVec.getLsbD_zero, decide_eq_true hj]
    cases hv : (A.row i).getLsbD j with
    | false => rfl
    | true => rw [h j hv]; rfl

theorem aheadL_has {r : Rl} (hr : Rt r) (a b : Nat) : (aheadL r).has a b = true ↔ r.has b a = true := by
  have : aheadL r = invR r := by
    unfold aheadL
    rw [hr.right]
    have := inverse_eq r
    rw [hr.right] at this
    exact this
  rw [this, invR_has]

/-! ### There is one -/

theorem count_one (p q : Nat → Bool) (i : Nat) (hp : p i = true) (hq : q i = false) (he : ∀ j, j ≠ i → q j = p j) : ∀ n, i < n → (List.range n).countP q + 1 = (List.range n).countP p
  | 0, h => absurd h (Nat.not_lt_zero _)
  | n + 1, h => by
    rw [List.range_succ, List.countP_append, List.countP_append, List.countP_singleton, List.countP_singleton]
    rcases Nat.lt_or_ge i n with hl | hl
    · have := count_one p q i hp hq he n hl
      rw [he n (by omega)]
      omega
    · obtain rfl : i = n := by omega
      rw [hp, hq]
      have : (List.range i).countP q = (List.range i).countP p := List.countP_congr fun j hj => by
        rw [he j (by have := List.mem_range.1 hj; omega)]
      rw [this]; rfl
theorem count_lt (p q : Nat → Bool) (i : Nat) (hp : p i = true) (hq : q i = false) (hs : ∀ j, q j = true → p j = true) (n : Nat) (h : i < n) : (List.range n).countP q < (List.range n).countP p := by
  have h1 := count_one p (fun j => p j && decide (j ≠ i)) i hp (by simp) (fun j hj => by simp [hj]) n h
  have h2 : (List.range n).countP q ≤ (List.range n).countP (fun j => p j && decide (j ≠ i)) := List.countP_mono_left fun j _ hj => by
    rw [hs j hj, Bool.true_and, decide_eq_true_eq]
    rintro rfl
    rw [hq] at hj; cases hj
  omega

/-- Of those that are not done one has nothing undone ahead of it. -/
theorem first_ex {R : Rl} (hR : Rt R) {n : Nat} (hn : R.n = (n : Int)) (hac : irB (clos R) = true) (dn : BitVec 64) {i0 : Nat} (h0 : i0 < n) (hd : dn.getLsbD i0 = false) : ∃ i, i < n ∧ rdyB (aheadL R) dn i = true := by
  have hir : ∀ a, ¬ (clos R).has a a = true := fun a h => by rw [irB_false h] at hac; cases hac
  obtain ⟨m, ⟨i, hi, hdi, hm⟩, hmin⟩ := least_ex (fun m => ∃ i, i < n ∧ dn.getLsbD i = false ∧ (List.range n).countP (fun j => !dn.getLsbD j && (clos R).has j i) = m) ⟨_, i0, h0, hd, rfl⟩
  refine ⟨i, hi, (rdyB_iff _ _ _).2 ⟨hdi, fun j hj => ?_⟩⟩
  have hji := (aheadL_has hR i j).1 hj
  cases hdj : dn.getLsbD j with
  | true => rfl
  | false =>
    exfalso
    have hjn : j < n := by have := (hR.lt _ _ hji).1; omega
    have hc := clos_sub hR _ _ hji
    refine hmin _ ?_ ⟨j, hjn, hdj, rfl⟩
    rw [← hm]
    refine count_lt _ _ j ?_ ?_ ?_ n hjn
    · simp [hdj, hc]
    · simp [hdj, hir j]
    · intro z hz
      rw [Bool.and_eq_true] at hz ⊢
      exact ⟨hz.1, clos_trans hR _ _ _ hz.2 hc⟩

theorem good_ex {R : Rl} (hR : Rt R) {n : Nat} (hn : R.n = (n : Int)) (hac : irB (clos R) = true) : ∀ (d : Nat) (dn : BitVec 64), (List.range n).countP (fun j => !dn.getLsbD j) = d → ∃ t, t.length = d ∧ goodL (aheadL R) n dn t
  | 0, _, _ => ⟨[], rfl, trivial⟩
  | d + 1, dn, h => by
    have h64 : n ≤ 64 := by have := hR.hi; omega
    obtain ⟨i0, hi0, hp⟩ := List.countP_pos_iff.1 (show 0 < (List.range n).countP (fun j => !dn.getLsbD j) by omega)
    obtain ⟨i, hi, hr⟩ := first_ex hR hn hac dn (List.mem_range.1 hi0) (by simpa using hp)
    have hdi := ((rdyB_iff _ _ _).1 hr).1
    obtain ⟨t, h1, h2⟩ := good_ex hR hn hac d (dn ||| 1#64 <<< i) (by
      have := count_one (fun j => !dn.getLsbD j) (fun j => !(dn ||| 1#64 <<< i).getLsbD j) i (by simp [hdi]) (by rw [BitVec.getLsbD_or, one_shl_get i i (by omega)]; simp) (fun j hj => by rw [BitVec.getLsbD_or, one_shl_get i j (by omega), decide_eq_false hj, Bool.or_false]) n hi
      omega)
    exact ⟨i :: t, by simp [h1], hi, hr, h2⟩

theorem orders_ex {R : Rl} (hR : Rt R) (hac : irB (clos R) = true) : ordersL R ≠ [] := by
  intro h
  have hn : R.n = (R.n.toNat : Int) := by have := hR.lo; omega
  obtain ⟨t, h1, h2⟩ := good_ex hR hn hac R.n.toNat 0#64 (by
    rw [List.countP_eq_length.2 (fun j _ => by simp)]; simp)
  have hm : t ∈ ordersL R := by
    rw [ordersL, hR.right, if_pos hac, sizeL, hR.right, extL_mem]
    exact ⟨t, by simp, h1, h2⟩
  rw [h] at hm; cases hm
theorem orders_good {R : Rl} (hR : Rt R) {x : List Nat} (hx : x ∈ ordersL R) : irB (clos R) = true ∧ x.length = R.n.toNat ∧ goodL (aheadL R) R.n.toNat 0#64 x := by
  rw [ordersL, hR.right] at hx
  by_cases c : irB (clos R) = true
  · rw [if_pos c, sizeL, hR.right, extL_mem] at hx
    obtain ⟨t, rfl, h1, h2⟩ := hx
    exact ⟨c, h1, h2⟩
  · rw [if_neg c] at hx; cases hx
theorem extend_some {R : Rl} (hR : Rt R) (hac : irB (clos R) = true) : ∃ x, extendL R = some x ∧ x.length = R.n.toNat ∧ goodL (aheadL R) R.n.toNat 0#64 x := by
  rw [extendL]
  cases h : ordersL R with
  | nil => exact absurd h (orders_ex hR hac)
  | cons x l => exact ⟨x, rfl, (orders_good hR (by rw [h]; exact List.mem_cons_self)).2⟩
theorem extend_none {R : Rl} (hR : Rt R) (hac : ¬ irB (clos R) = true) : extendL R = none := by
  rw [extendL, ordersL, hR.right, if_neg hac]; rfl
end Go.Proofs.YtocpkgckllbjlaaDoor

/-
  forward walked: a good list is an order. Own work.
-/
namespace Go.Proofs.YtocpkgckllbjlaaDoor
open Go.AM
set_option maxRecDepth 100000

theorem cross_has {n : Int} (h0 : 0 ≤ n) (h1 : n ≤ 64) (x y : BitVec 64) (a b : Nat) : (crossL n x y).has a b = true ↔ ((a : Int) < n ∧ (b : Int) < n) ∧ x.getLsbD a = true ∧ y.getLsbD b = true := by
  rw [crossL, if_neg (by omega), Rl.has, Rl.row_by]
  by_cases ha : a < 64
  · rw [if_pos ha]
    by_cases c : (a : Int) < n ∧ x.getLsbD a = true
    · rw [if_pos c, BitVec.getLsbD_and, mask_get _ _ h0, Bool.and_eq_true, decide_eq_true_eq]
      constructor
      · rintro ⟨h2, h3⟩; exact ⟨⟨c.1, h3.2⟩, c.2, h2⟩
      · rintro ⟨h2, h3⟩; exact ⟨h3.2, by omega, h2.2⟩
    · rw [if_neg c, BitVec.getLsbD_zero]
      exact ⟨fun h => (by cases h), fun h => absurd ⟨h.1.1, h.2.1⟩ c⟩
  · rw [if_neg ha, BitVec.getLsbD_zero]
    exact ⟨fun h => (by cases h), fun h => absurd h.1.1 (by omega)⟩
theorem cross_n {n : Int} (h0 : 0 ≤ n) (h1 : n ≤ 64) (x y : BitVec 64) : (crossL n x y).n = n := by
  rw [crossL, if_neg (by omega)]; exact Rl.n_by _ _
theorem cross_rt {n : Int} (h0 : 0 ≤ n) (h1 : n ≤ 64) (x y : BitVec 64) : Rt (crossL n x y) := ⟨by rw [cross_n h0 h1]; exact h0, by rw [cross_n h0 h1]; exact h1, fun a b h => by
  rw [cross_n h0 h1]; exact ((cross_has h0 h1 x y a b).1 h).1⟩

theorem restrictT {R : Rl} (hR : Rt R) (x y : BitVec 64) (w : World) : Gives Tryd.prog 30 [encRel R, .int .u64 (un x), .int .u64 (un y)] w (encRel (twoR 1 R (crossL R.n x y))) := by
  have := restrict_ok R x y w
  rwa [hR.right, meet_eq] at this
theorem rangeT {Z : Rl} (hZ : Rt Z) (h : ∀ a b, ¬ Z.has a b = true) (w : World) (hT : TabAt w) (h0 : 0 < w.heap.size) : Gives Tryd.prog 40 [encRel Z] w (.int .u64 0) := by
  have hr := range_ok Z w hT h0
  have e : ranL Z = 0#64 := by
    unfold ranL
    rw [hZ.right]
    have hi := invR_rt hZ
    unfold invR at hi
    rw [hi.right]
    apply BitVec.eq_of_getLsbD_eq
    intro j hj
    rw [BitVec.getLsbD_zero, domL, domP_get]
    have : (Rl.gen Z.n fun x y => Z.has y x).row j = 0#64 := by
      apply BitVec.eq_of_getLsbD_eq
      intro b _
      rw [BitVec.getLsbD_zero]
      cases hb : ((Rl.gen Z.n fun x y => Z.has y x).row j).getLsbD b with
      | false => rfl
      | true => exact absurd ((invR_has Z j b).1 hb) (h _ _)
    rw [this]; simp
  rw [e] at hr
  exact hr

/-- What is done is done with all that stands ahead. -/
def Cl (A : Rl) (dn : BitVec 64) : Prop := ∀ b j, dn.getLsbD b = true → A.has b j = true → dn.getLsbD j = true
theorem Cl.take {A : Rl} {dn : BitVec 64} {i : Nat} (h : Cl A dn) (hi : i < 64) (hr : rdyB A dn i = true) : Cl A (dn ||| 1#64 <<< i) := by
  intro b j hb hj
  rw [BitVec.getLsbD_or, Bool.or_eq_true] at hb ⊢
  rw [one_shl_get i b hi, decide_eq_true_eq] at hb
  rcases hb with hb | rfl
  · exact .inl (h b j hb hj)
  · exact .inl (((rdyB_iff _ _ _).1 hr).2 j hj)

theorem shl1_un' (v : Nat) : shlI .u64 1 (v : Int) = un (1#64 <<< v) := by rw [shl1_un, Int.toNat_natCast]

set_option maxHeartbeats 600000 in
theorem forward_ok {R : Rl} (hR : Rt R) {n : Nat} (hn : R.n = (n : Int)) (hac : irB (clos R) = true) (p : Option Addr) (c : Nat) (l : List Nat) (w : World) (hs : SeesN w p l) (hl : l.length = n) (hg : goodL (aheadL R) n 0#64 l) (hT : TabAt w) (h0 : 0 < w.heap.size) :
    Gives Tryd.prog 66 [encRel R, .slice p l.length c] w (.bool true) := by
  refine Gives.of_run Tryd.func66 rfl (by show 2 ≤ 57; decide) ?_
  have hn64 : n ≤ 64 := by have := hR.hi; omega
  have hir : ∀ a, R.has a a = false := fun a => by
    cases h : R.has a a with
    | false => rfl
    | true => rw [irB_false (clos_sub hR _ _ h)] at hac; cases hac
  refine RunF_sound tab_ok noX_local 100 [false] _ _ rfl ?_ ?_
  · simp [hl, hn, segsVals, relV_one']
  suffices H : ∀ (m i : Nat) (dn : BitVec 64), i + m = n → goodL (aheadL R) n dn (l.drop i) → Cl (aheadL R) dn → Run _ _ ⟨[(1, .v (.slice p l.length c)), (2, .ptr 0 0), (5, .v (.int .u64 (un dn))), (6, .v (.int .i64 (i : Int)))], [(0, .cells 25 [.vals 65 (relV R)])], 1⟩ by
    exact Run.to (H n 0 0#64 (by omega) hg (fun b j hb => by rw [BitVec.getLsbD_zero] at hb; cases hb)) ⟨rfl, rfl, rfl, rfl, trivial⟩ ⟨rfl, trivial⟩
  intro m
  induction m with
  | zero =>
    intro i dn hi _ _
    refine RunF_sound tab_ok noX_local 100 [false] _ _ rfl ?_ ?_
    · simp; omega
    exact Run.retP tab_ok Tryd.func66 rfl trivial (fun M => rfl)
  | succ m ih =>
    intro i dn hi hgd hcl
    have hil : i < l.length := by omega
    rw [List.drop_eq_getElem_cons hil] at hgd
    obtain ⟨hvn, hrd, hgn⟩ := hgd
    obtain ⟨hp, hpc⟩ := hs i hil
    generalize hv : l[i] = v at *
    have hv64 : v < 64 := by omega
    have hbit := ((rdyB_iff _ _ _).1 hrd).1
    have hb := bit_eq dn (v : Int)
    rw [Int.toNat_natCast, hbit, shr_un, Int.toNat_natCast] at hb
    have hb0 : ¬ band .u64 (un (dn >>> v)) 1 = 1 := by simpa using hb
    have hZr := cross_rt hR.lo hR.hi (1#64 <<< v) dn
    have hZn := cross_n hR.lo hR.hi (1#64 <<< v) dn
    have hZ := twoR_rt 1 hR hZr hZn.symm
    have hno : ∀ a b, ¬ (twoR 1 R (crossL R.n (1#64 <<< v) dn)).has a b = true := by
      intro a b h
      rw [meet_has hR hZr hZn.symm, cross_has hR.lo hR.hi, one_shl_get v a hv64, decide_eq_true_eq] at h
      obtain ⟨h1, _, rfl, h2⟩ := h
      have := hcl b a h2 ((aheadL_has hR b a).2 h1)
      rw [hbit] at this; cases this
    have k1 : ∀ w', Gives Tryd.prog 30 [encRel R, .int .u64 (un (1#64 <<< v)), .int .u64 (un dn)] w' (encRel (twoR 1 R (crossL R.n (1#64 <<< v) dn))) := fun w' => restrictT hR _ _ w'
    have k2 : ∀ w', Agree (fun _ => False) w w' → Gives Tryd.prog 40 [encRel (twoR 1 R (crossL R.n (1#64 <<< v) dn))] w' (.int .u64 0) := fun w' hA => rangeT hZ hno w' (hT.agree hA (fun f => f)) (Nat.lt_of_lt_of_le h0 hA.size)
    generalize twoR 1 R (crossL R.n (1#64 <<< v) dn) = Z at *
    have k3 : ∀ w', Gives Tryd.prog 16 [encRel R, .int .i64 (v : Int), .int .i64 (v : Int)] w' (.bool false) := fun w' => by
      have := has_ok R v v w'
      rw [hR.right, hasI_in (by omega) (by omega), hir] at this
      exact this
    refine RunF_sound tab_ok noX_local 100 [true] _ _ rfl ?_ ?_
    · simp only [fnC_w0, fnC_S0, Int.toNat_natCast, Nat.mul_one, hpc]
      simp
      (repeat' refine And.intro ?_ ?_) <;> first | omega | exact hp
    simp only [fnC_w0, Int.toNat_natCast, Nat.mul_one, hpc]
    refine Run.to (t' := [(1, .v (.slice p l.length c)), (2, .ptr 0 0), (5, .v (.int .u64 (un dn))), (6, .v (.int .i64 (i : Int))), (7, .v (.int .i64 (v : Int)))]) (h' := [(0, .cells 25 [.vals 65 (relV R)])]) (n' := 1) ?_ ⟨rfl, rfl, rfl, rfl, rfl, trivial⟩ ⟨rfl, trivial⟩
    refine Run.drawA noX_local rfl [] [(0, .cells 25 [.vals 65 (relV R)])] rfl rfl ⟨rfl, trivial⟩ ?_
    refine RunOF_sound tab_ok noX_local rfl rfl 200 [false, false, false] _ _ rfl ?_ ?_
    · simp only [fnC_w0, fnC_S0]
      simp [hn]
      exact ⟨by omega, hb0⟩
    refine RunO.callFn (r := encRel Z) noX_local rfl rfl rfl rfl rfl rfl rfl rfl restrict_enters rfl (fun w' _ => ?_) ?_
    · have := k1 w'
      rw [← shl1_un' v] at this
      exact this
    refine RunOF_sound tab_ok noX_local rfl rfl 200 [] _ _ rfl ?_ ?_
    · simp
    refine RunO.callFn (r := .int .u64 0) noX_local rfl rfl rfl rfl rfl rfl rfl rfl range_enters rfl (fun w' hA => k2 w' hA) ?_
    refine RunOF_sound tab_ok noX_local rfl rfl 200 [false] _ _ rfl ?_ ?_
    · simp
    refine RunO.callFn (r := .bool false) noX_local rfl rfl rfl rfl rfl rfl rfl rfl has_enters rfl (fun w' _ => k3 w') ?_
    refine RunOF_sound tab_ok noX_local rfl rfl 200 [] _ _ rfl ?_ ?_
    · simp
    refine RunO.done ?_
    refine RunF_sound tab_ok noX_local 100 [false] _ _ rfl ?_ ?_
    · simp
    refine Run.to (ih (i + 1) (dn ||| 1#64 <<< v) (by omega) hgn (hcl.take hv64 hrd)) ⟨rfl, rfl, u64_eq ?_, i64_eq (wrap_succ (by omega)), trivial⟩ ⟨rfl, trivial⟩
    rw [shl1_un, bor_un, Int.toNat_natCast]
theorem forward_enters : Enters Tryd.prog 66 := enters_mk Tryd.func66 (by decide) rfl
end Go.Proofs.YtocpkgckllbjlaaDoor

/-
  All orders, plain: they rise; what goes forward is one of them. Own work.
-/
namespace Go.Proofs.YtocpkgckllbjlaaDoor
open Go.AM
set_option maxRecDepth 100000

/-- Does a list come ahead of another one? -/
def belowL : List Nat → List Nat → Bool
  | a :: s, b :: t => if a = b then belowL s t else decide (a < b)
  | _, _ => false

theorem below_pre (i j : Nat) (s t : List Nat) (h : i < j) : ∀ l : List Nat, belowL (l ++ i :: s) (l ++ j :: t) = true
  | [] => by
    have hne : i ≠ j := by omega
    simp [belowL, hne, h]
  | a :: l => by simp [belowL, below_pre i j s t h l]

theorem extL_rise (A : Rl) (n : Nat) : ∀ (d : Nat) (l : List Nat) (dn : BitVec 64), (extL A n d l dn).Pairwise fun x y => belowL x y = true
  | 0, l, dn => by rw [extL]; exact List.pairwise_singleton _ _
  | d + 1, l, dn => by
    rw [extL, List.pairwise_flatMap]
    refine ⟨fun i _ => ?_, ?_⟩
    · by_cases c : rdyB A dn i = true
      · rw [if_pos c]; exact extL_rise A n d _ _
      · rw [if_neg c]; exact List.Pairwise.nil
    · refine List.Pairwise.imp ?_ List.pairwise_lt_range
      intro i j hij x hx y hy
      by_cases c : rdyB A dn i = true
      · rw [if_pos c, extL_mem] at hx
        by_cases c2 : rdyB A dn j = true
        · rw [if_pos c2, extL_mem] at hy
          obtain ⟨t, rfl, _, _⟩ := hx
          obtain ⟨u, rfl, _, _⟩ := hy
          rw [List.append_assoc, List.append_assoc]
          exact below_pre i j t u hij l
        · rw [if_neg c2] at hy; cases hy
      · rw [if_neg c] at hx; cases hx

theorem orders_rise (r : Rl) : (ordersL r).Pairwise fun x y => belowL x y = true := by
  rw [ordersL]
  by_cases c : irB (clos (rightL r)) = true
  · rw [if_pos c]; exact extL_rise _ _ _ _ _
  · rw [if_neg c]; exact List.Pairwise.nil

/-- What the test of an order says, number by number. -/
def fwdGo (R : Rl) (n : Nat) : BitVec 64 → List Int → Bool
  | _, [] => true
  | dn, v :: t => (((decide (0 ≤ v) && decide (v < (n : Int))) && !dn.getLsbD v.toNat) && ((List.range 64).all fun b => !(R.has v.toNat b && dn.getLsbD b)) && !R.has v.toNat v.toNat) && fwdGo R n (dn ||| 1#64 <<< v.toNat) t

theorem fwdGo_cons {R : Rl} {n : Nat} {dn : BitVec 64} {v : Int} {t : List Int} (h : fwdGo R n dn (v :: t) = true) : ∃ k : Nat, v = (k : Int) ∧ k < n ∧ dn.getLsbD k = false ∧ (∀ b, R.has k b = true → dn.getLsbD b = false) ∧ R.has k k = false ∧ fwdGo R n (dn ||| 1#64 <<< k) t = true := by
  simp only [fwdGo, Bool.and_eq_true, decide_eq_true_eq, Bool.not_eq_true', List.all_eq_true] at h
  obtain ⟨⟨⟨⟨⟨h1, h2⟩, h3⟩, h4⟩, h5⟩, h6⟩ := h
  obtain ⟨k, rfl⟩ := Int.eq_ofNat_of_zero_le h1
  simp only [Int.toNat_natCast] at *
  refine ⟨k, rfl, by omega, h3, fun b hb => ?_, h5, h6⟩
  have := h4 b (List.mem_range.2 (Rl.has_lt R hb).2)
  rw [hb] at this
  simpa using this

theorem fwd_later {R : Rl} {n : Nat} (hn : n ≤ 64) : ∀ (xs : List Int) (dn : BitVec 64), fwdGo R n dn xs = true → ∀ j : Nat, (j : Int) ∈ xs → j < n ∧ dn.getLsbD j = false ∧ ∀ b, dn.getLsbD b = true → R.has j b = false
  | [], _, _, j, hj => by cases hj
  | v :: t, dn, h, j, hj => by
    obtain ⟨k, rfl, hk, h1, h2, h3, h4⟩ := fwdGo_cons h
    rcases List.mem_cons.1 hj with e | hj
    · obtain rfl : j = k := by omega
      refine ⟨hk, h1, fun b hb => ?_⟩
      cases hh : R.has j b with
      | false => rfl
      | true => rw [h2 b hh] at hb; cases hb
    · obtain ⟨q1, q2, q3⟩ := fwd_later hn t _ h4 j hj
      rw [BitVec.getLsbD_or, Bool.or_eq_false_iff] at q2
      exact ⟨q1, q2.1, fun b hb => q3 b (by rw [BitVec.getLsbD_or, hb]; rfl)⟩

theorem fwd_nats {R : Rl} {n : Nat} : ∀ (xs : List Int) (dn : BitVec 64), fwdGo R n dn xs = true → ∃ ys : List Nat, xs = ys.map fun k : Nat => (k : Int)
  | [], _, _ => ⟨[], rfl⟩
  | v :: t, dn, h => by
    obtain ⟨k, rfl, _, _, _, _, h4⟩ := fwdGo_cons h
    obtain ⟨ys, rfl⟩ := fwd_nats t _ h4
    exact ⟨k :: ys, rfl⟩

theorem mem_cast {ys : List Nat} {j : Nat} : (j : Int) ∈ (ys.map fun k : Nat => (k : Int)) ↔ j ∈ ys := by
  rw [List.mem_map]
  constructor
  · rintro ⟨k, hk, e⟩
    obtain rfl : k = j := by omega
    exact hk
  · exact fun h => ⟨j, h, rfl⟩

theorem fwd_diff {R : Rl} {n : Nat} (hn : n ≤ 64) : ∀ (ys : List Nat) (dn : BitVec 64), fwdGo R n dn (ys.map fun k : Nat => (k : Int)) = true → ys.Nodup
  | [], _, _ => List.nodup_nil
  | k :: t, dn, h => by
    rw [List.map_cons] at h
    obtain ⟨k', e, hk, h1, h2, h3, h4⟩ := fwdGo_cons h
    obtain rfl : k = k' := by omega
    refine List.nodup_cons.2 ⟨fun hm => ?_, fwd_diff hn t _ h4⟩
    have := (fwd_later hn _ _ h4 k (mem_cast.2 hm)).2.1
    rw [BitVec.getLsbD_or, one_shl_get k k (by omega)] at this
    simp at this

theorem sub_len (a b : List Nat) (ha : a.Nodup) (h : ∀ z ∈ a, z ∈ b) : a.length ≤ b.length := by
  induction a generalizing b with
  | nil => simp
  | cons x a ih =>
    have hx := h x (by simp)
    have h1 := ih (b.erase x) (List.nodup_cons.1 ha).2 (fun z hz => by
      have hne : z ≠ x := fun e => (List.nodup_cons.1 ha).1 (e ▸ hz)
      exact (List.mem_erase_of_ne hne).2 (h z (by simp [hz])))
    rw [List.length_erase_of_mem hx] at h1
    have := List.length_pos_of_mem hx
    simp; omega

theorem fwd_good {R : Rl} (hR : Rt R) {n : Nat} (hn : R.n = (n : Int)) (hn64 : n ≤ 64) : ∀ (ys : List Nat) (dn : BitVec 64), fwdGo R n dn (ys.map fun k : Nat => (k : Int)) = true → (∀ j, j < n → dn.getLsbD j = true ∨ j ∈ ys) → goodL (aheadL R) n dn ys
  | [], _, _, _ => trivial
  | k :: t, dn, h, hall => by
    rw [List.map_cons] at h
    obtain ⟨k', e, hk, h1, h2, h3, h4⟩ := fwdGo_cons h
    obtain rfl : k = k' := by omega
    refine ⟨hk, (rdyB_iff _ _ _).2 ⟨h1, fun j hj => ?_⟩, fwd_good hR hn hn64 t _ h4 fun j hj => ?_⟩
    · rw [aheadL_has hR] at hj
      have hjn := (hR.lt _ _ hj).1
      rw [hn] at hjn
      rcases hall j (by omega) with h | h
      · exact h
      · rcases List.mem_cons.1 h with rfl | h
        · rw [h3] at hj; cases hj
        · have := (fwd_later hn64 _ _ h4 j (mem_cast.2 h)).2.2 k (by rw [BitVec.getLsbD_or, one_shl_get k k (by omega)]; simp)
          rw [this] at hj; cases hj
    · rcases hall j hj with h | h
      · exact .inl (by rw [BitVec.getLsbD_or, h]; rfl)
      · rcases List.mem_cons.1 h with rfl | h
        · exact .inl (by rw [BitVec.getLsbD_or, one_shl_get j j (by omega)]; simp)
        · exact .inr h

theorem fwd_order {R : Rl} (hR : Rt R) (hac : irB (clos R) = true) {n : Nat} (hn : R.n = (n : Int)) {xs : List Int} (hl : xs.length = n) (h : fwdGo R n 0#64 xs = true) : ∃ ys ∈ ordersL R, xs = ys.map fun k : Nat => (k : Int) := by
  have hn64 : n ≤ 64 := by have := hR.hi; omega
  obtain ⟨ys, rfl⟩ := fwd_nats xs _ h
  rw [List.length_map] at hl
  refine ⟨ys, ?_, rfl⟩
  have hd := fwd_diff hn64 ys _ h
  have hall : ∀ j, j < n → j ∈ ys := by
    intro j hj
    by_cases hm : j ∈ ys
    · exact hm
    · have := sub_len (j :: ys) (List.range n) (List.nodup_cons.2 ⟨hm, hd⟩) (fun z hz => by
        rcases List.mem_cons.1 hz with rfl | hz
        · exact List.mem_range.2 hj
        · exact List.mem_range.2 (fwd_later hn64 _ _ h z (mem_cast.2 hz)).1)
      simp at this; omega
  rw [ordersL, hR.right, if_pos hac, sizeL, hR.right, extL_mem]
  refine ⟨ys, by simp, by omega, ?_⟩
  have : R.n.toNat = n := by omega
  rw [this]
  exact fwd_good hR hn hn64 ys _ h fun j hj => .inr (hall j hj)
end Go.Proofs.YtocpkgckllbjlaaDoor

/-
  May a number stand next? Own work.
-/
namespace Go.Proofs.YtocpkgckllbjlaaDoor
open Go.AM
set_option maxRecDepth 100000

/-- May a number stand next, behind those of a list? -/
def freeB (R : Rl) (n : Nat) (l : List Nat) (i : Nat) : Bool := !l.contains i && (List.range n).all fun b => !R.has b i || l.contains b

theorem free_rdy {R : Rl} (hR : Rt R) {n : Nat} (hn : R.n = (n : Int)) {l : List Nat} {dn : BitVec 64} (hd : ∀ b, b < 64 → (dn.getLsbD b = true ↔ b ∈ l)) {i : Nat} (hi : i < n) : freeB R n l i = rdyB (aheadL R) dn i := by
  have h64 : n ≤ 64 := by have := hR.hi; omega
  rw [Bool.eq_iff_iff, rdyB_iff, freeB, Bool.and_eq_true, Bool.not_eq_true', List.all_eq_true]
  have hci : ∀ b, l.contains b = true ↔ b ∈ l := fun b => List.contains_iff_mem
  constructor
  · rintro ⟨h1, h2⟩
    refine ⟨?_, fun j hj => ?_⟩
    · rw [← Bool.not_eq_true] at h1 ⊢
      exact fun h => h1 ((hci i).2 ((hd i (by omega)).1 h))
    · rw [aheadL_has hR] at hj
      have hjn := (hR.lt _ _ hj).1
      have := h2 j (List.mem_range.2 (by omega))
      rw [hj] at this
      exact (hd j (by omega)).2 ((hci j).1 (by simpa using this))
  · rintro ⟨h1, h2⟩
    refine ⟨?_, fun b hb => ?_⟩
    · rw [← Bool.not_eq_true] at h1 ⊢
      exact fun h => h1 ((hd i (by omega)).2 ((hci i).1 h))
    · cases hh : R.has b i with
      | false => rfl
      | true =>
        have := h2 b ((aheadL_has hR i b).2 hh)
        rw [List.mem_range] at hb
        simpa using (hd b (by omega)).1 this

theorem contains_take {l : List Nat} {j : Nat} (h : j < l.length) (b : Nat) : (l.take (j + 1)).contains b = ((l.take j).contains b || decide (l[j] = b)) := by
  rw [Bool.eq_iff_iff, Bool.or_eq_true, List.contains_iff_mem, List.contains_iff_mem, decide_eq_true_eq, List.take_succ_eq_append_getElem h, List.mem_append, List.mem_singleton]
  constructor <;> (rintro (h | h) <;> first | exact .inl h | exact .inr h.symm)

set_option maxHeartbeats 1000000 in
theorem free_ok {R : Rl} (hR : Rt R) {n : Nat} (hn : R.n = (n : Int)) (p : Option Addr) (c : Nat) (l : List Nat) (i : Nat) (w : World) (hs : SeesN w p l) (hl : l.length ≤ maxLen) :
    Gives Tryd.prog 92 [encRel R, .slice p l.length c, .int .i64 (i : Int)] w (.bool (freeB R n l i)) := by
  refine Gives.of_run Tryd.func92 rfl (by show 3 ≤ 50; decide) ?_
  have hml : maxLen = 9223372036854775807 := rfl
  have hn64 : n ≤ 64 := by have := hR.hi; omega
  have hhas : ∀ (b : Nat) w', Gives Tryd.prog 17 [encRel R, .int .i64 (b : Int), .int .i64 (i : Int)] w' (.bool (R.has b i)) := fun b w' => by
    have := hasR_ok R ⟨hR.lo, hR.hi⟩ b i w'
    have e : hasI R b i = R.has b i := by
      by_cases h : (b : Int) < R.n ∧ (i : Int) < R.n
      · exact hasI_in h.1 h.2
      · cases hh : R.has b i with
        | true => exact absurd (hR.lt _ _ hh) h
        | false =>
          unfold hasI
          have : ¬ ((0 ≤ (b : Int) ∧ 0 ≤ (i : Int)) ∧ (b : Int) < R.n ∧ (i : Int) < R.n) := fun h2 => h h2.2
          first
          | (rw [decide_eq_false (by omega)]; rfl)
          | (simp; omega)
    rwa [e] at this
  refine RunF_sound tab_ok noX_local 100 [] _ _ rfl ?_ ?_
  · simp
  suffices H1 : ∀ (m j : Nat), j + m = l.length → (l.take j).contains i = false → ∀ σ, inT σ.t [(1, .v (.slice p l.length c)), (2, .v (.int .i64 (i : Int))), (3, .ptr 0 0), (7, .v (.int .i64 (j : Int)))] → inT σ.h [(0, .cells 25 [.vals 65 (relV R)])] → Run _ _ σ by
    exact H1 l.length 0 (by omega) (by simp) _ ⟨rfl, rfl, rfl, rfl, trivial⟩ ⟨rfl, trivial⟩
  intro m
  induction m with
  | succ m ih =>
    intro j hj hnc σ ht hh
    refine Run.to ?_ ht hh (n' := 1)
    have hjl : j < l.length := by omega
    obtain ⟨hp, hpc⟩ := hs j hjl
    by_cases ce : l[j] = i
    · have hf : freeB R n l i = false := by
        have : l.contains i = true := List.contains_iff_mem.2 (ce ▸ List.getElem_mem hjl)
        rw [freeB, this]; rfl
      rw [hf]
      refine RunF_sound tab_ok noX_local 100 [true, true] _ _ rfl ?_ ?_
      · simp only [fnC_w0, fnC_S0, Int.toNat_natCast, Nat.mul_one, hpc]
        simp
        exact ⟨hjl, ⟨hp, hjl⟩, by omega⟩
      exact Run.retP tab_ok Tryd.func92 rfl trivial (fun M => rfl)
    · refine RunF_sound tab_ok noX_local 100 [true, false] _ _ rfl ?_ ?_
      · simp only [fnC_w0, fnC_S0, Int.toNat_natCast, Nat.mul_one, hpc]
        simp
        exact ⟨hjl, ⟨hp, hjl⟩, by omega⟩
      refine ih (j + 1) (by omega) (by rw [contains_take hjl, hnc, decide_eq_false ce]; rfl) _ ⟨rfl, rfl, rfl, i64_eq (wrap_succ (by omega)), trivial⟩ ⟨rfl, trivial⟩
  | zero =>
    intro j hj hnc σ ht hh
    refine Run.to ?_ ht hh (n' := 1)
    obtain rfl : j = l.length := by omega
    rw [List.take_length] at hnc
    refine RunF_sound tab_ok noX_local 100 [false] _ _ rfl ?_ ?_
    · simp
    clear ht hh
    have hfr : freeB R n l i = (List.range n).all fun b => !R.has b i || l.contains b := by rw [freeB, hnc]; rfl
    obtain ⟨B, hB⟩ : ∃ B, B = freeB R n l i := ⟨_, rfl⟩
    rw [hfr] at hB
    rw [hfr, ← hB]
    suffices H2 : ∀ (m b : Nat), b + m = n → ((List.range b).all fun b => !R.has b i || l.contains b) = true → ∀ σ, inT σ.t [(1, .v (.slice p l.length c)), (2, .v (.int .i64 (i : Int))), (3, .ptr 0 0), (8, .v (.int .i64 (b : Int)))] → inT σ.h [(0, .cells 25 [.vals 65 (relV R)])] → Run _ _ σ by
      exact H2 n 0 (by omega) (by simp) _ ⟨rfl, rfl, rfl, rfl, trivial⟩ ⟨rfl, trivial⟩
    intro m
    induction m with
    | zero =>
      intro b hb hall σ ht hh
      refine Run.to ?_ ht hh (n' := 1)
      obtain rfl : b = n := by omega
      rw [hall] at hB
      subst hB
      refine RunF_sound tab_ok noX_local 100 [false] _ _ rfl ?_ ?_
      · simp [hn]
      exact Run.retP tab_ok Tryd.func92 rfl trivial (fun M => rfl)
    | succ m ihb =>
      intro b hb hall σ ht hh
      refine Run.to ?_ ht hh (n' := 1)
      have hrs : ((List.range (b + 1)).all fun b => !R.has b i || l.contains b) = (!R.has b i || l.contains b) := by
        rw [List.range_succ, List.all_append, hall]; simp
      have hbad : (!R.has b i || l.contains b) = false → B = false := fun h => by
        rw [hB, Bool.eq_false_iff]
        intro h2
        rw [List.all_eq_true] at h2
        have := h2 b (List.mem_range.2 (by omega))
        rw [this] at h; cases h
      have hbh := hhas b
      generalize R.has b i = bh at *
      refine RunF_sound tab_ok noX_local 100 [true] _ _ rfl ?_ ?_
      · simp [hn]; omega
      refine Run.callFn (r := .bool bh) noX_local rfl rfl rfl rfl rfl rfl rfl hasR_enters rfl (fun w' _ => hbh w') ?_
      cases bh with
      | false =>
        refine RunF_sound tab_ok noX_local 100 [false] _ _ rfl ?_ ?_
        · simp
        refine ihb (b + 1) (by omega) (by rw [hrs]; rfl) _ ⟨rfl, rfl, rfl, i64_eq (wrap_succ (by omega)), trivial⟩ ⟨rfl, trivial⟩
      | true =>
        refine RunF_sound tab_ok noX_local 100 [true] _ _ rfl ?_ ?_
        · simp
        suffices H3 : ∀ (m j : Nat), j + m = l.length → ∀ σ, inT σ.t [(1, .v (.slice p l.length c)), (2, .v (.int .i64 (i : Int))), (3, .ptr 0 0), (8, .v (.int .i64 (b : Int))), (9, .v (.bool ((l.take j).contains b))), (10, .v (.int .i64 (j : Int)))] → inT σ.h [(0, .cells 25 [.vals 65 (relV R)])] → Run _ _ σ by
          exact Run.toC (t' := [(1, .v (.slice p l.length c)), (2, .v (.int .i64 (i : Int))), (3, .ptr 0 0), (8, .v (.int .i64 (b : Int))), (9, .v (.bool ((l.take 0).contains b))), (10, .v (.int .i64 ((0 : Nat) : Int)))]) (h' := [(0, .cells 25 [.vals 65 (relV R)])]) (n' := 1) (H3 l.length 0 (by omega) _ ⟨rfl, rfl, rfl, rfl, rfl, rfl, trivial⟩ ⟨rfl, trivial⟩)
            ⟨inTC_same rfl, inTC_same rfl, inTC_same rfl, inTC_same rfl, ⟨_, rfl, fun M => by simp [conc]⟩, inTC_same rfl, trivial⟩ ⟨rfl, trivial⟩
        clear ht hh
        intro m3
        induction m3 with
        | zero =>
          intro j hj σ ht hh
          refine Run.to ?_ ht hh (n' := 1)
          obtain rfl : j = l.length := by omega
          rw [List.take_length]
          simp only [Bool.not_true, Bool.false_or] at hrs hbad
          generalize l.contains b = cb at *
          cases cb with
          | true =>
            refine RunF_sound tab_ok noX_local 100 [false, false] _ _ rfl ?_ ?_
            · simp
            refine ihb (b + 1) (by omega) hrs _ ⟨rfl, rfl, rfl, i64_eq (wrap_succ (by omega)), trivial⟩ ⟨rfl, trivial⟩
          | false =>
            refine RunF_sound tab_ok noX_local 100 [false, true] _ _ rfl ?_ ?_
            · simp
            exact Run.retP tab_ok Tryd.func92 rfl trivial (fun M => by rw [hbad rfl]; rfl)
        | succ m3 ih3 =>
          intro j hj σ ht hh
          refine Run.to ?_ ht hh (n' := 1)
          have hjl : j < l.length := by omega
          obtain ⟨hp, hpc⟩ := hs j hjl
          have hct := contains_take hjl b
          generalize (l.take j).contains b = cb at *
          cases cb with
          | true =>
            refine RunF_sound tab_ok noX_local 100 [true, true] _ _ rfl ?_ ?_
            · simp; omega
            exact Run.toC (t' := [(1, .v (.slice p l.length c)), (2, .v (.int .i64 (i : Int))), (3, .ptr 0 0), (8, .v (.int .i64 (b : Int))), (9, .v (.bool ((l.take (j + 1)).contains b))), (10, .v (.int .i64 ((j + 1 : Nat) : Int)))]) (h' := [(0, .cells 25 [.vals 65 (relV R)])]) (n' := 1) (ih3 (j + 1) (by omega) _ ⟨rfl, rfl, rfl, rfl, rfl, rfl, trivial⟩ ⟨rfl, trivial⟩)
              ⟨inTC_same rfl, inTC_same rfl, inTC_same rfl, inTC_same rfl, ⟨_, rfl, fun M => by simp only [conc]; rw [hct]; rfl⟩, ⟨_, rfl, fun M => by simp only [conc]; rw [wrap_succ (by omega)]⟩, trivial⟩ ⟨rfl, trivial⟩
          | false =>
            refine RunF_sound tab_ok noX_local 100 [true, false] _ _ rfl ?_ ?_
            · simp only [fnC_w0, fnC_S0, Int.toNat_natCast, Nat.mul_one, hpc]
              simp
              exact ⟨hjl, hp, hjl⟩
            simp only [fnC_w0, Int.toNat_natCast, Nat.mul_one, hpc]
            exact Run.toC (t' := [(1, .v (.slice p l.length c)), (2, .v (.int .i64 (i : Int))), (3, .ptr 0 0), (8, .v (.int .i64 (b : Int))), (9, .v (.bool ((l.take (j + 1)).contains b))), (10, .v (.int .i64 ((j + 1 : Nat) : Int)))]) (h' := [(0, .cells 25 [.vals 65 (relV R)])]) (n' := 1) (ih3 (j + 1) (by omega) _ ⟨rfl, rfl, rfl, rfl, rfl, rfl, trivial⟩ ⟨rfl, trivial⟩)
              ⟨inTC_same rfl, inTC_same rfl, inTC_same rfl, inTC_same rfl, ⟨_, rfl, fun M => by
                simp only [conc]; rw [hct, Bool.false_or]
                congr 1
                rw [Bool.eq_iff_iff]; simp; omega⟩, ⟨_, rfl, fun M => by simp only [conc]; rw [wrap_succ (by omega)]⟩, trivial⟩ ⟨rfl, trivial⟩
theorem free_enters : Enters Tryd.prog 92 := enters_mk Tryd.func92 (by decide) rfl
end Go.Proofs.YtocpkgckllbjlaaDoor

/-
  The document's orders: the outer part, the leaf. Own work.
-/
namespace Go.Proofs.YtocpkgckllbjlaaDoor
open Go.AM
set_option maxRecDepth 100000

/-- The list of lists in its box, as it lies in a world: br: its row's block and capacity. -/
structure OutSt (w : World) (fp : Foot) (po : Nat) (br : Option (Nat × Nat)) (s : List Ent) : Prop where
  box : match br with
    | none => s = [] ∧ BlkAt (fun _ => (po, 0)) w 0 (.cells 53 [.one (.v (.slice none 0 0))])
    | some (b, cap) => s ≠ [] ∧ b ≠ po ∧ BlkAt (fun _ => (po, 0)) w 0 (.cells 53 [.one (.v (.slice (some ⟨b, 0, none⟩) s.length cap))]) ∧ BlkAt (fun _ => (b, cap)) w 0 (.row 47 1 s.length (s.map slV)) ∧ ∀ e ∈ s, e.1 ≠ b
  foot : ∀ x, fp x ↔ x = po ∨ (∃ c, br = some (x, c)) ∨ ∃ e ∈ s, e.1 = x
  nd : (s.map fun e => e.1).Nodup
  ent : ∀ e ∈ s, EntAt w e ∧ e.1 ≠ po

def outX (po : Nat) (L : List (List Nat)) : Res := fun w fp => ∃ br s, s.map (fun e => e.2.2) = L ∧ OutSt w fp po br s

theorem outX_local (po : Nat) (L : List (List Nat)) : Local (outX po L) := by
  rintro w w' fp ⟨br, s, hs, h⟩ _ heq
  refine ⟨br, s, hs, ?_, h.foot, h.nd, fun e he => ⟨BlkAt.same (h.ent e he).1 (heq _ ((h.foot _).2 (.inr (.inr ⟨e, he, rfl⟩)))), (h.ent e he).2⟩⟩
  have hb := h.box
  have hpo := heq po ((h.foot _).2 (.inl rfl))
  cases br with
  | none => exact ⟨hb.1, BlkAt.same hb.2 hpo⟩
  | some x => exact ⟨hb.1, hb.2.1, BlkAt.same hb.2.2.1 hpo, BlkAt.same hb.2.2.2.1 (heq x.1 ((h.foot _).2 (.inr (.inl ⟨x.2, rfl⟩)))), hb.2.2.2.2⟩

/-- What the document's recursion does. -/
def MoreR (w : World) (fp : Foot) (po : Nat) (L : List (List Nat)) : Value → World → Prop := fun _ w' => ∃ fp', Grown fp w fp' w' ∧ outX po L w' fp'

def MoreOK (R : Rl) (n : Nat) (po most d : Nat) : Prop := ∀ (l : List Nat) (dn : BitVec 64) (pl : Option Addr) (cl : Nat) (w : World) (fp : Foot) (L : List (List Nat)), l.length + d = n → (∀ b, b < 64 → (dn.getLsbD b = true ↔ b ∈ l)) →
  outX po L w fp → (∀ b, fp b → b < w.heap.size) → SeesN w pl l → (∀ a, pl = some a → ¬ fp a.block) → (pl = none → l = [] ∧ cl = 0) → L.length ≤ 1000000 →
    GivesR Tryd.prog 87 [encRel R, .slice pl l.length cl, .int .i64 (most : Int), .pointer (some ⟨po, 0, none⟩)] w (MoreR w fp po (L ++ (extL (aheadL R) n d l dn).take (most - L.length)))

theorem more_enters : Enters Tryd.prog 87 := enters_mk Tryd.func87 (by decide) rfl

/-- The same as blocks. -/
def oh (s : List Ent) : List (Nat × Blk) := (0, .cells 53 [.one (lz 1 s)]) :: lr 1 s

theorem oh_lk {s : List Ent} {id : Nat} {B : Blk} (h : lk (oh s) id = some B) : (id = 0 ∧ B = .cells 53 [.one (lz 1 s)]) ∨ (s ≠ [] ∧ id = 1 ∧ B = .row 47 1 s.length (s.map slV)) := by
  cases s with
  | nil =>
    simp only [oh, lr, lk] at h
    split at h
    · rename_i he; cases h; exact .inl ⟨Nat.eq_of_beq_eq_true he, rfl⟩
    · cases h
  | cons e s =>
    simp only [oh, lr, lk] at h
    split at h
    · rename_i he; cases h; exact .inl ⟨Nat.eq_of_beq_eq_true he, rfl⟩
    · split at h
      · rename_i he; cases h; exact .inr ⟨by simp, Nat.eq_of_beq_eq_true he, rfl⟩
      · cases h

theorem more_blocks {w : World} {fp : Foot} {po : Nat} {br : Option (Nat × Nat)} {s : List Ent} {a b c : Value} {R : Value → World → Prop} {cd : Code} (hb : (Tryd.f87).body = some cd) (hO : OutSt w fp po br s) (hlt : ∀ b, fp b → b < w.heap.size)
    (h : Run (fnL Tryd.prog 87 4 (Tryd.f87).ntmps #[a, b, c, .pointer (some ⟨po, 0, none⟩)] w fp (rowsX s) R) [.code cd] ⟨[(0, .v a), (1, .v b), (2, .v c), (3, .ptr 0 0)], oh s, 2⟩) :
    GivesR Tryd.prog 87 [a, b, c, .pointer (some ⟨po, 0, none⟩)] w R := by
  obtain ⟨M, hM0, hM1⟩ : ∃ M : AM.Loc, (M 0) = (po, 0) ∧ ∀ b c, br = some (b, c) → M 1 = (b, c) := ⟨fun i => if i = 0 then (po, 0) else br.getD (0, 0), rfl, fun b c e => by rw [e]; rfl⟩
  have ea : concL M [.v a, .v b, .v c, .ptr 0 0] = [a, b, c, .pointer (some ⟨po, 0, none⟩)] := by simp [concL, conc, hM0]
  have hX : rowsX s w (fun x => ∃ e ∈ s, e.1 = x) := ⟨fun b => Iff.rfl, hO.nd, fun e he => (hO.ent e he).1⟩
  have hfl : ∀ x, (∃ e ∈ s, e.1 = x) → x < w.heap.size := fun x hx => hlt x ((hO.foot x).2 (.inr (.inr hx)))
  have hbox := hO.box
  have hblk : ∀ id B, lk (oh s) id = some B → BlkAt M w id B ∧ ((id = 0 ∧ (M id).1 = po) ∨ (id = 1 ∧ ∃ c, br = some ((M id).1, c) ∧ (M id).1 ≠ po ∧ ∀ e ∈ s, e.1 ≠ (M id).1)) := by
    intro id B hB
    rcases oh_lk hB with ⟨rfl, rfl⟩ | ⟨hne, rfl, rfl⟩
    · refine ⟨?_, .inl ⟨rfl, by rw [hM0]⟩⟩
      cases br with
      | none =>
        obtain ⟨rfl, hbx⟩ := hbox
        have h1 : BlkAt (fun _ => M 0) w 0 (.cells 53 [.one (.v (.slice none 0 0))]) := by rw [hM0]; exact hbx
        exact h1
      | some x =>
        obtain ⟨hne, hbp, hbx, _⟩ := hbox
        have h1 : BlkAt (fun _ => M 0) w 0 (.cells 53 [.one (.v (.slice (some ⟨x.1, 0, none⟩) s.length x.2))]) := by rw [hM0]; exact hbx
        have h2 : conc M (lz 1 s) = .slice (some ⟨x.1, 0, none⟩) s.length x.2 := by
          cases s with
          | nil => exact absurd rfl hne
          | cons e s => simp [lz, conc, hM1 x.1 x.2 rfl]
        refine ⟨?_, trivial⟩
        have h3 := h1.1
        simpa [concSegs, conc, h2] using h3
    · cases br with
      | none => exact absurd hbox.1 hne
      | some x =>
        obtain ⟨_, hbp, _, hrw, hen⟩ := hbox
        have h1 : BlkAt (fun _ => M 1) w 0 (.row 47 1 s.length (s.map slV)) := by rw [hM1 x.1 x.2 rfl]; exact hrw
        refine ⟨h1, .inr ⟨rfl, x.2, by rw [hM1 x.1 x.2 rfl], by rw [hM1 x.1 x.2 rfl]; exact hbp, by rw [hM1 x.1 x.2 rfl]; exact hen⟩⟩
  have hfoot : footH M (fun x => ∃ e ∈ s, e.1 = x) (oh s) = fp := by
    funext x; apply propext
    rw [hO.foot x]
    constructor
    · rintro (h | ⟨id, B, hB, rfl⟩)
      · exact .inr (.inr h)
      · rcases (hblk id B hB).2 with ⟨_, h⟩ | ⟨_, c, h, _⟩
        · exact .inl h
        · exact .inr (.inl ⟨c, h⟩)
    · rintro (rfl | ⟨c, h⟩ | h)
      · exact .inr ⟨0, _, rfl, by rw [hM0]⟩
      · refine .inr ⟨1, .row 47 1 s.length (s.map slV), ?_, by rw [hM1 x c h]⟩
        rw [h] at hbox
        cases s with
        | nil => exact absurd rfl hbox.1
        | cons e s => rfl
      · exact .inl h
  rw [← ea]
  refine givesL_of_run (h := oh s) (nx := 2) (fp := fun x => ∃ e ∈ s, e.1 = x) (X := rowsX s) Tryd.func87 hb (by show 4 ≤ 52; decide) hX hfl (fun id B hB => (hblk id B hB).1) ?_ ?_ ?_
  · intro id id' B B' hB hB' he
    rcases (hblk id B hB).2 with ⟨rfl, h1⟩ | ⟨rfl, c, h1, h2, _⟩ <;> rcases (hblk id' B' hB').2 with ⟨rfl, h3⟩ | ⟨rfl, c', h3, h4, _⟩
    · rfl
    · exact absurd (he.symm.trans h1) h4
    · exact absurd (he.trans h3) h2
    · rfl
  · rintro id B hB ⟨e, he, hee⟩
    rcases (hblk id B hB).2 with ⟨rfl, h1⟩ | ⟨rfl, c, h1, h2, h3⟩
    · exact (hO.ent e he).2 (hee.trans h1)
    · exact h3 e he hee
  · rw [hfoot, ea]; exact h

/-- What the leaf leaves. -/
theorem more_leave {w : World} {fp fp' : Foot} {po : Nat} {a b c : Value} {R : Value → World → Prop} {s : List Ent} {E : Ent} {M : AM.Loc} {σ : St} {ac : Act} {w' : World} {L : List (List Nat)} {idr : Nat}
    (hr : Rel (fnL Tryd.prog 87 4 (Tryd.f87).ntmps #[a, b, c, .pointer (some ⟨po, 0, none⟩)] w fp (rowsX (s ++ [E])) R) M fp' σ ac w') (h3 : lk σ.t 3 = some (.ptr 0 0))
    (hb0 : lk σ.h 0 = some (.cells 53 [.one (.sl idr 1 0 (s.length + 1))])) (hb1 : lk σ.h idr = some (.row 47 1 (s.length + 1) ((s ++ [E]).map slV))) (hid : idr ≠ 0) (hL : (s ++ [E]).map (fun e => e.2.2) = L) : MoreR w fp po L (.int .i64 0) w' := by
  have hbo : (M 0).1 = po := hr.still (i := 3) (off := 0) (o := 0) (by show 3 < 4; decide) rfl h3
  have hne : (M idr).1 ≠ po := fun e => hid (hr.inj _ _ _ _ hb1 hb0 (e.trans hbo.symm))
  obtain ⟨x1, x2, x3⟩ : rowsX (s ++ [E]) w' fp' := hr.outer
  have hlen : (s ++ [E]).length = s.length + 1 := by simp
  refine ⟨fun x => fp' x ∨ x = po ∨ x = (M idr).1, ⟨hr.agree, ?_⟩, some ((M idr).1, (M idr).2), s ++ [E], hL, ?_, ?_, x2, ?_⟩
  · rintro x (hx | rfl | rfl)
    · exact hr.fpok x hx
    · rw [← hbo]; exact ⟨(hr.heap 0 _ hb0).lt, hr.own 0 _ hb0⟩
    · exact ⟨(hr.heap idr _ hb1).lt, hr.own idr _ hb1⟩
  · refine ⟨by simp, hne, ?_, by rw [hlen]; exact hr.heap idr _ hb1, fun e he h => hr.apart idr _ hb1 ((x1 _).2 ⟨e, he, h⟩)⟩
    have h1 := hr.heap 0 _ hb0
    refine ⟨?_, trivial⟩
    have h2 := h1.1
    rw [hbo] at h2
    simpa [concSegs, conc] using h2
  · intro x
    constructor
    · rintro (hx | rfl | rfl)
      · exact .inr (.inr ((x1 x).1 hx))
      · exact .inl rfl
      · exact .inr (.inl ⟨_, rfl⟩)
    · rintro (rfl | ⟨c', h⟩ | h)
      · exact .inr (.inl rfl)
      · cases h; exact .inr (.inr rfl)
      · exact .inl ((x1 x).2 h)
  · intro e he
    exact ⟨x3 e he, fun h => hr.apart 0 _ hb0 (by rw [hbo]; exact (x1 _).2 ⟨e, he, h⟩)⟩
end Go.Proofs.YtocpkgckllbjlaaDoor

/-
  The document's orders: the recursion walked. Own work.
-/
namespace Go.Proofs.YtocpkgckllbjlaaDoor
open Go.AM
set_option maxRecDepth 100000

/-- The box's slice: how long it is. -/
theorem outX_len {po : Nat} {L : List (List Nat)} {w : World} {fp : Foot} (h : outX po L w fp) : ∃ v, (∃ p c, v = .slice p L.length c) ∧ w.cell? ⟨po, 0, none⟩ = some v := by
  obtain ⟨br, s, hs, hO⟩ := h
  have hl : s.length = L.length := by rw [← hs]; simp
  have hb := hO.box
  cases br with
  | none =>
    obtain ⟨h0, hbx⟩ := hb
    subst h0
    refine ⟨.slice none L.length 0, ⟨none, 0, rfl⟩, ?_⟩
    rw [← hl]
    have := cells_of_blk hbx 0
    simpa [concSegs, conc] using this
  | some x =>
    obtain ⟨_, _, hbx, _⟩ := hb
    refine ⟨.slice (some ⟨x.1, 0, none⟩) s.length x.2, ⟨_, _, by rw [hl]⟩, ?_⟩
    have := cells_of_blk hbx 0
    simpa [concSegs, conc] using this

theorem more_full (R : Rl) (po most : Nat) (pl : Option Addr) (cl len : Nat) (w : World) (fp : Foot) (L : List (List Nat)) (hX : outX po L w fp) (hlt : ∀ b, fp b → b < w.heap.size) (hf : L.length ≥ most) :
    GivesR Tryd.prog 87 [encRel R, .slice pl len cl, .int .i64 (most : Int), .pointer (some ⟨po, 0, none⟩)] w (MoreR w fp po L) := by
  refine givesX_of_run (S0 := fp) (X := outX po L) Tryd.func87 rfl (by show 4 ≤ 52; decide) hX (fun b hb => ⟨hlt b hb, fun _ => hb⟩) ?_
  refine RunF_sound tab_ok (outX_local po L) 9 [] _ _ rfl ?_ ?_
  · simp
  refine Run.loadX (Q := fun v => ∃ p c, v = .slice p L.length c) tab_ok rfl rfl rfl rfl rfl (fun w' fp' h => outX_len h) rfl rfl ?_
  rintro v ⟨p, c, rfl⟩
  refine RunF_sound tab_ok (outX_local po L) 100 [true] _ _ rfl ?_ ?_
  · simp; omega
  exact Run.retI Tryd.func87 rfl fun v w' fp' hg hX => ⟨fp', hg, hX⟩

theorem lz_cons (id : Nat) {s : List Ent} (h : s ≠ []) : lz id s = .sl id 1 0 s.length := by
  cases s with
  | nil => exact absurd rfl h
  | cons e s => rfl

noncomputable def moreBody : Code := (Tryd.f87).body.get rfl

theorem ext_seesN {w : World} {a : Addr} : ∀ {l : List Nat}, SeesN w (some a) l → extCells w a 0 l.length = encN l := by
  suffices H : ∀ (l : List Nat) (k : Nat), (∀ i (h : i < l.length), w.cell? (a.add (k + i)) = some (.int .i64 (l[i] : Int))) → extCells w a k l.length = encN l by
    intro l h
    refine H l 0 fun i hi => ?_
    rw [Nat.zero_add]
    exact (h i hi).2
  intro l
  induction l with
  | nil => intro k _; rfl
  | cons x l ih =>
    intro k h
    have h0 := h 0 (by simp)
    simp only [Nat.add_zero, List.getElem_cons_zero] at h0
    rw [List.length_cons, extCells, h0, ih (k + 1) fun i hi => by
      have := h (i + 1) (by simp; omega)
      rw [show k + 1 + i = k + (i + 1) by omega]
      simpa using this]
    rfl

set_option maxHeartbeats 2000000 in
theorem more_zero (R : Rl) (hR : Rt R) (n : Nat) (hn : R.n = (n : Int)) (po most : Nat) : MoreOK R n po most 0 := by
  intro l dn pl cl w fp L hl hd hX hlt hs hnf hpn hL9
  by_cases hf : L.length ≥ most
  · have := more_full R po most pl cl l.length w fp L hX hlt hf
    rw [show most - L.length = 0 by omega, List.take_zero, List.append_nil]
    exact this
  have htk : (extL (aheadL R) n 0 l dn).take (most - L.length) = [l] := by
    rw [extL, List.take_of_length_le (by simp; omega)]
  rw [htk]
  have hn64 : n ≤ 64 := by have := hR.hi; omega
  have hln : l.length = n := by omega
  obtain ⟨br, s, hsL, hO⟩ := hX
  have hsl : s.length = L.length := by rw [← hsL]; simp
  refine more_blocks (cd := moreBody) rfl hO hlt ?_
  have hml : maxLen = 9223372036854775807 := rfl
  cases pl with
  | none =>
    obtain ⟨rfl, rfl⟩ := hpn rfl
    cases s with
    | nil =>
      refine RunF_sound tab_ok (rowsX_local []) 100 [false, true] _ _ rfl ?_ ?_
      · simp [← hln, hn]
        simp at hsl
        omega
      refine Run.drawA (rowsX_local []) rfl [] [(0, .cells 53 [.one (.v (.slice none 0 0))])] rfl rfl ⟨rfl, trivial⟩ ?_
      refine RunOF_sound tab_ok (rowsX_local []) rfl rfl 200 [] _ _ rfl ?_ ?_
      · simp [repL, fillL, Value.cells, inT, lk]
      refine RunO.to [(3, .ptr 0 0), (21, .ptr 0 0), (24, (.v (.slice none 0 0))), (27, .sl 3 1 0 0)] [(0, .cells 53 [.one (.v (.slice none 0 0))]), (3, .row 3 1 0 (encN []))] 5 ?_ ⟨rfl, rfl, rfl, rfl, trivial⟩ ⟨rfl, ?_, trivial⟩ (show 2 + 1 ≤ 5 by decide)
      rotate_left
      · rfl
      refine RunO.give 3 (B := .row 3 1 0 (encN [])) (fun M => rowsX ([] ++ [((M 3).1, (M 3).2, [])])) (fun M => [(3, .ptr 0 0), (21, .ptr 0 0), (24, (.v (.slice none 0 0))), (27, .v (slV ((M 3).1, (M 3).2, [])))]) [(0, .cells 53 [.one (.v (.slice none 0 0))])] 5 (show 2 + 1 ≤ 5 by decide) rfl ⟨rfl, trivial⟩ rfl ?_ ?_ ?_
      · exact fun M => ⟨⟨_, rfl, rfl⟩, ⟨_, rfl, rfl⟩, ⟨_, rfl, rfl⟩, ⟨_, rfl, by simp [conc, slV]⟩, trivial⟩
      · exact fun M w hb => rowsX_join [] hb
      intro M
      generalize hE : (((M 3).1, (M 3).2, []) : Ent) = E
      have hEl : E.2.2 = [] := by rw [← hE]
      have hsL' : (([] : List Ent) ++ [E]).map (fun e => e.2.2) = L ++ [[]] := by rw [List.map_append, hsL]; simp [hEl]
      clear hE
      refine RunOF_sound tab_ok (rowsX_local ([] ++ [E])) rfl rfl 3 [] _ _ rfl ?_ ?_
      · simp [repL, fillL, Value.cells, inT, lk, slV, Value.oneCell', maxLen, splice]
      refine RunO.effLast tab_ok (rowsX_local ([] ++ [E])) rfl rfl rfl rfl ?_ (fun e => by cases e) rfl ?_
      · simp [okCell]
      refine RunF_sound tab_ok (rowsX_local ([] ++ [E])) 100 [] _ _ rfl ?_ ?_
      · simp
      refine Run.retF tab_ok Tryd.func87 rfl trivial fun M fp' ac w' hr => ?_
      exact more_leave (s := []) (E := E) (idr := 6) hr rfl rfl rfl (by decide) hsL'
    | cons e0 s =>
      refine RunF_sound tab_ok (rowsX_local (e0 :: s)) 100 [false, true] _ _ rfl ?_ ?_
      · simp [← hln, hn]
        simp at hsl
        omega
      refine Run.drawA (rowsX_local (e0 :: s)) rfl [] [(0, .cells 53 [.one (.sl 1 1 0 (s.length + 1))])] rfl rfl ⟨rfl, trivial⟩ ?_
      refine RunOF_sound tab_ok (rowsX_local (e0 :: s)) rfl rfl 200 [] _ _ rfl ?_ ?_
      · simp [repL, fillL, Value.cells, inT, lk]
      refine RunO.to [(3, .ptr 0 0), (21, .ptr 0 0), (24, (.sl 1 1 0 (s.length + 1))), (27, .sl 3 1 0 0)] [(0, .cells 53 [.one (.sl 1 1 0 (s.length + 1))]), (1, .row 47 1 (s.length + 1) ((e0 :: s).map slV)), (3, .row 3 1 0 (encN []))] 5 ?_ ⟨rfl, rfl, rfl, rfl, trivial⟩ ⟨rfl, rfl, ?_, trivial⟩ (show 2 + 1 ≤ 5 by decide)
      rotate_left
      · rfl
      refine RunO.give 3 (B := .row 3 1 0 (encN [])) (fun M => rowsX ((e0 :: s) ++ [((M 3).1, (M 3).2, [])])) (fun M => [(3, .ptr 0 0), (21, .ptr 0 0), (24, (.sl 1 1 0 (s.length + 1))), (27, .v (slV ((M 3).1, (M 3).2, [])))]) [(0, .cells 53 [.one (.sl 1 1 0 (s.length + 1))]), (1, .row 47 1 (s.length + 1) ((e0 :: s).map slV))] 5 (show 2 + 1 ≤ 5 by decide) rfl ⟨rfl, rfl, trivial⟩ rfl ?_ ?_ ?_
      · exact fun M => ⟨⟨_, rfl, rfl⟩, ⟨_, rfl, rfl⟩, ⟨_, rfl, rfl⟩, ⟨_, rfl, by simp [conc, slV]⟩, trivial⟩
      · exact fun M w hb => rowsX_join (e0 :: s) hb
      intro M
      generalize hE : (((M 3).1, (M 3).2, []) : Ent) = E
      have hEl : E.2.2 = [] := by rw [← hE]
      have hsL' : ((e0 :: s) ++ [E]).map (fun e => e.2.2) = L ++ [[]] := by rw [List.map_append, hsL]; simp [hEl]
      clear hE
      refine RunOF_sound tab_ok (rowsX_local ((e0 :: s) ++ [E])) rfl rfl 3 [] _ _ rfl ?_ ?_
      · simp [repL, fillL, Value.cells, inT, lk, slV, Value.oneCell', maxLen, splice]
        simp at hsl
        omega
      refine RunO.effLast tab_ok (rowsX_local ((e0 :: s) ++ [E])) rfl rfl rfl rfl ?_ (fun e => by cases e) rfl ?_
      · simp [okCell]
      refine RunF_sound tab_ok (rowsX_local ((e0 :: s) ++ [E])) 100 [] _ _ rfl ?_ ?_
      · simp
      refine Run.retF tab_ok Tryd.func87 rfl trivial fun M fp' ac w' hr => ?_
      refine more_leave (s := (e0 :: s)) (E := E) (idr := 6) hr rfl rfl ?_ (by decide) hsL'
      exact congrArg (fun z => some (Blk.row 47 1 (s.length + 1 + 1) z)) (show ((e0 :: s).map slV).take ((s.length + 1) * 1) ++ [slV E] = (e0 :: s ++ [E]).map slV by rw [List.take_of_length_le (by simp), List.map_append]; rfl)
  | some a =>
    have hext : extCells w a 0 l.length = encN l := ext_seesN hs
    have hsm : ∀ j, j < l.length → (w.cell? (a.add j)).isSome := fun j hj => by have := (hs j hj).2; rw [Option.getD_some] at this; rw [this]; rfl
    have hnfa := hnf a rfl
    cases s with
    | nil =>
      refine RunF_sound tab_ok (rowsX_local []) 100 [false, true] _ _ rfl ?_ ?_
      · simp [hln, hn]
        simp at hsl
        omega
      refine Run.drawA (rowsX_local []) rfl [] [(0, .cells 53 [.one (.v (.slice none 0 0))])] rfl rfl ⟨rfl, trivial⟩ ?_
      refine RunOF_sound tab_ok (rowsX_local []) rfl rfl 200 [] _ _ rfl ?_ ?_
      · simp [repL, fillL, Value.cells, inT, lk]
        rw [hext]
        exact ⟨⟨⟨hsm, hnfa⟩, by omega, by omega⟩, encN_one l⟩
      refine RunO.to [(3, .ptr 0 0), (21, .ptr 0 0), (24, (.v (.slice none 0 0))), (27, .sl 4 1 0 (0 + l.length))] [(0, .cells 53 [.one (.v (.slice none 0 0))]), (4, .row 3 1 (0 + l.length) (encN l))] 5 ?_ ⟨rfl, rfl, rfl, rfl, trivial⟩ ⟨rfl, ?_, trivial⟩ (show 2 + 1 ≤ 5 by decide)
      rotate_left
      · exact congrArg (fun z => some (Blk.row 3 1 (0 + l.length) z)) (show [] ++ extCells w a 0 (l.length * 1) = encN l by rw [Nat.mul_one]; exact hext)
      refine RunO.give 4 (B := .row 3 1 (0 + l.length) (encN l)) (fun M => rowsX ([] ++ [((M 4).1, (M 4).2, l)])) (fun M => [(3, .ptr 0 0), (21, .ptr 0 0), (24, (.v (.slice none 0 0))), (27, .v (slV ((M 4).1, (M 4).2, l)))]) [(0, .cells 53 [.one (.v (.slice none 0 0))])] 5 (show 2 + 1 ≤ 5 by decide) rfl ⟨rfl, trivial⟩ rfl ?_ ?_ ?_
      · exact fun M => ⟨⟨_, rfl, rfl⟩, ⟨_, rfl, rfl⟩, ⟨_, rfl, rfl⟩, ⟨_, rfl, by simp [conc, slV]⟩, trivial⟩
      · exact fun M w hb => by rw [Nat.zero_add] at hb; exact rowsX_join [] hb
      intro M
      generalize hE : (((M 4).1, (M 4).2, l) : Ent) = E
      have hEl : E.2.2 = l := by rw [← hE]
      have hsL' : (([] : List Ent) ++ [E]).map (fun e => e.2.2) = L ++ [l] := by rw [List.map_append, hsL]; simp [hEl]
      clear hE
      refine RunOF_sound tab_ok (rowsX_local ([] ++ [E])) rfl rfl 3 [] _ _ rfl ?_ ?_
      · simp [repL, fillL, Value.cells, inT, lk, slV, Value.oneCell', maxLen, splice]
      refine RunO.effLast tab_ok (rowsX_local ([] ++ [E])) rfl rfl rfl rfl ?_ (fun e => by cases e) rfl ?_
      · simp [okCell]
      refine RunF_sound tab_ok (rowsX_local ([] ++ [E])) 100 [] _ _ rfl ?_ ?_
      · simp
      refine Run.retF tab_ok Tryd.func87 rfl trivial fun M fp' ac w' hr => ?_
      exact more_leave (s := []) (E := E) (idr := 6) hr rfl rfl rfl (by decide) hsL'
    | cons e0 s =>
      refine RunF_sound tab_ok (rowsX_local (e0 :: s)) 100 [false, true] _ _ rfl ?_ ?_
      · simp [hln, hn]
        simp at hsl
        omega
      refine Run.drawA (rowsX_local (e0 :: s)) rfl [] [(0, .cells 53 [.one (.sl 1 1 0 (s.length + 1))])] rfl rfl ⟨rfl, trivial⟩ ?_
      refine RunOF_sound tab_ok (rowsX_local (e0 :: s)) rfl rfl 200 [] _ _ rfl ?_ ?_
      · simp [repL, fillL, Value.cells, inT, lk]
        rw [hext]
        exact ⟨⟨⟨hsm, hnfa⟩, by omega, by omega⟩, encN_one l⟩
      refine RunO.to [(3, .ptr 0 0), (21, .ptr 0 0), (24, (.sl 1 1 0 (s.length + 1))), (27, .sl 4 1 0 (0 + l.length))] [(0, .cells 53 [.one (.sl 1 1 0 (s.length + 1))]), (1, .row 47 1 (s.length + 1) ((e0 :: s).map slV)), (4, .row 3 1 (0 + l.length) (encN l))] 5 ?_ ⟨rfl, rfl, rfl, rfl, trivial⟩ ⟨rfl, rfl, ?_, trivial⟩ (show 2 + 1 ≤ 5 by decide)
      rotate_left
      · exact congrArg (fun z => some (Blk.row 3 1 (0 + l.length) z)) (show [] ++ extCells w a 0 (l.length * 1) = encN l by rw [Nat.mul_one]; exact hext)
      refine RunO.give 4 (B := .row 3 1 (0 + l.length) (encN l)) (fun M => rowsX ((e0 :: s) ++ [((M 4).1, (M 4).2, l)])) (fun M => [(3, .ptr 0 0), (21, .ptr 0 0), (24, (.sl 1 1 0 (s.length + 1))), (27, .v (slV ((M 4).1, (M 4).2, l)))]) [(0, .cells 53 [.one (.sl 1 1 0 (s.length + 1))]), (1, .row 47 1 (s.length + 1) ((e0 :: s).map slV))] 5 (show 2 + 1 ≤ 5 by decide) rfl ⟨rfl, rfl, trivial⟩ rfl ?_ ?_ ?_
      · exact fun M => ⟨⟨_, rfl, rfl⟩, ⟨_, rfl, rfl⟩, ⟨_, rfl, rfl⟩, ⟨_, rfl, by simp [conc, slV]⟩, trivial⟩
      · exact fun M w hb => by rw [Nat.zero_add] at hb; exact rowsX_join (e0 :: s) hb
      intro M
      generalize hE : (((M 4).1, (M 4).2, l) : Ent) = E
      have hEl : E.2.2 = l := by rw [← hE]
      have hsL' : ((e0 :: s) ++ [E]).map (fun e => e.2.2) = L ++ [l] := by rw [List.map_append, hsL]; simp [hEl]
      clear hE
      refine RunOF_sound tab_ok (rowsX_local ((e0 :: s) ++ [E])) rfl rfl 3 [] _ _ rfl ?_ ?_
      · simp [repL, fillL, Value.cells, inT, lk, slV, Value.oneCell', maxLen, splice]
        simp at hsl
        omega
      refine RunO.effLast tab_ok (rowsX_local ((e0 :: s) ++ [E])) rfl rfl rfl rfl ?_ (fun e => by cases e) rfl ?_
      · simp [okCell]
      refine RunF_sound tab_ok (rowsX_local ((e0 :: s) ++ [E])) 100 [] _ _ rfl ?_ ?_
      · simp
      refine Run.retF tab_ok Tryd.func87 rfl trivial fun M fp' ac w' hr => ?_
      refine more_leave (s := (e0 :: s)) (E := E) (idr := 6) hr rfl rfl ?_ (by decide) hsL'
      exact congrArg (fun z => some (Blk.row 47 1 (s.length + 1 + 1) z)) (show ((e0 :: s).map slV).take ((s.length + 1) * 1) ++ [slV E] = (e0 :: s ++ [E]).map slV by rw [List.take_of_length_le (by simp), List.map_append]; rfl)
end Go.Proofs.YtocpkgckllbjlaaDoor

/-
  Own work, merged: U24, U4, U25.
-/
import Derived.AtR
import Derived.Below
import Derived.ChangeKeysEq
import Derived.KernelRfl
import Derived.LaidMore
import Derived.Laws.AppendOwn
import Derived.Laws.BytesString
import Derived.Laws.Cells
import Derived.Laws.CopyRow
import Derived.Laws.Entries
import Derived.Laws.Rows
import Derived.Laws.Small
import Derived.Laws.StructEq
import Derived.Lib.LaidTab
import Derived.Lib.TrailingZeros
import Derived.Maps.AppendAt
import Derived.OpenShut
import Derived.Orders
import Derived.ProofKit
import Derived.RangeFuncNested
import Derived.RangeFuncRecord
import Derived.SevenTiedAt
import Derived.Shelf.Lay
import Derived.Shelf.Strconv.Itoa3
import Derived.Shelf.Strings.Builder1
import Derived.Shelf.Strings.Builder2
import Derived.Shelf.Strings.OnBuilder
import Derived.Stop.Joined
import Derived.Test.YtpfanhbkjajocaaDoorCards
import Derived.Test.YtpfanhbkjajocaaDoorChecked
import Derived.Test.YtpfanhbkjajocaaDoorProg
import Derived.Test.YtpfanhbkjajocaaDoorRows
import Derived.Test.YtpfanhbkjajocaaDoorTie
import Derived.Test.YtpfanhbkjajocaaDoorQ9AB929
/-
  SetsLeast: the walk. Own work.
-/
namespace Go.Proofs.YtpfanhbkjajocaaDoor
open Go.AM
set_option maxRecDepth 100000

theorem makeLeast_ok (x : BitVec 64) (g : Fn) (a b : Array Value) (w : World) : GivesR Tryd.prog 36 [.int .u64 (un x), .func g a b] w (fun v w' => Agree (fun _ => False) w w' ∧ ∃ bi bj, v = .func (.func 68) #[] #[.pointer (some ⟨bi, 0, none⟩), .pointer (some ⟨bj, 0, none⟩)] ∧
    w.heap.size ≤ bi ∧ w.heap.size ≤ bj ∧ WordAt w' bi x ∧ w'.cell? ⟨bj, 0, none⟩ = some (.func g a b)) := by
  refine Calls.mono' (mkLeast_ok x g a b w) fun _ w' ⟨v, h1, h2⟩ => ⟨v, h1, h2.agree, ?_⟩
  obtain ⟨M, e, hb, _⟩ := h2.ex
  have h0 := hb 0 _ rfl
  have h1 := hb 1 _ rfl
  refine ⟨(M 0).1, (M 1).1, by rw [← e]; simp [conc, concL], h0.2, h1.2, ?_, ?_⟩
  · exact cellAt h0.1
  · exact cellAt h1.1
theorem leastIt_enters : Enters Tryd.prog 68 := enters_mk Tryd.func68 (by decide) rfl

theorem vals_at {M : AM.Loc} {w : World} {id e n : Nat} {vs : List Value} (hb : BlkAt M w id (.cells e [.vals n vs])) : ∀ j v, vs[j]? = some v → w.cell? ((⟨(M id).1, 0, none⟩ : Addr).add j) = some v := fun j v h => by
  have h1 := hb.1
  rw [Addr.add_lit]
  simp [World.cell?, h1, concSegs, h]

theorem mB_in (m : Int) (W B : List (BitVec 64)) (n : Nat) (A : List (BitVec 64)) : inT (mB m W B n A) (mB m W B n A) := by
  rcases W with _ | ⟨a, W⟩ <;> rcases B with _ | ⟨b, B⟩ <;> rcases A with _ | ⟨c, A⟩
  · exact ⟨rfl, rfl, rfl, rfl, rfl, trivial⟩
  · exact ⟨rfl, rfl, rfl, rfl, rfl, rfl, trivial⟩
  · exact ⟨rfl, rfl, rfl, rfl, rfl, rfl, trivial⟩
  · exact ⟨rfl, rfl, rfl, rfl, rfl, rfl, rfl, trivial⟩
  · exact ⟨rfl, rfl, rfl, rfl, rfl, rfl, trivial⟩
  · exact ⟨rfl, rfl, rfl, rfl, rfl, rfl, rfl, trivial⟩
  · exact ⟨rfl, rfl, rfl, rfl, rfl, rfl, rfl, trivial⟩
  · exact ⟨rfl, rfl, rfl, rfl, rfl, rfl, rfl, rfl, trivial⟩

theorem SeesT.agreeS {S : Foot} {w w' : World} {T : Ts} (h : SeesT w T) (hA : Agree S w w') (h1 : ∀ a, T.p1 = some a → ¬ S a.block) (h2 : ∀ a, T.p2 = some a → ¬ S a.block) : SeesT w' T := ⟨h.up.agree hA h1, h.those.agree hA h2, h.l1, h.l2⟩

set_option maxHeartbeats 4000000 in
theorem setsLeast_ok (x : BitVec 64) (T : Ts) (stop : Int) (w : World) (hT : TabAt w) (h0 : 0 < w.heap.size) (hs : SeesT w T) (hup : ∀ a, T.p1 = some a → a.block < w.heap.size) (hth : ∀ a, T.p2 = some a → a.block < w.heap.size) :
    Gives Tryd.prog 5 [.int .u64 (un x), encT T, .int .i64 stop] w (.bool true) := by
  refine Gives.of_run Tryd.func5 rfl (by show 3 ≤ 92; decide) ?_
  have hone := tsV_one T
  have hsz := fun w' => sizeR_ok x w'
  refine RunF_sound tab_ok noX_local 100 [] _ _ rfl ?_ ?_
  · simp [segsVals, hone, okCell, ofConst]
    rfl
  refine Run.callFn (r := .int .i64 ((bitsL x).length : Int)) noX_local rfl rfl rfl rfl rfl rfl rfl sizeR_enters rfl (fun w' _ => hsz w') ?_
  rcases Nat.lt_or_ge 10 (bitsL x).length with hx | hx
  · refine RunF_sound tab_ok noX_local 100 [true] _ _ rfl ?_ ?_
    · simp [okCell, ofConst, hx]
      omega
    refine Run.retB (Ds := []) tab_ok noX_local (Based.refl w) Tryd.func5 rfl ?_ (fun M => rfl)
    simp
  refine RunF_sound tab_ok noX_local 100 [false] _ _ rfl ?_ ?_
  · simp [okCell, ofConst]
    exact ⟨by omega, rfl⟩
  refine Run.anew 8 (fun M => [(0, .v (.int .u64 (un x))), (2, .v (.int .i64 stop)), (4, .v (.pointer (some ⟨(M 0).1, 0, none⟩))), (6, .ptr 1 0), (7, .ptr 2 0), (19, .v (.int .u64 (un x))), (20, .v (.func (.func 37) #[] #[.pointer (some ⟨(M 2).1, 0, none⟩), .pointer (some ⟨(M 0).1, 0, none⟩)]))])
    [(1, .cells 4 [.one (.tt false)]), (2, .cells 43 [.one (.v (.slice none 0 0))])] 11 (fun M => ⟨⟨_, rfl, rfl⟩, ⟨_, rfl, rfl⟩, ⟨_, rfl, rfl⟩, ⟨_, rfl, rfl⟩, ⟨_, rfl, rfl⟩, ⟨_, rfl, rfl⟩, ⟨_, rfl, by simp [conc, concL]⟩, trivial⟩) ⟨rfl, rfl, trivial⟩ ?_
  intro M w1 S1 t0 hB1 hM hgone ht0
  have hbt1 := vals_at (hM 0 _ rfl)
  have hbtl : (M 0).1 < w1.heap.size := (hM 0 _ rfl).lt
  have hbtS : ¬ S1 (M 0).1 := hgone 0 _ rfl rfl
  have hfz : t0[7]? = some (.pointer (some ⟨(M 2).1, 0, none⟩)) := ht0 7 _ rfl
  clear hM hgone ht0
  generalize (M 0).1 = bt at *
  generalize (M 2).1 = pa at *
  refine Run.callR noX_local rfl rfl rfl rfl rfl rfl mkLeast_enters rfl (fun M w' _ _ => makeLeast_ok x _ _ _ w') ?_
  rintro v w2 w3 S3 hag2 hag3 ⟨bi, bj, rfl, hbi, hbj, hW, hC⟩ hS3
  refine ⟨.v (.func (.func 68) #[] #[.pointer (some ⟨bi, 0, none⟩), .pointer (some ⟨bj, 0, none⟩)]), fun M => rfl, ?_⟩
  have hBd : Based w w3 S3 := (((Based.refl w).base hB1).call hag2 hag3 hS3)
  refine RunF_sound tab_ok noX_local 100 [] _ _ rfl ?_ ?_
  · simp [okCell, ofConst]
  refine Run.fnNil tab_ok rfl rfl rfl rfl rfl rfl ?_
  obtain ⟨m0, hm0, hm1, hm⟩ : ∃ mm : Int, 1 ≤ mm ∧ mm ≤ 1073741824 ∧ IntKind.i64.wrap (1 + IntKind.i64.wrap ((IntKind.u64.wrap stop).tmod 6)) = mm := by
    have h1 : 0 ≤ IntKind.u64.wrap stop := by rw [wrap_u64_bv]; exact Int.natCast_nonneg _
    have h2 := Int.tmod_lt_of_pos (IntKind.u64.wrap stop) (b := 6) (by decide)
    have h3 := Int.tmod_nonneg 6 h1
    rw [wrap_i64 (x := (IntKind.u64.wrap stop).tmod 6) (by omega) (by omega), wrap_i64 (by omega) (by omega)]
    exact ⟨_, by omega, by omega, rfl⟩
  refine RunF_sound tab_ok noX_local 100 [false] _ _ rfl ?_ ?_
  · simp [okCell, ofConst]
    exact ⟨rfl, rfl⟩
  simp only [hm]
  have hbt3 : ∀ j v, (tsV T)[j]? = some v → w3.cell? ((⟨bt, 0, none⟩ : Addr).add j) = some v := fun j v h => hag3.cell (hag2.cell (hbt1 j v h) (by rw [add_block]; exact hbtS)) (fun h => h)
  have hbtS3 : ¬ S3 bt := hS3.old bt hbtl hbtS
  have hT3 : TabAt w3 := hT.agree hBd.agree (fun h => h)
  have hl3 : w.heap.size ≤ w3.heap.size := hBd.agree.size
  have hs3 : SeesT w3 T := hs.agree hBd.agree
  have hnS : ∀ b, b < w.heap.size → b < w3.heap.size ∧ ¬ S3 b := fun b hb => ⟨by omega, fun h => by have := hBd.new b h; omega⟩
  have hbi3 : bi < w3.heap.size ∧ ¬ S3 bi := ⟨World.block_lt_of_cell? w3 _ hW, hS3.new bi hbi⟩
  have hbj3 : bj < w3.heap.size ∧ ¬ S3 bj := ⟨World.block_lt_of_cell? w3 _ hC, hS3.new bj hbj⟩
  have hbt3' : bt < w3.heap.size ∧ ¬ S3 bt := ⟨World.block_lt_of_cell? w3 _ (hbt3 0 _ rfl), hbtS3⟩
  obtain ⟨cl, hcl⟩ : ∃ cl : Nat → List (BitVec 64), ∀ k : Nat, Chosen x (k : Int) (cl k) := ⟨fun k => Classical.choose (chosen_ex x (k : Int)), fun k => Classical.choose_spec (chosen_ex x (k : Int))⟩
  have hit := least_iter T x bi bj _ _ _ w3 hW hC hT3 (by omega) cl hcl hx
  have hlR := fun (m : Int) w' (hs' : SeesT w' T) F A hR => leastR_ok T x m cl hcl hx w' hs' F A hR
  have hcl1024 : ∀ k, (cl k).length ≤ 1024 := fun k => by
    have h1 := chosen_len (hcl k)
    have h2 : 2 ^ (bitsL x).length ≤ 2 ^ 10 := Nat.pow_le_pow_right (by omega) hx
    omega
  have hcsl : ((List.range ((bitsL x).length + 1)).flatMap cl).length ≤ 20000 := by
    have := len_of (k := (bitsL x).length + 1) hcl1024
    omega
  generalize (List.range ((bitsL x).length + 1)).flatMap cl = cs at *
  clear hcl hcl1024 hag2 hag3 hS3 hB1 hbt1 hbtl hbtS hs hm
  show Run (opM Tryd.prog 5 8 (Tryd.f5).ntmps t0 w3 S3 noX (fun v' w' => v' = .bool true ∧ Agree (fun _ => False) w w') []) _ _
  suffices H : ∀ (d t : Nat) (m : Int) (z : AV) (Ds : List Nat), z = .v (.slice none 0 0) ∨ (∃ n, z = .sl 10 1 0 n) → t + d = 2 → 1 ≤ m → m ≤ 1073741824 →
      Run (opM Tryd.prog 5 8 (Tryd.f5).ntmps t0 w3 S3 noX (fun v' w' => v' = .bool true ∧ Agree (fun _ => False) w w') Ds) _
        ⟨[(0, .v (.int .u64 (un x))), (4, .v (.pointer (some ⟨bt, 0, none⟩))), (6, .ptr 1 0), (7, .ptr 2 0), (8, .v (.func (.func 68) #[] #[.pointer (some ⟨bi, 0, none⟩), .pointer (some ⟨bj, 0, none⟩)])), (9, .ptr 3 0), (10, .v (.int .i64 (t : Int)))],
          [(1, .cells 4 [.one (.tt false)]), (3, .cells 3 [.one (.v (.int .i64 m))]), (2, .cells 43 [.one z])], 12⟩ by
    exact Run.toR [(3, 11)] (H 2 0 m0 _ [] (.inl rfl) rfl hm0 hm1) ⟨rfl, rfl, rfl, rfl, rfl, rfl, rfl, trivial⟩ ⟨rfl, rfl, rfl, trivial⟩ rfl
  have hL : ∀ Ds, Local (marksX noX Ds) := marksX_local noX_local
  intro d
  induction d with
  | zero =>
    intro t m z Ds _ ht _ _
    obtain rfl : t = 2 := by omega
    refine Run.to (t' := [(6, .ptr 1 0), (10, .v (.int .i64 ((2 : Nat) : Int)))]) (h' := [(1, .cells 4 [.one (.tt false)])]) ?_ ⟨rfl, rfl, trivial⟩ ⟨rfl, trivial⟩ (n' := 14)
    refine RunF_sound tab_ok (hL Ds) 100 [false] _ _ rfl ?_ ?_
    · simp [okCell, ofConst]
    refine Run.thaw (opM Tryd.prog 5 0 (Tryd.f5).ntmps #[] w3 S3 noX (fun v' w' => v' = .bool true ∧ Agree (fun _ => False) w w') Ds) (hi := (Tryd.f5).ntmps) (lo' := 0) (t0' := #[]) rfl ?_
    show Run (opM Tryd.prog 5 0 (Tryd.f5).ntmps #[] w3 S3 noX (fun v' w' => v' = .bool true ∧ Agree (fun _ => False) w w') Ds) _ _
    rw [opM_eq]
    refine Run.retB tab_ok noX_local hBd Tryd.func5 rfl ?_ (fun M => rfl)
    simp
  | succ d ih =>
    intro t m z Ds hz ht hm2 hm3
    have hxx : extCells w3 ⟨bt, 0, none⟩ 0 2 = tsV T := ext_cells' w3 _ 2 0 _ rfl fun j v hv => by rw [Nat.zero_add]; exact hbt3 j v hv
    have hsm : ∀ j, j < 2 → (w3.cell? ((⟨bt, 0, none⟩ : Addr).add j)).isSome := fun j hj => by
      have hj' : j < (tsV T).length := hj
      rw [hbt3 j _ (List.getElem?_eq_getElem hj')]; rfl
    suffices G : ∀ m' : Int, 1 ≤ m' → m' ≤ 1073741824 → ∀ W B, lsGo T m' cs [] [] = (W, B) → ∀ σ, inT σ.t [(0, .v (.int .u64 (un x))), (4, .v (.pointer (some ⟨bt, 0, none⟩))), (6, .ptr 1 0), (7, .ptr 2 0), (8, .v (.func (.func 68) #[] #[.pointer (some ⟨bi, 0, none⟩), .pointer (some ⟨bj, 0, none⟩)])), (9, .ptr 3 0), (10, .v (.int .i64 (t : Int))),
          (11, .ptr 14 0), (12, uZ 13 B), (13, .ptr 15 0), (47, .v (.func (.func 68) #[] #[.pointer (some ⟨bi, 0, none⟩), .pointer (some ⟨bj, 0, none⟩)]))] →
        inT σ.h (mB m' W B 0 []) →
        Run (opM Tryd.prog 5 8 (Tryd.f5).ntmps t0 w3 S3 noX (fun v' w' => v' = .bool true ∧ Agree (fun _ => False) w w') Ds) _ σ by
      rcases hz with rfl | ⟨nz, rfl⟩
      · suffices G1 : ∀ m' : Int, 1 ≤ m' → m' ≤ 1073741824 → ∀ σ, inT σ.t [(0, .v (.int .u64 (un x))), (4, .v (.pointer (some ⟨bt, 0, none⟩))), (6, .ptr 1 0), (7, .ptr 2 0), (8, .v (.func (.func 68) #[] #[.pointer (some ⟨bi, 0, none⟩), .pointer (some ⟨bj, 0, none⟩)])), (9, .ptr 3 0), (10, .v (.int .i64 (t : Int))), (41, .v (.int .u64 (un x))), (42, .v (encT T)), (43, .v (.int .i64 m'))] →
            inT σ.h [(1, .cells 4 [.one (.tt false)]), (3, .cells 3 [.one (.v (.int .i64 m'))]), (2, .cells 43 [.one (.v (.slice none 0 0))])] →
            Run (opM Tryd.prog 5 8 (Tryd.f5).ntmps t0 w3 S3 noX (fun v' w' => v' = .bool true ∧ Agree (fun _ => False) w w') Ds) _ σ by
          by_cases ct : (t : Int) = 1
          · refine RunF_sound tab_ok (hL Ds) 100 [true, true] _ _ rfl ?_ ?_
            · simp [okCell, ofConst, ct]
              exact ⟨rfl, hsm, hbtS3⟩
            exact G1 1073741824 (by decide) (by decide) _ ⟨rfl, rfl, rfl, rfl, rfl, rfl, rfl, rfl, congrArg (fun l => some (AV.v (.agg (l : List Value).toArray))) hxx, rfl, trivial⟩ ⟨rfl, rfl, rfl, trivial⟩
          · refine RunF_sound tab_ok (hL Ds) 100 [true, false] _ _ rfl ?_ ?_
            · simp [okCell, ofConst, ct]
              exact ⟨by omega, hsm, hbtS3⟩
            exact G1 m hm2 hm3 _ ⟨rfl, rfl, rfl, rfl, rfl, rfl, rfl, rfl, congrArg (fun l => some (AV.v (.agg (l : List Value).toArray))) hxx, rfl, trivial⟩ ⟨rfl, rfl, rfl, trivial⟩
        intro m' hm1' hm2' σ hti hhi
        refine Run.to ?_ hti hhi (n' := 12)
        obtain ⟨⟨W, B⟩, hgo⟩ : ∃ p, lsGo T m' cs [] [] = p := ⟨_, rfl⟩
        have hHZ := fun w' hs' => hlR m' w' hs' W B hgo
        have hGG := G m' hm1' hm2' W B hgo
        clear hgo
        rcases W with _ | ⟨wa, W⟩ <;> rcases B with _ | ⟨ba, B⟩
        · refine Run.callH (hL Ds) (.tup [.v (.slice none 0 0), .v (.slice none 0 0)]) [] 14 rfl rfl rfl rfl rfl rfl leastR_enters rfl rfl rfl rfl rfl (fun M w' _ hA => (hHZ w' (hs3.agreeS hA (fun a h => (hnS _ (hup a h)).2) (fun a h => (hnS _ (hth a h)).2))).to [] rfl trivial rfl) ?_
          refine RunF_sound tab_ok (hL Ds) 100 [] _ _ rfl ?_ ?_
          · simp [okCell, ofConst]
            exact ⟨rfl, rfl⟩
          exact hGG _ ⟨rfl, rfl, rfl, rfl, rfl, rfl, rfl, rfl, rfl, rfl, rfl, trivial⟩ ⟨rfl, rfl, rfl, rfl, rfl, trivial⟩
        · refine Run.callH (hL Ds) (.tup [.v (.slice none 0 0), .sl 13 1 0 (B.length + 1)]) [(13, .row 22 1 (B.length + 1) (encU (ba :: B)))] 14 rfl rfl rfl rfl rfl rfl leastR_enters rfl rfl rfl rfl rfl (fun M w' _ hA => (hHZ w' (hs3.agreeS hA (fun a h => (hnS _ (hup a h)).2) (fun a h => (hnS _ (hth a h)).2))).to [(13, 8)] rfl ⟨rfl, trivial⟩ rfl) ?_
          refine RunF_sound tab_ok (hL Ds) 100 [] _ _ rfl ?_ ?_
          · simp [okCell, ofConst]
            exact ⟨rfl, rfl⟩
          exact hGG _ ⟨rfl, rfl, rfl, rfl, rfl, rfl, rfl, rfl, rfl, rfl, rfl, trivial⟩ ⟨rfl, rfl, rfl, rfl, rfl, rfl, trivial⟩
        · refine Run.callH (hL Ds) (.tup [.sl 12 1 0 (W.length + 1), .v (.slice none 0 0)]) [(12, .row 22 1 (W.length + 1) (encU (wa :: W)))] 14 rfl rfl rfl rfl rfl rfl leastR_enters rfl rfl rfl rfl rfl (fun M w' _ hA => (hHZ w' (hs3.agreeS hA (fun a h => (hnS _ (hup a h)).2) (fun a h => (hnS _ (hth a h)).2))).to [(12, 7)] rfl ⟨rfl, trivial⟩ rfl) ?_
          refine RunF_sound tab_ok (hL Ds) 100 [] _ _ rfl ?_ ?_
          · simp [okCell, ofConst]
            exact ⟨rfl, rfl⟩
          exact hGG _ ⟨rfl, rfl, rfl, rfl, rfl, rfl, rfl, rfl, rfl, rfl, rfl, trivial⟩ ⟨rfl, rfl, rfl, rfl, rfl, rfl, trivial⟩
        · refine Run.callH (hL Ds) (.tup [.sl 12 1 0 (W.length + 1), .sl 13 1 0 (B.length + 1)]) [(12, .row 22 1 (W.length + 1) (encU (wa :: W))), (13, .row 22 1 (B.length + 1) (encU (ba :: B)))] 14 rfl rfl rfl rfl rfl rfl leastR_enters rfl rfl rfl rfl rfl (fun M w' _ hA => (hHZ w' (hs3.agreeS hA (fun a h => (hnS _ (hup a h)).2) (fun a h => (hnS _ (hth a h)).2))).to [(12, 7), (13, 8)] rfl ⟨rfl, rfl, trivial⟩ rfl) ?_
          refine RunF_sound tab_ok (hL Ds) 100 [] _ _ rfl ?_ ?_
          · simp [okCell, ofConst]
            exact ⟨rfl, rfl⟩
          exact hGG _ ⟨rfl, rfl, rfl, rfl, rfl, rfl, rfl, rfl, rfl, rfl, rfl, trivial⟩ ⟨rfl, rfl, rfl, rfl, rfl, rfl, rfl, trivial⟩
      · suffices G1 : ∀ m' : Int, 1 ≤ m' → m' ≤ 1073741824 → ∀ σ, inT σ.t [(0, .v (.int .u64 (un x))), (4, .v (.pointer (some ⟨bt, 0, none⟩))), (6, .ptr 1 0), (7, .ptr 2 0), (8, .v (.func (.func 68) #[] #[.pointer (some ⟨bi, 0, none⟩), .pointer (some ⟨bj, 0, none⟩)])), (9, .ptr 3 0), (10, .v (.int .i64 (t : Int))), (41, .v (.int .u64 (un x))), (42, .v (encT T)), (43, .v (.int .i64 m'))] →
            inT σ.h [(1, .cells 4 [.one (.tt false)]), (3, .cells 3 [.one (.v (.int .i64 m'))]), (2, .cells 43 [.one (.sl 10 1 0 nz)])] →
            Run (opM Tryd.prog 5 8 (Tryd.f5).ntmps t0 w3 S3 noX (fun v' w' => v' = .bool true ∧ Agree (fun _ => False) w w') Ds) _ σ by
          by_cases ct : (t : Int) = 1
          · refine RunF_sound tab_ok (hL Ds) 100 [true, true] _ _ rfl ?_ ?_
            · simp [okCell, ofConst, ct]
              exact ⟨rfl, hsm, hbtS3⟩
            exact G1 1073741824 (by decide) (by decide) _ ⟨rfl, rfl, rfl, rfl, rfl, rfl, rfl, rfl, congrArg (fun l => some (AV.v (.agg (l : List Value).toArray))) hxx, rfl, trivial⟩ ⟨rfl, rfl, rfl, trivial⟩
          · refine RunF_sound tab_ok (hL Ds) 100 [true, false] _ _ rfl ?_ ?_
            · simp [okCell, ofConst, ct]
              exact ⟨by omega, hsm, hbtS3⟩
            exact G1 m hm2 hm3 _ ⟨rfl, rfl, rfl, rfl, rfl, rfl, rfl, rfl, congrArg (fun l => some (AV.v (.agg (l : List Value).toArray))) hxx, rfl, trivial⟩ ⟨rfl, rfl, rfl, trivial⟩
        intro m' hm1' hm2' σ hti hhi
        refine Run.to ?_ hti hhi (n' := 12)
        obtain ⟨⟨W, B⟩, hgo⟩ : ∃ p, lsGo T m' cs [] [] = p := ⟨_, rfl⟩
        have hHZ := fun w' hs' => hlR m' w' hs' W B hgo
        have hGG := G m' hm1' hm2' W B hgo
        clear hgo
        rcases W with _ | ⟨wa, W⟩ <;> rcases B with _ | ⟨ba, B⟩
        · refine Run.callH (hL Ds) (.tup [.v (.slice none 0 0), .v (.slice none 0 0)]) [] 14 rfl rfl rfl rfl rfl rfl leastR_enters rfl rfl rfl rfl rfl (fun M w' _ hA => (hHZ w' (hs3.agreeS hA (fun a h => (hnS _ (hup a h)).2) (fun a h => (hnS _ (hth a h)).2))).to [] rfl trivial rfl) ?_
          refine RunF_sound tab_ok (hL Ds) 100 [] _ _ rfl ?_ ?_
          · simp [okCell, ofConst]
            exact ⟨rfl, rfl⟩
          exact hGG _ ⟨rfl, rfl, rfl, rfl, rfl, rfl, rfl, rfl, rfl, rfl, rfl, trivial⟩ ⟨rfl, rfl, rfl, rfl, rfl, trivial⟩
        · refine Run.callH (hL Ds) (.tup [.v (.slice none 0 0), .sl 13 1 0 (B.length + 1)]) [(13, .row 22 1 (B.length + 1) (encU (ba :: B)))] 14 rfl rfl rfl rfl rfl rfl leastR_enters rfl rfl rfl rfl rfl (fun M w' _ hA => (hHZ w' (hs3.agreeS hA (fun a h => (hnS _ (hup a h)).2) (fun a h => (hnS _ (hth a h)).2))).to [(13, 8)] rfl ⟨rfl, trivial⟩ rfl) ?_
          refine RunF_sound tab_ok (hL Ds) 100 [] _ _ rfl ?_ ?_
          · simp [okCell, ofConst]
            exact ⟨rfl, rfl⟩
          exact hGG _ ⟨rfl, rfl, rfl, rfl, rfl, rfl, rfl, rfl, rfl, rfl, rfl, trivial⟩ ⟨rfl, rfl, rfl, rfl, rfl, rfl, trivial⟩
        · refine Run.callH (hL Ds) (.tup [.sl 12 1 0 (W.length + 1), .v (.slice none 0 0)]) [(12, .row 22 1 (W.length + 1) (encU (wa :: W)))] 14 rfl rfl rfl rfl rfl rfl leastR_enters rfl rfl rfl rfl rfl (fun M w' _ hA => (hHZ w' (hs3.agreeS hA (fun a h => (hnS _ (hup a h)).2) (fun a h => (hnS _ (hth a h)).2))).to [(12, 7)] rfl ⟨rfl, trivial⟩ rfl) ?_
          refine RunF_sound tab_ok (hL Ds) 100 [] _ _ rfl ?_ ?_
          · simp [okCell, ofConst]
            exact ⟨rfl, rfl⟩
          exact hGG _ ⟨rfl, rfl, rfl, rfl, rfl, rfl, rfl, rfl, rfl, rfl, rfl, trivial⟩ ⟨rfl, rfl, rfl, rfl, rfl, rfl, trivial⟩
        · refine Run.callH (hL Ds) (.tup [.sl 12 1 0 (W.length + 1), .sl 13 1 0 (B.length + 1)]) [(12, .row 22 1 (W.length + 1) (encU (wa :: W))), (13, .row 22 1 (B.length + 1) (encU (ba :: B)))] 14 rfl rfl rfl rfl rfl rfl leastR_enters rfl rfl rfl rfl rfl (fun M w' _ hA => (hHZ w' (hs3.agreeS hA (fun a h => (hnS _ (hup a h)).2) (fun a h => (hnS _ (hth a h)).2))).to [(12, 7), (13, 8)] rfl ⟨rfl, rfl, trivial⟩ rfl) ?_
          refine RunF_sound tab_ok (hL Ds) 100 [] _ _ rfl ?_ ?_
          · simp [okCell, ofConst]
            exact ⟨rfl, rfl⟩
          exact hGG _ ⟨rfl, rfl, rfl, rfl, rfl, rfl, rfl, rfl, rfl, rfl, rfl, trivial⟩ ⟨rfl, rfl, rfl, rfl, rfl, rfl, rfl, trivial⟩
    intro m' hm1' hm2'
    suffices Z : ∀ (D : Nat) (Bz : List (BitVec 64)) σ, Bz.length ≤ 20000 → inT σ.t [(0, .v (.int .u64 (un x))), (4, .v (.pointer (some ⟨bt, 0, none⟩))), (6, .ptr 1 0), (7, .ptr 2 0), (8, .v (.func (.func 68) #[] #[.pointer (some ⟨bi, 0, none⟩), .pointer (some ⟨bj, 0, none⟩)])), (9, .ptr 3 0), (10, .v (.int .i64 (t : Int))), (12, uZ 13 Bz), (15, .v (.int .i64 0))] → inT σ.h ((1, .cells 4 [.one (.tt false)]) :: (3, .cells 3 [.one (.v (.int .i64 m'))]) :: (uBk 13 Bz ++ aB Bz)) → Run (opM Tryd.prog 5 8 (Tryd.f5).ntmps t0 w3 S3 noX (fun v' w' => v' = .bool true ∧ Agree (fun _ => False) w w') (D :: Ds)) _ σ by
      intro W B hgo σ hti hhi
      refine Run.to ?_ hti hhi (n' := 16)
      refine Run.rangeFnT (T := T) (cs := cs) (K := leastK bi bj) (hL Ds) rfl rfl leastIt_enters 14 [(0, .v (.int .u64 (un x))), (4, .v (.pointer (some ⟨bt, 0, none⟩))), (6, .ptr 1 0), (7, .ptr 2 0), (8, .v (.func (.func 68) #[] #[.pointer (some ⟨bi, 0, none⟩), .pointer (some ⟨bj, 0, none⟩)])), (9, .ptr 3 0), (10, .v (.int .i64 (t : Int))), (11, .ptr 14 0), (12, uZ 13 B), (13, .ptr 15 0)] ⟨rfl, rfl, rfl, rfl, rfl, rfl, rfl, rfl, rfl, rfl, trivial⟩ rfl rfl hit
        (fun j hj => hj.elim (fun e => e ▸ ⟨Nat.lt_of_lt_of_le h0 hl3, (hnS 0 h0).2⟩) fun hj => hj.elim (fun e => e ▸ hbi3) fun e => e ▸ hbj3) rfl
        (fun F A h => (F.length : Int) < m' ∧ h = mB m' W B F.length A) (fun F A cd h => cd = .exit 2 ∧ F = W ∧ A = B ∧ h = mB m' W B F.length A) 16 (mB m' W B 0 []) ⟨by simp; omega, rfl⟩ (mB_in ..) ?_ ?_ ?_ ?_
      · rintro D l a0 rc pre c h M' fpX w' fp hpx hu ⟨h1, rfl⟩ hJ hag hfr
        have hpa : (M' 2).1 = pa := by
          have h2 := hJ.tmps 7 _ rfl
          rw [hfr 7 (show 7 < 8 by decide)] at h2
          have h3 := h2.symm.trans hfz
          simpa [conc] using h3
        have hA : (lsF T pre).2.length < 1099511627776 := by
          have h2 := (lsF_len T pre).2
          have h3 := hpx.length_le
          simp at h3
          omega
        refine (askJ rfl (markX_local (hL Ds) D) hJ hA T c bt pa (hs3.agreeS hag (fun a h => (hnS _ (hup a h)).2) (fun a h => (hnS _ (hth a h)).2)) (fun j v h => hag.cell (hbt3 j v h) (by rw [add_block]; exact hbtS3)) hpa hbt3' (fun a h => hnS _ (hup a h)) (fun a h => hnS _ (hth a h)) ?_).mono ?_
        · intro M2 e1 e2 i x hx
          have q1 := e2 1 (by decide) (by decide)
          have q3 := e2 3 (by decide) (by decide)
          have q13 := e2 13 (by decide) (by decide)
          have q14 := e2 14 (by decide) (by decide)
          have q15 := e2 15 (by decide) (by decide)
          clear hgo hJ
          rcases B with _ | ⟨ba, B⟩ <;> simp only [lk, uZ] at hx <;> (repeat' split at hx) <;> first | (cases hx; simp [conc, e1, q1, q3, q13, q14, q15]; done) | (cases hx; done)
        · rintro v w'' ⟨fp', g1, g2, M2, fpX', g3⟩
          exact ⟨fp', g1, g2, _, M2, fpX', ⟨h1, rfl⟩, g3⟩
      · rintro D l a0 rc wy fpy pre c h hI hpx hu hb ⟨h1, rfl⟩
        obtain ⟨p1, p2, p3⟩ := lsGo_at T m' hpx h1 hu hb
        rw [hgo] at p1 p2 p3
        simp only at p1 p2 p3
        have hlF : (lsF T pre).1.length ≤ 20000 := by
          have h2 := (lsF_len T pre).1
          have h3 := hpx.length_le
          simp at h3
          omega
        generalize (lsF T pre).1 = F at *
        generalize (lsF T pre).2 = A at *
        clear hgo
        rcases W with _ | ⟨wa, W⟩
        · have := p1.length_le; simp at this
        rcases B with _ | ⟨ba, B⟩
        · have := p2.length_le; simp at this
        have hFW : F.length < (wa :: W).length := by have := p1.length_le; simp at this ⊢; omega
        have hget : (wa :: W)[F.length] = c := by
          obtain ⟨q, hq⟩ := p1
          have h4 : (F ++ [c] ++ q)[F.length]? = some c := by simp
          rw [hq, List.getElem?_eq_getElem hFW] at h4
          simpa using h4
        have hat : intAt (encU (wa :: W)) F.length = un c := by rw [intAt_encU _ _ hFW, hget]
        have hw1 : IntKind.i64.wrap ((F.length : Int) + 1) = ((F.length + 1 : Nat) : Int) := wrap_succ (by omega)
        have hlen1 : (F ++ [c]).length = F.length + 1 := by simp
        rw [hlen1]
        have hmB : ∀ n, mB m' (wa :: W) (ba :: B) n (A ++ [c]) = [(1, .cells 4 [.one (.tt false)]), (3, .cells 3 [.one (.v (.int .i64 m'))]), (14, .cells 43 [.one (.sl 12 1 0 (W.length + 1))]), (15, .cells 3 [.one (.v (.int .i64 (n : Int)))]), (12, .row 22 1 (W.length + 1) (encU (wa :: W))), (13, .row 22 1 (B.length + 1) (encU (ba :: B))),
            (2, .cells 43 [.one (.sl 10 1 0 (A.length + 1))]), (10, .row 22 1 (A.length + 1) (encU (A ++ [c])))] := fun n => by
          unfold mB kB aB; rw [uZ_app, uBk_app]; rfl
        rw [hmB F.length]
        refine RunF_sound tab_ok (roundX_local (markX_local (hL Ds) D) l rc .ready) 100 [] _ _ rfl ?_ ?_
        · simp
        refine Run.beginRound hI.loc hI.lw ?_
        by_cases ce : ((F.length + 1 : Nat) : Int) = m'
        · refine RunF_sound tab_ok (roundX_local (markX_local (hL Ds) D) l rc .busy) 100 [false, false, true] _ _ rfl ?_ ?_
          · simp only [Nat.zero_add, Nat.mul_one, Int.toNat_natCast, hat, hw1]
            simp [okCell, ofConst, ce]
            exact ⟨by simp at hFW; omega, by rw [encU_get _ _ hFW, hget], rfl⟩
          refine Run.roundExit hI [] (mB m' (wa :: W) (ba :: B) (F.length + 1) (A ++ [c])) rfl ⟨rfl, (p3 (by rw [hlen1]; exact ce)).1.symm, (p3 (by rw [hlen1]; exact ce)).2.symm, rfl⟩ ⟨rfl, rfl, rfl, rfl, rfl, rfl, rfl, rfl, rfl, rfl, trivial⟩ ?_ ?_
          · rw [hmB (F.length + 1)]
            refine ⟨rfl, rfl, rfl, ?_, rfl, rfl, rfl, rfl, trivial⟩
            exact congrArg (fun z => some (Blk.cells 3 [.one (.v (.int .i64 z))])) hw1
          · rw [hmB (F.length + 1)]; rfl
        · refine RunF_sound tab_ok (roundX_local (markX_local (hL Ds) D) l rc .busy) 100 [false, false, false] _ _ rfl ?_ ?_
          · simp only [Nat.zero_add, Nat.mul_one, Int.toNat_natCast, hat, hw1]
            simp [okCell, ofConst]
            exact ⟨by simp at hFW; omega, by rw [encU_get _ _ hFW, hget], rfl, by omega⟩
          refine Run.roundEnd hI [] (mB m' (wa :: W) (ba :: B) (F.length + 1) (A ++ [c])) ⟨by omega, rfl⟩ ⟨rfl, rfl, rfl, rfl, rfl, rfl, rfl, rfl, rfl, rfl, trivial⟩ ?_ ?_
          · rw [hmB (F.length + 1)]
            refine ⟨rfl, rfl, rfl, ?_, rfl, rfl, rfl, rfl, trivial⟩
            exact congrArg (fun z => some (Blk.cells 3 [.one (.v (.int .i64 z))])) hw1
          · rw [hmB (F.length + 1)]; rfl
      · rintro D h ⟨h1, rfl⟩
        have he := lsGo_end T m' h1
        rw [hgo] at he
        have hBl : B.length ≤ 20000 := by
          have h2 := (lsF_len T cs).2
          rw [← he] at h2
          simp only at h2
          omega
        rw [← he]
        simp only
        clear hgo he h1
        rcases W with _ | ⟨wa, W⟩ <;> rcases B with _ | ⟨ba, B⟩
        · refine RunF_sound tab_ok (hL (D :: Ds)) 100 [false, false] _ _ rfl ?_ ?_
          · simp [okCell, ofConst]
            done
          exact Z D _ _ hBl ⟨rfl, rfl, rfl, rfl, rfl, rfl, rfl, rfl, rfl, trivial⟩ ⟨rfl, rfl, rfl, trivial⟩
        · refine RunF_sound tab_ok (hL (D :: Ds)) 100 [false, false] _ _ rfl ?_ ?_
          · simp [okCell, ofConst]
            done
          exact Z D _ _ hBl ⟨rfl, rfl, rfl, rfl, rfl, rfl, rfl, rfl, rfl, trivial⟩ ⟨rfl, rfl, rfl, rfl, rfl, trivial⟩
        · refine RunF_sound tab_ok (hL (D :: Ds)) 100 [false, false] _ _ rfl ?_ ?_
          · simp [okCell, ofConst]
            done
          exact Z D _ _ hBl ⟨rfl, rfl, rfl, rfl, rfl, rfl, rfl, rfl, rfl, trivial⟩ ⟨rfl, rfl, rfl, trivial⟩
        · refine RunF_sound tab_ok (hL (D :: Ds)) 100 [false, false] _ _ rfl ?_ ?_
          · simp [okCell, ofConst]
            done
          exact Z D _ _ hBl ⟨rfl, rfl, rfl, rfl, rfl, rfl, rfl, rfl, rfl, trivial⟩ ⟨rfl, rfl, rfl, rfl, rfl, trivial⟩
      · rintro D pre c cd h hpx hu hb ⟨rfl, e1, e2, rfl⟩
        rw [e1, e2]
        rcases W with _ | ⟨wa, W⟩
        · simp at e1
        rcases B with _ | ⟨ba, B⟩
        · simp at e2
        have hBl : (ba :: B).length ≤ 20000 := by
          rw [← e2]
          have h2 := (lsF_len T pre).2
          have h3 := hpx.length_le
          simp at h3 ⊢
          omega
        clear e1 e2 hgo
        refine RunF_sound tab_ok (hL (D :: Ds)) 100 [false, false] _ _ rfl ?_ ?_
        · simp [okCell, ofConst]
        exact Z D _ _ hBl ⟨rfl, rfl, rfl, rfl, rfl, rfl, rfl, rfl, rfl, trivial⟩ ⟨rfl, rfl, rfl, rfl, rfl, trivial⟩
    intro D B σ hBl ht2 hh2
    refine Run.to ?_ ht2 hh2 (n' := 16)
    rcases B with _ | ⟨ba, B⟩
    · refine RunF_sound tab_ok (hL (D :: Ds)) 100 [false] _ _ rfl ?_ ?_
      · simp
      exact Run.to (ih (t + 1) m' _ (D :: Ds) (.inl rfl) (by omega) hm1' hm2') ⟨rfl, rfl, rfl, rfl, rfl, rfl, i64_eq (wrap_succ (by omega)), trivial⟩ ⟨rfl, rfl, rfl, trivial⟩
    suffices L : ∀ (e i : Nat), i + e = B.length + 1 → ∀ σ, inT σ.t [(0, .v (.int .u64 (un x))), (4, .v (.pointer (some ⟨bt, 0, none⟩))), (6, .ptr 1 0), (7, .ptr 2 0), (8, .v (.func (.func 68) #[] #[.pointer (some ⟨bi, 0, none⟩), .pointer (some ⟨bj, 0, none⟩)])), (9, .ptr 3 0), (10, .v (.int .i64 (t : Int))), (12, .sl 13 1 0 (B.length + 1)), (15, .v (.int .i64 (i : Int)))] → inT σ.h [(1, .cells 4 [.one (.tt false)]), (3, .cells 3 [.one (.v (.int .i64 m'))]), (13, .row 22 1 (B.length + 1) (encU (ba :: B))), (2, .cells 43 [.one (.sl 10 1 0 (B.length + 1))]), (10, .row 22 1 (B.length + 1) (encU (ba :: B)))] → Run (opM Tryd.prog 5 8 (Tryd.f5).ntmps t0 w3 S3 noX (fun v' w' => v' = .bool true ∧ Agree (fun _ => False) w w') (D :: Ds)) _ σ by
      exact L (B.length + 1) 0 (by omega) _ ⟨rfl, rfl, rfl, rfl, rfl, rfl, rfl, rfl, rfl, trivial⟩ ⟨rfl, rfl, rfl, rfl, rfl, trivial⟩
    simp only [List.length_cons] at hBl
    intro e
    induction e with
    | zero =>
      intro i hi σ ht3 hh3
      refine Run.to ?_ ht3 hh3 (n' := 16)
      refine RunF_sound tab_ok (hL (D :: Ds)) 100 [false] _ _ rfl ?_ ?_
      · simp
        omega
      exact Run.to (ih (t + 1) m' _ (D :: Ds) (.inr ⟨_, rfl⟩) (by omega) hm1' hm2') ⟨rfl, rfl, rfl, rfl, rfl, rfl, i64_eq (wrap_succ (by omega)), trivial⟩ ⟨rfl, rfl, rfl, trivial⟩
    | succ e ih2 =>
      intro i hi σ ht3 hh3
      refine Run.to ?_ ht3 hh3 (n' := 16)
      have hil : i < (ba :: B).length := by simp; omega
      have hat : intAt (encU (ba :: B)) i = un (ba :: B)[i] := intAt_encU _ _ hil
      refine RunF_sound tab_ok (hL (D :: Ds)) 100 [true] _ _ rfl ?_ ?_
      · simp
        omega
      refine Run.drawA (hL (D :: Ds)) rfl [] [(1, .cells 4 [.one (.tt false)]), (3, .cells 3 [.one (.v (.int .i64 m'))]), (13, .row 22 1 (B.length + 1) (encU (ba :: B))), (2, .cells 43 [.one (.sl 10 1 0 (B.length + 1))]), (10, .row 22 1 (B.length + 1) (encU (ba :: B)))] rfl rfl ⟨rfl, rfl, rfl, rfl, rfl, trivial⟩ ?_
      refine RunOF_sound tab_ok (hL (D :: Ds)) rfl rfl 100 [] _ _ rfl ?_ ?_
      · simp only [Nat.zero_add, Nat.mul_one, Int.toNat_natCast, hat]
        simp
        have h1 : (i : Int) < (B.length : Int) + 1 := by simp at hil; omega
        exact ⟨h1, encU_get _ _ hil, h1, encU_get _ _ hil⟩
      refine RunO.done ?_
      refine RunF_sound tab_ok (hL (D :: Ds)) 100 [false] _ _ rfl ?_ ?_
      · simp
      exact ih2 (i + 1) (by omega) _ ⟨rfl, rfl, rfl, rfl, rfl, rfl, rfl, rfl, i64_eq (wrap_succ (by omega)), trivial⟩ ⟨rfl, rfl, rfl, rfl, rfl, trivial⟩
end Go.Proofs.YtpfanhbkjajocaaDoor

/-
  A list of ints as an argument of a row, opened. Own work.
-/
namespace Go.Proofs.YtpfanhbkjajocaaDoor
open Go.ChangeShapes Go.WideShapes Go.ChangeAt Go.RowKit Go.AM

section
variable {H : Type} {enc : TypeId × Value → H} {w W : World} {base b0 : Nat} {sp : Nat → Bool} {held : Bool} {v : Value} {d : DataW H} {ps : List MemPlace}

theorem i_add_add (a : Addr) (i j : Nat) : (a.add i).add j = a.add (i + j) := by
  obtain ⟨b, o, x⟩ := a
  unfold Addr.add
  by_cases hi : i = 0
  · subst hi; simp
  · by_cases hj : j = 0
    · subst hj; simp [hi]
    · have : ¬ i + j = 0 := by omega
      simp [hi, hj, this, Nat.add_assoc]

set_option maxRecDepth 100000 in
theorem open_ints (hval : Value.okWide Tryd.prog W .any b0 37 v) (hd : DataW.Trod enc Tryd.prog w base sp held 37 v d ps) :
    ∃ (p : Option Addr) (c : Nat) (xs : List Int), v = .slice p xs.length c ∧ SeesI w p xs ∧ (p = none → xs = [] ∧ c = 0) ∧ xs.length ≤ maxLen ∧ ((∃ es rest, d = .slice es rest ∧ es.length = xs.length) ∨ xs = []) := by
  have hs := tab_undP tab_ok (t := 37) (d := .slice 3) rfl
  have hi := tab_undP tab_ok (t := 3) (d := .int .i64) rfl
  have c2 : Tryd.prog.cellsOf 3 = 1 := by kernel_rfl
  obtain ⟨p, len, cap, rfl⟩ := okWide_slice hs hval
  obtain ⟨fuel, hf⟩ := hd
  simp only [Value.cells] at hf
  rcases DataW.trod_slice hs hf with ⟨hcs, _⟩ | ⟨a, len', cap', elems, rest, n, _, hcs, hx, _, hlc, hcm, hle, hel, _, _⟩
  · simp at hcs
    obtain ⟨rfl, rfl, rfl⟩ := hcs
    exact ⟨none, 0, [], rfl, fun i h => by simp at h, fun _ => ⟨rfl, rfl⟩, Nat.zero_le _, .inr rfl⟩
  · simp at hcs
    obtain ⟨rfl, rfl, rfl⟩ := hcs
    have key : ∀ i, i < len → ∃ z : Int, w.cell? (a.add i) = some (.int .i64 z) := by
      intro i hi'
      have he := hel i hi'
      rw [c2, List.getElem?_eq_getElem (by omega)] at he
      simp only [Option.bind_eq_some_iff] at he
      obtain ⟨ds, hds, ht⟩ := he
      unfold World.cells? at hds
      split at hds
      · obtain ⟨m1, m2⟩ := mapM_some hds
        obtain ⟨u0, g0, g0'⟩ := m2 0 0 rfl
        obtain ⟨A, hA, _, _⟩ := DataW.trod_int hi ht
        rw [hA] at g0
        simp at g0
        subst g0
        rw [i_add_add, Nat.mul_one, Nat.add_zero] at g0'
        exact ⟨A, g0'⟩
      · cases hds
    obtain ⟨g, hg⟩ : ∃ g : Nat → Int, ∀ i, i < len → w.cell? (a.add i) = some (.int .i64 (g i)) :=
      ⟨fun i => if h : i < len then (key i h).choose else 0, fun i h => by simp only [dif_pos h]; exact (key i h).choose_spec⟩
    refine ⟨some a, cap, (List.range len).map g, by simp, ?_, fun h => (by cases h), by simp; omega, .inl ⟨elems.map (·.1), rest.map (·.1), ?_, by simp [hle]⟩⟩
    · intro i hi'
      have hlt : i < len := by simpa using hi'
      have eg : ((List.range len).map g)[i] = g i := by simp
      rw [eg]
      exact ⟨rfl, hg i hlt⟩
    · simp only [Prod.mk.injEq] at hx; exact hx.1
end
end Go.Proofs.YtpfanhbkjajocaaDoor

/-
  A test as an argument of a row, opened. Own work.
-/
namespace Go.Proofs.YtpfanhbkjajocaaDoor
open Go.ChangeShapes Go.WideShapes Go.ChangeAt Go.RowKit Go.AM
set_option maxRecDepth 100000

section
variable {H : Type} {enc : TypeId × Value → H} {w : World} {base b0 : Nat} {sp : Nat → Bool} {held : Bool} {v : Value} {d : DataW H} {ps : List MemPlace}

theorem open_u64s {fuel : Nat} {cs : List Value} {x : DataW H × List MemPlace} (hf : DataW.trod enc Tryd.prog w base sp held fuel 43 cs = some x) :
    ∃ (p : Option Addr) (c : Nat) (xs : List (BitVec 64)), cs = [.slice p xs.length c] ∧ SeesU w p xs ∧ xs.length ≤ maxLen := by
  have hs := tab_undP tab_ok (t := 43) (d := .slice 22) rfl
  have hi := tab_undP tab_ok (t := 22) (d := .int .u64) rfl
  have c2 : Tryd.prog.cellsOf 22 = 1 := by kernel_rfl
  rcases DataW.trod_slice hs hf with ⟨hcs, _⟩ | ⟨a, len, cap, elems, rest, n, _, hcs, hx, _, hlc, hcm, hle, hel, _, _⟩
  · exact ⟨none, 0, [], hcs, fun i h => by simp at h, Nat.zero_le _⟩
  · have key : ∀ i, i < len → ∃ z : BitVec 64, w.cell? (a.add i) = some (.int .u64 (un z)) := by
      intro i hi'
      have he := hel i hi'
      rw [c2, List.getElem?_eq_getElem (by omega)] at he
      simp only [Option.bind_eq_some_iff] at he
      obtain ⟨ds, hds, ht⟩ := he
      unfold World.cells? at hds
      split at hds
      · obtain ⟨m1, m2⟩ := mapM_some hds
        obtain ⟨u0, g0, g0'⟩ := m2 0 0 rfl
        obtain ⟨A, hA, _, hwf⟩ := DataW.trod_int hi ht
        rw [hA] at g0
        simp at g0
        subst g0
        rw [i_add_add, Nat.mul_one, Nat.add_zero] at g0'
        exact ⟨_, by rw [← wf_u64 hwf]; exact g0'⟩
      · cases hds
    obtain ⟨g, hg⟩ : ∃ g : Nat → BitVec 64, ∀ i, i < len → w.cell? (a.add i) = some (.int .u64 (un (g i))) :=
      ⟨fun i => if h : i < len then (key i h).choose else 0, fun i h => by simp only [dif_pos h]; exact (key i h).choose_spec⟩
    refine ⟨some a, cap, (List.range len).map g, by simp [hcs], ?_, by simp; omega⟩
    intro i hi'
    have hlt : i < len := by simpa using hi'
    have eg : ((List.range len).map g)[i] = g i := by simp
    rw [eg]
    exact ⟨rfl, hg i hlt⟩

theorem trod_struct2 {P : Program} {t : TypeId} {f0 f1 : Field} {fuel : Nat} {cs : List Value} {x : DataW H × List MemPlace} (ht : P.underlying t = some (.struct #[f0, f1])) (h : DataW.trod enc P w base sp held fuel t cs = some x) :
    ∃ y0 y1 n, DataW.trod enc P w base sp held n f0.type ((cs.drop f0.offset).take (P.cellsOf f0.type)) = some y0 ∧
      DataW.trod enc P w base sp held n f1.type ((cs.drop f1.offset).take (P.cellsOf f1.type)) = some y1 := by
  obtain ⟨xs, n, _, rfl, hl, hlen, hf⟩ := DataW.trod_struct ht h
  match xs, hlen with
  | [y0, y1], _ => exact ⟨y0, y1, n, by simpa using hf 0 f0 rfl, by simpa using hf 1 f1 rfl⟩

theorem open_test (hval : Value.okWide Tryd.prog w .any b0 49 v) (hd : DataW.Trod enc Tryd.prog w base sp held 49 v d ps) :
    ∃ T : Ts, v = encT T ∧ SeesT w T ∧ (∀ a, T.p1 = some a → a.block < w.heap.size) ∧ (∀ a, T.p2 = some a → a.block < w.heap.size) := by
  have hu := tab_undP tab_ok (t := 49) (d := .struct #[{ name := "Cores", type := 43, offset := 0, embedded := false, tag := "", pkgPath := "", byteOffset := 0 }, { name := "Odd", type := 43, offset := 1, embedded := false, tag := "", pkgPath := "", byteOffset := 24 }]) rfl
  have hs := tab_undP tab_ok (t := 43) (d := .slice 22) rfl
  have c0 : Tryd.prog.cellsOf 49 = 2 := by kernel_rfl
  have c1 : Tryd.prog.cellsOf 43 = 1 := by kernel_rfl
  have hct : Tryd.prog.cellTypes Tryd.prog.depth 49 = some [43, 43] := by kernel_rfl
  have hval' := hval
  obtain ⟨cs, rfl, hsz⟩ := okWide_struct hu hval
  obtain ⟨fuel, hf⟩ := hd
  obtain ⟨xs, n, _, _, hl, hlen, _⟩ := DataW.trod_struct hu hf
  obtain ⟨y0, y1, n, h0, h1⟩ := trod_struct2 hu hf
  simp only [Value.cells, c0, c1, List.drop_zero] at hl h0 h1
  obtain ⟨p1, c1', x1, e1, s1, l1⟩ := open_u64s h0
  obtain ⟨p2, c2', x2, e2, s2, l2⟩ := open_u64s h1
  have hcs : cs.toList = [.slice p1 x1.length c1', .slice p2 x2.length c2'] := by
    have hl5 : cs.toList.length = 2 := hl
    generalize cs.toList = L at *
    match L, hl5 with
    | [a0, a1], _ =>
      simp at e1 e2
      rw [e1, e2]
  have hcl : ∀ (i : Nat) (p : Option Addr) (n c : Nat), i < 2 → cs[i]? = some (.slice p n c) → ∀ a, p = some a → a.block < w.heap.size := by
    intro i p n c hi hc a ha
    subst ha
    simp only [Value.okWide, hu] at hval'
    obtain ⟨cs2, e, _, ts, ht, _, hall⟩ := hval'
    cases e
    rw [hct] at ht
    cases ht
    obtain ⟨u, hu1, hu2⟩ := hall i _ hc
    have : u = 43 := by
      rcases (show i = 0 ∨ i = 1 by omega) with rfl | rfl <;> (simp at hu1; exact hu1.symm)
    subst this
    simp only [Cell.okWide, hs, Cell.ok] at hu2
    obtain ⟨_, _, row, cells, hsh, _⟩ := hu2.2.2
    rcases Nat.lt_or_ge a.block w.heap.size with h | h
    · exact h
    · have : w.heap[a.block]? = none := Array.getElem?_eq_none h
      simp [World.shape?, this] at hsh
  refine ⟨⟨x1, x2, p1, c1', p2, c2'⟩, ?_, ⟨s1, s2, l1, l2⟩, ?_, ?_⟩
  · unfold encT tsV
    congr 1
    apply Array.ext'
    exact hcs
  · exact hcl 0 p1 _ _ (by decide) (by rw [← Array.getElem?_toList, hcs]; rfl)
  · exact hcl 1 p2 _ _ (by decide) (by rw [← Array.getElem?_toList, hcs]; rfl)
end
end Go.Proofs.YtpfanhbkjajocaaDoor

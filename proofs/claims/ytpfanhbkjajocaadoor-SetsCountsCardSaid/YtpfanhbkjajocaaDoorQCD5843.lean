/-
  Own work, merged: J1, J2, T3, T4, T5, T6, U1, U2, U3.
-/
import Derived.AtR
import Derived.Below
import Derived.ChangeKeysEq
import Derived.KernelRfl
import Derived.LaidMore
import Derived.Laws.AppendOwn
import Derived.Laws.BytesString
import Derived.Laws.Cells
import Derived.Laws.CopyRow
import Derived.Laws.Entries
import Derived.Laws.Rows
import Derived.Laws.Small
import Derived.Laws.StructEq
import Derived.Lib.LaidTab
import Derived.Lib.TrailingZeros
import Derived.MapKept
import Derived.Maps.AppendAt
import Derived.OpenShut
import Derived.Orders
import Derived.ProofKit
import Derived.RangeFuncRecord
import Derived.SevenTiedAt
import Derived.Shelf.Lay
import Derived.Shelf.Strconv.Itoa3
import Derived.Shelf.Strings.Builder1
import Derived.Shelf.Strings.Builder2
import Derived.Shelf.Strings.OnBuilder
import Derived.Stop.Joined
import Derived.Test.YtpfanhbkjajocaaDoorCards
import Derived.Test.YtpfanhbkjajocaaDoorChecked
import Derived.Test.YtpfanhbkjajocaaDoorProg
import Derived.Test.YtpfanhbkjajocaaDoorRows
import Derived.Test.YtpfanhbkjajocaaDoorTie
import Derived.Test.YtpfanhbkjajocaaDoorQ3C08F7
/-
  strings.Join, strconv.Itoa: the shelf's contracts laid here, with this seat's numbers. Own work; printed by a program of our own (tools/gen_lays.py).
-/
namespace Go.Proofs
open Go.Shelf
def Tryd.lays156_ren : Go.Shelf.Ren := ⟨fun | 156 => 74 | 165 => 83 | 166 => 84 | 169 => 85 | 240 => 91 | 241 => 92 | 276 => 99 | 277 => 100 | n => n, fun | 31 => 90 | 9 => 9 | 3 => 3 | 4 => 4 | 0 => 0 | 20 => 20 | 72 => 104 | 76 => 108 | 70 => 102 | 37 => 92 | 75 => 107 | 127 => 115 | 164 => 123 | 5 => 5 | 80 => 110 | n => n, fun | n => n⟩
theorem Tryd.lays156 : Lays.n156 Tryd.prog Tryd.lays156_ren where
  mixed := by kernel_rfl
  f156 := Tryd.func74.trans (congrArg some (by kernel_rfl))
  f165 := Tryd.func83.trans (congrArg some (by kernel_rfl))
  f166 := Tryd.func84.trans (congrArg some (by kernel_rfl))
  f169 := Tryd.func85.trans (congrArg some (by kernel_rfl))
  f240 := Tryd.func91.trans (congrArg some (by kernel_rfl))
  f241 := Tryd.func92.trans (congrArg some (by kernel_rfl))
  f276 := Tryd.func99.trans (congrArg some (by kernel_rfl))
  f277 := Tryd.func100.trans (congrArg some (by kernel_rfl))
  t0 := Tryd.underlying0
  a0 := Tryd.isAgg0
  z0 := Tryd.sizeOf0
  v0 := Tryd.zeroValue0
  t3 := Tryd.underlying3
  a3 := Tryd.isAgg3
  z3 := Tryd.sizeOf3
  v3 := Tryd.zeroValue3
  t4 := Tryd.underlying4
  a4 := Tryd.isAgg4
  z4 := Tryd.sizeOf4
  v4 := Tryd.zeroValue4
  t9 := Tryd.underlying9
  a9 := Tryd.isAgg9
  z9 := Tryd.sizeOf9
  v9 := Tryd.zeroValue9
  t20 := Tryd.underlying20
  a20 := Tryd.isAgg20
  z20 := Tryd.sizeOf20
  v20 := Tryd.zeroValue20
  t31 := Tryd.underlying90
  a31 := Tryd.isAgg90
  z31 := Tryd.sizeOf90
  v31 := Tryd.zeroValue90
  t37 := Tryd.underlying92
  a37 := Tryd.isAgg92
  z37 := Tryd.sizeOf92
  v37 := Tryd.zeroValue92
  t70 := Tryd.underlying102
  a70 := Tryd.isAgg102
  z70 := Tryd.sizeOf102
  v70 := Tryd.zeroValue102
  t72 := Tryd.underlying104
  a72 := Tryd.isAgg104
  z72 := Tryd.sizeOf104
  v72 := Tryd.zeroValue104
  t75 := Tryd.underlying107
  a75 := Tryd.isAgg107
  z75 := Tryd.sizeOf107
  v75 := Tryd.zeroValue107
  t76 := Tryd.underlying108
  a76 := Tryd.isAgg108
  z76 := Tryd.sizeOf108
  v76 := Tryd.zeroValue108
  t127 := Tryd.underlying115
  a127 := Tryd.isAgg115
  z127 := Tryd.sizeOf115
  v127 := Tryd.zeroValue115
  t164 := Tryd.underlying123
  a164 := Tryd.isAgg123
  z164 := Tryd.sizeOf123
  v164 := Tryd.zeroValue123
theorem Tryd.Builder_Extra_156 : Builder.Extra Tryd.prog Tryd.lays156_ren where
  sizeBuilder := by kernel_rfl
  liesBuilder := by kernel_rfl
  t5 := Tryd.underlying5
  a5 := Tryd.isAgg5
  z5 := Tryd.sizeOf5
  v5 := Tryd.zeroValue5
  infoByte := by kernel_rfl
  cellsByte := by kernel_rfl
  sizeByte := by kernel_rfl
  neB5 := by decide
def Tryd.lays171_ren : Go.Shelf.Ren := ⟨fun | 171 => 73 | 243 => 82 | 246 => 80 | 283 => 87 | 284 => 88 | 285 => 89 | 286 => 90 | 129 => 95 | 317 => 94 | 318 => 96 | 319 => 97 | 320 => 98 | 337 => 101 | 338 => 62 | n => n, fun | 3 => 3 | 9 => 9 | 2 => 2 | 4 => 4 | 171 => 111 | 0 => 0 | 53 => 22 | 37 => 92 | 5 => 5 | 173 => 113 | 212 => 119 | 51 => 120 | 20 => 20 | 213 => 121 | 46 => 82 | 232 => 127 | 233 => 101 | n => n, fun | 17 => 1 | 18 => 3 | 19 => 0 | n => n⟩
theorem Tryd.lays171 : Lays.n171 Tryd.prog Tryd.lays171_ren where
  mixed := by kernel_rfl
  f129 := Tryd.func95.trans (congrArg some (by kernel_rfl))
  f171 := Tryd.func73.trans (congrArg some (by kernel_rfl))
  f243 := Tryd.func82.trans (congrArg some (by kernel_rfl))
  f246 := Tryd.func80.trans (congrArg some (by kernel_rfl))
  f283 := Tryd.func87.trans (congrArg some (by kernel_rfl))
  f284 := Tryd.func88.trans (congrArg some (by kernel_rfl))
  f285 := Tryd.func89.trans (congrArg some (by kernel_rfl))
  f286 := Tryd.func90.trans (congrArg some (by kernel_rfl))
  f317 := Tryd.func94.trans (congrArg some (by kernel_rfl))
  f318 := Tryd.func96.trans (congrArg some (by kernel_rfl))
  f319 := Tryd.func97.trans (congrArg some (by kernel_rfl))
  f320 := Tryd.func98.trans (congrArg some (by kernel_rfl))
  f337 := Tryd.func101.trans (congrArg some (by kernel_rfl))
  f338 := Tryd.func62.trans (congrArg some (by kernel_rfl))
  t0 := Tryd.underlying0
  a0 := Tryd.isAgg0
  z0 := Tryd.sizeOf0
  v0 := Tryd.zeroValue0
  t2 := Tryd.underlying2
  a2 := Tryd.isAgg2
  z2 := Tryd.sizeOf2
  v2 := Tryd.zeroValue2
  t3 := Tryd.underlying3
  a3 := Tryd.isAgg3
  z3 := Tryd.sizeOf3
  v3 := Tryd.zeroValue3
  t4 := Tryd.underlying4
  a4 := Tryd.isAgg4
  z4 := Tryd.sizeOf4
  v4 := Tryd.zeroValue4
  t5 := Tryd.underlying5
  a5 := Tryd.isAgg5
  z5 := Tryd.sizeOf5
  v5 := Tryd.zeroValue5
  t9 := Tryd.underlying9
  a9 := Tryd.isAgg9
  z9 := Tryd.sizeOf9
  v9 := Tryd.zeroValue9
  t20 := Tryd.underlying20
  a20 := Tryd.isAgg20
  z20 := Tryd.sizeOf20
  v20 := Tryd.zeroValue20
  t37 := Tryd.underlying92
  a37 := Tryd.isAgg92
  z37 := Tryd.sizeOf92
  v37 := Tryd.zeroValue92
  t46 := Tryd.underlying82
  a46 := Tryd.isAgg82
  z46 := Tryd.sizeOf82
  v46 := Tryd.zeroValue82
  t51 := Tryd.underlying120
  a51 := Tryd.isAgg120
  z51 := Tryd.sizeOf120
  v51 := Tryd.zeroValue120
  t53 := Tryd.underlying22
  a53 := Tryd.isAgg22
  z53 := Tryd.sizeOf22
  v53 := Tryd.zeroValue22
  t171 := Tryd.underlying111
  a171 := Tryd.isAgg111
  z171 := Tryd.sizeOf111
  v171 := Tryd.zeroValue111
  t173 := Tryd.underlying113
  a173 := Tryd.isAgg113
  z173 := Tryd.sizeOf113
  v173 := Tryd.zeroValue113
  t212 := Tryd.underlying119
  a212 := Tryd.isAgg119
  z212 := Tryd.sizeOf119
  v212 := Tryd.zeroValue119
  t213 := Tryd.underlying121
  a213 := Tryd.isAgg121
  z213 := Tryd.sizeOf121
  t232 := Tryd.underlying127
  a232 := Tryd.isAgg127
  z232 := Tryd.sizeOf127
  v232 := Tryd.zeroValue127
  t233 := Tryd.underlying101
  a233 := Tryd.isAgg101
  z233 := Tryd.sizeOf101
  v233 := Tryd.zeroValue101
  g17 := by kernel_rfl
  g18 := by kernel_rfl
  g19 := by kernel_rfl
end Go.Proofs

/-
  strings.Join and strconv.Itoa, as our calls know them. Own work.
-/
namespace Go.Proofs.YtpfanhbkjajocaaDoor
open Go.AM
set_option maxRecDepth 100000

theorem below_agree {w w' : World} (h : RowKit.Below w.heap.size w w') : Agree (fun _ => False) w w' := ⟨h.os, h.tape, h.output, h.size, fun k hk _ => h.block k hk⟩

theorem join_ok (bk o c : Nat) (xs : List ByteArray) (sep : ByteArray) (w : World)
    (hcells : ∀ (j : Nat) x, xs[j]? = some x → w.cell? ⟨bk, o + j, none⟩ = some (.string x)) (hbk : bk < w.heap.size) (hN : xs.length ≤ 140737488355328) (hcap : xs.length ≤ c) (hlen : (Lib.join (xs.map (·.data.toList)) sep.data.toList).length ≤ 140737488355328) :
    Gives Tryd.prog 74 [.slice (some ⟨bk, o, none⟩) xs.length c, .string sep] w (.string ⟨(Lib.join (xs.map (·.data.toList)) sep.data.toList).toArray⟩) :=
  Calls.mono' (Any.strings_Join Tryd.lays156 Tryd.Builder_Extra_156 bk o c xs sep w hcells hbk hN hcap hlen) fun e w' ⟨h1, h2⟩ => ⟨h1, below_agree h2⟩

theorem itoa_ok (i : Nat) (hi : i < 100) (w : World) : Gives Tryd.prog 73 [.int .i64 (i : Int)] w (.string ⟨(Lib.decDigits i).toArray⟩) :=
  Calls.mono' (Any.strconv_Itoa_small Tryd.lays171 i hi w) fun e w' ⟨h1, h2⟩ => ⟨h1, by rw [h2]; exact Agree.refl _ _⟩
theorem join_enters : Enters Tryd.prog 74 := enters_mk Tryd.func74 (by decide) rfl
theorem itoa_enters : Enters Tryd.prog 73 := enters_mk Tryd.func73 (by decide) rfl

/-- The digits of a number, as a string. -/
def numS (i : Nat) : ByteArray := ⟨(Lib.decDigits i).toArray⟩
def encS (l : List Nat) : List Value := l.map fun i => Value.string (numS i)
@[simp] theorem encS_length (l : List Nat) : (encS l).length = l.length := by simp [encS]
/-- A set's text. -/
def textS (x : BitVec 64) : ByteArray := ⟨#[123]⟩ ++ (⟨(Lib.join ((bitsL x).map Lib.decDigits) [32]).toArray⟩ : ByteArray) ++ ⟨#[125]⟩

/-- What lies in Text's blocks. -/
def txZ : List Nat → AV
  | [] => .v (.slice none 0 0)
  | l => .sl 9 1 0 l.length
def txB (l : List Nat) : List (Nat × Blk) := (0, .cells 90 [.one (txZ l)]) :: match l with | [] => [] | l => [(9, .row 9 1 l.length (encS l))]

theorem dec_len (i : Nat) (h : i < 64) : (Lib.decDigits i).length ≤ 2 := by
  have key : ∀ i : Fin 64, (Lib.decDigits i.val).length ≤ 2 := by decide +kernel
  exact key ⟨i, h⟩
theorem lens_len : ∀ l : List Nat, (∀ i ∈ l, i < 64) → Lib.lens (l.map Lib.decDigits) ≤ 2 * l.length
  | [], _ => Nat.le_refl _
  | i :: l, h => by
    have h1 := dec_len i (h i List.mem_cons_self)
    have h2 := lens_len l fun j hj => h j (List.mem_cons_of_mem _ hj)
    simp only [Lib.lens, List.map_cons, List.sum_cons, List.length_cons] at h2 ⊢
    omega
theorem join_len (l : List Nat) (h : ∀ i ∈ l, i < 64) (hl : l.length ≤ 64) : (Lib.join (l.map Lib.decDigits) [32]).length ≤ 300 := by
  cases l with
  | nil => decide
  | cons i l =>
    have h2 := lens_len (i :: l) h
    rw [List.map_cons, Lib.join_length]
    rw [List.map_cons] at h2
    simp only [List.length_map, List.length_cons, List.length_nil] at h2 hl ⊢
    omega
theorem join_nil_ok (w : World) : Gives Tryd.prog 74 [.slice none 0 0, .string ⟨#[32]⟩] w (.string ⟨#[]⟩) :=
  Calls.mono' (Any.strings_Join_none Tryd.lays156 Tryd.Builder_Extra_156 none 0 ⟨#[32]⟩ w) fun e w' ⟨h1, h2⟩ => ⟨h1, by rw [h2]; exact Agree.refl _ _⟩

set_option maxHeartbeats 400000 in
theorem text_ok (x : BitVec 64) (w : World) (hT : TabAt w) (h0 : 0 < w.heap.size) : Gives Tryd.prog 50 [.int .u64 (un x)] w (.string (textS x)) := by
  refine Gives.of_run Tryd.func50 rfl (by show 1 ≤ 17; decide) ?_
  have hl64 := bitsL_len_le x
  have hlt : ∀ i ∈ bitsL x, i < 64 := fun i hi => by unfold bitsL at hi; simpa using (List.mem_filter.1 hi).1
  refine RunF_sound tab_ok noX_local 100 [] _ _ rfl ?_ ?_
  · simp [okCell, argsT.ofConst', ofConst, Value.oneCell']
  refine Run.callR noX_local rfl rfl rfl rfl rfl rfl each_enters rfl (fun M w' _ _ => each_ok x w') ?_
  rintro v w2 w1 S1 hag hag2 ⟨bb, rfl, hbl, hW⟩ hS1
  have hB1 := (Based.refl w).call hag hag2 hS1
  have hbw1 : bb < w1.heap.size := World.block_lt_of_cell? w1 _ hW
  have hS1b : ¬ S1 bb := hS1.new bb hbl
  have hS10 : ¬ S1 0 := fun h => by have := hB1.new 0 h; omega
  have hT1 : TabAt w1 := hT.agree hB1.agree (fun f => f)
  have hw1 : 0 < w1.heap.size := by have := hB1.agree.size; omega
  have hit := each_iter x bb w1 hW hT1
  have htx : textS x = ⟨#[123]⟩ ++ (⟨(Lib.join ((bitsL x).map Lib.decDigits) [32]).toArray⟩ : ByteArray) ++ ⟨#[125]⟩ := rfl
  generalize textS x = tx at htx
  generalize bitsL x = E at hit hl64 hlt htx
  refine ⟨.fn 63 [.v (.pointer (some ⟨bb, 0, none⟩))], fun M => rfl, ?_⟩
  refine RunF_sound tab_ok noX_local 100 [] _ _ rfl ?_ ?_
  · simp
  refine Run.rangeFn noX_local rfl rfl (fun M => rfl) eachIt_enters 4 [(3, .ptr 0 0)] ⟨rfl, trivial⟩ rfl rfl hit
    (fun j hj => by rcases hj with rfl | rfl; exact ⟨hw1, hS10⟩; exact ⟨hbw1, hS1b⟩) (fun z hz => by simp only [encNs, List.mem_map] at hz; obtain ⟨e, _, rfl⟩ := hz; rfl)
    (fun pre h => ∃ j, j ≤ E.length ∧ pre = encNs (E.take j) ∧ h = txB (E.take j))
    (fun _ _ _ => False) 12 (txB []) ⟨0, by omega, rfl, by simp⟩ ⟨rfl, trivial⟩ ?_ ?_ ?_
  · rintro D l a0 rc wy fpy pre z h hI hpx ⟨j, hj, rfl, rfl⟩
    obtain ⟨hjl, rfl⟩ := encNs_next hj hpx
    refine RunF_sound tab_ok (roundX_local hI.loc l rc .ready) 100 [] _ _ rfl ?_ ?_
    · simp
    refine Run.beginRound hI.loc hI.lw ?_
    have he : E.take (j + 1) = E.take j ++ [E[j]] := List.take_succ_eq_append_getElem hjl
    have hin : ∃ j', j' ≤ E.length ∧ encNs (E.take j) ++ [[Value.int .i64 (E[j] : Int)]] = encNs (E.take j') ∧ txB (E.take j ++ [E[j]]) = txB (E.take j') := ⟨j + 1, by omega, encNs_succ hjl, by rw [he]⟩
    have hlen : (E.take j).length ≤ 64 := by rw [List.length_take]; omega
    have hy : E[j] < 64 := hlt _ (List.getElem_mem hjl)
    generalize E.take j = m at *
    generalize E[j] = y at *
    rcases m with _ | ⟨m0, m⟩
    · refine RunF_sound tab_ok (roundX_local hI.loc l rc .busy) 100 [] _ _ rfl ?_ ?_
      · simp
      refine Run.drawF2 (roundX_local hI.loc l rc .busy) rfl 0 2 3 rfl rfl [0] [] rfl rfl rfl rfl rfl rfl trivial ?_ ?_ ?_
      all_goals
        refine RunOF_sound tab_ok (roundX_local hI.loc l rc .busy) rfl rfl 100 [] _ _ rfl ?_ ?_
        · simp
        refine RunO.callFn (r := .string (numS y)) (roundX_local hI.loc l rc .busy) rfl rfl rfl rfl rfl rfl rfl rfl itoa_enters rfl (fun w' _ => itoa_ok y (by omega) w') ?_
        refine RunOF_sound tab_ok (roundX_local hI.loc l rc .busy) rfl rfl 100 [] _ _ rfl ?_ ?_
        · simp [okCell, fillL, Value.cells, splice, repL, maxLen, Value.oneCell', ofConst, inT]
        refine RunO.done ?_
        refine RunF_sound tab_ok (roundX_local hI.loc l rc .busy) 100 [] _ _ rfl ?_ ?_
        · simp
        refine Run.roundEnd hI [(9, 13)] (txB [y]) hin ⟨rfl, trivial⟩ ⟨?_, ?_, trivial⟩ rfl
        · rfl
        · rfl
    · refine RunF_sound tab_ok (roundX_local hI.loc l rc .busy) 100 [] _ _ rfl ?_ ?_
      · simp
      refine Run.drawF2 (roundX_local hI.loc l rc .busy) rfl 0 2 3 rfl rfl [0] [] rfl rfl rfl rfl rfl rfl trivial ?_ ?_ ?_
      all_goals
        refine RunOF_sound tab_ok (roundX_local hI.loc l rc .busy) rfl rfl 100 [] _ _ rfl ?_ ?_
        · simp
        refine RunO.callFn (r := .string (numS y)) (roundX_local hI.loc l rc .busy) rfl rfl rfl rfl rfl rfl rfl rfl itoa_enters rfl (fun w' _ => itoa_ok y (by omega) w') ?_
        refine RunOF_sound tab_ok (roundX_local hI.loc l rc .busy) rfl rfl 100 [] _ _ rfl ?_ ?_
        · simp [okCell, fillL, Value.cells, splice, repL, maxLen, Value.oneCell', ofConst, inT]
          simp at hlen
          omega
        refine RunO.done ?_
        refine RunF_sound tab_ok (roundX_local hI.loc l rc .busy) 100 [] _ _ rfl ?_ ?_
        · simp
        refine Run.roundEnd hI [(9, 13)] (txB (m0 :: m ++ [y])) hin ⟨rfl, trivial⟩ ⟨?_, ?_, trivial⟩ rfl
        · refine congrArg (fun n => some (Blk.cells 90 [.one (.sl 13 1 0 n)])) ?_
          simp
        · have e2 : (m0 :: m ++ [y]).length = m.length + 1 + 1 := by simp
          have e3 : encS (m0 :: m ++ [y]) = (encS (m0 :: m)).take ((m.length + 1) * 1) ++ [.string (numS y)] := by
            rw [List.take_of_length_le (by simp)]; simp [encS]
          show _ = some (Blk.row 9 1 (m0 :: m ++ [y]).length (encS (m0 :: m ++ [y])))
          rw [e2, e3]; rfl
  · rintro D h ⟨j, hj, hx, rfl⟩
    have hje := encNs_all hj hx
    subst hje
    rw [List.take_length]
    rcases E with _ | ⟨e0, E⟩
    · refine RunF_sound tab_ok (markX_local noX_local D) 100 [] _ _ rfl ?_ ?_
      · simp
      refine Run.callFn (r := .string ⟨#[]⟩) (markX_local noX_local D) rfl rfl rfl rfl rfl rfl rfl join_enters rfl (fun w' _ => join_nil_ok w') ?_
      refine RunF_sound tab_ok (markX_local noX_local D) 100 [] _ _ rfl ?_ ?_
      · simp
        exact ⟨by decide, by decide⟩
      refine Run.retB (Ds := [D]) tab_ok noX_local hB1 Tryd.func50 rfl ?_ (fun M => ?_)
      · simp
      rw [htx]; rfl
    · have hjl := join_len (e0 :: E) hlt hl64
      have e1 : ((e0 :: E).map numS).length = (e0 :: E).length := by simp
      have e2 : ((e0 :: E).map numS).map (·.data.toList) = (e0 :: E).map Lib.decDigits := by rw [List.map_map]; rfl
      have e3 : encS (e0 :: E) = ((e0 :: E).map numS).map Value.string := by rw [List.map_map]; rfl
      generalize hJ : Lib.join ((e0 :: E).map Lib.decDigits) [32] = J at *
      refine RunF_sound tab_ok (markX_local noX_local D) 100 [] _ _ rfl ?_ ?_
      · simp
      refine Run.callM (r := .string ⟨J.toArray⟩) (markX_local noX_local D) rfl rfl rfl rfl rfl rfl join_enters rfl (fun M w' hM _ => ?_) ?_
      · have hb := hM 9 _ rfl
        have hbl := hb.lt
        obtain ⟨_, _, _, hc, _⟩ := id hb
        have := join_ok (M 9).1 0 ((M 9).2 - 0) ((e0 :: E).map numS) ⟨#[32]⟩ w' (fun j x hx => ?_) hbl (by rw [e1]; omega) (by rw [e1]; exact hc) ?_
        · rw [e1, e2, hJ] at this
          exact this
        · have := row_cells hb j (.string x) (by rw [e3, List.getElem?_map, hx]; rfl)
          exact this
        · rw [e2, hJ]; omega
      refine RunF_sound tab_ok (markX_local noX_local D) 100 [] _ _ rfl ?_ ?_
      · have h1 : (⟨J.toArray⟩ : ByteArray).size = J.length := rfl
        have h2 : (⟨#[123]⟩ : ByteArray).size = 1 := rfl
        have h3 : (⟨#[125]⟩ : ByteArray).size = 1 := rfl
        simp [h1, h2, h3]
        omega
      refine Run.retB (Ds := [D]) tab_ok noX_local hB1 Tryd.func50 rfl ?_ (fun M => ?_)
      · simp
      rw [htx]; rfl
  · rintro D pre c h hpre h
    exact h.elim
theorem text_enters : Enters Tryd.prog 50 := enters_mk Tryd.func50 (by decide) rfl
end Go.Proofs.YtpfanhbkjajocaaDoor

/-
  The first examples; what rises. Own work.
-/
namespace Go.Proofs.YtpfanhbkjajocaaDoor
open Go.AM
set_option maxRecDepth 100000

theorem awake_of : ofS [3, 0, 3] 0#64 = (9#64, 0) := by decide +kernel
theorem awake_size : (bitsL 9#64).length = 2 := by decide +kernel
theorem awake_at : atL 9#64 1 = 3 := by decide +kernel
theorem awake_text : textS 9#64 = ⟨#[123, 48, 32, 51, 125]⟩ := by decide +kernel

theorem awake_ok (w : World) (hT : TabAt w) (h0 : 0 < w.heap.size) : Gives Tryd.prog 59 [] w (.bool true) := by
  refine Gives.of_run Tryd.func59 rfl (by show 0 ≤ 29; decide) ?_
  have hTA : ∀ w', Agree (fun _ => False) w w' → TabAt w' := fun w' hA => hT.agree hA (fun f => f)
  have hSA : ∀ w', Agree (fun _ => False) w w' → 0 < w'.heap.size := fun w' hA => Nat.lt_of_lt_of_le h0 hA.size
  refine RunF_sound tab_ok noX_local 100 [] _ _ rfl ?_ ?_
  · simp [fillL, Value.cells, splice, repL, maxLen, Value.oneCell', ofConst]
  refine Run.callM (r := ofSV (9#64, 0)) noX_local rfl rfl rfl rfl rfl rfl of_enters rfl (fun M w' hM _ => ?_) ?_
  · have hb := hM 0 _ rfl
    have := of_ok _ ((M 0).2 - 0) [3, 0, 3] w' (seesI_row hb) (by decide)
    rw [awake_of] at this
    exact this
  have k1 : ∀ w', Gives Tryd.prog 19 [.int .u64 9] w' (.int .i64 2) := fun w' => by
    have := size_ok 9#64 w'
    rw [awake_size] at this
    exact this
  have k2 : ∀ w', Agree (fun _ => False) w w' → Gives Tryd.prog 23 [.int .u64 9, .int .i64 1] w' (.int .i64 3) := fun w' hA => by
    have := at_ok 9#64 1 w' (hTA w' hA) (hSA w' hA) (by decide)
    rw [awake_at] at this
    exact this
  have k3 : ∀ w', Agree (fun _ => False) w w' → Gives Tryd.prog 50 [.int .u64 9] w' (.string ⟨#[123, 48, 32, 51, 125]⟩) := fun w' hA => by
    have := text_ok 9#64 w' (hTA w' hA) (hSA w' hA)
    rw [awake_text] at this
    exact this
  refine RunF_sound tab_ok noX_local 100 [true, true] _ _ rfl ?_ ?_
  · simp [un]
  refine Run.callFn (r := .int .i64 2) noX_local rfl rfl rfl rfl rfl rfl rfl size_enters rfl (fun w' _ => k1 w') ?_
  refine RunF_sound tab_ok noX_local 100 [true] _ _ rfl ?_ ?_
  · simp
  refine Run.callFn (r := .int .i64 3) noX_local rfl rfl rfl rfl rfl rfl rfl at_enters rfl (fun w' hA => k2 w' hA) ?_
  refine RunF_sound tab_ok noX_local 100 [true] _ _ rfl ?_ ?_
  · simp
  refine Run.callFn (r := .string ⟨#[123, 48, 32, 51, 125]⟩) noX_local rfl rfl rfl rfl rfl rfl rfl text_enters rfl (fun w' hA => k3 w' hA) ?_
  refine RunF_sound tab_ok noX_local 100 [] _ _ rfl ?_ ?_
  · simp
  refine Run.retP tab_ok Tryd.func59 rfl trivial (fun M => ?_)
  simp [conc]
theorem awake_enters : Enters Tryd.prog 59 := enters_mk Tryd.func59 (by decide) rfl
end Go.Proofs.YtpfanhbkjajocaaDoor

/-
  What SetsBack leans on, plain. Own work.
-/
namespace Go.Proofs.YtpfanhbkjajocaaDoor
open Go.AM

theorem bits_lt (x : BitVec 64) (i j : Nat) (hij : i < j) (hj : j < (bitsL x).length) : (bitsL x)[i] < (bitsL x)[j] := by
  have h : (bitsL x).Pairwise (· < ·) := List.Pairwise.filter _ List.pairwise_lt_range
  exact List.pairwise_iff_getElem.1 h i j (by omega) hj hij
theorem bits_64 (x : BitVec 64) (i : Nat) (hi : i < (bitsL x).length) : (bitsL x)[i] < 64 := by
  have h : x.getLsbD (bitsL x)[i] = true := (bitsL_mem x _).1 (List.getElem_mem hi)
  rcases Nat.lt_or_ge (bitsL x)[i] 64 with h1 | h1
  · exact h1
  · rw [BitVec.getLsbD_of_ge x _ h1] at h; cases h
theorem bits_at (x : BitVec 64) (i : Nat) (hi : i < (bitsL x).length) : atL x (i : Int) = ((bitsL x)[i] : Int) := by
  rw [atL, if_neg (by omega), Int.toNat_natCast, List.getElem?_eq_getElem hi]
theorem bits_end (x : BitVec 64) : atL x ((bitsL x).length : Int) = -1 := by
  rw [atL, if_neg (by omega), Int.toNat_natCast, List.getElem?_eq_none (Nat.le_refl _)]
theorem bits_has (x : BitVec 64) (i : Nat) (hi : i < (bitsL x).length) : x.getLsbD (bitsL x)[i] = true := (bitsL_mem x _).1 (List.getElem_mem hi)

theorem rank_aux (l : List Nat) (b i : Nat) (hi : i ≤ l.length) (h1 : ∀ j (h : j < l.length), j < i → l[j] < b) (h2 : ∀ j (h : j < l.length), i ≤ j → b ≤ l[j]) : (l.filter fun k : Nat => decide ((k : Int) < (b : Int))).length = i := by
  have e1 : (l.take i).filter (fun k : Nat => decide ((k : Int) < (b : Int))) = l.take i := by
    refine List.filter_eq_self.2 fun k hk => ?_
    obtain ⟨j, hj, rfl⟩ := List.mem_take_iff_getElem.1 hk
    have := h1 j (by omega) (by omega)
    simp; omega
  have e2 : (l.drop i).filter (fun k : Nat => decide ((k : Int) < (b : Int))) = [] := by
    refine List.filter_eq_nil_iff.2 fun k hk => ?_
    obtain ⟨j, hj, rfl⟩ := List.mem_drop_iff_getElem.1 hk
    have := h2 (i + j) (by omega) (by omega)
    simp; omega
  conv => lhs; rw [← List.take_append_drop i l]
  rw [List.filter_append, e1, e2, List.append_nil, List.length_take]; omega
theorem bits_rank (x : BitVec 64) (i : Nat) (hi : i < (bitsL x).length) : ((bitsL x).filter fun k : Nat => decide ((k : Int) < ((bitsL x)[i] : Nat))).length = i := by
  refine rank_aux _ _ i (by omega) (fun j h hj => bits_lt x j i hj hi) fun j h hj => ?_
  rcases Nat.eq_or_lt_of_le hj with h0 | h0
  · subst h0; exact Nat.le_refl _
  · exact Nat.le_of_lt (bits_lt x i j h0 h)
theorem bits_rank64 (x : BitVec 64) : ((bitsL x).filter fun k : Nat => decide ((k : Int) < 64)).length = (bitsL x).length := by
  rw [List.filter_eq_self.2]
  intro k hk
  obtain ⟨j, hj, rfl⟩ := List.mem_iff_getElem.1 hk
  have := bits_64 x j hj
  simp; omega

theorem next_at (x : BitVec 64) (p : Int) (b : Nat) (hb : x.getLsbD b = true) (hpb : p ≤ (b : Int)) (hmin : ∀ j, x.getLsbD j = true → p ≤ (j : Int) → b ≤ j) : nextL x p = (b : Int) := by
  have hget : ∀ j, (x &&& ~~~(lowL p)).getLsbD j = true ↔ x.getLsbD j = true ∧ p ≤ (j : Int) := by
    intro j
    rw [BitVec.getLsbD_and, BitVec.getLsbD_not, below_get, Bool.and_eq_true, Bool.and_eq_true, decide_eq_true_eq, Bool.not_eq_true', decide_eq_false_iff_not]
    constructor
    · rintro ⟨h1, h2, h3⟩; exact ⟨h1, by omega⟩
    · rintro ⟨h1, h2⟩
      have : j < 64 := by
        rcases Nat.lt_or_ge j 64 with h | h
        · exact h
        · rw [BitVec.getLsbD_of_ge x j h] at h1; cases h1
      exact ⟨h1, this, by omega⟩
  have hne : x &&& ~~~(lowL p) ≠ 0#64 := fun h => by
    have := (hget b).2 ⟨hb, hpb⟩
    rw [h, BitVec.getLsbD_zero] at this; cases this
  rw [nextL, if_neg hne]
  have h1 := get_tz _ hne
  have h2 := get_low _ hne b ((hget b).2 ⟨hb, hpb⟩)
  have h3 := hmin _ ((hget _).1 h1).1 ((hget _).1 h1).2
  omega
theorem bits_next (x : BitVec 64) (i : Nat) (hi : i < (bitsL x).length) (p : Int) (hp : i = 0 ∧ p = -1 ∨ ∃ h : 0 < i, p = ((bitsL x)[i - 1] : Nat)) : nextL x (p + 1) = ((bitsL x)[i] : Int) := by
  refine next_at x _ _ (bits_has x i hi) ?_ fun j hj hpj => ?_
  · rcases hp with ⟨_, rfl⟩ | ⟨h, rfl⟩
    · omega
    · have := bits_lt x (i - 1) i (by omega) hi; omega
  · obtain ⟨q, hq, rfl⟩ := List.mem_iff_getElem.1 ((bitsL_mem x j).2 hj)
    rcases Nat.lt_trichotomy q i with h | h | h
    · rcases hp with ⟨h0, _⟩ | ⟨h0, rfl⟩
      · omega
      · rcases Nat.lt_or_ge q (i - 1) with h5 | h5
        · have := bits_lt x q (i - 1) h5 (by omega); omega
        · obtain rfl : q = i - 1 := by omega
          omega
    · subst h; exact Nat.le_refl _
    · exact Nat.le_of_lt (bits_lt x i q h hq)

theorem ofS_bits : ∀ (l : List Nat) (d : BitVec 64), (∀ i ∈ l, i < 64) → (ofS (l.map fun k : Nat => (k : Int)) d).2 = 0 ∧ ∀ j, (ofS (l.map fun k : Nat => (k : Int)) d).1.getLsbD j = true ↔ d.getLsbD j = true ∨ j ∈ l
  | [], d, _ => ⟨rfl, fun j => by simp [ofS]⟩
  | i :: l, d, h => by
    have hi := h i List.mem_cons_self
    have hb : inB (i : Int) = true := by simp [inB]; omega
    have ih := ofS_bits l (d ||| 1#64 <<< i) fun j hj => h j (List.mem_cons_of_mem _ hj)
    rw [List.map_cons, ofS, if_pos hb, Int.toNat_natCast]
    refine ⟨ih.1, fun j => ?_⟩
    rw [ih.2 j, BitVec.getLsbD_or, Bool.or_eq_true, getLsbD_one_shl i j hi, decide_eq_true_eq, List.mem_cons]
    exact or_assoc
theorem ofS_list (x : BitVec 64) : ofS (listL x) 0#64 = (x, 0) := by
  have h := ofS_bits (bitsL x) 0#64 fun i hi => by
    obtain ⟨j, hj, rfl⟩ := List.mem_iff_getElem.1 hi
    exact bits_64 x j hj
  refine Prod.ext ?_ h.1
  apply BitVec.eq_of_getLsbD_eq
  intro j _
  rw [Bool.eq_iff_iff]
  have := h.2 j
  rw [BitVec.getLsbD_zero, bitsL_mem] at this
  exact this.trans (by simp)

theorem count_one (p q : Nat → Bool) (i : Nat) (hp : p i = true) (hq : q i = false) (he : ∀ j, j ≠ i → q j = p j) : ∀ n, i < n → (List.range n).countP q + 1 = (List.range n).countP p
  | 0, h => absurd h (Nat.not_lt_zero _)
  | n + 1, h => by
    rw [List.range_succ, List.countP_append, List.countP_append, List.countP_singleton, List.countP_singleton]
    rcases Nat.lt_or_ge i n with hl | hl
    · have := count_one p q i hp hq he n hl
      rw [he n (by omega)]
      omega
    · obtain rfl : i = n := by omega
      rw [hp, hq]
      have : (List.range i).countP q = (List.range i).countP p := List.countP_congr fun j hj => by
        rw [he j (by have := List.mem_range.1 hj; omega)]
      rw [this]; rfl
/-- One number more, one number fewer. -/
theorem size_more (x y : BitVec 64) (i : Nat) (hi : i < 64) (hx : x.getLsbD i = true) (hy : y.getLsbD i = false) (he : ∀ j, j ≠ i → y.getLsbD j = x.getLsbD j) : (bitsL y).length + 1 = (bitsL x).length := by
  unfold bitsL
  rw [← List.countP_eq_length_filter, ← List.countP_eq_length_filter]
  exact count_one _ _ i hx hy he 64 hi
end Go.Proofs.YtpfanhbkjajocaaDoor

/-
  SetsBack answers true. Own work.
-/
namespace Go.Proofs.YtpfanhbkjajocaaDoor
open Go.AM
set_option maxRecDepth 100000

theorem setsBack_ok (x : BitVec 64) (i : Int) (w : World) (hT : TabAt w) (h0 : 0 < w.heap.size) : Gives Tryd.prog 11 [.int .u64 (un x), .int .i64 i] w (.bool true) := by
  refine Gives.of_run Tryd.func11 rfl (by show 2 ≤ 115; decide) ?_
  have hTA : ∀ w', Agree (fun _ => False) w w' → TabAt w' := fun w' hA => hT.agree hA (fun f => f)
  have hSA : ∀ w', Agree (fun _ => False) w w' → 0 < w'.heap.size := fun w' hA => Nat.lt_of_lt_of_le h0 hA.size
  obtain ⟨n, hn⟩ : ∃ n, n = (bitsL x).length := ⟨_, rfl⟩
  have hn64 : n ≤ 64 := by rw [hn]; exact bitsL_len_le x
  have k1 : ∀ w', Gives Tryd.prog 19 [.int .u64 (un x)] w' (.int .i64 (n : Int)) := fun w' => by rw [hn]; exact size_ok x w'
  refine RunF_sound tab_ok noX_local 100 [] _ _ rfl ?_ ?_
  · simp
  refine Run.callFn (r := .bool true) noX_local rfl rfl rfl rfl rfl rfl rfl awake_enters rfl (fun w' hA => awake_ok w' (hTA w' hA) (hSA w' hA)) ?_
  refine RunF_sound tab_ok noX_local 100 [false] _ _ rfl ?_ ?_
  · simp
  refine Run.callFn (r := .int .i64 (n : Int)) noX_local rfl rfl rfl rfl rfl rfl rfl size_enters rfl (fun w' _ => k1 w') ?_
  refine RunF_sound tab_ok noX_local 100 [] _ _ rfl ?_ ?_
  · simp
  suffices H : ∀ (m k : Nat) (p : Int), k + m = n → (k = 0 ∧ p = -1 ∨ ∃ _ : 0 < k, ∃ h : k - 1 < (bitsL x).length, p = ((bitsL x)[k - 1] : Nat)) →
      Run _ _ ⟨[(0, .v (.int .u64 (un x))), (1, .v (.int .i64 i)), (5, .v (.int .i64 (n : Int))), (6, .v (.int .i64 p)), (7, .v (.int .i64 (k : Int)))], [], 0⟩ by
    exact Run.to (H n 0 (-1) (by omega) (.inl ⟨rfl, rfl⟩)) ⟨rfl, rfl, rfl, rfl, rfl, trivial⟩ trivial
  intro m
  induction m with
  | zero =>
    intro k p hk _
    refine RunF_sound tab_ok noX_local 100 [false] _ _ rfl ?_ ?_
    · simp; omega
    refine Run.to (t' := [(0, .v (.int .u64 (un x))), (1, .v (.int .i64 i)), (5, .v (.int .i64 (n : Int))), (49, .v (.int .u64 (un x)))]) (h' := []) (n' := 0) ?_ ⟨rfl, rfl, rfl, rfl, trivial⟩ trivial
    refine Run.callH noX_local (.sl 0 1 0 (listL x).length) [(0, .row 3 1 (listL x).length (encI (listL x)))] 1 rfl rfl rfl rfl rfl rfl listS_enters rfl rfl rfl rfl rfl (fun M w' _ hA => (listS_ok x w' (hTA w' hA) (hSA w' hA)).to [(0, 9)] rfl ⟨rfl, trivial⟩ rfl) ?_
    refine Run.callM (r := ofSV (x, 0)) noX_local rfl rfl rfl rfl rfl rfl of_enters rfl (fun M w' hM _ => ?_) ?_
    · have hb := hM 0 _ rfl
      have := of_ok _ ((M 0).2 - 0) (listL x) w' (seesI_row hb) (by have := listL_le x; show _ ≤ 9223372036854775807; omega)
      rw [ofS_list] at this
      exact this
    have k2 : ∀ w', Agree (fun _ => False) w w' → Gives Tryd.prog 23 [.int .u64 (un x), .int .i64 (n : Int)] w' (.int .i64 (-1)) := fun w' hA => by
      have := at_ok x n w' (hTA w' hA) (hSA w' hA) (by omega)
      rw [hn, bits_end] at this
      rw [hn]; exact this
    have k3 : ∀ w', Gives Tryd.prog 25 [.int .u64 (un x), .int .i64 64] w' (.int .i64 (n : Int)) := fun w' => by
      have := rank_ok x 64 w'
      rw [bits_rank64, ← hn] at this
      exact this
    refine RunF_sound tab_ok noX_local 100 [false, false] _ _ rfl ?_ ?_
    · simp
    refine Run.callFn (r := .int .i64 (-1)) noX_local rfl rfl rfl rfl rfl rfl rfl at_enters rfl (fun w' hA => k2 w' hA) ?_
    refine RunF_sound tab_ok noX_local 100 [false] _ _ rfl ?_ ?_
    · simp
    refine Run.callFn (r := .int .i64 (n : Int)) noX_local rfl rfl rfl rfl rfl rfl rfl rank_enters rfl (fun w' _ => k3 w') ?_
    refine RunF_sound tab_ok noX_local 100 [false] _ _ rfl ?_ ?_
    · simp
    refine Run.to (t' := [(0, .v (.int .u64 (un x))), (1, .v (.int .i64 i)), (5, .v (.int .i64 (n : Int))), (73, .v (.int .u64 (un x))), (74, .v (.int .i64 i))]) (h' := []) (n' := 0) ?_ ⟨rfl, rfl, rfl, rfl, rfl, trivial⟩ trivial
    refine Run.callFn noX_local rfl rfl rfl rfl rfl rfl rfl has_enters rfl (fun w' _ => has_ok x i w') ?_
    clear hTA hSA k1 k2 k3
    by_cases c : hasB x i = true
    · have hc : (0 ≤ i ∧ i < 64) ∧ x.getLsbD i.toNat = true := by simpa [hasB, inB] using c
      have hi64 : i.toNat < 64 := by omega
      have hbit := getLsbD_one_shl i.toNat
      obtain ⟨y, hy⟩ : ∃ y, y = withoutL x i := ⟨_, rfl⟩
      have hyb : ∀ j, y.getLsbD j = (x.getLsbD j && !decide (j = i.toNat)) := fun j => by
        rw [hy, withoutL, if_pos hc.1, BitVec.getLsbD_and, BitVec.getLsbD_not, hbit j hi64]
        rcases Nat.lt_or_ge j 64 with h | h
        · simp [h]
        · rw [BitVec.getLsbD_of_ge x j h]; rfl
      have hback : withL y i = x := by
        rw [withL, if_pos hc.1]
        apply BitVec.eq_of_getLsbD_eq
        intro j _
        rw [BitVec.getLsbD_or, hyb, hbit j hi64]
        by_cases e : j = i.toNat
        · subst e; simp [hc.2]
        · simp [e]
      have hsz := size_more x y i.toNat hi64 hc.2 (by rw [hyb]; simp) (fun j hj => by rw [hyb]; simp [hj])
      rw [← hn] at hsz
      have g1 : ∀ w', Gives Tryd.prog 17 [.int .u64 (un x), .int .i64 i] w' (.int .u64 (un y)) := fun w' => by rw [hy]; exact without_ok x i w'
      have g2 : ∀ w', Gives Tryd.prog 15 [.int .u64 (un y), .int .i64 i] w' (.int .u64 (un x)) := fun w' => by have := with_ok y i w'; rwa [hback] at this
      refine RunF_sound tab_ok noX_local 100 [true] _ _ rfl ?_ ?_
      · simp [c]
      refine Run.callFn (r := .int .u64 (un y)) noX_local rfl rfl rfl rfl rfl rfl rfl without_enters rfl (fun w' _ => g1 w') ?_
      refine RunF_sound tab_ok noX_local 100 [] _ _ rfl ?_ ?_
      · simp
      refine Run.callFn (r := .int .u64 (un x)) noX_local rfl rfl rfl rfl rfl rfl rfl with_enters rfl (fun w' _ => g2 w') ?_
      refine RunF_sound tab_ok noX_local 100 [true] _ _ rfl ?_ ?_
      · simp
      refine Run.callFn (r := .int .u64 (un y)) noX_local rfl rfl rfl rfl rfl rfl rfl without_enters rfl (fun w' _ => g1 w') ?_
      refine Run.callFn noX_local rfl rfl rfl rfl rfl rfl rfl size_enters rfl (fun w' _ => size_ok y w') ?_
      refine RunF_sound tab_ok noX_local 100 [] _ _ rfl ?_ ?_
      · simp
      refine Run.retP tab_ok Tryd.func11 rfl trivial (fun M => ?_)
      have e : IntKind.i64.wrap ((n : Int) - 1) = ((bitsL y).length : Int) := by rw [wrap_i64] <;> omega
      simp [conc, e]
    · obtain ⟨y, hy⟩ : ∃ y, y = withL x i := ⟨_, rfl⟩
      have g1 : ∀ w', Gives Tryd.prog 15 [.int .u64 (un x), .int .i64 i] w' (.int .u64 (un y)) := fun w' => by rw [hy]; exact with_ok x i w'
      have hfacts : withoutL y i = x ∧ ((bitsL y).length : Int) = (n : Int) + (if 0 ≤ i ∧ i < 64 then 1 else 0) := by
        by_cases ci : 0 ≤ i ∧ i < 64
        · have hi64 : i.toNat < 64 := by omega
          have hbit := getLsbD_one_shl i.toNat
          have hx : x.getLsbD i.toNat = false := by
            cases hb : x.getLsbD i.toNat with
            | false => rfl
            | true => exact absurd (by simp [hasB, inB, ci, hb]) c
          have hyb : ∀ j, y.getLsbD j = (x.getLsbD j || decide (j = i.toNat)) := fun j => by
            rw [hy, withL, if_pos ci, BitVec.getLsbD_or, hbit j hi64]
          refine ⟨?_, ?_⟩
          · rw [withoutL, if_pos ci]
            apply BitVec.eq_of_getLsbD_eq
            intro j hj
            rw [BitVec.getLsbD_and, BitVec.getLsbD_not, hyb, hbit j hi64]
            by_cases e : j = i.toNat
            · subst e; simp [hx]
            · simp [e, hj]
          · have hsz := size_more y x i.toNat hi64 (by rw [hyb]; simp) hx (fun j hj => by rw [hyb]; simp [hj])
            rw [← hn] at hsz
            rw [if_pos ci]; omega
        · have e : y = x := by rw [hy, withL, if_neg ci]
          refine ⟨by rw [withoutL, if_neg ci, e], ?_⟩
          rw [if_neg ci, e, hn]; simp
      obtain ⟨hback, hsz⟩ := hfacts
      have g2 : ∀ w', Gives Tryd.prog 17 [.int .u64 (un y), .int .i64 i] w' (.int .u64 (un x)) := fun w' => by have := without_ok y i w'; rwa [hback] at this
      clear hy hback
      refine RunF_sound tab_ok noX_local 100 [false] _ _ rfl ?_ ?_
      · simpa using c
      refine Run.callFn (r := .int .u64 (un y)) noX_local rfl rfl rfl rfl rfl rfl rfl with_enters rfl (fun w' _ => g1 w') ?_
      refine RunF_sound tab_ok noX_local 100 [] _ _ rfl ?_ ?_
      · simp
      refine Run.callFn (r := .int .u64 (un x)) noX_local rfl rfl rfl rfl rfl rfl rfl without_enters rfl (fun w' _ => g2 w') ?_
      refine RunF_sound tab_ok noX_local 100 [true] _ _ rfl ?_ ?_
      · simp
      refine Run.callFn (r := .int .u64 (un y)) noX_local rfl rfl rfl rfl rfl rfl rfl with_enters rfl (fun w' _ => g1 w') ?_
      refine Run.callFn noX_local rfl rfl rfl rfl rfl rfl rfl size_enters rfl (fun w' _ => size_ok y w') ?_
      have e : IntKind.i64.wrap ((n : Int) + 1) = (n : Int) + 1 := by rw [wrap_i64] <;> omega
      by_cases c0 : 0 ≤ i
      · refine RunF_sound tab_ok noX_local 100 [true] _ _ rfl ?_ ?_
        · simp [c0]
        refine Run.retP tab_ok Tryd.func11 rfl trivial (fun M => ?_)
        by_cases c1 : i < 64
        · rw [if_pos ⟨c0, c1⟩] at hsz
          simp [conc, e, hsz, c1]
        · rw [if_neg (fun h => c1 h.2)] at hsz
          simp [conc, e, hsz, c1]
          omega
      · refine RunF_sound tab_ok noX_local 100 [false] _ _ rfl ?_ ?_
        · simpa using c0
        refine Run.retP tab_ok Tryd.func11 rfl trivial (fun M => ?_)
        rw [if_neg (fun h => c0 h.1)] at hsz
        simp [conc, e, hsz]
        omega
  | succ m ih =>
    intro k p hk hp
    have hkl : k < (bitsL x).length := by omega
    have hat := bits_at x k hkl
    have hrk := bits_rank x k hkl
    have h64 := bits_64 x k hkl
    have hhas := bits_has x k hkl
    have hnx := bits_next x k hkl p (by
      rcases hp with h | ⟨h1, h2, h3⟩
      · exact .inl h
      · exact .inr ⟨h1, h3⟩)
    have hpb : p < ((bitsL x)[k] : Int) := by
      rcases hp with ⟨_, rfl⟩ | ⟨h1, h2, rfl⟩
      · omega
      · have := bits_lt x (k - 1) k (by omega) hkl; omega
    have hp0 : -1 ≤ p := by rcases hp with ⟨_, rfl⟩ | ⟨h1, h2, rfl⟩ <;> omega
    obtain ⟨b, hb⟩ : ∃ b, b = (bitsL x)[k] := ⟨_, rfl⟩
    rw [← hb] at hat hrk h64 hhas hnx hpb
    have hwp : IntKind.i64.wrap (p + 1) = p + 1 := by rw [wrap_i64] <;> omega
    refine RunF_sound tab_ok noX_local 100 [true] _ _ rfl ?_ ?_
    · simp; omega
    refine Run.callFn (r := .int .i64 (b : Int)) noX_local rfl rfl rfl rfl rfl rfl rfl at_enters rfl (fun w' hA => by rw [← hat]; exact at_ok x k w' (hTA w' hA) (hSA w' hA) (by omega)) ?_
    refine RunF_sound tab_ok noX_local 100 [false] _ _ rfl ?_ ?_
    · simp; omega
    refine Run.callFn (r := .bool true) noX_local rfl rfl rfl rfl rfl rfl rfl has_enters rfl (fun w' _ => ?_) ?_
    · have := has_ok x b w'
      have e : hasB x (b : Int) = true := by simp [hasB, inB, hhas]; omega
      rwa [e] at this
    refine RunF_sound tab_ok noX_local 100 [false] _ _ rfl ?_ ?_
    · simp
    refine Run.callFn (r := .int .i64 (k : Int)) noX_local rfl rfl rfl rfl rfl rfl rfl rank_enters rfl (fun w' _ => ?_) ?_
    · have := rank_ok x b w'
      rwa [hrk] at this
    refine RunF_sound tab_ok noX_local 100 [false] _ _ rfl ?_ ?_
    · simp
    refine Run.callFn (r := .int .i64 (b : Int)) noX_local rfl rfl rfl rfl rfl rfl rfl next_enters rfl (fun w' hA => ?_) ?_
    · have := next_ok x (p + 1) w' (hTA w' hA)
      rw [hnx] at this
      rw [hwp]; exact this
    refine RunF_sound tab_ok noX_local 100 [false] _ _ rfl ?_ ?_
    · simp
    refine Run.to (ih (k + 1) b (by omega) (.inr ⟨by omega, by omega, ?_⟩)) ⟨rfl, rfl, rfl, rfl, i64_eq (wrap_succ (by omega)), trivial⟩ trivial
    exact congrArg (fun z : Nat => (z : Int)) hb
end Go.Proofs.YtpfanhbkjajocaaDoor

/-
  The reference's Of. Own work.
-/
namespace Go.Proofs.YtpfanhbkjajocaaDoor
open Go.AM
set_option maxRecDepth 100000

theorem ofR_ok (p : Option Addr) (c : Nat) (xs : List Int) (w : World) (hs : SeesI w p xs) (hl : xs.length ≤ maxLen) : Gives Tryd.prog 47 [.slice p xs.length c] w (ofSV (ofS xs 0#64)) := by
  refine Gives.of_run Tryd.func47 rfl (by show 1 ≤ 31; decide) ?_
  have hml : maxLen = 9223372036854775807 := rfl
  refine RunF_sound tab_ok noX_local 100 [] _ _ rfl ?_ ?_
  · simp
  obtain ⟨v, hv⟩ : ∃ v, v = ofS xs 0#64 := ⟨_, rfl⟩
  rw [← hv]
  suffices H : ∀ (m i : Nat) (d : BitVec 64), i + m = xs.length → v = ofS (xs.drop i) d → Run _ _ ⟨[(0, .v (.slice p xs.length c)), (4, .v (.int .u64 (un d))), (5, .v (.int .i64 (i : Int)))], [], 0⟩ by
    exact Run.to (H xs.length 0 0#64 (by omega) hv) ⟨rfl, rfl, rfl, trivial⟩ trivial
  intro m
  induction m with
  | zero =>
    intro i d hi hd
    rw [List.drop_eq_nil_of_le (by omega)] at hd
    refine RunF_sound tab_ok noX_local 100 [false] _ _ rfl ?_ ?_
    · simp; omega
    refine Run.retL tab_ok Tryd.func47 rfl ?_ (fun M => ?_)
    · simp
    rw [hd]; rfl
  | succ m ih =>
    intro i d hi hd
    have hil : i < xs.length := by omega
    rw [List.drop_eq_getElem_cons hil] at hd
    obtain ⟨hp, hpc⟩ := hs i hil
    generalize xs[i] = z at *
    by_cases c0 : inB z = true
    · rw [ofS, if_pos c0] at hd
      have hz : 0 ≤ z ∧ z < 64 := by simpa [inB] using c0
      refine RunF_sound tab_ok noX_local 100 [true, false, false] _ _ rfl ?_ ?_
      · simp only [fnC_w0, fnC_S0, Int.toNat_natCast, Nat.mul_one, hpc]
        simp
        (repeat' refine And.intro ?_ ?_) <;> first | omega | exact hp
      simp only [fnC_w0, Int.toNat_natCast, Nat.mul_one, hpc]
      refine Run.callFn (r := .int .u64 (un (d ||| 1#64 <<< z.toNat))) noX_local rfl rfl rfl rfl rfl rfl rfl withR_enters rfl (fun w' _ => ?_) ?_
      · have := withR_ok d z w'
        rwa [withL, if_pos hz] at this
      refine RunF_sound tab_ok noX_local 100 [] _ _ rfl ?_ ?_
      · simp
      exact Run.to (ih (i + 1) (d ||| 1#64 <<< z.toNat) (by omega) hd) ⟨rfl, rfl, i64_eq (wrap_succ (by omega)), trivial⟩ trivial
    · rw [ofS, if_neg c0] at hd
      have hz : ¬ (0 ≤ z ∧ z < 64) := by simpa [inB] using c0
      by_cases c1 : z < 0
      · refine RunF_sound tab_ok noX_local 100 [true, true] _ _ rfl ?_ ?_
        · simp only [fnC_w0, fnC_S0, Int.toNat_natCast, Nat.mul_one, hpc]
          simp
          (repeat' refine And.intro ?_ ?_) <;> first | omega | exact hp
        refine Run.retL tab_ok Tryd.func47 rfl ?_ (fun M => ?_)
        · simp
        rw [hd]; rfl
      · refine RunF_sound tab_ok noX_local 100 [true, false, true] _ _ rfl ?_ ?_
        · simp only [fnC_w0, fnC_S0, Int.toNat_natCast, Nat.mul_one, hpc]
          simp
          (repeat' refine And.intro ?_ ?_) <;> first | omega | exact hp
        refine Run.retL tab_ok Tryd.func47 rfl ?_ (fun M => ?_)
        · simp
        rw [hd]; rfl
theorem ofR_enters : Enters Tryd.prog 47 := enters_mk Tryd.func47 (by decide) rfl
end Go.Proofs.YtpfanhbkjajocaaDoor

/-
  The reference's Text; the statement's SameInts. Own work.
-/
namespace Go.Proofs.YtpfanhbkjajocaaDoor
open Go.AM
set_option maxRecDepth 100000

def ba (l : List UInt8) : ByteArray := ⟨l.toArray⟩
theorem ba_app (l m : List UInt8) : ba l ++ ba m = ba (l ++ m) := by
  apply ByteArray.ext
  simp [ba]
theorem ba_size (l : List UInt8) : (ba l).size = l.length := rfl

theorem joinTail_snoc (sep : List UInt8) (r : List (List UInt8)) (y : List UInt8) : Lib.joinTail sep (r ++ [y]) = Lib.joinTail sep r ++ (sep ++ y) := by
  simp [Lib.joinTail]
theorem join_snoc (sep : List UInt8) (r : List (List UInt8)) (y : List UInt8) (h : r ≠ []) : Lib.join (r ++ [y]) sep = Lib.join r sep ++ sep ++ y := by
  cases r with
  | nil => exact absurd rfl h
  | cons x r => rw [List.cons_append, Lib.join_cons, Lib.join_cons, joinTail_snoc]; simp

def tenB (y : Nat) : Value := .int .u8 (IntKind.u8.wrap (IntKind.i64.wrap (48 + IntKind.i64.wrap ((y : Int).tdiv 10))))
def oneB (y : Nat) : Value := .int .u8 (IntKind.u8.wrap (IntKind.i64.wrap (48 + (y : Int).tmod 10)))
theorem dig_hi : ∀ y : Nat, y < 64 → 10 ≤ y → bstr [tenB y] ++ bstr [oneB y] = ba (Lib.decDigits y) := by
  intro y hy hl
  have key : ∀ y : Fin 64, 10 ≤ y.val → (bstr [tenB y.val]).data ++ (bstr [oneB y.val]).data = (ba (Lib.decDigits y.val)).data := by decide +kernel
  apply ByteArray.ext
  simpa using key ⟨y, hy⟩ hl
theorem dig_lo : ∀ y : Nat, y < 64 → ¬ 10 ≤ y → bstr [oneB y] = ba (Lib.decDigits y) := by
  intro y hy hl
  have key : ∀ y : Fin 64, ¬ 10 ≤ y.val → (bstr [oneB y.val]).data = (ba (Lib.decDigits y.val)).data := by decide +kernel
  apply ByteArray.ext
  exact key ⟨y, hy⟩ hl

/-- What the reference has of the text when it has gone through so many numbers. -/
def accT (E : List Nat) (k : Nat) : ByteArray := ba (123 :: Lib.join ((E.take k).map Lib.decDigits) [32])
theorem accT_0 (E : List Nat) : accT E 0 = ⟨#[123]⟩ := rfl
theorem accT_1 (E : List Nat) (h : 0 < E.length) : accT E 1 = accT E 0 ++ ba (Lib.decDigits E[0]) := by
  rw [accT, accT, ba_app, List.take_succ_eq_append_getElem h]
  simp [Lib.join_one, Lib.join_nil]
theorem accT_s (E : List Nat) (k : Nat) (h : k < E.length) (h0 : 0 < k) : accT E (k + 1) = accT E k ++ ⟨#[32]⟩ ++ ba (Lib.decDigits E[k]) := by
  have : (⟨#[32]⟩ : ByteArray) = ba [32] := rfl
  rw [accT, accT, this, ba_app, ba_app, List.take_succ_eq_append_getElem h, List.map_append, List.map_cons, List.map_nil, join_snoc _ _ _ (by
    intro h1
    have := congrArg List.length h1
    simp only [List.length_map, List.length_take, List.length_nil] at this
    omega)]
  simp
theorem accT_len (E : List Nat) (k : Nat) (h : ∀ i ∈ E, i < 64) (hl : E.length ≤ 64) : (accT E k).size ≤ 301 := by
  rw [accT, ba_size]
  have := join_len (E.take k) (fun i hi => h i (List.mem_of_mem_take hi)) (by rw [List.length_take]; omega)
  rw [List.length_cons]; omega

theorem bstr_size1 (v : Value) : (bstr [v]).size = 1 := by simp [bstr, ByteArray.size]
theorem sp_size : (⟨#[32]⟩ : ByteArray).size = 1 := rfl

set_option maxHeartbeats 400000 in
theorem textR_ok (x : BitVec 64) (w : World) : Gives Tryd.prog 51 [.int .u64 (un x)] w (.string (textS x)) := by
  refine Gives.of_run Tryd.func51 rfl (by show 1 ≤ 47; decide) ?_
  have hl64 := bitsL_len_le x
  have hlt : ∀ i ∈ bitsL x, i < 64 := fun i hi => by unfold bitsL at hi; simpa using (List.mem_filter.1 hi).1
  have htx : textS x = accT (bitsL x) (bitsL x).length ++ ⟨#[125]⟩ := by
    rw [accT, List.take_length]
    have e1 : textS x = ba [123] ++ ba (Lib.join ((bitsL x).map Lib.decDigits) [32]) ++ ⟨#[125]⟩ := rfl
    rw [e1, ba_app]; rfl
  refine RunF_sound tab_ok noX_local 100 [] _ _ rfl ?_ ?_
  · simp
  refine Run.callR noX_local rfl rfl rfl rfl rfl rfl listR_enters rfl (fun M w' _ _ => listR_ok x w') ?_
  rintro v w2 w1 S1 hag hag2 ⟨p, c, rfl, hc, hs, hnew⟩ hS1
  have hB1 := (Based.refl w).call hag hag2 hS1
  rw [listL_len] at *
  have hsE : ∀ i (h : i < (bitsL x).length), p = some (p.getD default) ∧ w1.cell? ((p.getD default).add i) = some (.int .i64 ((bitsL x)[i] : Int)) := fun i h => by
    have := hs i (by rw [listL_len]; exact h)
    simpa [listL] using this
  generalize textS x = tx at htx
  generalize bitsL x = E at *
  refine ⟨.v (.slice p E.length c), fun M => rfl, ?_⟩
  refine RunF_sound tab_ok noX_local 100 [] _ _ rfl ?_ ?_
  · simp
  suffices H : ∀ (d k : Nat), k + d = E.length → ∀ σ, inT σ.t [(3, .v (.slice p E.length c)), (4, .v (.string (accT E k))), (5, .v (.int .i64 (k : Int)))] → inT σ.h [] → Run _ _ σ by
    exact H E.length 0 (by omega) _ ⟨rfl, rfl, rfl, trivial⟩ trivial
  intro d
  induction d with
  | zero =>
    intro k hk σ ht hh
    refine Run.to ?_ ht hh (n' := 0)
    have hz := accT_len E k hlt hl64
    refine RunF_sound tab_ok noX_local 100 [false] _ _ rfl ?_ ?_
    · have h3 : (⟨#[125]⟩ : ByteArray).size = 1 := rfl
      simp [h3]; omega
    refine Run.retB (Ds := []) tab_ok noX_local hB1 Tryd.func51 rfl trivial (fun M => ?_)
    rw [htx, ← (show k = E.length by omega)]; rfl
  | succ d ih =>
    intro k hk σ ht hh
    refine Run.to ?_ ht hh (n' := 0)
    have hkl : k < E.length := by omega
    obtain ⟨e1, e2⟩ := hsE k hkl
    have hS : ¬ S1 ((p.getD default).add k).block := by rw [add_block]; exact hS1.new _ (hnew _ e1).1
    have hy : E[k] < 64 := hlt _ (List.getElem_mem hkl)
    have hz := accT_len E k hlt hl64
    have hnx : k = 0 → accT E (k + 1) = accT E k ++ ba (Lib.decDigits E[k]) := fun h => by subst h; exact accT_1 E hkl
    have hns := accT_s E k hkl
    generalize E[k] = y at *
    generalize accT E k = acc at *
    by_cases c0 : 0 < k
    · by_cases c1 : 10 ≤ y
      · refine RunF_sound tab_ok noX_local 100 [true, true, true] _ _ rfl ?_ ?_
        · simp only [Nat.mul_one, Int.toNat_natCast, e2]
          simp [hS, c0, fillL, Value.cells, splice, repL, maxLen, bstr_size1, sp_size, intOf]
          (repeat' refine And.intro ?_ ?_) <;> first | omega | exact e1
        refine ih (k + 1) (by omega) _ ⟨rfl, ?_, i64_eq (wrap_succ (by omega)), trivial⟩ trivial
        simp only [Nat.mul_one, Int.toNat_natCast, e2]
        refine congrArg (fun s => some (AV.v (.string s))) ?_
        show acc ++ ⟨#[32]⟩ ++ bstr [tenB y] ++ bstr [oneB y] = _
        rw [hns c0, ← dig_hi y hy c1]
        exact ByteArray.append_assoc
      · refine RunF_sound tab_ok noX_local 100 [true, true, false] _ _ rfl ?_ ?_
        · simp only [Nat.mul_one, Int.toNat_natCast, e2]
          simp [hS, c0, fillL, Value.cells, splice, repL, maxLen, bstr_size1, sp_size, intOf]
          (repeat' refine And.intro ?_ ?_) <;> first | omega | exact e1
        refine ih (k + 1) (by omega) _ ⟨rfl, ?_, i64_eq (wrap_succ (by omega)), trivial⟩ trivial
        simp only [Nat.mul_one, Int.toNat_natCast, e2]
        refine congrArg (fun s => some (AV.v (.string s))) ?_
        show acc ++ ⟨#[32]⟩ ++ bstr [oneB y] = _
        rw [hns c0, dig_lo y hy c1]
    · by_cases c1 : 10 ≤ y
      · refine RunF_sound tab_ok noX_local 100 [true, false, true] _ _ rfl ?_ ?_
        · simp only [Nat.mul_one, Int.toNat_natCast, e2]
          simp [hS, c0, fillL, Value.cells, splice, repL, maxLen, bstr_size1, intOf]
          (repeat' refine And.intro ?_ ?_) <;> first | omega | exact e1
        refine ih (k + 1) (by omega) _ ⟨rfl, ?_, i64_eq (wrap_succ (by omega)), trivial⟩ trivial
        simp only [Nat.mul_one, Int.toNat_natCast, e2]
        refine congrArg (fun s => some (AV.v (.string s))) ?_
        show acc ++ bstr [tenB y] ++ bstr [oneB y] = _
        rw [hnx (by omega), ← dig_hi y hy c1, ByteArray.append_assoc]
      · refine RunF_sound tab_ok noX_local 100 [true, false, false] _ _ rfl ?_ ?_
        · simp only [Nat.mul_one, Int.toNat_natCast, e2]
          simp [hS, c0, fillL, Value.cells, splice, repL, maxLen, bstr_size1, intOf]
          (repeat' refine And.intro ?_ ?_) <;> first | omega | exact e1
        refine ih (k + 1) (by omega) _ ⟨rfl, ?_, i64_eq (wrap_succ (by omega)), trivial⟩ trivial
        simp only [Nat.mul_one, Int.toNat_natCast, e2]
        refine congrArg (fun s => some (AV.v (.string s))) ?_
        show acc ++ bstr [oneB y] = _
        rw [hnx (by omega), dig_lo y hy c1]
theorem textR_enters : Enters Tryd.prog 51 := enters_mk Tryd.func51 (by decide) rfl
end Go.Proofs.YtpfanhbkjajocaaDoor

/-
  Are two lists of ints alike? Own work.
-/
namespace Go.Proofs.YtpfanhbkjajocaaDoor
open Go.AM
set_option maxRecDepth 100000

theorem sameInts_ok (p q : Option Addr) (c d : Nat) (xs ys : List Int) (w : World) (hx : SeesI w p xs) (hy : SeesI w q ys) (hl : xs.length ≤ maxLen) :
    Gives Tryd.prog 49 [.slice p xs.length c, .slice q ys.length d] w (.bool (decide (xs = ys))) := by
  refine Gives.of_run Tryd.func49 rfl (by show 2 ≤ 26; decide) ?_
  have hml : maxLen = 9223372036854775807 := rfl
  by_cases hlen : xs.length = ys.length
  · refine RunF_sound tab_ok noX_local 100 [false] _ _ rfl ?_ ?_
    · simp [hlen]
    suffices H : ∀ (m i : Nat), i + m = xs.length → xs.take i = ys.take i → ∀ σ, inT σ.t [(0, .v (.slice p xs.length c)), (1, .v (.slice q ys.length d)), (5, .v (.int .i64 (i : Int)))] → inT σ.h [] → Run _ _ σ by
      exact H xs.length 0 (by omega) rfl _ ⟨rfl, rfl, rfl, trivial⟩ trivial
    intro m
    induction m with
    | zero =>
      intro i hi he σ ht hh
      refine Run.to ?_ ht hh (n' := 0)
      refine RunF_sound tab_ok noX_local 100 [false] _ _ rfl ?_ ?_
      · simp; omega
      refine Run.retP tab_ok Tryd.func49 rfl trivial (fun M => ?_)
      have : xs = ys := by rw [List.take_of_length_le (by omega), List.take_of_length_le (by omega)] at he; exact he
      simp [conc, this]
    | succ m ih =>
      intro i hi he σ ht hh
      refine Run.to ?_ ht hh (n' := 0)
      have hix : i < xs.length := by omega
      have hiy : i < ys.length := by omega
      obtain ⟨hp, hpc⟩ := hx i hix
      obtain ⟨hq, hqc⟩ := hy i hiy
      refine RunF_sound tab_ok noX_local 100 [true] _ _ rfl ?_ ?_
      · simp; omega
      refine Run.drawA noX_local rfl [] [] rfl rfl trivial ?_
      refine RunOF_sound tab_ok noX_local rfl rfl 100 [] _ _ rfl ?_ ?_
      · simp only [fnC_w0, fnC_S0, Int.toNat_natCast, Nat.mul_one, hpc, hqc]
        simp
        (repeat' refine And.intro ?_ ?_) <;> first | omega | exact hp | exact hq
      refine RunO.done ?_
      simp only [fnC_w0, Int.toNat_natCast, Nat.mul_one, hpc, hqc]
      by_cases c0 : xs[i] = ys[i]
      · refine RunF_sound tab_ok noX_local 100 [false] _ _ rfl ?_ ?_
        · simp [c0]
        refine ih (i + 1) (by omega) ?_ _ ⟨rfl, rfl, i64_eq (wrap_succ (by omega)), trivial⟩ trivial
        rw [List.take_succ_eq_append_getElem hix, List.take_succ_eq_append_getElem hiy, he, c0]
      · refine RunF_sound tab_ok noX_local 100 [true] _ _ rfl ?_ ?_
        · simp [c0]
        refine Run.retP tab_ok Tryd.func49 rfl trivial (fun M => ?_)
        have : xs ≠ ys := fun e => by subst e; exact c0 rfl
        simp [conc, this]
  · refine RunF_sound tab_ok noX_local 100 [true] _ _ rfl ?_ ?_
    · simp; omega
    refine Run.retP tab_ok Tryd.func49 rfl trivial (fun M => ?_)
    have : xs ≠ ys := fun e => by subst e; exact hlen rfl
    simp [conc, this]

theorem sameInts_enters : Enters Tryd.prog 49 := enters_mk Tryd.func49 (by decide) rfl
end Go.Proofs.YtpfanhbkjajocaaDoor

/-
  SetsLists: the walk. Own work.
-/
namespace Go.Proofs.YtpfanhbkjajocaaDoor
open Go.AM
set_option maxRecDepth 100000

theorem ext_ints (w : World) (a : Addr) : ∀ (xs : List Int) (k : Nat), (∀ i (h : i < xs.length), w.cell? (a.add (k + i)) = some (.int .i64 xs[i])) → extCells w a k xs.length = encI xs
  | [], _, _ => rfl
  | e :: l, k, h => by
    have c := h 0 (by simp)
    simp only [List.getElem_cons_zero, Nat.add_zero] at c
    have ih := ext_ints w a l (k + 1) (fun i hi => by
      have := h (i + 1) (by simpa using hi)
      rw [show k + 1 + i = k + (i + 1) by omega]
      simpa using this)
    simp only [List.length_cons, extCells, c, ih]
    rfl

theorem SeesI.ext_all {w : World} {a : Addr} {xs : List Int} (h : SeesI w (some a) xs) : extCells w a 0 (xs.length * 1) = encI xs := by
  rw [Nat.mul_one]
  exact ext_ints w a xs 0 fun i hi => by rw [Nat.zero_add]; exact (h i hi).2

theorem SeesI.some_all {w : World} {a : Addr} {xs : List Int} (h : SeesI w (some a) xs) : ∀ j, j < xs.length → (w.cell? (a.add j)).isSome := by
  intro j hj
  have := (h j hj).2
  rw [show (Option.some a).getD default = a from rfl] at this
  rw [this]; rfl
theorem encI_len (l : List Int) : (encI l).length = l.length := by simp [encI]
theorem encI_one (l : List Int) : ∀ c ∈ encI l, c.oneCell' = true := fun c hc => by
  simp only [encI, List.mem_map] at hc
  obtain ⟨i, _, rfl⟩ := hc
  rfl

theorem lists_ok (xs : List Int) (x : BitVec 64) (p : Option Addr) (c : Nat) (w : World) (hT : TabAt w) (h0 : 0 < w.heap.size) (hs : SeesI w p xs) (hp : p = none → xs = [] ∧ c = 0) (hl : xs.length < maxLen) (hl2 : (xs.length + 1) * 8 ≤ 140737488355328) :
    Gives Tryd.prog 7 [.slice p xs.length c, .int .u64 (un x)] w (.bool true) := by
  refine Gives.of_run Tryd.func7 rfl (by show 2 ≤ 105; decide) ?_
  have hTA : ∀ w', Agree (fun _ => False) w w' → TabAt w' := fun w' hA => hT.agree hA (fun f => f)
  have hSA : ∀ w', Agree (fun _ => False) w w' → 0 < w'.heap.size := fun w' hA => Nat.lt_of_lt_of_le h0 hA.size
  suffices H : ∀ σ, inT σ.t [(0, .v (.slice p xs.length c)), (1, .v (.int .u64 (un x))), (5, .sl 3 1 0 (xs.length + 1)), (23, .sl 3 1 0 xs.length)] →
      inT σ.h [(3, .row 3 1 (xs.length + 1) (encI (xs ++ [99])))] → Run _ _ σ by
    cases p with
    | none =>
      obtain ⟨rfl, rfl⟩ := hp rfl
      refine RunF_sound tab_ok noX_local 200 [] _ _ rfl ?_ ?_
      · simp [fillL, Value.cells, splice, repL, maxLen, Value.oneCell']
      refine Run.toR [(3, 2)] (n' := 5) (H ⟨[(0, .v (.slice none 0 0)), (1, .v (.int .u64 (un x))), (5, .sl 3 1 0 1), (23, .sl 3 1 0 0)], [(3, .row 3 1 (0 + 1) (encI ([] ++ [99])))], 5⟩ ⟨rfl, rfl, rfl, rfl, trivial⟩ ⟨rfl, trivial⟩) ?_ ?_ rfl
      · exact ⟨rfl, rfl, rfl, rfl, trivial⟩
      · exact ⟨rfl, trivial⟩
    | some a =>
      have hx := hs.ext_all
      have hx2 := hs.some_all
      have h1 := encI_one xs
      refine RunF_sound tab_ok noX_local 200 [] _ _ rfl ?_ ?_
      · simp only [Nat.mul_one, Nat.zero_add] at hx ⊢
        simp [hx, fillL, Value.cells, splice, repL]
        exact ⟨⟨⟨hx2, by omega, by omega⟩, h1⟩, by simp [maxLen], ⟨by omega, by omega⟩, rfl⟩
      refine H _ ⟨rfl, rfl, congrArg (fun k => some (AV.sl 3 1 0 (k + 1))) (Nat.zero_add _), rfl, trivial⟩ ⟨?_, trivial⟩
      have hrowv : (List.take ((0 + xs.length) * 1) (List.take (0 * 1) ([] : List Value) ++ extCells w a 0 (xs.length * 1)) ++ encI [99]) = encI (xs ++ [99]) := by
        rw [hx]
        have : (encI xs).take ((0 + xs.length) * 1) = encI xs := List.take_of_length_le (by rw [encI_len]; omega)
        simp only [Nat.zero_mul, List.take_zero, List.nil_append, this]
        simp [encI]
      rw [← hrowv]
      exact congrArg (fun k => some (Blk.row 3 1 (k + 1) _)) (Nat.zero_add _)
  intro σ ht hh
  refine Run.to ?_ ht hh (n' := 4)
  have hml : maxLen = 9223372036854775807 := rfl
  have hgo : ∀ {M : AM.Loc} {w' : World}, BlkAt M w' 3 (.row 3 1 (xs.length + 1) (encI (xs ++ [99]))) → SeesI w' (some ⟨(M 3).1, 0, none⟩) xs := fun hb i hi => by
    have := row_cells hb i (.int .i64 xs[i]) (by simp only [encI, List.map_append]; rw [List.getElem?_append_left (by simpa using hi)]; simp [hi])
    refine ⟨rfl, ?_⟩
    rw [Option.getD_some, Addr.add_lit]
    exact this
  refine Run.callM (r := ofSV (ofS xs 0#64)) noX_local rfl rfl rfl rfl rfl rfl of_enters rfl (fun M w' hM _ => ?_) ?_
  · have := of_ok (some ⟨(M 3).1, 0, none⟩) (M 3).2 xs w' (hgo (hM 3 _ rfl)) (by omega)
    show Gives Tryd.prog _ _ _ _
    simpa [concL, conc] using this
  refine RunF_sound tab_ok noX_local 200 [] _ _ rfl ?_ ?_
  · simp
  refine Run.callFn (r := ofSV (ofS xs 0#64)) noX_local rfl rfl rfl rfl rfl rfl rfl ofR_enters rfl (fun w' hA => ofR_ok p c xs w' (hs.agree hA (fun _ _ h => h)) (by omega)) ?_
  generalize hR : ofS xs 0#64 = R
  obtain ⟨R1, R2⟩ := R
  refine RunF_sound tab_ok noX_local 200 [] _ _ rfl ?_ ?_
  · simp
  refine Run.to (t' := [(0, .v (.slice p xs.length c)), (1, .v (.int .u64 (un x))), (5, .sl 3 1 0 (xs.length + 1)), (6, .v (.int .u64 (un R1))), (7, .v (.int .i64 R2)), (8, .v (.int .u64 (un R1))), (9, .v (.int .i64 R2)), (32, .v (.int .u64 (un x)))]) (h' := [(3, .row 3 1 (xs.length + 1) (encI (xs ++ [99])))]) (n' := 4) ?_ ⟨rfl, rfl, rfl, rfl, rfl, rfl, rfl, rfl, trivial⟩ ⟨rfl, trivial⟩
  refine Run.callH noX_local (.sl 4 1 0 (listL x).length) [(4, .row 3 1 (listL x).length (encI (listL x)))] 5 rfl rfl rfl rfl rfl rfl listS_enters rfl rfl rfl rfl rfl (fun M w' _ hA => (listS_ok x w' (hTA w' hA) (hSA w' hA)).to [(4, 9)] rfl ⟨rfl, trivial⟩ rfl) ?_
  refine RunF_sound tab_ok noX_local 200 [] _ _ rfl ?_ ?_
  · simp
  refine Run.to (t' := [(0, .v (.slice p xs.length c)), (1, .v (.int .u64 (un x))), (5, .sl 3 1 0 (xs.length + 1)), (6, .v (.int .u64 (un R1))), (7, .v (.int .i64 R2)), (8, .v (.int .u64 (un R1))), (9, .v (.int .i64 R2)), (33, .sl 4 1 0 (listL x).length), (34, .v (.int .u64 (un x)))]) (h' := [(4, .row 3 1 (listL x).length (encI (listL x))), (3, .row 3 1 (xs.length + 1) (encI (xs ++ [99])))]) (n' := 5) ?_ ⟨rfl, rfl, rfl, rfl, rfl, rfl, rfl, rfl, rfl, trivial⟩ ⟨rfl, rfl, trivial⟩
  refine Run.callH noX_local (.sl 5 1 0 (listL x).length) [(5, .row 3 1 (listL x).length (encI (listL x)))] 6 rfl rfl rfl rfl rfl rfl listS_enters rfl rfl rfl rfl rfl (fun M w' _ hA => (listS_ok x w' (hTA w' hA) (hSA w' hA)).to [(5, 9)] rfl ⟨rfl, trivial⟩ rfl) ?_
  refine RunF_sound tab_ok noX_local 200 [] _ _ rfl ?_ ?_
  · simp
  refine Run.to (t' := [(0, .v (.slice p xs.length c)), (1, .v (.int .u64 (un x))), (5, .sl 3 1 0 (xs.length + 1)), (6, .v (.int .u64 (un R1))), (7, .v (.int .i64 R2)), (8, .v (.int .u64 (un R1))), (9, .v (.int .i64 R2)), (10, .sl 4 1 0 (listL x).length), (11, .sl 5 1 0 (listL x).length), (36, .v (.int .u64 (un x)))]) (h' := [(5, .row 3 1 (listL x).length (encI (listL x))), (4, .row 3 1 (listL x).length (encI (listL x))), (3, .row 3 1 (xs.length + 1) (encI (xs ++ [99])))]) (n' := 6) ?_ ⟨rfl, rfl, rfl, rfl, rfl, rfl, rfl, rfl, rfl, rfl, trivial⟩ ⟨rfl, rfl, rfl, trivial⟩
  refine Run.callR noX_local rfl rfl rfl rfl rfl rfl listR_enters rfl (fun M w' _ _ => listR_ok x w') ?_
  rintro v w2 w1 S1 hag hag2 ⟨q, d, rfl, hd, hs2, hnew⟩ hS1
  have hB1 := (Based.refl w).call hag hag2 hS1
  have hS10 : ¬ S1 0 := fun h => by have := hB1.new 0 h; omega
  have hT1 : TabAt w1 := hT.agree hB1.agree (fun f => f)
  have hw1 : 0 < w1.heap.size := by have := hB1.agree.size; omega
  refine ⟨.v (.slice q (listL x).length d), fun M => rfl, ?_⟩
  have hLle := listL_le x
  have htx := text_ok x
  have htxr := textR_ok x
  generalize textS x = tx at htx htxr
  generalize listL x = L at *
  refine RunF_sound tab_ok noX_local 200 [false, false] _ _ rfl ?_ ?_
  · simp
  have hold : ∀ {S : Nat → Prop} {w'}, Agree S w1 w' → (∀ b, b < w.heap.size → ¬ S b) → SeesI w' p xs := fun hA hS i hi => by
    obtain ⟨e1, e2⟩ := hs i hi
    exact ⟨e1, hA.cell (hB1.agree.cell e2 (fun f => f)) (hS _ (World.block_lt_of_cell? _ _ e2))⟩
  refine Run.callM (r := .bool true) noX_local rfl rfl rfl rfl rfl rfl sameInts_enters rfl (fun M w' hM hA => ?_) ?_
  · have := sameInts_ok (some ⟨(M 4).1, 0, none⟩) q ((M 4).2 - 0) d L L w' (seesI_row (hM 4 _ rfl)) (hs2.agree hA (fun a ha => hS1.new _ (hnew a ha).1)) (by omega)
    show Gives Tryd.prog _ _ _ _
    simpa [concL, conc] using this
  refine RunF_sound tab_ok noX_local 200 [false] _ _ rfl ?_ ?_
  · simp
  refine Run.callM (r := .bool true) noX_local rfl rfl rfl rfl rfl rfl sameInts_enters rfl (fun M w' hM hA => ?_) ?_
  · have h5 : BlkAt M w' 5 (.row 3 1 L.length (encI L)) := hM 5 _ rfl
    have := sameInts_ok (some ⟨(M 5).1, 0, none⟩) q ((M 5).2 - 0) d L L w' (seesI_row h5) (hs2.agree hA (fun a ha => hS1.new _ (hnew a ha).1)) (by omega)
    show Gives Tryd.prog _ _ _ _
    simpa [concL, conc] using this
  refine RunF_sound tab_ok noX_local 200 [false] _ _ rfl ?_ ?_
  · simp
  refine Run.callFn (r := .string tx) noX_local rfl rfl rfl rfl rfl rfl rfl text_enters rfl (fun w' hA => htx w' (hT1.agree hA hS10) (Nat.lt_of_lt_of_le hw1 hA.size)) ?_
  refine RunF_sound tab_ok noX_local 200 [] _ _ rfl ?_ ?_
  · simp
  refine Run.callFn (r := .string tx) noX_local rfl rfl rfl rfl rfl rfl rfl textR_enters rfl (fun w' hA => htxr w') ?_
  refine RunF_sound tab_ok noX_local 200 [false] _ _ rfl ?_ ?_
  · simp
  refine Run.callM (r := .bool true) noX_local rfl rfl rfl rfl rfl rfl sameInts_enters rfl (fun M w' hM hA => ?_) ?_
  · have h3 : BlkAt M w' 3 (.row 3 1 (xs.length + 1) (encI (xs ++ [99]))) := hM 3 _ rfl
    have := sameInts_ok (some ⟨(M 3).1, 0, none⟩) p (M 3).2 c xs xs w' (hgo h3) (hold hA fun b hb h => by have := hB1.new b h; omega) (by omega)
    show Gives Tryd.prog _ _ _ _
    simpa [concL, conc] using this
  have hget : (encI (xs ++ [99]))[xs.length]? = some (.int .i64 99) := by simp [encI]
  have hint : intAt (encI (xs ++ [99])) xs.length = 99 := by unfold intAt; rw [hget]
  refine RunF_sound tab_ok noX_local 200 [false, false] _ _ rfl ?_ ?_
  · simp [hget, hint]
    try omega
  suffices H : ∀ (m k : Nat) (l : List Int), k + m = L.length → l.length = L.length → ∀ σ, inT σ.t [(10, .sl 4 1 0 L.length), (11, .sl 5 1 0 L.length), (12, .v (.slice q L.length d)), (13, .v (.int .i64 (k : Int)))] → inT σ.h [(4, .row 3 1 L.length (encI l)), (5, .row 3 1 L.length (encI L))] → Run _ _ σ by
    exact H L.length 0 L (by omega) rfl _ ⟨rfl, rfl, rfl, rfl, trivial⟩ ⟨rfl, rfl, trivial⟩
  intro m
  induction m with
  | zero =>
    intro k l hk hll σ ht hh
    refine Run.to ?_ ht hh (n' := 6)
    refine RunF_sound tab_ok noX_local 200 [false] _ _ rfl ?_ ?_
    · simp [fillL, Value.cells, splice, repL]
      exact ⟨by omega, by omega, ⟨by omega, by omega⟩, rfl⟩
    refine Run.callM (r := .bool true) noX_local rfl rfl rfl rfl rfl rfl sameInts_enters rfl (fun M w' hM hA => ?_) ?_
    · have h5 : BlkAt M w' 5 (.row 3 1 L.length (encI L)) := hM 5 _ rfl
      have := sameInts_ok (some ⟨(M 5).1, 0, none⟩) q ((M 5).2 - 0) d L L w' (seesI_row h5) (hs2.agree hA (fun a ha => hS1.new _ (hnew a ha).1)) (by omega)
      show Gives Tryd.prog _ _ _ _
      simpa [concL, conc] using this
    refine RunF_sound tab_ok noX_local 200 [true] _ _ rfl ?_ ?_
    · simp
    refine Run.retB (Ds := []) tab_ok noX_local hB1 Tryd.func7 rfl trivial (fun M => ?_)
    rw [wrap_succ (by omega)]
    simp [resAV, conc]
  | succ m ih =>
    intro k l hk hll σ ht hh
    refine Run.to ?_ ht hh (n' := 6)
    have hkl : k < L.length := by omega
    refine RunF_sound tab_ok noX_local 200 [true] _ _ rfl ?_ ?_
    · simp
      exact ⟨hkl, rfl, by rw [encI_len]; omega⟩
    refine ih (k + 1) (l.set k (-5)) (by omega) (by simp [hll]) _ ⟨rfl, rfl, rfl, i64_eq (wrap_succ (by omega)), trivial⟩ ⟨?_, rfl, trivial⟩
    show some (Blk.row 3 1 L.length ((encI l).set ((0 + k) * 1) (.int .i64 (-5)))) = _
    rw [Nat.zero_add, Nat.mul_one, encI, encI, List.map_set]
end Go.Proofs.YtpfanhbkjajocaaDoor

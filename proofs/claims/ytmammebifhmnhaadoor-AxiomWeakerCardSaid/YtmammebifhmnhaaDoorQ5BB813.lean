/-
  Own work, merged: Q3, Q4, Q5, AM29, AM30, Q6, Q7, Q8, AM31, Q9, Q10, Q11, Q12.
-/
import Derived.AtR
import Derived.Below
import Derived.ChangeKeysEq
import Derived.KernelRfl
import Derived.Laws.AppendOwn
import Derived.Laws.BytesString
import Derived.Laws.Cells
import Derived.Laws.CopyRow
import Derived.Laws.Entries
import Derived.Laws.Rows
import Derived.Laws.Small
import Derived.Laws.StructEq
import Derived.Lib.TrailingZeros
import Derived.Maps.AppendAt
import Derived.Orders
import Derived.RangeFuncRecord
import Derived.Test.YtmammebifhmnhaaDoorProg
import Derived.Test.YtmammebifhmnhaaDoorQF3D1D1
/-
  What is read of a world. Own work.
-/
namespace Go.Proofs.YtmammebifhmnhaaDoor
open Go.AM
set_option maxRecDepth 100000

def WoAt (w : World) (b : Nat) (W : Wo) : Prop := ∀ j v, (woV W)[j]? = some v → w.cell? ⟨b, j, none⟩ = some v
theorem WoAt.agree {S : Nat → Prop} {w w' : World} {b : Nat} {W : Wo} (h : WoAt w b W) (hA : Agree S w w') (hS : ¬ S b) : WoAt w' b W := fun j v hv => hA.cell (h j v hv) hS
theorem woAt_blk {M : AM.Loc} {w : World} {id e : Nat} {W : Wo} (hb : BlkAt M w id (.cells e [.vals 262 (woV W)])) : WoAt w (M id).1 W := fun j v hv => by
  have h := hb.1
  simp [World.cell?, h, concSegs, hv]

theorem WoAt.at {w : World} {b : Nat} {W : Wo} (h : WoAt w b W) (j : Nat) {v : Value} (hv : (woV W)[j]? = some v) : w.cell? ((⟨b, 0, none⟩ : Addr).add j) = some v := by
  rw [Addr.add_lit, Nat.zero_add]; exact h j v hv
theorem ext_cells (w : World) (a : Addr) : ∀ (d i : Nat) (l : List Value), l.length = d → (∀ j v, l[j]? = some v → w.cell? (a.add (i + j)) = some v) → extCells w a i d = l
  | 0, i, l, hl, _ => by rw [List.length_eq_zero_iff.1 hl]; rfl
  | d + 1, i, [], hl, _ => by simp at hl
  | d + 1, i, v :: l, hl, hv => by
    have h1 := hv 0 v rfl
    rw [Nat.add_zero] at h1
    have h2 := ext_cells w a d (i + 1) l (by simpa using hl) (fun j u hu => by
      have := hv (j + 1) u (by simpa using hu)
      rw [show i + 1 + j = i + (j + 1) by omega]; exact this)
    simp only [extCells, h1, h2]

theorem wof_ok (W : Wo) (b : Nat) (k : Int) (w : World) (hW : WoAt w b W) (hs : SeesV w W.pe W.ev) :
    Gives Tryd.prog 54 [.pointer (some ⟨b, 0, none⟩), .int .i64 k] w (.int .u64 (un (thoseL (fun e => decide (e.kind = k)) W.ev))) := by
  refine Gives.of_run Tryd.func54 rfl (by show 2 ≤ 11; decide) ?_
  have h0 : w.cell? ((⟨b, 0, none⟩ : Addr).add 0) = some (.slice W.pe W.ev.length W.ce) := hW.at 0 rfl
  refine RunF_sound tab_ok noX_local 100 [] _ _ rfl ?_ ?_
  · simp [h0]
  simp only [fnC_w0, h0, slOf_slice]
  refine Run.callFn noX_local rfl rfl rfl rfl rfl rfl rfl of_enters rfl (fun w' hA => of_ok W.pe W.ce W.ev k w' (hs.agree hA (fun _ _ h => h))) ?_
  refine RunF_sound tab_ok noX_local 100 [] _ _ rfl ?_ ?_
  · simp
  exact Run.retP tab_ok Tryd.func54 rfl trivial (fun M => rfl)
theorem wof_enters : Enters Tryd.prog 54 := enters_mk Tryd.func54 (by decide) rfl

/-- Named relations, as they lie in a world. -/
def nmV (e : ByteArray × Rl) : List Value := .string e.1 :: relV e.2
theorem nmV_len (e : ByteArray × Rl) : (nmV e).length = 66 := by simp [nmV]
theorem nmV_one (e : ByteArray × Rl) : ∀ c ∈ nmV e, c.oneCell' = true := fun c hc => by
  rcases List.mem_cons.1 hc with rfl | h
  · rfl
  · exact (relV_one' _).2 trivial c h
def encNm (l : List (ByteArray × Rl)) : List Value := l.flatMap nmV
def SeesNm (w : World) (p : Option Addr) (l : List (ByteArray × Rl)) : Prop :=
  ∀ i (h : i < l.length), p = some (p.getD default) ∧ ∀ j v, (nmV l[i])[j]? = some v → w.cell? (((p.getD default).add (i * 66)).add j) = some v
theorem SeesNm.agree {S : Nat → Prop} {w w' : World} {p : Option Addr} {l : List (ByteArray × Rl)} (h : SeesNm w p l) (hA : Agree S w w') (hS : ∀ a, p = some a → ¬ S a.block) : SeesNm w' p l := fun i hi => by
  obtain ⟨h1, h2⟩ := h i hi
  exact ⟨h1, fun j v hv => hA.cell (h2 j v hv) (by rw [add_block, add_block]; exact hS _ h1)⟩
noncomputable def uniF (R : Rl) (l : List Rl) : Rl := l.foldl uniL R

set_option maxHeartbeats 1000000 in
theorem tog_ok (W : Wo) (b : Nat) (p : Option Addr) (c : Nat) (l : List (ByteArray × Rl)) (w : World) (hW : WoAt w b W) (hs : SeesNm w p l) (hl : l.length ≤ 64) :
    Gives Tryd.prog 23 [.pointer (some ⟨b, 0, none⟩), .slice p l.length c] w (encRel (uniF (Rl.void W.p.n) (l.map (·.2)))) := by
  refine Gives.of_run Tryd.func23 rfl (by show 2 ≤ 26; decide) ?_
  have h1 : w.cell? (((⟨b, 0, none⟩ : Addr).add 1).add 0) = some (.int .i64 W.p.n) := by rw [add_add]; exact hW.at 1 (by simp [woV, relV])
  refine RunF_sound tab_ok noX_local 100 [] _ _ rfl ?_ ?_
  · simp [h1, relV_tail_one, fillL, Value.cells, splice, segsVals]
  suffices H : ∀ (d i : Nat), i + d = l.length → ∀ σ, inT σ.t [(4, .ptr 0 0), (5, .ptr 1 0), (14, .v (.slice p l.length c)), (15, .v (.int .i64 (l.length : Int))), (16, .v (.int .i64 (i : Int)))] →
      inT σ.h [(0, .cells 34 [.vals 65 (relV (Rl.void 0))]), (1, .cells 34 [.vals 65 (relV (uniF (Rl.void W.p.n) ((l.take i).map (·.2))))])] → Run _ _ σ by
    refine H l.length 0 (by omega) _ ⟨rfl, rfl, rfl, rfl, rfl, trivial⟩ ⟨rfl, ?_, trivial⟩
    have e0 : ∀ z : Int, z = W.p.n → some (Blk.cells 34 [.vals 65 (relV (Rl.void z))]) = some (Blk.cells 34 [.vals 65 (relV (uniF (Rl.void W.p.n) ((l.take 0).map (·.2))))]) := fun z hz => by rw [hz]; rfl
    refine (?_ : _ = some (Blk.cells 34 [.vals 65 (relV (Rl.void (match w.cell? (((⟨b, 0, none⟩ : Addr).add 1).add 0) with | some (.int _ n) => n | _ => 0)))])).trans (e0 _ (by rw [h1]))
    rfl
  intro d
  induction d with
  | zero =>
    intro i hi σ ht hh
    refine Run.to ?_ ht hh (n' := 2)
    refine RunF_sound tab_ok noX_local 100 [false] _ _ rfl ?_ ?_
    · simp [relV_one', segsVals]; omega
    refine Run.retP tab_ok Tryd.func23 rfl ?_ (fun M => ?_)
    · simp
    rw [List.take_of_length_le (by omega)]; rfl
  | succ d ih =>
    intro i hi σ ht hh
    have hil : i < l.length := by omega
    obtain ⟨e1, e2⟩ := hs i hil
    have hx : extCells w ((p.getD default).add (i * 66)) 0 66 = nmV l[i] := ext_cells w _ 66 0 _ (nmV_len _) (fun j v hv => by rw [Nat.zero_add]; exact e2 j v hv)
    have hsm : ∀ j, j < 66 → (w.cell? (((p.getD default).add (i * 66)).add j)).isSome := fun j hj => by
      have hj' : j < (nmV l[i]).length := by rw [nmV_len]; exact hj
      rw [e2 j _ (List.getElem?_eq_getElem hj')]; rfl
    have htk : uniF (Rl.void W.p.n) ((l.take (i + 1)).map (·.2)) = uniL (uniF (Rl.void W.p.n) ((l.take i).map (·.2))) l[i].2 := by
      rw [List.take_succ_eq_append_getElem hil, List.map_append, uniF, List.foldl_append]; rfl
    generalize uniF (Rl.void W.p.n) ((l.take i).map (·.2)) = A at *
    refine Run.to ?_ ht hh (n' := 2)
    refine RunF_sound tab_ok noX_local 100 [true] _ _ rfl ?_ ?_
    · simp only [fnC_w0, fnC_S0, Nat.zero_add, Int.toNat_natCast, hx]
      simp [segsVals, nmV_len]
      exact ⟨hil, ⟨e1, hil⟩, hsm, rfl, nmV_one _, rfl⟩
    refine Run.callFn (r := encRel (uniL A l[i].2)) noX_local rfl rfl rfl rfl rfl rfl rfl union_enters rfl (fun w' _ => ?_) ?_
    · simp only [fnC_w0, Nat.zero_add, Int.toNat_natCast, hx]
      have e3 : ((nmV l[i]).drop (1 - 0)).take 65 = relV l[i].2 := by
        simp [nmV]
        exact List.take_of_length_le (by simp)
      rw [e3]
      exact union_ok A _ w'
    have ih' := ih (i + 1) (by omega)
    rw [htk] at ih'
    generalize uniL A l[i].2 = B at *
    refine RunF_sound tab_ok noX_local 100 [] _ _ rfl ?_ ?_
    · simp [relV_one', segsVals]
    exact ih' _ ⟨rfl, rfl, rfl, rfl, i64_eq (wrap_succ (by omega)), trivial⟩ ⟨rfl, rfl, trivial⟩
theorem tog_enters : Enters Tryd.prog 23 := enters_mk Tryd.func23 (by decide) rfl

/-- Relations, as they lie in a world. -/
def encRls (l : List Rl) : List Value := l.flatMap relV
def SeesRl (w : World) (p : Option Addr) (l : List Rl) : Prop :=
  ∀ i (h : i < l.length), p = some (p.getD default) ∧ ∀ j v, (relV l[i])[j]? = some v → w.cell? (((p.getD default).add (i * 65)).add j) = some v

set_option maxHeartbeats 1000000 in
theorem uni3_ok (W : Wo) (b : Nat) (p : Option Addr) (c : Nat) (l : List Rl) (w : World) (hW : WoAt w b W) (hs : SeesRl w p l) (hl : l.length ≤ 64) :
    Gives Tryd.prog 112 [.pointer (some ⟨b, 0, none⟩), .slice p l.length c] w (encRel (uniF (Rl.void W.p.n) l)) := by
  refine Gives.of_run Tryd.func112 rfl (by show 2 ≤ 25; decide) ?_
  have h1 : w.cell? (((⟨b, 0, none⟩ : Addr).add 1).add 0) = some (.int .i64 W.p.n) := by rw [add_add]; exact hW.at 1 (by simp [woV, relV])
  refine RunF_sound tab_ok noX_local 100 [] _ _ rfl ?_ ?_
  · simp [h1, relV_tail_one, fillL, Value.cells, splice, segsVals]
  suffices H : ∀ (d i : Nat), i + d = l.length → ∀ σ, inT σ.t [(4, .ptr 0 0), (5, .ptr 1 0), (14, .v (.slice p l.length c)), (15, .v (.int .i64 (l.length : Int))), (16, .v (.int .i64 (i : Int)))] →
      inT σ.h [(0, .cells 34 [.vals 65 (relV (Rl.void 0))]), (1, .cells 34 [.vals 65 (relV (uniF (Rl.void W.p.n) (l.take i)))])] → Run _ _ σ by
    refine H l.length 0 (by omega) _ ⟨rfl, rfl, rfl, rfl, rfl, trivial⟩ ⟨rfl, ?_, trivial⟩
    have e0 : ∀ z : Int, z = W.p.n → some (Blk.cells 34 [.vals 65 (relV (Rl.void z))]) = some (Blk.cells 34 [.vals 65 (relV (uniF (Rl.void W.p.n) (l.take 0)))]) := fun z hz => by rw [hz]; rfl
    refine (?_ : _ = some (Blk.cells 34 [.vals 65 (relV (Rl.void (match w.cell? (((⟨b, 0, none⟩ : Addr).add 1).add 0) with | some (.int _ n) => n | _ => 0)))])).trans (e0 _ (by rw [h1]))
    rfl
  intro d
  induction d with
  | zero =>
    intro i hi σ ht hh
    refine Run.to ?_ ht hh (n' := 2)
    refine RunF_sound tab_ok noX_local 100 [false] _ _ rfl ?_ ?_
    · simp [relV_one', segsVals]; omega
    refine Run.retP tab_ok Tryd.func112 rfl ?_ (fun M => ?_)
    · simp
    rw [List.take_of_length_le (by omega)]; rfl
  | succ d ih =>
    intro i hi σ ht hh
    have hil : i < l.length := by omega
    obtain ⟨e1, e2⟩ := hs i hil
    have hx : extCells w ((p.getD default).add (i * 65)) 0 65 = relV l[i] := ext_cells w _ 65 0 _ (relV_length _) (fun j v hv => by rw [Nat.zero_add]; exact e2 j v hv)
    have hsm : ∀ j, j < 65 → (w.cell? (((p.getD default).add (i * 65)).add j)).isSome := fun j hj => by
      have hj' : j < (relV l[i]).length := by rw [relV_length]; exact hj
      rw [e2 j _ (List.getElem?_eq_getElem hj')]; rfl
    have htk : uniF (Rl.void W.p.n) (l.take (i + 1)) = uniL (uniF (Rl.void W.p.n) (l.take i)) l[i] := by
      rw [List.take_succ_eq_append_getElem hil, uniF, List.foldl_append]; rfl
    generalize uniF (Rl.void W.p.n) (l.take i) = A at *
    refine Run.to ?_ ht hh (n' := 2)
    refine RunF_sound tab_ok noX_local 100 [true] _ _ rfl ?_ ?_
    · simp only [fnC_w0, fnC_S0, Int.toNat_natCast, hx]
      simp [relV_one', segsVals, relV_length]
      (repeat' refine And.intro ?_ ?_) <;> first | exact hil | exact e1 | exact hsm | rfl
    refine Run.callFn (r := encRel (uniL A l[i])) noX_local rfl rfl rfl rfl rfl rfl rfl union_enters rfl (fun w' _ => ?_) ?_
    · simp only [fnC_w0, Int.toNat_natCast, hx]
      exact union_ok A _ w'
    have ih' := ih (i + 1) (by omega)
    rw [htk] at ih'
    generalize uniL A l[i] = B at *
    refine RunF_sound tab_ok noX_local 100 [] _ _ rfl ?_ ?_
    · simp [relV_one', segsVals]
    exact ih' _ ⟨rfl, rfl, rfl, rfl, i64_eq (wrap_succ (by omega)), trivial⟩ ⟨rfl, rfl, trivial⟩
theorem uni3_enters : Enters Tryd.prog 112 := enters_mk Tryd.func112 (by decide) rfl
end Go.Proofs.YtmammebifhmnhaaDoor

/-
  The named relations that go location by location. Own work.
-/
namespace Go.Proofs.YtmammebifhmnhaaDoor
open Go.AM
set_option maxRecDepth 100000

theorem build_nm (s : ByteArray) (R : Rl) : evBuild tab 98 [(0, .string s), (1, encRel R)] = some (True, .v (.agg (nmV (s, R)).toArray)) := by
  refine congrArg some (Prod.ext (propext ⟨fun _ => trivial, fun _ => ?_⟩) ?_)
  · simp [fillL, splice, Value.cells, encRel, show tab.size 34 = some 65 from rfl, show tab.size 9 = some 1 from rfl, show z98.length = 66 from rfl]
  · simp [fillL, splice, Value.cells, encRel, show tab.size 34 = some 65 from rfl, show tab.size 9 = some 1 from rfl, show z98.length = 66 from rfl]
    simp [List.drop_of_length_le, nmV, show z98.length = 66 from rfl]

theorem sz98 : z98.length = 66 := rfl
def nPo : ByteArray := ⟨#[112, 111]⟩
def nRf : ByteArray := ⟨#[114, 102]⟩
def nCo : ByteArray := ⟨#[99, 111]⟩
def nFr : ByteArray := ⟨#[102, 114]⟩

/-- The four relations of a world, as they are loaded. -/
theorem WoAt.rel1 {w : World} {b : Nat} {W : Wo} (h : WoAt w b W) : extCells w ((⟨b, 0, none⟩ : Addr).add 1) 0 65 = relV W.p :=
  ext_cells w _ 65 0 _ (relV_length _) fun j v hv => by rw [add_add, Nat.zero_add]; exact h.at (1 + j) (by rw [woV, Nat.add_comm, List.getElem?_cons_succ, List.getElem?_append_left (List.getElem?_eq_some_iff.1 hv).1]; exact hv)
theorem WoAt.rel2 {w : World} {b : Nat} {W : Wo} (h : WoAt w b W) : extCells w ((⟨b, 0, none⟩ : Addr).add 66) 0 65 = relV W.r :=
  ext_cells w _ 65 0 _ (relV_length _) fun j v hv => by
    have hj : j < 65 := by have := (List.getElem?_eq_some_iff.1 hv).1; simpa using this
    rw [add_add, Nat.zero_add]
    refine h.at (66 + j) ?_
    rw [woV, show 66 + j = (65 + j) + 1 by omega, List.getElem?_cons_succ, List.getElem?_append_right (by simp), relV_length, Nat.add_sub_cancel_left, List.getElem?_append_left (by simpa using hj)]
    exact hv
theorem WoAt.rel3 {w : World} {b : Nat} {W : Wo} (h : WoAt w b W) : extCells w ((⟨b, 0, none⟩ : Addr).add 131) 0 65 = relV W.c :=
  ext_cells w _ 65 0 _ (relV_length _) fun j v hv => by
    have hj : j < 65 := by have := (List.getElem?_eq_some_iff.1 hv).1; simpa using this
    rw [add_add, Nat.zero_add]
    refine h.at (131 + j) ?_
    rw [woV, show 131 + j = (65 + (65 + j)) + 1 by omega, List.getElem?_cons_succ, List.getElem?_append_right (by simp), relV_length, Nat.add_sub_cancel_left, List.getElem?_append_right (by simp), relV_length, Nat.add_sub_cancel_left, List.getElem?_append_left (by simpa using hj)]
    exact hv
theorem WoAt.rel4 {w : World} {b : Nat} {W : Wo} (h : WoAt w b W) : extCells w ((⟨b, 0, none⟩ : Addr).add 196) 0 65 = relV W.f :=
  ext_cells w _ 65 0 _ (relV_length _) fun j v hv => by
    have hj : j < 65 := by have := (List.getElem?_eq_some_iff.1 hv).1; simpa using this
    rw [add_add, Nat.zero_add]
    refine h.at (196 + j) ?_
    rw [woV, show 196 + j = (65 + (65 + (65 + j))) + 1 by omega, List.getElem?_cons_succ, List.getElem?_append_right (by simp), relV_length, Nat.add_sub_cancel_left, List.getElem?_append_right (by simp), relV_length, Nat.add_sub_cancel_left, List.getElem?_append_right (by simp), relV_length, Nat.add_sub_cancel_left, List.getElem?_append_left (by simpa using hj)]
    exact hv
theorem WoAt.some {w : World} {b : Nat} {W : Wo} (h : WoAt w b W) {o d : Nat} (ho : o + d ≤ 262) : ∀ j, j < d → (w.cell? (((⟨b, 0, none⟩ : Addr).add o).add j)).isSome := fun j hj => by
  have hlt : o + j < (woV W).length := by rw [woV_len]; omega
  rw [add_add, h.at (o + j) (List.getElem?_eq_getElem hlt)]; rfl
theorem WoAt.mem {w : World} {b : Nat} {W : Wo} (h : WoAt w b W) : w.cell? ((⟨b, 0, none⟩ : Addr).add 261) = Option.some (.int .u64 (un W.m)) := h.at 261 (by
  rw [woV, List.getElem?_cons_succ]
  simp)
theorem WoAt.evs {w : World} {b : Nat} {W : Wo} (h : WoAt w b W) : w.cell? ((⟨b, 0, none⟩ : Addr).add 0) = Option.some (.slice W.pe W.ev.length W.ce) := h.at 0 rfl

def upL (W : Wo) (L : Rl) : List (ByteArray × Rl) := [(nPo, L), (nRf, W.r), (nCo, W.c), (nFr, W.f)]

set_option maxHeartbeats 1000000 in
theorem uniproc_ok (W : Wo) (b : Nat) (w : World) (hW : WoAt w b W) (hs : SeesV w W.pe W.ev) :
    HandsZ Tryd.prog 27 [.pointer (some ⟨b, 0, none⟩)] w (.sl 0 66 0 4) [(0, .row 98 66 4 (encNm (upL W (meetL W.p (standsL 2 W.ev)))))] := by
  refine HandsZ.of_run Tryd.func27 rfl (by show 1 ≤ 30; decide) ?_
  have r1 := hW.rel1; have r2 := hW.rel2; have r3 := hW.rel3; have r4 := hW.rel4; have ee := hW.evs; have mm := hW.mem
  have i1 := hW.some (o := 1) (d := 65) (by decide); have i2 := hW.some (o := 66) (d := 65) (by decide); have i3 := hW.some (o := 131) (d := 65) (by decide); have i4 := hW.some (o := 196) (d := 65) (by decide)
  have hev : ∀ {w'}, Agree (fun _ => False) w w' → SeesV w' W.pe W.ev := fun hA => hs.agree hA (fun _ _ h => h)
  have hWA : ∀ {w'}, Agree (fun _ => False) w w' → WoAt w' b W := fun hA => hW.agree hA (fun h => h)
  refine RunF_sound tab_ok noX_local 100 [] _ _ rfl ?_ ?_
  · simp
  refine Run.drawA noX_local rfl [] [] rfl rfl trivial ?_
  refine RunOF_sound tab_ok noX_local rfl rfl 100 [] _ _ rfl ?_ ?_
  · simp [ee] <;> ((repeat' refine And.intro ?_ ?_) <;> first | exact i1 | exact i2 | exact i3 | exact i4 | rfl)
  try simp only [fnC_w0, ee, slOf_slice, r1, r2]
  refine RunO.build (p := True) (z := .v (.agg (nmV (nRf, W.r)).toArray)) tab_ok rfl rfl rfl rfl (build_nm nRf (W.r)) rfl rfl trivial ?_
  refine RunOF_sound tab_ok noX_local rfl rfl 100 [] _ _ rfl ?_ ?_
  · simp <;> ((repeat' refine And.intro ?_ ?_) <;> first | exact i1 | exact i2 | exact i3 | exact i4 | rfl)
  try simp only [fnC_w0, r3]
  refine RunO.build (p := True) (z := .v (.agg (nmV (nCo, W.c)).toArray)) tab_ok rfl rfl rfl rfl (build_nm nCo (W.c)) rfl rfl trivial ?_
  refine RunOF_sound tab_ok noX_local rfl rfl 100 [] _ _ rfl ?_ ?_
  · simp <;> ((repeat' refine And.intro ?_ ?_) <;> first | exact i1 | exact i2 | exact i3 | exact i4 | rfl)
  try simp only [fnC_w0, r4]
  refine RunO.build (p := True) (z := .v (.agg (nmV (nFr, W.f)).toArray)) tab_ok rfl rfl rfl rfl (build_nm nFr (W.f)) rfl rfl trivial ?_
  refine RunOF_sound tab_ok noX_local rfl rfl 100 [] _ _ rfl ?_ ?_
  · simp <;> ((repeat' refine And.intro ?_ ?_) <;> first | exact i1 | exact i2 | exact i3 | exact i4 | rfl)
  try simp only []
  refine RunO.callFn (r := encRel (standsL 2 W.ev)) noX_local rfl rfl rfl rfl rfl rfl rfl rfl loc_enters rfl (fun w' hA => by have := loc_ok W.pe W.ce W.ev w' (hev hA); rw [eqLoc] at this; exact this) ?_
  refine RunOF_sound tab_ok noX_local rfl rfl 100 [] _ _ rfl ?_ ?_
  · simp <;> ((repeat' refine And.intro ?_ ?_) <;> first | exact i1 | exact i2 | exact i3 | exact i4 | rfl)
  try simp only []
  refine RunO.callFn (r := encRel (meetL W.p (standsL 2 W.ev))) noX_local rfl rfl rfl rfl rfl rfl rfl rfl meet_enters rfl (fun w' hA => meet_ok _ _ w') ?_
  generalize meetL W.p (standsL 2 W.ev) = L
  refine RunOF_sound tab_ok noX_local rfl rfl 100 [] _ _ rfl ?_ ?_
  · simp <;> ((repeat' refine And.intro ?_ ?_) <;> first | exact i1 | exact i2 | exact i3 | exact i4 | rfl)
  try simp only []
  refine RunO.build (p := True) (z := .v (.agg (nmV (nPo, L)).toArray)) tab_ok rfl rfl rfl rfl (build_nm nPo (L)) rfl rfl trivial ?_
  refine RunOF_sound tab_ok noX_local rfl rfl 100 [] _ _ rfl ?_ ?_
  · simp [fillL, splice, repL, Value.cells, maxLen, nmV_len, sz98, inT]
  refine RunO.done ?_
  refine RunF_sound tab_ok noX_local 100 [] _ _ rfl ?_ ?_
  · simp
  refine Run.retH tab_ok [(0, 0)] Tryd.func27 rfl trivial rfl ⟨?_, trivial⟩ rfl
  refine congrArg (fun l => some (Blk.row 98 66 4 l)) ?_
  simp [fillL, splice, repL, Value.cells, nmV_len, sz98]
  simp [List.take_append, List.drop_append, List.take_of_length_le, List.drop_of_length_le, nmV_len, sz98, upL, encNm]
theorem uniproc_enters : Enters Tryd.prog 27 := enters_mk Tryd.func27 (by decide) rfl
set_option maxHeartbeats 1000000 in
theorem glob1_ok (W : Wo) (b : Nat) (w : World) (hW : WoAt w b W) (hs : SeesV w W.pe W.ev) :
    HandsZ Tryd.prog 49 [.pointer (some ⟨b, 0, none⟩)] w (.sl 0 66 0 4) [(0, .row 98 66 4 (encNm (upL W W.p)))] := by
  refine HandsZ.of_run Tryd.func49 rfl (by show 1 ≤ 24; decide) ?_
  have r1 := hW.rel1; have r2 := hW.rel2; have r3 := hW.rel3; have r4 := hW.rel4; have ee := hW.evs; have mm := hW.mem
  have i1 := hW.some (o := 1) (d := 65) (by decide); have i2 := hW.some (o := 66) (d := 65) (by decide); have i3 := hW.some (o := 131) (d := 65) (by decide); have i4 := hW.some (o := 196) (d := 65) (by decide)
  have hev : ∀ {w'}, Agree (fun _ => False) w w' → SeesV w' W.pe W.ev := fun hA => hs.agree hA (fun _ _ h => h)
  have hWA : ∀ {w'}, Agree (fun _ => False) w w' → WoAt w' b W := fun hA => hW.agree hA (fun h => h)
  refine RunF_sound tab_ok noX_local 100 [] _ _ rfl ?_ ?_
  · simp
  refine Run.drawA noX_local rfl [] [] rfl rfl trivial ?_
  refine RunOF_sound tab_ok noX_local rfl rfl 100 [] _ _ rfl ?_ ?_
  · simp <;> ((repeat' refine And.intro ?_ ?_) <;> first | exact i1 | exact i2 | exact i3 | exact i4 | rfl)
  try simp only [fnC_w0, r1]
  refine RunO.build (p := True) (z := .v (.agg (nmV (nPo, W.p)).toArray)) tab_ok rfl rfl rfl rfl (build_nm nPo (W.p)) rfl rfl trivial ?_
  refine RunOF_sound tab_ok noX_local rfl rfl 100 [] _ _ rfl ?_ ?_
  · simp <;> ((repeat' refine And.intro ?_ ?_) <;> first | exact i1 | exact i2 | exact i3 | exact i4 | rfl)
  try simp only [fnC_w0, r2]
  refine RunO.build (p := True) (z := .v (.agg (nmV (nRf, W.r)).toArray)) tab_ok rfl rfl rfl rfl (build_nm nRf (W.r)) rfl rfl trivial ?_
  refine RunOF_sound tab_ok noX_local rfl rfl 100 [] _ _ rfl ?_ ?_
  · simp <;> ((repeat' refine And.intro ?_ ?_) <;> first | exact i1 | exact i2 | exact i3 | exact i4 | rfl)
  try simp only [fnC_w0, r3]
  refine RunO.build (p := True) (z := .v (.agg (nmV (nCo, W.c)).toArray)) tab_ok rfl rfl rfl rfl (build_nm nCo (W.c)) rfl rfl trivial ?_
  refine RunOF_sound tab_ok noX_local rfl rfl 100 [] _ _ rfl ?_ ?_
  · simp <;> ((repeat' refine And.intro ?_ ?_) <;> first | exact i1 | exact i2 | exact i3 | exact i4 | rfl)
  try simp only [fnC_w0, r4]
  refine RunO.build (p := True) (z := .v (.agg (nmV (nFr, W.f)).toArray)) tab_ok rfl rfl rfl rfl (build_nm nFr (W.f)) rfl rfl trivial ?_
  refine RunOF_sound tab_ok noX_local rfl rfl 100 [] _ _ rfl ?_ ?_
  · simp [fillL, splice, repL, Value.cells, maxLen, nmV_len, sz98, inT]
  refine RunO.done ?_
  refine RunF_sound tab_ok noX_local 100 [] _ _ rfl ?_ ?_
  · simp
  refine Run.retH tab_ok [(0, 0)] Tryd.func49 rfl trivial rfl ⟨?_, trivial⟩ rfl
  refine congrArg (fun l => some (Blk.row 98 66 4 l)) ?_
  simp [fillL, splice, repL, Value.cells, nmV_len, sz98]
  simp [List.take_append, List.drop_append, List.take_of_length_le, List.drop_of_length_le, nmV_len, sz98, upL, encNm]
theorem glob1_enters : Enters Tryd.prog 49 := enters_mk Tryd.func49 (by decide) rfl

def ofW (W : Wo) (k : Int) : BitVec 64 := thoseL (fun e => decide (e.kind = k)) W.ev
def allB : BitVec 64 := 18446744073709551615#64
noncomputable def fenL (W : Wo) : Rl := composeL (resL W.p allB (ofW W 4)) (resL W.p (ofW W 4) allB)
def lockS (W : Wo) : BitVec 64 := thoseL (fun e => e.locked) W.ev &&& W.m
noncomputable def lockL (W : Wo) : Rl := uniF (Rl.void W.p.n) [resL W.p (lockS W) W.m, resL W.p W.m (lockS W)]
theorem res_ok (r : Rl) (x y : BitVec 64) (w : World) : Gives Tryd.prog 51 [encRel r, .int .u64 (un x), .int .u64 (un y)] w (encRel (resL r x y)) := restrict_ok r x y w

set_option maxHeartbeats 1000000 in
theorem fen_ok (W : Wo) (b : Nat) (w : World) (hW : WoAt w b W) (hs : SeesV w W.pe W.ev) (hT : TabAt w) (h0w : 0 < w.heap.size) :
    Gives Tryd.prog 85 [.pointer (some ⟨b, 0, none⟩)] w (encRel (fenL W)) := by
  refine Gives.of_run Tryd.func85 rfl (by show 1 ≤ 19; decide) ?_
  have r1 := hW.rel1; have r2 := hW.rel2; have r3 := hW.rel3; have r4 := hW.rel4; have ee := hW.evs; have mm := hW.mem
  have i1 := hW.some (o := 1) (d := 65) (by decide); have i2 := hW.some (o := 66) (d := 65) (by decide); have i3 := hW.some (o := 131) (d := 65) (by decide); have i4 := hW.some (o := 196) (d := 65) (by decide)
  have hev : ∀ {w'}, Agree (fun _ => False) w w' → SeesV w' W.pe W.ev := fun hA => hs.agree hA (fun _ _ h => h)
  have hWA : ∀ {w'}, Agree (fun _ => False) w w' → WoAt w' b W := fun hA => hW.agree hA (fun h => h)
  refine RunF_sound tab_ok noX_local 100 [] _ _ rfl ?_ ?_
  · simp
  refine Run.callFn (r := .int .u64 (un (ofW W 4))) noX_local rfl rfl rfl rfl rfl rfl rfl wof_enters rfl (fun w' hA => wof_ok W b 4 w' (hWA hA) (hev hA)) ?_
  refine RunF_sound tab_ok noX_local 100 [] _ _ rfl ?_ ?_
  · simp
  unfold fenL
  generalize ofW W 4 = S
  refine Run.drawA noX_local rfl [] [] rfl rfl trivial ?_
  refine RunOF_sound tab_ok noX_local rfl rfl 100 [] _ _ rfl ?_ ?_
  · simp <;> ((repeat' refine And.intro ?_ ?_) <;> first | exact i1 | exact i2 | exact i3 | exact i4 | rfl)
  try simp only [fnC_w0, r1]
  refine RunO.callFn (r := encRel (resL W.p allB S)) noX_local rfl rfl rfl rfl rfl rfl rfl rfl restrict_enters rfl (fun w' hA => res_ok W.p allB S w') ?_
  refine RunOF_sound tab_ok noX_local rfl rfl 100 [] _ _ rfl ?_ ?_
  · simp <;> ((repeat' refine And.intro ?_ ?_) <;> first | exact i1 | exact i2 | exact i3 | exact i4 | rfl)
  try simp only []
  refine RunO.callFn (r := encRel (resL W.p S allB)) noX_local rfl rfl rfl rfl rfl rfl rfl rfl restrict_enters rfl (fun w' hA => res_ok W.p S allB w') ?_
  generalize resL W.p allB S = R1
  generalize resL W.p S allB = R2
  refine RunOF_sound tab_ok noX_local rfl rfl 100 [] _ _ rfl ?_ ?_
  · simp <;> ((repeat' refine And.intro ?_ ?_) <;> first | exact i1 | exact i2 | exact i3 | exact i4 | rfl)
  try simp only []
  refine RunO.callFn (r := encRel (composeL R1 R2)) noX_local rfl rfl rfl rfl rfl rfl rfl rfl compose_enters rfl (fun w' hA => compose_ok R1 R2 w' (hT.agree hA (fun f => f)) (Nat.lt_of_lt_of_le h0w hA.size)) ?_
  generalize composeL R1 R2 = R3
  refine RunOF_sound tab_ok noX_local rfl rfl 100 [] _ _ rfl ?_ ?_
  · simp [inT, segsVals, relV_one'] <;> ((repeat' refine And.intro ?_ ?_) <;> first | exact i1 | exact i2 | exact i3 | exact i4 | rfl)
  try simp only []
  refine RunO.done ?_
  refine RunF_sound tab_ok noX_local 100 [] _ _ rfl ?_ ?_
  · simp
  refine Run.retP tab_ok Tryd.func85 rfl ?_ (fun M => rfl)
  simp
theorem fen_enters : Enters Tryd.prog 85 := enters_mk Tryd.func85 (by decide) rfl

end Go.Proofs.YtmammebifhmnhaaDoor

/-
  What goes by locks; the relations of the weak models. Own work; printed by tools/gen_ax2.py.
-/
namespace Go.Proofs.YtmammebifhmnhaaDoor
open Go.AM
set_option maxRecDepth 100000

theorem flat_get {α : Type} (f : α → List Value) (d : Nat) (hf : ∀ a, (f a).length = d) : ∀ (l : List α) (i j : Nat) (hi : i < l.length), j < d → (l.flatMap f)[i * d + j]? = (f l[i])[j]?
  | a :: l, 0, j, _, hj => by
    rw [List.flatMap_cons, Nat.zero_mul, Nat.zero_add, List.getElem?_append_left (by rw [hf]; exact hj)]; rfl
  | a :: l, i + 1, j, hi, hj => by
    have ih := flat_get f d hf l i j (by simpa using hi) hj
    have e : (i + 1) * d + j = d + (i * d + j) := by rw [Nat.succ_mul]; omega
    rw [List.flatMap_cons, e, List.getElem?_append_right (by rw [hf]; omega), hf, Nat.add_sub_cancel_left, ih]; rfl

theorem seesRl_row {M : AM.Loc} {w : World} {id e n : Nat} {l : List Rl} (hb : BlkAt M w id (.row e 65 n (encRls l))) : SeesRl w (some ⟨(M id).1, 0, none⟩) l := fun i hi => by
  refine ⟨rfl, fun j v hv => ?_⟩
  have hj : j < 65 := by have := (List.getElem?_eq_some_iff.1 hv).1; simpa using this
  have := row_cells hb (i * 65 + j) v (by rw [encRls, flat_get relV 65 relV_length l i j hi hj]; exact hv)
  rw [add_add, Option.getD_some, Addr.add_lit]
  exact this
theorem seesNm_row {M : AM.Loc} {w : World} {id e n : Nat} {l : List (ByteArray × Rl)} (hb : BlkAt M w id (.row e 66 n (encNm l))) : SeesNm w (some ⟨(M id).1, 0, none⟩) l := fun i hi => by
  refine ⟨rfl, fun j v hv => ?_⟩
  have hj : j < 66 := by have := (List.getElem?_eq_some_iff.1 hv).1; rwa [nmV_len] at this
  have := row_cells hb (i * 66 + j) v (by rw [encNm, flat_get nmV 66 nmV_len l i j hi hj]; exact hv)
  rw [add_add, Option.getD_some, Addr.add_lit]
  exact this

theorem fill2 (R1 R2 : Rl) : (fillL (fun j => some (j * 65, 65)) (repL 2 (Value.agg z34.toArray).cells.toList) [(0, encRel R1), (1, encRel R2)]).snd = encRls [R1, R2] := by
  have hz : z34.length = 65 := rfl
  simp [fillL, splice, repL, Value.cells, encRel]
  simp [List.drop_of_length_le, encRls]

set_option maxHeartbeats 1000000 in
theorem lock_ok (W : Wo) (b : Nat) (w : World) (hW : WoAt w b W) (hs : SeesV w W.pe W.ev) :
    Gives Tryd.prog 86 [.pointer (some ⟨b, 0, none⟩)] w (encRel (lockL W)) := by
  refine Gives.of_run Tryd.func86 rfl (by show 1 ≤ 37; decide) ?_
  have r1 := hW.rel1; have r2 := hW.rel2; have r3 := hW.rel3; have r4 := hW.rel4; have ee := hW.evs; have mm := hW.mem
  have i1 := hW.some (o := 1) (d := 65) (by decide); have i2 := hW.some (o := 66) (d := 65) (by decide); have i3 := hW.some (o := 131) (d := 65) (by decide); have i4 := hW.some (o := 196) (d := 65) (by decide)
  have hev : ∀ {w'}, Agree (fun _ => False) w w' → SeesV w' W.pe W.ev := fun hA => hs.agree hA (fun _ _ h => h)
  have hWA : ∀ {w'}, Agree (fun _ => False) w w' → WoAt w' b W := fun hA => hW.agree hA (fun h => h)
  refine RunF_sound tab_ok noX_local 100 [] _ _ rfl ?_ ?_
  · simp
  refine Run.drawA noX_local rfl [] [] rfl rfl trivial ?_
  refine RunOF_sound tab_ok noX_local rfl rfl 100 [] _ _ rfl ?_ ?_
  · simp [ee, mm] <;> ((repeat' refine And.intro ?_ ?_) <;> first | exact i1 | exact i2 | exact i3 | exact i4 | rfl)
  try simp only [fnC_w0, ee, mm, slOf_slice]
  refine RunO.callFn (r := .int .u64 (un (thoseL (fun e => e.locked) W.ev))) noX_local rfl rfl rfl rfl rfl rfl rfl rfl lockedSet_enters rfl (fun w' hA => lockedSet_ok W.pe W.ce W.ev w' (hev hA)) ?_
  have hS : lockS W = thoseL (fun e => e.locked) W.ev &&& W.m := rfl
  unfold lockL
  generalize thoseL (fun e => e.locked) W.ev = Z at *
  refine RunOF_sound tab_ok noX_local rfl rfl 100 [] _ _ rfl ?_ ?_
  · simp <;> ((repeat' refine And.intro ?_ ?_) <;> first | exact i1 | exact i2 | exact i3 | exact i4 | rfl)
  try simp only []
  refine RunO.done ?_
  refine RunF_sound tab_ok noX_local 100 [] _ _ rfl ?_ ?_
  · simp
  simp only [band_un, ← hS]
  generalize lockS W = S at *
  refine Run.drawA noX_local rfl [] [] rfl rfl trivial ?_
  refine RunOF_sound tab_ok noX_local rfl rfl 100 [] _ _ rfl ?_ ?_
  · simp [mm] <;> ((repeat' refine And.intro ?_ ?_) <;> first | exact i1 | exact i2 | exact i3 | exact i4 | rfl)
  try simp only [fnC_w0, mm, r1]
  refine RunO.callFn (r := encRel (resL W.p S W.m)) noX_local rfl rfl rfl rfl rfl rfl rfl rfl restrict_enters rfl (fun w' hA => res_ok W.p S W.m w') ?_
  refine RunOF_sound tab_ok noX_local rfl rfl 100 [] _ _ rfl ?_ ?_
  · simp <;> ((repeat' refine And.intro ?_ ?_) <;> first | exact i1 | exact i2 | exact i3 | exact i4 | rfl)
  try simp only []
  refine RunO.callFn (r := encRel (resL W.p W.m S)) noX_local rfl rfl rfl rfl rfl rfl rfl rfl restrict_enters rfl (fun w' hA => res_ok W.p W.m S w') ?_
  generalize resL W.p S W.m = R1
  generalize resL W.p W.m S = R2
  refine RunOF_sound tab_ok noX_local rfl rfl 100 [] _ _ rfl ?_ ?_
  · simp [fillL, splice, repL, Value.cells, maxLen, encRel, inT]
  simp only [fill2]
  refine RunO.callM (r := encRel (uniF (Rl.void W.p.n) [R1, R2])) noX_local rfl rfl rfl rfl rfl rfl rfl uni3_enters rfl (fun M w' hM hA => ?_) ?_
  · have := uni3_ok W b (some ⟨(M 1).1, 0, none⟩) ((M 1).2 - 0) [R1, R2] w' (hWA hA) (seesRl_row (hM 1 _ rfl)) (by simp)
    show Gives Tryd.prog _ _ _ _
    simpa [concL, conc] using this
  generalize uniF (Rl.void W.p.n) [R1, R2] = R3
  refine RunOF_sound tab_ok noX_local rfl rfl 100 [] _ _ rfl ?_ ?_
  · simp [inT, segsVals, relV_one'] <;> ((repeat' refine And.intro ?_ ?_) <;> first | exact i1 | exact i2 | exact i3 | exact i4 | rfl)
  try simp only []
  refine RunO.done ?_
  refine RunF_sound tab_ok noX_local 100 [] _ _ rfl ?_ ?_
  · simp
  refine Run.retP tab_ok Tryd.func86 rfl ?_ (fun M => rfl)
  simp
theorem lock_enters : Enters Tryd.prog 86 := enters_mk Tryd.func86 (by decide) rfl

def nFence : ByteArray := ⟨#[102, 101, 110, 99, 101]⟩
def nLock : ByteArray := ⟨#[108, 111, 99, 107]⟩
def nRfe : ByteArray := ⟨#[114, 102, 101]⟩
noncomputable def weakL (W : Wo) (K : Rl) : List (ByteArray × Rl) := [(nPo, K), (nFence, fenL W), (nLock, lockL W), (nRfe, meetL W.r (standsL 4 W.ev)), (nCo, W.c), (nFr, W.f)]

set_option maxHeartbeats 1000000 in
theorem weak_ok (W : Wo) (b : Nat) (K : Rl) (w : World) (hW : WoAt w b W) (hs : SeesV w W.pe W.ev) (hT : TabAt w) (h0w : 0 < w.heap.size) :
    HandsZ Tryd.prog 52 [.pointer (some ⟨b, 0, none⟩), encRel K] w (.sl 0 66 0 6) [(0, .row 98 66 6 (encNm (weakL W K)))] := by
  refine HandsZ.of_run Tryd.func52 rfl (by show 2 ≤ 37; decide) ?_
  have r1 := hW.rel1; have r2 := hW.rel2; have r3 := hW.rel3; have r4 := hW.rel4; have ee := hW.evs; have mm := hW.mem
  have i1 := hW.some (o := 1) (d := 65) (by decide); have i2 := hW.some (o := 66) (d := 65) (by decide); have i3 := hW.some (o := 131) (d := 65) (by decide); have i4 := hW.some (o := 196) (d := 65) (by decide)
  have hev : ∀ {w'}, Agree (fun _ => False) w w' → SeesV w' W.pe W.ev := fun hA => hs.agree hA (fun _ _ h => h)
  have hWA : ∀ {w'}, Agree (fun _ => False) w w' → WoAt w' b W := fun hA => hW.agree hA (fun h => h)
  refine RunF_sound tab_ok noX_local 100 [] _ _ rfl ?_ ?_
  · simp
  refine' Run.join (todo' := _) [(0, .v (.pointer (some ⟨b, 0, none⟩))), (3, .ptr 0 0), (5, .ptr 1 0)] [(0, .cells 34 [.vals 65 (relV K)]), (1, .cells 34 [.vals 65 (relV (meetL W.r (standsL 4 W.ev)))])] 2 ?_ ?_
  rotate_left
  · intro J
    refine Run.drawF2 noX_local rfl 10 8 9 rfl rfl [] [(0, .cells 34 [.vals 65 (relV K)])] rfl rfl rfl rfl rfl rfl ⟨rfl, trivial⟩ ?_ ?_ ?_
    all_goals
      refine RunOF_sound tab_ok noX_local rfl rfl 100 [] _ _ rfl ?_ ?_
      · simp [ee, inT, lk] <;> ((repeat' refine And.intro ?_ ?_) <;> first | exact i1 | exact i2 | exact i3 | exact i4 | rfl)
      try simp only [fnC_w0, ee, slOf_slice, r2]
      refine RunO.callFn (r := encRel (standsL 4 W.ev)) noX_local rfl rfl rfl rfl rfl rfl rfl rfl ext_enters rfl (fun w' hA => by have := ext_ok W.pe W.ce W.ev w' (hev hA); rw [eqExt] at this; exact this) ?_
      refine RunOF_sound tab_ok noX_local rfl rfl 100 [] _ _ rfl ?_ ?_
      · simp [inT, lk] <;> ((repeat' refine And.intro ?_ ?_) <;> first | exact i1 | exact i2 | exact i3 | exact i4 | rfl)
      try simp only []
      refine RunO.callFn (r := encRel (meetL W.r (standsL 4 W.ev))) noX_local rfl rfl rfl rfl rfl rfl rfl rfl meet_enters rfl (fun w' hA => meet_ok _ _ w') ?_
      generalize meetL W.r (standsL 4 W.ev) = L at *
      refine RunOF_sound tab_ok noX_local rfl rfl 100 [] _ _ rfl ?_ ?_
      · simp [inT, lk, segsVals, relV_one'] <;> ((repeat' refine And.intro ?_ ?_) <;> first | exact i1 | exact i2 | exact i3 | exact i4 | rfl)
      try simp only []
      refine RunO.done ?_
      refine J _ ?_ ?_
      · exact ⟨⟨_, rfl, fun M => rfl⟩, ⟨_, rfl, fun M => rfl⟩, ⟨_, rfl, fun M => rfl⟩, trivial⟩
      · exact ⟨rfl, rfl, trivial⟩
  have hw : weakL W K = [(nPo, K), (nFence, fenL W), (nLock, lockL W), (nRfe, meetL W.r (standsL 4 W.ev)), (nCo, W.c), (nFr, W.f)] := rfl
  rw [hw]
  clear hw
  generalize meetL W.r (standsL 4 W.ev) = L
  refine RunF_sound tab_ok noX_local 100 [] _ _ rfl ?_ ?_
  · simp
  refine Run.drawA noX_local rfl [] [(0, .cells 34 [.vals 65 (relV K)]), (1, .cells 34 [.vals 65 (relV L)])] rfl rfl ⟨rfl, rfl, trivial⟩ ?_
  refine RunOF_sound tab_ok noX_local rfl rfl 100 [] _ _ rfl ?_ ?_
  · simp <;> ((repeat' refine And.intro ?_ ?_) <;> first | exact i1 | exact i2 | exact i3 | exact i4 | rfl)
  try simp only []
  refine RunO.build (p := True) (z := .v (.agg (nmV (nPo, K)).toArray)) tab_ok rfl rfl rfl rfl (build_nm nPo (K)) rfl rfl trivial ?_
  refine RunOF_sound tab_ok noX_local rfl rfl 100 [] _ _ rfl ?_ ?_
  · simp <;> ((repeat' refine And.intro ?_ ?_) <;> first | exact i1 | exact i2 | exact i3 | exact i4 | rfl)
  try simp only []
  refine RunO.build (p := True) (z := .v (.agg (nmV (nRfe, L)).toArray)) tab_ok rfl rfl rfl rfl (build_nm nRfe (L)) rfl rfl trivial ?_
  refine RunOF_sound tab_ok noX_local rfl rfl 100 [] _ _ rfl ?_ ?_
  · simp <;> ((repeat' refine And.intro ?_ ?_) <;> first | exact i1 | exact i2 | exact i3 | exact i4 | rfl)
  try simp only [fnC_w0, r3]
  refine RunO.build (p := True) (z := .v (.agg (nmV (nCo, W.c)).toArray)) tab_ok rfl rfl rfl rfl (build_nm nCo (W.c)) rfl rfl trivial ?_
  refine RunOF_sound tab_ok noX_local rfl rfl 100 [] _ _ rfl ?_ ?_
  · simp <;> ((repeat' refine And.intro ?_ ?_) <;> first | exact i1 | exact i2 | exact i3 | exact i4 | rfl)
  try simp only [fnC_w0, r4]
  refine RunO.build (p := True) (z := .v (.agg (nmV (nFr, W.f)).toArray)) tab_ok rfl rfl rfl rfl (build_nm nFr (W.f)) rfl rfl trivial ?_
  refine RunOF_sound tab_ok noX_local rfl rfl 100 [] _ _ rfl ?_ ?_
  · simp <;> ((repeat' refine And.intro ?_ ?_) <;> first | exact i1 | exact i2 | exact i3 | exact i4 | rfl)
  try simp only []
  refine RunO.callFn (r := encRel (fenL W)) noX_local rfl rfl rfl rfl rfl rfl rfl rfl fen_enters rfl (fun w' hA => fen_ok W b w' (hWA hA) (hev hA) (hT.agree hA (fun f => f)) (Nat.lt_of_lt_of_le h0w hA.size)) ?_
  generalize fenL W = R1
  refine RunOF_sound tab_ok noX_local rfl rfl 100 [] _ _ rfl ?_ ?_
  · simp <;> ((repeat' refine And.intro ?_ ?_) <;> first | exact i1 | exact i2 | exact i3 | exact i4 | rfl)
  try simp only []
  refine RunO.build (p := True) (z := .v (.agg (nmV (nFence, R1)).toArray)) tab_ok rfl rfl rfl rfl (build_nm nFence (R1)) rfl rfl trivial ?_
  refine RunOF_sound tab_ok noX_local rfl rfl 100 [] _ _ rfl ?_ ?_
  · simp <;> ((repeat' refine And.intro ?_ ?_) <;> first | exact i1 | exact i2 | exact i3 | exact i4 | rfl)
  try simp only []
  refine RunO.callFn (r := encRel (lockL W)) noX_local rfl rfl rfl rfl rfl rfl rfl rfl lock_enters rfl (fun w' hA => lock_ok W b w' (hWA hA) (hev hA)) ?_
  generalize lockL W = R2
  refine RunOF_sound tab_ok noX_local rfl rfl 100 [] _ _ rfl ?_ ?_
  · simp <;> ((repeat' refine And.intro ?_ ?_) <;> first | exact i1 | exact i2 | exact i3 | exact i4 | rfl)
  try simp only []
  refine RunO.build (p := True) (z := .v (.agg (nmV (nLock, R2)).toArray)) tab_ok rfl rfl rfl rfl (build_nm nLock (R2)) rfl rfl trivial ?_
  refine RunOF_sound tab_ok noX_local rfl rfl 100 [] _ _ rfl ?_ ?_
  · simp [fillL, splice, repL, Value.cells, maxLen, nmV_len, sz98, inT, lk]
  refine RunO.done ?_
  refine RunF_sound tab_ok noX_local 100 [] _ _ rfl ?_ ?_
  · simp
  refine Run.retH tab_ok [(0, 2)] Tryd.func52 rfl trivial rfl ⟨?_, trivial⟩ rfl
  refine congrArg (fun l => some (Blk.row 98 66 6 l)) ?_
  simp [fillL, splice, repL, Value.cells, nmV_len, sz98]
  simp [List.take_append, List.drop_append, List.take_of_length_le, List.drop_of_length_le, nmV_len, sz98, encNm]
theorem weak_enters : Enters Tryd.prog 52 := enters_mk Tryd.func52 (by decide) rfl

end Go.Proofs.YtmammebifhmnhaaDoor

/-
  The abstract machine, twenty-ninth part: calls in a drawn region that hand over new blocks. Own work; over any program.
-/
namespace Go.AM
section
variable {C : Ctx} {held : List (Nat × Blk)} {n0 : Nat} {ops : Array Oper} {i : Nat} {ord : List (Nat × Bool)} {k : List Item} {σ : St} {o : Oper} {c : Call} {g : Operand} {f : FuncId} {caps xs : List AV}

theorem RunO.callH (hL : Local C.X) (z : AV) (h : List (Nat × Blk)) (m : Nat) (ho : ops[i]? = some o) (hop : o.op = .call c) (hc : c.callee = .value g) (hg : σ.ev g = some (.fn f caps)) (hxs : evs σ c.args.toList = some xs) (hw : wantOf ops σ o = some .yes) (hent : Enters C.P f)
    (hd : dstOK C.n o.dst = true) (hbel : σ.bel = true) (hge : hGe σ.nx m h = true) (hz : z.ge σ.nx = true) (hm : Nat.ble σ.nx m = true)
    (hfn : ∀ M w, (∀ id B, lk σ.h id = some B → BlkAt M w id B) → Agree C.S0 C.w0 w → GivesR C.P f (concL M (xs ++ caps)) w (Handed z h w))
    (hr : RunO C held n0 ops ord k (St.put ⟨σ.t, h ++ σ.h, m⟩ o.dst z)) : RunO C held n0 ops ((i, false) :: ord) k σ := by
  refine RunO.alone ho fun M0 M fp a w hM hn hR hS => ?_
  have h2 : c.args.map a.eval = (concL M xs).toArray := by apply Array.ext'; simpa using evs_conc hR.q hxs
  have hrun : (execOp a.eval o).run C.P w = .ok (.enter f (concL M (xs ++ caps)).toArray) w := by
    simp only [execOp, hop, resolve, hc, h2, hR.q.ev hg, conc, Deferred.ofValue]
    simp [invoke, hent _ _, concL_append]
  unfold OpW
  simp only [ho, if_pos (wantOf_yes hR.q hw), hrun]
  refine ⟨fun c e => (by rw [hop] at e; cases e), Calls.mono' (hfn M w hR.heap hR.agree) fun e w' ⟨v, h1, hh⟩ => ?_⟩
  obtain ⟨M', hv, hMM, hR'⟩ := hR.handed hL hh hbel hge hz (Nat.le_of_ble_eq_true hm)
  have hag : Agree (fun _ => False) w w' := hh.1
  subst hv
  refine ⟨_, h1, M', fp, _, ?_, ?_, hR'.put (z := z) (dstOK_lt hd), ?_, hr⟩
  · exact fun i hi => (hMM i (Nat.lt_of_lt_of_le hi hn)).trans (hM i hi)
  · have := Nat.le_of_ble_eq_true hm
    cases o.dst <;> exact Nat.le_trans hn this
  · refine ⟨?_, hS.2.trans hag (fun _ f _ => f.elim)⟩
    intro id B hB
    have := hS.1 id B hB
    exact this.same (hag.block _ this.lt (fun f => f))

/-- A function's value is not nil. -/
theorem Run.fnNil {rest : List Nat} {T : Tab} (hT : tabOK C.P T) {t u : TypeId} {x : Operand} {fv : Fn} {a b : Array Value} {ps rs : Array TypeId} {vd : Bool} (ho : ops[i]? = some o) (hop : o.op = .binOp .eql t x (.const .nilFunc) u) (hx : σ.ev x = some (.v (.func fv a b)))
    (ht : T.desc t = some (.func ps rs vd)) (hw : wantOf ops σ o = some .yes) (hd : dstOK C.n o.dst = true) (h : Run C (.inRegion ops rest :: k) (σ.put o.dst (.tt false))) : Run C (.inRegion ops (i :: rest) :: k) σ := by
  intro M fp ac w hR cs
  obtain ⟨m, s, z⟩ := h M fp _ w (hR.put (z := .tt false) (dstOK_lt hd)) cs
  refine ⟨m, .head (step_value ho (wantOf_yes hR.q hw) (fun c e => by rw [hop] at e; cases e) ?_) s, z⟩
  have hu := eq_func_fn (w := w) (tab_undP hT ht) fv a b
  have h1 := hR.q.ev hx
  simp only [conc] at h1
  have h2 : ac.eval (.const .nilFunc) = .nilFunc := rfl
  simp [execOp, hop, h1, h2, eqGuard, binOp, hu, conc]
end
end Go.AM

/-
  The abstract machine, thirtieth part: a struct of one function. Own work; over any program.
-/
namespace Go.AM

theorem Run.buildF {C : Ctx} {ops : Array Oper} {i : Nat} {rest : List Nat} {k : List Item} {σ : St} {o : Oper} {T : Tab} {t : TypeId} {n : Nat} {x : Operand} {g : FuncId} {p : Prop} {z : AV}
    (hT : tabOK C.P T) (ho : ops[i]? = some o) (hop : o.op = .build t #[(n, x)]) (hx : σ.ev x = some (.fn g [])) (hz : evBuild T t [(n, .func (.func g) #[] #[])] = some (p, z)) (hw : wantOf ops σ o = some .yes) (hd : dstOK C.n o.dst = true)
    (hp : p) (h : Run C (.inRegion ops rest :: k) (σ.put o.dst z)) : Run C (.inRegion ops (i :: rest) :: k) σ := by
  intro M fp a w hR cs
  obtain ⟨m, s, z'⟩ := h M fp _ w (hR.put (z := z) (dstOK_lt hd)) cs
  refine ⟨m, .head (step_value ho (wantOf_yes hR.q hw) (fun c e => by rw [hop] at e; cases e) ?_) s, z'⟩
  have h1 := hR.q.ev hx
  have h2 : a.eval x = .func (.func g) #[] #[] := by rw [h1]; simp [conc, concL]
  have := evBuild_run hT (M := M) (parts := #[(n, a.eval x)]) (by rw [h2]; exact hz) hp w
  simp [execOp, hop, this]
end Go.AM

/-
  The relations of the models. Own work; printed by tools/gen_ax3.py.
-/
namespace Go.Proofs.YtmammebifhmnhaaDoor
open Go.AM
set_option maxRecDepth 100000

noncomputable def tsoK (W : Wo) : Rl := minL (resL W.p W.m W.m) (resL (resL W.p W.m W.m) (ofW W 1 ||| ofW W 2) (ofW W 3))
noncomputable def psoK (W : Wo) : Rl := resL W.p (ofW W 3) W.m

set_option maxHeartbeats 1000000 in
theorem glob2_ok (W : Wo) (b : Nat) (w : World) (hW : WoAt w b W) (hs : SeesV w W.pe W.ev) (hT : TabAt w) (h0w : 0 < w.heap.size) :
    HandsZ Tryd.prog 50 [.pointer (some ⟨b, 0, none⟩)] w (.sl 0 66 0 6) [(0, .row 98 66 6 (encNm (weakL W (tsoK W))))] := by
  refine HandsZ.of_run Tryd.func50 rfl (by show 1 ≤ 30; decide) ?_
  have r1 := hW.rel1; have r2 := hW.rel2; have r3 := hW.rel3; have r4 := hW.rel4; have ee := hW.evs; have mm := hW.mem
  have i1 := hW.some (o := 1) (d := 65) (by decide); have i2 := hW.some (o := 66) (d := 65) (by decide); have i3 := hW.some (o := 131) (d := 65) (by decide); have i4 := hW.some (o := 196) (d := 65) (by decide)
  have hev : ∀ {w'}, Agree (fun _ => False) w w' → SeesV w' W.pe W.ev := fun hA => hs.agree hA (fun _ _ h => h)
  have hWA : ∀ {w'}, Agree (fun _ => False) w w' → WoAt w' b W := fun hA => hW.agree hA (fun h => h)
  refine RunF_sound tab_ok noX_local 100 [] _ _ rfl ?_ ?_
  · simp
  refine' Run.join (todo' := _) [(0, .v (.pointer (some ⟨b, 0, none⟩))), (3, .ptr 0 0)] [(0, .cells 34 [.vals 65 (relV (resL W.p W.m W.m))])] 1 ?_ ?_
  rotate_left
  · intro J
    refine Run.drawF noX_local rfl 12 13 rfl [] [] rfl rfl rfl rfl trivial ?_ ?_
    all_goals
      refine RunOF_sound tab_ok noX_local rfl rfl 100 [] _ _ rfl ?_ ?_
      · simp [mm, inT] <;> ((repeat' refine And.intro ?_ ?_) <;> first | exact i1 | exact i2 | exact i3 | exact i4 | rfl)
      try simp only [fnC_w0, mm, r1]
      refine RunO.callFn (r := encRel (resL W.p W.m W.m)) noX_local rfl rfl rfl rfl rfl rfl rfl rfl restrict_enters rfl (fun w' hA => res_ok W.p W.m W.m w') ?_
      generalize resL W.p W.m W.m = A at *
      refine RunOF_sound tab_ok noX_local rfl rfl 100 [] _ _ rfl ?_ ?_
      · simp [inT, segsVals, relV_one'] <;> ((repeat' refine And.intro ?_ ?_) <;> first | exact i1 | exact i2 | exact i3 | exact i4 | rfl)
      try simp only []
      refine RunO.done ?_
      refine J _ ?_ ?_
      · exact ⟨⟨_, rfl, fun M => rfl⟩, ⟨_, rfl, fun M => rfl⟩, trivial⟩
      · exact ⟨rfl, trivial⟩
  unfold tsoK
  have hof1 : ∀ {w'} k, Agree (fun _ => False) w w' → Gives Tryd.prog 54 [.pointer (some ⟨b, 0, none⟩), .int .i64 k] w' (.int .u64 (un (ofW W k))) := fun k hA => wof_ok W b k _ (hWA hA) (hev hA)
  have hof1' := fun {w'} (hA : Agree (fun _ => False) w w') => hof1 1 hA
  have hof2' := fun {w'} (hA : Agree (fun _ => False) w w') => hof1 2 hA
  have hof3' := fun {w'} (hA : Agree (fun _ => False) w w') => hof1 3 hA
  clear hof1
  generalize resL W.p W.m W.m = A at *
  generalize ofW W 1 = o1 at *
  generalize ofW W 2 = o2 at *
  generalize ofW W 3 = o3 at *
  refine RunF_sound tab_ok noX_local 100 [] _ _ rfl ?_ ?_
  · simp
  refine Run.drawA noX_local rfl [] [(0, .cells 34 [.vals 65 (relV A)])] rfl rfl ⟨rfl, trivial⟩ ?_
  refine RunOF_sound tab_ok noX_local rfl rfl 100 [] _ _ rfl ?_ ?_
  · simp <;> ((repeat' refine And.intro ?_ ?_) <;> first | exact i1 | exact i2 | exact i3 | exact i4 | rfl)
  try simp only []
  refine RunO.callFn (r := .int .u64 (un o1)) noX_local rfl rfl rfl rfl rfl rfl rfl rfl wof_enters rfl (fun w' hA => hof1' hA) ?_
  refine RunOF_sound tab_ok noX_local rfl rfl 100 [] _ _ rfl ?_ ?_
  · simp <;> ((repeat' refine And.intro ?_ ?_) <;> first | exact i1 | exact i2 | exact i3 | exact i4 | rfl)
  try simp only []
  refine RunO.callFn (r := .int .u64 (un o2)) noX_local rfl rfl rfl rfl rfl rfl rfl rfl wof_enters rfl (fun w' hA => hof2' hA) ?_
  refine RunOF_sound tab_ok noX_local rfl rfl 100 [] _ _ rfl ?_ ?_
  · simp <;> ((repeat' refine And.intro ?_ ?_) <;> first | exact i1 | exact i2 | exact i3 | exact i4 | rfl)
  try simp only []
  refine RunO.callFn (r := .int .u64 (un o3)) noX_local rfl rfl rfl rfl rfl rfl rfl rfl wof_enters rfl (fun w' hA => hof3' hA) ?_
  refine RunOF_sound tab_ok noX_local rfl rfl 100 [] _ _ rfl ?_ ?_
  · simp <;> ((repeat' refine And.intro ?_ ?_) <;> first | exact i1 | exact i2 | exact i3 | exact i4 | rfl)
  try simp only []
  refine RunO.callFn (r := encRel (resL A (o1 ||| o2) o3)) noX_local rfl rfl rfl rfl rfl rfl rfl rfl restrict_enters rfl (fun w' hA => by show Gives _ _ [encRel A, .int .u64 (bor .u64 (un o1) (un o2)), .int .u64 (un o3)] w' _; rw [bor_un]; exact res_ok A _ o3 w') ?_
  generalize resL A (o1 ||| o2) o3 = A2 at *
  refine RunOF_sound tab_ok noX_local rfl rfl 100 [] _ _ rfl ?_ ?_
  · simp <;> ((repeat' refine And.intro ?_ ?_) <;> first | exact i1 | exact i2 | exact i3 | exact i4 | rfl)
  try simp only []
  refine RunO.callFn (r := encRel (minL A A2)) noX_local rfl rfl rfl rfl rfl rfl rfl rfl minus_enters rfl (fun w' hA => minus_ok A A2 w') ?_
  generalize minL A A2 = K at *
  refine RunOF_sound tab_ok noX_local rfl rfl 100 [] _ _ rfl ?_ ?_
  · simp <;> ((repeat' refine And.intro ?_ ?_) <;> first | exact i1 | exact i2 | exact i3 | exact i4 | rfl)
  try simp only []
  refine RunO.callH noX_local (.sl 1 66 0 6) [(1, .row 98 66 6 (encNm (weakL W K)))] 2 rfl rfl rfl rfl rfl rfl weak_enters rfl rfl rfl rfl rfl (fun M w' hM hA => (weak_ok W b K w' (hWA hA) (hev hA) (hT.agree hA (fun f => f)) (Nat.lt_of_lt_of_le h0w hA.size)).to [(1, 0)] rfl ⟨rfl, trivial⟩ rfl) ?_
  refine RunOF_sound tab_ok noX_local rfl rfl 100 [] _ _ rfl ?_ ?_
  · simp <;> ((repeat' refine And.intro ?_ ?_) <;> first | exact i1 | exact i2 | exact i3 | exact i4 | rfl)
  try simp only []
  refine RunO.done ?_
  refine RunF_sound tab_ok noX_local 100 [] _ _ rfl ?_ ?_
  · simp
  exact Run.retH tab_ok [(0, 1)] Tryd.func50 rfl trivial rfl ⟨rfl, trivial⟩ rfl
theorem glob2_enters : Enters Tryd.prog 50 := enters_mk Tryd.func50 (by decide) rfl

set_option maxHeartbeats 1000000 in
theorem glob3_ok (W : Wo) (b : Nat) (w : World) (hW : WoAt w b W) (hs : SeesV w W.pe W.ev) (hT : TabAt w) (h0w : 0 < w.heap.size) :
    HandsZ Tryd.prog 55 [.pointer (some ⟨b, 0, none⟩)] w (.sl 0 66 0 6) [(0, .row 98 66 6 (encNm (weakL W (psoK W))))] := by
  refine HandsZ.of_run Tryd.func55 rfl (by show 1 ≤ 16; decide) ?_
  have r1 := hW.rel1; have r2 := hW.rel2; have r3 := hW.rel3; have r4 := hW.rel4; have ee := hW.evs; have mm := hW.mem
  have i1 := hW.some (o := 1) (d := 65) (by decide); have i2 := hW.some (o := 66) (d := 65) (by decide); have i3 := hW.some (o := 131) (d := 65) (by decide); have i4 := hW.some (o := 196) (d := 65) (by decide)
  have hev : ∀ {w'}, Agree (fun _ => False) w w' → SeesV w' W.pe W.ev := fun hA => hs.agree hA (fun _ _ h => h)
  have hWA : ∀ {w'}, Agree (fun _ => False) w w' → WoAt w' b W := fun hA => hW.agree hA (fun h => h)
  refine RunF_sound tab_ok noX_local 100 [] _ _ rfl ?_ ?_
  · simp
  refine Run.drawA noX_local rfl [] [] rfl rfl trivial ?_
  refine RunOF_sound tab_ok noX_local rfl rfl 100 [] _ _ rfl ?_ ?_
  · simp [mm] <;> ((repeat' refine And.intro ?_ ?_) <;> first | exact i1 | exact i2 | exact i3 | exact i4 | rfl)
  try simp only [fnC_w0, mm, r1]
  refine RunO.callFn (r := .int .u64 (un (ofW W 3))) noX_local rfl rfl rfl rfl rfl rfl rfl rfl wof_enters rfl (fun w' hA => wof_ok W b 3 w' (hWA hA) (hev hA)) ?_
  unfold psoK
  generalize ofW W 3 = o3
  refine RunOF_sound tab_ok noX_local rfl rfl 100 [] _ _ rfl ?_ ?_
  · simp <;> ((repeat' refine And.intro ?_ ?_) <;> first | exact i1 | exact i2 | exact i3 | exact i4 | rfl)
  try simp only []
  refine RunO.callFn (r := encRel (resL W.p o3 W.m)) noX_local rfl rfl rfl rfl rfl rfl rfl rfl restrict_enters rfl (fun w' hA => res_ok W.p o3 W.m w') ?_
  generalize resL W.p o3 W.m = K at *
  refine RunOF_sound tab_ok noX_local rfl rfl 100 [] _ _ rfl ?_ ?_
  · simp <;> ((repeat' refine And.intro ?_ ?_) <;> first | exact i1 | exact i2 | exact i3 | exact i4 | rfl)
  try simp only []
  refine RunO.callH noX_local (.sl 0 66 0 6) [(0, .row 98 66 6 (encNm (weakL W K)))] 1 rfl rfl rfl rfl rfl rfl weak_enters rfl rfl rfl rfl rfl (fun M w' hM hA => (weak_ok W b K w' (hWA hA) (hev hA) (hT.agree hA (fun f => f)) (Nat.lt_of_lt_of_le h0w hA.size)).to [(0, 0)] rfl ⟨rfl, trivial⟩ rfl) ?_
  refine RunOF_sound tab_ok noX_local rfl rfl 100 [] _ _ rfl ?_ ?_
  · simp <;> ((repeat' refine And.intro ?_ ?_) <;> first | exact i1 | exact i2 | exact i3 | exact i4 | rfl)
  try simp only []
  refine RunO.done ?_
  refine RunF_sound tab_ok noX_local 100 [] _ _ rfl ?_ ?_
  · simp
  exact Run.retH tab_ok [(0, 0)] Tryd.func55 rfl trivial rfl ⟨rfl, trivial⟩ rfl
theorem glob3_enters : Enters Tryd.prog 55 := enters_mk Tryd.func55 (by decide) rfl
end Go.Proofs.YtmammebifhmnhaaDoor

/-
  The list of the model's answers: globals. Own work.
-/
namespace Go.Proofs.YtmammebifhmnhaaDoor
open Go.AM
set_option maxRecDepth 100000

theorem z68_one : ∀ c ∈ z68, c.oneCell' = true := fun c hc => List.all_eq_true.1 (show z68.all Value.oneCell' = true from rfl) c hc
theorem s66 : tab.size 66 = some 1 := rfl
theorem globals_out (k : Int) (h : k < 1 ∨ k > 3) (w : World) : Gives Tryd.prog 21 [.int .i64 k] w (.tuple #[.agg #[.nilFunc], .bool false]) := by
  refine Gives.of_run Tryd.func21 rfl (by show 1 ≤ 17; decide) ?_
  by_cases h1 : k < 1
  · refine RunF_sound tab_ok noX_local 100 [true, true] _ _ rfl ?_ ?_
    · simp [h1, fillL, s66]
      exact ⟨rfl, ⟨rfl, fun c hc => z68_one c (by simpa [Value.cells] using hc)⟩, rfl⟩
    refine Run.retL tab_ok Tryd.func21 rfl ?_ (fun M => rfl)
    exact ⟨rfl, trivial⟩
  · have h2 : k > 3 := by omega
    refine RunF_sound tab_ok noX_local 100 [false, true] _ _ rfl ?_ ?_
    · simp [h1, h2, fillL, s66]
      exact ⟨rfl, ⟨rfl, fun c hc => z68_one c (by simpa [Value.cells] using hc)⟩, rfl⟩
    refine Run.retL tab_ok Tryd.func21 rfl ?_ (fun M => rfl)
    exact ⟨rfl, trivial⟩
theorem build68 (g : FuncId) : evBuild tab 68 [(0, .func (.func g) #[] #[])] = some (True, .v (.agg #[.func (.func g) #[] #[]])) := by
  refine congrArg some (Prod.ext (propext ⟨fun _ => trivial, fun _ => ?_⟩) rfl)
  exact ⟨by simp [s66], rfl, by decide, trivial⟩
theorem globals_in (k : Int) (g : FuncId) (hk : k = 1 ∧ g = 49 ∨ k = 2 ∧ g = 50 ∨ k = 3 ∧ g = 55) (w : World) : Gives Tryd.prog 21 [.int .i64 k] w (.tuple #[.agg #[.func (.func g) #[] #[]], .bool true]) := by
  refine Gives.of_run Tryd.func21 rfl (by show 1 ≤ 17; decide) ?_
  rcases hk with ⟨rfl, rfl⟩ | ⟨rfl, rfl⟩ | ⟨rfl, rfl⟩
  all_goals
    refine RunF_sound tab_ok noX_local 100 [false, false] _ _ rfl ?_ ?_
    · simp
      exact rfl
    refine Run.buildF tab_ok rfl rfl rfl (build68 _) rfl rfl trivial ?_
    refine Run.buildF tab_ok rfl rfl rfl (build68 _) rfl rfl trivial ?_
    refine Run.buildF tab_ok rfl rfl rfl (build68 _) rfl rfl trivial ?_
    refine RunF_sound tab_ok noX_local 100 [] _ _ rfl ?_ ?_
    · simp [fillL, Value.cells, splice, show z103.length = 4 from rfl]
      first | exact ⟨fun c hc => List.all_eq_true.1 (show List.all _ Value.oneCell' = true from rfl) c hc, rfl⟩ | exact ⟨rfl, rfl⟩
    refine Run.retL tab_ok Tryd.func21 rfl ?_ (fun M => ?_)
    · exact ⟨rfl, trivial⟩
    rfl
theorem globals_enters : Enters Tryd.prog 21 := enters_mk Tryd.func21 (by decide) rfl
end Go.Proofs.YtmammebifhmnhaaDoor

/-
  The model's Uniproc and Global. Own work.
-/
namespace Go.Proofs.YtmammebifhmnhaaDoor
open Go.AM
set_option maxRecDepth 100000

noncomputable def unpR (W : Wo) : Rl := uniF (Rl.void W.p.n) ((upL W (meetL W.p (standsL 2 W.ev))).map (·.2))
set_option maxHeartbeats 1000000 in
theorem unp_ok (x : Xn) (w : World) (hX : SeesX w x) (hT : TabAt w) (h0w : 0 < w.heap.size) :
    Gives Tryd.prog 9 [encX x] w (encRel (unpR (woX x))) := by
  refine Gives.of_run Tryd.func9 rfl (by show 1 ≤ 10; decide) ?_
  have hone := xV_one hX.one1 hX.one4
  refine RunF_sound tab_ok noX_local 100 [] _ _ rfl ?_ ?_
  · simp
  refine Run.callH noX_local (.ptr 2 0) [(2, .cells 96 [.vals 262 (woV (woX x))])] 3 rfl rfl rfl rfl rfl rfl look_enters rfl rfl rfl rfl rfl (fun M w' hM hA => (look_ok x w' (hX.agree hA) (hT.agree hA (fun f => f)) (Nat.lt_of_lt_of_le h0w hA.size)).to [(2, 0)] rfl ⟨rfl, trivial⟩ rfl) ?_
  have hev : ∀ {w'}, Agree (fun _ => False) w w' → SeesV w' (woX x).pe (woX x).ev := fun hA => hX.ev.agree hA (fun _ _ h => h)
  generalize woX x = W at *
  refine RunF_sound tab_ok noX_local 100 [] _ _ rfl ?_ ?_
  · simp
  refine Run.callH noX_local (.sl 3 66 0 4) [(3, .row 98 66 4 (encNm (upL W (meetL W.p (standsL 2 W.ev)))))] 4 rfl rfl rfl rfl rfl rfl uniproc_enters rfl rfl rfl rfl rfl (fun M w' hM hA => (uniproc_ok W (M 2).1 w' (woAt_blk (hM 2 _ rfl)) (hev hA)).to [(3, 0)] rfl ⟨rfl, trivial⟩ rfl) ?_
  refine RunF_sound tab_ok noX_local 100 [] _ _ rfl ?_ ?_
  · simp
  refine Run.callM (r := encRel (unpR W)) noX_local rfl rfl rfl rfl rfl rfl tog_enters rfl (fun M w' hM hA => ?_) ?_
  · exact tog_ok W (M 2).1 _ _ _ w' (woAt_blk (hM 2 _ rfl)) (seesNm_row (hM 3 _ rfl)) (by simp [upL])
  refine RunF_sound tab_ok noX_local 100 [] _ _ rfl ?_ ?_
  · simp [relV_one', segsVals]
  refine Run.retP tab_ok Tryd.func9 rfl ?_ (fun M => ?_)
  · simp
  rfl
theorem unp_enters : Enters Tryd.prog 9 := enters_mk Tryd.func9 (by decide) rfl
end Go.Proofs.YtmammebifhmnhaaDoor

/-
  The abstract machine, thirty-first part: a plain function's value read as a function. Own work; over any program.
-/
namespace Go.AM

theorem Run.asFn {C : Ctx} {k : List Item} {σ : St} {g : FuncId} (i : Nat) (hi : lk σ.t i = some (.v (.func (.func g) #[] #[]))) (h : Run C k ⟨(i, .fn g []) :: σ.t, σ.h, σ.nx⟩) : Run C k σ := by
  intro M fp a w hR cs
  refine h M fp a w ⟨hR.toRelH, hR.size, hR.frozen, fun j x hx => ?_, hR.defers⟩ cs
  by_cases e : j = i
  · subst e
    have e1 : Nat.beq j j = true := Nat.beq_refl j
    simp only [lk, e1, Option.some.injEq] at hx
    subst hx
    have := hR.tmps _ _ hi
    simpa [conc, concL] using this
  · have e1 : Nat.beq j i = false := by
      cases h2 : Nat.beq j i with
      | false => rfl
      | true => exact absurd (Nat.eq_of_beq_eq_true h2) e
    simp only [lk, e1] at hx
    exact hR.tmps _ _ hx

/-- One cell of any type of one cell, loaded out of an owned block. -/
theorem Run.loadOne {C : Ctx} {ops : Array Oper} {i : Nat} {rest : List Nat} {k : List Item} {σ : St} {o : Oper} {T : Tab} {t id off s0 n e : Nat} {ti : TI} {segs : List Seg} {vs : List Value} {v : Value} {x : Operand}
    (hT : tabOK C.P T) (ho : ops[i]? = some o) (hop : o.op = .load t x) (hx : σ.ev x = some (.ptr id off)) (hi : lk T t = some ti) (h1 : oneCellTy ti.d = true) (hb : lk σ.h id = some (.cells e segs)) (hs : segAt segs 0 off = some (s0, .vals n vs)) (hv : vs[off - s0]? = some v)
    (hw : wantOf ops σ o = some .yes) (hd : dstOK C.n o.dst = true) (h : Run C (.inRegion ops rest :: k) (σ.put o.dst (.v v))) : Run C (.inRegion ops (i :: rest) :: k) σ := by
  intro M fp a w hR cs
  obtain ⟨m, s, z'⟩ := h M fp _ w (hR.put (z := .v v) (dstOK_lt hd)) cs
  refine ⟨m, .head (step_value ho (wantOf_yes hR.q hw) (fun c e => by rw [hop] at e; cases e) ?_) s, z'⟩
  have hB := hR.heap _ _ hb
  obtain ⟨_, hle, _⟩ := segAt_cell (M := M) hB.2 (Nat.zero_le _) hs
  have h2 := hR.q.ev hx
  simp only [conc] at h2
  have h3 := run_loadVar_one (w := w) hT hi h1 (vals_cells hB hs _ _ hv)
  rw [show s0 + (off - s0) = off by omega] at h3
  simp [execOp, hop, h2, Instr.loadAt, Instr.sureAddr, conc, h3]

/-- Less is known, along an order. -/
theorem RunO.to {C : Ctx} {held : List (Nat × Blk)} {n0 : Nat} {ops : Array Oper} {ord : List (Nat × Bool)} {k : List Item} {σ : St} (t' : List (Nat × AV)) (h' : List (Nat × Blk)) (n' : Nat)
    (h : RunO C held n0 ops ord k ⟨t', h', n'⟩) (ht : inT σ.t t') (hh : inT σ.h h') (hn : n0 ≤ n') : RunO C held n0 ops ord k σ :=
  fun M0 M fp a w hM _ hR hS => h M0 M fp a w hM hn (hR.weaken ⟨inT_lk ht, inT_lk hh⟩) hS
end Go.AM

/-
  The model's Global. Own work.
-/
namespace Go.Proofs.YtmammebifhmnhaaDoor
open Go.AM
set_option maxRecDepth 100000

set_option maxHeartbeats 1000000 in
theorem global_out (k : Int) (h : k < 1 ∨ k > 3) (x : Xn) (w : World) (hX : SeesX w x) :
    Gives Tryd.prog 7 [.int .i64 k, encX x] w (.tuple #[encRel (Rl.void 0), .int .i64 4]) := by
  refine Gives.of_run Tryd.func7 rfl (by show 2 ≤ 25; decide) ?_
  have hone := xV_one hX.one1 hX.one4
  refine RunF_sound tab_ok noX_local 100 [] _ _ rfl ?_ ?_
  · simp
  refine Run.callFn noX_local rfl rfl rfl rfl rfl rfl rfl globals_enters rfl (fun w' _ => globals_out k h w') ?_
  refine RunF_sound tab_ok noX_local 400 [true] _ _ rfl ?_ ?_
  · simp [segsVals, relV_one', fillL, Value.cells]
    exact ⟨rfl, rfl, rfl⟩
  refine Run.retL tab_ok Tryd.func7 rfl ?_ (fun M => ?_)
  · simp [fillL, Value.cells]
  rfl

/-- Global, for a model whose function is known. -/
theorem global_of (k : Int) (g : FuncId) (hk : k = 1 ∧ g = 49 ∨ k = 2 ∧ g = 50 ∨ k = 3 ∧ g = 55) (x : Xn) (w : World) (hX : SeesX w x) (hT : TabAt w) (h0w : 0 < w.heap.size)
    (n : Nat) (hn : n ≤ 64) (L : List (ByteArray × Rl)) (hL : L.length = n) (hent : Enters Tryd.prog g)
    (hg : ∀ w', Agree (fun _ => False) w w' → ∀ b, WoAt w' b (woX x) → HandsZ Tryd.prog g [.pointer (some ⟨b, 0, none⟩)] w' (.sl 0 66 0 n) [(0, .row 98 66 n (encNm L))]) :
    Gives Tryd.prog 7 [.int .i64 k, encX x] w (.tuple #[encRel (uniF (Rl.void (woX x).p.n) (L.map (·.2))), .int .i64 0]) := by
  refine Gives.of_run Tryd.func7 rfl (by show 2 ≤ 25; decide) ?_
  have hone := xV_one hX.one1 hX.one4
  refine RunF_sound tab_ok noX_local 100 [] _ _ rfl ?_ ?_
  · simp
  refine Run.callFn noX_local rfl rfl rfl rfl rfl rfl rfl globals_enters rfl (fun w' _ => globals_in k g hk w') ?_
  refine RunF_sound tab_ok noX_local 400 [false] _ _ rfl ?_ ?_
  · simp [segsVals]
    exact ⟨rfl, rfl, rfl⟩
  refine Run.callH noX_local (.ptr 3 0) [(3, .cells 96 [.vals 262 (woV (woX x))])] 4 rfl rfl rfl rfl rfl rfl look_enters rfl rfl rfl rfl rfl (fun M w' hM hA => (look_ok x w' (hX.agree hA) (hT.agree hA (fun f => f)) (Nat.lt_of_lt_of_le h0w hA.size)).to [(3, 0)] rfl ⟨rfl, trivial⟩ rfl) ?_
  generalize woX x = W at *
  refine RunF_sound tab_ok noX_local 100 [] _ _ rfl ?_ ?_
  · simp
  refine Run.loadOne (v := .func (.func g) #[] #[]) tab_ok rfl rfl rfl rfl rfl rfl rfl rfl rfl rfl ?_
  refine Run.asFn (g := g) 21 rfl ?_
  refine RunF_sound tab_ok noX_local 100 [] _ _ rfl ?_ ?_
  · simp
  refine Run.callH noX_local (.sl 4 66 0 n) [(4, .row 98 66 n (encNm L))] 5 rfl rfl rfl rfl rfl rfl hent rfl rfl rfl rfl rfl (fun M w' hM hA => (hg w' hA (M 3).1 (woAt_blk (hM 3 _ rfl))).to [(4, 0)] rfl ⟨rfl, trivial⟩ rfl) ?_
  refine RunF_sound tab_ok noX_local 100 [] _ _ rfl ?_ ?_
  · simp
  refine Run.callM (r := encRel (uniF (Rl.void W.p.n) (L.map (·.2)))) noX_local rfl rfl rfl rfl rfl rfl tog_enters rfl (fun M w' hM hA => ?_) ?_
  · subst hL
    exact tog_ok W (M 3).1 _ _ _ w' (woAt_blk (hM 3 _ rfl)) (seesNm_row (hM 4 _ rfl)) hn
  generalize uniF (Rl.void W.p.n) (L.map (·.2)) = R
  refine RunF_sound tab_ok noX_local 100 [] _ _ rfl ?_ ?_
  · simp [relV_one', segsVals]
  refine Run.retL tab_ok Tryd.func7 rfl ?_ (fun M => ?_)
  · simp
  rfl
end Go.Proofs.YtmammebifhmnhaaDoor

/-
  The reference's rels: bit, of. Own work.
-/
namespace Go.Proofs.YtmammebifhmnhaaDoor
open Go.AM
set_option maxRecDepth 100000

theorem bit_ok (S : BitVec 64) (j : Nat) (hj : j < 64) (w : World) : Gives Tryd.prog 25 [.int .u64 (un S), .int .i64 (j : Int)] w (.bool (S.getLsbD j)) := by
  refine Gives.of_run Tryd.func25 rfl (by show 2 ≤ 11; decide) ?_
  have hw := wrapn j (by omega)
  refine RunF_sound tab_ok noX_local 100 [] _ _ rfl ?_ ?_
  · simp [hw]
  refine Run.retP tab_ok Tryd.func25 rfl trivial (fun M => ?_)
  show Value.bool _ = _
  rw [hw, shr_un, show (1 : Int) = un 1#64 from rfl, band_un, Int.toNat_natCast]
  congr 1
  rw [Bool.eq_iff_iff, ← bit_iff]
  simp
theorem bit_enters : Enters Tryd.prog 25 := enters_mk Tryd.func25 (by decide) rfl

/-- What the reference keeps of an execution. -/
structure Rs where
  n : Int
  po : Rl
  lo : Rl
  it : Rl
  rm : Rl
  rf : Rl
  co : Rl
  fr : Rl
  mm : BitVec 64
  rw : BitVec 64
  wr : BitVec 64
  fe : BitVec 64
  lk : BitVec 64
def rsV (Q : Rs) : List Value := .int .i64 Q.n :: (relV Q.po ++ (relV Q.lo ++ (relV Q.it ++ (relV Q.rm ++ (relV Q.rf ++ (relV Q.co ++ (relV Q.fr ++ [.int .u64 (un Q.mm), .int .u64 (un Q.rw), .int .u64 (un Q.wr), .int .u64 (un Q.fe), .int .u64 (un Q.lk)])))))))
def encRs (Q : Rs) : Value := .agg (rsV Q).toArray
theorem rsV_len (Q : Rs) : (rsV Q).length = 461 := by simp [rsV]
theorem rsV_one (Q : Rs) : ∀ c ∈ rsV Q, c.oneCell' = true := fun c hc => by
  simp only [rsV, List.mem_cons, List.mem_append, List.not_mem_nil, or_false] at hc
  rcases hc with rfl | h | h | h | h | h | h | h | rfl | rfl | rfl | rfl | rfl
  · rfl
  all_goals first | exact (relV_one' _).2 trivial c h | rfl
noncomputable def rsX (x : Xn) : Rs := ⟨((shortL x.ev).length : Int), standsL 1 x.ev, standsL 2 x.ev, standsL 4 x.ev, standsL 5 x.ev, kRf x, kCo x, kFr x, thoseL memB x.ev,
  thoseL (fun e => decide (e.kind = 1)) x.ev ||| thoseL (fun e => decide (e.kind = 2)) x.ev, thoseL (fun e => decide (e.kind = 3)) x.ev, thoseL (fun e => decide (e.kind = 4)) x.ev, thoseL (fun e => e.locked) x.ev⟩

theorem shortL_idem (xs : List Ev) : shortL (shortL xs) = shortL xs := by
  have := shortL_le xs
  rw [shortL, if_neg (by omega)]
theorem standsL_short (k : Int) (xs : List Ev) : standsL k (shortL xs) = standsL k xs := by unfold standsL pairsL; rw [shortL_idem]
theorem thoseL_short (T : Ev → Bool) (xs : List Ev) : thoseL T (shortL xs) = thoseL T xs := by unfold thoseL; rw [shortL_idem]

set_option maxHeartbeats 10000000 in
theorem rof_ok (x : Xn) (w : World) (hX : SeesX w x) : Gives Tryd.prog 24 [encX x] w (encRs (rsX x)) := by
  refine Gives.of_run Tryd.func24 rfl (by show 1 ≤ 37; decide) ?_
  have hone := xV_one hX.one1 hX.one4
  refine RunF_sound tab_ok noX_local 100 [] _ _ rfl ?_ ?_
  · simp
    rfl
  refine Run.callFn noX_local rfl rfl rfl rfl rfl rfl rfl shortR_enters rfl (fun w' _ => shortR_ok x.pe x.ce x.ev w') ?_
  obtain ⟨p', c', e1, hs'⟩ := short_form x.ce hX.ev
  have hle := shortL_le x.ev
  rw [e1]
  have hQ : rsX x = ⟨((shortL x.ev).length : Int), standsL 1 (shortL x.ev), standsL 2 (shortL x.ev), standsL 4 (shortL x.ev), standsL 5 (shortL x.ev), kRf x, kCo x, kFr x, thoseL memB (shortL x.ev),
    thoseL (fun e => decide (e.kind = 1)) (shortL x.ev) ||| thoseL (fun e => decide (e.kind = 2)) (shortL x.ev), thoseL (fun e => decide (e.kind = 3)) (shortL x.ev), thoseL (fun e => decide (e.kind = 4)) (shortL x.ev), thoseL (fun e => e.locked) (shortL x.ev)⟩ := by
    simp only [standsL_short, thoseL_short]; rfl
  rw [hQ]
  have hrf := fun w' hA => rfR_ok x w' (hX.agree hA)
  have hco := fun w' hA => coR_ok x w' (hX.agree hA)
  have hfr := fun w' hA => frR_ok x w' (hX.agree hA)
  change ∀ (w' : World), _ → Gives _ _ _ _ (encRel (kRf x)) at hrf
  change ∀ (w' : World), _ → Gives _ _ _ _ (encRel (kCo x)) at hco
  change ∀ (w' : World), _ → Gives _ _ _ _ (encRel (kFr x)) at hfr
  generalize kRf x = A5 at *
  generalize kCo x = A6 at *
  generalize kFr x = A7 at *
  generalize shortL x.ev = L at *
  have hev : ∀ {w'}, Agree (fun _ => False) w w' → SeesV w' p' L := fun hA => hs'.agree hA (fun _ _ h => h)
  refine RunF_sound tab_ok noX_local 100 [] _ _ rfl ?_ ?_
  · simp
  refine Run.drawA noX_local rfl [] [(0, .cells 28 [.vals 5 (xV x)])] rfl rfl ⟨rfl, trivial⟩ ?_
  refine RunOF_sound tab_ok noX_local rfl rfl 100 [] _ _ rfl ?_ ?_
  · simp
  refine RunO.callFn (r := encRel (standsL 1 L)) noX_local rfl rfl rfl rfl rfl rfl rfl rfl refRel_enters rfl (fun w' hA => refRel_ok 1 p' c' L w' (hev hA)) ?_
  generalize standsL 1 L = A1
  refine RunOF_sound tab_ok noX_local rfl rfl 100 [] _ _ rfl ?_ ?_
  · simp
  refine RunO.callFn (r := encRel (standsL 2 L)) noX_local rfl rfl rfl rfl rfl rfl rfl rfl refRel_enters rfl (fun w' hA => refRel_ok 2 p' c' L w' (hev hA)) ?_
  generalize standsL 2 L = A2
  refine RunOF_sound tab_ok noX_local rfl rfl 100 [] _ _ rfl ?_ ?_
  · simp
  refine RunO.callFn (r := encRel (standsL 4 L)) noX_local rfl rfl rfl rfl rfl rfl rfl rfl refRel_enters rfl (fun w' hA => refRel_ok 4 p' c' L w' (hev hA)) ?_
  generalize standsL 4 L = A3
  refine RunOF_sound tab_ok noX_local rfl rfl 100 [] _ _ rfl ?_ ?_
  · simp
  refine RunO.callFn (r := encRel (standsL 5 L)) noX_local rfl rfl rfl rfl rfl rfl rfl rfl refRel_enters rfl (fun w' hA => refRel_ok 5 p' c' L w' (hev hA)) ?_
  generalize standsL 5 L = A4
  refine RunO.to [(1, .ptr 0 0), (2, .ptr 1 0), (8, .v (.int .i64 (L.length : Int))), (10, .v (encRel A1)), (12, .v (encRel A2)), (14, .v (encRel A3)), (16, .v (encRel A4)), (17, .v (encX x)), (19, .v (encX x)), (21, .v (encX x)), (23, .v (.slice p' L.length c')), (25, .v (.slice p' L.length c')), (27, .v (.slice p' L.length c')), (30, .v (.slice p' L.length c')), (32, .v (.slice p' L.length c')), (34, .v (.slice p' L.length c'))] [(1, .cells 76 [.vals 461 z76]), (0, .cells 28 [.vals 5 (xV x)])] 2 ?_ ⟨rfl, rfl, rfl, rfl, rfl, rfl, rfl, rfl, rfl, rfl, rfl, rfl, rfl, rfl, rfl, rfl, trivial⟩ ⟨rfl, rfl, trivial⟩ (Nat.le_refl 2)
  refine RunOF_sound tab_ok noX_local rfl rfl 100 [] _ _ rfl ?_ ?_
  · simp
  refine RunO.callFn (r := encRel A5) noX_local rfl rfl rfl rfl rfl rfl rfl rfl rfR_enters rfl (fun w' hA => hrf w' hA) ?_
  refine RunOF_sound tab_ok noX_local rfl rfl 100 [] _ _ rfl ?_ ?_
  · simp
  refine RunO.callFn (r := encRel A6) noX_local rfl rfl rfl rfl rfl rfl rfl rfl coR_enters rfl (fun w' hA => hco w' hA) ?_
  refine RunOF_sound tab_ok noX_local rfl rfl 100 [] _ _ rfl ?_ ?_
  · simp
  refine RunO.callFn (r := encRel A7) noX_local rfl rfl rfl rfl rfl rfl rfl rfl frR_enters rfl (fun w' hA => hfr w' hA) ?_
  refine RunOF_sound tab_ok noX_local rfl rfl 100 [] _ _ rfl ?_ ?_
  · simp
  refine RunO.callFn (r := .int .u64 (un (thoseL memB L))) noX_local rfl rfl rfl rfl rfl rfl rfl rfl memoryR_enters rfl (fun w' hA => memoryR_ok p' c' L w' (hev hA)) ?_
  generalize thoseL memB L = S1
  refine RunO.to [(1, .ptr 0 0), (2, .ptr 1 0), (8, .v (.int .i64 (L.length : Int))), (10, .v (encRel A1)), (12, .v (encRel A2)), (14, .v (encRel A3)), (16, .v (encRel A4)), (18, .v (encRel A5)), (20, .v (encRel A6)), (22, .v (encRel A7)), (24, .v (.int .u64 (un S1))), (25, .v (.slice p' L.length c')), (27, .v (.slice p' L.length c')), (30, .v (.slice p' L.length c')), (32, .v (.slice p' L.length c')), (34, .v (.slice p' L.length c'))] [(1, .cells 76 [.vals 461 z76]), (0, .cells 28 [.vals 5 (xV x)])] 2 ?_ ⟨rfl, rfl, rfl, rfl, rfl, rfl, rfl, rfl, rfl, rfl, rfl, rfl, rfl, rfl, rfl, rfl, trivial⟩ ⟨rfl, rfl, trivial⟩ (Nat.le_refl 2)
  refine RunOF_sound tab_ok noX_local rfl rfl 100 [] _ _ rfl ?_ ?_
  · simp
  refine RunO.callFn (r := .int .u64 (un (thoseL (fun e => decide (e.kind = 1)) L))) noX_local rfl rfl rfl rfl rfl rfl rfl rfl ofR_enters rfl (fun w' hA => ofR_ok p' c' L 1 w' (hev hA)) ?_
  generalize thoseL (fun e => decide (e.kind = 1)) L = S2
  refine RunOF_sound tab_ok noX_local rfl rfl 100 [] _ _ rfl ?_ ?_
  · simp
  refine RunO.callFn (r := .int .u64 (un (thoseL (fun e => decide (e.kind = 2)) L))) noX_local rfl rfl rfl rfl rfl rfl rfl rfl ofR_enters rfl (fun w' hA => ofR_ok p' c' L 2 w' (hev hA)) ?_
  generalize thoseL (fun e => decide (e.kind = 2)) L = S3
  refine RunO.to [(1, .ptr 0 0), (2, .ptr 1 0), (8, .v (.int .i64 (L.length : Int))), (10, .v (encRel A1)), (12, .v (encRel A2)), (14, .v (encRel A3)), (16, .v (encRel A4)), (18, .v (encRel A5)), (20, .v (encRel A6)), (22, .v (encRel A7)), (24, .v (.int .u64 (un S1))), (26, .v (.int .u64 (un S2))), (28, .v (.int .u64 (un S3))), (30, .v (.slice p' L.length c')), (32, .v (.slice p' L.length c')), (34, .v (.slice p' L.length c'))] [(1, .cells 76 [.vals 461 z76]), (0, .cells 28 [.vals 5 (xV x)])] 2 ?_ ⟨rfl, rfl, rfl, rfl, rfl, rfl, rfl, rfl, rfl, rfl, rfl, rfl, rfl, rfl, rfl, rfl, trivial⟩ ⟨rfl, rfl, trivial⟩ (Nat.le_refl 2)
  refine RunOF_sound tab_ok noX_local rfl rfl 100 [] _ _ rfl ?_ ?_
  · simp
  refine RunO.callFn (r := .int .u64 (un (thoseL (fun e => decide (e.kind = 3)) L))) noX_local rfl rfl rfl rfl rfl rfl rfl rfl ofR_enters rfl (fun w' hA => ofR_ok p' c' L 3 w' (hev hA)) ?_
  generalize thoseL (fun e => decide (e.kind = 3)) L = S4
  refine RunOF_sound tab_ok noX_local rfl rfl 100 [] _ _ rfl ?_ ?_
  · simp
  refine RunO.callFn (r := .int .u64 (un (thoseL (fun e => decide (e.kind = 4)) L))) noX_local rfl rfl rfl rfl rfl rfl rfl rfl ofR_enters rfl (fun w' hA => ofR_ok p' c' L 4 w' (hev hA)) ?_
  generalize thoseL (fun e => decide (e.kind = 4)) L = S5
  refine RunOF_sound tab_ok noX_local rfl rfl 100 [] _ _ rfl ?_ ?_
  · simp
  refine RunO.callFn (r := .int .u64 (un (thoseL (fun e => e.locked) L))) noX_local rfl rfl rfl rfl rfl rfl rfl rfl lockedR_enters rfl (fun w' hA => lockedR_ok p' c' L w' (hev hA)) ?_
  generalize thoseL (fun e => e.locked) L = S6
  refine RunO.to [(1, .ptr 0 0), (2, .ptr 1 0), (8, .v (.int .i64 (L.length : Int))), (10, .v (encRel A1)), (12, .v (encRel A2)), (14, .v (encRel A3)), (16, .v (encRel A4)), (18, .v (encRel A5)), (20, .v (encRel A6)), (22, .v (encRel A7)), (24, .v (.int .u64 (un S1))), (29, .v (.int .u64 (bor .u64 (un S2) (un S3)))), (31, .v (.int .u64 (un S4))), (33, .v (.int .u64 (un S5))), (35, .v (.int .u64 (un S6)))] [(1, .cells 76 [.vals 461 z76]), (0, .cells 28 [.vals 5 (xV x)])] 2 ?_ ⟨rfl, rfl, rfl, rfl, rfl, rfl, rfl, rfl, rfl, rfl, rfl, rfl, rfl, rfl, rfl, trivial⟩ ⟨rfl, rfl, trivial⟩ (Nat.le_refl 2)
  refine RunOF_sound tab_ok noX_local rfl rfl 100 [] _ _ rfl ?_ ?_
  · simp
  have hbor : bor .u64 (un S2) (un S3) = un (S2 ||| S3) := bor_un _ _
  refine RunO.build (p := True) (z := .v (encRs ⟨(L.length : Int), A1, A2, A3, A4, A5, A6, A7, S1, S2 ||| S3, S4, S5, S6⟩)) tab_ok rfl rfl rfl rfl ?_ rfl rfl trivial ?_
  · refine congrArg some (Prod.ext (propext ⟨fun _ => trivial, fun _ => ?_⟩) ?_)
    · simp [fillL, splice, Value.cells, encRel, show tab.size 34 = some 65 from rfl, show tab.size 31 = some 1 from rfl, show tab.size 3 = some 1 from rfl, show z76.length = 461 from rfl]
    · simp [fillL, splice, Value.cells, encRel, show tab.size 34 = some 65 from rfl, show tab.size 31 = some 1 from rfl, show tab.size 3 = some 1 from rfl, show z76.length = 461 from rfl]
      simp [List.take_append, List.drop_append, List.take_of_length_le, List.drop_of_length_le, encRs, rsV, show z76.length = 461 from rfl]
  unfold encRs
  have hl := rsV_len ⟨(L.length : Int), A1, A2, A3, A4, A5, A6, A7, S1, S2 ||| S3, S4, S5, S6⟩
  have h1 := rsV_one ⟨(L.length : Int), A1, A2, A3, A4, A5, A6, A7, S1, S2 ||| S3, S4, S5, S6⟩
  generalize rsV ⟨(L.length : Int), A1, A2, A3, A4, A5, A6, A7, S1, S2 ||| S3, S4, S5, S6⟩ = WV at *
  refine RunOF_sound tab_ok noX_local rfl rfl 100 [] _ _ rfl ?_ ?_
  · simp [segsVals, inT, hl]
    exact ⟨⟨h1, rfl⟩, rfl⟩
  refine RunO.done ?_
  refine RunF_sound tab_ok noX_local 100 [] _ _ rfl ?_ ?_
  · simp
  refine Run.retP tab_ok Tryd.func24 rfl ?_ (fun M => ?_)
  · simp [hl]
  rfl
theorem rof_enters : Enters Tryd.prog 24 := enters_mk Tryd.func24 (by decide) rfl
end Go.Proofs.YtmammebifhmnhaaDoor

/-
  The reference's rels as they lie in a block: what is looked up. fenced. Own work.
-/
namespace Go.Proofs.YtmammebifhmnhaaDoor
open Go.AM
set_option maxRecDepth 100000

/-- The reference's relations are over n numbers. -/
structure RsOK (n : Nat) (Q : Rs) : Prop where
  le : n ≤ 64
  sz : Q.n = (n : Int)
  po : Wd n Q.po
  lo : Wd n Q.lo
  it : Wd n Q.it
  rm : Wd n Q.rm
  rf : Wd n Q.rf
  co : Wd n Q.co
  fr : Wd n Q.fr
theorem rsX_ok (x : Xn) : RsOK (shortL x.ev).length (rsX x) := ⟨shortL_le _, rfl, stands_wd _ _, stands_wd _ _, stands_wd _ _, stands_wd _ _, kRf_wd x, kCo_wd x, kFr_wd x⟩

theorem relV_at (R : Rl) {a : Nat} (ha : a < 64) (t : List Value) : (relV R ++ t)[1 + a]? = some (.int .u64 (un (R.row a))) := by
  rw [List.getElem?_append_left (by simp; omega), Nat.add_comm, relV, List.getElem?_cons_succ, rowV]
  simp [Rl.row, ha]
theorem rel_skip (R : Rl) (t : List Value) (j : Nat) : (relV R ++ t)[65 + j]? = t[j]? := by
  rw [List.getElem?_append_right (by simp), relV_length, Nat.add_sub_cancel_left]
theorem rs_n (Q : Rs) : (rsV Q)[0]? = some (.int .i64 Q.n) := rfl
theorem rs_po (Q : Rs) {a : Nat} (ha : a < 64) : (rsV Q)[2 + a]? = some (.int .u64 (un (Q.po.row a))) := by
  rw [rsV, show 2 + a = (1 + a) + 1 by omega, List.getElem?_cons_succ]; exact relV_at _ ha _
theorem rs_lo (Q : Rs) {a : Nat} (ha : a < 64) : (rsV Q)[67 + a]? = some (.int .u64 (un (Q.lo.row a))) := by
  rw [rsV, show 67 + a = (65 + (1 + a)) + 1 by omega, List.getElem?_cons_succ, rel_skip]; exact relV_at _ ha _
theorem rs_it (Q : Rs) {a : Nat} (ha : a < 64) : (rsV Q)[132 + a]? = some (.int .u64 (un (Q.it.row a))) := by
  rw [rsV, show 132 + a = (65 + (65 + (1 + a))) + 1 by omega, List.getElem?_cons_succ, rel_skip, rel_skip]; exact relV_at _ ha _
theorem rs_rm (Q : Rs) {a : Nat} (ha : a < 64) : (rsV Q)[197 + a]? = some (.int .u64 (un (Q.rm.row a))) := by
  rw [rsV, show 197 + a = (65 + (65 + (65 + (1 + a)))) + 1 by omega, List.getElem?_cons_succ, rel_skip, rel_skip, rel_skip]; exact relV_at _ ha _
theorem rs_rf (Q : Rs) {a : Nat} (ha : a < 64) : (rsV Q)[262 + a]? = some (.int .u64 (un (Q.rf.row a))) := by
  rw [rsV, show 262 + a = (65 + (65 + (65 + (65 + (1 + a))))) + 1 by omega, List.getElem?_cons_succ, rel_skip, rel_skip, rel_skip, rel_skip]; exact relV_at _ ha _
theorem rs_co (Q : Rs) {a : Nat} (ha : a < 64) : (rsV Q)[327 + a]? = some (.int .u64 (un (Q.co.row a))) := by
  rw [rsV, show 327 + a = (65 + (65 + (65 + (65 + (65 + (1 + a)))))) + 1 by omega, List.getElem?_cons_succ, rel_skip, rel_skip, rel_skip, rel_skip, rel_skip]; exact relV_at _ ha _
theorem rs_fr (Q : Rs) {a : Nat} (ha : a < 64) : (rsV Q)[392 + a]? = some (.int .u64 (un (Q.fr.row a))) := by
  rw [rsV, show 392 + a = (65 + (65 + (65 + (65 + (65 + (65 + (1 + a))))))) + 1 by omega, List.getElem?_cons_succ, rel_skip, rel_skip, rel_skip, rel_skip, rel_skip, rel_skip]; exact relV_at _ ha _
theorem rs_end (Q : Rs) (j : Nat) : (rsV Q)[456 + j]? = [Value.int .u64 (un Q.mm), .int .u64 (un Q.rw), .int .u64 (un Q.wr), .int .u64 (un Q.fe), .int .u64 (un Q.lk)][j]? := by
  rw [rsV, show 456 + j = (65 + (65 + (65 + (65 + (65 + (65 + (65 + j))))))) + 1 by omega, List.getElem?_cons_succ, rel_skip, rel_skip, rel_skip, rel_skip, rel_skip, rel_skip, rel_skip]
theorem rs_fe (Q : Rs) : (rsV Q)[459]? = some (.int .u64 (un Q.fe)) := rs_end Q 3
theorem rs_mm (Q : Rs) : (rsV Q)[456]? = some (.int .u64 (un Q.mm)) := rs_end Q 0
theorem rs_rw (Q : Rs) : (rsV Q)[457]? = some (.int .u64 (un Q.rw)) := rs_end Q 1
theorem rs_wr (Q : Rs) : (rsV Q)[458]? = some (.int .u64 (un Q.wr)) := rs_end Q 2
theorem rs_lk (Q : Rs) : (rsV Q)[460]? = some (.int .u64 (un Q.lk)) := rs_end Q 4
theorem int_of {vs : List Value} {j : Nat} {k : IntKind} {n : Int} (h : vs[j]? = some (.int k n)) : intAt vs j = n := by unfold intAt; rw [h]

def fenB (n : Nat) (Q : Rs) (a b : Nat) : Bool := (List.range n).any fun k => Q.fe.getLsbD k && (Q.po.has a k && Q.po.has k b)

set_option maxHeartbeats 1000000 in
theorem fenR_ok (Q : Rs) (n : Nat) (hQ : RsOK n Q) (a b : Nat) (ha : a < 64) (hb : b < 64) (w : World) :
    Gives Tryd.prog 26 [encRs Q, .int .i64 (a : Int), .int .i64 (b : Int)] w (.bool (fenB n Q a b)) := by
  refine Gives.of_run Tryd.func26 rfl (by show 3 ≤ 36; decide) ?_
  have hl := rsV_len Q
  have h1 := rsV_one Q
  have hn64 := hQ.le
  have g0 := rs_n Q
  rw [hQ.sz] at g0
  have gf := rs_fe Q
  have gp := fun (i : Nat) (hi : i < 64) => rs_po Q hi
  have e0 := int_of g0
  have ef := int_of gf
  have ep := fun (i : Nat) (hi : i < 64) => int_of (gp i hi)
  have ep' : ∀ (i : Nat), i < 64 → intAt (rsV Q) (0 + 1 + 1 - 0 + i * 1) = un (Q.po.row i) := fun i hi => by rw [show 0 + 1 + 1 - 0 + i * 1 = 2 + i by omega]; exact ep i hi
  unfold encRs
  generalize rsV Q = V at *
  refine RunF_sound tab_ok noX_local 100 [] _ _ rfl ?_ ?_
  · simp [hl]
  suffices H : ∀ (d k : Nat), k + d = n → (List.range k).any (fun k => Q.fe.getLsbD k && (Q.po.has a k && Q.po.has k b)) = false → ∀ σ, inT σ.t [(1, .v (.int .i64 (a : Int))), (2, .v (.int .i64 (b : Int))), (3, .ptr 0 0), (7, .v (.int .i64 (k : Int)))] →
      inT σ.h [(0, .cells 76 [.vals 461 V])] → Run _ _ σ by
    exact H n 0 (by omega) rfl _ ⟨rfl, rfl, rfl, rfl, trivial⟩ ⟨rfl, trivial⟩
  intro d
  induction d with
  | zero =>
    intro k hk hz σ ht hh
    refine Run.to ?_ ht hh (n' := 1)
    obtain rfl : k = n := by omega
    refine RunF_sound tab_ok noX_local 100 [false] _ _ rfl ?_ ?_
    · simp [e0, g0]
    refine Run.retP tab_ok Tryd.func26 rfl ?_ (fun M => ?_)
    · simp
    unfold fenB
    rw [hz]; rfl
  | succ d ih =>
    intro k hk hz σ ht hh
    refine Run.to ?_ ht hh (n' := 1)
    have hk64 : k < 64 := by omega
    have hstep : (List.range (k + 1)).any (fun k => Q.fe.getLsbD k && (Q.po.has a k && Q.po.has k b)) = (Q.fe.getLsbD k && (Q.po.has a k && Q.po.has k b)) := by
      rw [List.range_succ, List.any_append, hz]; simp
    have hyes : (Q.fe.getLsbD k && (Q.po.has a k && Q.po.has k b)) = true → fenB n Q a b = true := fun h =>
      List.any_eq_true.2 ⟨k, List.mem_range.2 (by omega), h⟩
    refine RunF_sound tab_ok noX_local 100 [true] _ _ rfl ?_ ?_
    · simp [e0, g0, ef, gf]; omega
    simp only [ef]
    refine Run.callFn (r := .bool (Q.fe.getLsbD k)) noX_local rfl rfl rfl rfl rfl rfl rfl bit_enters rfl (fun w' _ => bit_ok Q.fe k hk64 w') ?_
    cases c1 : Q.fe.getLsbD k with
    | false =>
      refine RunF_sound tab_ok noX_local 100 [false, false, false] _ _ rfl ?_ ?_
      · simp
      exact ih (k + 1) (by omega) (by rw [hstep, c1]; rfl) _ ⟨rfl, rfl, rfl, i64_eq (wrap_succ (by omega)), trivial⟩ ⟨rfl, trivial⟩
    | true =>
      refine RunF_sound tab_ok noX_local 100 [true] _ _ rfl ?_ ?_
      · simp [gp a ha, ep a ha]
        omega
      simp only [Int.toNat_natCast, ep' a ha]
      refine Run.callFn (r := .bool (Q.po.has a k)) noX_local rfl rfl rfl rfl rfl rfl rfl bit_enters rfl (fun w' _ => ?_) ?_
      · exact bit_ok (Q.po.row a) k hk64 w'
      cases c2 : Q.po.has a k with
      | false =>
        refine RunF_sound tab_ok noX_local 100 [false, false] _ _ rfl ?_ ?_
        · simp
        exact ih (k + 1) (by omega) (by rw [hstep, c1, c2]; rfl) _ ⟨rfl, rfl, rfl, i64_eq (wrap_succ (by omega)), trivial⟩ ⟨rfl, trivial⟩
      | true =>
        refine RunF_sound tab_ok noX_local 100 [true] _ _ rfl ?_ ?_
        · simp [gp k hk64, ep k hk64]
          omega
        simp only [Int.toNat_natCast, ep' k hk64]
        refine Run.callFn (r := .bool (Q.po.has k b)) noX_local rfl rfl rfl rfl rfl rfl rfl bit_enters rfl (fun w' _ => ?_) ?_
        · exact bit_ok (Q.po.row k) b hb w'
        cases c3 : Q.po.has k b with
        | false =>
          refine RunF_sound tab_ok noX_local 100 [false] _ _ rfl ?_ ?_
          · simp
          exact ih (k + 1) (by omega) (by rw [hstep, c1, c2, c3]; rfl) _ ⟨rfl, rfl, rfl, i64_eq (wrap_succ (by omega)), trivial⟩ ⟨rfl, trivial⟩
        | true =>
          refine RunF_sound tab_ok noX_local 100 [true] _ _ rfl ?_ ?_
          · simp
          refine Run.retP tab_ok Tryd.func26 rfl ?_ (fun M => ?_)
          · simp
          rw [hyes (by rw [c1, c2, c3]; rfl)]; rfl
theorem fenR_enters : Enters Tryd.prog 26 := enters_mk Tryd.func26 (by decide) rfl
end Go.Proofs.YtmammebifhmnhaaDoor

/-
  The reference's Uniproc. Own work.
-/
namespace Go.Proofs.YtmammebifhmnhaaDoor
open Go.AM
set_option maxRecDepth 100000

def unpW (Q : Rs) (i : Nat) : BitVec 64 := (((Q.po.row i &&& Q.lo.row i) ||| Q.rf.row i) ||| Q.co.row i) ||| Q.fr.row i
def unpP (n : Int) (Q : Rs) : Nat → Rl
  | 0 => Rl.void n
  | i + 1 => (unpP n Q i).setRow i (unpW Q i)
theorem unpP_n (n : Int) (Q : Rs) : ∀ i, (unpP n Q i).n = n
  | 0 => rfl
  | i + 1 => by rw [unpP, Rl.n_setRow, unpP_n n Q i]
theorem unpP_row (n : Int) (Q : Rs) (a : Nat) : ∀ i, i ≤ 64 → (unpP n Q i).row a = if a < i then unpW Q a else 0#64
  | 0, _ => by rw [unpP, Rl.row_void, if_neg (by omega)]
  | i + 1, hi => by
    rw [unpP, Rl.row_setRow, unpP_row n Q a i (by omega)]
    by_cases c : i = a
    · subst c; rw [if_pos ⟨rfl, by omega⟩, if_pos (by omega)]
    · rw [if_neg (fun h => c h.1)]
      by_cases d : a < i
      · rw [if_pos d, if_pos (by omega)]
      · rw [if_neg d, if_neg (by omega)]

set_option maxHeartbeats 1000000 in
theorem unpR_ok (x : Xn) (w : World) (hX : SeesX w x) :
    Gives Tryd.prog 10 [encX x] w (encRel (unpP ((shortL x.ev).length : Int) (rsX x) (shortL x.ev).length)) := by
  refine Gives.of_run Tryd.func10 rfl (by show 1 ≤ 50; decide) ?_
  have hone := xV_one hX.one1 hX.one4
  have hrof := fun w' hA => rof_ok x w' (hX.agree hA)
  have hQ := rsX_ok x
  generalize rsX x = Q at *
  generalize (shortL x.ev).length = n at *
  refine RunF_sound tab_ok noX_local 100 [] _ _ rfl ?_ ?_
  · simp
  refine Run.callFn (r := encRs Q) noX_local rfl rfl rfl rfl rfl rfl rfl rof_enters rfl (fun w' hA => hrof w' hA) ?_
  have hl := rsV_len Q
  have h1 := rsV_one Q
  have hn64 := hQ.le
  have g0 := rs_n Q
  rw [hQ.sz] at g0
  have e0 := int_of g0
  have gpo := fun (i : Nat) (hi : i < 64) => rs_po Q hi
  have glo := fun (i : Nat) (hi : i < 64) => rs_lo Q hi
  have grf := fun (i : Nat) (hi : i < 64) => rs_rf Q hi
  have gco := fun (i : Nat) (hi : i < 64) => rs_co Q hi
  have gfr := fun (i : Nat) (hi : i < 64) => rs_fr Q hi
  have epo := fun (i : Nat) (hi : i < 64) => int_of (gpo i hi)
  have elo := fun (i : Nat) (hi : i < 64) => int_of (glo i hi)
  have erf := fun (i : Nat) (hi : i < 64) => int_of (grf i hi)
  have eco := fun (i : Nat) (hi : i < 64) => int_of (gco i hi)
  have efr := fun (i : Nat) (hi : i < 64) => int_of (gfr i hi)
  unfold encRs
  generalize rsV Q = V at *
  refine RunF_sound tab_ok noX_local 100 [] _ _ rfl ?_ ?_
  · simp [segsVals, hl, e0, fillL, Value.cells, splice, relV_tail_one]
    exact ⟨rfl, ⟨h1, rfl⟩, (List.getElem?_eq_some_iff.1 g0).2⟩
  suffices H : ∀ (d k : Nat), k + d = n → ∀ σ, inT σ.t [(2, .ptr 1 0), (3, .ptr 2 0), (4, .ptr 3 0), (5, .v (.int .i64 (k : Int)))] →
      inT σ.h [(1, .cells 34 [.vals 65 (relV (Rl.void 0))]), (2, .cells 76 [.vals 461 V]), (3, .cells 34 [.vals 65 (relV (unpP (n : Int) Q k))])] → Run _ _ σ by
    refine H n 0 (by omega) _ ⟨rfl, rfl, rfl, rfl, trivial⟩ ⟨rfl, rfl, ?_, trivial⟩
    simp only [e0]
    rfl
  intro d
  induction d with
  | zero =>
    intro k hk σ ht hh
    refine Run.to ?_ ht hh (n' := 4)
    obtain rfl : k = n := by omega
    refine RunF_sound tab_ok noX_local 100 [false] _ _ rfl ?_ ?_
    · simp [e0, g0, segsVals, relV_one']
    refine Run.retP tab_ok Tryd.func10 rfl ?_ (fun M => ?_)
    · simp
    rfl
  | succ d ih =>
    intro k hk σ ht hh
    refine Run.to ?_ ht hh (n' := 4)
    have hk64 : k < 64 := by omega
    refine RunF_sound tab_ok noX_local 100 [true] _ _ rfl ?_ ?_
    · simp [e0, g0]; omega
    refine Run.drawA noX_local rfl [] [(2, .cells 76 [.vals 461 V]), (3, .cells 34 [.vals 65 (relV (unpP (n : Int) Q k))])] rfl rfl ⟨rfl, rfl, trivial⟩ ?_
    refine RunOF_sound tab_ok noX_local rfl rfl 32 [] _ _ rfl ?_ ?_
    · simp [gpo k hk64, epo k hk64, glo k hk64, elo k hk64, grf k hk64, erf k hk64, gco k hk64, eco k hk64, gfr k hk64, efr k hk64]
      omega
    refine RunO.effLast tab_ok noX_local rfl rfl rfl rfl ?_ (fun e => by cases e) rfl ?_
    · simp [okCell, Value.oneCell']
      omega
    refine RunF_sound tab_ok noX_local 100 [] _ _ rfl ?_ ?_
    · simp
    refine ih (k + 1) (by omega) _ ⟨rfl, rfl, rfl, i64_eq (wrap_succ (by omega)), trivial⟩ ⟨rfl, rfl, congrArg (fun l => some (Blk.cells 34 [.vals 65 l])) ?_, trivial⟩
    simp [epo k hk64, elo k hk64, erf k hk64, eco k hk64, efr k hk64, relV_set _ _ hk64, unpP, unpW]
theorem unpR_enters : Enters Tryd.prog 10 := enters_mk Tryd.func10 (by decide) rfl
end Go.Proofs.YtmammebifhmnhaaDoor

/-
  Own work, merged: AM36, AM41, A17, AM26, AM42, A18, A9, A10, A20, A21, A22, A23, A6, A7, A8.
-/
import Derived.AtR
import Derived.Below
import Derived.ChangeKeysEq
import Derived.KernelRfl
import Derived.LaidMore
import Derived.Laws.AppendOwn
import Derived.Laws.BytesString
import Derived.Laws.Cells
import Derived.Laws.CopyRow
import Derived.Laws.Entries
import Derived.Laws.Rows
import Derived.Laws.Small
import Derived.Laws.StructEq
import Derived.Lib.LaidTab
import Derived.Lib.TrailingZeros
import Derived.MapKept
import Derived.Maps.AppendAt
import Derived.OpenShut
import Derived.Orders
import Derived.ProofKit
import Derived.RangeFuncRecord
import Derived.SevenTiedAt
import Derived.Stop.Joined
import Derived.Test.YtmammebifhmnhaaDoorCards
import Derived.Test.YtmammebifhmnhaaDoorProg
import Derived.Test.YtmammebifhmnhaaDoorRows
import Derived.Test.YtmammebifhmnhaaDoorTie
import Derived.Test.YtmammebifhmnhaaDoorQA0D5B1
/-
  The abstract machine, thirty-sixth part: maps from ints to ints, owned. Own work; over any program.
-/
namespace Go.AM

abbrev encM (kk kv : IntKind) (L : List (Int × Int)) : List (Value × Value) := L.map fun p => (.int kk p.1, .int kv p.2)

abbrev pairE (e : MapEntry) : Value × Value := (e.key, e.val)

theorem findNow_none {kk kv : IntKind} {k : Int} : ∀ {L : List (Int × Int)} {es : List MapEntry} {i : Nat}, es.map pairE = encM kk kv L → (∀ p ∈ L, p.1 ≠ k) → Instr.findNow (.int kk) (.int kk k) es i = some none
  | [], [], i, _, _ => rfl
  | [], e :: es, i, h, _ => by simp at h
  | p :: L, [], i, h, _ => by simp at h
  | p :: L, e :: es, i, h, hn => by
    simp only [encM, List.map_cons, List.cons.injEq, pairE, Prod.mk.injEq] at h
    obtain ⟨⟨h1, h2⟩, h3⟩ := h
    have hne : (k == p.1) = false := by
      have := hn p (by simp)
      simp only [beq_eq_false_iff_ne, ne_eq]
      exact fun e => this e.symm
    simp only [Instr.findNow, h1, Instr.sameNow, if_true, hne]
    exact findNow_none h3 (fun q hq => hn q (by simp [hq]))

theorem findNow_at {kk kv : IntKind} {k c : Int} : ∀ {A B : List (Int × Int)} {es : List MapEntry} {i : Nat}, es.map pairE = encM kk kv (A ++ (k, c) :: B) → (∀ p ∈ A, p.1 ≠ k) → Instr.findNow (.int kk) (.int kk k) es i = some (some (i + A.length, .int kv c))
  | [], B, [], i, h, _ => by simp at h
  | p :: A, B, [], i, h, _ => by simp at h
  | [], B, e :: es, i, h, _ => by
    simp only [encM, List.nil_append, List.map_cons, List.cons.injEq, pairE, Prod.mk.injEq] at h
    obtain ⟨⟨h1, h2⟩, h3⟩ := h
    have hk : (k == k) = true := by simp
    simp only [Instr.findNow, h1, Instr.sameNow, if_true, hk, h2]
    rfl
  | p :: A, B, e :: es, i, h, hn => by
    simp only [encM, List.cons_append, List.map_cons, List.cons.injEq, pairE, Prod.mk.injEq] at h
    obtain ⟨⟨h1, h2⟩, h3⟩ := h
    have hne : (k == p.1) = false := by
      have := hn p (by simp)
      simp only [beq_eq_false_iff_ne, ne_eq]
      exact fun e => this e.symm
    simp only [Instr.findNow, h1, Instr.sameNow, if_true, hne]
    rw [findNow_at (A := A) (B := B) (c := c) h3 (fun q hq => hn q (by simp [hq]))]
    simp only [List.length_cons]
    rw [show i + 1 + A.length = i + (A.length + 1) by omega]

theorem map_modify_at {α β : Type} (g : α → β) (f : α → α) (y : β) (hf : ∀ e, g (f e) = y) : ∀ {A B : List β} {x : β} {l : List α}, l.map g = A ++ x :: B → (l.modify A.length f).map g = A ++ y :: B
  | [], B, x, [], h => by simp at h
  | [], B, x, e :: l, h => by
    simp only [List.nil_append, List.map_cons, List.cons.injEq] at h
    simp [hf, h.2]
  | a :: A, B, x, [], h => by simp at h
  | a :: A, B, x, e :: l, h => by
    simp only [List.cons_append, List.map_cons, List.cons.injEq] at h
    simp only [List.length_cons, List.modify_succ_cons, List.map_cons, List.cons_append, h.1, map_modify_at g f y hf h.2]

theorem nearly (b : Bool) (kt : TypeId) (v : Value) : Instr.checkKey b 10000 kt v = Instr.checkKey b (9999 + 1) kt v := rfl

section
variable {P : Program} {T : Tab} (hT : tabOK P T) {t kt et : TypeId} {kk kv : IntKind} {w : World} {r ck : Nat} {a : Array MapEntry} {A B L : List (Int × Int)} {k c : Int}
include hT

theorem run_check_int (hk : T.desc kt = some (.int kk)) (b : Bool) (w : World) : (Instr.checkKey b 10000 kt (.int kk k)).run P w = .ok () w := by
  rw [nearly]
  unfold Instr.checkKey
  simp only [Sem.run_bind, tab_und hT hk, Result.andThen]
  rfl

theorem run_find_at (hk : T.desc kt = some (.int kk)) (he : a.toList.map pairE = encM kk kv (A ++ (k, c) :: B)) (hA : ∀ p ∈ A, p.1 ≠ k) (w : World) : (Instr.findKey kt (.int kk k) a.toList).run P w = .ok (some (A.length, .int kv c)) w := by
  have := findNow_at (i := 0) he hA
  simp [Instr.findKey, tab_und hT hk, this]

theorem run_find_none (hk : T.desc kt = some (.int kk)) (he : a.toList.map pairE = encM kk kv L) (hA : ∀ p ∈ L, p.1 ≠ k) (w : World) : (Instr.findKey kt (.int kk k) a.toList).run P w = .ok none w := by
  have := findNow_none (i := 0) he hA
  simp [Instr.findKey, tab_und hT hk, this]

theorem run_lookup_at (ht : T.desc t = some (.map kt et)) (hk : T.desc kt = some (.int kk)) (hb : w.heap[r]? = some (.map a ck)) (he : a.toList.map pairE = encM kk kv (A ++ (k, c) :: B)) (hA : ∀ p ∈ A, p.1 ≠ k) :
    (Instr.lookup t (.map (some r)) (.int kk k) false).run P w = .ok (.int kv c) w := by
  simp [Instr.lookup, tab_und hT ht, MapKept.run_getObj_map hb, run_check_int hT hk, run_find_at hT hk he hA]

theorem run_update_new (ht : T.desc t = some (.map kt et)) (hk : T.desc kt = some (.int kk)) (hb : w.heap[r]? = some (.map a ck)) (he : a.toList.map pairE = encM kk kv L) (hA : ∀ p ∈ L, p.1 ≠ k) (v : Value) :
    (Instr.mapUpdate t (.map (some r)) (.int kk k) v).run P w = .ok () { w with heap := w.heap.setIfInBounds r (.map (a.push { key := .int kk k, val := v, born := ck }) (ck + 1)) } := by
  simp [Instr.mapUpdate, tab_und hT ht, MapKept.run_getObj_map hb, run_check_int hT hk, run_find_none hT hk he hA, MapKept.run_setObj_map _ hb]

theorem run_update_at (ht : T.desc t = some (.map kt et)) (hk : T.desc kt = some (.int kk)) (hb : w.heap[r]? = some (.map a ck)) (he : a.toList.map pairE = encM kk kv (A ++ (k, c) :: B)) (hA : ∀ p ∈ A, p.1 ≠ k) (v : Value) :
    (Instr.mapUpdate t (.map (some r)) (.int kk k) v).run P w = .ok () { w with heap := w.heap.setIfInBounds r (.map (a.modify A.length fun e => { e with key := .int kk k, val := v }) ck) } := by
  have hkey : ((a[A.length]?).map (·.key)).getD (.int kk k) = .int kk k := by
    have h1 : (a.toList.map pairE)[A.length]? = some (.int kk k, .int kv c) := by rw [he]; simp [encM]
    rw [List.getElem?_map, Array.getElem?_toList] at h1
    cases h2 : a[A.length]? with
    | none => rw [h2] at h1; cases h1
    | some e => rw [h2] at h1; simp [pairE] at h1; simp [h1.1]
  have hst : ∀ w, (Instr.keyThatStays (.int kk k) (.int kk k)).run P w = .ok (.int kk k) w := by
    intro w
    have : Instr.sameBits 10000 (.int kk k) (.int kk k) = true := by simp [Instr.sameBits]
    simp [Instr.keyThatStays, this]
  simp [Instr.mapUpdate, tab_und hT ht, MapKept.run_getObj_map hb, run_check_int hT hk, run_find_at hT hk he hA, hkey, hst, MapKept.run_setObj_map _ hb]
end

section
variable {C : Ctx} {ops : Array Oper} {i : Nat} {rest : List Nat} {k : List Item} {σ : St} {o : Oper} {T : Tab} {t kt et : TypeId} {x y z : Operand} {kk kv : IntKind} {id : Nat} {A B L : List (Int × Int)} {key c c' : Int}
  {held : List (Nat × Blk)} {n0 : Nat} {ord : List (Nat × Bool)}

theorem Rel.newAny {C : Ctx} (hL : Local C.X) {M : Loc} {fp : Nat → Prop} {σ : St} {a : Act} {w : World} (hR : Rel C M fp σ a w) (hb : σ.bel = true) {o : Obj} {B : Blk} {cap : Nat}
    (hB : BlkAt (updM M σ.nx (w.heap.size, cap)) (w.alloc o) σ.nx B) :
    Rel C (updM M σ.nx (w.heap.size, cap)) fp { σ with h := (σ.nx, B) :: σ.h, nx := σ.nx + 1 } a (w.alloc o) := by
  unfold St.bel at hb
  split at hb <;> first | (cases hb; done) | skip
  rename_i ht
  refine { toRelH := hR.toRelH.new hL hb rfl rfl rfl (by simp) (fun k hk => old_alloc w _ hk) hB, size := hR.size, frozen := hR.frozen, tmps := ?_, defers := hR.defers }
  intro i x hx
  rw [hR.tmps i x hx]
  congr 1
  exact (conc_congr (fun j hj => by simp [updM, Nat.ne_of_lt hj]) x (lk_below ht hx)).symm

theorem alloc_new (w : World) (o : Obj) : (w.alloc o).heap[w.heap.size]? = some o := World.alloc_heap_new w o

/-- A map is made. -/
theorem Run.mkMap (hL : Local C.X) (ho : ops[i]? = some o) (hop : o.op = .makeMap t none) (hw : wantOf ops σ o = some .yes) (hd : dstOK C.n o.dst = true) (hb : σ.bel = true)
    (h : Run C (.inRegion ops rest :: k) (St.put ⟨σ.t, (σ.nx, .map []) :: σ.h, σ.nx + 1⟩ o.dst (.mp σ.nx))) : Run C (.inRegion ops (i :: rest) :: k) σ := by
  intro M fp a w hR cs
  have hrun : (execOp a.eval o).run C.P w = .ok (.value (.map (some w.heap.size))) (w.alloc (.map #[] 0)) := by
    simp [execOp, hop, Instr.makeMap, newObj, Sem.run]
  have hR' := hR.newAny hL hb (cap := 0) (o := .map #[] 0) (B := .map []) ⟨#[], 0, by simp only [updM, if_true]; exact alloc_new _ _, rfl⟩
  obtain ⟨m, s, e⟩ := h _ fp _ _ (hR'.put (z := .mp σ.nx) (dstOK_lt hd)) cs
  refine ⟨m, .head (step_value ho (wantOf_yes hR.q hw) (fun c e => by rw [hop] at e; cases e) ?_) s, e⟩
  rw [hrun]
  simp [conc, updM]

/-- A map's block turned. -/
theorem Rel.setMap (hL : Local C.X) {M : Loc} {fp : Nat → Prop} {a : Act} {w : World} (hR : Rel C M fp σ a w) {es es' : List (Value × Value)} (hB : lk σ.h id = some (.map es)) {ar : Array MapEntry} {ck : Nat} (he : ar.toList.map pairE = es') :
    Rel C M fp ⟨σ.t, hset σ.h id (.map es'), σ.nx⟩ a { w with heap := w.heap.setIfInBounds (M id).1 (.map ar ck) } := by
  have hlt := (hR.heap _ _ hB).lt
  refine { toRelH := RelH.upd hL hR.toRelH hB rfl rfl rfl (by simp) (fun k hk => ?_) ⟨ar, ck, ?_, he⟩, size := hR.size, frozen := hR.frozen, tmps := hR.tmps, defers := hR.defers }
  · simp only [Array.getElem?_setIfInBounds]; rw [if_neg (Ne.symm hk)]
  · simp [hlt]

/-- A new key. -/
theorem Run.mapNew (hT : tabOK C.P T) (hL : Local C.X) (ho : ops[i]? = some o) (hop : o.op = .mapUpdate t x y z) (hdst : o.dst = none) (hx : σ.ev x = some (.mp id)) (hy : σ.ev y = some (.v (.int kk key))) (hz : σ.ev z = some (.v (.int kv c)))
    (ht : T.desc t = some (.map kt et)) (hk : T.desc kt = some (.int kk)) (hB : lk σ.h id = some (.map (encM kk kv L))) (hA : ∀ p ∈ L, p.1 ≠ key) (hw : wantOf ops σ o = some .yes)
    (h : Run C (.inRegion ops rest :: k) ⟨σ.t, hset σ.h id (.map (encM kk kv (L ++ [(key, c)]))), σ.nx⟩) : Run C (.inRegion ops (i :: rest) :: k) σ := by
  intro M fp a w hR cs
  obtain ⟨ar, ck, hb, he⟩ := hR.heap _ _ hB
  have ex := hR.q.ev hx
  have ey := hR.q.ev hy
  have ez := hR.q.ev hz
  simp only [conc] at ex ey ez
  have hrun := run_update_new hT ht hk hb he hA (.int kv c)
  obtain ⟨m, s, e⟩ := h _ fp _ _ (hR.setMap hL hB (ar := ar.push { key := .int kk key, val := .int kv c, born := ck }) (ck := ck + 1) (es' := encM kk kv (L ++ [(key, c)])) (by
    rw [Array.toList_push, List.map_append, he]; simp [encM, pairE])) cs
  refine ⟨m, .head (step_skipped (w' := { w with heap := w.heap.setIfInBounds (M id).1 (.map (ar.push { key := .int kk key, val := .int kv c, born := ck }) (ck + 1)) }) ho (wantOf_yes hR.q hw) (fun c e => by rw [hop] at e; cases e) ?_) ?_, e⟩
  · simp [execOp, hop, ex, ey, ez, hrun]
  · rw [hdst]; exact s

/-- A key that is there. -/
theorem Run.mapSet (hT : tabOK C.P T) (hL : Local C.X) (ho : ops[i]? = some o) (hop : o.op = .mapUpdate t x y z) (hdst : o.dst = none) (hx : σ.ev x = some (.mp id)) (hy : σ.ev y = some (.v (.int kk key))) (hz : σ.ev z = some (.v (.int kv c')))
    (ht : T.desc t = some (.map kt et)) (hk : T.desc kt = some (.int kk)) (hB : lk σ.h id = some (.map (encM kk kv (A ++ (key, c) :: B)))) (hA : ∀ p ∈ A, p.1 ≠ key) (hw : wantOf ops σ o = some .yes)
    (h : Run C (.inRegion ops rest :: k) ⟨σ.t, hset σ.h id (.map (encM kk kv (A ++ (key, c') :: B))), σ.nx⟩) : Run C (.inRegion ops (i :: rest) :: k) σ := by
  intro M fp a w hR cs
  obtain ⟨ar, ck, hb, he⟩ := hR.heap _ _ hB
  have ex := hR.q.ev hx
  have ey := hR.q.ev hy
  have ez := hR.q.ev hz
  simp only [conc] at ex ey ez
  have hrun := run_update_at hT ht hk hb he hA (.int kv c')
  obtain ⟨m, s, e⟩ := h _ fp _ _ (hR.setMap hL hB (ar := ar.modify A.length fun e => { e with key := .int kk key, val := .int kv c' }) (ck := ck) (es' := encM kk kv (A ++ (key, c') :: B)) (by
    rw [Array.toList_modify]
    have h2 := map_modify_at pairE (fun e => { e with key := .int kk key, val := .int kv c' }) (.int kk key, .int kv c') (fun _ => rfl) (A := encM kk kv A) (B := encM kk kv B) (x := (.int kk key, .int kv c)) (l := ar.toList) (by rw [he]; simp [encM])
    simp only [encM, List.length_map] at h2
    rw [h2]; simp [encM])) cs
  refine ⟨m, .head (step_skipped (w' := { w with heap := w.heap.setIfInBounds (M id).1 (.map (ar.modify A.length fun e => { e with key := .int kk key, val := .int kv c' }) ck) }) ho (wantOf_yes hR.q hw) (fun c e => by rw [hop] at e; cases e) ?_) ?_, e⟩
  · simp [execOp, hop, ex, ey, ez, hrun]
  · rw [hdst]; exact s

/-- A look, in a drawn region. -/
theorem RunO.mapGet (hT : tabOK C.P T) (hsel : noSel ops = true) (hbel : hBelow n0 held = true) (ho : ops[i]? = some o) (hop : o.op = .lookup t x y false) (hx : σ.ev x = some (.mp id)) (hy : σ.ev y = some (.v (.int kk key)))
    (ht : T.desc t = some (.map kt et)) (hk : T.desc kt = some (.int kk)) (hB : lk held id = some (.map (encM kk kv (A ++ (key, c) :: B)))) (hA : ∀ p ∈ A, p.1 ≠ key) (hw : wantOf ops σ o = some .yes) (hd : dstOK C.n o.dst = true)
    (h : RunO C held n0 ops ord k (σ.put o.dst (.v (.int kv c)))) : RunO C held n0 ops ((i, true) :: ord) k σ := by
  refine RunO.first hsel ho hd (fun M0 M fp a w hM hR => .inl ⟨wantOf_yes hR.q hw, (fun c e => by rw [hop] at e; cases e), fun w' hS' => ?_⟩) h
  have ex := hR.q.ev hx
  have ey := hR.q.ev hy
  simp only [conc] at ex ey
  obtain ⟨ar, ck, hb, he⟩ := (RelQ.held hR hbel hM hS').heap _ _ hB
  have hrun := run_lookup_at hT ht hk hb he hA
  simp [execOp, hop, ex, ey, hrun, conc]

/-- How many keys, in a drawn region. -/
theorem RunO.mapLen (hT : tabOK C.P T) (hsel : noSel ops = true) (hbel : hBelow n0 held = true) {cl : Call} (ho : ops[i]? = some o) (hop : o.op = .call cl) (hc : cl.callee = .builtin .len) (hca : cl.args = #[x]) (hct : cl.argTypes = #[t]) (hx : σ.ev x = some (.mp id))
    (ht : T.desc t = some (.map kt et)) {es : List (Value × Value)} (hB : lk held id = some (.map es)) (hw : wantOf ops σ o = some .yes) (hd : dstOK C.n o.dst = true)
    (h : RunO C held n0 ops ord k (σ.put o.dst (.v (.int .i64 (es.length : Nat))))) : RunO C held n0 ops ((i, true) :: ord) k σ := by
  refine RunO.first hsel ho hd (fun M0 M fp a w hM hR => .inl ⟨wantOf_yes hR.q hw, (fun c e => by rw [hop] at e; cases e), fun w' hS' => ?_⟩) h
  have ex := hR.q.ev hx
  simp only [conc] at ex
  obtain ⟨ar, ck, hb, he⟩ := (RelQ.held hR hbel hM hS').heap _ _ hB
  have hl : es.length = ar.size := by rw [← he]; simp
  have hlen : ∀ ty cs, (builtin .len #[t] ty cs #[.map (some (M id).1)]).run C.P w' = .ok (.value (.int .i64 (es.length : Nat))) w' := by
    intro ty cs
    simp [builtin, Builtin.len_, tab_und hT ht, MapKept.run_getObj_map hb, hl, goInt]
  simp [execOp, hop, resolve, hc, hca, hct, ex, invoke, hlen, conc]
end
end Go.AM

/-
  The abstract machine, forty-first part: looks into maps, whether the key is there or not. Own work; over any program.
-/
namespace Go.AM
open Go.RowKit

def mget : List (Int × Int) → Int → Int
  | [], _ => 0
  | p :: L, k => if p.1 = k then p.2 else mget L k
theorem mget_none : ∀ {L : List (Int × Int)} {k : Int}, (∀ p ∈ L, p.1 ≠ k) → mget L k = 0
  | [], _, _ => rfl
  | p :: L, k, h => by rw [mget, if_neg (h p (by simp)), mget_none fun q hq => h q (by simp [hq])]
theorem mget_at : ∀ {A B : List (Int × Int)} {k c : Int}, (∀ p ∈ A, p.1 ≠ k) → mget (A ++ (k, c) :: B) k = c
  | [], B, k, c, _ => by simp [mget]
  | p :: A, B, k, c, h => by rw [List.cons_append, mget, if_neg (h p (by simp)), mget_at fun q hq => h q (by simp [hq])]
theorem m_split (L : List (Int × Int)) (k : Int) : (∀ p ∈ L, p.1 ≠ k) ∨ ∃ A B c, L = A ++ (k, c) :: B ∧ ∀ p ∈ A, p.1 ≠ k := by
  induction L with
  | nil => exact .inl fun p h => by cases h
  | cons p L ih =>
    by_cases e : p.1 = k
    · exact .inr ⟨[], L, p.2, by subst e; rfl, fun q h => by cases h⟩
    · rcases ih with h | ⟨A, B, c, h1, h2⟩
      · refine .inl fun q hq => ?_
        rcases List.mem_cons.1 hq with rfl | hq
        · exact e
        · exact h q hq
      · refine .inr ⟨p :: A, B, c, by rw [h1]; rfl, fun q hq => ?_⟩
        rcases List.mem_cons.1 hq with rfl | hq
        · exact e
        · exact h2 q hq

section
variable {P : Program} {T : Tab} (hT : tabOK P T) {t kt et : TypeId} {kk kv : IntKind} {w : World} {r ck : Nat} {a : Array MapEntry} {L : List (Int × Int)} {k : Int} {ti : TI}
include hT
theorem run_lookup_any (ht : T.desc t = some (.map kt et)) (hk : T.desc kt = some (.int kk)) (hi : lk T et = some ti) (hz : ti.zero = .int kv 0) (hb : w.heap[r]? = some (.map a ck)) (he : a.toList.map pairE = encM kk kv L) :
    (Instr.lookup t (.map (some r)) (.int kk k) false).run P w = .ok (.int kv (mget L k)) w := by
  rcases m_split L k with h | ⟨A, B, c, h1, h2⟩
  · rw [mget_none h]
    simp [Instr.lookup, tab_und hT ht, MapKept.run_getObj_map hb, run_check_int hT hk, run_find_none hT hk he h, tab_zero hT hi, hz]
  · subst h1
    rw [mget_at h2]
    exact run_lookup_at hT ht hk hb he h2
end

section
variable {C : Ctx} {ops : Array Oper} {i : Nat} {rest : List Nat} {k : List Item} {σ : St} {o : Oper} {T : Tab} {t kt et : TypeId} {x y : Operand} {kk kv : IntKind} {id : Nat} {L : List (Int × Int)} {key : Int} {ti : TI}
  {held : List (Nat × Blk)} {n0 : Nat} {ord : List (Nat × Bool)}
/-- A look, in a drawn region. -/
theorem RunO.mapAny (hT : tabOK C.P T) (hsel : noSel ops = true) (hbel : hBelow n0 held = true) (ho : ops[i]? = some o) (hop : o.op = .lookup t x y false) (hx : σ.ev x = some (.mp id)) (hy : σ.ev y = some (.v (.int kk key)))
    (ht : T.desc t = some (.map kt et)) (hk : T.desc kt = some (.int kk)) (hi : lk T et = some ti) (hz : ti.zero = .int kv 0) (hB : lk held id = some (.map (encM kk kv L))) (hw : wantOf ops σ o = some .yes) (hd : dstOK C.n o.dst = true)
    (h : RunO C held n0 ops ord k (σ.put o.dst (.v (.int kv (mget L key))))) : RunO C held n0 ops ((i, true) :: ord) k σ := by
  refine RunO.first hsel ho hd (fun M0 M fp a w hM hR => .inl ⟨wantOf_yes hR.q hw, (fun c e => by rw [hop] at e; cases e), fun w' hS' => ?_⟩) h
  have ex := hR.q.ev hx
  have ey := hR.q.ev hy
  simp only [conc] at ex ey
  obtain ⟨ar, ck, hb, he⟩ := (RelQ.held hR hbel hM hS').heap _ _ hB
  have hrun := run_lookup_any (k := key) hT ht hk hi hz hb he
  simp [execOp, hop, ex, ey, hrun, conc]

/-- A look. -/
theorem Run.mapAny (hT : tabOK C.P T) (ho : ops[i]? = some o) (hop : o.op = .lookup t x y false) (hx : σ.ev x = some (.mp id)) (hy : σ.ev y = some (.v (.int kk key)))
    (ht : T.desc t = some (.map kt et)) (hk : T.desc kt = some (.int kk)) (hi : lk T et = some ti) (hz : ti.zero = .int kv 0) (hB : lk σ.h id = some (.map (encM kk kv L))) (hw : wantOf ops σ o = some .yes) (hd : dstOK C.n o.dst = true)
    (h : Run C (.inRegion ops rest :: k) (σ.put o.dst (.v (.int kv (mget L key))))) : Run C (.inRegion ops (i :: rest) :: k) σ := by
  intro M fp a w hR cs
  obtain ⟨ar, ck, hb, he⟩ := hR.heap _ _ hB
  have ex := hR.q.ev hx
  have ey := hR.q.ev hy
  simp only [conc] at ex ey
  have hrun := run_lookup_any (k := key) hT ht hk hi hz hb he
  obtain ⟨m, s, e⟩ := h M fp _ w (hR.put (z := .v (.int kv (mget L key))) (dstOK_lt hd)) cs
  refine ⟨m, .head (step_value ho (wantOf_yes hR.q hw) (fun c e => by rw [hop] at e; cases e) ?_) s, e⟩
  simp [execOp, hop, ex, ey, hrun, conc]
end
end Go.AM

/-
  whole: what it shows when it says so. Own work.
-/
namespace Go.Proofs.YtmammebifhmnhaaDoor
open Go.AM
set_option maxRecDepth 100000

/-- What whole looks at, at one event. -/
def RdAt (x : Xn) (i : Nat) : Prop := ∃ (h : i < x.ev.length) (f : Int), x.from_[i]? = some f ∧ (rdB x.ev[i] = true ↔ 0 ≤ f) ∧ f < (x.ev.length : Int) ∧
  (rdB x.ev[i] = true → ∃ k, ∃ hk : k < x.ev.length, f = (k : Int) ∧ wrB x.ev[k] = true ∧ x.ev[k].loc = x.ev[i].loc)
structure WholeP (x : Xn) : Prop where
  le : x.ev.length ≤ 64
  len : x.from_.length = x.ev.length
  rd : ∀ i, i < x.ev.length → RdAt x i
  ord : ∀ l ∈ x.ord, ∀ v ∈ l, 0 ≤ v ∧ v < (x.ev.length : Int)
def WhQ (x : Xn) (v : Value) (_ : World) : Prop := ∃ b, v = .bool b ∧ (b = true → WholeP x)

theorem SeesII.at {w : World} {p : Option Addr} {xss : List (List Int)} (h : SeesII w p xss) (i : Nat) (hi : i < xss.length) : p = some (p.getD default) ∧ ∃ q c, w.cell? ((p.getD default).add i) = some (.slice q xss[i].length c) ∧ SeesI w q xss[i] := h i hi

set_option maxHeartbeats 4000000 in
theorem wholeX_ok (x : Xn) (w : World) (hX : SeesX w x) : Makes Tryd.prog 15 [encX x] w (WhQ x) := by
  refine Makes.of_run Tryd.func15 rfl (by show 1 ≤ 165; decide) ?_
  have hone := xV_one hX.one1 hX.one4
  have hml : maxLen = 9223372036854775807 := rfl
  have hlf := hX.lf
  rw [hml] at hlf
  have hno : ∀ (k : List Item) (t : List (Nat × AV)) (h : List (Nat × Blk)) (n : Nat), lk t 2 = some (.tt false) → Run (fnQ Tryd.prog 15 (Tryd.f15).ntmps w (WhQ x)) (.code .ret :: k) ⟨t, h, n⟩ := fun k t h n h2 => by
    refine Run.to (σ := ⟨t, h, n⟩) (t' := [(2, .tt false)]) (h' := []) (n' := 0) ?_ ⟨h2, trivial⟩ trivial
    refine Run.retM (Ds := []) tab_ok noX_local Tryd.func15 rfl trivial fun M fp a w' hr => ?_
    exact ⟨hr.agree, false, rfl, fun h => by cases h⟩
  by_cases c1 : x.ev.length ≤ 64
  rotate_left
  · refine RunF_sound tab_ok noX_local 400 [true, true] _ _ rfl ?_ ?_
    · simp; omega
    refine Run.retM (Ds := []) tab_ok noX_local Tryd.func15 rfl trivial fun M fp a w' hr => ?_
    exact ⟨hr.agree, false, rfl, fun h => by cases h⟩
  by_cases c2 : x.from_.length = x.ev.length
  rotate_left
  · refine RunF_sound tab_ok noX_local 400 [false, true] _ _ rfl ?_ ?_
    · simp; omega
    refine Run.retM (Ds := []) tab_ok noX_local Tryd.func15 rfl trivial fun M fp a w' hr => ?_
    exact ⟨hr.agree, false, rfl, fun h => by cases h⟩
  refine RunF_sound tab_ok noX_local 400 [false, false] _ _ rfl ?_ ?_
  · simp [c2]; omega
  suffices H : ∀ (m i : Nat), i + m = x.ev.length → (∀ j, j < i → RdAt x j) → ∀ σ, inT σ.t [(1, .ptr 0 0), (2, .tt false), (3, .v (.int .i64 (x.ev.length : Int))), (4, .v (.int .i64 (i : Int)))] → inT σ.h [(0, .cells 28 [.vals 5 (xV x)])] → Run _ _ σ by
    exact H x.ev.length 0 (by omega) (fun j h => absurd h (Nat.not_lt_zero _)) _ ⟨rfl, rfl, rfl, rfl, trivial⟩ ⟨rfl, trivial⟩
  intro m
  induction m with
  | succ m ih =>
    intro i hi hrd σ ht hh
    refine Run.to ?_ ht hh (n' := 1)
    have hin : i < x.ev.length := by omega
    have hif : i < x.from_.length := by omega
    obtain ⟨hp, hpc⟩ := hX.from_ i hif
    have hvp := (hX.ev i hin).1
    have hve := hX.ev.ext i hin
    have hvs := hX.ev.some i hin
    have hvl := hX.ev.field i hin (evV_3 _)
    have hgo := fun h => ih (i + 1) (by omega) h
    have hnext : RdAt x i → ∀ j, j < i + 1 → RdAt x j := fun h j hj => by
      rcases Nat.lt_succ_iff_lt_or_eq.1 hj with hj | rfl
      · exact hrd j hj
      · exact h
    have hat : ∀ (P : (rdB x.ev[i] = true ↔ 0 ≤ x.from_[i]) ∧ x.from_[i] < (x.ev.length : Int) ∧ (rdB x.ev[i] = true → ∃ k, ∃ hk : k < x.ev.length, x.from_[i] = (k : Int) ∧ wrB x.ev[k] = true ∧ x.ev[k].loc = x.ev[i].loc)), RdAt x i := fun P => ⟨hin, _, List.getElem?_eq_getElem hif, P⟩
    generalize x.from_[i] = f at *
    refine RunF_sound tab_ok noX_local 400 [true] _ _ rfl ?_ ?_
    · simp
      exact ⟨hin, ⟨hp, hif⟩, by rw [hpc], ⟨hvp, hin⟩, hvs⟩
    refine Run.toC (t' := [(1, .ptr 0 0), (2, .tt false), (3, .v (.int .i64 (x.ev.length : Int))), (4, .v (.int .i64 (i : Int))), (5, .v (.int .i64 f)), (38, .v (encEv x.ev[i]))]) (h' := [(0, .cells 28 [.vals 5 (xV x)])]) (n' := 1) ?_
      ⟨inTC_same rfl, inTC_same rfl, inTC_same rfl, inTC_same rfl, ⟨_, rfl, fun M => ?_⟩, ⟨_, rfl, fun M => ?_⟩, trivial⟩ ⟨rfl, trivial⟩
    rotate_left
    · simp only [conc, fnC_w0, Int.toNat_natCast, Nat.mul_one, show (slOf (xV x)[0 + 2 - 0]?).1 = x.pf from rfl, hpc]
    · simp only [conc, fnC_w0, Int.toNat_natCast, show (slOf (xV x)[0 + 0 - 0]?).1 = x.pe from rfl, hve]; rfl
    refine Run.callFn (r := .bool (rdB x.ev[i])) noX_local rfl rfl rfl rfl rfl rfl rfl read_enters rfl (fun w' _ => read_ok x.ev[i] w') ?_
    refine RunF_sound tab_ok noX_local 400 [] _ _ rfl ?_ ?_
    · simp
    refine Run.to (t' := [(1, .ptr 0 0), (2, .tt false), (3, .v (.int .i64 (x.ev.length : Int))), (4, .v (.int .i64 (i : Int))), (5, .v (.int .i64 f)), (6, .v (.bool (rdB x.ev[i])))]) (h' := [(0, .cells 28 [.vals 5 (xV x)])]) (n' := 1) ?_ ⟨rfl, rfl, rfl, rfl, rfl, rfl, trivial⟩ ⟨rfl, trivial⟩
    refine Run.drawA noX_local rfl [] [(0, .cells 28 [.vals 5 (xV x)])] rfl rfl ⟨rfl, trivial⟩ ?_
    cases hr : rdB x.ev[i] with
    | false =>
      by_cases h0 : 0 ≤ f
      · refine RunOF_sound tab_ok noX_local rfl rfl 400 [true] _ _ rfl ?_ ?_
        · simp [h0]
        refine RunO.done ?_
        refine RunF_sound tab_ok noX_local 400 [true] _ _ rfl ?_ ?_
        · simp
        exact hno _ _ _ _ rfl
      · have hlt : f < (x.ev.length : Int) := by omega
        refine RunOF_sound tab_ok noX_local rfl rfl 400 [false, false, false] _ _ rfl ?_ ?_
        · simp; omega
        refine RunO.done ?_
        refine RunF_sound tab_ok noX_local 400 [false] _ _ rfl ?_ ?_
        · simp
        refine hgo (hnext (hat ⟨?_, hlt, fun h => ?_⟩)) _ ⟨rfl, rfl, rfl, i64_eq (wrap_succ (by omega)), trivial⟩ ⟨rfl, trivial⟩
        · rw [hr]; simp; omega
        · rw [hr] at h; cases h
    | true =>
      by_cases h0 : 0 ≤ f
      rotate_left
      · refine RunOF_sound tab_ok noX_local rfl rfl 400 [true] _ _ rfl ?_ ?_
        · simp; omega
        refine RunO.done ?_
        refine RunF_sound tab_ok noX_local 400 [true] _ _ rfl ?_ ?_
        · simp
        exact hno _ _ _ _ rfl
      by_cases hlt : f < (x.ev.length : Int)
      rotate_left
      · refine RunOF_sound tab_ok noX_local rfl rfl 400 [false, true] _ _ rfl ?_ ?_
        · simp; omega
        refine RunO.done ?_
        refine RunF_sound tab_ok noX_local 400 [true] _ _ rfl ?_ ?_
        · simp
        exact hno _ _ _ _ rfl
      obtain ⟨q, rfl⟩ : ∃ q : Nat, f = (q : Int) := ⟨f.toNat, by omega⟩
      have hq : q < x.ev.length := by omega
      have hqe := hX.ev.ext q hq
      have hqs := hX.ev.some q hq
      have hql := hX.ev.field q hq (evV_3 _)
      refine RunOF_sound tab_ok noX_local rfl rfl 400 [false, false, true] _ _ rfl ?_ ?_
      · simp
        exact ⟨hq, ⟨hvp, hq⟩, hqs⟩
      refine RunO.callFn (r := .bool (wrB x.ev[q])) noX_local rfl rfl rfl rfl rfl rfl rfl rfl write_enters rfl (fun w' _ => ?_) ?_
      · simp only [fnC_w0, Int.toNat_natCast, show (slOf (xV x)[0 + 0 - 0]?).1 = x.pe from rfl, hqe]
        exact write_ok x.ev[q] w'
      cases hwr : wrB x.ev[q] with
      | false =>
        refine RunOF_sound tab_ok noX_local rfl rfl 400 [true] _ _ rfl ?_ ?_
        · simp
        refine RunO.done ?_
        refine RunF_sound tab_ok noX_local 400 [true] _ _ rfl ?_ ?_
        · simp
        exact hno _ _ _ _ rfl
      | true =>
        refine RunOF_sound tab_ok noX_local rfl rfl 400 [false] _ _ rfl ?_ ?_
        · simp
          exact ⟨⟨hvp, hq⟩, by rw [hql], ⟨hvp, hin⟩, by rw [hvl]⟩
        refine RunO.done ?_
        by_cases hloc : x.ev[q].loc = x.ev[i].loc
        · refine RunF_sound tab_ok noX_local 400 [false] _ _ rfl ?_ ?_
          · simp
            rw [hql, hvl]; exact hloc
          refine hgo (hnext (hat ⟨?_, hlt, fun _ => ⟨q, hq, rfl, hwr, hloc⟩⟩)) _ ⟨rfl, rfl, rfl, i64_eq (wrap_succ (by omega)), trivial⟩ ⟨rfl, trivial⟩
          rw [hr]; simp
        · refine RunF_sound tab_ok noX_local 400 [true] _ _ rfl ?_ ?_
          · simp
            rw [hql, hvl]; exact hloc
          exact hno _ _ _ _ rfl
  | zero =>
    intro i hi hrd σ ht hh
    refine Run.to ?_ ht hh (n' := 1)
    obtain rfl : i = x.ev.length := by omega
    refine RunF_sound tab_ok noX_local 400 [false] _ _ rfl ?_ ?_
    · simp
    refine Run.to (t' := [(1, .ptr 0 0), (2, .tt false), (3, .v (.int .i64 (x.ev.length : Int)))]) (h' := [(0, .cells 28 [.vals 5 (xV x)])]) (n' := 1) ?_ ⟨rfl, rfl, rfl, trivial⟩ ⟨rfl, trivial⟩
    clear ht hh
    refine Run.mkMap noX_local rfl rfl rfl rfl rfl ?_
    refine RunF_sound tab_ok noX_local 100 [] _ _ rfl ?_ ?_
    · simp
    have hlo := hX.lo
    rw [hml] at hlo
    suffices H2 : ∀ (m o : Nat) (L : List (Int × Int)), o + m = x.ord.length → (∀ l ∈ x.ord.take o, ∀ v ∈ l, 0 ≤ v ∧ v < (x.ev.length : Int)) → ∀ σ, inT σ.t [(1, .ptr 0 0), (2, .tt false), (3, .v (.int .i64 (x.ev.length : Int))), (7, .mp 1), (8, .v (.int .i64 (o : Int)))] → inT σ.h [(0, .cells 28 [.vals 5 (xV x)]), (1, .map (encM .i64 .i64 L))] → Run _ _ σ by
      exact H2 x.ord.length 0 [] (by omega) (fun l h => by cases h) _ ⟨rfl, rfl, rfl, rfl, rfl, trivial⟩ ⟨rfl, rfl, trivial⟩
    intro m
    induction m with
    | succ m ih =>
      intro o L ho hod σ ht hh
      refine Run.to ?_ ht hh (n' := 2)
      have hol : o < x.ord.length := by omega
      obtain ⟨hp, q, cq, hpc, hqI⟩ := hX.ord.at o hol
      have hll := hX.lo2 x.ord[o] (List.getElem_mem hol)
      rw [hml] at hll
      have htk : x.ord.take (o + 1) = x.ord.take o ++ [x.ord[o]] := List.take_succ_eq_append_getElem hol
      have hnx := fun L' (h : ∀ v ∈ x.ord[o], 0 ≤ v ∧ v < (x.ev.length : Int)) => ih (o + 1) L' (by omega) (by
        intro l hl
        rw [htk] at hl
        rcases List.mem_append.1 hl with hl | hl
        · exact hod l hl
        · rw [List.mem_singleton] at hl; subst hl; exact h)
      generalize x.ord[o] = l at *
      clear ih
      refine RunF_sound tab_ok noX_local 100 [true] _ _ rfl ?_ ?_
      · simp
        exact hol
      suffices H3 : ∀ (m k : Nat) (L : List (Int × Int)), k + m = l.length → (∀ v ∈ l.take k, 0 ≤ v ∧ v < (x.ev.length : Int)) → ∀ σ, inT σ.t [(1, .ptr 0 0), (2, .tt false), (3, .v (.int .i64 (x.ev.length : Int))), (7, .mp 1), (8, .v (.int .i64 (o : Int))), (9, .v (.int .i64 (k : Int)))] → inT σ.h [(0, .cells 28 [.vals 5 (xV x)]), (1, .map (encM .i64 .i64 L))] → Run _ _ σ by
        exact H3 l.length 0 L (by omega) (fun v h => by cases h) _ ⟨rfl, rfl, rfl, rfl, rfl, rfl, trivial⟩ ⟨rfl, rfl, trivial⟩
      clear ht hh
      intro m2
      induction m2 with
      | zero =>
        intro k L hk hkd σ ht hh
        refine Run.to ?_ ht hh (n' := 2)
        obtain rfl : k = l.length := by omega
        rw [List.take_length] at hkd
        refine RunF_sound tab_ok noX_local 400 [false] _ _ rfl ?_ ?_
        · simp [hpc]
          exact ⟨hp, hol⟩
        exact hnx L hkd _ ⟨rfl, rfl, rfl, rfl, i64_eq (wrap_succ (by omega)), trivial⟩ ⟨rfl, rfl, trivial⟩
      | succ m2 ihk =>
        intro k L hk hkd σ ht hh
        refine Run.to ?_ ht hh (n' := 2)
        have hkl : k < l.length := by omega
        obtain ⟨hq1, hq2⟩ := hqI k hkl
        have htk2 : l.take (k + 1) = l.take k ++ [l[k]] := List.take_succ_eq_append_getElem hkl
        have hnk := fun L' (h : 0 ≤ l[k] ∧ l[k] < (x.ev.length : Int)) => ihk (k + 1) L' (by omega) (by
          intro v hv
          rw [htk2] at hv
          rcases List.mem_append.1 hv with hv | hv
          · exact hkd v hv
          · rw [List.mem_singleton] at hv; subst hv; exact h)
        generalize l[k] = v at *
        clear ihk
        refine RunF_sound tab_ok noX_local 400 [true] _ _ rfl ?_ ?_
        · simp [hpc]
          exact ⟨⟨hp, hol⟩, hkl, ⟨hp, hol⟩, ⟨hq1, hkl⟩, by rw [hq2]⟩
        refine Run.toC (t' := [(1, .ptr 0 0), (2, .tt false), (3, .v (.int .i64 (x.ev.length : Int))), (7, .mp 1), (8, .v (.int .i64 (o : Int))), (9, .v (.int .i64 (k : Int))), (10, .v (.int .i64 v)), (104, .v (.bool (decide (v < 0))))]) (h' := [(0, .cells 28 [.vals 5 (xV x)]), (1, .map (encM .i64 .i64 L))]) (n' := 2) ?_
          ⟨inTC_same rfl, inTC_same rfl, inTC_same rfl, inTC_same rfl, inTC_same rfl, inTC_same rfl, ⟨_, rfl, fun M => ?_⟩, ⟨_, rfl, fun M => ?_⟩, trivial⟩ ⟨rfl, rfl, trivial⟩
        rotate_left
        · simp only [conc, fnC_w0, Int.toNat_natCast, Nat.mul_one, show (slOf (xV x)[0 + 3 - 0]?).1 = x.po from rfl, hpc, slOf_slice, hq2]
        · simp only [conc, fnC_w0, Int.toNat_natCast, Nat.mul_one, show (slOf (xV x)[0 + 3 - 0]?).1 = x.po from rfl, hpc, slOf_slice, hq2]
        by_cases h0 : v < 0
        · refine RunF_sound tab_ok noX_local 400 [true] _ _ rfl ?_ ?_
          · simp [h0]
          exact hno _ _ _ _ rfl
        by_cases hlt : v < (x.ev.length : Int)
        rotate_left
        · refine RunF_sound tab_ok noX_local 400 [false, true] _ _ rfl ?_ ?_
          · simp; omega
          exact hno _ _ _ _ rfl
        have hnk' := fun L' => hnk L' ⟨by omega, hlt⟩
        obtain ⟨j, rfl⟩ : ∃ j : Nat, v = (j : Int) := ⟨v.toNat, by omega⟩
        have hj : j < x.ev.length := by omega
        have hvp := (hX.ev j hj).1
        have hje := hX.ev.ext j hj
        have hjs := hX.ev.some j hj
        have hjl := hX.ev.field j hj (evV_3 _)
        have hjk := hX.ev.field j hj (evV_0 _)
        refine RunF_sound tab_ok noX_local 400 [false, false] _ _ rfl ?_ ?_
        · simp
          exact ⟨hj, ⟨hvp, hj⟩, hjs⟩
        refine Run.callFn (r := .bool (wrB x.ev[j])) noX_local rfl rfl rfl rfl rfl rfl rfl write_enters rfl (fun w' _ => ?_) ?_
        · simp only [fnC_w0, Int.toNat_natCast, show (slOf (xV x)[0 + 0 - 0]?).1 = x.pe from rfl, hje]
          exact write_ok x.ev[j] w'
        cases hwr : wrB x.ev[j] with
        | false =>
          refine RunF_sound tab_ok noX_local 400 [true] _ _ rfl ?_ ?_
          · simp
          exact hno _ _ _ _ rfl
        | true =>
          by_cases hloc : x.ev[j].loc = (o : Int)
          rotate_left
          · refine RunF_sound tab_ok noX_local 400 [false, true] _ _ rfl ?_ ?_
            · simp
              exact ⟨⟨hvp, hj⟩, by rw [hjl], by rw [hjl]; exact hloc⟩
            exact hno _ _ _ _ rfl
          refine RunF_sound tab_ok noX_local 400 [false, false] _ _ rfl ?_ ?_
          · simp
            exact ⟨⟨hvp, hj⟩, by rw [hjl], by rw [hjl]; exact hloc⟩
          refine Run.to (t' := [(1, .ptr 0 0), (2, .tt false), (3, .v (.int .i64 (x.ev.length : Int))), (7, .mp 1), (8, .v (.int .i64 (o : Int))), (9, .v (.int .i64 (k : Int))), (10, .v (.int .i64 (j : Int))), (129, .mp 1), (130, .v (.int .i64 (j : Int))), (128, .tt false)]) (h' := [(0, .cells 28 [.vals 5 (xV x)]), (1, .map (encM .i64 .i64 L))]) (n' := 2) ?_ ⟨rfl, rfl, rfl, rfl, rfl, rfl, rfl, rfl, rfl, rfl, trivial⟩ ⟨rfl, rfl, trivial⟩
          refine Run.mapAny (kv := .i64) (key := (j : Int)) tab_ok rfl rfl rfl rfl rfl rfl rfl rfl rfl rfl rfl ?_
          by_cases hg : mget L (j : Int) > 0
          · refine RunF_sound tab_ok noX_local 400 [true] _ _ rfl ?_ ?_
            · simp; omega
            exact hno _ _ _ _ rfl
          by_cases hki : ((k : Int) == 0) = (x.ev[j].kind == 1)
          rotate_left
          · refine RunF_sound tab_ok noX_local 400 [false, true] _ _ rfl ?_ ?_
            · simp
              exact ⟨by omega, ⟨hvp, hj⟩, by rw [hjk], by rw [hjk]; exact hki⟩
            exact hno _ _ _ _ rfl
          refine RunF_sound tab_ok noX_local 400 [false, false] _ _ rfl ?_ ?_
          · simp
            exact ⟨by omega, ⟨hvp, hj⟩, by rw [hjk], by rw [hjk]; exact hki⟩
          rcases m_split L (j : Int) with hs | ⟨A, B, c, rfl, hs⟩
          · refine Run.mapNew (kk := .i64) (kv := .i64) (key := (j : Int)) tab_ok noX_local rfl rfl rfl rfl rfl rfl rfl rfl rfl hs rfl ?_
            refine RunF_sound tab_ok noX_local 100 [] _ _ rfl ?_ ?_
            · simp
            exact hnk' _ _ ⟨rfl, rfl, rfl, rfl, rfl, i64_eq (wrap_succ (by omega)), trivial⟩ ⟨rfl, rfl, trivial⟩
          · refine Run.mapSet (kk := .i64) (kv := .i64) (key := (j : Int)) tab_ok noX_local rfl rfl rfl rfl rfl rfl rfl rfl rfl hs rfl ?_
            refine RunF_sound tab_ok noX_local 100 [] _ _ rfl ?_ ?_
            · simp
            exact hnk' _ _ ⟨rfl, rfl, rfl, rfl, rfl, i64_eq (wrap_succ (by omega)), trivial⟩ ⟨rfl, rfl, trivial⟩
    | zero =>
      intro o L ho hod σ ht hh
      refine Run.to ?_ ht hh (n' := 2)
      obtain rfl : o = x.ord.length := by omega
      rw [List.take_length] at hod
      refine RunF_sound tab_ok noX_local 400 [false] _ _ rfl ?_ ?_
      · simp
      suffices H4 : ∀ (m i : Nat), i + m = x.ev.length → ∀ σ, inT σ.t [(1, .ptr 0 0), (2, .tt false), (3, .v (.int .i64 (x.ev.length : Int))), (7, .mp 1), (11, .v (.int .i64 (i : Int)))] → inT σ.h [(0, .cells 28 [.vals 5 (xV x)]), (1, .map (encM .i64 .i64 L))] → Run _ _ σ by
        exact H4 x.ev.length 0 (by omega) _ ⟨rfl, rfl, rfl, rfl, rfl, trivial⟩ ⟨rfl, rfl, trivial⟩
      intro m
      induction m with
      | zero =>
        intro i hi σ ht hh
        refine Run.to ?_ ht hh (n' := 2)
        obtain rfl : i = x.ev.length := by omega
        refine RunF_sound tab_ok noX_local 400 [false] _ _ rfl ?_ ?_
        · simp
        refine Run.retM (Ds := []) tab_ok noX_local Tryd.func15 rfl trivial fun M fp a w' hr => ?_
        exact ⟨hr.agree, true, rfl, fun _ => ⟨c1, c2, hrd, hod⟩⟩
      | succ m ih =>
        intro i hi σ ht hh
        refine Run.to ?_ ht hh (n' := 2)
        have hj : i < x.ev.length := by omega
        have hvp := (hX.ev i hj).1
        have hje := hX.ev.ext i hj
        have hjs := hX.ev.some i hj
        refine RunF_sound tab_ok noX_local 400 [true] _ _ rfl ?_ ?_
        · simp
          exact ⟨hj, ⟨hvp, hj⟩, hjs⟩
        refine Run.callFn (r := .bool (wrB x.ev[i])) noX_local rfl rfl rfl rfl rfl rfl rfl write_enters rfl (fun w' _ => ?_) ?_
        · simp only [fnC_w0, Int.toNat_natCast, show (slOf (xV x)[0 + 0 - 0]?).1 = x.pe from rfl, hje]
          exact write_ok x.ev[i] w'
        cases hwr : wrB x.ev[i] with
        | false =>
          refine RunF_sound tab_ok noX_local 400 [false] _ _ rfl ?_ ?_
          · simp
          exact ih (i + 1) (by omega) _ ⟨rfl, rfl, rfl, rfl, i64_eq (wrap_succ (by omega)), trivial⟩ ⟨rfl, rfl, trivial⟩
        | true =>
          refine RunF_sound tab_ok noX_local 400 [true] _ _ rfl ?_ ?_
          · simp
          refine Run.mapAny (kv := .i64) (key := (i : Int)) tab_ok rfl rfl rfl rfl rfl rfl rfl rfl rfl rfl rfl ?_
          by_cases hg : mget L (i : Int) = 0
          · refine RunF_sound tab_ok noX_local 400 [true] _ _ rfl ?_ ?_
            · simp [hg]
            exact hno _ _ _ _ rfl
          · refine RunF_sound tab_ok noX_local 400 [false] _ _ rfl ?_ ?_
            · simp [hg]
            exact ih (i + 1) (by omega) _ ⟨rfl, rfl, rfl, rfl, i64_eq (wrap_succ (by omega)), trivial⟩ ⟨rfl, rfl, trivial⟩
theorem wholeX_enters : Enters Tryd.prog 15 := enters_mk Tryd.func15 (by decide) rfl
end Go.Proofs.YtmammebifhmnhaaDoor

/-
  The abstract machine, twenty-sixth part: make([]T, len, cap). Own work; over any program.
-/
namespace Go.AM

theorem run_makeSlice {P : Program} {T : Tab} (hT : tabOK P T) {t e : TypeId} {i : TI} {l c : Nat} (hd : T.desc t = some (.slice e)) (hi : lk T e = some i) (h1 : i.bytes * c ≤ 2 ^ 48) (h2 : l ≤ c) (h3 : c ≤ maxLen) (h0 : 0 < i.size) (w : World) :
    (Instr.makeSlice t (.int .i64 (l : Int)) (.int .i64 (c : Int))).run P w = .ok (.slice (some ⟨w.heap.size, 0, none⟩) l c) (w.alloc (.cells ((Array.range (c * i.size)).map (fun j => i.zero.cells[j % i.zero.cells.size]!)) e)) := by
  have hml : maxLen = 9223372036854775807 := rfl
  have w1 : IntKind.i64.wrap (l : Int) = (l : Int) := by rw [wrap_i64] <;> omega
  have w2 : IntKind.i64.wrap (c : Int) = (c : Int) := by rw [wrap_i64] <;> omega
  obtain ⟨_, x, hx, hs, hb, _⟩ := hT e _ hi
  have hn : ¬ c * i.size = 0 ∨ c = 0 := by
    rcases Nat.eq_zero_or_pos c with h | h
    · exact .inr h
    · exact .inl (Nat.ne_of_gt (Nat.mul_pos h h0))
  have g1 : ¬ ((c : Int) < 0) := by omega
  have g2 : ¬ ((i.bytes : Int) * (c : Int) > 281474976710656) := by
    have : ((i.bytes * c : Nat) : Int) ≤ 281474976710656 := by omega
    push_cast at this; omega
  have g3 : ¬ ((l : Int) < 0) := by omega
  have g4 : ¬ ((l : Int) > (c : Int)) := by omega
  have g : ¬ ((((c : Int) < 0 ∨ 281474976710656 < (i.bytes : Int) * (c : Int)) ∨ (l : Int) < 0) ∨ (c : Int) < (l : Int)) := by
    rintro (((h | h) | h) | h)
    · exact g1 h
    · exact g2 h
    · exact g3 h
    · exact g4 h
  simp only [Instr.makeSlice, Sem.run_bind, tab_und hT hd, Result.andThen_ok, asInt, asIntOf, typeInfo, hx]
  have g' : ¬ ((((c : Int) < 0 ∨ 281474976710656 < (i.bytes : Int) * (c : Int)) ∨ (l : Int) < 0) ∨ c < l) := fun h => g (h.imp id (fun h => by omega))
  simp [w1, w2, hb, tab_size' hT hi, tab_zero hT hi, newRow, typeInfo, hx]
  rw [if_neg g']
  by_cases hz : c * i.size = 0
  · have hr : Array.range 0 = (#[] : Array Nat) := rfl
    rw [if_pos hz, hz, hr, List.map_toArray, List.map_toArray, List.map_nil, List.map_nil]
  · rw [if_neg hz]

section
variable {C : Ctx} {ops : Array Oper} {i : Nat} {rest : List Nat} {k : List Item} {σ : St} {o : Oper} {T : Tab} {t e : TypeId} {x y : Operand} {ti : TI} {l c : Nat}

/-- A slice is made. -/
theorem Run.mkSlice (hT : tabOK C.P T) (hL : Local C.X) (ho : ops[i]? = some o) (hop : o.op = .makeSlice t x y) (hx : σ.ev x = some (.v (.int .i64 (l : Int)))) (hy : σ.ev y = some (.v (.int .i64 (c : Int)))) (hw : wantOf ops σ o = some .yes) (hd : dstOK C.n o.dst = true)
    (hb : σ.bel = true) (hds : T.desc t = some (.slice e)) (hi : lk T e = some ti) (h1 : ti.bytes * c ≤ 2 ^ 48) (h2 : l ≤ c) (h3 : c ≤ maxLen) (h0 : 0 < ti.size) (h4 : ti.zero.cells.size = ti.size)
    (h : Run C (.inRegion ops rest :: k) (St.put ⟨σ.t, (σ.nx, .row e ti.size l (repL l ti.zero.cells.toList)) :: σ.h, σ.nx + 1⟩ o.dst (.sl σ.nx ti.size 0 l))) : Run C (.inRegion ops (i :: rest) :: k) σ := by
  intro M fp a w hR cs
  have ex := hR.q.ev hx
  have ey := hR.q.ev hy
  simp only [conc] at ex ey
  have hrun : (execOp a.eval o).run C.P w = .ok (.value (.slice (some ⟨w.heap.size, 0, none⟩) l c)) (w.alloc (.cells ((Array.range (c * ti.size)).map (fun j => ti.zero.cells[j % ti.zero.cells.size]!)) e)) := by
    simp [execOp, hop, ex, ey, run_makeSlice hT hds hi h1 h2 h3 h0 w]
  have hz : ((Array.range (c * ti.size)).map (fun j => ti.zero.cells[j % ti.zero.cells.size]!)).toList = repL c ti.zero.cells.toList := by
    rw [← h4]; exact zeros_eq _ _
  have hzl : (repL c ti.zero.cells.toList).length = c * ti.size := by rw [repL_length, Array.length_toList, h4]
  have htk : ∀ l c : Nat, l ≤ c → (repL c ti.zero.cells.toList).take (l * ti.size) = repL l ti.zero.cells.toList := by
    intro l c
    induction l generalizing c with
    | zero => intro _; simp [repL]
    | succ l ih =>
      intro hlc
      obtain ⟨c, rfl⟩ : ∃ c', c = c' + 1 := ⟨c - 1, by omega⟩
      simp only [repL]
      rw [List.take_append, List.take_of_length_le (by rw [Array.length_toList, h4, Nat.succ_mul]; omega), Array.length_toList, h4, show (l + 1) * ti.size - ti.size = l * ti.size by rw [Nat.succ_mul]; omega, ih c (by omega)]
  have hR' := newBlk hL hR hb (cap := c) (cs := (Array.range (c * ti.size)).map (fun j => ti.zero.cells[j % ti.zero.cells.size]!)) (e := e) (B := .row e ti.size l (repL l ti.zero.cells.toList))
    ⟨by rw [repL_length, Array.length_toList, h4], (Array.range (c * ti.size)).map (fun j => ti.zero.cells[j % ti.zero.cells.size]!), by simp only [updM, if_true]; exact heap_alloc_new _ _, by simpa [updM] using h2, by simpa [updM] using h3, by
      simp [updM], by rw [hz, htk l c h2]⟩
  obtain ⟨m, s, z⟩ := h _ fp _ _ (hR'.put (z := .sl σ.nx ti.size 0 l) (dstOK_lt hd)) cs
  refine ⟨m, .head (step_value ho (wantOf_yes hR.q hw) (fun c e => by rw [hop] at e; cases e) ?_) s, z⟩
  rw [hrun]
  simp [conc, updM]
end
end Go.AM

/-
  The abstract machine, forty-second part: blocks that stand still from here on; what is said of the others may be said anew. Own work; over any program.
-/
namespace Go.AM

theorem Run.freezeB {C : Ctx} {todo : List Item} {σ : St} (T' : Loc → List (Nat × AV)) (H' : Loc → List (Nat × Blk)) (nx : Nat) (ht : ∀ M, inTM M σ.t (T' M))
    (hh : ∀ M id B', lk (H' M) id = some B' → ∃ B, lk σ.h id = some B ∧ ∀ w, BlkAt M w id B → BlkAt M w id B')
    (h : ∀ M w S1, Base C.S0 C.w0 S1 w → (∀ id B, lk σ.h id = some B → BlkAt M w id B) → (∀ id B, lk σ.h id = some B → lk (H' M) id = none → ¬ S1 (M id).1) → (∀ id B, lk σ.h id = some B → (M id).1 < C.w0.heap.size → C.S0 (M id).1) →
      Run (C.rebase w S1) todo ⟨T' M, H' M, nx⟩) : Run C todo σ := by
  intro M fp a w hR cs
  refine h M w (fun b => fp b ∨ ∃ id B, lk (H' M) id = some B ∧ (M id).1 = b) ⟨hR.agree, ?_⟩ hR.heap ?_ hR.own M fp a w ?_ cs
  · rintro b (hb | ⟨id, B, hB, rfl⟩) hl
    · exact (hR.fpok b hb).2 hl
    · obtain ⟨B0, h0, _⟩ := hh M id B hB
      exact hR.own _ _ h0 hl
  · rintro id B hB hn (hf | ⟨id', B', hB', e⟩)
    · exact hR.apart _ _ hB hf
    · obtain ⟨B0, h0, _⟩ := hh M id' B' hB'
      have := hR.inj _ _ _ _ h0 hB e
      subst this
      rw [hB'] at hn; cases hn
  · refine { heap := fun id B hB => ?_, inj := fun id id' B B' hB hB' e => ?_, own := fun id B hB _ => .inr ⟨id, B, hB, rfl⟩,
             apart := fun id B hB => ?_, agree := Agree.refl _ _, outer := hR.outer, fpok := fun b hb => ⟨(hR.fpok b hb).1, fun _ => .inl hb⟩, size := hR.size, frozen := hR.frozen,
             tmps := fun i x hx => ?_, defers := hR.defers }
    · obtain ⟨B0, h0, h1⟩ := hh M id B hB
      exact h1 w (hR.heap _ _ h0)
    · obtain ⟨B0, h0, _⟩ := hh M id B hB
      obtain ⟨B1, h1, _⟩ := hh M id' B' hB'
      exact hR.inj _ _ _ _ h0 h1 e
    · obtain ⟨B0, h0, _⟩ := hh M id B hB
      exact hR.apart _ _ h0
    · obtain ⟨y, hy, e⟩ := inTM_lk (ht M) hx
      rw [hR.tmps i y hy, e]
end Go.AM

/-
  fenced: an execution with a fence behind each event: what it is. Plain. Own work.
-/
namespace Go.Proofs.YtmammebifhmnhaaDoor
open Go.AM
set_option maxRecDepth 100000

def fen (t : Int) : Ev := ⟨4, t, -1, -1, false⟩
def fE : List Ev → List Ev
  | [] => []
  | e :: l => (if e.thread = -1 then [e] else [e, fen e.thread]) ++ fE l
def fF : List Ev → List Int → List Int
  | e :: l, f :: m => (if e.thread = -1 then [f] else [f, -1]) ++ fF l m
  | _, _ => []
def plN (ev : List Ev) (i : Nat) : Nat := (fE (ev.take i)).length
def plI (ev : List Ev) (v : Int) : Int := if 0 ≤ v then (plN ev v.toNat : Int) else v
def encI (l : List Int) : List Value := l.map fun v => Value.int .i64 v
@[simp] theorem encI_len (l : List Int) : (encI l).length = l.length := by simp [encI]
theorem encI_one (l : List Int) : (∀ u ∈ encI l, u.oneCell' = true) ↔ True := iff_true_intro fun u hu => by
  obtain ⟨i, _, rfl⟩ := List.mem_map.1 hu; rfl

theorem fE_app (l : List Ev) (e : Ev) : fE (l ++ [e]) = fE l ++ (if e.thread = -1 then [e] else [e, fen e.thread]) := by
  induction l with
  | nil => simp [fE]
  | cons a l ih => simp [fE, ih]
theorem fF_app : ∀ (l : List Ev) (m : List Int) (e : Ev) (f : Int), l.length = m.length → fF (l ++ [e]) (m ++ [f]) = fF l m ++ (if e.thread = -1 then [f] else [f, -1])
  | [], [], e, f, _ => by simp [fF]
  | a :: l, b :: m, e, f, h => by
    simp only [List.cons_append, fF, fF_app l m e f (by simpa using h), List.append_assoc]
  | [], _ :: _, _, _, h => by simp at h
  | _ :: _, [], _, _, h => by simp at h
theorem fF_len : ∀ (l : List Ev) (m : List Int), l.length = m.length → (fF l m).length = (fE l).length
  | [], [], _ => rfl
  | a :: l, b :: m, h => by
    simp only [fF, fE, List.length_append, fF_len l m (by simpa using h)]
    split <;> simp
  | [], _ :: _, h => by simp at h
  | _ :: _, [], h => by simp at h
theorem fE_le (l : List Ev) : (fE l).length ≤ 2 * l.length := by
  induction l with
  | nil => simp [fE]
  | cons a l ih => simp only [fE, List.length_append, List.length_cons]; split <;> simp <;> omega
theorem fE_ge (l : List Ev) : l.length ≤ (fE l).length := by
  induction l with
  | nil => simp
  | cons a l ih => simp only [fE, List.length_append, List.length_cons]; split <;> simp <;> omega
/-- The places so far. -/
def plR (ev : List Ev) (i : Nat) : List Int := (List.range ev.length).map fun j => if j < i then (plN ev j : Int) else 0
theorem plR_set (ev : List Ev) (i : Nat) (hi : i < ev.length) : (plR ev i).set i (plN ev i : Int) = plR ev (i + 1) := by
  apply List.ext_getElem
  · simp [plR]
  · intro j h1 h2
    rw [List.getElem_set]
    simp only [plR, List.getElem_map, List.getElem_range]
    by_cases e : i = j
    · subst e; simp
    · rw [if_neg e]
      by_cases hj : j < i
      · rw [if_pos hj, if_pos (by omega)]
      · rw [if_neg hj, if_neg (by omega)]

/-- What need not stand for what has been made to be seen: what may be turned, and all that was there before. -/
def OS (w : World) (S : Foot) : Foot := fun b => S b ∨ b < w.heap.size
theorem Agree.to {S T : Nat → Prop} {w w' : World} (h : Agree S w w') (hT : ∀ b, S b → T b) : Agree T w w' := ⟨h.os, h.tape, h.output, h.size, fun k hk hn => h.block k hk fun hs => hn (hT k hs)⟩
/-- What has been made for the new execution, as it is seen. -/
structure Made (w' : World) (pE pF pP : Option Addr) (E : List Ev) (F P : List Int) (vs : List Value) (ls : List (List Int)) : Prop where
  ev : SeesV w' pE E
  fr : SeesI w' pF F
  pl : SeesI w' pP P
  len : vs.length = ls.length
  ord : ∀ j (h : j < vs.length) (h' : j < ls.length), ∃ q c, vs[j] = .slice q ls[j].length c ∧ SeesI w' q ls[j]
theorem Made.snoc {w' : World} {pE pF pP : Option Addr} {E : List Ev} {F P : List Int} {vs : List Value} {ls : List (List Int)} (h : Made w' pE pF pP E F P vs ls) {vv : Value} {G : List Int} (hv : ∃ q c, vv = .slice q G.length c ∧ SeesI w' q G) : Made w' pE pF pP E F P (vs ++ [vv]) (ls ++ [G]) := by
  refine ⟨h.ev, h.fr, h.pl, by simp [h.len], fun j hj hj' => ?_⟩
  have hlen := h.len
  by_cases hlt : j < vs.length
  · rw [List.getElem_append_left hlt, List.getElem_append_left (by omega)]
    exact h.ord j hlt (by omega)
  · have e : j = vs.length := by simp at hj; omega
    subst e
    rw [List.getElem_append_right (Nat.le_refl _), List.getElem_append_right (by omega)]
    simp only [Nat.sub_self, List.getElem_singleton]
    exact hv
/-- The orders, as they lie in their row. -/
theorem Made.ords {w' : World} {pE pF pP : Option Addr} {E : List Ev} {F P : List Int} {vs : List Value} {ls : List (List Int)} (h : Made w' pE pF pP E F P vs ls) {M : AM.Loc} {id e n : Nat} (hb : BlkAt M w' id (.row e 1 n vs)) : SeesII w' (some ⟨(M id).1, 0, none⟩) ls := fun i hi => by
  have hlen := h.len
  obtain ⟨q, c, h1, h2⟩ := h.ord i (by omega) hi
  refine ⟨rfl, q, c, ?_, h2⟩
  have := row_cells hb i _ (by rw [List.getElem?_eq_getElem (by omega : i < vs.length)])
  rw [Option.getD_some, Addr.add_lit]
  rw [this, h1]
/-- It goes on to be seen. -/
theorem later_os {w w1 w2 : World} {S1 S2 : Foot} (hb : Base S1 w1 S2 w2) {w' : World} (hA : Agree (OS w S2) w2 w') : Agree (OS w S1) w1 w' :=
  (Agree.to hb.agree (fun _ h => .inl h)).trans hA fun b hs hl => hs.elim (fun h => .inl (hb.old b h hl)) .inr
theorem seesI_row {M : AM.Loc} {w : World} {id e n : Nat} {l : List Int} (hb : BlkAt M w id (.row e 1 n (encI l))) : SeesI w (some ⟨(M id).1, 0, none⟩) l := fun i hi => by
  refine ⟨rfl, ?_⟩
  have := row_cells hb i (.int .i64 l[i]) (by unfold encI; rw [List.getElem?_map, List.getElem?_eq_getElem hi]; rfl)
  rw [Option.getD_some, Addr.add_lit]
  exact this
theorem seesI_nil (w : World) (p : Option Addr) : SeesI w p [] := fun i hi => absurd hi (Nat.not_lt_zero _)
theorem blk_os {M : AM.Loc} {w w1 w' : World} {S1 : Foot} {id : Nat} {B : Blk} (hb : BlkAt M w1 id B) (ho : ¬ S1 (M id).1) (hn : w.heap.size ≤ (M id).1) (hA : Agree (OS w S1) w1 w') : BlkAt M w' id B :=
  BlkAt.same hb (hA.block _ hb.lt fun h => h.elim ho fun h => by omega)
/-- What fenced hands over. -/
def FenQ (x : Xn) (w : World) (v : Value) (w' : World) : Prop :=
  ∃ y : Xn, v = .tuple #[encX y, .bool (decide (y.ev.length ≤ 64))] ∧ y.ev = fE x.ev ∧ y.from_ = (fF x.ev x.from_).map (plI x.ev) ∧ y.ord = x.ord.map (fun l => l.map (plI x.ev)) ∧ ∀ w'', Agree (fun b => b < w.heap.size) w' w'' → SeesX w'' y
end Go.Proofs.YtmammebifhmnhaaDoor

/-
  A way round goes round; round. Own work; the laws of ways taken over from the texts of layer 2 by a program of our own (tools/closure.py).
-/
namespace Go.Proofs.YtmammebifhmnhaaDoor
open Go.AM Relation
set_option maxRecDepth 100000

theorem W_trans {R : Rl} : ∀ {n a b : Nat}, W R (n + 1) a b → TransGen (Pr R) a b
  | 0, a, b, hw => by
    obtain ⟨c, h, e⟩ := hw
    have e' : c = b := e
    subst e'
    exact .single h
  | n + 1, a, b, hw => by
    obtain ⟨c, h, k⟩ := hw
    exact TransGen_trans (.single h) (W_trans k)

theorem trans_W {R : Rl} {a b : Nat} (h : TransGen (Pr R) a b) : ∃ n, W R (n + 1) a b := by
  induction h with
  | single h => exact ⟨0, _, h, rfl⟩
  | tail _ h ih => obtain ⟨n, hn⟩ := ih; exact ⟨n + 1, W_snoc R hn h⟩

/-- The numbers of a way, from where it stands. -/
noncomputable def wayL (R : Rl) (g a k : Nat) : List Nat := a :: pathR R g a k

theorem wayL_len (R : Rl) (g a k : Nat) : (wayL R g a k).length = k + 1 := by rw [wayL, List.length_cons, pathR_length]

theorem wayL_succ {R : Rl} {g a k : Nat} (h : W R (k + 2) a g) : ∃ b, wayL R g a (k + 1) = a :: wayL R g b k ∧ R.has a b = true ∧ W R (k + 1) b g := by
  obtain ⟨b, hb, _, h1, h2⟩ := nxtR_some R g a (k + 1) h
  refine ⟨b, ?_, h1, h2⟩
  unfold wayL
  rw [pathR, hb]; rfl

theorem way_from {R : Rl} {g : Nat} : ∀ (k a : Nat), W R (k + 1) a g → ∀ j, j ≤ k → W R j a ((wayL R g a k).getD j 0)
  | _, a, _, 0, _ => rfl
  | 0, a, _, j + 1, hj => by omega
  | k + 1, a, h, j + 1, hj => by
    obtain ⟨b, e, h1, h2⟩ := wayL_succ h
    rw [e, List.getD_cons_succ]
    exact ⟨b, h1, way_from k b h2 j (by omega)⟩

theorem way_mid {R : Rl} {g : Nat} : ∀ (k a : Nat), W R (k + 1) a g → ∀ i j, i ≤ j → j ≤ k → W R (j - i) ((wayL R g a k).getD i 0) ((wayL R g a k).getD j 0)
  | k, a, h, 0, j, _, hj => by rw [Nat.sub_zero]; exact way_from k a h j hj
  | 0, a, _, i + 1, j, hi, hj => by omega
  | k + 1, a, h, i + 1, j, hi, hj => by
    obtain ⟨j, rfl⟩ : ∃ j', j = j' + 1 := ⟨j - 1, by omega⟩
    obtain ⟨b, e, h1, h2⟩ := wayL_succ h
    rw [e, List.getD_cons_succ, List.getD_cons_succ, show j + 1 - (i + 1) = j - i by omega]
    exact way_mid k b h2 i j (by omega) (by omega)

theorem way_last {R : Rl} {g : Nat} : ∀ (k a : Nat), W R (k + 1) a g → R.has ((wayL R g a k).getD k 0) g = true
  | 0, a, h => by
    obtain ⟨c, h1, e⟩ := h
    have e' : c = g := e
    subst e'
    exact h1
  | k + 1, a, h => by
    obtain ⟨b, e, h1, h2⟩ := wayL_succ h
    rw [e, List.getD_cons_succ]
    exact way_last k b h2

/-- Round and round: from each to the next, and none twice. -/
theorem cyc_step {R : Rl} {l : List Nat} (h : IsCyc R (some l)) (i : Nat) (hi : i < l.length) : R.has (l.getD i 0) (l.getD ((i + 1) % l.length) 0) = true := by
  rcases h with ⟨h, _⟩ | ⟨g, k, e, h1, _, _⟩
  · cases h
  · obtain rfl : l = wayL R g g k := Option.some.inj e
    rw [wayL_len] at hi ⊢
    rcases Nat.lt_or_ge i k with hl | hl
    · rw [Nat.mod_eq_of_lt (by omega)]
      have := way_mid k g h1 i (i + 1) (by omega) (by omega)
      rw [show i + 1 - i = 0 + 1 by omega] at this
      obtain ⟨c, h2, e2⟩ := this
      have e' : c = _ := e2
      rw [← e']; exact h2
    · obtain rfl : i = k := by omega
      rw [Nat.mod_self]
      exact way_last i g h1

theorem cyc_pos {R : Rl} {l : List Nat} (h : IsCyc R (some l)) : 0 < l.length := by
  rcases h with ⟨h, _⟩ | ⟨g, k, e, _⟩
  · cases h
  · obtain rfl := Option.some.inj e
    simp

theorem cyc_not {R : Rl} (hR : Rt R) {l : List Nat} (h : IsCyc R (some l)) : irB (clos R) = false := by
  rcases h with ⟨h, _⟩ | ⟨g, k, e, h1, _⟩
  · cases h
  · exact irB_false ((clos_has hR g g).2 (W_trans h1))

theorem cyc_acyc {R : Rl} (hR : Rt R) (h : IsCyc R none) : irB (clos R) = true := by
  refine irB_true fun a => ?_
  cases hc : (clos R).has a a with
  | false => rfl
  | true =>
    obtain ⟨m, hm⟩ := trans_W ((clos_has hR a a).1 hc)
    rcases h with ⟨_, h⟩ | ⟨g, k, e, _⟩
    · exact absurd hm (h a _ (by omega))
    · cases e


/-- A list that goes round. -/
def RoundL (R : Rl) (l : List Nat) : Prop := 0 < l.length ∧ ∀ i, i < l.length → R.has (l.getD i 0) (l.getD ((i + 1) % l.length) 0) = true
theorem cyc_round {R : Rl} {l : List Nat} (h : IsCyc R (some l)) : RoundL R l := ⟨cyc_pos h, fun i hi => cyc_step h i hi⟩

theorem SeesN.getD {w : World} {p : Option Addr} {l : List Nat} (h : SeesN w p l) (i : Nat) (hi : i < l.length) : p = some (p.getD default) ∧ w.cell? ((p.getD default).add i) = some (.int .i64 (l.getD i 0 : Int)) := by
  obtain ⟨h1, h2⟩ := h i hi
  refine ⟨h1, ?_⟩
  rw [h2, List.getD_eq_getElem?_getD, List.getElem?_eq_getElem hi]; rfl

set_option maxHeartbeats 1000000 in
theorem round_ok (R : Rl) (hR : Rt R) (p : Option Addr) (c : Nat) (l : List Nat) (w : World) (hs : SeesN w p l) (hl : RoundL R l) (hlen : l.length ≤ 64) :
    Gives Tryd.prog 20 [encRel R, .slice p l.length c] w (.bool true) := by
  refine Gives.of_run Tryd.func20 rfl (by show 2 ≤ 58; decide) ?_
  have hpos := hl.1
  refine RunF_sound tab_ok noX_local 100 [] _ _ rfl ?_ ?_
  · simp
  suffices H : ∀ (m i : Nat), i + m = l.length → ∀ σ, inT σ.t [(1, .v (.slice p l.length c)), (2, .ptr 0 0), (5, .v (.int .i64 (i : Int)))] → inT σ.h [(0, .cells 34 [.vals 65 (relV R)])] → Run _ _ σ by
    exact H l.length 0 (by omega) _ ⟨rfl, rfl, rfl, trivial⟩ ⟨rfl, trivial⟩
  intro m
  induction m with
  | zero =>
    intro i hi σ htt hh
    refine Run.to ?_ htt hh (n' := 1)
    refine RunF_sound tab_ok noX_local 100 [false] _ _ rfl ?_ ?_
    · simp; omega
    refine Run.retP tab_ok Tryd.func20 rfl trivial (fun M => ?_)
    simp [conc]; omega
  | succ m ih =>
    intro i hi σ htt hh
    refine Run.to ?_ htt hh (n' := 1)
    have his : i < l.length := by omega
    have hmod : (i + 1) % l.length < l.length := Nat.mod_lt _ hpos
    obtain ⟨hp, hpc⟩ := hs.getD i his
    obtain ⟨_, hqc⟩ := hs.getD _ hmod
    have hstep := hl.2 i his
    have hm : (IntKind.i64.wrap ((i : Int) + 1)).tmod (l.length : Int) = (((i + 1) % l.length : Nat) : Int) := by
      rw [wrap_succ (by omega)]; rfl
    generalize l.getD i 0 = a at *
    generalize l.getD ((i + 1) % l.length) 0 = b at *
    generalize (i + 1) % l.length = q at *
    have hlt := hR.lt a b hstep
    have hn := hR.hi
    have ha : a < 64 := by omega
    have hw := wrapn b (by omega)
    refine RunF_sound tab_ok noX_local 100 [true] _ _ rfl ?_ ?_
    · simp; omega
    refine Run.drawA noX_local rfl [] [(0, .cells 34 [.vals 65 (relV R)])] rfl rfl ⟨rfl, trivial⟩ ?_
    refine RunOF_sound tab_ok noX_local rfl rfl 200 [] _ _ rfl ?_ ?_
    · simp only [fnC_w0, fnC_S0, Int.toNat_natCast, Nat.mul_one, hm, hpc, hqc]
      simp
      exact ⟨⟨hp, his⟩, fun e => by rw [e] at hpos; exact absurd hpos (by decide), hp, hmod⟩
    refine RunO.done ?_
    refine RunF_sound tab_ok noX_local 400 [false, false, false, false, false] _ _ rfl ?_ ?_
    · simp only [fnC_w0, Int.toNat_natCast, Nat.mul_one, hm, hpc, hqc]
      simp [relV_get _ _ ha, intAt_row _ _ ha, hw]
      refine ⟨hlt.1, hlt.2, by omega, fun e => ?_⟩
      rw [bit0] at e
      rw [Rl.has, e] at hstep; cases hstep
    exact ih (i + 1) (by omega) _ ⟨rfl, rfl, i64_eq (wrap_succ (by omega)), trivial⟩ ⟨rfl, trivial⟩
theorem round_enters : Enters Tryd.prog 20 := enters_mk Tryd.func20 (by decide) rfl
end Go.Proofs.YtmammebifhmnhaaDoor

/-
  What Why and Order show: plain laws. Own work.
-/
namespace Go.Proofs.YtmammebifhmnhaaDoor
open Go.AM Relation
set_option maxRecDepth 100000

theorem gR_wd (x : Xn) {k : Int} (hk : gE k = 0) : Wd (shortL x.ev).length (gR x k) := by
  have hk' : k = 1 ∨ k = 2 ∨ k = 3 := by
    unfold gE at hk
    by_cases h : k < 1 ∨ k > 3
    · rw [if_pos h] at hk; cases hk
    · omega
  have hn := shortL_le x.ev
  rcases hk' with rfl | rfl | rfl
  · rw [show gR x 1 = _ from if_pos rfl]; exact (gen_cut _ _ hn).1
  · rw [show gR x 2 = _ from (if_neg (by decide)).trans (if_pos rfl)]; exact (gen_cut _ _ hn).1
  · rw [show gR x 3 = _ from (if_neg (by decide)).trans ((if_neg (by decide)).trans (if_pos rfl))]; exact (gen_cut _ _ hn).1
theorem unp_wd (x : Xn) : Wd (shortL x.ev).length (unpR (woX x)) := by
  have h := woX_ok x
  exact (up_wd h (meet_wd h.le h.p (stands_wd 2 x.ev)).1).1
theorem wd_rt {n : Nat} {R : Rl} (hn : n ≤ 64) (h : Wd n R) : Rt R := rt_of (h.right hn)

theorem cycO_round {R : Rl} (hR : Rt R) {l : List Nat} (h : cycO R = some l) : RoundL R l ∧ l.length ≤ 64 := by
  have := cycO_is R
  rw [h, hR.right] at this
  exact ⟨cyc_round this, cyc_len this⟩
theorem betO_len {n : Nat} {F M C : Rl} {l : List Nat} (h : betO n F M C = some l) : l.length = 3 := by
  have := betO_is n F M C
  rw [h] at this
  rcases this with ⟨h, _⟩ | ⟨r, v, x, _, _, _, h, _⟩
  · cases h
  · cases h; rfl

/-- What each axiom that does not hold shows. -/
theorem why_shows (x : Xn) (k : Int) (hk : gE k = 0) (a : Nat) (l : List Nat) (h : (a, l) ∈ whyL x k) : (a = 1 ∧ RoundL (unpR (woX x)) l ∧ l.length ≤ 64) ∨ (a = 2 ∧ l.length = 3) ∨ (a = 3 ∧ RoundL (gR x k) l ∧ l.length ≤ 64) := by
  have hk13 : ¬ (k < 1 ∨ k > 3) := fun h => by rw [gE, if_pos h] at hk; cases hk
  have hn := shortL_le x.ev
  rw [whyL, if_neg hk13] at h
  simp only [List.mem_append, List.mem_map, Option.mem_toList, Prod.mk.injEq] at h
  rcases h with ⟨l', h1, rfl, rfl⟩ | ⟨l', h1, rfl, rfl⟩ | ⟨l', h1, rfl, rfl⟩
  · exact .inl ⟨rfl, cycO_round (wd_rt hn (unp_wd x)) h1⟩
  · exact .inr (.inl ⟨rfl, betO_len h1⟩)
  · exact .inr (.inr ⟨rfl, cycO_round (wd_rt hn (gR_wd x hk)) h1⟩)

theorem why_few (x : Xn) (k : Int) : (whyL x k).length ≤ 3 := by
  unfold whyL
  split
  · simp
  · have h : ∀ (o : Option (List Nat)) (n : Nat), (o.toList.map fun l => (n, l)).length ≤ 1 := fun o n => by cases o <;> simp
    rw [List.length_append, List.length_append]
    have h1 := h (cycO (unpR (woX x))) 1
    have h2 := h (betO (shortL x.ev).length (kFr x) (standsL 5 x.ev) (kCo x)) 2
    have h3 := h (cycO (gR x k)) 3
    omega

theorem ord_ok (x : Xn) (k : Int) (hk : gE k = 0) (hh : hldB x k = true) : (ordL x k).2 = 0 ∧ (ordL x k).1.length = (shortL x.ev).length ∧ goodL (aheadL (gR x k)) (shortL x.ev).length 0#64 (ordL x k).1 := by
  have hk13 : ¬ (k < 1 ∨ k > 3) := fun h => by rw [gE, if_pos h] at hk; cases hk
  have hn := shortL_le x.ev
  have hw := gR_wd x hk
  have hR := wd_rt hn hw
  have hc : cycO (gR x k) = none := by
    rw [hldB, Bool.and_eq_true, List.isEmpty_iff, whyL, if_neg hk13] at hh
    have h := hh.2
    simp only [List.append_eq_nil_iff, List.map_eq_nil_iff] at h
    cases hq : cycO (gR x k) with
    | none => rfl
    | some l => rw [hq] at h; cases h.2.2
  have hi := cycO_is (gR x k)
  rw [hc, hR.right] at hi
  obtain ⟨o, h1, h2, h3⟩ := extend_some hR (cyc_acyc hR hi)
  have hnn : (gR x k).n.toNat = (shortL x.ev).length := by rw [hw.sz]; rfl
  rw [hnn] at h2 h3
  have ho : ordL x k = (o, 0) := by
    rw [ordL, if_neg (by simp [hk]), if_neg (by simp [hh]), h1]; rfl
  rw [ho]
  exact ⟨rfl, h2, h3⟩
theorem ord_not (x : Xn) (k : Int) (hk : gE k = 0) (hh : hldB x k = false) : ordL x k = ([], 3) := by rw [ordL, if_neg (by simp [hk]), if_pos hh]
theorem ord_out (x : Xn) (k : Int) (hk : gE k ≠ 0) : ordL x k = ([], gE k) := by rw [ordL, if_pos hk]

theorem bit_shl (i j : Nat) (hi : i < 64) : (1#64 <<< i).getLsbD j = decide (i = j) := by
  rw [BitVec.getLsbD_shiftLeft, BitVec.getLsbD_one]
  by_cases h : i = j
  · subst h; simp [hi]
  · by_cases hlt : j < i
    · simp [hlt, h]
    · have : j - i ≠ 0 := by omega
      simp [h, this]

/-- What a good order is, place by place. -/
theorem good_at {A : Rl} {n : Nat} (hn : n ≤ 64) : ∀ (o : List Nat) (dn : BitVec 64), goodL A n dn o → ∀ k (hk : k < o.length), o[k] < n ∧ dn.getLsbD o[k] = false ∧ (∀ j (hj : j < k), o[j] ≠ o[k]) ∧ ∀ j, A.has o[k] j = true → dn.getLsbD j = true ∨ ∃ i, ∃ hi : i < k, o[i] = j
  | [], _, _, k, hk => absurd hk (Nat.not_lt_zero _)
  | v :: t, dn, ⟨h1, h2, h3⟩, 0, _ => by
    rw [rdyB_iff] at h2
    exact ⟨h1, h2.1, fun j hj => absurd hj (Nat.not_lt_zero _), fun j hj => .inl (h2.2 j hj)⟩
  | v :: t, dn, ⟨h1, h2, h3⟩, k + 1, hk => by
    have hk' : k < t.length := by simpa using hk
    obtain ⟨g1, g2, g3, g4⟩ := good_at hn t _ h3 k hk'
    rw [BitVec.getLsbD_or, bit_shl _ _ (by omega), Bool.or_eq_false_iff, decide_eq_false_iff_not] at g2
    refine ⟨g1, g2.1, fun j hj => ?_, fun j hj => ?_⟩
    · rcases j with _ | j
      · exact g2.2
      · exact g3 j (by omega)
    · rcases g4 j hj with g | ⟨i, hi, e⟩
      · rw [BitVec.getLsbD_or, bit_shl _ _ (by omega), Bool.or_eq_true, decide_eq_true_eq] at g
        rcases g with g | g
        · exact .inl g
        · exact .inr ⟨0, by omega, g⟩
      · exact .inr ⟨i + 1, by omega, e⟩

/-- Places, as the map keeps them. -/
def posL : List Nat → Nat → List (Int × Int)
  | [], _ => []
  | v :: t, i => ((v : Int), ((i + 1 : Nat) : Int)) :: posL t (i + 1)
theorem posL_app : ∀ (l : List Nat) (v i : Nat), posL (l ++ [v]) i = posL l i ++ [((v : Int), ((i + l.length + 1 : Nat) : Int))]
  | [], v, i => rfl
  | a :: l, v, i => by
    rw [List.cons_append, posL, posL, posL_app l v (i + 1), List.cons_append, List.length_cons]
    rw [show i + 1 + l.length + 1 = i + (l.length + 1) + 1 by omega]
theorem posL_ne : ∀ (l : List Nat) (v i : Nat), v ∉ l → ∀ p ∈ posL l i, p.1 ≠ (v : Int)
  | [], v, i, _, p, hp => by cases hp
  | a :: l, v, i, h, p, hp => by
    rw [posL] at hp
    rcases List.mem_cons.1 hp with rfl | hp
    · intro e
      have e' : v = a := by simp only at e; omega
      exact h (by simp [e'])
    · exact posL_ne l v (i + 1) (fun hv => h (by simp [hv])) p hp
theorem posL_get : ∀ (l : List Nat) (k i : Nat) (hk : k < l.length), (∀ j (hj : j < k), l[j] ≠ l[k]) → mget (posL l i) (l[k] : Int) = ((i + k + 1 : Nat) : Int)
  | [], k, i, hk, _ => absurd hk (Nat.not_lt_zero _)
  | a :: l, 0, i, _, _ => by rw [posL]; simp [mget]
  | a :: l, k + 1, i, hk, h => by
    have hk' : k < l.length := by simpa using hk
    have h0 : a ≠ l[k] := h 0 (by omega)
    rw [posL, mget, if_neg (by simp; omega)]
    have := posL_get l k (i + 1) hk' (fun j hj => h (j + 1) (by omega))
    simp only [List.getElem_cons_succ]
    rw [this, show i + 1 + k + 1 = i + (k + 1) + 1 by omega]

theorem sub_len' (a b : List Nat) (ha : a.Nodup) (h : ∀ z ∈ a, z ∈ b) : a.length ≤ b.length := by
  induction a generalizing b with
  | nil => simp
  | cons x a ih =>
    have hx : x ∈ b := h x (by simp)
    have hn := List.nodup_cons.1 ha
    have := ih (b.erase x) hn.2 (fun z hz => by
      have hne : z ≠ x := fun e => hn.1 (e ▸ hz)
      exact (List.mem_erase_of_ne hne).2 (h z (by simp [hz])))
    rw [List.length_erase_of_mem hx] at this
    have hb : 0 < b.length := List.length_pos_of_mem hx
    simp; omega

/-- In an order that is good all pairs go forward. -/
theorem good_fwd {R : Rl} (hR : Rt R) {n : Nat} (hn : n ≤ 64) (hN : R.n = (n : Int)) {o : List Nat} (hl : o.length = n) (hg : goodL (aheadL R) n 0#64 o) (a b : Nat) (h : R.has a b = true) : mget (posL o 0) (a : Int) < mget (posL o 0) (b : Int) := by
  have hat := good_at hn o _ hg
  have hnd : o.Nodup := by
    rw [List.Nodup, List.pairwise_iff_getElem]
    intro i j hi hj hij
    exact (hat j hj).2.2.1 i hij
  have hb : b ∈ o := by
    refine Classical.byContradiction fun hb => ?_
    have := sub_len' (b :: o) (List.range n) (List.nodup_cons.2 ⟨hb, hnd⟩) (fun z hz => by
      rcases List.mem_cons.1 hz with rfl | hz
      · have := (hR.lt _ _ h).2; rw [hN] at this; exact List.mem_range.2 (by omega)
      · obtain ⟨k, hk, rfl⟩ := List.getElem_of_mem hz
        exact List.mem_range.2 (hat k hk).1)
    rw [List.length_cons, List.length_range] at this
    omega
  obtain ⟨q, hq, rfl⟩ := List.getElem_of_mem hb
  obtain ⟨_, _, h3, h4⟩ := hat q hq
  rcases h4 a ((aheadL_has hR _ _).2 h) with g | ⟨i, hi, e⟩
  · simp at g
  · subst e
    rw [posL_get o q 0 hq h3, posL_get o i 0 (by omega) (hat i (by omega)).2.2.1]
    omega
end Go.Proofs.YtmammebifhmnhaaDoor

/-
  An execution with fences behind its events, place by place. Plain. Own work.
-/
namespace Go.Proofs.YtmammebifhmnhaaDoor
open Go.AM Relation
set_option maxRecDepth 100000

theorem plN_0 (l : List Ev) : plN l 0 = 0 := by simp [plN, fE]
theorem plN_succ (l : List Ev) (i : Nat) (h : i < l.length) : plN l (i + 1) = plN l i + (if l[i].thread = -1 then 1 else 2) := by
  unfold plN
  rw [List.take_succ_eq_append_getElem h, fE_app, List.length_append]
  split <;> rfl
theorem plN_cons (e : Ev) (l : List Ev) (i : Nat) : plN (e :: l) (i + 1) = (if e.thread = -1 then 1 else 2) + plN l i := by
  unfold plN
  rw [List.take_succ_cons, fE, List.length_append]
  split <;> rfl
theorem plN_lt (l : List Ev) : ∀ (d i : Nat), i + d < l.length → plN l i + (d + 1) ≤ plN l (i + d + 1)
  | 0, i, h => by rw [Nat.add_zero, plN_succ l i h]; split <;> omega
  | d + 1, i, h => by
    have := plN_lt l d i (by omega)
    rw [show i + (d + 1) + 1 = (i + d + 1) + 1 by omega, plN_succ l (i + d + 1) (by omega)]
    split <;> omega
theorem plN_mono (l : List Ev) {i j : Nat} (hij : i < j) (hj : j ≤ l.length) : plN l i < plN l j := by
  have := plN_lt l (j - i - 1) i (by omega)
  rw [show i + (j - i - 1) + 1 = j by omega] at this
  omega
theorem plN_mono2 (l : List Ev) {i j : Nat} (hij : i < j) (hj : j ≤ l.length) (ht : (l[i]'(by omega)).thread ≠ -1) : plN l i + 1 < plN l j := by
  have h1 := plN_succ l i (by omega)
  rw [if_neg ht] at h1
  rcases Nat.lt_or_ge (i + 1) j with h | h
  · have := plN_mono l h hj; omega
  · have : j = i + 1 := by omega
    subst this; omega
theorem plN_inj (l : List Ev) {i j : Nat} (hi : i < l.length) (hj : j < l.length) (h : plN l i = plN l j) : i = j := by
  rcases Nat.lt_trichotomy i j with h1 | h1 | h1
  · have := plN_mono l h1 (by omega); omega
  · exact h1
  · have := plN_mono l h1 (by omega); omega

theorem fE_at : ∀ (l : List Ev) (i : Nat) (h : i < l.length), (fE l)[plN l i]? = some l[i] ∧ (l[i].thread ≠ -1 → (fE l)[plN l i + 1]? = some (fen l[i].thread))
  | [], i, h => absurd h (Nat.not_lt_zero _)
  | e :: l, 0, _ => by
    rw [plN_0, fE]
    by_cases ht : e.thread = -1
    · rw [if_pos ht]; exact ⟨rfl, fun h => absurd ht h⟩
    · rw [if_neg ht]; exact ⟨rfl, fun _ => rfl⟩
  | e :: l, i + 1, h => by
    obtain ⟨h1, h2⟩ := fE_at l i (by simpa using h)
    rw [plN_cons, fE]
    by_cases ht : e.thread = -1
    · rw [if_pos ht, if_pos ht]
      refine ⟨?_, fun hh => ?_⟩
      · rw [List.getElem?_append_right (by simp), show 1 + plN l i - [e].length = plN l i by simp]; exact h1
      · rw [List.getElem?_append_right (by simp <;> omega), show 1 + plN l i + 1 - [e].length = plN l i + 1 by simp <;> omega]; exact h2 hh
    · rw [if_neg ht, if_neg ht]
      refine ⟨?_, fun hh => ?_⟩
      · rw [List.getElem?_append_right (by simp), show 2 + plN l i - [e, fen e.thread].length = plN l i by simp]; exact h1
      · rw [List.getElem?_append_right (by simp <;> omega), show 2 + plN l i + 1 - [e, fen e.thread].length = plN l i + 1 by simp <;> omega]; exact h2 hh
theorem fF_at : ∀ (l : List Ev) (m : List Int) (i : Nat) (h : i < l.length) (h' : i < m.length), (fF l m)[plN l i]? = some m[i] ∧ (l[i].thread ≠ -1 → (fF l m)[plN l i + 1]? = some (-1))
  | [], _, i, h, _ => absurd h (Nat.not_lt_zero _)
  | _ :: _, [], i, _, h => absurd h (Nat.not_lt_zero _)
  | e :: l, f :: m, 0, _, _ => by
    rw [plN_0, fF]
    by_cases ht : e.thread = -1
    · rw [if_pos ht]; exact ⟨rfl, fun h => absurd ht h⟩
    · rw [if_neg ht]; exact ⟨rfl, fun _ => rfl⟩
  | e :: l, f :: m, i + 1, h, h' => by
    obtain ⟨h1, h2⟩ := fF_at l m i (by simpa using h) (by simpa using h')
    rw [plN_cons, fF]
    by_cases ht : e.thread = -1
    · rw [if_pos ht, if_pos ht]
      refine ⟨?_, fun hh => ?_⟩
      · rw [List.getElem?_append_right (by simp), show 1 + plN l i - [f].length = plN l i by simp]; exact h1
      · rw [List.getElem?_append_right (by simp <;> omega), show 1 + plN l i + 1 - [f].length = plN l i + 1 by simp <;> omega]; exact h2 hh
    · rw [if_neg ht, if_neg ht]
      refine ⟨?_, fun hh => ?_⟩
      · rw [List.getElem?_append_right (by simp), show 2 + plN l i - [f, -1].length = plN l i by simp]; exact h1
      · rw [List.getElem?_append_right (by simp <;> omega), show 2 + plN l i + 1 - [f, -1].length = plN l i + 1 by simp <;> omega]; exact h2 hh
theorem fE_cover : ∀ (l : List Ev) (q : Nat), q < (fE l).length → ∃ i, ∃ h : i < l.length, q = plN l i ∨ (l[i].thread ≠ -1 ∧ q = plN l i + 1)
  | [], q, h => by simp [fE] at h
  | e :: l, q, h => by
    by_cases ht : e.thread = -1
    · rcases q with _ | q
      · exact ⟨0, by simp, .inl (plN_0 _).symm⟩
      · rw [fE, if_pos ht, List.length_append] at h
        obtain ⟨i, hi, hq⟩ := fE_cover l q (by simp at h; omega)
        refine ⟨i + 1, by simpa using hi, ?_⟩
        rw [plN_cons, if_pos ht]
        rcases hq with rfl | ⟨h1, rfl⟩
        · exact .inl (by omega)
        · exact .inr ⟨h1, by omega⟩
    · rcases q with _ | _ | q
      · exact ⟨0, by simp, .inl (plN_0 _).symm⟩
      · exact ⟨0, by simp, .inr ⟨ht, by rw [plN_0]⟩⟩
      · rw [fE, if_neg ht, List.length_append] at h
        obtain ⟨i, hi, hq⟩ := fE_cover l q (by simp at h; omega)
        refine ⟨i + 1, by simpa using hi, ?_⟩
        rw [plN_cons, if_neg ht]
        rcases hq with rfl | ⟨h1, rfl⟩
        · exact .inl (by omega)
        · exact .inr ⟨h1, by omega⟩

/-! ### Ways -/
def NoCyc (R : Rl) : Prop := ∀ a m, 1 ≤ m → ¬ W R m a a
theorem cycO_none {R : Rl} (hR : rightL R = R) : cycO R = none ↔ NoCyc R := by
  have h := cycO_is R
  rw [hR] at h
  constructor
  · intro e
    rw [e] at h
    rcases h with ⟨_, h⟩ | ⟨_, _, h, _⟩
    · exact h
    · cases h
  · intro hn
    rcases h with ⟨h, _⟩ | ⟨g, k, _, h, _⟩
    · exact h
    · exact absurd h (hn g (k + 1) (by omega))
/-- What goes step by step along another relation, or stays and rises, has no round if that one has none. -/
theorem NoCyc.sim {R S : Rl} (f : Nat → Nat) (h : ∀ a b, S.has a b = true → (∃ m, 1 ≤ m ∧ W R m (f a) (f b)) ∨ (f a = f b ∧ a < b)) (hR : NoCyc R) : NoCyc S := by
  have key : ∀ m a b, W S (m + 1) a b → (∃ m, 1 ≤ m ∧ W R m (f a) (f b)) ∨ (f a = f b ∧ a < b) := by
    intro m
    induction m with
    | zero =>
      rintro a b ⟨c, h1, h2⟩
      obtain rfl : c = b := h2
      exact h a c h1
    | succ m ih =>
      rintro a b ⟨c, h1, h2⟩
      rcases h a c h1 with ⟨m1, g1, g2⟩ | ⟨g1, g2⟩ <;> rcases ih c b h2 with ⟨m2, k1, k2⟩ | ⟨k1, k2⟩
      · exact .inl ⟨m1 + m2, by omega, W_add R m1 m2 _ _ _ g2 k2⟩
      · rw [k1] at g2; exact .inl ⟨m1, g1, g2⟩
      · rw [← g1] at k2; exact .inl ⟨m2, k1, k2⟩
      · exact .inr ⟨g1.trans k1, by omega⟩
  intro a m hm hw
  obtain ⟨m, rfl⟩ : ∃ k, m = k + 1 := ⟨m - 1, by omega⟩
  rcases key m a a hw with ⟨m, h1, h2⟩ | ⟨_, h2⟩
  · exact hR _ _ h1 h2
  · exact Nat.lt_irrefl _ h2
theorem NoCyc.sub {R S : Rl} (h : ∀ a b, S.has a b = true → R.has a b = true) (hR : NoCyc R) : NoCyc S :=
  hR.sim id fun a b hs => .inl ⟨1, Nat.le_refl _, b, h a b hs, rfl⟩
end Go.Proofs.YtmammebifhmnhaaDoor

/-
  The relations of an execution with fences are the execution's. Plain. Own work.
-/
namespace Go.Proofs.YtmammebifhmnhaaDoor
open Go.AM Relation
set_option maxRecDepth 100000

theorem sh {l : List Ev} (h : l.length ≤ 64) : shortL l = l := by unfold shortL; rw [if_neg (by omega)]
theorem st_has (k : Int) {xs : List Ev} (h : xs.length ≤ 64) (a b : Nat) : (standsL k xs).has a b = true ↔ ∃ ea eb, xs[a]? = some ea ∧ xs[b]? = some eb ∧ standsB k (a : Int) (b : Int) ea eb = true := by
  unfold standsL pairsL
  rw [Rl.has_gen, sh h]
  unfold atB
  simp only [Bool.and_eq_true, decide_eq_true_eq]
  constructor
  · rintro ⟨_, h2⟩
    cases ha : xs[a]? with
    | none => rw [ha] at h2; cases h2
    | some ea =>
      cases hb : xs[b]? with
      | none => rw [ha, hb] at h2; cases h2
      | some eb => rw [ha, hb] at h2; exact ⟨ea, eb, rfl, rfl, h2⟩
  · rintro ⟨ea, eb, h1, h2, h3⟩
    have ha := (List.getElem?_eq_some_iff.1 h1).1
    have hb := (List.getElem?_eq_some_iff.1 h2).1
    refine ⟨⟨by omega, by omega⟩, ?_⟩
    rw [h1, h2]; exact h3
theorem rf_has (x : Xn) (h : x.ev.length ≤ 64) (a b : Nat) : (kRf x).has a b = true ↔ a < x.ev.length ∧ b < x.ev.length ∧ x.from_[b]? = some (a : Int) := by
  unfold kRf rfL rfP
  rw [Rl.has_gen, sh h]
  simp only [Bool.and_eq_true, decide_eq_true_eq]
  constructor
  · rintro ⟨_, h1, h2, h3⟩
    exact ⟨by omega, by omega, h3⟩
  · rintro ⟨h1, h2, h3⟩
    have := (List.getElem?_eq_some_iff.1 h3).1
    exact ⟨⟨by omega, by omega⟩, by omega, by omega, h3⟩
theorem fr_has (x : Xn) (h : x.ev.length ≤ 64) (a b : Nat) (ha : a < 64) (hb : b < 64) : (kFr x).has a b = true ↔ ∃ z, z < x.ev.length ∧ (kRf x).has z a = true ∧ (kCo x).has z b = true ∧ a ≠ b := by
  unfold kFr frL
  rw [sh h, frP_has ha hb]
  constructor
  · rintro ⟨z, h1, h2⟩
    exact ⟨z, by omega, h2⟩
  · rintro ⟨z, h1, h2⟩
    exact ⟨z, .inl h1, h2⟩

/-- One relation is the other one's, place by place. -/
def Img (n : Nat) (p : Nat → Nat) (R R' : Rl) : Prop := ∀ a b, R'.has a b = true ↔ ∃ i j, i < n ∧ j < n ∧ a = p i ∧ b = p j ∧ R.has i j = true
def ImgB (n : Nat) (p : Nat → Nat) (s s' : BitVec 64) : Prop := ∀ a, s'.getLsbD a = true ↔ ∃ i, i < n ∧ a = p i ∧ s.getLsbD i = true

theorem cP_has (R : Rl) (s : BitVec 64) (v k a b : Nat) (hv : v < 64) (ha : a < 64) : (cP R s v k).has a b = true ↔ R.has a b = true ∨ (a < k ∧ s.getLsbD a = true ∧ b = v) := by
  unfold cP Rl.has
  rw [Rl.row_by, if_pos ha]
  by_cases h : a < k ∧ s.getLsbD a = true
  · rw [if_pos h, BitVec.getLsbD_or, bit_shl _ _ hv, Bool.or_eq_true, decide_eq_true_eq]
    constructor
    · rintro (h1 | h1)
      · exact .inl h1
      · exact .inr ⟨h.1, h.2, h1.symm⟩
    · rintro (h1 | h1)
      · exact .inl h1
      · exact .inr h1.2.2.symm
  · rw [if_neg h]
    constructor
    · exact .inl
    · rintro (h1 | h1)
      · exact h1
      · exact absurd ⟨h1.1, h1.2.1⟩ h
theorem has_64 {R : Rl} {a b : Nat} (h : R.has a b = true) : a < 64 ∧ b < 64 := Rl.has_lt R h

theorem co_step {n N : Nat} {p : Nat → Nat} (hn : n ≤ 64) (hN : N ≤ 64) (hp : ∀ i, i < n → p i < N) (hinj : ∀ i j, i < n → j < n → p i = p j → i = j) {R R' : Rl} {s s' : BitVec 64} (h1 : Img n p R R') (h2 : ImgB n p s s') (v : Nat) (hv : v < n) :
    Img n p (cStep n (R, s) (v : Int)).1 (cStep N (R', s') (p v : Int)).1 ∧ ImgB n p (cStep n (R, s) (v : Int)).2 (cStep N (R', s') (p v : Int)).2 := by
  have hpv := hp v hv
  unfold cStep
  rw [if_neg (by omega), if_neg (by omega)]
  simp only [Int.toNat_natCast]
  refine ⟨fun a b => ?_, fun a => ?_⟩
  · constructor
    · intro h
      have h64 := has_64 h
      rw [cP_has _ _ _ _ _ _ (by omega) h64.1] at h
      rcases h with h | ⟨g1, g2, rfl⟩
      · obtain ⟨i, j, q1, q2, q3, q4, q5⟩ := (h1 a b).1 h
        exact ⟨i, j, q1, q2, q3, q4, (cP_has _ _ _ _ _ _ (by omega) (by omega)).2 (.inl q5)⟩
      · obtain ⟨i, q1, rfl, q3⟩ := (h2 a).1 g2
        exact ⟨i, v, q1, hv, rfl, rfl, (cP_has _ _ _ _ _ _ (by omega) (by omega)).2 (.inr ⟨q1, q3, rfl⟩)⟩
    · rintro ⟨i, j, q1, q2, rfl, rfl, q5⟩
      have hpi := hp i q1
      rw [cP_has _ _ _ _ _ _ (by omega) (by omega)] at q5 ⊢
      rcases q5 with h | ⟨_, g2, rfl⟩
      · exact .inl ((h1 _ _).2 ⟨i, j, q1, q2, rfl, rfl, h⟩)
      · exact .inr ⟨hpi, (h2 _).2 ⟨i, q1, rfl, g2⟩, rfl⟩
  · rw [BitVec.getLsbD_or, bit_shl _ _ (by omega), Bool.or_eq_true, decide_eq_true_eq]
    constructor
    · rintro (h | h)
      · obtain ⟨i, q1, q2, q3⟩ := (h2 a).1 h
        exact ⟨i, q1, q2, by rw [BitVec.getLsbD_or, q3]; rfl⟩
      · exact ⟨v, hv, h.symm, by rw [BitVec.getLsbD_or, bit_shl _ _ (by omega)]; simp⟩
    · rintro ⟨i, q1, rfl, q3⟩
      rw [BitVec.getLsbD_or, bit_shl _ _ (by omega), Bool.or_eq_true, decide_eq_true_eq] at q3
      rcases q3 with h | rfl
      · exact .inl ((h2 _).2 ⟨i, q1, rfl, h⟩)
      · exact .inr rfl
theorem co_chain {n N : Nat} {p : Nat → Nat} {pI : Int → Int} (hn : n ≤ 64) (hN : N ≤ 64) (hp : ∀ i, i < n → p i < N) (hinj : ∀ i j, i < n → j < n → p i = p j → i = j) (hpI : ∀ i : Nat, i < n → pI (i : Int) = (p i : Int)) :
    ∀ (l : List Int), (∀ v ∈ l, 0 ≤ v ∧ v < (n : Int)) → ∀ {R R' : Rl} {s s' : BitVec 64}, Img n p R R' → ImgB n p s s' → Img n p (l.foldl (cStep n) (R, s)).1 ((l.map pI).foldl (cStep N) (R', s')).1
  | [], _, R, R', s, s', h1, _ => h1
  | v :: l, hl, R, R', s, s', h1, h2 => by
    obtain ⟨hv0, hv1⟩ := hl v (by simp)
    obtain ⟨q, rfl⟩ : ∃ q : Nat, v = (q : Int) := ⟨v.toNat, by omega⟩
    obtain ⟨g1, g2⟩ := co_step hn hN hp hinj h1 h2 q (by omega)
    rw [List.foldl_cons, List.map_cons, List.foldl_cons, hpI q (by omega)]
    exact co_chain hn hN hp hinj hpI l (fun w hw => hl w (by simp [hw])) g1 g2
theorem co_all {n N : Nat} {p : Nat → Nat} {pI : Int → Int} (hn : n ≤ 64) (hN : N ≤ 64) (hp : ∀ i, i < n → p i < N) (hinj : ∀ i j, i < n → j < n → p i = p j → i = j) (hpI : ∀ i : Nat, i < n → pI (i : Int) = (p i : Int)) :
    ∀ (ord : List (List Int)), (∀ l ∈ ord, ∀ v ∈ l, 0 ≤ v ∧ v < (n : Int)) → ∀ {R R' : Rl}, Img n p R R' → Img n p (ord.foldl (cChain n) R) ((ord.map fun l => l.map pI).foldl (cChain N) R')
  | [], _, R, R', h1 => h1
  | l :: ord, hl, R, R', h1 => by
    rw [List.foldl_cons, List.map_cons, List.foldl_cons]
    refine co_all hn hN hp hinj hpI ord (fun m hm => hl m (by simp [hm])) ?_
    exact co_chain hn hN hp hinj hpI l (hl l (by simp)) h1 (fun a => by simp)
end Go.Proofs.YtmammebifhmnhaaDoor

/-
  Which axioms hold of an execution, and of it with fences. Plain. Own work.
-/
namespace Go.Proofs.YtmammebifhmnhaaDoor
open Go.AM Relation
set_option maxRecDepth 100000

def BetN (x : Xn) : Prop := ∀ r v z, ¬ ((kFr x).has r v = true ∧ (standsL 5 x.ev).has r z = true ∧ (kCo x).has v z = true)
theorem hld_iff (x : Xn) {k : Int} (hk : gE k = 0) : hldB x k = true ↔ NoCyc (unpR (woX x)) ∧ BetN x ∧ NoCyc (gR x k) := by
  have hk13 : ¬ (k < 1 ∨ k > 3) := fun h => by rw [gE, if_pos h] at hk; cases hk
  have hn := shortL_le x.ev
  have hU := cycO_none ((unp_wd x).right hn)
  have hG := cycO_none ((gR_wd x hk).right hn)
  have hB : betO (shortL x.ev).length (kFr x) (standsL 5 x.ev) (kCo x) = none ↔ BetN x := by
    have h := betO_is (shortL x.ev).length (kFr x) (standsL 5 x.ev) (kCo x)
    constructor
    · intro e
      rw [e] at h
      rcases h with ⟨_, h⟩ | ⟨_, _, _, _, _, _, h, _⟩
      · rintro r v z ⟨h1, h2, h3⟩
        have b1 := (kFr_wd x).below _ _ h1
        have b2 := (stands_wd 5 x.ev).below _ _ h2
        have := h r v z b1.1 b1.2 b2.2 (.inl b1.1)
        rw [brkP, h1, h2, h3] at this
        cases this
      · cases h
    · intro hb
      rcases h with ⟨h, _⟩ | ⟨r, v, z, _, _, _, _, h, _⟩
      · exact h
      · rw [brkP, Bool.and_eq_true, Bool.and_eq_true] at h
        exact absurd ⟨h.1, h.2.1, h.2.2⟩ (hb r v z)
  rw [hldB, whyL, if_neg hk13, Bool.and_eq_true, decide_eq_true_eq, List.isEmpty_iff, List.append_eq_nil_iff, List.append_eq_nil_iff, List.map_eq_nil_iff, List.map_eq_nil_iff, List.map_eq_nil_iff, ← hU, ← hG, ← hB]
  have ho : ∀ o : Option (List Nat), o.toList = [] ↔ o = none := fun o => by cases o <;> simp
  rw [ho, ho, ho]
  exact ⟨fun h => h.2, fun h => ⟨hk, h⟩⟩

theorem g_at (x : Xn) {q : Nat → Nat → Bool} (a b : Nat) : (Rl.gen ((shortL x.ev).length : Int) (cutB (shortL x.ev).length q)).has a b = true ↔ a < (shortL x.ev).length ∧ b < (shortL x.ev).length ∧ q a b = true := by
  obtain ⟨h1, h2⟩ := gen_cut (shortL x.ev).length q (shortL_le _)
  constructor
  · intro h
    obtain ⟨ha, hb⟩ := h1.below _ _ h
    rw [h2 a b ha hb] at h
    exact ⟨ha, hb, h⟩
  · rintro ⟨ha, hb, h⟩
    rw [h2 a b ha hb]; exact h
theorem gR1 (x : Xn) : gR x 1 = Rl.gen ((shortL x.ev).length : Int) (cutB (shortL x.ev).length (con1 (rsX x))) := if_pos rfl
theorem gR2 (x : Xn) : gR x 2 = Rl.gen ((shortL x.ev).length : Int) (cutB (shortL x.ev).length (con2 (shortL x.ev).length (rsX x))) := (if_neg (by decide)).trans (if_pos rfl)
theorem gR3 (x : Xn) : gR x 3 = Rl.gen ((shortL x.ev).length : Int) (cutB (shortL x.ev).length (con3 (shortL x.ev).length (rsX x))) := (if_neg (by decide)).trans ((if_neg (by decide)).trans (if_pos rfl))

theorem st1_iff (xs : List Ev) (hl : xs.length ≤ 64) (a b : Nat) : (standsL 1 xs).has a b = true ↔ ∃ ea eb, xs[a]? = some ea ∧ xs[b]? = some eb ∧ ea.thread = eb.thread ∧ ea.thread ≠ -1 ∧ a < b := by
  rw [st_has 1 hl]
  have : ∀ ea eb, standsB 1 (a : Int) (b : Int) ea eb = true ↔ ea.thread = eb.thread ∧ ea.thread ≠ -1 ∧ a < b := fun ea eb => by
    rw [standsB, if_pos rfl, togB]; simp [and_assoc]
  simp only [this]
theorem st1_trans (xs : List Ev) (hl : xs.length ≤ 64) {a b c : Nat} (h1 : (standsL 1 xs).has a b = true) (h2 : (standsL 1 xs).has b c = true) : (standsL 1 xs).has a c = true := by
  rw [st1_iff xs hl] at *
  obtain ⟨ea, eb, p1, p2, p3, p4, p5⟩ := h1
  obtain ⟨eb', ec, q1, q2, q3, q4, q5⟩ := h2
  rw [p2] at q1
  cases q1
  exact ⟨ea, ec, p1, q2, p3.trans q3, p4, by omega⟩
theorem st_short (k : Int) (xs : List Ev) : standsL k xs = standsL k (shortL xs) := (standsL_short k xs).symm
theorem fen_po (x : Xn) {a b : Nat} (h : fenB (shortL x.ev).length (rsX x) a b = true) : (standsL 1 x.ev).has a b = true := by
  rw [fenB, List.any_eq_true] at h
  obtain ⟨k, _, h⟩ := h
  simp only [Bool.and_eq_true] at h
  have h1 : (standsL 1 x.ev).has a k = true := h.2.1
  have h2 : (standsL 1 x.ev).has k b = true := h.2.2
  rw [st_short] at *
  exact st1_trans _ (shortL_le _) h1 h2

theorem g_21 (x : Xn) (a b : Nat) (h : (gR x 2).has a b = true) : (gR x 1).has a b = true := by
  rw [gR2, g_at] at h
  rw [gR1, g_at]
  refine ⟨h.1, h.2.1, ?_⟩
  replace h := h.2.2
  have hf := @fen_po x a b
  have hp : (rsX x).po.has a b = (standsL 1 x.ev).has a b := rfl
  rw [← hp] at hf
  simp only [con2, conW, con1, memPB, Bool.or_eq_true, Bool.and_eq_true] at h ⊢
  rcases h with (((h | h) | h) | h) | h
  · exact .inl (.inl h)
  · exact .inr h.1
  · exact .inl (.inr (hf h))
  · exact .inl (.inr h.1.1.1)
  · exact .inl (.inr h.1.1.1)
theorem g_32 (x : Xn) (a b : Nat) (h : (gR x 3).has a b = true) : (gR x 2).has a b = true := by
  rw [gR3, g_at] at h
  rw [gR2, g_at]
  refine ⟨h.1, h.2.1, ?_⟩
  have ha : a < 64 := by have := shortL_le x.ev; omega
  replace h := h.2.2
  simp only [con2, con3, Bool.or_eq_true, Bool.and_eq_true] at h ⊢
  rcases h with h | ⟨h, hw⟩
  · exact .inl h
  · refine .inr ⟨h, ?_⟩
    have hrw : (rsX x).rw.getLsbD a = false := by
      have hw' : (thoseL (fun e => decide (e.kind = 3)) x.ev).getLsbD a = true := hw
      show (thoseL (fun e => decide (e.kind = 1)) x.ev ||| thoseL (fun e => decide (e.kind = 2)) x.ev).getLsbD a = false
      rw [BitVec.getLsbD_or, those_get _ _ ha, those_get _ _ ha]
      rw [those_get _ _ ha] at hw'
      cases e : (shortL x.ev)[a]? with
      | none => rw [e] at hw'; simp at hw'
      | some e' =>
        rw [e] at hw'
        have h3 : e'.kind = 3 := by simpa using (Bool.and_eq_true_iff.1 hw').2
        simp [h3]
    rw [hrw]; rfl
theorem hld_12 (x : Xn) (h : hldB x 1 = true) : hldB x 2 = true := by
  rw [hld_iff x rfl] at h ⊢
  exact ⟨h.1, h.2.1, h.2.2.sub (g_21 x)⟩
theorem hld_23 (x : Xn) (h : hldB x 2 = true) : hldB x 3 = true := by
  rw [hld_iff x rfl] at h ⊢
  exact ⟨h.1, h.2.1, h.2.2.sub (g_32 x)⟩

theorem U_at (x : Xn) (hl : x.ev.length ≤ 64) (a b : Nat) : (unpR (woX x)).has a b = true ↔ ((standsL 1 x.ev).has a b = true ∧ (standsL 2 x.ev).has a b = true) ∨ (kRf x).has a b = true ∨ (kCo x).has a b = true ∨ (kFr x).has a b = true := by
  have h := woX_ok x
  obtain ⟨m1, m2⟩ := meet_wd h.le h.p (stands_wd 2 x.ev)
  obtain ⟨u1, u2⟩ := up_wd h m1
  have key : ∀ a b, a < (shortL x.ev).length → b < (shortL x.ev).length → ((unpR (woX x)).has a b = true ↔ ((standsL 1 x.ev).has a b = true ∧ (standsL 2 x.ev).has a b = true) ∨ (kRf x).has a b = true ∨ (kCo x).has a b = true ∨ (kFr x).has a b = true) := fun a b ha hb => by
    have e1 := u2 a b ha hb
    have e2 := m2 a b ha hb
    rw [e2] at e1
    rw [show (unpR (woX x)).has a b = _ from e1]
    simp only [Bool.or_eq_true, Bool.and_eq_true]
    exact Iff.rfl
  constructor
  · intro h'
    obtain ⟨ha, hb⟩ := (unp_wd x).below _ _ h'
    exact (key a b ha hb).1 h'
  · intro h'
    have : a < (shortL x.ev).length ∧ b < (shortL x.ev).length := by
      rcases h' with ⟨h', _⟩ | h' | h' | h'
      · exact (stands_wd 1 x.ev).below _ _ h'
      · exact (kRf_wd x).below _ _ h'
      · exact (kCo_wd x).below _ _ h'
      · exact (kFr_wd x).below _ _ h'
    exact (key a b this.1 this.2).2 h'
theorem g1_at (x : Xn) (hl : x.ev.length ≤ 64) (a b : Nat) : (gR x 1).has a b = true ↔ (standsL 1 x.ev).has a b = true ∨ (kRf x).has a b = true ∨ (kCo x).has a b = true ∨ (kFr x).has a b = true := by
  rw [gR1, g_at]
  have e : con1 (rsX x) a b = (((kCo x).has a b || (kFr x).has a b || (standsL 1 x.ev).has a b) || (kRf x).has a b) := rfl
  rw [e]
  simp only [Bool.or_eq_true]
  constructor
  · rintro ⟨_, _, ((h | h) | h) | h⟩
    · exact .inr (.inr (.inl h))
    · exact .inr (.inr (.inr h))
    · exact .inl h
    · exact .inr (.inl h)
  · intro h'
    have : a < (shortL x.ev).length ∧ b < (shortL x.ev).length := by
      rcases h' with h' | h' | h' | h'
      · exact (stands_wd 1 x.ev).below _ _ h'
      · exact (kRf_wd x).below _ _ h'
      · exact (kCo_wd x).below _ _ h'
      · exact (kFr_wd x).below _ _ h'
    refine ⟨this.1, this.2, ?_⟩
    rcases h' with h' | h' | h' | h'
    · exact .inl (.inr h')
    · exact .inr h'
    · exact .inl (.inl (.inl h'))
    · exact .inl (.inl (.inr h'))

/-! ### Rounds, through an image -/
open Classical in
noncomputable def inv (n : Nat) (p : Nat → Nat) (a : Nat) : Nat := if h : ∃ i, i < n ∧ a = p i then h.choose else 0
theorem inv_at {n : Nat} {p : Nat → Nat} (hinj : ∀ i j, i < n → j < n → p i = p j → i = j) {i : Nat} (hi : i < n) : inv n p (p i) = i := by
  have h : ∃ j, j < n ∧ p i = p j := ⟨i, hi, rfl⟩
  rw [inv, dif_pos h]
  exact (hinj _ _ hi h.choose_spec.1 h.choose_spec.2).symm
theorem img_cyc {n : Nat} {p : Nat → Nat} (hinj : ∀ i j, i < n → j < n → p i = p j → i = j) {R R' : Rl} (hR : Below' n R) (h : Img n p R R') : NoCyc R' ↔ NoCyc R := by
  constructor
  · intro hc
    refine hc.sim p fun a b hab => .inl ⟨1, Nat.le_refl _, p b, (h _ _).2 ⟨a, b, (hR _ _ hab).1, (hR _ _ hab).2, rfl, rfl, hab⟩, rfl⟩
  · intro hc
    refine hc.sim (inv n p) fun a b hab => ?_
    obtain ⟨i, j, hi, hj, rfl, rfl, hij⟩ := (h _ _).1 hab
    rw [inv_at hinj hi, inv_at hinj hj]
    exact .inl ⟨1, Nat.le_refl _, j, hij, rfl⟩
theorem Img.at {n : Nat} {p : Nat → Nat} (hinj : ∀ i j, i < n → j < n → p i = p j → i = j) {R R' : Rl} (h : Img n p R R') {i j : Nat} (hi : i < n) (hj : j < n) : R'.has (p i) (p j) = true ↔ R.has i j = true := by
  rw [h]
  constructor
  · rintro ⟨i', j', h1, h2, h3, h4, h5⟩
    rw [hinj i i' hi h1 h3, hinj j j' hj h2 h4]; exact h5
  · intro h'; exact ⟨i, j, hi, hj, rfl, rfl, h'⟩
end Go.Proofs.YtmammebifhmnhaaDoor

/-
  An execution and the one with fences: the axioms hold of both or of neither. Plain. Own work.
-/
namespace Go.Proofs.YtmammebifhmnhaaDoor
open Go.AM Relation
set_option maxRecDepth 100000

structure Fen (x y : Xn) : Prop where
  hP : WholeP x
  ev : y.ev = fE x.ev
  fr : y.from_ = (fF x.ev x.from_).map (plI x.ev)
  ord : y.ord = x.ord.map (fun l => l.map (plI x.ev))
  le : y.ev.length ≤ 64

theorem p_lt (l : List Ev) {i : Nat} (hi : i < l.length) : plN l i < (fE l).length := (List.getElem?_eq_some_iff.1 (fE_at l i hi).1).1
theorem p_inj (l : List Ev) : ∀ i j, i < l.length → j < l.length → plN l i = plN l j → i = j := fun _ _ hi hj h => plN_inj l hi hj h
theorem p_iff (l : List Ev) {i j : Nat} (hi : i < l.length) (hj : j < l.length) : plN l i < plN l j ↔ i < j := by
  constructor
  · intro h
    rcases Nat.lt_trichotomy i j with h1 | h1 | h1
    · exact h1
    · subst h1; omega
    · have := plN_mono l h1 (by omega); omega
  · intro h; exact plN_mono l h (by omega)
theorem stB_same (k : Int) {i j i' j' : Int} (h : i < j ↔ i' < j') (a b : Ev) : standsB k i j a b = standsB k i' j' a b := by
  unfold standsB; simp only [h]
theorem Fen.at {x y : Xn} (h : Fen x y) {i : Nat} (hi : i < x.ev.length) : y.ev[plN x.ev i]? = some x.ev[i] := by rw [h.ev]; exact (fE_at x.ev i hi).1
theorem Fen.at2 {x y : Xn} (h : Fen x y) {i : Nat} (hi : i < x.ev.length) (ht : x.ev[i].thread ≠ -1) : y.ev[plN x.ev i + 1]? = some (fen x.ev[i].thread) := by rw [h.ev]; exact (fE_at x.ev i hi).2 ht
/-- The event that a place comes from. -/
def Cov (x : Xn) (i a : Nat) : Prop := ∃ h : i < x.ev.length, a = plN x.ev i ∨ (x.ev[i].thread ≠ -1 ∧ a = plN x.ev i + 1)
theorem Cov.uniq {x : Xn} {i j a : Nat} (h : Cov x i a) (g : Cov x j a) : i = j := by
  obtain ⟨hi, h⟩ := h
  obtain ⟨hj, g⟩ := g
  have key : ∀ i j (hi : i < x.ev.length) (hj : j < x.ev.length), i < j → (a = plN x.ev i ∨ (x.ev[i].thread ≠ -1 ∧ a = plN x.ev i + 1)) → (a = plN x.ev j ∨ (x.ev[j].thread ≠ -1 ∧ a = plN x.ev j + 1)) → False := by
    intro i j hi hj hij h g
    have h1 := plN_mono x.ev hij (by omega)
    rcases h with h | ⟨ht, h⟩
    · rcases g with g | ⟨_, g⟩ <;> omega
    · have := plN_mono2 x.ev hij (by omega) ht
      rcases g with g | ⟨_, g⟩ <;> omega
  rcases Nat.lt_trichotomy i j with h1 | h1 | h1
  · exact (key i j hi hj h1 h g).elim
  · exact h1
  · exact (key j i hj hi h1 g h).elim
open Classical in
noncomputable def psi (x : Xn) (a : Nat) : Nat := if h : ∃ i, Cov x i a then h.choose else 0
theorem psi_at {x : Xn} {i a : Nat} (h : Cov x i a) : psi x a = i := by
  have h' : ∃ i, Cov x i a := ⟨i, h⟩
  rw [psi, dif_pos h']
  exact h'.choose_spec.uniq h
theorem Fen.cov {x y : Xn} (h : Fen x y) {a : Nat} {e : Ev} (ha : y.ev[a]? = some e) : ∃ i, ∃ hi : i < x.ev.length, (a = plN x.ev i ∧ e = x.ev[i]) ∨ (x.ev[i].thread ≠ -1 ∧ a = plN x.ev i + 1 ∧ e = fen x.ev[i].thread) := by
  have hl := (List.getElem?_eq_some_iff.1 ha).1
  rw [h.ev] at hl
  obtain ⟨i, hi, hq⟩ := fE_cover x.ev a hl
  refine ⟨i, hi, ?_⟩
  rcases hq with rfl | ⟨ht, rfl⟩
  · rw [h.at hi] at ha; cases ha; exact .inl ⟨rfl, rfl⟩
  · rw [h.at2 hi ht] at ha; cases ha; exact .inr ⟨ht, rfl, rfl⟩

theorem st_at {x y : Xn} (h : Fen x y) (k : Int) {i j : Nat} (hi : i < x.ev.length) (hj : j < x.ev.length) : (standsL k y.ev).has (plN x.ev i) (plN x.ev j) = true ↔ (standsL k x.ev).has i j = true := by
  have hs := p_iff x.ev hi hj
  have hs' : ((plN x.ev i : Nat) : Int) < (plN x.ev j : Nat) ↔ (i : Int) < j := by omega
  rw [st_has k h.le, st_has k h.hP.le, h.at hi, h.at hj, List.getElem?_eq_getElem hi, List.getElem?_eq_getElem hj]
  constructor
  · rintro ⟨_, _, h1, h2, h3⟩
    cases h1; cases h2
    exact ⟨_, _, rfl, rfl, by rw [← stB_same k hs']; exact h3⟩
  · rintro ⟨_, _, h1, h2, h3⟩
    cases h1; cases h2
    exact ⟨_, _, rfl, rfl, by rw [stB_same k hs']; exact h3⟩
theorem stB_mem {k i j : Int} {a b : Ev} (hk : k = 2 ∨ k = 5) (h : standsB k i j a b = true) : a.kind ≠ 4 ∧ b.kind ≠ 4 := by
  rcases hk with rfl | rfl
  · simp [standsB, memR, wrB, rdB] at h
    constructor <;> intro h4 <;> simp [h4] at h
  · simp [standsB, wrB, rdB] at h
    constructor <;> intro h4 <;> simp [h4] at h
theorem st_img {x y : Xn} (h : Fen x y) {k : Int} (hk : k = 2 ∨ k = 5) : Img x.ev.length (plN x.ev) (standsL k x.ev) (standsL k y.ev) := by
  intro a b
  constructor
  · intro hab
    obtain ⟨ea, eb, h1, h2, h3⟩ := (st_has k h.le a b).1 hab
    obtain ⟨n1, n2⟩ := stB_mem hk h3
    obtain ⟨i, hi, c1⟩ := h.cov h1
    obtain ⟨j, hj, c2⟩ := h.cov h2
    rcases c1 with ⟨rfl, _⟩ | ⟨_, _, rfl⟩
    · rcases c2 with ⟨rfl, _⟩ | ⟨_, _, rfl⟩
      · exact ⟨i, j, hi, hj, rfl, rfl, (st_at h k hi hj).1 hab⟩
      · exact absurd rfl n2
    · exact absurd rfl n1
  · rintro ⟨i, j, hi, hj, rfl, rfl, h'⟩
    exact (st_at h k hi hj).2 h'
theorem fr_at {x y : Xn} (h : Fen x y) {j : Nat} (hj : j < x.ev.length) : ∃ f, x.from_[j]? = some f ∧ y.from_[plN x.ev j]? = some (plI x.ev f) ∧ (x.ev[j].thread ≠ -1 → y.from_[plN x.ev j + 1]? = some (-1)) := by
  have hj' : j < x.from_.length := by rw [h.hP.len]; exact hj
  obtain ⟨g1, g2⟩ := fF_at x.ev x.from_ j hj hj'
  refine ⟨_, List.getElem?_eq_getElem hj', ?_, fun ht => ?_⟩
  · rw [h.fr, List.getElem?_map, g1]; rfl
  · rw [h.fr, List.getElem?_map, g2 ht]; rfl
theorem rf_img {x y : Xn} (h : Fen x y) : Img x.ev.length (plN x.ev) (kRf x) (kRf y) := by
  intro a b
  rw [rf_has y h.le]
  constructor
  · rintro ⟨ha, hb, hf⟩
    obtain ⟨j, hj, c2⟩ := h.cov (List.getElem?_eq_getElem hb)
    obtain ⟨f, f1, f2, f3⟩ := fr_at h hj
    rcases c2 with ⟨rfl, _⟩ | ⟨ht, rfl, _⟩
    · rw [f2] at hf
      have hf' : plI x.ev f = (a : Int) := Option.some.inj hf
      obtain ⟨_, f', e1, e2, e3, e4⟩ := h.hP.rd j hj
      rw [f1] at e1; cases e1
      rw [plI] at hf'
      by_cases h0 : 0 ≤ f
      · rw [if_pos h0] at hf'
        refine ⟨f.toNat, j, by omega, hj, by omega, rfl, ?_⟩
        rw [rf_has x h.hP.le]
        exact ⟨by omega, hj, by rw [f1]; congr 1; omega⟩
      · rw [if_neg h0] at hf'; omega
    · rw [f3 ht] at hf
      have : (-1 : Int) = (a : Int) := Option.some.inj hf
      omega
  · rintro ⟨i, j, hi, hj, rfl, rfl, h'⟩
    obtain ⟨f, f1, f2, f3⟩ := fr_at h hj
    obtain ⟨_, _, h3⟩ := (rf_has x h.hP.le i j).1 h'
    rw [f1] at h3
    cases h3
    have hp1 := p_lt x.ev hi
    have hp2 := p_lt x.ev hj
    refine ⟨by rw [h.ev]; exact hp1, by rw [h.ev]; exact hp2, ?_⟩
    rw [f2, plI, if_pos (by omega)]
    rfl
theorem co_img {x y : Xn} (h : Fen x y) : Img x.ev.length (plN x.ev) (kCo x) (kCo y) := by
  unfold kCo coL
  rw [sh h.hP.le, sh h.le, h.ord]
  refine co_all h.hP.le h.le (fun i hi => by rw [h.ev]; exact p_lt x.ev hi) (p_inj x.ev) (fun i hi => by rw [plI, if_pos (by omega)]; rfl) x.ord h.hP.ord ?_
  intro a b
  rw [void_has]
  constructor
  · intro h'; cases h'
  · rintro ⟨i, j, _, _, _, _, h'⟩; rw [void_has] at h'; cases h'
theorem fr_img {x y : Xn} (h : Fen x y) : Img x.ev.length (plN x.ev) (kFr x) (kFr y) := by
  have hr := rf_img h
  have hc := co_img h
  have hi := p_inj x.ev
  have hn := h.hP.le
  have hb64 : ∀ i, i < x.ev.length → plN x.ev i < 64 := fun i hi => by have := p_lt x.ev hi; have := h.le; rw [h.ev] at this; omega
  intro a b
  constructor
  · intro hab
    obtain ⟨ha, hb⟩ := has_64 hab
    obtain ⟨z, hz, g1, g2, g3⟩ := (fr_has y h.le a b ha hb).1 hab
    obtain ⟨i, j, k1, k2, rfl, rfl, k3⟩ := (hr _ _).1 g1
    obtain ⟨i', j', l1, l2, l3, rfl, l4⟩ := (hc _ _).1 g2
    obtain rfl := hi _ _ k1 l1 l3
    refine ⟨j, j', k2, l2, rfl, rfl, ?_⟩
    rw [fr_has x hn j j' (by omega) (by omega)]
    exact ⟨i, k1, k3, l4, fun e => g3 (by rw [e])⟩
  · rintro ⟨j, j', k2, l2, rfl, rfl, h'⟩
    rw [fr_has x hn j j' (by omega) (by omega)] at h'
    obtain ⟨i, k1, k3, l4, ne⟩ := h'
    rw [fr_has y h.le _ _ (hb64 j k2) (hb64 j' l2)]
    exact ⟨plN x.ev i, by rw [h.ev]; exact p_lt x.ev k1, (hr.at hi k1 k2).2 k3, (hc.at hi k1 l2).2 l4, fun e => ne (hi _ _ k2 l2 e)⟩
theorem U_img {x y : Xn} (h : Fen x y) : Img x.ev.length (plN x.ev) (unpR (woX x)) (unpR (woX y)) := by
  intro a b
  rw [U_at y h.le]
  constructor
  · rintro (⟨h1, h2⟩ | h' | h' | h')
    · obtain ⟨i, j, hi, hj, rfl, rfl, h3⟩ := (st_img h (.inl rfl) _ _).1 h2
      exact ⟨i, j, hi, hj, rfl, rfl, (U_at x h.hP.le i j).2 (.inl ⟨(st_at h 1 hi hj).1 h1, h3⟩)⟩
    · obtain ⟨i, j, hi, hj, rfl, rfl, h3⟩ := (rf_img h _ _).1 h'
      exact ⟨i, j, hi, hj, rfl, rfl, (U_at x h.hP.le i j).2 (.inr (.inl h3))⟩
    · obtain ⟨i, j, hi, hj, rfl, rfl, h3⟩ := (co_img h _ _).1 h'
      exact ⟨i, j, hi, hj, rfl, rfl, (U_at x h.hP.le i j).2 (.inr (.inr (.inl h3)))⟩
    · obtain ⟨i, j, hi, hj, rfl, rfl, h3⟩ := (fr_img h _ _).1 h'
      exact ⟨i, j, hi, hj, rfl, rfl, (U_at x h.hP.le i j).2 (.inr (.inr (.inr h3)))⟩
  · rintro ⟨i, j, hi, hj, rfl, rfl, h'⟩
    rcases (U_at x h.hP.le i j).1 h' with ⟨h1, h2⟩ | h' | h' | h'
    · exact .inl ⟨(st_at h 1 hi hj).2 h1, (st_at h 2 hi hj).2 h2⟩
    · exact .inr (.inl (((rf_img h).at (p_inj x.ev) hi hj).2 h'))
    · exact .inr (.inr (.inl (((co_img h).at (p_inj x.ev) hi hj).2 h')))
    · exact .inr (.inr (.inr (((fr_img h).at (p_inj x.ev) hi hj).2 h')))
theorem bet_iff {x y : Xn} (h : Fen x y) : BetN y ↔ BetN x := by
  have hi := p_inj x.ev
  have hF := fr_img h
  have hS := st_img h (.inr rfl)
  have hC := co_img h
  have hn := h.hP.le
  constructor
  · rintro hb r v z ⟨h1, h2, h3⟩
    have b1 := (kFr_wd x).below _ _ h1
    have b2 := (stands_wd 5 x.ev).below _ _ h2
    rw [sh hn] at b1 b2
    exact hb _ _ _ ⟨(hF.at hi b1.1 b1.2).2 h1, (hS.at hi b1.1 b2.2).2 h2, (hC.at hi b1.2 b2.2).2 h3⟩
  · rintro hb r v z ⟨h1, h2, h3⟩
    obtain ⟨i, j, k1, k2, rfl, rfl, k3⟩ := (hF _ _).1 h1
    obtain ⟨i', j', l1, l2, l3, rfl, l4⟩ := (hS _ _).1 h2
    obtain rfl := hi _ _ k1 l1 l3
    exact hb _ _ _ ⟨k3, l4, (hC.at hi k2 l2).1 h3⟩

/-- What stands in one thread: where it comes from. -/
theorem po_cov {x y : Xn} (h : Fen x y) {a b : Nat} (hab : (standsL 1 y.ev).has a b = true) : a < b ∧ ∃ i j, ∃ hi : i < x.ev.length, ∃ hj : j < x.ev.length, Cov x i a ∧ Cov x j b ∧ x.ev[i].thread = x.ev[j].thread ∧ x.ev[i].thread ≠ -1 ∧ i ≤ j := by
  obtain ⟨ea, eb, h1, h2, h3, h4, h5⟩ := (st1_iff _ h.le a b).1 hab
  obtain ⟨i, hi, c1⟩ := h.cov h1
  obtain ⟨j, hj, c2⟩ := h.cov h2
  have t1 : ea.thread = x.ev[i].thread := by rcases c1 with ⟨_, rfl⟩ | ⟨_, _, rfl⟩ <;> rfl
  have t2 : eb.thread = x.ev[j].thread := by rcases c2 with ⟨_, rfl⟩ | ⟨_, _, rfl⟩ <;> rfl
  refine ⟨h5, i, j, hi, hj, ⟨hi, ?_⟩, ⟨hj, ?_⟩, by rw [← t1, ← t2]; exact h3, by rw [← t1]; exact h4, ?_⟩
  · rcases c1 with ⟨c, _⟩ | ⟨c, d, _⟩
    · exact .inl c
    · exact .inr ⟨c, d⟩
  · rcases c2 with ⟨c, _⟩ | ⟨c, d, _⟩
    · exact .inl c
    · exact .inr ⟨c, d⟩
  · rcases Nat.lt_or_ge j i with hlt | hge
    · exfalso
      have hm := plN_mono2 x.ev hlt (by omega) (by rw [← t2, ← h3]; exact h4)
      rcases c1 with ⟨c, _⟩ | ⟨_, c, _⟩ <;> rcases c2 with ⟨d, _⟩ | ⟨_, d, _⟩ <;> omega
    · exact hge
theorem fen_step {x y : Xn} (h : Fen x y) {i j : Nat} (hi : i < x.ev.length) (hj : j < x.ev.length) (ht : x.ev[i].thread = x.ev[j].thread) (hn : x.ev[i].thread ≠ -1) (hij : i < j) : (gR y 3).has (plN x.ev i) (plN x.ev j) = true := by
  have e1 := h.at hi
  have e2 := h.at2 hi hn
  have e3 := h.at hj
  have hm := plN_mono2 x.ev hij (by omega) hn
  have l3 := (List.getElem?_eq_some_iff.1 e3).1
  have hle := h.le
  rw [gR3, g_at, sh h.le]
  refine ⟨by omega, l3, ?_⟩
  have hf : fenB y.ev.length (rsX y) (plN x.ev i) (plN x.ev j) = true := by
    rw [fenB, List.any_eq_true]
    refine ⟨plN x.ev i + 1, List.mem_range.2 (by omega), ?_⟩
    simp only [Bool.and_eq_true]
    refine ⟨?_, ?_, ?_⟩
    · show (thoseL (fun e => decide (e.kind = 4)) y.ev).getLsbD (plN x.ev i + 1) = true
      rw [those_get _ _ (by omega), sh h.le, e2]
      simp [fen]; omega
    · exact (st1_iff _ h.le _ _).2 ⟨_, _, e1, e2, rfl, hn, by omega⟩
    · exact (st1_iff _ h.le _ _).2 ⟨_, _, e2, e3, ht, hn, by omega⟩
  simp only [con3, conW, hf, Bool.or_true, Bool.true_or]
theorem step1 {R : Rl} {a b : Nat} (h : R.has a b = true) : ∃ m, 1 ≤ m ∧ W R m a b := ⟨1, Nat.le_refl _, b, h, rfl⟩
theorem cov_p {x : Xn} {i : Nat} (hi : i < x.ev.length) : Cov x i (plN x.ev i) := ⟨hi, .inl rfl⟩

theorem g1_iff {x y : Xn} (h : Fen x y) : NoCyc (gR y 1) ↔ NoCyc (gR x 1) := by
  have hinj := p_inj x.ev
  have hn := h.hP.le
  constructor
  · intro hc
    refine hc.sim (plN x.ev) fun a b hab => .inl (step1 ?_)
    have hb := (gR_wd x (k := 1) rfl).below _ _ hab
    rw [sh hn] at hb
    rw [g1_at y h.le]
    rcases (g1_at x hn a b).1 hab with h' | h' | h' | h'
    · exact .inl ((st_at h 1 hb.1 hb.2).2 h')
    · exact .inr (.inl (((rf_img h).at hinj hb.1 hb.2).2 h'))
    · exact .inr (.inr (.inl (((co_img h).at hinj hb.1 hb.2).2 h')))
    · exact .inr (.inr (.inr (((fr_img h).at hinj hb.1 hb.2).2 h')))
  · intro hc
    refine hc.sim (psi x) fun a b hab => ?_
    rcases (g1_at y h.le a b).1 hab with h' | h' | h' | h'
    · obtain ⟨hlt, i, j, hi, hj, c1, c2, ht, hne, hle⟩ := po_cov h h'
      rw [psi_at c1, psi_at c2]
      rcases Nat.lt_or_ge i j with hij | hij
      · exact .inl (step1 ((g1_at x hn i j).2 (.inl ((st1_iff _ hn i j).2 ⟨_, _, List.getElem?_eq_getElem hi, List.getElem?_eq_getElem hj, ht, hne, hij⟩))))
      · exact .inr ⟨by omega, hlt⟩
    · obtain ⟨i, j, hi, hj, rfl, rfl, h3⟩ := (rf_img h _ _).1 h'
      rw [psi_at (cov_p hi), psi_at (cov_p hj)]
      exact .inl (step1 ((g1_at x hn i j).2 (.inr (.inl h3))))
    · obtain ⟨i, j, hi, hj, rfl, rfl, h3⟩ := (co_img h _ _).1 h'
      rw [psi_at (cov_p hi), psi_at (cov_p hj)]
      exact .inl (step1 ((g1_at x hn i j).2 (.inr (.inr (.inl h3)))))
    · obtain ⟨i, j, hi, hj, rfl, rfl, h3⟩ := (fr_img h _ _).1 h'
      rw [psi_at (cov_p hi), psi_at (cov_p hj)]
      exact .inl (step1 ((g1_at x hn i j).2 (.inr (.inr (.inr h3)))))
theorem g3_free (y : Xn) {a b : Nat} (hab : (kCo y).has a b = true ∨ (kFr y).has a b = true) : (gR y 3).has a b = true := by
  rw [gR3, g_at]
  have : a < (shortL y.ev).length ∧ b < (shortL y.ev).length := by
    rcases hab with h | h
    · exact (kCo_wd y).below _ _ h
    · exact (kFr_wd y).below _ _ h
  refine ⟨this.1, this.2, ?_⟩
  have hf : freeB (rsX y) a b = true := by
    show ((kCo y).has a b || (kFr y).has a b) = true
    rcases hab with h | h
    · rw [h]; rfl
    · rw [h, Bool.or_true]
  simp only [con3, conW, hf, Bool.true_or]
theorem g3_ext (y : Xn) {a b : Nat} (h1 : (kRf y).has a b = true) (h2 : (standsL 4 y.ev).has a b = true) : (gR y 3).has a b = true := by
  rw [gR3, g_at]
  have := (kRf_wd y).below _ _ h1
  refine ⟨this.1, this.2, ?_⟩
  have hf : ((rsX y).rf.has a b && (rsX y).it.has a b) = true := by
    show ((kRf y).has a b && (standsL 4 y.ev).has a b) = true
    rw [h1, h2]; rfl
  simp only [con3, conW, hf, Bool.true_or, Bool.or_true]
theorem g3_to1 {x y : Xn} (h : Fen x y) (hU : NoCyc (unpR (woX x))) (hc : NoCyc (gR y 3)) : NoCyc (gR y 1) := by
  have hinj := p_inj x.ev
  have hn := h.hP.le
  refine hc.sim (fun a => plN x.ev (psi x a)) fun a b hab => ?_
  show (∃ m, 1 ≤ m ∧ W (gR y 3) m (plN x.ev (psi x a)) (plN x.ev (psi x b))) ∨ (plN x.ev (psi x a) = plN x.ev (psi x b) ∧ a < b)
  rcases (g1_at y h.le a b).1 hab with h' | h' | h' | h'
  · obtain ⟨hlt, i, j, hi, hj, c1, c2, ht, hne, hle⟩ := po_cov h h'
    rw [psi_at c1, psi_at c2]
    rcases Nat.lt_or_ge i j with hij | hij
    · exact .inl (step1 (fen_step h hi hj ht hne hij))
    · exact .inr ⟨by rw [show i = j by omega], hlt⟩
  · obtain ⟨i, j, hi, hj, rfl, rfl, h3⟩ := (rf_img h _ _).1 h'
    rw [psi_at (cov_p hi), psi_at (cov_p hj)]
    refine .inl (step1 ?_)
    obtain ⟨_, _, hf⟩ := (rf_has x hn i j).1 h3
    by_cases ht : togB x.ev[i] x.ev[j] = true
    · obtain ⟨_, f, e1, e2, e3, e4⟩ := h.hP.rd j hj
      rw [e1] at hf
      obtain rfl : f = (i : Int) := Option.some.inj hf
      have hrd := e2.2 (by omega)
      obtain ⟨k, hk, hki, hw, hl⟩ := e4 hrd
      obtain rfl : i = k := by omega
      have ht' := ht
      simp only [togB, Bool.and_eq_true, Bool.not_eq_true', decide_eq_true_eq, decide_eq_false_iff_not] at ht'
      have hUr : (unpR (woX x)).has i j = true := (U_at x hn i j).2 (.inr (.inl h3))
      rcases Nat.lt_trichotomy i j with hij | hij | hij
      · exact fen_step h hi hj ht'.1 ht'.2 hij
      · subst hij
        exact absurd (show W (unpR (woX x)) 1 i i from ⟨i, hUr, rfl⟩) (hU i 1 (Nat.le_refl _))
      · have hpo : (standsL 1 x.ev).has j i = true := (st1_iff _ hn j i).2 ⟨_, _, List.getElem?_eq_getElem hj, List.getElem?_eq_getElem hi, ht'.1.symm, by rw [← ht'.1]; exact ht'.2, hij⟩
        have hlo : (standsL 2 x.ev).has j i = true := (st_has 2 hn j i).2 ⟨_, _, List.getElem?_eq_getElem hj, List.getElem?_eq_getElem hi, by
          simp [standsB, memR, hrd, hw, hl]⟩
        have hU2 : (unpR (woX x)).has j i = true := (U_at x hn j i).2 (.inl ⟨hpo, hlo⟩)
        exact absurd (show W (unpR (woX x)) 2 i i from ⟨j, hUr, i, hU2, rfl⟩) (hU i 2 (by omega))
    · refine g3_ext y h' ((st_at h 4 hi hj).2 ((st_has 4 hn i j).2 ⟨_, _, List.getElem?_eq_getElem hi, List.getElem?_eq_getElem hj, ?_⟩))
      simp [standsB, ht]
  · have hg := g3_free y (.inl h')
    obtain ⟨i, j, hi, hj, rfl, rfl, h3⟩ := (co_img h _ _).1 h'
    rw [psi_at (cov_p hi), psi_at (cov_p hj)]
    exact .inl (step1 hg)
  · have hg := g3_free y (.inr h')
    obtain ⟨i, j, hi, hj, rfl, rfl, h3⟩ := (fr_img h _ _).1 h'
    rw [psi_at (cov_p hi), psi_at (cov_p hj)]
    exact .inl (step1 hg)
theorem hld_fen {x y : Xn} (h : Fen x y) : hldB y 1 = hldB x 1 ∧ hldB y 2 = hldB x 1 ∧ hldB y 3 = hldB x 1 := by
  have hU := img_cyc (p_inj x.ev) (fun a b hab => by have := (unp_wd x).below a b hab; rwa [sh h.hP.le] at this) (U_img h)
  have h1 : hldB y 1 = true ↔ hldB x 1 = true := by
    rw [hld_iff y rfl, hld_iff x rfl, hU, bet_iff h, g1_iff h]
  have h31 : hldB y 3 = true → hldB y 1 = true := by
    rw [hld_iff y rfl, hld_iff y rfl]
    rintro ⟨q1, q2, q3⟩
    exact ⟨q1, q2, g3_to1 h (hU.1 q1) q3⟩
  refine ⟨Bool.eq_iff_iff.2 h1, Bool.eq_iff_iff.2 ⟨fun q => h1.1 (h31 (hld_23 y q)), fun q => hld_12 y (h1.2 q)⟩, Bool.eq_iff_iff.2 ⟨fun q => h1.1 (h31 q), fun q => hld_23 y (hld_12 y (h1.2 q))⟩⟩
end Go.Proofs.YtmammebifhmnhaaDoor

/-
  The documented example: what holds of it. Plain. Own work.
-/
namespace Go.Proofs.YtmammebifhmnhaaDoor
open Go.AM
set_option maxRecDepth 100000

def ev0 : List Ev := [⟨1, -1, 0, 0, false⟩, ⟨1, -1, 0, 1, false⟩, ⟨2, 0, 0, 0, false⟩, ⟨3, 0, 1, 1, false⟩, ⟨2, 1, 0, 1, false⟩, ⟨3, 1, 1, 0, false⟩]
def fr0 : List Int := [-1, -1, -1, 1, -1, 0]
def or0 : List (List Int) := [[0, 2], [1, 4]]
noncomputable def x0 : Xn := ⟨ev0, fr0, or0, none, 0, .nilFunc, none, 0, none, 0, .nilFunc⟩

/-- A relation by its pairs. -/
def tbl (n : Int) (l : List (Nat × Nat)) : Rl := Rl.gen n fun a b => l.contains (a, b)
def sameL (R S : Rl) : Bool := decide (R.n = S.n) && (List.range 64).all fun a => (List.range 64).all fun b => R.has a b == S.has a b
theorem same_of {R S : Rl} (h : sameL R S = true) : R = S := by
  unfold sameL at h
  rw [Bool.and_eq_true, decide_eq_true_eq] at h
  refine Rl.ext_has h.1 fun a b ha hb => ?_
  have h1 := List.all_eq_true.1 h.2 a (List.mem_range.2 ha)
  have h2 := List.all_eq_true.1 h1 b (List.mem_range.2 hb)
  exact beq_iff_eq.1 h2
def frC (n : Nat) (F O : Rl) : Rl := Rl.gen (n : Int) fun a b => (List.range 64).any fun z => decide (z < n) && (F.has z a && (O.has z b && decide (a ≠ b)))
theorem frC_eq (n : Nat) (F O : Rl) (hn : n ≤ 64) : frL n F O = frC n F O := by
  refine Rl.ext_has (by unfold frC; rw [frL_n, Rl.n_gen]) fun a b ha hb => ?_
  rw [Bool.eq_iff_iff]
  unfold frL frC
  rw [frP_has ha hb, Rl.has_gen]
  simp only [List.any_eq_true, List.mem_range, Bool.and_eq_true, decide_eq_true_eq]
  constructor
  · rintro ⟨z, h, h1, h2, h3⟩
    have hz : z < n := by omega
    exact ⟨⟨ha, hb⟩, z, by omega, hz, h1, h2, h3⟩
  · rintro ⟨_, z, hz, h, h1, h2, h3⟩
    exact ⟨z, .inl h, h1, h2, h3⟩
theorem rf0 : kRf x0 = tbl 6 [(1, 3), (0, 5)] := same_of (by decide +kernel)
theorem co0 : kCo x0 = tbl 6 [(0, 2), (1, 4)] := same_of (by decide +kernel)
theorem fr0' : kFr x0 = tbl 6 [(3, 4), (5, 2)] := by
  unfold kFr
  rw [rf0, co0, frC_eq _ _ _ (shortL_le _)]
  exact same_of (by decide +kernel)
def rs0 : Rs := ⟨6, tbl 6 [(2, 3), (4, 5)], standsL 2 ev0, standsL 4 ev0, tbl 6 [], tbl 6 [(1, 3), (0, 5)], tbl 6 [(0, 2), (1, 4)], tbl 6 [(3, 4), (5, 2)], 0b111111#64, 0b010111#64, 0b101000#64, 0#64, 0#64⟩
theorem rs0_eq : rsX x0 = rs0 := by
  unfold rsX rs0
  rw [rf0, co0, fr0']
  have e1 : standsL 1 x0.ev = tbl 6 [(2, 3), (4, 5)] := same_of (by decide +kernel)
  have e5 : standsL 5 x0.ev = tbl 6 [] := same_of (by decide +kernel)
  have m1 : thoseL memB x0.ev = 0b111111#64 := by decide +kernel
  have m2 : thoseL (fun e => decide (e.kind = 1)) x0.ev ||| thoseL (fun e => decide (e.kind = 2)) x0.ev = 0b010111#64 := by decide +kernel
  have m3 : thoseL (fun e => decide (e.kind = 3)) x0.ev = 0b101000#64 := by decide +kernel
  have m4 : thoseL (fun e => decide (e.kind = 4)) x0.ev = 0#64 := by decide +kernel
  have m5 : thoseL (fun e => e.locked) x0.ev = 0#64 := by decide +kernel
  rw [e1, e5, m1, m2, m3, m4, m5]
  rfl
theorem g1 : gR x0 1 = tbl 6 [(2, 3), (4, 5), (1, 3), (0, 5), (0, 2), (1, 4), (3, 4), (5, 2)] := by
  rw [show gR x0 1 = _ from if_pos rfl, rs0_eq]; exact same_of (by decide +kernel)
theorem g2 : gR x0 2 = tbl 6 [(1, 3), (0, 5), (0, 2), (1, 4), (3, 4), (5, 2)] := by
  rw [show gR x0 2 = _ from (if_neg (by decide)).trans (if_pos rfl), rs0_eq]; exact same_of (by decide +kernel)
theorem gu : unpR (woX x0) = tbl 6 [(1, 3), (0, 5), (0, 2), (1, 4), (3, 4), (5, 2)] := by
  rw [law_up, rs0_eq]; exact same_of (by decide +kernel)
end Go.Proofs.YtmammebifhmnhaaDoor

/-
  The documented example: which axioms hold. Plain. Own work.
-/
namespace Go.Proofs.YtmammebifhmnhaaDoor
open Go.AM
set_option maxRecDepth 100000

theorem tbl_has (n : Int) (l : List (Nat × Nat)) (hl : ∀ p ∈ l, p.1 < 64 ∧ p.2 < 64) (a b : Nat) : (tbl n l).has a b = true ↔ (a, b) ∈ l := by
  unfold tbl
  rw [Rl.has_gen]
  simp only [Bool.and_eq_true, decide_eq_true_eq, List.contains_iff_mem]
  exact ⟨fun h => h.2, fun h => ⟨hl _ h, h⟩⟩
/-- Ways along a list of pairs. -/
def Wl (l : List (Nat × Nat)) : Nat → Nat → Nat → Bool
  | 0, a, b => a == b
  | n + 1, a, b => l.any fun p => p.1 == a && Wl l n p.2 b
theorem W_tbl (n : Int) (l : List (Nat × Nat)) (hl : ∀ p ∈ l, p.1 < 64 ∧ p.2 < 64) : ∀ m a b, W (tbl n l) m a b ↔ Wl l m a b = true
  | 0, a, b => by simp [W, Wl]
  | m + 1, a, b => by
    simp only [W, Wl, List.any_eq_true, Bool.and_eq_true, beq_iff_eq]
    constructor
    · rintro ⟨c, h1, h2⟩
      exact ⟨(a, c), (tbl_has n l hl a c).1 h1, rfl, (W_tbl n l hl m c b).1 h2⟩
    · rintro ⟨p, hp, rfl, h2⟩
      exact ⟨p.2, (tbl_has n l hl p.1 p.2).2 hp, (W_tbl n l hl m p.2 b).2 h2⟩
theorem rank_none (n : Int) (l : List (Nat × Nat)) (hl : ∀ p ∈ l, p.1 < 64 ∧ p.2 < 64) (f : Nat → Nat) (hf : ∀ p ∈ l, f p.1 < f p.2) : IsCyc (tbl n l) none := by
  have key : ∀ m a b, W (tbl n l) (m + 1) a b → f a < f b := by
    intro m
    induction m with
    | zero =>
      rintro a b ⟨c, h1, h2⟩
      obtain rfl : c = b := h2
      exact hf _ ((tbl_has n l hl a c).1 h1)
    | succ m ih =>
      rintro a b ⟨c, h1, h2⟩
      exact Nat.lt_trans (hf _ ((tbl_has n l hl a c).1 h1)) (ih c b h2)
  refine .inl ⟨rfl, fun a m hm hw => ?_⟩
  obtain ⟨m, rfl⟩ : ∃ k, m = k + 1 := ⟨m - 1, by omega⟩
  exact Nat.lt_irrefl _ (key m a a hw)
theorem nxt_tbl (n : Int) (l : List (Nat × Nat)) (hl : ∀ p ∈ l, p.1 < 64 ∧ p.2 < 64) (g a k b : Nat) (h1 : Wl l (k + 1) a g = true) (h2 : ∀ p ∈ l, p.1 = a → Wl l k p.2 g = true → p.2 = b) : nxtR (tbl n l) g a k = some b := by
  obtain ⟨c, e, _, h3, h4⟩ := nxtR_some (tbl n l) g a k ((W_tbl n l hl _ _ _).2 h1)
  rw [e]
  exact congrArg some (h2 (a, c) ((tbl_has n l hl a c).1 h3) rfl ((W_tbl n l hl _ _ _).1 h4))

abbrev l8 : List (Nat × Nat) := [(2, 3), (4, 5), (1, 3), (0, 5), (0, 2), (1, 4), (3, 4), (5, 2)]
abbrev l6 : List (Nat × Nat) := [(1, 3), (0, 5), (0, 2), (1, 4), (3, 4), (5, 2)]
theorem l8_lt : ∀ p ∈ l8, p.1 < 64 ∧ p.2 < 64 := by decide
theorem l6_lt : ∀ p ∈ l6, p.1 < 64 ∧ p.2 < 64 := by decide
theorem cyc6 : IsCyc (tbl 6 l6) none := rank_none 6 l6 l6_lt (fun a => if a ≤ 1 then 0 else if a = 3 ∨ a = 5 then 1 else 2) (by decide)
theorem cyc8 : IsCyc (tbl 6 l8) (some [2, 3, 4, 5]) := by
  refine .inr ⟨2, 3, ?_, (W_tbl 6 l8 l8_lt _ _ _).2 (by decide), fun a m h1 h2 h3 => ?_, fun a h1 h2 => ?_⟩
  · have e1 : nxtR (tbl 6 l8) 2 2 3 = some 3 := nxt_tbl 6 l8 l8_lt 2 2 3 3 (by decide) (by decide)
    have e2 : nxtR (tbl 6 l8) 2 3 2 = some 4 := nxt_tbl 6 l8 l8_lt 2 3 2 4 (by decide) (by decide)
    have e3 : nxtR (tbl 6 l8) 2 4 1 = some 5 := nxt_tbl 6 l8 l8_lt 2 4 1 5 (by decide) (by decide)
    simp only [pathR, Nat.reduceAdd, e1, e2, e3, Option.getD_some]
  · have h4 := (W_tbl 6 l8 l8_lt _ _ _).1 h3
    have ha : a < 6 := by
      obtain ⟨m, rfl⟩ : ∃ k, m = k + 1 := ⟨m - 1, by omega⟩
      simp only [Wl, List.any_eq_true, Bool.and_eq_true, beq_iff_eq] at h4
      obtain ⟨p, hp, rfl, _⟩ := h4
      exact (show ∀ p ∈ l8, p.1 < 6 by decide) p hp
    have : ∀ a, a < 6 → ∀ m, m < 4 → 1 ≤ m → Wl l8 m a a = false := by decide
    rw [this a ha m h2 h1] at h4; cases h4
  · have h4 := (W_tbl 6 l8 l8_lt _ _ _).1 h2
    have : ∀ a, a < 2 → Wl l8 4 a a = false := by decide
    rw [this a h1] at h4; cases h4
theorem right8 : rightL (tbl 6 l8) = tbl 6 l8 := rightL_of _ (gen_checkI (n := 6) (by decide) (@fun a b h => by
  have : ∀ p ∈ l8, p.1 < 6 ∧ p.2 < 6 := by decide
  exact this (a, b) (List.contains_iff_mem.1 h)))
theorem right6 : rightL (tbl 6 l6) = tbl 6 l6 := rightL_of _ (gen_checkI (n := 6) (by decide) (@fun a b h => by
  have : ∀ p ∈ l6, p.1 < 6 ∧ p.2 < 6 := by decide
  exact this (a, b) (List.contains_iff_mem.1 h)))
theorem cycO6 : cycO (tbl 6 l6) = none := (cycO_is (tbl 6 l6)).eq (by rw [right6]; exact cyc6)
theorem cycO8 : cycO (tbl 6 l8) = some [2, 3, 4, 5] := (cycO_is (tbl 6 l8)).eq (by rw [right8]; exact cyc8)
theorem bet0 : betO (shortL x0.ev).length (kFr x0) (standsL 5 x0.ev) (kCo x0) = none := by
  refine (betO_is _ _ _ _).eq (.inl ⟨rfl, fun r v x _ _ _ _ => ?_⟩)
  have e5 : standsL 5 x0.ev = tbl 6 [] := congrArg Rs.rm rs0_eq
  have : (tbl 6 []).has r x = false := by
    cases h : (tbl 6 []).has r x with
    | false => rfl
    | true => have := (tbl_has 6 [] (by decide) r x).1 h; cases this
  rw [brkP, e5, this]; simp

theorem why0_1 : whyL x0 1 = [(3, [2, 3, 4, 5])] := by
  rw [whyL, if_neg (by decide), gu, g1, bet0, cycO6, cycO8]; rfl
theorem why0_2 : whyL x0 2 = [] := by
  rw [whyL, if_neg (by decide), gu, g2, bet0, cycO6]; rfl
theorem why_at (x : Xn) (k : Int) (h1 : x.ev = ev0) (h2 : x.from_ = fr0) (h3 : x.ord = or0) : whyL x k = whyL x0 k := by
  obtain ⟨ev, from_, ord, pe, ce, u1, pf, cf, po, co, u4⟩ := x
  simp only at h1 h2 h3
  subst h1 h2 h3
  rfl
theorem hld0_1 (x : Xn) (h1 : x.ev = ev0) (h2 : x.from_ = fr0) (h3 : x.ord = or0) : hldB x 1 = false := by
  rw [hldB, why_at x 1 h1 h2 h3, why0_1]; rfl
theorem hld0_2 (x : Xn) (h1 : x.ev = ev0) (h2 : x.from_ = fr0) (h3 : x.ord = or0) : hldB x 2 = true := by
  rw [hldB, why_at x 2 h1 h2 h3, why0_2]; rfl
end Go.Proofs.YtmammebifhmnhaaDoor

/-
  The documented example is as it should be. Own work.
-/
namespace Go.Proofs.YtmammebifhmnhaaDoor
open Go.AM
set_option maxRecDepth 100000

set_option maxHeartbeats 1000000 in
theorem awake_ok (w : World) (hT : TabAt w) (h0w : 0 < w.heap.size) : Gives Tryd.prog 14 [] w (.bool true) := by
  have hTA : ∀ w', Agree (fun _ => False) w w' → TabAt w' := fun w' hA => hT.agree hA (fun f => f)
  have hSA : ∀ w', Agree (fun _ => False) w w' → 0 < w'.heap.size := fun w' hA => Nat.lt_of_lt_of_le h0w hA.size
  refine Gives.of_run Tryd.func14 rfl (by show 0 ≤ 59; decide) ?_
  refine RunF_sound tab_ok noX_local 16 [] _ _ rfl ?_ ?_
  · simp [fillL, repL, splice, Value.cells, maxLen, show tab.size 4 = some 1 from rfl]
  refine Run.to (t' := [(14, .sl 0 5 0 6), (15, .sl 1 1 0 6), (16, .sl 2 1 0 2), (17, .sl 3 1 0 2)]) (h' := [(0, .row 30 5 6 (evsV ev0)), (1, .row 3 1 6 (fr0.map fun i => .int .i64 i)), (2, .row 3 1 2 [.int .i64 0, .int .i64 2]), (3, .row 3 1 2 [.int .i64 1, .int .i64 4])]) (n' := 4) ?_ ⟨rfl, rfl, rfl, rfl, trivial⟩ ⟨rfl, rfl, rfl, rfl, trivial⟩
  refine Run.freeze (fun M => [(14, .v (.slice (some ⟨(M 0).1, 0, none⟩) 6 (M 0).2)), (15, .v (.slice (some ⟨(M 1).1, 0, none⟩) 6 (M 1).2)), (16, .v (.slice (some ⟨(M 2).1, 0, none⟩) 2 (M 2).2)), (17, .v (.slice (some ⟨(M 3).1, 0, none⟩) 2 (M 3).2))]) [] 0 (fun M => ⟨⟨_, rfl, by simp [conc]⟩, ⟨_, rfl, by simp [conc]⟩, ⟨_, rfl, by simp [conc]⟩, ⟨_, rfl, by simp [conc]⟩, trivial⟩) trivial ?_
  intro M w1 S1 hB hblk hoff _
  have hB1 := (Based.refl w).base hB
  have b0 := hblk 0 _ rfl
  have b1 := hblk 1 _ rfl
  have b2 := hblk 2 _ rfl
  have b3 := hblk 3 _ rfl
  have o0 := hoff 0 _ rfl rfl
  have o1 := hoff 1 _ rfl rfl
  have o2 := hoff 2 _ rfl rfl
  have o3 := hoff 3 _ rfl rfl
  clear hB hblk hoff
  refine RunF_sound tab_ok noX_local 1 [] _ _ rfl ?_ ?_
  · simp [fillL, repL, splice, Value.cells, maxLen]
  refine Run.to (t' := [(14, .v (.slice (some ⟨(M 0).1, 0, none⟩) 6 (M 0).2)), (15, .v (.slice (some ⟨(M 1).1, 0, none⟩) 6 (M 1).2)), (18, .sl 0 1 0 2)]) (h' := [(0, .row 24 1 2 [.slice (some ⟨(M 2).1, 0, none⟩) 2 (M 2).2, .slice (some ⟨(M 3).1, 0, none⟩) 2 (M 3).2])]) (n' := 1) ?_ ⟨rfl, rfl, rfl, trivial⟩ ⟨rfl, trivial⟩
  refine Run.freeze (fun N => [(14, .v (.slice (some ⟨(M 0).1, 0, none⟩) 6 (M 0).2)), (15, .v (.slice (some ⟨(M 1).1, 0, none⟩) 6 (M 1).2)), (18, .v (.slice (some ⟨(N 0).1, 0, none⟩) 2 (N 0).2))]) [] 0 (fun M => ⟨⟨_, rfl, by simp [conc]⟩, ⟨_, rfl, by simp [conc]⟩, ⟨_, rfl, by simp [conc]⟩, trivial⟩) trivial ?_
  intro N w2 S2 hB hblk hoff _
  have hB2 := hB1.base hB
  have c0 := hblk 0 _ rfl
  have q0 := hoff 0 _ rfl rfl
  have b0' := BlkAt.same b0 (hB.agree.block _ b0.lt o0)
  have b1' := BlkAt.same b1 (hB.agree.block _ b1.lt o1)
  have b2' := BlkAt.same b2 (hB.agree.block _ b2.lt o2)
  have b3' := BlkAt.same b3 (hB.agree.block _ b3.lt o3)
  have o0' := hB.off b0.lt o0
  have o1' := hB.off b1.lt o1
  have o2' := hB.off b2.lt o2
  have o3' := hB.off b3.lt o3
  clear hblk hoff hB hB1 b0 b1 b2 b3 o0 o1 o2 o3
  obtain ⟨X, hXd⟩ : ∃ X : Xn, X = ⟨ev0, fr0, or0, some ⟨(M 0).1, 0, none⟩, (M 0).2, .slice none 0 0, some ⟨(M 1).1, 0, none⟩, (M 1).2, some ⟨(N 0).1, 0, none⟩, (N 0).2, .slice none 0 0⟩ := ⟨_, rfl⟩
  have hX : ∀ w', Agree S2 w2 w' → SeesX w' X := fun w' hA => by
    replace c0 := BlkAt.same c0 (hA.block _ c0.lt q0)
    replace b0' := BlkAt.same b0' (hA.block _ b0'.lt o0')
    replace b1' := BlkAt.same b1' (hA.block _ b1'.lt o1')
    replace b2' := BlkAt.same b2' (hA.block _ b2'.lt o2')
    replace b3' := BlkAt.same b3' (hA.block _ b3'.lt o3')
    have hI : ∀ (l : List Int) (id : Nat), BlkAt M w' id (.row 3 1 l.length (l.map fun i => .int .i64 i)) → SeesI w' (some ⟨(M id).1, 0, none⟩) l := fun l id hb i hi => by
      refine ⟨rfl, ?_⟩
      have := row_cells hb i (.int .i64 l[i]) (by rw [List.getElem?_map, List.getElem?_eq_getElem hi]; rfl)
      rw [Option.getD_some, Addr.add_lit]
      exact this
    have hc : 6 ≤ (M 1).2 := by obtain ⟨_, cur, _, g1, _⟩ := b1'; exact g1
    have h1 := hI fr0 1 b1'
    have h2 := hI [0, 2] 2 b2'
    have h3 := hI [1, 4] 3 b3'
    have k0 := row_cells c0 0 _ rfl
    have k1 := row_cells c0 1 _ rfl
    subst hXd
    have hml : maxLen = 9223372036854775807 := rfl
    refine ⟨seesE_row b0' fun i hi j hj => evsV_get ev0 i hi j hj, h1, fun i hi => ⟨rfl, ?_⟩, rfl, rfl, hc, (by rw [hml]; show 6 ≤ 9223372036854775807; decide), (by rw [hml]; show 2 ≤ 9223372036854775807; decide), (by rw [hml]; show ∀ c ∈ or0, _; decide)⟩
    rcases i with _ | _ | i
    · exact ⟨_, _, by rw [Option.getD_some, Addr.add_lit]; exact k0, h2⟩
    · exact ⟨_, _, by rw [Option.getD_some, Addr.add_lit]; exact k1, h3⟩
    · exact absurd hi (by show ¬ (i + 2 < 2); omega)
  have hXe : encX X = .agg #[.slice (some ⟨(M 0).1, 0, none⟩) 6 (M 0).2, .slice none 0 0, .slice (some ⟨(M 1).1, 0, none⟩) 6 (M 1).2, .slice (some ⟨(N 0).1, 0, none⟩) 2 (N 0).2, .slice none 0 0] := by subst hXd; rfl
  refine RunF_sound tab_ok noX_local 100 [] _ _ rfl ?_ ?_
  · simp [fillL, splice, Value.cells, z28, show tab.size 22 = some 1 from rfl, szI, show tab.size 25 = some 1 from rfl, show tab.size 23 = some 1 from rfl, show tab.size 26 = some 1 from rfl]
    exact ⟨⟨rfl, rfl, rfl, rfl, rfl⟩, rfl⟩
  refine Run.to (t' := [(1, .ptr 0 0), (21, .v (encX X))]) (h' := [(0, .cells 28 [.vals 5 (xV X)])]) (n' := 1) ?_ ⟨rfl, by subst hXd; rfl, trivial⟩ ⟨by subst hXd; rfl, trivial⟩
  clear c0 q0 b0' b1' b2' b3' o0' o1' o2' o3'
  have hone := xV_one (hX w2 (Agree.refl _ _)).one1 (hX w2 (Agree.refl _ _)).one4
  have e1 : X.ev = ev0 := by subst hXd; rfl
  have e2 : X.from_ = fr0 := by subst hXd; rfl
  have e3 : X.ord = or0 := by subst hXd; rfl
  have hh1 := hld0_1 X e1 e2 e3
  have hh2 := hld0_2 X e1 e2 e3
  have hw1 : whyL X 1 = [(3, [2, 3, 4, 5])] := (why_at X 1 e1 e2 e3).trans why0_1
  clear hXd hXe
  have hgo : ∀ (k : Int) w', Agree S2 w2 w' → Gives Tryd.prog 16 [.int .i64 k, encX X] w' (.tuple #[.bool (hldB X k), .int .i64 (gE k)]) := fun k w' hA => holds_ok X k w' (hX w' hA) (hTA w' (hB2.later hA)) (hSA w' (hB2.later hA))
  refine Run.callFn (r := .tuple #[.bool false, .int .i64 0]) noX_local rfl rfl rfl rfl rfl rfl rfl holds_enters rfl (fun w' hA => by have := hgo 1 w' hA; rwa [hh1] at this) ?_
  refine RunF_sound tab_ok noX_local 100 [] _ _ rfl ?_ ?_
  · simp
  refine Run.callFn (r := .tuple #[.bool true, .int .i64 0]) noX_local rfl rfl rfl rfl rfl rfl rfl holds_enters rfl (fun w' hA => by have := hgo 2 w' hA; rwa [hh2] at this) ?_
  refine RunF_sound tab_ok noX_local 100 [] _ _ rfl ?_ ?_
  · simp
  refine Run.callR noX_local rfl rfl rfl rfl rfl rfl why_enters rfl (fun M w' _ hA => why_ok X 1 w' (hX w' hA) (hTA w' (hB2.later hA)) (hSA w' (hB2.later hA))) ?_
  rintro v w4 w3 S3 hag hag2 ⟨s, p, c, rfl, hs, hF⟩ hS3
  have hB3 := hB2.call hag hag2 hS3
  rw [hw1] at hs
  refine ⟨.v (.tuple #[.slice p s.length c, .int .i64 (gE 1)]), fun M => rfl, ?_⟩
  refine RunF_sound tab_ok noX_local 33 [true, true, true, true, true] _ _ rfl ?_ ?_
  · simp [fillL, repL, splice, Value.cells, maxLen, show gE 1 = 0 from rfl]
  refine Run.to (t' := [(53, .v (.slice p s.length c)), (54, .sl 1 1 0 4), (52, .tt true)]) (h' := [(1, .row 3 1 4 (encN [2, 3, 4, 5]))]) (n' := 2) ?_ ⟨rfl, rfl, rfl, trivial⟩ ⟨rfl, trivial⟩
  refine Run.freeze (fun N => [(53, .v (.slice p s.length c)), (54, .v (.slice (some ⟨(N 1).1, 0, none⟩) 4 (N 1).2)), (52, .tt true)]) [] 0 (fun N => ⟨⟨_, rfl, by simp [conc]⟩, ⟨_, rfl, by simp [conc]⟩, ⟨_, rfl, by simp [conc]⟩, trivial⟩) trivial ?_
  intro N w5 S5 hB hblk hoff _
  have hB5 := hB3.base hB
  have c1 := hblk 1 _ rfl
  have q1 := hoff 1 _ rfl rfl
  obtain ⟨e, he⟩ : ∃ e : Ent, e = ((N 1).1, (N 1).2, [2, 3, 4, 5]) := ⟨_, rfl⟩
  have hE : EntAt w5 e := by subst he; exact c1
  have hEo : ¬ S5 e.1 := by subst he; exact q1
  rw [show Value.slice (some ⟨(N 1).1, 0, none⟩) 4 (N 1).2 = slV e by subst he; rfl]
  have hec : e.2.2 = [2, 3, 4, 5] := by subst he; rfl
  clear he hblk hoff c1 q1
  refine RunF_sound tab_ok noX_local 2 [] _ _ rfl ?_ ?_
  · simp [fillL, repL, splice, Value.cells, maxLen, slV, szI, zB, zBd]
  refine Run.to (t' := [(53, .v (.slice p s.length c)), (56, .sl 0 2 0 1), (52, .tt true)]) (h' := [(0, .row 62 2 1 (bnsV [(3, e)]))]) (n' := 1) ?_ ⟨rfl, rfl, rfl, trivial⟩ ⟨rfl, trivial⟩
  have hsB : ∀ w', Agree S5 w5 w' → SeesB w' p s := fun w' hA =>
    ((hF.keep hB.agree (fun a h => hS3.new _ (hF.new a h)) (fun e h => hS3.new _ (hF.nw e h))).keep hA (fun a h => hB.off (hF.plt h) (hS3.new _ (hF.new a h))) (fun e h => hB.off (hF.elt h) (hS3.new _ (hF.nw e h)))).sees
  refine Run.callM (r := .bool true) noX_local rfl rfl rfl rfl rfl rfl sameBroken_enters rfl (fun M w' hM hA => ?_) ?_
  · refine sameBroken_ok p _ c _ s [(3, e)] w' (hsB w' hA) (seesB_row (hM 0 _ rfl) fun d hd => ?_) (by rw [hs]; simp [bnC, hec]) ?_
    · rw [List.mem_singleton] at hd; subst hd
      exact BlkAt.same hE (hA.block _ hE.lt hEo)
    · have : s.length = 1 := by have := congrArg List.length hs; simpa using this
      rw [this, show maxLen = 9223372036854775807 from rfl]; decide
  refine RunF_sound tab_ok noX_local 100 [] _ _ rfl ?_ ?_
  · simp
  exact Run.retB (Ds := []) tab_ok noX_local hB5 Tryd.func14 rfl trivial (fun M => rfl)
theorem awake_enters : Enters Tryd.prog 14 := enters_mk Tryd.func14 (by decide) rfl
end Go.Proofs.YtmammebifhmnhaaDoor

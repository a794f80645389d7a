/-
  Own work, merged: AM36, AM41, A10, A11.
-/
import Derived.AtR
import Derived.Below
import Derived.ChangeKeysEq
import Derived.KernelRfl
import Derived.LaidMore
import Derived.Laws.AppendOwn
import Derived.Laws.BytesString
import Derived.Laws.Cells
import Derived.Laws.CopyRow
import Derived.Laws.Entries
import Derived.Laws.Rows
import Derived.Laws.Small
import Derived.Laws.StructEq
import Derived.Lib.LaidTab
import Derived.Lib.TrailingZeros
import Derived.MapKept
import Derived.Maps.AppendAt
import Derived.OpenShut
import Derived.Orders
import Derived.ProofKit
import Derived.RangeFuncRecord
import Derived.SevenTiedAt
import Derived.Stop.Joined
import Derived.Test.YtmammebifhmnhaaDoorCards
import Derived.Test.YtmammebifhmnhaaDoorProg
import Derived.Test.YtmammebifhmnhaaDoorRows
import Derived.Test.YtmammebifhmnhaaDoorTie
import Derived.Test.YtmammebifhmnhaaDoorQ980541
/-
  The abstract machine, thirty-sixth part: maps from ints to ints, owned. Own work; over any program.
-/
namespace Go.AM

abbrev encM (kk kv : IntKind) (L : List (Int × Int)) : List (Value × Value) := L.map fun p => (.int kk p.1, .int kv p.2)

abbrev pairE (e : MapEntry) : Value × Value := (e.key, e.val)

theorem findNow_none {kk kv : IntKind} {k : Int} : ∀ {L : List (Int × Int)} {es : List MapEntry} {i : Nat}, es.map pairE = encM kk kv L → (∀ p ∈ L, p.1 ≠ k) → Instr.findNow (.int kk) (.int kk k) es i = some none
  | [], [], i, _, _ => rfl
  | [], e :: es, i, h, _ => by simp at h
  | p :: L, [], i, h, _ => by simp at h
  | p :: L, e :: es, i, h, hn => by
    simp only [encM, List.map_cons, List.cons.injEq, pairE, Prod.mk.injEq] at h
    obtain ⟨⟨h1, h2⟩, h3⟩ := h
    have hne : (k == p.1) = false := by
      have := hn p (by simp)
      simp only [beq_eq_false_iff_ne, ne_eq]
      exact fun e => this e.symm
    simp only [Instr.findNow, h1, Instr.sameNow, if_true, hne]
    exact findNow_none h3 (fun q hq => hn q (by simp [hq]))

theorem findNow_at {kk kv : IntKind} {k c : Int} : ∀ {A B : List (Int × Int)} {es : List MapEntry} {i : Nat}, es.map pairE = encM kk kv (A ++ (k, c) :: B) → (∀ p ∈ A, p.1 ≠ k) → Instr.findNow (.int kk) (.int kk k) es i = some (some (i + A.length, .int kv c))
  | [], B, [], i, h, _ => by simp at h
  | p :: A, B, [], i, h, _ => by simp at h
  | [], B, e :: es, i, h, _ => by
    simp only [encM, List.nil_append, List.map_cons, List.cons.injEq, pairE, Prod.mk.injEq] at h
    obtain ⟨⟨h1, h2⟩, h3⟩ := h
    have hk : (k == k) = true := by simp
    simp only [Instr.findNow, h1, Instr.sameNow, if_true, hk, h2]
    rfl
  | p :: A, B, e :: es, i, h, hn => by
    simp only [encM, List.cons_append, List.map_cons, List.cons.injEq, pairE, Prod.mk.injEq] at h
    obtain ⟨⟨h1, h2⟩, h3⟩ := h
    have hne : (k == p.1) = false := by
      have := hn p (by simp)
      simp only [beq_eq_false_iff_ne, ne_eq]
      exact fun e => this e.symm
    simp only [Instr.findNow, h1, Instr.sameNow, if_true, hne]
    rw [findNow_at (A := A) (B := B) (c := c) h3 (fun q hq => hn q (by simp [hq]))]
    simp only [List.length_cons]
    rw [show i + 1 + A.length = i + (A.length + 1) by omega]

theorem map_modify_at {α β : Type} (g : α → β) (f : α → α) (y : β) (hf : ∀ e, g (f e) = y) : ∀ {A B : List β} {x : β} {l : List α}, l.map g = A ++ x :: B → (l.modify A.length f).map g = A ++ y :: B
  | [], B, x, [], h => by simp at h
  | [], B, x, e :: l, h => by
    simp only [List.nil_append, List.map_cons, List.cons.injEq] at h
    simp [hf, h.2]
  | a :: A, B, x, [], h => by simp at h
  | a :: A, B, x, e :: l, h => by
    simp only [List.cons_append, List.map_cons, List.cons.injEq] at h
    simp only [List.length_cons, List.modify_succ_cons, List.map_cons, List.cons_append, h.1, map_modify_at g f y hf h.2]

theorem nearly (b : Bool) (kt : TypeId) (v : Value) : Instr.checkKey b 10000 kt v = Instr.checkKey b (9999 + 1) kt v := rfl

section
variable {P : Program} {T : Tab} (hT : tabOK P T) {t kt et : TypeId} {kk kv : IntKind} {w : World} {r ck : Nat} {a : Array MapEntry} {A B L : List (Int × Int)} {k c : Int}
include hT

theorem run_check_int (hk : T.desc kt = some (.int kk)) (b : Bool) (w : World) : (Instr.checkKey b 10000 kt (.int kk k)).run P w = .ok () w := by
  rw [nearly]
  unfold Instr.checkKey
  simp only [Sem.run_bind, tab_und hT hk, Result.andThen]
  rfl

theorem run_find_at (hk : T.desc kt = some (.int kk)) (he : a.toList.map pairE = encM kk kv (A ++ (k, c) :: B)) (hA : ∀ p ∈ A, p.1 ≠ k) (w : World) : (Instr.findKey kt (.int kk k) a.toList).run P w = .ok (some (A.length, .int kv c)) w := by
  have := findNow_at (i := 0) he hA
  simp [Instr.findKey, tab_und hT hk, this]

theorem run_find_none (hk : T.desc kt = some (.int kk)) (he : a.toList.map pairE = encM kk kv L) (hA : ∀ p ∈ L, p.1 ≠ k) (w : World) : (Instr.findKey kt (.int kk k) a.toList).run P w = .ok none w := by
  have := findNow_none (i := 0) he hA
  simp [Instr.findKey, tab_und hT hk, this]

theorem run_lookup_at (ht : T.desc t = some (.map kt et)) (hk : T.desc kt = some (.int kk)) (hb : w.heap[r]? = some (.map a ck)) (he : a.toList.map pairE = encM kk kv (A ++ (k, c) :: B)) (hA : ∀ p ∈ A, p.1 ≠ k) :
    (Instr.lookup t (.map (some r)) (.int kk k) false).run P w = .ok (.int kv c) w := by
  simp [Instr.lookup, tab_und hT ht, MapKept.run_getObj_map hb, run_check_int hT hk, run_find_at hT hk he hA]

theorem run_update_new (ht : T.desc t = some (.map kt et)) (hk : T.desc kt = some (.int kk)) (hb : w.heap[r]? = some (.map a ck)) (he : a.toList.map pairE = encM kk kv L) (hA : ∀ p ∈ L, p.1 ≠ k) (v : Value) :
    (Instr.mapUpdate t (.map (some r)) (.int kk k) v).run P w = .ok () { w with heap := w.heap.setIfInBounds r (.map (a.push { key := .int kk k, val := v, born := ck }) (ck + 1)) } := by
  simp [Instr.mapUpdate, tab_und hT ht, MapKept.run_getObj_map hb, run_check_int hT hk, run_find_none hT hk he hA, MapKept.run_setObj_map _ hb]

theorem run_update_at (ht : T.desc t = some (.map kt et)) (hk : T.desc kt = some (.int kk)) (hb : w.heap[r]? = some (.map a ck)) (he : a.toList.map pairE = encM kk kv (A ++ (k, c) :: B)) (hA : ∀ p ∈ A, p.1 ≠ k) (v : Value) :
    (Instr.mapUpdate t (.map (some r)) (.int kk k) v).run P w = .ok () { w with heap := w.heap.setIfInBounds r (.map (a.modify A.length fun e => { e with key := .int kk k, val := v }) ck) } := by
  have hkey : ((a[A.length]?).map (·.key)).getD (.int kk k) = .int kk k := by
    have h1 : (a.toList.map pairE)[A.length]? = some (.int kk k, .int kv c) := by rw [he]; simp [encM]
    rw [List.getElem?_map, Array.getElem?_toList] at h1
    cases h2 : a[A.length]? with
    | none => rw [h2] at h1; cases h1
    | some e => rw [h2] at h1; simp [pairE] at h1; simp [h1.1]
  have hst : ∀ w, (Instr.keyThatStays (.int kk k) (.int kk k)).run P w = .ok (.int kk k) w := by
    intro w
    have : Instr.sameBits 10000 (.int kk k) (.int kk k) = true := by simp [Instr.sameBits]
    simp [Instr.keyThatStays, this]
  simp [Instr.mapUpdate, tab_und hT ht, MapKept.run_getObj_map hb, run_check_int hT hk, run_find_at hT hk he hA, hkey, hst, MapKept.run_setObj_map _ hb]
end

section
variable {C : Ctx} {ops : Array Oper} {i : Nat} {rest : List Nat} {k : List Item} {σ : St} {o : Oper} {T : Tab} {t kt et : TypeId} {x y z : Operand} {kk kv : IntKind} {id : Nat} {A B L : List (Int × Int)} {key c c' : Int}
  {held : List (Nat × Blk)} {n0 : Nat} {ord : List (Nat × Bool)}

theorem Rel.newAny {C : Ctx} (hL : Local C.X) {M : Loc} {fp : Nat → Prop} {σ : St} {a : Act} {w : World} (hR : Rel C M fp σ a w) (hb : σ.bel = true) {o : Obj} {B : Blk} {cap : Nat}
    (hB : BlkAt (updM M σ.nx (w.heap.size, cap)) (w.alloc o) σ.nx B) :
    Rel C (updM M σ.nx (w.heap.size, cap)) fp { σ with h := (σ.nx, B) :: σ.h, nx := σ.nx + 1 } a (w.alloc o) := by
  unfold St.bel at hb
  split at hb <;> first | (cases hb; done) | skip
  rename_i ht
  refine { toRelH := hR.toRelH.new hL hb rfl rfl rfl (by simp) (fun k hk => old_alloc w _ hk) hB, size := hR.size, frozen := hR.frozen, tmps := ?_, defers := hR.defers }
  intro i x hx
  rw [hR.tmps i x hx]
  congr 1
  exact (conc_congr (fun j hj => by simp [updM, Nat.ne_of_lt hj]) x (lk_below ht hx)).symm

theorem alloc_new (w : World) (o : Obj) : (w.alloc o).heap[w.heap.size]? = some o := World.alloc_heap_new w o

/-- A map is made. -/
theorem Run.mkMap (hL : Local C.X) (ho : ops[i]? = some o) (hop : o.op = .makeMap t none) (hw : wantOf ops σ o = some .yes) (hd : dstOK C.n o.dst = true) (hb : σ.bel = true)
    (h : Run C (.inRegion ops rest :: k) (St.put ⟨σ.t, (σ.nx, .map []) :: σ.h, σ.nx + 1⟩ o.dst (.mp σ.nx))) : Run C (.inRegion ops (i :: rest) :: k) σ := by
  intro M fp a w hR cs
  have hrun : (execOp a.eval o).run C.P w = .ok (.value (.map (some w.heap.size))) (w.alloc (.map #[] 0)) := by
    simp [execOp, hop, Instr.makeMap, newObj, Sem.run]
  have hR' := hR.newAny hL hb (cap := 0) (o := .map #[] 0) (B := .map []) ⟨#[], 0, by simp only [updM, if_true]; exact alloc_new _ _, rfl⟩
  obtain ⟨m, s, e⟩ := h _ fp _ _ (hR'.put (z := .mp σ.nx) (dstOK_lt hd)) cs
  refine ⟨m, .head (step_value ho (wantOf_yes hR.q hw) (fun c e => by rw [hop] at e; cases e) ?_) s, e⟩
  rw [hrun]
  simp [conc, updM]

/-- A map's block turned. -/
theorem Rel.setMap (hL : Local C.X) {M : Loc} {fp : Nat → Prop} {a : Act} {w : World} (hR : Rel C M fp σ a w) {es es' : List (Value × Value)} (hB : lk σ.h id = some (.map es)) {ar : Array MapEntry} {ck : Nat} (he : ar.toList.map pairE = es') :
    Rel C M fp ⟨σ.t, hset σ.h id (.map es'), σ.nx⟩ a { w with heap := w.heap.setIfInBounds (M id).1 (.map ar ck) } := by
  have hlt := (hR.heap _ _ hB).lt
  refine { toRelH := RelH.upd hL hR.toRelH hB rfl rfl rfl (by simp) (fun k hk => ?_) ⟨ar, ck, ?_, he⟩, size := hR.size, frozen := hR.frozen, tmps := hR.tmps, defers := hR.defers }
  · simp only [Array.getElem?_setIfInBounds]; rw [if_neg (Ne.symm hk)]
  · simp [hlt]

/-- A new key. -/
theorem Run.mapNew (hT : tabOK C.P T) (hL : Local C.X) (ho : ops[i]? = some o) (hop : o.op = .mapUpdate t x y z) (hdst : o.dst = none) (hx : σ.ev x = some (.mp id)) (hy : σ.ev y = some (.v (.int kk key))) (hz : σ.ev z = some (.v (.int kv c)))
    (ht : T.desc t = some (.map kt et)) (hk : T.desc kt = some (.int kk)) (hB : lk σ.h id = some (.map (encM kk kv L))) (hA : ∀ p ∈ L, p.1 ≠ key) (hw : wantOf ops σ o = some .yes)
    (h : Run C (.inRegion ops rest :: k) ⟨σ.t, hset σ.h id (.map (encM kk kv (L ++ [(key, c)]))), σ.nx⟩) : Run C (.inRegion ops (i :: rest) :: k) σ := by
  intro M fp a w hR cs
  obtain ⟨ar, ck, hb, he⟩ := hR.heap _ _ hB
  have ex := hR.q.ev hx
  have ey := hR.q.ev hy
  have ez := hR.q.ev hz
  simp only [conc] at ex ey ez
  have hrun := run_update_new hT ht hk hb he hA (.int kv c)
  obtain ⟨m, s, e⟩ := h _ fp _ _ (hR.setMap hL hB (ar := ar.push { key := .int kk key, val := .int kv c, born := ck }) (ck := ck + 1) (es' := encM kk kv (L ++ [(key, c)])) (by
    rw [Array.toList_push, List.map_append, he]; simp [encM, pairE])) cs
  refine ⟨m, .head (step_skipped (w' := { w with heap := w.heap.setIfInBounds (M id).1 (.map (ar.push { key := .int kk key, val := .int kv c, born := ck }) (ck + 1)) }) ho (wantOf_yes hR.q hw) (fun c e => by rw [hop] at e; cases e) ?_) ?_, e⟩
  · simp [execOp, hop, ex, ey, ez, hrun]
  · rw [hdst]; exact s

/-- A key that is there. -/
theorem Run.mapSet (hT : tabOK C.P T) (hL : Local C.X) (ho : ops[i]? = some o) (hop : o.op = .mapUpdate t x y z) (hdst : o.dst = none) (hx : σ.ev x = some (.mp id)) (hy : σ.ev y = some (.v (.int kk key))) (hz : σ.ev z = some (.v (.int kv c')))
    (ht : T.desc t = some (.map kt et)) (hk : T.desc kt = some (.int kk)) (hB : lk σ.h id = some (.map (encM kk kv (A ++ (key, c) :: B)))) (hA : ∀ p ∈ A, p.1 ≠ key) (hw : wantOf ops σ o = some .yes)
    (h : Run C (.inRegion ops rest :: k) ⟨σ.t, hset σ.h id (.map (encM kk kv (A ++ (key, c') :: B))), σ.nx⟩) : Run C (.inRegion ops (i :: rest) :: k) σ := by
  intro M fp a w hR cs
  obtain ⟨ar, ck, hb, he⟩ := hR.heap _ _ hB
  have ex := hR.q.ev hx
  have ey := hR.q.ev hy
  have ez := hR.q.ev hz
  simp only [conc] at ex ey ez
  have hrun := run_update_at hT ht hk hb he hA (.int kv c')
  obtain ⟨m, s, e⟩ := h _ fp _ _ (hR.setMap hL hB (ar := ar.modify A.length fun e => { e with key := .int kk key, val := .int kv c' }) (ck := ck) (es' := encM kk kv (A ++ (key, c') :: B)) (by
    rw [Array.toList_modify]
    have h2 := map_modify_at pairE (fun e => { e with key := .int kk key, val := .int kv c' }) (.int kk key, .int kv c') (fun _ => rfl) (A := encM kk kv A) (B := encM kk kv B) (x := (.int kk key, .int kv c)) (l := ar.toList) (by rw [he]; simp [encM])
    simp only [encM, List.length_map] at h2
    rw [h2]; simp [encM])) cs
  refine ⟨m, .head (step_skipped (w' := { w with heap := w.heap.setIfInBounds (M id).1 (.map (ar.modify A.length fun e => { e with key := .int kk key, val := .int kv c' }) ck) }) ho (wantOf_yes hR.q hw) (fun c e => by rw [hop] at e; cases e) ?_) ?_, e⟩
  · simp [execOp, hop, ex, ey, ez, hrun]
  · rw [hdst]; exact s

/-- A look, in a drawn region. -/
theorem RunO.mapGet (hT : tabOK C.P T) (hsel : noSel ops = true) (hbel : hBelow n0 held = true) (ho : ops[i]? = some o) (hop : o.op = .lookup t x y false) (hx : σ.ev x = some (.mp id)) (hy : σ.ev y = some (.v (.int kk key)))
    (ht : T.desc t = some (.map kt et)) (hk : T.desc kt = some (.int kk)) (hB : lk held id = some (.map (encM kk kv (A ++ (key, c) :: B)))) (hA : ∀ p ∈ A, p.1 ≠ key) (hw : wantOf ops σ o = some .yes) (hd : dstOK C.n o.dst = true)
    (h : RunO C held n0 ops ord k (σ.put o.dst (.v (.int kv c)))) : RunO C held n0 ops ((i, true) :: ord) k σ := by
  refine RunO.first hsel ho hd (fun M0 M fp a w hM hR => .inl ⟨wantOf_yes hR.q hw, (fun c e => by rw [hop] at e; cases e), fun w' hS' => ?_⟩) h
  have ex := hR.q.ev hx
  have ey := hR.q.ev hy
  simp only [conc] at ex ey
  obtain ⟨ar, ck, hb, he⟩ := (RelQ.held hR hbel hM hS').heap _ _ hB
  have hrun := run_lookup_at hT ht hk hb he hA
  simp [execOp, hop, ex, ey, hrun, conc]

/-- How many keys, in a drawn region. -/
theorem RunO.mapLen (hT : tabOK C.P T) (hsel : noSel ops = true) (hbel : hBelow n0 held = true) {cl : Call} (ho : ops[i]? = some o) (hop : o.op = .call cl) (hc : cl.callee = .builtin .len) (hca : cl.args = #[x]) (hct : cl.argTypes = #[t]) (hx : σ.ev x = some (.mp id))
    (ht : T.desc t = some (.map kt et)) {es : List (Value × Value)} (hB : lk held id = some (.map es)) (hw : wantOf ops σ o = some .yes) (hd : dstOK C.n o.dst = true)
    (h : RunO C held n0 ops ord k (σ.put o.dst (.v (.int .i64 (es.length : Nat))))) : RunO C held n0 ops ((i, true) :: ord) k σ := by
  refine RunO.first hsel ho hd (fun M0 M fp a w hM hR => .inl ⟨wantOf_yes hR.q hw, (fun c e => by rw [hop] at e; cases e), fun w' hS' => ?_⟩) h
  have ex := hR.q.ev hx
  simp only [conc] at ex
  obtain ⟨ar, ck, hb, he⟩ := (RelQ.held hR hbel hM hS').heap _ _ hB
  have hl : es.length = ar.size := by rw [← he]; simp
  have hlen : ∀ ty cs, (builtin .len #[t] ty cs #[.map (some (M id).1)]).run C.P w' = .ok (.value (.int .i64 (es.length : Nat))) w' := by
    intro ty cs
    simp [builtin, Builtin.len_, tab_und hT ht, MapKept.run_getObj_map hb, hl, goInt]
  simp [execOp, hop, resolve, hc, hca, hct, ex, invoke, hlen, conc]
end
end Go.AM

/-
  The abstract machine, forty-first part: looks into maps, whether the key is there or not. Own work; over any program.
-/
namespace Go.AM
open Go.RowKit

def mget : List (Int × Int) → Int → Int
  | [], _ => 0
  | p :: L, k => if p.1 = k then p.2 else mget L k
theorem mget_none : ∀ {L : List (Int × Int)} {k : Int}, (∀ p ∈ L, p.1 ≠ k) → mget L k = 0
  | [], _, _ => rfl
  | p :: L, k, h => by rw [mget, if_neg (h p (by simp)), mget_none fun q hq => h q (by simp [hq])]
theorem mget_at : ∀ {A B : List (Int × Int)} {k c : Int}, (∀ p ∈ A, p.1 ≠ k) → mget (A ++ (k, c) :: B) k = c
  | [], B, k, c, _ => by simp [mget]
  | p :: A, B, k, c, h => by rw [List.cons_append, mget, if_neg (h p (by simp)), mget_at fun q hq => h q (by simp [hq])]
theorem m_split (L : List (Int × Int)) (k : Int) : (∀ p ∈ L, p.1 ≠ k) ∨ ∃ A B c, L = A ++ (k, c) :: B ∧ ∀ p ∈ A, p.1 ≠ k := by
  induction L with
  | nil => exact .inl fun p h => by cases h
  | cons p L ih =>
    by_cases e : p.1 = k
    · exact .inr ⟨[], L, p.2, by subst e; rfl, fun q h => by cases h⟩
    · rcases ih with h | ⟨A, B, c, h1, h2⟩
      · refine .inl fun q hq => ?_
        rcases List.mem_cons.1 hq with rfl | hq
        · exact e
        · exact h q hq
      · refine .inr ⟨p :: A, B, c, by rw [h1]; rfl, fun q hq => ?_⟩
        rcases List.mem_cons.1 hq with rfl | hq
        · exact e
        · exact h2 q hq

section
variable {P : Program} {T : Tab} (hT : tabOK P T) {t kt et : TypeId} {kk kv : IntKind} {w : World} {r ck : Nat} {a : Array MapEntry} {L : List (Int × Int)} {k : Int} {ti : TI}
include hT
theorem run_lookup_any (ht : T.desc t = some (.map kt et)) (hk : T.desc kt = some (.int kk)) (hi : lk T et = some ti) (hz : ti.zero = .int kv 0) (hb : w.heap[r]? = some (.map a ck)) (he : a.toList.map pairE = encM kk kv L) :
    (Instr.lookup t (.map (some r)) (.int kk k) false).run P w = .ok (.int kv (mget L k)) w := by
  rcases m_split L k with h | ⟨A, B, c, h1, h2⟩
  · rw [mget_none h]
    simp [Instr.lookup, tab_und hT ht, MapKept.run_getObj_map hb, run_check_int hT hk, run_find_none hT hk he h, tab_zero hT hi, hz]
  · subst h1
    rw [mget_at h2]
    exact run_lookup_at hT ht hk hb he h2
end

section
variable {C : Ctx} {ops : Array Oper} {i : Nat} {rest : List Nat} {k : List Item} {σ : St} {o : Oper} {T : Tab} {t kt et : TypeId} {x y : Operand} {kk kv : IntKind} {id : Nat} {L : List (Int × Int)} {key : Int} {ti : TI}
  {held : List (Nat × Blk)} {n0 : Nat} {ord : List (Nat × Bool)}
/-- A look, in a drawn region. -/
theorem RunO.mapAny (hT : tabOK C.P T) (hsel : noSel ops = true) (hbel : hBelow n0 held = true) (ho : ops[i]? = some o) (hop : o.op = .lookup t x y false) (hx : σ.ev x = some (.mp id)) (hy : σ.ev y = some (.v (.int kk key)))
    (ht : T.desc t = some (.map kt et)) (hk : T.desc kt = some (.int kk)) (hi : lk T et = some ti) (hz : ti.zero = .int kv 0) (hB : lk held id = some (.map (encM kk kv L))) (hw : wantOf ops σ o = some .yes) (hd : dstOK C.n o.dst = true)
    (h : RunO C held n0 ops ord k (σ.put o.dst (.v (.int kv (mget L key))))) : RunO C held n0 ops ((i, true) :: ord) k σ := by
  refine RunO.first hsel ho hd (fun M0 M fp a w hM hR => .inl ⟨wantOf_yes hR.q hw, (fun c e => by rw [hop] at e; cases e), fun w' hS' => ?_⟩) h
  have ex := hR.q.ev hx
  have ey := hR.q.ev hy
  simp only [conc] at ex ey
  obtain ⟨ar, ck, hb, he⟩ := (RelQ.held hR hbel hM hS').heap _ _ hB
  have hrun := run_lookup_any (k := key) hT ht hk hi hz hb he
  simp [execOp, hop, ex, ey, hrun, conc]

/-- A look. -/
theorem Run.mapAny (hT : tabOK C.P T) (ho : ops[i]? = some o) (hop : o.op = .lookup t x y false) (hx : σ.ev x = some (.mp id)) (hy : σ.ev y = some (.v (.int kk key)))
    (ht : T.desc t = some (.map kt et)) (hk : T.desc kt = some (.int kk)) (hi : lk T et = some ti) (hz : ti.zero = .int kv 0) (hB : lk σ.h id = some (.map (encM kk kv L))) (hw : wantOf ops σ o = some .yes) (hd : dstOK C.n o.dst = true)
    (h : Run C (.inRegion ops rest :: k) (σ.put o.dst (.v (.int kv (mget L key))))) : Run C (.inRegion ops (i :: rest) :: k) σ := by
  intro M fp a w hR cs
  obtain ⟨ar, ck, hb, he⟩ := hR.heap _ _ hB
  have ex := hR.q.ev hx
  have ey := hR.q.ev hy
  simp only [conc] at ex ey
  have hrun := run_lookup_any (k := key) hT ht hk hi hz hb he
  obtain ⟨m, s, e⟩ := h M fp _ w (hR.put (z := .v (.int kv (mget L key))) (dstOK_lt hd)) cs
  refine ⟨m, .head (step_value ho (wantOf_yes hR.q hw) (fun c e => by rw [hop] at e; cases e) ?_) s, e⟩
  simp [execOp, hop, ex, ey, hrun, conc]
end
end Go.AM

/-
  What Why and Order show: plain laws. Own work.
-/
namespace Go.Proofs.YtmammebifhmnhaaDoor
open Go.AM Relation
set_option maxRecDepth 100000

theorem gR_wd (x : Xn) {k : Int} (hk : gE k = 0) : Wd (shortL x.ev).length (gR x k) := by
  have hk' : k = 1 ∨ k = 2 ∨ k = 3 := by
    unfold gE at hk
    by_cases h : k < 1 ∨ k > 3
    · rw [if_pos h] at hk; cases hk
    · omega
  have hn := shortL_le x.ev
  rcases hk' with rfl | rfl | rfl
  · rw [show gR x 1 = _ from if_pos rfl]; exact (gen_cut _ _ hn).1
  · rw [show gR x 2 = _ from (if_neg (by decide)).trans (if_pos rfl)]; exact (gen_cut _ _ hn).1
  · rw [show gR x 3 = _ from (if_neg (by decide)).trans ((if_neg (by decide)).trans (if_pos rfl))]; exact (gen_cut _ _ hn).1
theorem unp_wd (x : Xn) : Wd (shortL x.ev).length (unpR (woX x)) := by
  have h := woX_ok x
  exact (up_wd h (meet_wd h.le h.p (stands_wd 2 x.ev)).1).1
theorem wd_rt {n : Nat} {R : Rl} (hn : n ≤ 64) (h : Wd n R) : Rt R := rt_of (h.right hn)

theorem cycO_round {R : Rl} (hR : Rt R) {l : List Nat} (h : cycO R = some l) : RoundL R l ∧ l.length ≤ 64 := by
  have := cycO_is R
  rw [h, hR.right] at this
  exact ⟨cyc_round this, cyc_len this⟩
theorem betO_len {n : Nat} {F M C : Rl} {l : List Nat} (h : betO n F M C = some l) : l.length = 3 := by
  have := betO_is n F M C
  rw [h] at this
  rcases this with ⟨h, _⟩ | ⟨r, v, x, _, _, _, h, _⟩
  · cases h
  · cases h; rfl

/-- What each axiom that does not hold shows. -/
theorem why_shows (x : Xn) (k : Int) (hk : gE k = 0) (a : Nat) (l : List Nat) (h : (a, l) ∈ whyL x k) : (a = 1 ∧ RoundL (unpR (woX x)) l ∧ l.length ≤ 64) ∨ (a = 2 ∧ l.length = 3) ∨ (a = 3 ∧ RoundL (gR x k) l ∧ l.length ≤ 64) := by
  have hk13 : ¬ (k < 1 ∨ k > 3) := fun h => by rw [gE, if_pos h] at hk; cases hk
  have hn := shortL_le x.ev
  rw [whyL, if_neg hk13] at h
  simp only [List.mem_append, List.mem_map, Option.mem_toList, Prod.mk.injEq] at h
  rcases h with ⟨l', h1, rfl, rfl⟩ | ⟨l', h1, rfl, rfl⟩ | ⟨l', h1, rfl, rfl⟩
  · exact .inl ⟨rfl, cycO_round (wd_rt hn (unp_wd x)) h1⟩
  · exact .inr (.inl ⟨rfl, betO_len h1⟩)
  · exact .inr (.inr ⟨rfl, cycO_round (wd_rt hn (gR_wd x hk)) h1⟩)

theorem why_few (x : Xn) (k : Int) : (whyL x k).length ≤ 3 := by
  unfold whyL
  split
  · simp
  · have h : ∀ (o : Option (List Nat)) (n : Nat), (o.toList.map fun l => (n, l)).length ≤ 1 := fun o n => by cases o <;> simp
    rw [List.length_append, List.length_append]
    have h1 := h (cycO (unpR (woX x))) 1
    have h2 := h (betO (shortL x.ev).length (kFr x) (standsL 5 x.ev) (kCo x)) 2
    have h3 := h (cycO (gR x k)) 3
    omega

theorem ord_ok (x : Xn) (k : Int) (hk : gE k = 0) (hh : hldB x k = true) : (ordL x k).2 = 0 ∧ (ordL x k).1.length = (shortL x.ev).length ∧ goodL (aheadL (gR x k)) (shortL x.ev).length 0#64 (ordL x k).1 := by
  have hk13 : ¬ (k < 1 ∨ k > 3) := fun h => by rw [gE, if_pos h] at hk; cases hk
  have hn := shortL_le x.ev
  have hw := gR_wd x hk
  have hR := wd_rt hn hw
  have hc : cycO (gR x k) = none := by
    rw [hldB, Bool.and_eq_true, List.isEmpty_iff, whyL, if_neg hk13] at hh
    have h := hh.2
    simp only [List.append_eq_nil_iff, List.map_eq_nil_iff] at h
    cases hq : cycO (gR x k) with
    | none => rfl
    | some l => rw [hq] at h; cases h.2.2
  have hi := cycO_is (gR x k)
  rw [hc, hR.right] at hi
  obtain ⟨o, h1, h2, h3⟩ := extend_some hR (cyc_acyc hR hi)
  have hnn : (gR x k).n.toNat = (shortL x.ev).length := by rw [hw.sz]; rfl
  rw [hnn] at h2 h3
  have ho : ordL x k = (o, 0) := by
    rw [ordL, if_neg (by simp [hk]), if_neg (by simp [hh]), h1]; rfl
  rw [ho]
  exact ⟨rfl, h2, h3⟩
theorem ord_not (x : Xn) (k : Int) (hk : gE k = 0) (hh : hldB x k = false) : ordL x k = ([], 3) := by rw [ordL, if_neg (by simp [hk]), if_pos hh]
theorem ord_out (x : Xn) (k : Int) (hk : gE k ≠ 0) : ordL x k = ([], gE k) := by rw [ordL, if_pos hk]

theorem bit_shl (i j : Nat) (hi : i < 64) : (1#64 <<< i).getLsbD j = decide (i = j) := by
  rw [BitVec.getLsbD_shiftLeft, BitVec.getLsbD_one]
  by_cases h : i = j
  · subst h; simp [hi]
  · by_cases hlt : j < i
    · simp [hlt, h]
    · have : j - i ≠ 0 := by omega
      simp [h, this]

/-- What a good order is, place by place. -/
theorem good_at {A : Rl} {n : Nat} (hn : n ≤ 64) : ∀ (o : List Nat) (dn : BitVec 64), goodL A n dn o → ∀ k (hk : k < o.length), o[k] < n ∧ dn.getLsbD o[k] = false ∧ (∀ j (hj : j < k), o[j] ≠ o[k]) ∧ ∀ j, A.has o[k] j = true → dn.getLsbD j = true ∨ ∃ i, ∃ hi : i < k, o[i] = j
  | [], _, _, k, hk => absurd hk (Nat.not_lt_zero _)
  | v :: t, dn, ⟨h1, h2, h3⟩, 0, _ => by
    rw [rdyB_iff] at h2
    exact ⟨h1, h2.1, fun j hj => absurd hj (Nat.not_lt_zero _), fun j hj => .inl (h2.2 j hj)⟩
  | v :: t, dn, ⟨h1, h2, h3⟩, k + 1, hk => by
    have hk' : k < t.length := by simpa using hk
    obtain ⟨g1, g2, g3, g4⟩ := good_at hn t _ h3 k hk'
    rw [BitVec.getLsbD_or, bit_shl _ _ (by omega), Bool.or_eq_false_iff, decide_eq_false_iff_not] at g2
    refine ⟨g1, g2.1, fun j hj => ?_, fun j hj => ?_⟩
    · rcases j with _ | j
      · exact g2.2
      · exact g3 j (by omega)
    · rcases g4 j hj with g | ⟨i, hi, e⟩
      · rw [BitVec.getLsbD_or, bit_shl _ _ (by omega), Bool.or_eq_true, decide_eq_true_eq] at g
        rcases g with g | g
        · exact .inl g
        · exact .inr ⟨0, by omega, g⟩
      · exact .inr ⟨i + 1, by omega, e⟩

/-- Places, as the map keeps them. -/
def posL : List Nat → Nat → List (Int × Int)
  | [], _ => []
  | v :: t, i => ((v : Int), ((i + 1 : Nat) : Int)) :: posL t (i + 1)
theorem posL_app : ∀ (l : List Nat) (v i : Nat), posL (l ++ [v]) i = posL l i ++ [((v : Int), ((i + l.length + 1 : Nat) : Int))]
  | [], v, i => rfl
  | a :: l, v, i => by
    rw [List.cons_append, posL, posL, posL_app l v (i + 1), List.cons_append, List.length_cons]
    rw [show i + 1 + l.length + 1 = i + (l.length + 1) + 1 by omega]
theorem posL_ne : ∀ (l : List Nat) (v i : Nat), v ∉ l → ∀ p ∈ posL l i, p.1 ≠ (v : Int)
  | [], v, i, _, p, hp => by cases hp
  | a :: l, v, i, h, p, hp => by
    rw [posL] at hp
    rcases List.mem_cons.1 hp with rfl | hp
    · intro e
      have e' : v = a := by simp only at e; omega
      exact h (by simp [e'])
    · exact posL_ne l v (i + 1) (fun hv => h (by simp [hv])) p hp
theorem posL_get : ∀ (l : List Nat) (k i : Nat) (hk : k < l.length), (∀ j (hj : j < k), l[j] ≠ l[k]) → mget (posL l i) (l[k] : Int) = ((i + k + 1 : Nat) : Int)
  | [], k, i, hk, _ => absurd hk (Nat.not_lt_zero _)
  | a :: l, 0, i, _, _ => by rw [posL]; simp [mget]
  | a :: l, k + 1, i, hk, h => by
    have hk' : k < l.length := by simpa using hk
    have h0 : a ≠ l[k] := h 0 (by omega)
    rw [posL, mget, if_neg (by simp; omega)]
    have := posL_get l k (i + 1) hk' (fun j hj => h (j + 1) (by omega))
    simp only [List.getElem_cons_succ]
    rw [this, show i + 1 + k + 1 = i + (k + 1) + 1 by omega]

theorem sub_len' (a b : List Nat) (ha : a.Nodup) (h : ∀ z ∈ a, z ∈ b) : a.length ≤ b.length := by
  induction a generalizing b with
  | nil => simp
  | cons x a ih =>
    have hx : x ∈ b := h x (by simp)
    have hn := List.nodup_cons.1 ha
    have := ih (b.erase x) hn.2 (fun z hz => by
      have hne : z ≠ x := fun e => hn.1 (e ▸ hz)
      exact (List.mem_erase_of_ne hne).2 (h z (by simp [hz])))
    rw [List.length_erase_of_mem hx] at this
    have hb : 0 < b.length := List.length_pos_of_mem hx
    simp; omega

/-- In an order that is good all pairs go forward. -/
theorem good_fwd {R : Rl} (hR : Rt R) {n : Nat} (hn : n ≤ 64) (hN : R.n = (n : Int)) {o : List Nat} (hl : o.length = n) (hg : goodL (aheadL R) n 0#64 o) (a b : Nat) (h : R.has a b = true) : mget (posL o 0) (a : Int) < mget (posL o 0) (b : Int) := by
  have hat := good_at hn o _ hg
  have hnd : o.Nodup := by
    rw [List.Nodup, List.pairwise_iff_getElem]
    intro i j hi hj hij
    exact (hat j hj).2.2.1 i hij
  have hb : b ∈ o := by
    refine Classical.byContradiction fun hb => ?_
    have := sub_len' (b :: o) (List.range n) (List.nodup_cons.2 ⟨hb, hnd⟩) (fun z hz => by
      rcases List.mem_cons.1 hz with rfl | hz
      · have := (hR.lt _ _ h).2; rw [hN] at this; exact List.mem_range.2 (by omega)
      · obtain ⟨k, hk, rfl⟩ := List.getElem_of_mem hz
        exact List.mem_range.2 (hat k hk).1)
    rw [List.length_cons, List.length_range] at this
    omega
  obtain ⟨q, hq, rfl⟩ := List.getElem_of_mem hb
  obtain ⟨_, _, h3, h4⟩ := hat q hq
  rcases h4 a ((aheadL_has hR _ _).2 h) with g | ⟨i, hi, e⟩
  · simp at g
  · subst e
    rw [posL_get o q 0 hq h3, posL_get o i 0 (by omega) (hat i (by omega)).2.2.1]
    omega
end Go.Proofs.YtmammebifhmnhaaDoor

/-
  AxiomShown answers true. Own work.
-/
namespace Go.Proofs.YtmammebifhmnhaaDoor
open Go.AM
set_option maxRecDepth 100000

theorem gE_in {k : Int} (h : gE k = 0) : ¬ (k < 1 ∨ k > 3) := fun h' => by rw [gE, if_pos h'] at h; cases h
theorem gE_out {k : Int} (h : gE k ≠ 0) : gE k = 4 ∧ (k < 1 ∨ k > 3) := by
  by_cases h' : k < 1 ∨ k > 3
  · exact ⟨by rw [gE, if_pos h'], h'⟩
  · exact absurd (by rw [gE, if_neg h']) h

theorem bit1s (x : BitVec 64) (i : Nat) : (band .u64 (un (x >>> i)) 1 = 1) ↔ x.getLsbD i = true := by
  have h := bit_eq x (i : Int)
  rw [shr_un, Int.toNat_natCast] at h
  rw [← h, beq_iff_eq]
set_option maxHeartbeats 4000000 in
theorem axiomShown_ok (x : Xn) (k : Int) (w : World) (hX : SeesX w x) (hT : TabAt w) (h0w : 0 < w.heap.size) : Gives Tryd.prog 6 [encX x, .int .i64 k] w (.bool true) := by
  have hTA : ∀ w', Agree (fun _ => False) w w' → TabAt w' := fun w' hA => hT.agree hA (fun f => f)
  have hSA : ∀ w', Agree (fun _ => False) w w' → 0 < w'.heap.size := fun w' hA => Nat.lt_of_lt_of_le h0w hA.size
  have hone := xV_one hX.one1 hX.one4
  refine Gives.of_run Tryd.func6 rfl (by show 2 ≤ 241; decide) ?_
  refine RunF_sound tab_ok noX_local 100 [] _ _ rfl ?_ ?_
  · simp
  refine Run.callFn (r := .bool true) noX_local rfl rfl rfl rfl rfl rfl rfl awake_enters rfl (fun w' hA => awake_ok w' (hTA w' hA) (hSA w' hA)) ?_
  refine RunF_sound tab_ok noX_local 100 [false] _ _ rfl ?_ ?_
  · simp
  refine Run.callFn (r := .tuple #[.bool (hldB x k), .int .i64 (gE k)]) noX_local rfl rfl rfl rfl rfl rfl rfl holds_enters rfl (fun w' hA => holds_ok x k w' (hX.agree hA) (hTA w' hA) (hSA w' hA)) ?_
  refine RunF_sound tab_ok noX_local 100 [] _ _ rfl ?_ ?_
  · simp
  refine Run.callR noX_local rfl rfl rfl rfl rfl rfl why_enters rfl (fun M w' _ hA => why_ok x k w' (hX.agree hA) (hTA w' hA) (hSA w' hA)) ?_
  rintro v w2 w1 S1 hag hag2 ⟨s, p, c, rfl, hs, hF⟩ hS1
  have hB1 := (Based.refl w).call hag hag2 hS1
  refine ⟨.v (.tuple #[.slice p s.length c, .int .i64 (gE k)]), fun M => rfl, ?_⟩
  refine RunF_sound tab_ok noX_local 100 [] _ _ rfl ?_ ?_
  · simp
  refine Run.callFn (r := .tuple #[encRel (gR x k), .int .i64 (gE k)]) noX_local rfl rfl rfl rfl rfl rfl rfl global_enters rfl (fun w' hA => globalM_ok x k w' (hX.agree (hB1.later hA)) (hTA w' (hB1.later hA)) (hSA w' (hB1.later hA))) ?_
  refine RunF_sound tab_ok noX_local 100 [] _ _ rfl ?_ ?_
  · simp [segsVals, relV_one']
  refine Run.callR noX_local rfl rfl rfl rfl rfl rfl order_enters rfl (fun M w' _ hA => order_ok x k w' (hX.agree (hB1.later hA)) (hTA w' (hB1.later hA)) (hSA w' (hB1.later hA))) ?_
  rintro v w4 w3 S3 hag3 hag4 ⟨q, d, rfl, ho, hqn⟩ hS3
  have hB3 := hB1.call hag3 hag4 hS3
  have hF3 := (hF.keep hag3 (fun a h => hS1.new _ (hF.new a h)) (fun e h => hS1.new _ (hF.nw e h))).keep hag4 (fun a h f => f) (fun e h f => f)
  have hpS : ∀ a, p = some a → ¬ S3 a.block := fun a h => hS3.old _ (hF.plt h) (hS1.new _ (hF.new a h))
  have heS : ∀ e ∈ s, ¬ S3 e.2.1 := fun e h => hS3.old _ (hF.elt h) (hS1.new _ (hF.nw e h))
  have hqS : ∀ a, q = some a → ¬ S3 a.block := fun a h => hS3.new _ (hqn a h)
  have hsee := hF3.sees
  refine ⟨.v (.tuple #[.slice q (ordL x k).1.length d, .int .i64 (ordL x k).2]), fun M => rfl, ?_⟩
  clear hF hF3 hqn hS1 hS3 hag hag2 hag3 hag4 hB1
  refine RunF_sound tab_ok noX_local 9 [] _ _ rfl ?_ ?_
  · simp
  have hsl : s.length = (whyL x k).length := by rw [← hs, List.length_map]
  refine Run.to (t' := [(1, .v (.int .i64 k)), (2, .ptr 0 0), (5, .v (.bool (hldB x k))), (6, .v (.int .i64 (gE k))), (7, .v (.slice p s.length c)), (8, .v (.int .i64 (gE k))), (9, .ptr 1 0), (10, .v (.int .i64 (gE k))), (11, .v (.slice q (ordL x k).1.length d)), (12, .v (.int .i64 (ordL x k).2))])
    (h' := [(0, .cells 28 [.vals 5 (xV x)]), (1, .cells 34 [.vals 65 (relV (gR x k))])]) (n' := 2) ?_ ⟨rfl, rfl, rfl, rfl, rfl, rfl, rfl, rfl, rfl, rfl, trivial⟩ ⟨rfl, rfl, trivial⟩
  show Run ((fnP Tryd.prog 6 (Tryd.f6).ntmps w (.bool true)).rebase w3 S3) _ _
  by_cases hE : gE k = 0
  rotate_left
  · obtain ⟨h4, h13⟩ := gE_out hE
    have hh : hldB x k = false := by rw [hldB, decide_eq_false hE]; rfl
    have hw0 : (whyL x k).length = 0 := by rw [whyL, if_pos h13]; rfl
    rw [ord_out x k hE, hh, hsl, hw0, h4]
    refine RunF_sound tab_ok noX_local 400 [false, false, true, true, true, true, true, true, true] _ _ rfl ?_ ?_
    · simp
    exact Run.retB (Ds := []) tab_ok noX_local hB3 Tryd.func6 rfl trivial (fun M => rfl)
  have hG := gR_wd x hE
  have hn := shortL_le x.ev
  have hGR := wd_rt hn hG
  have hUR := wd_rt hn (unp_wd x)
  have hshow := why_shows x k hE
  have hfew := why_few x k
  have hU : ∀ w', Agree S3 w3 w' → Gives Tryd.prog 9 [encX x] w' (encRel (unpR (woX x))) := fun w' hA => unp_ok x w' (hX.agree (hB3.later hA)) (hTA w' (hB3.later hA)) (hSA w' (hB3.later hA))
  rw [hE]
  -- the loop over what does not hold
  suffices H : ∀ (m i : Nat), i + m = s.length → ∀ σ, inT σ.t [(2, .ptr 0 0), (5, .v (.bool (hldB x k))), (7, .v (.slice p s.length c)), (9, .ptr 1 0), (11, .v (.slice q (ordL x k).1.length d)), (13, .v (.int .i64 (i : Int)))] → inT σ.h [(0, .cells 28 [.vals 5 (xV x)]), (1, .cells 34 [.vals 65 (relV (gR x k))])] →
      Run ((fnP Tryd.prog 6 (Tryd.f6).ntmps w (.bool true)).rebase w3 S3) _ σ by
    cases hh : hldB x k with
    | true =>
      have hw0 : (whyL x k).length = 0 := by
        rw [hldB, Bool.and_eq_true, List.isEmpty_iff] at hh; rw [hh.2]; rfl
      have hs0 : s.length = 0 := by rw [hsl, hw0]
      rw [hh] at H
      have ho2 := (ord_ok x k hE hh).1
      rw [ho2]
      refine RunF_sound tab_ok noX_local 400 [false, false, false, false, false, false, false] _ _ rfl ?_ ?_
      · simp [hs0]
      exact H s.length 0 (by omega) _ ⟨rfl, rfl, rfl, rfl, rfl, rfl, trivial⟩ ⟨rfl, rfl, trivial⟩
    | false =>
      have hw0 : 0 < (whyL x k).length := by
        rw [hldB, hE, decide_eq_true rfl, Bool.true_and] at hh
        cases hq : whyL x k with
        | nil => rw [hq] at hh; cases hh
        | cons a t => simp
      have hs0 : 0 < s.length := by rw [hsl]; exact hw0
      rw [hh] at H
      have ho2 := ord_not x k hE hh
      rw [ho2] at H ⊢
      refine RunF_sound tab_ok noX_local 400 [false, false, false, false, false, true, false] _ _ rfl ?_ ?_
      · simp
        exact fun e => by rw [e] at hs0; exact absurd hs0 (by decide)
      exact H s.length 0 (by omega) _ ⟨rfl, rfl, rfl, rfl, rfl, rfl, trivial⟩ ⟨rfl, rfl, trivial⟩
  intro m
  induction m with
  | succ m ih =>
    intro i hi σ ht hh
    refine Run.to ?_ ht hh (n' := 2)
    have his : i < s.length := by omega
    obtain ⟨hp, hpc⟩ := hsee.1 i his
    have p0 := hpc 0 _ rfl
    have p1 := hpc 1 _ rfl
    have hpS' : ¬ S3 (p.getD default).block := hpS _ hp
    have hcase := hshow s[i].1 s[i].2.2.2 (by rw [← hs]; exact List.mem_map.2 ⟨s[i], List.getElem_mem his, rfl⟩)
    have hrd : ∀ w', Agree S3 w3 w' → SeesN w' (some ⟨s[i].2.1, 0, none⟩) s[i].2.2.2 := fun w' hA => (entSees' (hsee.2 s[i] (List.getElem_mem his))).agree hA (fun a h => by cases h; exact heS _ (List.getElem_mem his))
    generalize s[i] = e at *
    generalize unpR (woX x) = U at *
    generalize gR x k = G at *
    refine RunF_sound tab_ok noX_local 400 [true] _ _ rfl ?_ ?_
    · simp; omega
    refine Run.drawA noX_local rfl [] [(0, .cells 28 [.vals 5 (xV x)]), (1, .cells 34 [.vals 65 (relV G)])] rfl rfl ⟨rfl, rfl, trivial⟩ ?_
    rcases hcase with ⟨h1, hr, hlen⟩ | ⟨h1, hlen⟩ | ⟨h1, hr, hlen⟩
    · refine RunOF_sound tab_ok noX_local rfl rfl 400 [true] _ _ rfl ?_ ?_
      · simp only [Int.toNat_natCast, p0, p1]
        simp [h1, add_block]
        exact ⟨⟨hp, his⟩, hpS', ⟨hp, his⟩, rfl, hpS'⟩
      refine RunO.callFn (r := encRel U) noX_local rfl rfl rfl rfl rfl rfl rfl rfl unp_enters rfl (fun w' hA => hU w' hA) ?_
      refine RunOF_sound tab_ok noX_local rfl rfl 400 [] _ _ rfl ?_ ?_
      · simp
      refine RunO.callFn (r := .bool true) noX_local rfl rfl rfl rfl rfl rfl rfl rfl round_enters rfl (fun w' hA => ?_) ?_
      · have := round_ok U hUR _ e.2.2.1 _ w' (hrd w' hA) hr hlen
        simp only [Int.toNat_natCast, p1]
        exact this
      refine RunOF_sound tab_ok noX_local rfl rfl 400 [false, false, false, false] _ _ rfl ?_ ?_
      · simp only [Int.toNat_natCast, p0]
        simp [h1, add_block]
        (repeat' refine And.intro ?_ ?_) <;> first | exact hp | exact his | exact hpS' | rfl
      refine RunO.done ?_
      refine RunF_sound tab_ok noX_local 100 [false] _ _ rfl ?_ ?_
      · simp
      exact ih (i + 1) (by omega) _ ⟨rfl, rfl, rfl, rfl, rfl, i64_eq (wrap_succ (by omega)), trivial⟩ ⟨rfl, rfl, trivial⟩
    · refine RunOF_sound tab_ok noX_local rfl rfl 400 [false, false, true] _ _ rfl ?_ ?_
      · simp only [Int.toNat_natCast, p0, p1]
        simp [h1, add_block]
        (repeat' refine And.intro ?_ ?_) <;> first | exact hp | exact his | exact hpS' | rfl
      refine RunO.done ?_
      refine RunF_sound tab_ok noX_local 100 [false] _ _ rfl ?_ ?_
      · simp [p1, slV, hlen]
      exact ih (i + 1) (by omega) _ ⟨rfl, rfl, rfl, rfl, rfl, i64_eq (wrap_succ (by omega)), trivial⟩ ⟨rfl, rfl, trivial⟩
    · refine RunOF_sound tab_ok noX_local rfl rfl 400 [false, true] _ _ rfl ?_ ?_
      · simp only [Int.toNat_natCast, p0, p1]
        simp [h1, add_block]
        (repeat' refine And.intro ?_ ?_) <;> first | exact hp | exact his | exact hpS' | rfl
      refine RunO.callFn (r := .bool true) noX_local rfl rfl rfl rfl rfl rfl rfl rfl round_enters rfl (fun w' hA => ?_) ?_
      · have := round_ok G hGR _ e.2.2.1 _ w' (hrd w' hA) hr hlen
        simp only [Int.toNat_natCast, p1]
        exact this
      refine RunOF_sound tab_ok noX_local rfl rfl 400 [false, false] _ _ rfl ?_ ?_
      · simp only [Int.toNat_natCast, p0]
        simp [h1, add_block]
        (repeat' refine And.intro ?_ ?_) <;> first | exact hp | exact his | exact hpS' | rfl
      refine RunO.done ?_
      refine RunF_sound tab_ok noX_local 100 [false] _ _ rfl ?_ ?_
      · simp
      exact ih (i + 1) (by omega) _ ⟨rfl, rfl, rfl, rfl, rfl, i64_eq (wrap_succ (by omega)), trivial⟩ ⟨rfl, rfl, trivial⟩
  | zero =>
    intro i hi σ ht hh
    refine Run.to ?_ ht hh (n' := 2)
    obtain rfl : i = s.length := by omega
    cases hb : hldB x k with
    | false =>
      rw [ord_not x k hE hb]
      refine RunF_sound tab_ok noX_local 400 [false, true] _ _ rfl ?_ ?_
      · simp
      exact Run.retB (Ds := []) tab_ok noX_local hB3 Tryd.func6 rfl trivial (fun M => rfl)
    | true =>
      obtain ⟨ho2, ho3, ho4⟩ := ord_ok x k hE hb
      have hfwd := fun a b h => good_fwd hGR hn hG.sz ho3 ho4 a b h
      have hat := good_at hn _ _ ho4
      clear hshow hfew hU hsee hs hsl hpS heS ht hh
      refine RunF_sound tab_ok noX_local 400 [false, false] _ _ rfl ?_ ?_
      · simp
      refine Run.to (t' := [(9, .ptr 1 0), (11, .v (.slice q (ordL x k).1.length d))]) (h' := [(1, .cells 34 [.vals 65 (relV (gR x k))])]) (n' := 2) ?_ ⟨rfl, rfl, trivial⟩ ⟨rfl, trivial⟩
      generalize (ordL x k).1 = o at *
      generalize (shortL x.ev).length = n at *
      generalize gR x k = G at *
      have hGn := hG.sz
      refine Run.mkMap noX_local rfl rfl rfl rfl rfl ?_
      refine RunF_sound tab_ok noX_local 100 [] _ _ rfl ?_ ?_
      · simp
      suffices H2 : ∀ (m i : Nat), i + m = o.length → ∀ σ, inT σ.t [(9, .ptr 1 0), (11, .v (.slice q o.length d)), (14, .mp 2), (15, .v (.int .i64 (i : Int)))] → inT σ.h [(1, .cells 34 [.vals 65 (relV G)]), (2, .map (encM .i64 .i64 (posL (o.take i) 0)))] →
          Run ((fnP Tryd.prog 6 (Tryd.f6).ntmps w (.bool true)).rebase w3 S3) _ σ by
        exact H2 o.length 0 (by omega) _ ⟨rfl, rfl, rfl, rfl, trivial⟩ ⟨rfl, rfl, trivial⟩
      intro m
      induction m with
      | succ m ih =>
        intro i hi σ ht hh
        refine Run.to ?_ ht hh (n' := 3)
        have his : i < o.length := by omega
        obtain ⟨hq, hqc⟩ := ho i his
        have hqS' : ¬ S3 (q.getD default).block := hqS _ hq
        obtain ⟨g1, _, g3, _⟩ := hat i his
        have hnew : o[i] ∉ o.take i := fun hm => by
          obtain ⟨j, hj, e⟩ := List.getElem_of_mem hm
          rw [List.getElem_take] at e
          exact g3 j (by rw [List.length_take] at hj; omega) e
        have hkey := posL_ne (o.take i) o[i] 0 hnew
        have hget : mget (posL (o.take i) 0) (o[i] : Int) = 0 := mget_none hkey
        have happ : posL (o.take (i + 1)) 0 = posL (o.take i) 0 ++ [((o[i] : Int), ((i + 1 : Nat) : Int))] := by
          rw [List.take_succ_eq_append_getElem his, posL_app, List.length_take, Nat.min_eq_left (by omega), Nat.zero_add]
        generalize posL (o.take i) 0 = L at *
        generalize o[i] = v at *
        refine RunF_sound tab_ok noX_local 400 [true] _ _ rfl ?_ ?_
        · simp; omega
        refine Run.drawA noX_local rfl [] [(1, .cells 34 [.vals 65 (relV G)]), (2, .map (encM .i64 .i64 L))] rfl rfl ⟨rfl, rfl, trivial⟩ ?_
        refine RunOF_sound tab_ok noX_local rfl rfl 400 [false, false] _ _ rfl ?_ ?_
        · simp only [Int.toNat_natCast, Nat.mul_one, hqc]
          simp [add_block]
          rw [hGn]
          (repeat' refine And.intro ?_ ?_) <;> first | exact hq | exact his | exact hqS' | omega
        simp only [Int.toNat_natCast, Nat.mul_one, hqc]
        refine RunO.mapAny (kv := .i64) (key := (v : Int)) tab_ok rfl rfl rfl rfl rfl rfl rfl rfl rfl rfl rfl rfl rfl ?_
        rw [hget]
        refine RunOF_sound tab_ok noX_local rfl rfl 400 [] _ _ rfl ?_ ?_
        · simp
        refine RunO.done ?_
        refine RunF_sound tab_ok noX_local 100 [false] _ _ rfl ?_ ?_
        · simp only [Int.toNat_natCast, Nat.mul_one, hqc]
          simp [add_block]
          exact ⟨⟨hq, his⟩, hqS'⟩
        simp only [Int.toNat_natCast, Nat.mul_one, hqc]
        refine Run.mapNew (kk := .i64) (kv := .i64) (key := (v : Int)) tab_ok noX_local rfl rfl rfl rfl rfl rfl rfl rfl rfl hkey rfl ?_
        refine RunF_sound tab_ok noX_local 100 [] _ _ rfl ?_ ?_
        · simp
        refine ih (i + 1) (by omega) _ ⟨rfl, rfl, rfl, i64_eq (wrap_succ (by omega)), trivial⟩ ⟨rfl, ?_, trivial⟩
        rw [happ]
        exact congrArg (fun z => some (Blk.map (encM .i64 .i64 (L ++ [((v : Int), z)])))) (wrap_succ (by omega))
      | zero =>
        intro i hi σ ht hh
        refine Run.to ?_ ht hh (n' := 3)
        obtain rfl : i = o.length := by omega
        rw [List.take_length]
        refine RunF_sound tab_ok noX_local 100 [false] _ _ rfl ?_ ?_
        · simp
        clear ht hh hqS hat
        generalize posL o 0 = L at *
        suffices H3 : ∀ (m a : Nat), a + m = n → ∀ σ, inT σ.t [(9, .ptr 1 0), (11, .v (.slice q o.length d)), (14, .mp 2), (16, .v (.int .i64 (a : Int)))] → inT σ.h [(1, .cells 34 [.vals 65 (relV G)]), (2, .map (encM .i64 .i64 L))] →
            Run ((fnP Tryd.prog 6 (Tryd.f6).ntmps w (.bool true)).rebase w3 S3) _ σ by
          exact H3 n 0 (by omega) _ ⟨rfl, rfl, rfl, rfl, trivial⟩ ⟨rfl, rfl, trivial⟩
        intro m
        induction m with
        | zero =>
          intro a ha σ ht hh
          refine Run.to ?_ ht hh (n' := 3)
          obtain rfl : a = n := by omega
          refine RunF_sound tab_ok noX_local 100 [false] _ _ rfl ?_ ?_
          · simp [hGn]
          exact Run.retB (Ds := []) tab_ok noX_local hB3 Tryd.func6 rfl trivial (fun M => by simp [conc, resAV, hGn, ho3])
        | succ m iha =>
          intro a ha σ ht hh
          refine Run.to ?_ ht hh (n' := 3)
          have han : a < n := by omega
          refine RunF_sound tab_ok noX_local 100 [true] _ _ rfl ?_ ?_
          · simp [hGn]; exact han
          suffices H4 : ∀ (m b : Nat), b + m = n → ∀ σ, inT σ.t [(9, .ptr 1 0), (11, .v (.slice q o.length d)), (14, .mp 2), (16, .v (.int .i64 (a : Int))), (17, .v (.int .i64 (b : Int)))] → inT σ.h [(1, .cells 34 [.vals 65 (relV G)]), (2, .map (encM .i64 .i64 L))] →
              Run ((fnP Tryd.prog 6 (Tryd.f6).ntmps w (.bool true)).rebase w3 S3) _ σ by
            exact H4 n 0 (by omega) _ ⟨rfl, rfl, rfl, rfl, rfl, trivial⟩ ⟨rfl, rfl, trivial⟩
          clear ht hh
          intro m2
          induction m2 with
          | zero =>
            intro b hb σ ht hh
            refine Run.to ?_ ht hh (n' := 3)
            obtain rfl : b = n := by omega
            refine RunF_sound tab_ok noX_local 100 [false] _ _ rfl ?_ ?_
            · simp [hGn]
            exact iha (a + 1) (by omega) _ ⟨rfl, rfl, rfl, i64_eq (wrap_succ (by omega)), trivial⟩ ⟨rfl, rfl, trivial⟩
          | succ m2 ihb =>
            intro b hb2 σ ht hh
            refine Run.to ?_ ht hh (n' := 3)
            have hbn : b < n := by omega
            have ha64 : a < 64 := by omega
            have hw := wrapn b (by omega)
            cases hab : G.has a b with
            | false =>
              refine RunF_sound tab_ok noX_local 400 [true, false] _ _ rfl ?_ ?_
              · simp [hGn, relV_get _ _ ha64, intAt_row _ _ ha64, hw]
                refine ⟨hbn, by omega, fun e => ?_⟩
                rw [bit1s] at e; rw [Rl.has, e] at hab; cases hab
              exact ihb (b + 1) (by omega) _ ⟨rfl, rfl, rfl, rfl, i64_eq (wrap_succ (by omega)), trivial⟩ ⟨rfl, rfl, trivial⟩
            | true =>
              refine RunF_sound tab_ok noX_local 400 [true, true] _ _ rfl ?_ ?_
              · simp [hGn, relV_get _ _ ha64, intAt_row _ _ ha64, hw]
                exact ⟨hbn, by omega, (bit1s _ _).2 hab⟩
              refine Run.mapAny (kv := .i64) (key := (a : Int)) tab_ok rfl rfl rfl rfl rfl rfl rfl rfl rfl rfl rfl ?_
              refine RunF_sound tab_ok noX_local 100 [] _ _ rfl ?_ ?_
              · simp
              refine Run.mapAny (kv := .i64) (key := (b : Int)) tab_ok rfl rfl rfl rfl rfl rfl rfl rfl rfl rfl rfl ?_
              have hlt := hfwd a b hab
              refine RunF_sound tab_ok noX_local 100 [false] _ _ rfl ?_ ?_
              · simp; omega
              exact ihb (b + 1) (by omega) _ ⟨rfl, rfl, rfl, rfl, i64_eq (wrap_succ (by omega)), trivial⟩ ⟨rfl, rfl, trivial⟩
theorem axiomShown_enters : Enters Tryd.prog 6 := enters_mk Tryd.func6 (by decide) rfl
end Go.Proofs.YtmammebifhmnhaaDoor

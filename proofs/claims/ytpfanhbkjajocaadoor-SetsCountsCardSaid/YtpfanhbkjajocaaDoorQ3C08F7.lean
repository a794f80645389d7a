/-
  Own work, merged: AM36, S1, S2, S3, S4, S5, AM25, T1, AM26, T2.
-/
import Derived.AtR
import Derived.Below
import Derived.ChangeKeysEq
import Derived.KernelRfl
import Derived.LaidMore
import Derived.Laws.AppendOwn
import Derived.Laws.BytesString
import Derived.Laws.Cells
import Derived.Laws.CopyRow
import Derived.Laws.Entries
import Derived.Laws.Rows
import Derived.Laws.Small
import Derived.Laws.StructEq
import Derived.Lib.LaidTab
import Derived.Lib.TrailingZeros
import Derived.MapKept
import Derived.Maps.AppendAt
import Derived.OpenShut
import Derived.Orders
import Derived.ProofKit
import Derived.RangeFuncRecord
import Derived.SevenTiedAt
import Derived.Stop.Joined
import Derived.Test.YtpfanhbkjajocaaDoorCards
import Derived.Test.YtpfanhbkjajocaaDoorProg
import Derived.Test.YtpfanhbkjajocaaDoorRows
import Derived.Test.YtpfanhbkjajocaaDoorTie
import Derived.Test.YtpfanhbkjajocaaDoorQA44A95
/-
  The abstract machine, thirty-sixth part: maps from ints to ints, owned. Own work; over any program.
-/
namespace Go.AM

abbrev encM (kk kv : IntKind) (L : List (Int × Int)) : List (Value × Value) := L.map fun p => (.int kk p.1, .int kv p.2)

abbrev pairE (e : MapEntry) : Value × Value := (e.key, e.val)

theorem findNow_none {kk kv : IntKind} {k : Int} : ∀ {L : List (Int × Int)} {es : List MapEntry} {i : Nat}, es.map pairE = encM kk kv L → (∀ p ∈ L, p.1 ≠ k) → Instr.findNow (.int kk) (.int kk k) es i = some none
  | [], [], i, _, _ => rfl
  | [], e :: es, i, h, _ => by simp at h
  | p :: L, [], i, h, _ => by simp at h
  | p :: L, e :: es, i, h, hn => by
    simp only [encM, List.map_cons, List.cons.injEq, pairE, Prod.mk.injEq] at h
    obtain ⟨⟨h1, h2⟩, h3⟩ := h
    have hne : (k == p.1) = false := by
      have := hn p (by simp)
      simp only [beq_eq_false_iff_ne, ne_eq]
      exact fun e => this e.symm
    simp only [Instr.findNow, h1, Instr.sameNow, if_true, hne]
    exact findNow_none h3 (fun q hq => hn q (by simp [hq]))

theorem findNow_at {kk kv : IntKind} {k c : Int} : ∀ {A B : List (Int × Int)} {es : List MapEntry} {i : Nat}, es.map pairE = encM kk kv (A ++ (k, c) :: B) → (∀ p ∈ A, p.1 ≠ k) → Instr.findNow (.int kk) (.int kk k) es i = some (some (i + A.length, .int kv c))
  | [], B, [], i, h, _ => by simp at h
  | p :: A, B, [], i, h, _ => by simp at h
  | [], B, e :: es, i, h, _ => by
    simp only [encM, List.nil_append, List.map_cons, List.cons.injEq, pairE, Prod.mk.injEq] at h
    obtain ⟨⟨h1, h2⟩, h3⟩ := h
    have hk : (k == k) = true := by simp
    simp only [Instr.findNow, h1, Instr.sameNow, if_true, hk, h2]
    rfl
  | p :: A, B, e :: es, i, h, hn => by
    simp only [encM, List.cons_append, List.map_cons, List.cons.injEq, pairE, Prod.mk.injEq] at h
    obtain ⟨⟨h1, h2⟩, h3⟩ := h
    have hne : (k == p.1) = false := by
      have := hn p (by simp)
      simp only [beq_eq_false_iff_ne, ne_eq]
      exact fun e => this e.symm
    simp only [Instr.findNow, h1, Instr.sameNow, if_true, hne]
    rw [findNow_at (A := A) (B := B) (c := c) h3 (fun q hq => hn q (by simp [hq]))]
    simp only [List.length_cons]
    rw [show i + 1 + A.length = i + (A.length + 1) by omega]

theorem map_modify_at {α β : Type} (g : α → β) (f : α → α) (y : β) (hf : ∀ e, g (f e) = y) : ∀ {A B : List β} {x : β} {l : List α}, l.map g = A ++ x :: B → (l.modify A.length f).map g = A ++ y :: B
  | [], B, x, [], h => by simp at h
  | [], B, x, e :: l, h => by
    simp only [List.nil_append, List.map_cons, List.cons.injEq] at h
    simp [hf, h.2]
  | a :: A, B, x, [], h => by simp at h
  | a :: A, B, x, e :: l, h => by
    simp only [List.cons_append, List.map_cons, List.cons.injEq] at h
    simp only [List.length_cons, List.modify_succ_cons, List.map_cons, List.cons_append, h.1, map_modify_at g f y hf h.2]

theorem nearly (b : Bool) (kt : TypeId) (v : Value) : Instr.checkKey b 10000 kt v = Instr.checkKey b (9999 + 1) kt v := rfl

section
variable {P : Program} {T : Tab} (hT : tabOK P T) {t kt et : TypeId} {kk kv : IntKind} {w : World} {r ck : Nat} {a : Array MapEntry} {A B L : List (Int × Int)} {k c : Int}
include hT

theorem run_check_int (hk : T.desc kt = some (.int kk)) (b : Bool) (w : World) : (Instr.checkKey b 10000 kt (.int kk k)).run P w = .ok () w := by
  rw [nearly]
  unfold Instr.checkKey
  simp only [Sem.run_bind, tab_und hT hk, Result.andThen]
  rfl

theorem run_find_at (hk : T.desc kt = some (.int kk)) (he : a.toList.map pairE = encM kk kv (A ++ (k, c) :: B)) (hA : ∀ p ∈ A, p.1 ≠ k) (w : World) : (Instr.findKey kt (.int kk k) a.toList).run P w = .ok (some (A.length, .int kv c)) w := by
  have := findNow_at (i := 0) he hA
  simp [Instr.findKey, tab_und hT hk, this]

theorem run_find_none (hk : T.desc kt = some (.int kk)) (he : a.toList.map pairE = encM kk kv L) (hA : ∀ p ∈ L, p.1 ≠ k) (w : World) : (Instr.findKey kt (.int kk k) a.toList).run P w = .ok none w := by
  have := findNow_none (i := 0) he hA
  simp [Instr.findKey, tab_und hT hk, this]

theorem run_lookup_at (ht : T.desc t = some (.map kt et)) (hk : T.desc kt = some (.int kk)) (hb : w.heap[r]? = some (.map a ck)) (he : a.toList.map pairE = encM kk kv (A ++ (k, c) :: B)) (hA : ∀ p ∈ A, p.1 ≠ k) :
    (Instr.lookup t (.map (some r)) (.int kk k) false).run P w = .ok (.int kv c) w := by
  simp [Instr.lookup, tab_und hT ht, MapKept.run_getObj_map hb, run_check_int hT hk, run_find_at hT hk he hA]

theorem run_update_new (ht : T.desc t = some (.map kt et)) (hk : T.desc kt = some (.int kk)) (hb : w.heap[r]? = some (.map a ck)) (he : a.toList.map pairE = encM kk kv L) (hA : ∀ p ∈ L, p.1 ≠ k) (v : Value) :
    (Instr.mapUpdate t (.map (some r)) (.int kk k) v).run P w = .ok () { w with heap := w.heap.setIfInBounds r (.map (a.push { key := .int kk k, val := v, born := ck }) (ck + 1)) } := by
  simp [Instr.mapUpdate, tab_und hT ht, MapKept.run_getObj_map hb, run_check_int hT hk, run_find_none hT hk he hA, MapKept.run_setObj_map _ hb]

theorem run_update_at (ht : T.desc t = some (.map kt et)) (hk : T.desc kt = some (.int kk)) (hb : w.heap[r]? = some (.map a ck)) (he : a.toList.map pairE = encM kk kv (A ++ (k, c) :: B)) (hA : ∀ p ∈ A, p.1 ≠ k) (v : Value) :
    (Instr.mapUpdate t (.map (some r)) (.int kk k) v).run P w = .ok () { w with heap := w.heap.setIfInBounds r (.map (a.modify A.length fun e => { e with key := .int kk k, val := v }) ck) } := by
  have hkey : ((a[A.length]?).map (·.key)).getD (.int kk k) = .int kk k := by
    have h1 : (a.toList.map pairE)[A.length]? = some (.int kk k, .int kv c) := by rw [he]; simp [encM]
    rw [List.getElem?_map, Array.getElem?_toList] at h1
    cases h2 : a[A.length]? with
    | none => rw [h2] at h1; cases h1
    | some e => rw [h2] at h1; simp [pairE] at h1; simp [h1.1]
  have hst : ∀ w, (Instr.keyThatStays (.int kk k) (.int kk k)).run P w = .ok (.int kk k) w := by
    intro w
    have : Instr.sameBits 10000 (.int kk k) (.int kk k) = true := by simp [Instr.sameBits]
    simp [Instr.keyThatStays, this]
  simp [Instr.mapUpdate, tab_und hT ht, MapKept.run_getObj_map hb, run_check_int hT hk, run_find_at hT hk he hA, hkey, hst, MapKept.run_setObj_map _ hb]
end

section
variable {C : Ctx} {ops : Array Oper} {i : Nat} {rest : List Nat} {k : List Item} {σ : St} {o : Oper} {T : Tab} {t kt et : TypeId} {x y z : Operand} {kk kv : IntKind} {id : Nat} {A B L : List (Int × Int)} {key c c' : Int}
  {held : List (Nat × Blk)} {n0 : Nat} {ord : List (Nat × Bool)}

theorem Rel.newAny {C : Ctx} (hL : Local C.X) {M : Loc} {fp : Nat → Prop} {σ : St} {a : Act} {w : World} (hR : Rel C M fp σ a w) (hb : σ.bel = true) {o : Obj} {B : Blk} {cap : Nat}
    (hB : BlkAt (updM M σ.nx (w.heap.size, cap)) (w.alloc o) σ.nx B) :
    Rel C (updM M σ.nx (w.heap.size, cap)) fp { σ with h := (σ.nx, B) :: σ.h, nx := σ.nx + 1 } a (w.alloc o) := by
  unfold St.bel at hb
  split at hb <;> first | (cases hb; done) | skip
  rename_i ht
  refine { toRelH := hR.toRelH.new hL hb rfl rfl rfl (by simp) (fun k hk => old_alloc w _ hk) hB, size := hR.size, frozen := hR.frozen, tmps := ?_, defers := hR.defers }
  intro i x hx
  rw [hR.tmps i x hx]
  congr 1
  exact (conc_congr (fun j hj => by simp [updM, Nat.ne_of_lt hj]) x (lk_below ht hx)).symm

theorem alloc_new (w : World) (o : Obj) : (w.alloc o).heap[w.heap.size]? = some o := World.alloc_heap_new w o

/-- A map is made. -/
theorem Run.mkMap (hL : Local C.X) (ho : ops[i]? = some o) (hop : o.op = .makeMap t none) (hw : wantOf ops σ o = some .yes) (hd : dstOK C.n o.dst = true) (hb : σ.bel = true)
    (h : Run C (.inRegion ops rest :: k) (St.put ⟨σ.t, (σ.nx, .map []) :: σ.h, σ.nx + 1⟩ o.dst (.mp σ.nx))) : Run C (.inRegion ops (i :: rest) :: k) σ := by
  intro M fp a w hR cs
  have hrun : (execOp a.eval o).run C.P w = .ok (.value (.map (some w.heap.size))) (w.alloc (.map #[] 0)) := by
    simp [execOp, hop, Instr.makeMap, newObj, Sem.run]
  have hR' := hR.newAny hL hb (cap := 0) (o := .map #[] 0) (B := .map []) ⟨#[], 0, by simp only [updM, if_true]; exact alloc_new _ _, rfl⟩
  obtain ⟨m, s, e⟩ := h _ fp _ _ (hR'.put (z := .mp σ.nx) (dstOK_lt hd)) cs
  refine ⟨m, .head (step_value ho (wantOf_yes hR.q hw) (fun c e => by rw [hop] at e; cases e) ?_) s, e⟩
  rw [hrun]
  simp [conc, updM]

/-- A map's block turned. -/
theorem Rel.setMap (hL : Local C.X) {M : Loc} {fp : Nat → Prop} {a : Act} {w : World} (hR : Rel C M fp σ a w) {es es' : List (Value × Value)} (hB : lk σ.h id = some (.map es)) {ar : Array MapEntry} {ck : Nat} (he : ar.toList.map pairE = es') :
    Rel C M fp ⟨σ.t, hset σ.h id (.map es'), σ.nx⟩ a { w with heap := w.heap.setIfInBounds (M id).1 (.map ar ck) } := by
  have hlt := (hR.heap _ _ hB).lt
  refine { toRelH := RelH.upd hL hR.toRelH hB rfl rfl rfl (by simp) (fun k hk => ?_) ⟨ar, ck, ?_, he⟩, size := hR.size, frozen := hR.frozen, tmps := hR.tmps, defers := hR.defers }
  · simp only [Array.getElem?_setIfInBounds]; rw [if_neg (Ne.symm hk)]
  · simp [hlt]

/-- A new key. -/
theorem Run.mapNew (hT : tabOK C.P T) (hL : Local C.X) (ho : ops[i]? = some o) (hop : o.op = .mapUpdate t x y z) (hdst : o.dst = none) (hx : σ.ev x = some (.mp id)) (hy : σ.ev y = some (.v (.int kk key))) (hz : σ.ev z = some (.v (.int kv c)))
    (ht : T.desc t = some (.map kt et)) (hk : T.desc kt = some (.int kk)) (hB : lk σ.h id = some (.map (encM kk kv L))) (hA : ∀ p ∈ L, p.1 ≠ key) (hw : wantOf ops σ o = some .yes)
    (h : Run C (.inRegion ops rest :: k) ⟨σ.t, hset σ.h id (.map (encM kk kv (L ++ [(key, c)]))), σ.nx⟩) : Run C (.inRegion ops (i :: rest) :: k) σ := by
  intro M fp a w hR cs
  obtain ⟨ar, ck, hb, he⟩ := hR.heap _ _ hB
  have ex := hR.q.ev hx
  have ey := hR.q.ev hy
  have ez := hR.q.ev hz
  simp only [conc] at ex ey ez
  have hrun := run_update_new hT ht hk hb he hA (.int kv c)
  obtain ⟨m, s, e⟩ := h _ fp _ _ (hR.setMap hL hB (ar := ar.push { key := .int kk key, val := .int kv c, born := ck }) (ck := ck + 1) (es' := encM kk kv (L ++ [(key, c)])) (by
    rw [Array.toList_push, List.map_append, he]; simp [encM, pairE])) cs
  refine ⟨m, .head (step_skipped (w' := { w with heap := w.heap.setIfInBounds (M id).1 (.map (ar.push { key := .int kk key, val := .int kv c, born := ck }) (ck + 1)) }) ho (wantOf_yes hR.q hw) (fun c e => by rw [hop] at e; cases e) ?_) ?_, e⟩
  · simp [execOp, hop, ex, ey, ez, hrun]
  · rw [hdst]; exact s

/-- A key that is there. -/
theorem Run.mapSet (hT : tabOK C.P T) (hL : Local C.X) (ho : ops[i]? = some o) (hop : o.op = .mapUpdate t x y z) (hdst : o.dst = none) (hx : σ.ev x = some (.mp id)) (hy : σ.ev y = some (.v (.int kk key))) (hz : σ.ev z = some (.v (.int kv c')))
    (ht : T.desc t = some (.map kt et)) (hk : T.desc kt = some (.int kk)) (hB : lk σ.h id = some (.map (encM kk kv (A ++ (key, c) :: B)))) (hA : ∀ p ∈ A, p.1 ≠ key) (hw : wantOf ops σ o = some .yes)
    (h : Run C (.inRegion ops rest :: k) ⟨σ.t, hset σ.h id (.map (encM kk kv (A ++ (key, c') :: B))), σ.nx⟩) : Run C (.inRegion ops (i :: rest) :: k) σ := by
  intro M fp a w hR cs
  obtain ⟨ar, ck, hb, he⟩ := hR.heap _ _ hB
  have ex := hR.q.ev hx
  have ey := hR.q.ev hy
  have ez := hR.q.ev hz
  simp only [conc] at ex ey ez
  have hrun := run_update_at hT ht hk hb he hA (.int kv c')
  obtain ⟨m, s, e⟩ := h _ fp _ _ (hR.setMap hL hB (ar := ar.modify A.length fun e => { e with key := .int kk key, val := .int kv c' }) (ck := ck) (es' := encM kk kv (A ++ (key, c') :: B)) (by
    rw [Array.toList_modify]
    have h2 := map_modify_at pairE (fun e => { e with key := .int kk key, val := .int kv c' }) (.int kk key, .int kv c') (fun _ => rfl) (A := encM kk kv A) (B := encM kk kv B) (x := (.int kk key, .int kv c)) (l := ar.toList) (by rw [he]; simp [encM])
    simp only [encM, List.length_map] at h2
    rw [h2]; simp [encM])) cs
  refine ⟨m, .head (step_skipped (w' := { w with heap := w.heap.setIfInBounds (M id).1 (.map (ar.modify A.length fun e => { e with key := .int kk key, val := .int kv c' }) ck) }) ho (wantOf_yes hR.q hw) (fun c e => by rw [hop] at e; cases e) ?_) ?_, e⟩
  · simp [execOp, hop, ex, ey, ez, hrun]
  · rw [hdst]; exact s

/-- A look, in a drawn region. -/
theorem RunO.mapGet (hT : tabOK C.P T) (hsel : noSel ops = true) (hbel : hBelow n0 held = true) (ho : ops[i]? = some o) (hop : o.op = .lookup t x y false) (hx : σ.ev x = some (.mp id)) (hy : σ.ev y = some (.v (.int kk key)))
    (ht : T.desc t = some (.map kt et)) (hk : T.desc kt = some (.int kk)) (hB : lk held id = some (.map (encM kk kv (A ++ (key, c) :: B)))) (hA : ∀ p ∈ A, p.1 ≠ key) (hw : wantOf ops σ o = some .yes) (hd : dstOK C.n o.dst = true)
    (h : RunO C held n0 ops ord k (σ.put o.dst (.v (.int kv c)))) : RunO C held n0 ops ((i, true) :: ord) k σ := by
  refine RunO.first hsel ho hd (fun M0 M fp a w hM hR => .inl ⟨wantOf_yes hR.q hw, (fun c e => by rw [hop] at e; cases e), fun w' hS' => ?_⟩) h
  have ex := hR.q.ev hx
  have ey := hR.q.ev hy
  simp only [conc] at ex ey
  obtain ⟨ar, ck, hb, he⟩ := (RelQ.held hR hbel hM hS').heap _ _ hB
  have hrun := run_lookup_at hT ht hk hb he hA
  simp [execOp, hop, ex, ey, hrun, conc]

/-- How many keys, in a drawn region. -/
theorem RunO.mapLen (hT : tabOK C.P T) (hsel : noSel ops = true) (hbel : hBelow n0 held = true) {cl : Call} (ho : ops[i]? = some o) (hop : o.op = .call cl) (hc : cl.callee = .builtin .len) (hca : cl.args = #[x]) (hct : cl.argTypes = #[t]) (hx : σ.ev x = some (.mp id))
    (ht : T.desc t = some (.map kt et)) {es : List (Value × Value)} (hB : lk held id = some (.map es)) (hw : wantOf ops σ o = some .yes) (hd : dstOK C.n o.dst = true)
    (h : RunO C held n0 ops ord k (σ.put o.dst (.v (.int .i64 (es.length : Nat))))) : RunO C held n0 ops ((i, true) :: ord) k σ := by
  refine RunO.first hsel ho hd (fun M0 M fp a w hM hR => .inl ⟨wantOf_yes hR.q hw, (fun c e => by rw [hop] at e; cases e), fun w' hS' => ?_⟩) h
  have ex := hR.q.ev hx
  simp only [conc] at ex
  obtain ⟨ar, ck, hb, he⟩ := (RelQ.held hR hbel hM hS').heap _ _ hB
  have hl : es.length = ar.size := by rw [← he]; simp
  have hlen : ∀ ty cs, (builtin .len #[t] ty cs #[.map (some (M id).1)]).run C.P w' = .ok (.value (.int .i64 (es.length : Nat))) w' := by
    intro ty cs
    simp [builtin, Builtin.len_, tab_und hT ht, MapKept.run_getObj_map hb, hl, goInt]
  simp [execOp, hop, resolve, hc, hca, hct, ex, invoke, hlen, conc]
end
end Go.AM

/-
  Sets of numbers below 64 in one word: plain laws. Own work; no program in sight.
-/
namespace Go.AM

theorem bit_iff' (x : BitVec 64) (k : Nat) : (x >>> k &&& 1#64) = 1#64 ↔ x.getLsbD k = true := by
  constructor
  · intro h
    have := congrArg (fun y : BitVec 64 => y.getLsbD 0) h
    simpa [BitVec.getLsbD_and, BitVec.getLsbD_ushiftRight] using this
  · intro h
    apply BitVec.eq_of_getLsbD_eq
    intro j hj
    rw [BitVec.getLsbD_and, BitVec.getLsbD_ushiftRight, BitVec.getLsbD_one]
    by_cases h0 : j = 0
    · subst h0; simpa using h
    · simp [h0]

theorem bit_eq (x : BitVec 64) (b : Int) : (band .u64 (shrI .u64 (un x) b) 1 == 1) = x.getLsbD b.toNat := by
  rw [shr_un, band1_un, Bool.eq_iff_iff, beq_iff_eq, un_eq1, bit_iff']

def inB (i : Int) : Bool := decide (0 ≤ i ∧ i < 64)
def hasB (x : BitVec 64) (i : Int) : Bool := inB i && x.getLsbD i.toNat
def withL (x : BitVec 64) (i : Int) : BitVec 64 := if 0 ≤ i ∧ i < 64 then x ||| 1#64 <<< i.toNat else x
def withoutL (x : BitVec 64) (i : Int) : BitVec 64 := if 0 ≤ i ∧ i < 64 then x &&& ~~~(1#64 <<< i.toNat) else x

theorem getLsbD_one_shl (k j : Nat) (hk : k < 64) : (1#64 <<< k).getLsbD j = decide (j = k) := by
  rw [BitVec.getLsbD_shiftLeft, BitVec.getLsbD_one]
  by_cases h : j = k
  · subst h; simp [hk]
  · by_cases h1 : j < k
    · simp [h1, h]
    · have : ¬ j - k = 0 := by omega
      simp [this, h]

theorem sub_bit (x : BitVec 64) (k : Nat) (hk : k < 64) (h : x.getLsbD k = true) : x - 1#64 <<< k = x &&& ~~~(1#64 <<< k) := by
  have h1 : (x &&& ~~~(1#64 <<< k)) &&& 1#64 <<< k = 0#64 := by
    apply BitVec.eq_of_getLsbD_eq
    intro j hj
    simp [BitVec.getLsbD_and, BitVec.getLsbD_not, getLsbD_one_shl k j hk]
  have h2 : x = (x &&& ~~~(1#64 <<< k)) + 1#64 <<< k := by
    rw [BitVec.add_eq_or_of_and_eq_zero _ _ h1]
    apply BitVec.eq_of_getLsbD_eq
    intro j hj
    rw [BitVec.getLsbD_or, BitVec.getLsbD_and, BitVec.getLsbD_not, getLsbD_one_shl k j hk]
    by_cases hjk : j = k
    · subst hjk; simp [h]
    · simp [hjk, hj]
  conv => lhs; rw [h2]
  exact BitVec.add_sub_cancel _ _

theorem without_sub (x : BitVec 64) (i : Int) : withoutL x i = if hasB x i then x - 1#64 <<< i.toNat else x := by
  unfold withoutL hasB inB
  by_cases h : 0 ≤ i ∧ i < 64
  · rw [if_pos h]
    by_cases hb : x.getLsbD i.toNat = true
    · rw [if_pos (by simp [h, hb]), sub_bit x _ (by omega) hb]
    · have hb0 : x.getLsbD i.toNat = false := by cases hc : x.getLsbD i.toNat with | false => rfl | true => exact absurd hc hb
      rw [if_neg (by rw [hb0]; simp)]
      apply BitVec.eq_of_getLsbD_eq
      intro j hj
      rw [BitVec.getLsbD_and, BitVec.getLsbD_not, getLsbD_one_shl _ j (by omega)]
      by_cases hjk : j = i.toNat
      · have hb' : x.getLsbD i.toNat = false := by cases hc : x.getLsbD i.toNat with | false => rfl | true => exact absurd hc hb
        rw [hjk, hb']; rfl
      · simp [hjk, hj]
  · rw [if_neg h, if_neg (by simp [h])]

/-- The numbers below n. -/
def lowL (n : Int) : BitVec 64 := if n < 1 then 0#64 else if n ≥ 64 then BitVec.allOnes 64 else (1#64 <<< n.toNat) - 1#64

theorem below_get (n : Int) (i : Nat) : (lowL n).getLsbD i = decide (i < 64 ∧ (i : Int) < n) := by
  unfold lowL
  split
  · rename_i h
    rw [BitVec.getLsbD_zero]; symm; apply decide_eq_false; omega
  · split
    · rename_i h
      rw [BitVec.getLsbD_allOnes]
      apply decide_eq_decide.2; omega
    · rename_i h1 h
      by_cases hi : i < 64
      · rw [BitVec.getLsbD, BitVec.toNat_sub, BitVec.toNat_shiftLeft]
        have h1 : (1#64).toNat = 1 := rfl
        rw [h1, Nat.shiftLeft_eq, Nat.one_mul]
        have hp : 2 ^ n.toNat < 2 ^ 64 := Nat.pow_lt_pow_right (by decide) (by omega)
        rw [Nat.mod_eq_of_lt hp]
        have hp1 : 0 < 2 ^ n.toNat := Nat.two_pow_pos _
        rw [show 2 ^ 64 - 1 + 2 ^ n.toNat = (2 ^ n.toNat - 1) + 2 ^ 64 by omega, Nat.add_mod_right, Nat.mod_eq_of_lt (by omega)]
        rw [Nat.testBit_two_pow_sub_one]
        apply decide_eq_decide.2; omega
      · rw [BitVec.getLsbD_of_ge _ _ (by omega)]
        symm; apply decide_eq_false; omega

theorem below_step (n : Int) (k : Nat) (hk : k < 64) (h : (k : Int) < n) : withL (lowL k) k = lowL ((k + 1 : Nat) : Int) := by
  unfold withL
  rw [if_pos (by omega)]
  apply BitVec.eq_of_getLsbD_eq
  intro j hj
  rw [BitVec.getLsbD_or, below_get, below_get, Int.toNat_natCast, getLsbD_one_shl k j hk, Bool.eq_iff_iff]
  simp only [Bool.or_eq_true, decide_eq_true_eq]
  omega

theorem below_end (n : Int) (k : Nat) (hk : k ≤ 64) (hkn : k = 0 ∨ (k : Int) ≤ n) (h : ¬ ((k : Int) < 64 ∧ (k : Int) < n)) : lowL k = lowL n := by
  apply BitVec.eq_of_getLsbD_eq
  intro j hj
  rw [below_get, below_get]
  apply decide_eq_decide.2
  omega

/-- The numbers of a set below another. -/
theorem bits_below (x : BitVec 64) (i : Int) : bitsL (x &&& lowL i) = (bitsL x).filter fun k : Nat => decide ((k : Int) < i) := by
  unfold bitsL
  rw [List.filter_filter]
  refine List.filter_congr fun k hk => ?_
  have := List.mem_range.1 hk
  rw [BitVec.getLsbD_and, below_get]
  simp only [this, true_and]
  rw [Bool.and_comm]

/-- The least number of a set from k on. -/
def nextFrom (x : BitVec 64) : Nat → Nat → Int
  | _, 0 => -1
  | k, d + 1 => if x.getLsbD k then (k : Int) else nextFrom x (k + 1) d

theorem nextFrom_low (x y : BitVec 64) (hy : y ≠ 0#64) : ∀ d k, k + d = 64 → (∀ j, y.getLsbD j = (x.getLsbD j && decide (k ≤ j))) → nextFrom x k d = (tz y : Int)
  | 0, k, hk, h => by
    have := get_tz y hy
    rw [h] at this
    have ht := tz_lt y hy
    simp at this
    omega
  | d + 1, k, hk, h => by
    rw [nextFrom]
    split
    · rename_i hb
      have h1 : y.getLsbD k = true := by rw [h, hb]; simp
      have h2 := get_low y hy k h1
      have h3 := get_tz y hy
      rw [h] at h3
      simp at h3
      congr 1; omega
    · rename_i hb
      refine nextFrom_low x y hy d (k + 1) (by omega) fun j => ?_
      rw [h]
      by_cases hjk : j = k
      · subst hjk
        have : x.getLsbD j = false := by simpa using hb
        rw [this]; simp
      · congr 1
        apply decide_eq_decide.2; omega

theorem nextFrom_none (x y : BitVec 64) (hy : y = 0#64) : ∀ d k, k + d = 64 → (∀ j, y.getLsbD j = (x.getLsbD j && decide (k ≤ j))) → nextFrom x k d = -1
  | 0, _, _, _ => rfl
  | d + 1, k, hk, h => by
    rw [nextFrom]
    have h0 := h k
    rw [hy, BitVec.getLsbD_zero] at h0
    rw [if_neg (by intro hb; rw [hb] at h0; simp at h0)]
    refine nextFrom_none x y hy d (k + 1) (by omega) fun j => ?_
    rw [h]
    by_cases hjk : j = k
    · subst hjk
      have : x.getLsbD j = false := by simpa using h0.symm
      rw [this]; simp
    · congr 1
      apply decide_eq_decide.2; omega

theorem nextFrom_ge (x : BitVec 64) (k : Nat) (h : 64 ≤ k) (d : Nat) : nextFrom x k d = -1 := by
  induction d generalizing k with
  | zero => rfl
  | succ d ih => rw [nextFrom, BitVec.getLsbD_of_ge _ _ h, if_neg (by simp), ih (k + 1) (by omega)]

/-- What Next answers. -/
def nextL (x : BitVec 64) (i : Int) : Int := if x &&& ~~~(lowL i) = 0#64 then -1 else (tz (x &&& ~~~(lowL i)) : Int)

theorem next_eq (x : BitVec 64) (i : Int) : nextL x i = nextFrom x (if i > 0 then i else 0).toNat (64 - (if i > 0 then i else 0).toNat) := by
  obtain ⟨k, hk⟩ : ∃ k : Nat, (if i > 0 then i else 0).toNat = k := ⟨_, rfl⟩
  rw [hk]
  have hg : ∀ j, (x &&& ~~~(lowL i)).getLsbD j = (x.getLsbD j && decide (k ≤ j)) := by
    intro j
    rw [BitVec.getLsbD_and, BitVec.getLsbD_not, below_get]
    by_cases hj : j < 64
    · congr 1
      rw [Bool.eq_iff_iff]
      simp only [hj, true_and, decide_true, Bool.true_and, Bool.not_eq_true', decide_eq_false_iff_not, decide_eq_true_eq]
      split at hk <;> omega
    · rw [BitVec.getLsbD_of_ge x j (by omega)]; simp
  unfold nextL
  by_cases h64 : 64 ≤ k
  · rw [nextFrom_ge x k h64]
    rw [if_pos]
    apply BitVec.eq_of_getLsbD_eq
    intro j hj
    rw [hg, BitVec.getLsbD_zero]
    have : ¬ k ≤ j := by omega
    simp [this]
  · split
    · rename_i h; exact (nextFrom_none x _ h _ k (by omega) hg).symm
    · rename_i h; exact (nextFrom_low x _ h _ k (by omega) hg).symm

/-- The number of a set that has k others below it. -/
def atL (x : BitVec 64) (k : Int) : Int := if k < 0 then -1 else match (bitsL x)[k.toNat]? with | some i => (i : Int) | none => -1

/-- The bits from a place on. -/
def bitsFrom (x : BitVec 64) (i d : Nat) : List Nat := (List.range' i d).filter fun j => x.getLsbD j
theorem bitsFrom_all (x : BitVec 64) : bitsFrom x 0 64 = bitsL x := by unfold bitsFrom bitsL; rw [List.range_eq_range']
theorem bitsFrom_succ (x : BitVec 64) (i d : Nat) : bitsFrom x i (d + 1) = (if x.getLsbD i then [i] else []) ++ bitsFrom x (i + 1) d := by
  unfold bitsFrom
  rw [List.range'_succ, List.filter_cons]
  split <;> rfl
end Go.AM

/-
  The plain functions of sets and of its reference: Has, With, Without, Below, Next. Own work.
-/
namespace Go.Proofs.YtpfanhbkjajocaaDoor
open Go.AM
set_option maxRecDepth 100000

theorem right_ok (i : Int) (w : World) : Gives Tryd.prog 60 [.int .i64 i] w (.bool (inB i)) := by
  refine Gives.of_run Tryd.func60 rfl (by show 1 ≤ 9; decide) ?_
  by_cases h : 0 ≤ i
  · refine RunF_sound tab_ok noX_local 100 [true] _ _ rfl ?_ ?_
    · simp [h]
    · refine Run.retP tab_ok Tryd.func60 rfl trivial (fun M => ?_)
      simp [resAV, conc, inB, h]
  · refine RunF_sound tab_ok noX_local 100 [false] _ _ rfl ?_ ?_
    · simp [h]
    · refine Run.retP tab_ok Tryd.func60 rfl trivial (fun M => ?_)
      simp [resAV, conc, inB, h]
theorem right_enters : Enters Tryd.prog 60 := enters_mk Tryd.func60 (by decide) rfl

theorem inB_iff (i : Int) : inB i = true ↔ 0 ≤ i ∧ i < 64 := by simp [inB]

theorem has_ok (x : BitVec 64) (i : Int) (w : World) : Gives Tryd.prog 13 [.int .u64 (un x), .int .i64 i] w (.bool (hasB x i)) := by
  refine Gives.of_run Tryd.func13 rfl (by show 2 ≤ 14; decide) ?_
  refine RunF_sound tab_ok noX_local 100 [] _ _ rfl ?_ ?_
  · simp
  refine Run.callFn noX_local rfl rfl rfl rfl rfl rfl rfl right_enters rfl (fun w' _ => right_ok i w') ?_
  by_cases h : inB i = true
  · have := (inB_iff i).1 h
    refine RunF_sound tab_ok noX_local 100 [true] _ _ rfl ?_ ?_
    · simp [h]; omega
    · refine Run.retP tab_ok Tryd.func13 rfl trivial (fun M => ?_)
      show Value.bool _ = _
      rw [bit_eq, hasB, h]; rfl
  · have h' : inB i = false := by simpa using h
    refine RunF_sound tab_ok noX_local 100 [false] _ _ rfl ?_ ?_
    · simp [h']
    · refine Run.retP tab_ok Tryd.func13 rfl trivial (fun M => ?_)
      rw [hasB, h']; rfl
theorem has_enters : Enters Tryd.prog 13 := enters_mk Tryd.func13 (by decide) rfl

theorem wrap_small (i : Int) (h : 0 ≤ i) (h' : i < 64) : IntKind.u64.wrap i = i := wrap_u64 h (by omega)

theorem hasR_ok (x : BitVec 64) (i : Int) (w : World) : Gives Tryd.prog 14 [.int .u64 (un x), .int .i64 i] w (.bool (hasB x i)) := by
  refine Gives.of_run Tryd.func14 rfl (by show 2 ≤ 19; decide) ?_
  by_cases h : 0 ≤ i
  · by_cases h' : i < 64
    · refine RunF_sound tab_ok noX_local 100 [true, true] _ _ rfl ?_ ?_
      · simp [h, h', wrap_small i h h']
      · refine Run.retP tab_ok Tryd.func14 rfl trivial (fun M => ?_)
        show Value.bool _ = _
        rw [wrap_small i h h', bit_eq, hasB, (inB_iff i).2 ⟨h, h'⟩]; rfl
    · refine RunF_sound tab_ok noX_local 100 [true, false] _ _ rfl ?_ ?_
      · simp [h, h']
      · refine Run.retP tab_ok Tryd.func14 rfl trivial (fun M => ?_)
        simp [resAV, conc, hasB, inB, h']
  · refine RunF_sound tab_ok noX_local 100 [false] _ _ rfl ?_ ?_
    · simp [h]
    · refine Run.retP tab_ok Tryd.func14 rfl trivial (fun M => ?_)
      simp [resAV, conc, hasB, inB, h]
theorem hasR_enters : Enters Tryd.prog 14 := enters_mk Tryd.func14 (by decide) rfl

theorem with_ok (x : BitVec 64) (i : Int) (w : World) : Gives Tryd.prog 15 [.int .u64 (un x), .int .i64 i] w (.int .u64 (un (withL x i))) := by
  refine Gives.of_run Tryd.func15 rfl (by show 2 ≤ 12; decide) ?_
  refine RunF_sound tab_ok noX_local 100 [] _ _ rfl ?_ ?_
  · simp
  refine Run.callFn noX_local rfl rfl rfl rfl rfl rfl rfl right_enters rfl (fun w' _ => right_ok i w') ?_
  by_cases h : inB i = true
  · have h1 := (inB_iff i).1 h
    refine RunF_sound tab_ok noX_local 100 [true] _ _ rfl ?_ ?_
    · simp [h]; omega
    · refine Run.retP tab_ok Tryd.func15 rfl trivial (fun M => ?_)
      show Value.int _ _ = _
      rw [shl1_un, bor_un, withL, if_pos h1]
  · have h1 : ¬ (0 ≤ i ∧ i < 64) := fun e => h ((inB_iff i).2 e)
    refine RunF_sound tab_ok noX_local 100 [false] _ _ rfl ?_ ?_
    · simpa using h
    · refine Run.retP tab_ok Tryd.func15 rfl trivial (fun M => ?_)
      rw [withL, if_neg h1]; rfl
theorem with_enters : Enters Tryd.prog 15 := enters_mk Tryd.func15 (by decide) rfl

theorem withR_ok (x : BitVec 64) (i : Int) (w : World) : Gives Tryd.prog 16 [.int .u64 (un x), .int .i64 i] w (.int .u64 (un (withL x i))) := by
  refine Gives.of_run Tryd.func16 rfl (by show 2 ≤ 17; decide) ?_
  by_cases h : i < 0
  · refine RunF_sound tab_ok noX_local 100 [true, true] _ _ rfl ?_ ?_
    · simp [h]
    · refine Run.retP tab_ok Tryd.func16 rfl trivial (fun M => ?_)
      rw [withL, if_neg (by omega)]; rfl
  · by_cases h' : i > 63
    · refine RunF_sound tab_ok noX_local 100 [false, true] _ _ rfl ?_ ?_
      · simp; omega
      · refine Run.retP tab_ok Tryd.func16 rfl trivial (fun M => ?_)
        rw [withL, if_neg (by omega)]; rfl
    · refine RunF_sound tab_ok noX_local 100 [false, false] _ _ rfl ?_ ?_
      · simp [wrap_small i (by omega) (by omega)]; omega
      · refine Run.retP tab_ok Tryd.func16 rfl trivial (fun M => ?_)
        show Value.int _ _ = _
        rw [wrap_small i (by omega) (by omega), shl1_un, bor_un, withL, if_pos (by omega)]
theorem withR_enters : Enters Tryd.prog 16 := enters_mk Tryd.func16 (by decide) rfl

theorem without_ok (x : BitVec 64) (i : Int) (w : World) : Gives Tryd.prog 17 [.int .u64 (un x), .int .i64 i] w (.int .u64 (un (withoutL x i))) := by
  refine Gives.of_run Tryd.func17 rfl (by show 2 ≤ 12; decide) ?_
  refine RunF_sound tab_ok noX_local 100 [] _ _ rfl ?_ ?_
  · simp
  refine Run.callFn noX_local rfl rfl rfl rfl rfl rfl rfl right_enters rfl (fun w' _ => right_ok i w') ?_
  by_cases h : inB i = true
  · have h1 := (inB_iff i).1 h
    refine RunF_sound tab_ok noX_local 100 [true] _ _ rfl ?_ ?_
    · simp [h]; omega
    · refine Run.retP tab_ok Tryd.func17 rfl trivial (fun M => ?_)
      show Value.int _ _ = _
      rw [shl1_un, bandn_un, withoutL, if_pos h1]
  · have h1 : ¬ (0 ≤ i ∧ i < 64) := fun e => h ((inB_iff i).2 e)
    refine RunF_sound tab_ok noX_local 100 [false] _ _ rfl ?_ ?_
    · simpa using h
    · refine Run.retP tab_ok Tryd.func17 rfl trivial (fun M => ?_)
      rw [withoutL, if_neg h1]; rfl
theorem without_enters : Enters Tryd.prog 17 := enters_mk Tryd.func17 (by decide) rfl

theorem withoutR_ok (x : BitVec 64) (i : Int) (w : World) : Gives Tryd.prog 18 [.int .u64 (un x), .int .i64 i] w (.int .u64 (un (withoutL x i))) := by
  refine Gives.of_run Tryd.func18 rfl (by show 2 ≤ 14; decide) ?_
  refine RunF_sound tab_ok noX_local 100 [] _ _ rfl ?_ ?_
  · simp
  refine Run.callFn noX_local rfl rfl rfl rfl rfl rfl rfl hasR_enters rfl (fun w' _ => hasR_ok x i w') ?_
  rw [without_sub]
  by_cases h : hasB x i = true
  · have h1 : 0 ≤ i ∧ i < 64 := by
      have := h; simp only [hasB, Bool.and_eq_true] at this; exact (inB_iff i).1 this.1
    refine RunF_sound tab_ok noX_local 100 [true] _ _ rfl ?_ ?_
    · simp [h, wrap_small i h1.1 h1.2]; omega
    · refine Run.retP tab_ok Tryd.func18 rfl trivial (fun M => ?_)
      show Value.int _ _ = _
      rw [wrap_small i h1.1 h1.2, shl1_un, sub_un, if_pos h]
  · refine RunF_sound tab_ok noX_local 100 [false] _ _ rfl ?_ ?_
    · simpa using h
    · refine Run.retP tab_ok Tryd.func18 rfl trivial (fun M => ?_)
      rw [if_neg h]; rfl
theorem withoutR_enters : Enters Tryd.prog 18 := enters_mk Tryd.func18 (by decide) rfl

theorem below_ok (n : Int) (w : World) : Gives Tryd.prog 27 [.int .i64 n] w (.int .u64 (un (lowL n))) := by
  refine Gives.of_run Tryd.func27 rfl (by show 1 ≤ 12; decide) ?_
  by_cases h1 : n < 1
  · refine RunF_sound tab_ok noX_local 100 [true] _ _ rfl ?_ ?_
    · simp [h1]
    · refine Run.retP tab_ok Tryd.func27 rfl trivial (fun M => ?_)
      rw [lowL, if_pos h1]; rfl
  · by_cases h2 : n ≥ 64
    · refine RunF_sound tab_ok noX_local 100 [false, true] _ _ rfl ?_ ?_
      · simp; omega
      · refine Run.retP tab_ok Tryd.func27 rfl trivial (fun M => ?_)
        rw [lowL, if_neg h1, if_pos h2]; rfl
    · refine RunF_sound tab_ok noX_local 100 [false, false] _ _ rfl ?_ ?_
      · simp; omega
      · refine Run.retP tab_ok Tryd.func27 rfl trivial (fun M => ?_)
        show Value.int _ _ = _
        rw [shl1_un, sub1_un, lowL, if_neg h1, if_neg h2]
theorem below_enters : Enters Tryd.prog 27 := enters_mk Tryd.func27 (by decide) rfl

theorem belowR_ok (n : Int) (w : World) : Gives Tryd.prog 28 [.int .i64 n] w (.int .u64 (un (lowL n))) := by
  refine Gives.of_run Tryd.func28 rfl (by show 1 ≤ 18; decide) ?_
  refine RunF_sound tab_ok noX_local 100 [] _ _ rfl ?_ ?_
  · simp
  suffices H : ∀ (d k : Nat), k + d = 64 → (k = 0 ∨ (k : Int) ≤ n) → ∀ σ, inT σ.t [(0, .v (.int .i64 n)), (3, .v (.int .u64 (un (lowL k)))), (4, .v (.int .i64 (k : Int)))] → inT σ.h [] → Run _ _ σ by
    exact H 64 0 rfl (.inl rfl) _ ⟨rfl, rfl, rfl, trivial⟩ trivial
  intro d
  induction d with
  | zero =>
    intro k hk hkn σ ht hh
    refine Run.to ?_ ht hh (n' := 0)
    refine RunF_sound tab_ok noX_local 100 [false, false] _ _ rfl ?_ ?_
    · simp; omega
    · refine Run.retP tab_ok Tryd.func28 rfl trivial (fun M => ?_)
      rw [← below_end n k (by omega) hkn (by omega)]; rfl
  | succ d ih =>
    intro k hk hkn σ ht hh
    refine Run.to ?_ ht hh (n' := 0)
    by_cases c : (k : Int) < n
    · refine RunF_sound tab_ok noX_local 100 [true, true, true] _ _ rfl ?_ ?_
      · simp; omega
      refine Run.callFn noX_local rfl rfl rfl rfl rfl rfl rfl withR_enters rfl (fun w' _ => withR_ok (lowL k) k w') ?_
      refine RunF_sound tab_ok noX_local 100 [] _ _ rfl ?_ ?_
      · simp
      rw [below_step n k (by omega) c]
      exact ih (k + 1) (by omega) (.inr (by omega)) _ ⟨rfl, rfl, i64_eq (wrap_succ (by omega)), trivial⟩ trivial
    · refine RunF_sound tab_ok noX_local 100 [true, false] _ _ rfl ?_ ?_
      · simp; omega
      · refine Run.retP tab_ok Tryd.func28 rfl trivial (fun M => ?_)
        rw [← below_end n k (by omega) hkn (by omega)]; rfl
theorem belowR_enters : Enters Tryd.prog 28 := enters_mk Tryd.func28 (by decide) rfl

theorem size_ok (x : BitVec 64) (w : World) : Gives Tryd.prog 19 [.int .u64 (un x)] w (.int .i64 ((bitsL x).length : Int)) := by
  refine Gives.of_run Tryd.func19 rfl (by show 1 ≤ 5; decide) ?_
  refine RunF_sound tab_ok noX_local 100 [] _ _ rfl ?_ ?_
  · simp
  refine Run.callFn noX_local rfl rfl rfl rfl rfl rfl rfl ones_enters rfl (fun w' _ => ones_ok x w') ?_
  refine RunF_sound tab_ok noX_local 100 [] _ _ rfl ?_ ?_
  · simp
  exact Run.retP tab_ok Tryd.func19 rfl trivial (fun M => rfl)
theorem size_enters : Enters Tryd.prog 19 := enters_mk Tryd.func19 (by decide) rfl

theorem rank_ok (x : BitVec 64) (i : Int) (w : World) : Gives Tryd.prog 25 [.int .u64 (un x), .int .i64 i] w (.int .i64 (((bitsL x).filter fun k : Nat => decide ((k : Int) < i)).length : Int)) := by
  refine Gives.of_run Tryd.func25 rfl (by show 2 ≤ 10; decide) ?_
  refine RunF_sound tab_ok noX_local 100 [] _ _ rfl ?_ ?_
  · simp
  refine Run.callFn noX_local rfl rfl rfl rfl rfl rfl rfl below_enters rfl (fun w' _ => below_ok i w') ?_
  refine RunF_sound tab_ok noX_local 100 [] _ _ rfl ?_ ?_
  · simp
  rw [band_un, ← bits_below]
  refine Run.callFn noX_local rfl rfl rfl rfl rfl rfl rfl size_enters rfl (fun w' _ => size_ok (x &&& lowL i) w') ?_
  refine RunF_sound tab_ok noX_local 100 [] _ _ rfl ?_ ?_
  · simp
  exact Run.retP tab_ok Tryd.func25 rfl trivial (fun M => rfl)
theorem rank_enters : Enters Tryd.prog 25 := enters_mk Tryd.func25 (by decide) rfl

theorem next_ok (x : BitVec 64) (i : Int) (w : World) (hT : TabAt w) : Gives Tryd.prog 21 [.int .u64 (un x), .int .i64 i] w (.int .i64 (nextL x i)) := by
  refine Gives.of_run Tryd.func21 rfl (by show 2 ≤ 13; decide) ?_
  refine RunF_sound tab_ok noX_local 100 [] _ _ rfl ?_ ?_
  · simp
  refine Run.callFn noX_local rfl rfl rfl rfl rfl rfl rfl below_enters rfl (fun w' _ => below_ok i w') ?_
  by_cases h : x &&& ~~~(lowL i) = 0#64
  · refine RunF_sound tab_ok noX_local 100 [true] _ _ rfl ?_ ?_
    · simp [h]
    · refine Run.retP tab_ok Tryd.func21 rfl trivial (fun M => ?_)
      rw [nextL, if_pos h]; rfl
  · refine RunF_sound tab_ok noX_local 100 [false] _ _ rfl ?_ ?_
    · simp [h]
    rw [bandn_un]
    refine Run.callFn noX_local rfl rfl rfl rfl rfl rfl rfl tz_enters rfl (fun w' hA => tz_ok (x &&& ~~~(lowL i)) w' (hT.agree hA (fun f => f))) ?_
    refine RunF_sound tab_ok noX_local 100 [] _ _ rfl ?_ ?_
    · simp
    refine Run.retP tab_ok Tryd.func21 rfl trivial (fun M => ?_)
    rw [nextL, if_neg h]
    show Value.int _ (tzI _) = _
    rw [tzI, if_neg h]
theorem next_enters : Enters Tryd.prog 21 := enters_mk Tryd.func21 (by decide) rfl

theorem nextR_ok (x : BitVec 64) (i : Int) (hi : i ≤ 9223372036854775807) (w : World) : Gives Tryd.prog 22 [.int .u64 (un x), .int .i64 i] w (.int .i64 (nextL x i)) := by
  refine Gives.of_run Tryd.func22 rfl (by show 2 ≤ 16; decide) ?_
  rw [next_eq]
  refine RunF_sound tab_ok noX_local 100 [] _ _ rfl ?_ ?_
  · simp
  obtain ⟨k0, hk0⟩ : ∃ k : Nat, (if i > 0 then i else 0) = (k : Int) := ⟨(if i > 0 then i else 0).toNat, by split <;> omega⟩
  rw [hk0, Int.toNat_natCast]
  generalize hV : nextFrom x k0 (64 - k0) = V
  suffices H : ∀ (d k : Nat), (k : Int) ≤ 9223372036854775807 → 64 - k = d → nextFrom x k d = V → ∀ σ, inT σ.t [(0, .v (.int .u64 (un x))), (5, .v (.int .i64 (k : Int)))] → inT σ.h [] → Run _ _ σ by
    exact H (64 - k0) k0 (by split at hk0 <;> omega) rfl hV _ ⟨rfl, rfl, trivial⟩ trivial
  intro d
  induction d with
  | zero =>
    intro k hk2 hk hv σ ht hh
    refine Run.to ?_ ht hh (n' := 0)
    refine RunF_sound tab_ok noX_local 100 [false] _ _ rfl ?_ ?_
    · simp; omega
    · refine Run.retP tab_ok Tryd.func22 rfl trivial (fun M => ?_)
      rw [← hv]; rfl
  | succ d ih =>
    intro k hk2 hk hv σ ht hh
    refine Run.to ?_ ht hh (n' := 0)
    refine RunF_sound tab_ok noX_local 100 [true] _ _ rfl ?_ ?_
    · simp; omega
    refine Run.callFn noX_local rfl rfl rfl rfl rfl rfl rfl hasR_enters rfl (fun w' _ => hasR_ok x k w') ?_
    have hb : hasB x (k : Int) = x.getLsbD k := by
      rw [hasB, (inB_iff _).2 (by omega)]; simp
    rw [nextFrom] at hv
    by_cases c : x.getLsbD k = true
    · refine RunF_sound tab_ok noX_local 100 [true] _ _ rfl ?_ ?_
      · simp [hb, c]
      · refine Run.retP tab_ok Tryd.func22 rfl trivial (fun M => ?_)
        rw [← hv, if_pos c]; rfl
    · refine RunF_sound tab_ok noX_local 100 [false] _ _ rfl ?_ ?_
      · simpa [hb] using c
      rw [if_neg c] at hv
      exact ih (k + 1) (by omega) (by omega) hv _ ⟨rfl, i64_eq (wrap_succ (by omega)), trivial⟩ trivial
theorem nextR_enters : Enters Tryd.prog 22 := enters_mk Tryd.func22 (by decide) rfl
end Go.Proofs.YtpfanhbkjajocaaDoor

/-
  The reference's List, Size, At, Rank. Own work.
-/
namespace Go.Proofs.YtpfanhbkjajocaaDoor
open Go.AM
set_option maxRecDepth 100000

def encI (l : List Int) : List Value := l.map (Value.int .i64)

/-- A slice of ints, as it lies in a world. -/
def SeesI (w : World) (p : Option Addr) (xs : List Int) : Prop :=
  ∀ i (h : i < xs.length), p = some (p.getD default) ∧ w.cell? ((p.getD default).add i) = some (.int .i64 xs[i])

theorem SeesI.agree {S : Nat → Prop} {w w' : World} {p : Option Addr} {xs : List Int} (h : SeesI w p xs) (hA : Agree S w w') (hS : ∀ a, p = some a → ¬ S a.block) : SeesI w' p xs := by
  intro i hi
  obtain ⟨h1, h2⟩ := h i hi
  exact ⟨h1, hA.cell h2 (by rw [add_block]; exact hS _ h1)⟩

theorem seesI_row {M : AM.Loc} {w : World} {id e n : Nat} {l : List Int} (hb : BlkAt M w id (.row e 1 n (encI l))) : SeesI w (some ⟨(M id).1, 0, none⟩) l := by
  intro i hi
  have := row_cells hb i (.int .i64 l[i]) (by simp [encI, hi])
  refine ⟨rfl, ?_⟩
  rw [Option.getD_some, Addr.add_lit]
  exact this

/-- A slice of ints that was made behind a world. -/
def NewI (w : World) (xs : List Int) (v : Value) (w' : World) : Prop := ∃ p c, v = .slice p xs.length c ∧ xs.length ≤ c ∧ SeesI w' p xs ∧ ∀ a, p = some a → w.heap.size ≤ a.block ∧ a.block < w'.heap.size

theorem newI_nil (w w' : World) : NewI w [] (.slice none 0 0) w' := ⟨none, 0, rfl, Nat.le_refl _, fun i hi => absurd hi (Nat.not_lt_zero _), fun a h => by cases h⟩

theorem newI_row {P : Program} {f : FuncId} {nt : Nat} {w : World} {X : Res} {R : Value → World → Prop} {M : AM.Loc} {fp : Foot} {σ : St} {a : Act} {w' : World} {id n : Nat} {l : List Int}
    (hr : Rel (fnC P f nt w (fun _ => False) X R) M fp σ a w') (hB : lk σ.h id = some (.row 3 1 n (encI l))) (hl : l.length = n) : NewI w l (conc M (.sl id 1 0 n)) w' := by
  refine ⟨some ⟨(M id).1, 0, none⟩, (M id).2 - 0, ?_, ?_, seesI_row (hr.heap id _ hB), ?_⟩
  · rw [hl]; simp [conc]
  · obtain ⟨_, _, _, hc, _⟩ := hr.heap id _ hB; rw [hl]; exact hc
  · intro a ha
    cases ha
    refine ⟨?_, (hr.heap id _ hB).lt⟩
    rcases Nat.lt_or_ge (M id).1 w.heap.size with h | h
    · exact (hr.own id _ hB h).elim
    · exact h

def lstV : Nat → AV
  | 0 => .v (.slice none 0 0)
  | k + 1 => .sl 9 1 0 (k + 1)
def lstB (l : List Int) : Nat → List (Nat × Blk)
  | 0 => []
  | k + 1 => [(9, .row 3 1 (k + 1) (encI l))]

theorem encI_app (l : List Int) (n : Nat) (hl : l.length = n) (x : Int) : (encI l).take (n * 1) ++ [.int .i64 x] = encI (l ++ [x]) := by
  rw [List.take_of_length_le (by simp [encI, hl])]; simp [encI]

/-- A set's numbers, as ints. -/
def listL (x : BitVec 64) : List Int := (bitsL x).map fun k : Nat => (k : Int)
def listFrom (x : BitVec 64) (i d : Nat) : List Int := (bitsFrom x i d).map fun k : Nat => (k : Int)
theorem listFrom_succ (x : BitVec 64) (i d : Nat) : listFrom x i (d + 1) = (if x.getLsbD i then [(i : Int)] else []) ++ listFrom x (i + 1) d := by
  unfold listFrom
  rw [bitsFrom_succ, List.map_append]
  split <;> rfl
theorem listL_len (x : BitVec 64) : (listL x).length = (bitsL x).length := by simp [listL]
theorem listL_le (x : BitVec 64) : (listL x).length ≤ 64 := by rw [listL_len]; exact bitsL_len_le x

theorem listR_ok (x : BitVec 64) (w : World) : Makes Tryd.prog 30 [.int .u64 (un x)] w (NewI w (listL x)) := by
  refine Makes.of_run Tryd.func30 rfl (by show 1 ≤ 17; decide) ?_
  refine RunF_sound tab_ok noX_local 100 [] _ _ rfl ?_ ?_
  · simp
  generalize hL : listL x = L
  have hLn : L.length ≤ 64 := by rw [← hL]; exact listL_le x
  suffices H : ∀ (d k n : Nat) (l : List Int), l.length = n → k + d = 64 → L = l ++ listFrom x k d →
      Run _ _ ⟨[(0, .v (.int .u64 (un x))), (3, lstV n), (4, .v (.int .i64 (k : Int)))], lstB l n, 10⟩ by
    refine Run.to (H 64 0 0 [] rfl rfl ?_) ⟨rfl, rfl, rfl, trivial⟩ trivial
    rw [← hL, List.nil_append, listL, listFrom, bitsFrom_all]
  intro d
  induction d with
  | zero =>
    intro k n l hln hk hl
    have hl' : L = l := by rw [hl]; simp [listFrom, bitsFrom]
    subst hl'
    cases n with
    | zero =>
      refine RunF_sound tab_ok noX_local 100 [false] _ _ rfl ?_ ?_
      · simp; omega
      have h0 : L = [] := List.length_eq_zero_iff.1 hln
      subst h0
      exact Run.ret tab_ok Tryd.func30 rfl trivial fun M fp a w' hr => ⟨hr.agree, newI_nil _ _⟩
    | succ n =>
      refine RunF_sound tab_ok noX_local 100 [false] _ _ rfl ?_ ?_
      · simp; omega
      exact Run.ret tab_ok Tryd.func30 rfl trivial fun M fp a w' hr => ⟨hr.agree, newI_row hr rfl hln⟩
  | succ d ih =>
    intro k n l hln hk hl
    have hnl : n ≤ 64 := by
      have := congrArg List.length hl
      rw [List.length_append, hln] at this
      omega
    refine RunF_sound tab_ok noX_local 100 [true] _ _ rfl ?_ ?_
    · simp; omega
    refine Run.callFn noX_local rfl rfl rfl rfl rfl rfl rfl hasR_enters rfl (fun w' _ => hasR_ok x k w') ?_
    have hb : hasB x (k : Int) = x.getLsbD k := by
      rw [hasB, (inB_iff _).2 (by omega)]; simp
    rw [listFrom_succ] at hl
    by_cases c : x.getLsbD k = true
    · rw [if_pos c] at hl
      cases n with
      | zero =>
        refine RunF_sound tab_ok noX_local 100 [true] _ _ rfl ?_ ?_
        · simp [hb, c, maxLen, fillL, repL, splice, Value.cells, Value.oneCell']
        refine Run.toR [(9, 11)] (ih (k + 1) 1 (l ++ [(k : Int)]) (by simp [hln]) (by omega) (by rw [hl]; simp)) ⟨rfl, rfl, i64_eq (wrap_succ (by omega)), trivial⟩ ⟨?_, trivial⟩ rfl
        refine congrArg (fun l => some (Blk.row 3 1 1 l)) ?_
        have : l = [] := List.length_eq_zero_iff.1 hln
        subst this
        rfl
      | succ n =>
        refine RunF_sound tab_ok noX_local 100 [true] _ _ rfl ?_ ?_
        · simp [hb, c, maxLen, fillL, repL, splice, Value.cells, Value.oneCell']; omega
        refine Run.toR [(9, 11)] (ih (k + 1) (n + 2) (l ++ [(k : Int)]) (by simp [hln]) (by omega) (by rw [hl]; simp)) ⟨rfl, rfl, i64_eq (wrap_succ (by omega)), trivial⟩ ⟨?_, trivial⟩ rfl
        refine congrArg (fun l => some (Blk.row 3 1 (n + 2) l)) ?_
        exact encI_app l (n + 1) hln (k : Int)
    · rw [if_neg c, List.nil_append] at hl
      refine RunF_sound tab_ok noX_local 100 [false] _ _ rfl ?_ ?_
      · simpa [hb] using c
      refine Run.to (ih (k + 1) n l hln (by omega) hl) ⟨rfl, rfl, i64_eq (wrap_succ (by omega)), trivial⟩ ?_
      cases n <;> first | trivial | exact ⟨rfl, trivial⟩
theorem listR_enters : Enters Tryd.prog 30 := enters_mk Tryd.func30 (by decide) rfl

theorem sizeR_ok (x : BitVec 64) (w : World) : Gives Tryd.prog 20 [.int .u64 (un x)] w (.int .i64 ((bitsL x).length : Int)) := by
  refine Gives.of_run Tryd.func20 rfl (by show 1 ≤ 6; decide) ?_
  refine RunF_sound tab_ok noX_local 100 [] _ _ rfl ?_ ?_
  · simp
  refine Run.callR noX_local rfl rfl rfl rfl rfl rfl listR_enters rfl (fun M w' _ _ => listR_ok x w') ?_
  rintro v w2 w1 S1 hag hag2 ⟨p, c, rfl, hc, hs, hnew⟩ hS1
  have hB1 := (Based.refl w).call hag hag2 hS1
  refine ⟨.v (.slice p (listL x).length c), fun M => rfl, ?_⟩
  refine RunF_sound tab_ok noX_local 100 [] _ _ rfl ?_ ?_
  · simp
  refine Run.retB (Ds := []) tab_ok noX_local hB1 Tryd.func20 rfl trivial (fun M => ?_)
  rw [← listL_len]; rfl
theorem sizeR_enters : Enters Tryd.prog 20 := enters_mk Tryd.func20 (by decide) rfl

theorem atL_list (x : BitVec 64) (k : Int) (h0 : 0 ≤ k) (h : k.toNat < (listL x).length) : (listL x)[k.toNat] = atL x k := by
  unfold atL
  rw [if_neg (by omega)]
  have h' : k.toNat < (bitsL x).length := by rw [← listL_len]; exact h
  rw [List.getElem?_eq_getElem h']
  simp [listL]

theorem atL_none (x : BitVec 64) (k : Int) (h : k < 0 ∨ k ≥ ((listL x).length : Int)) : atL x k = -1 := by
  unfold atL
  split
  · rfl
  · rw [listL_len] at h
    rw [List.getElem?_eq_none (by omega)]

theorem atR_ok (x : BitVec 64) (k : Int) (w : World) : Gives Tryd.prog 24 [.int .u64 (un x), .int .i64 k] w (.int .i64 (atL x k)) := by
  refine Gives.of_run Tryd.func24 rfl (by show 2 ≤ 20; decide) ?_
  refine RunF_sound tab_ok noX_local 100 [] _ _ rfl ?_ ?_
  · simp
  refine Run.callR noX_local rfl rfl rfl rfl rfl rfl listR_enters rfl (fun M w' _ _ => listR_ok x w') ?_
  rintro v w2 w1 S1 hag hag2 ⟨p, c, rfl, hc, hs, hnew⟩ hS1
  have hB1 := (Based.refl w).call hag hag2 hS1
  refine ⟨.v (.slice p (listL x).length c), fun M => rfl, ?_⟩
  by_cases h1 : k < 0
  · refine RunF_sound tab_ok noX_local 100 [true, true] _ _ rfl ?_ ?_
    · simp [h1]
    refine Run.retB (Ds := []) tab_ok noX_local hB1 Tryd.func24 rfl trivial (fun M => ?_)
    rw [atL_none x k (.inl h1)]; rfl
  · by_cases h2 : k ≥ ((listL x).length : Int)
    · refine RunF_sound tab_ok noX_local 100 [false, true] _ _ rfl ?_ ?_
      · simp; omega
      refine Run.retB (Ds := []) tab_ok noX_local hB1 Tryd.func24 rfl trivial (fun M => ?_)
      rw [atL_none x k (.inr h2)]; rfl
    · have hlt : k.toNat < (listL x).length := by omega
      obtain ⟨e1, e2⟩ := hs k.toNat hlt
      have hS : ¬ S1 ((p.getD default).add k.toNat).block := by rw [add_block]; exact hS1.new _ (hnew _ e1).1
      refine RunF_sound tab_ok noX_local 100 [false, false] _ _ rfl ?_ ?_
      · simp only [Nat.mul_one, e2]
        simp [hS]
        (repeat' refine And.intro ?_ ?_) <;> first | omega | exact e1
      refine Run.retB (Ds := []) tab_ok noX_local hB1 Tryd.func24 rfl trivial (fun M => ?_)
      simp only [Nat.mul_one, e2]
      rw [← atL_list x k (by omega) hlt]; rfl
theorem atR_enters : Enters Tryd.prog 24 := enters_mk Tryd.func24 (by decide) rfl

theorem rankR_ok (x : BitVec 64) (i : Int) (w : World) : Gives Tryd.prog 26 [.int .u64 (un x), .int .i64 i] w (.int .i64 (((bitsL x).filter fun k : Nat => decide ((k : Int) < i)).length : Int)) := by
  refine Gives.of_run Tryd.func26 rfl (by show 2 ≤ 25; decide) ?_
  refine RunF_sound tab_ok noX_local 100 [] _ _ rfl ?_ ?_
  · simp
  refine Run.callR noX_local rfl rfl rfl rfl rfl rfl listR_enters rfl (fun M w' _ _ => listR_ok x w') ?_
  rintro v w2 w1 S1 hag hag2 ⟨p, c, rfl, hc, hs, hnew⟩ hS1
  have hB1 := (Based.refl w).call hag hag2 hS1
  have hle := listL_le x
  have e0 : ((bitsL x).filter fun k : Nat => decide ((k : Int) < i)).length = ((listL x).filter fun k => decide (k < i)).length := by
    rw [listL, List.filter_map, List.length_map]; rfl
  rw [e0]
  generalize hL : listL x = L at *
  refine ⟨.v (.slice p L.length c), fun M => rfl, ?_⟩
  generalize hT : (L.filter fun k => decide (k < i)).length = T
  refine RunF_sound tab_ok noX_local 100 [] _ _ rfl ?_ ?_
  · simp
  suffices H : ∀ (d k n : Nat), k + d = L.length → n ≤ k → T = n + ((L.drop k).filter fun k => decide (k < i)).length → ∀ σ, inT σ.t [(1, .v (.int .i64 i)), (5, .v (.slice p L.length c)), (6, .v (.int .i64 (n : Int))), (7, .v (.int .i64 (k : Int)))] → inT σ.h [] → Run _ _ σ by
    exact H L.length 0 0 (by omega) (Nat.le_refl _) (by rw [List.drop_zero, hT]; omega) _ ⟨rfl, rfl, rfl, rfl, trivial⟩ trivial
  intro d
  induction d with
  | zero =>
    intro k n hk hnk hv σ ht hh
    refine Run.to ?_ ht hh (n' := 0)
    refine RunF_sound tab_ok noX_local 100 [false] _ _ rfl ?_ ?_
    · simp; omega
    refine Run.retB (Ds := []) tab_ok noX_local hB1 Tryd.func26 rfl trivial (fun M => ?_)
    rw [List.drop_eq_nil_of_le (by omega)] at hv
    have : T = n := by simpa using hv
    rw [this]; rfl
  | succ d ih =>
    intro k n hk hnk hv σ ht hh
    refine Run.to ?_ ht hh (n' := 0)
    have hlt : k < L.length := by omega
    obtain ⟨e1, e2⟩ := hs k hlt
    have hS : ¬ S1 ((p.getD default).add k).block := by rw [add_block]; exact hS1.new _ (hnew _ e1).1
    rw [List.drop_eq_getElem_cons hlt, List.filter_cons] at hv
    by_cases cc : L[k] < i
    · refine RunF_sound tab_ok noX_local 100 [true, true] _ _ rfl ?_ ?_
      · simp only [Nat.mul_one, Int.toNat_natCast, e2]
        simp [hS, cc]
        (repeat' refine And.intro ?_ ?_) <;> first | omega | exact e1
      rw [if_pos (by simpa using cc), List.length_cons] at hv
      exact ih (k + 1) (n + 1) (by omega) (by omega) (by omega) _ ⟨rfl, rfl, i64_eq (wrap_succ (by omega)), i64_eq (wrap_succ (by omega)), trivial⟩ trivial
    · refine RunF_sound tab_ok noX_local 100 [true, false] _ _ rfl ?_ ?_
      · simp only [Nat.mul_one, Int.toNat_natCast, e2]
        simp [hS, cc]
        (repeat' refine And.intro ?_ ?_) <;> first | omega | exact e1
      rw [if_neg (by simpa using cc)] at hv
      exact ih (k + 1) n (by omega) (by omega) hv _ ⟨rfl, rfl, rfl, i64_eq (wrap_succ (by omega)), trivial⟩ trivial
theorem rankR_enters : Enters Tryd.prog 26 := enters_mk Tryd.func26 (by decide) rfl
end Go.Proofs.YtpfanhbkjajocaaDoor

/-
  sets.Each as an iterator; At. Own work.
-/
namespace Go.Proofs.YtpfanhbkjajocaaDoor
open Go.AM
set_option maxRecDepth 100000

/-- A word that lies in a block. -/
def WordAt (w : World) (b : Nat) (x : BitVec 64) : Prop := w.cell? ⟨b, 0, none⟩ = some (.int .u64 (un x))

def eachF (b : Nat) : Value := .func (.func 63) #[] #[.pointer (some ⟨b, 0, none⟩)]
def eachK (b : Nat) : Nat → Prop := fun k => k = 0 ∨ k = b
def encNs (l : List Nat) : List (List Value) := l.map fun k : Nat => [.int .i64 (k : Int)]

theorem each_ok (x : BitVec 64) (w : World) : Makes Tryd.prog 29 [.int .u64 (un x)] w (fun v w' => ∃ b, v = eachF b ∧ w.heap.size ≤ b ∧ WordAt w' b x) := by
  refine Makes.of_run Tryd.func29 rfl (by show 1 ≤ 4; decide) ?_
  refine RunF_sound tab_ok noX_local 100 [] _ _ rfl ?_ ?_
  · simp [okCell, argsT.ofConst', Value.oneCell']
  refine Run.ret tab_ok Tryd.func29 rfl trivial fun M fp a w' hr => ⟨hr.agree, (M 0).1, rfl, ?_, ?_⟩
  · rcases Nat.lt_or_ge (M 0).1 w.heap.size with h | h
    · exact (hr.own 0 _ rfl h).elim
    · exact h
  · have hb : BlkAt M w' 0 (.cells 23 [.one (.v (.int .u64 (un x)))]) := hr.heap 0 _ rfl
    have := cells_of_blk hb 0
    exact this
theorem each_enters : Enters Tryd.prog 29 := enters_mk Tryd.func29 (by decide) rfl

theorem each_iter (x : BitVec 64) (b : Nat) (w0 : World) (hb : WordAt w0 b x) (hT : TabAt w0) :
    Iter Tryd.prog 63 [.pointer (some ⟨b, 0, none⟩)] (eachK b) w0 (encNs (bitsL x)) := by
  refine Iter.of_run Tryd.func63 rfl (by show 2 ≤ 16; decide) ?_
  intro y J Js w fp hJ hJs hy hag hfp R hR
  have hbw : w.cell? ⟨b, 0, none⟩ = some (.int .u64 (un x)) := hag.cell hb (fun h => h (.inr rfl))
  have hTw : TabAt w := hT.agree hag (fun h => h (.inl rfl))
  have hf0 : ¬ fp 0 := fun h => hfp 0 h (.inl rfl)
  have hfb : ¬ fp b := fun h => hfp b h (.inr rfl)
  have hres : (Tryd.f63).results = #[] := rfl
  refine RunF_sound tab_ok (hJ []) 100 [] _ _ rfl ?_ ?_
  · simp only [fnC_w0, fnC_S0, hbw]
    simp [hfb]
  simp only [fnC_w0, hbw]
  generalize hX : bitsL x = X at *
  suffices H : ∀ (m : Nat) (z : BitVec 64) (pre : List (List Value)), (bitsL z).length = m → pre ++ encNs (bitsL z) = encNs X →
      ∀ σ, inT σ.t [(0, .v y), (3, .v (.int .u64 (un z)))] → inT σ.h [] → Run (fnC Tryd.prog 63 (Tryd.f63).ntmps w fp (J pre) R) _ σ by
    exact H _ x [] rfl (by rw [hX]; rfl) _ ⟨rfl, rfl, trivial⟩ trivial
  intro m
  induction m with
  | zero =>
    intro z pre hm hp σ ht hh
    refine Run.to ?_ ht hh (n' := 0)
    have hz : z = 0#64 := by
      by_cases h : z = 0#64
      · exact h
      · rw [bitsL_cons z h] at hm; cases hm
    refine RunF_sound tab_ok (hJ pre) 100 [false] _ _ rfl ?_ ?_
    · simp [hz]
    refine Run.finI Tryd.func63 hres fun v w' fp' hg hX => hR v w' fp' pre hg (.inl ⟨?_, hX⟩)
    have : bitsL z = [] := List.length_eq_zero_iff.1 hm
    rw [this] at hp; simpa [encNs] using hp
  | succ m ih =>
    intro z pre hm hp σ ht hh
    refine Run.to ?_ ht hh (n' := 0)
    have hz : z ≠ 0#64 := fun h => by rw [h, bitsL_zero] at hm; cases hm
    refine RunF_sound tab_ok (hJ pre) 100 [true] _ _ rfl ?_ ?_
    · simp [hz]
    refine Run.callFn (hJ pre) rfl rfl rfl rfl rfl rfl rfl tz_enters rfl (fun w' hw' => tz_ok z w' (hTw.agree hw' hf0)) ?_
    have htz : tzI z = (tz z : Int) := by rw [tzI, if_neg hz]
    have hp' : (pre ++ [[.int .i64 (tz z : Int)]]) ++ encNs (bitsL (dropLow z)) = encNs X := by
      rw [← hp, bitsL_cons z hz]; simp [encNs]
    have hpx : pre ++ [[.int .i64 (tz z : Int)]] <+: encNs X := ⟨_, hp'⟩
    refine RunF_sound tab_ok (hJ pre) 100 [] _ _ rfl ?_ ?_
    · simp
    refine Run.yield (J := J) (Js := Js) rfl (hy pre _ hpx) rfl rfl rfl rfl rfl ?_ rfl rfl ?_ ?_
    · rw [htz]; rfl
    · refine RunF_sound tab_ok (hJ _) 100 [false] _ _ rfl ?_ ?_
      · simp
      refine ih (dropLow z) _ ?_ hp' _ ⟨rfl, ?_, trivial⟩ trivial
      · rw [bitsL_cons z hz] at hm; simpa using hm
      · refine u64_eq ?_
        rw [sub1_un, band_un]; rfl
    · refine RunF_sound tab_ok (hJs _) 100 [true] _ _ rfl ?_ ?_
      · simp
      exact Run.retI Tryd.func63 hres fun v w' fp' hg hX => hR v w' fp' _ hg (.inr ⟨hpx, hX⟩)
theorem eachIt_enters : Enters Tryd.prog 63 := enters_mk Tryd.func63 (by decide) rfl

theorem encNs_next {E : List Nat} {k : Nat} (hk : k ≤ E.length) {x : List Value} (h : encNs (E.take k) ++ [x] <+: encNs E) : ∃ hlt : k < E.length, x = [.int .i64 (E[k] : Int)] := by
  have hl := h.length_le
  simp only [encNs, List.length_append, List.length_map, List.length_take, List.length_singleton] at hl
  have hlt : k < E.length := by omega
  refine ⟨hlt, ?_⟩
  obtain ⟨t, ht⟩ := h
  have := congrArg (fun l => l[k]?) ht
  simp only [encNs] at this
  rw [List.append_assoc, List.getElem?_append_right (by simp; omega)] at this
  simp [Nat.min_eq_left hk, hlt] at this
  exact this
theorem encNs_succ {E : List Nat} {k : Nat} (hlt : k < E.length) : encNs (E.take k) ++ [[.int .i64 (E[k] : Int)]] = encNs (E.take (k + 1)) := by
  rw [List.take_succ_eq_append_getElem hlt, encNs, encNs, List.map_append]; rfl
theorem encNs_all {E : List Nat} {k : Nat} (hk : k ≤ E.length) (h : encNs E = encNs (E.take k)) : k = E.length := by
  have := congrArg List.length h
  simp only [encNs, List.length_map, List.length_take] at this
  omega

def atB (k r : Int) : List (Nat × Blk) := [(1, .cells 3 [.one (.v (.int .i64 r))]), (0, .cells 3 [.one (.v (.int .i64 k))])]

theorem at_ok (x : BitVec 64) (k : Int) (w : World) (hT : TabAt w) (h0 : 0 < w.heap.size) (hk2 : k ≤ 9223372036854775807) : Gives Tryd.prog 23 [.int .u64 (un x), .int .i64 k] w (.int .i64 (atL x k)) := by
  refine Gives.of_run Tryd.func23 rfl (by show 2 ≤ 16; decide) ?_
  by_cases c : k < 0
  · refine RunF_sound tab_ok noX_local 100 [true] _ _ rfl ?_ ?_
    · simp [c, okCell, argsT.ofConst', ofConst, Value.oneCell']
    refine Run.retP tab_ok Tryd.func23 rfl ⟨trivial, trivial⟩ (fun M => ?_)
    rw [atL, if_pos c]; rfl
  refine RunF_sound tab_ok noX_local 100 [false] _ _ rfl ?_ ?_
  · simp [okCell, argsT.ofConst', ofConst, Value.oneCell']; omega
  refine Run.callR noX_local rfl rfl rfl rfl rfl rfl each_enters rfl (fun M w' _ _ => each_ok x w') ?_
  rintro v w2 w1 S1 hag hag2 ⟨bb, rfl, hbl, hW⟩ hS1
  have hB1 := (Based.refl w).call hag hag2 hS1
  have hbw1 : bb < w1.heap.size := World.block_lt_of_cell? w1 _ hW
  have hS1b : ¬ S1 bb := hS1.new bb hbl
  have hS10 : ¬ S1 0 := fun h => by have := hB1.new 0 h; omega
  have hT1 : TabAt w1 := hT.agree hB1.agree (fun f => f)
  have hw1 : 0 < w1.heap.size := by have := hB1.agree.size; omega
  have hit := each_iter x bb w1 hW hT1
  have hat : atL x k = match (bitsL x)[k.toNat]? with | some i => (i : Int) | none => -1 := by rw [atL, if_neg c] <;> cases (bitsL x)[k.toNat]? <;> rfl
  generalize bitsL x = E at hit hat
  refine ⟨.fn 63 [.v (.pointer (some ⟨bb, 0, none⟩))], fun M => rfl, ?_⟩
  refine RunF_sound tab_ok noX_local 100 [] _ _ rfl ?_ ?_
  · simp
  refine Run.rangeFn noX_local rfl rfl (fun M => rfl) eachIt_enters 5 [(4, .ptr 1 0), (3, .ptr 0 0)] ⟨rfl, rfl, trivial⟩ rfl rfl hit
    (fun j hj => by rcases hj with rfl | rfl; exact ⟨hw1, hS10⟩; exact ⟨hbw1, hS1b⟩) (fun z hz => by simp only [encNs, List.mem_map] at hz; obtain ⟨e, _, rfl⟩ := hz; rfl)
    (fun pre h => ∃ j, j ≤ E.length ∧ j ≤ k.toNat ∧ pre = encNs (E.take j) ∧ h = atB (k - j) 0)
    (fun _ c h => c = .ret ∧ h = atB 0 (atL x k)) 12 (atB k 0) ⟨0, by omega, by omega, rfl, by simp⟩ ⟨rfl, rfl, trivial⟩ ?_ ?_ ?_
  · rintro D l a0 rc wy fpy pre z h hI hpx ⟨j, hj, hjk, rfl, rfl⟩
    obtain ⟨hlt, rfl⟩ := encNs_next hj hpx
    refine RunF_sound tab_ok (roundX_local hI.loc l rc .ready) 100 [] _ _ rfl ?_ ?_
    · simp
    refine Run.beginRound hI.loc hI.lw ?_
    by_cases cc : k - (j : Int) = 0
    · have hkj : k.toNat = j := by omega
      refine RunF_sound tab_ok (roundX_local hI.loc l rc .busy) 100 [true] _ _ rfl ?_ ?_
      · simp [cc, okCell, Value.oneCell']
      refine Run.roundRet hI [] (atB 0 (atL x k)) ⟨rfl, rfl⟩ ⟨rfl, rfl, trivial⟩ ⟨?_, ?_, trivial⟩ rfl
      · rw [hat, hkj, List.getElem?_eq_getElem hlt]; rfl
      · rw [cc]; rfl
    · refine RunF_sound tab_ok (roundX_local hI.loc l rc .busy) 100 [false] _ _ rfl ?_ ?_
      · simp [cc, okCell, Value.oneCell']
      refine Run.roundEnd hI [] (atB (k - (j + 1 : Nat)) 0) ⟨j + 1, by omega, by omega, encNs_succ hlt, rfl⟩ ⟨rfl, rfl, trivial⟩ ⟨rfl, ?_, trivial⟩ rfl
      have : IntKind.i64.wrap (k - (j : Int) - 1) = k - ((j + 1 : Nat) : Int) := by rw [wrap_i64] <;> omega
      rw [← this]; rfl
  · rintro D h ⟨j, hj, hjk, hx, rfl⟩
    have hje := encNs_all hj hx
    refine RunF_sound tab_ok (markX_local noX_local D) 100 [] _ _ rfl ?_ ?_
    · simp [okCell, Value.oneCell', ofConst]
    refine Run.retB (Ds := [D]) tab_ok noX_local hB1 Tryd.func23 rfl ⟨trivial, trivial⟩ (fun M => ?_)
    rw [hat, List.getElem?_eq_none (by omega)]; rfl
  · rintro D pre c h hpre ⟨rfl, rfl⟩
    exact Run.retB (Ds := [D]) tab_ok noX_local hB1 Tryd.func23 rfl ⟨trivial, trivial⟩ (fun M => rfl)
theorem at_enters : Enters Tryd.prog 23 := enters_mk Tryd.func23 (by decide) rfl
end Go.Proofs.YtpfanhbkjajocaaDoor

/-
  SetsOnes answers true. Own work.
-/
namespace Go.Proofs.YtpfanhbkjajocaaDoor
open Go.AM
set_option maxRecDepth 100000

theorem ones1_ok (x : BitVec 64) (i : Int) (hi : i ≤ 9223372036854775807) (w : World) (hT : TabAt w) (h0 : 0 < w.heap.size) : Gives Tryd.prog 3 [.int .u64 (un x), .int .i64 i] w (.bool true) := by
  refine Gives.of_run Tryd.func3 rfl (by show 2 ≤ 73; decide) ?_
  refine RunF_sound tab_ok noX_local 100 [] _ _ rfl ?_ ?_
  · simp
  refine Run.callFn noX_local rfl rfl rfl rfl rfl rfl rfl has_enters rfl (fun w' _ => has_ok x i w') ?_
  refine RunF_sound tab_ok noX_local 100 [] _ _ rfl ?_ ?_
  · simp
  refine Run.callFn noX_local rfl rfl rfl rfl rfl rfl rfl hasR_enters rfl (fun w' _ => hasR_ok x i w') ?_
  refine RunF_sound tab_ok noX_local 100 [true] _ _ rfl ?_ ?_
  · simp
  refine Run.callFn noX_local rfl rfl rfl rfl rfl rfl rfl with_enters rfl (fun w' _ => with_ok x i w') ?_
  refine RunF_sound tab_ok noX_local 100 [] _ _ rfl ?_ ?_
  · simp
  refine Run.callFn noX_local rfl rfl rfl rfl rfl rfl rfl withR_enters rfl (fun w' _ => withR_ok x i w') ?_
  refine RunF_sound tab_ok noX_local 100 [true] _ _ rfl ?_ ?_
  · simp
  refine Run.callFn noX_local rfl rfl rfl rfl rfl rfl rfl without_enters rfl (fun w' _ => without_ok x i w') ?_
  refine RunF_sound tab_ok noX_local 100 [] _ _ rfl ?_ ?_
  · simp
  refine Run.callFn noX_local rfl rfl rfl rfl rfl rfl rfl withoutR_enters rfl (fun w' _ => withoutR_ok x i w') ?_
  refine RunF_sound tab_ok noX_local 100 [true] _ _ rfl ?_ ?_
  · simp
  refine Run.callFn noX_local rfl rfl rfl rfl rfl rfl rfl size_enters rfl (fun w' _ => size_ok x w') ?_
  refine RunF_sound tab_ok noX_local 100 [] _ _ rfl ?_ ?_
  · simp
  refine Run.callFn noX_local rfl rfl rfl rfl rfl rfl rfl sizeR_enters rfl (fun w' _ => sizeR_ok x w') ?_
  refine RunF_sound tab_ok noX_local 100 [true] _ _ rfl ?_ ?_
  · simp
  refine Run.callFn noX_local rfl rfl rfl rfl rfl rfl rfl next_enters rfl (fun w' hA => next_ok x i w' (hT.agree hA (fun f => f))) ?_
  refine RunF_sound tab_ok noX_local 100 [] _ _ rfl ?_ ?_
  · simp
  refine Run.callFn noX_local rfl rfl rfl rfl rfl rfl rfl nextR_enters rfl (fun w' _ => nextR_ok x i hi w') ?_
  refine RunF_sound tab_ok noX_local 100 [true] _ _ rfl ?_ ?_
  · simp
  refine Run.callFn noX_local rfl rfl rfl rfl rfl rfl rfl at_enters rfl (fun w' hA => at_ok x i w' (hT.agree hA (fun f => f)) (Nat.lt_of_lt_of_le h0 hA.size) hi) ?_
  refine RunF_sound tab_ok noX_local 100 [] _ _ rfl ?_ ?_
  · simp
  refine Run.callFn noX_local rfl rfl rfl rfl rfl rfl rfl atR_enters rfl (fun w' _ => atR_ok x i w') ?_
  refine RunF_sound tab_ok noX_local 100 [true] _ _ rfl ?_ ?_
  · simp
  refine Run.callFn noX_local rfl rfl rfl rfl rfl rfl rfl rank_enters rfl (fun w' _ => rank_ok x i w') ?_
  refine RunF_sound tab_ok noX_local 100 [] _ _ rfl ?_ ?_
  · simp
  refine Run.callFn noX_local rfl rfl rfl rfl rfl rfl rfl rankR_enters rfl (fun w' _ => rankR_ok x i w') ?_
  refine RunF_sound tab_ok noX_local 100 [true] _ _ rfl ?_ ?_
  · simp
  refine Run.callFn noX_local rfl rfl rfl rfl rfl rfl rfl below_enters rfl (fun w' _ => below_ok i w') ?_
  refine RunF_sound tab_ok noX_local 100 [] _ _ rfl ?_ ?_
  · simp
  refine Run.callFn noX_local rfl rfl rfl rfl rfl rfl rfl belowR_enters rfl (fun w' _ => belowR_ok i w') ?_
  refine RunF_sound tab_ok noX_local 100 [] _ _ rfl ?_ ?_
  · simp
  refine Run.retP tab_ok Tryd.func3 rfl trivial (fun M => ?_)
  simp [resAV, conc]
theorem ones1_enters : Enters Tryd.prog 3 := enters_mk Tryd.func3 (by decide) rfl
end Go.Proofs.YtpfanhbkjajocaaDoor

/-
  The abstract machine, twenty-fifth part: structs built in drawn regions, taken first. Own work; over any program.
-/
namespace Go.AM

theorem RunO.build {C : Ctx} {held : List (Nat × Blk)} {n0 : Nat} {ops : Array Oper} {i : Nat} {ord : List (Nat × Bool)} {k : List Item} {σ : St} {o : Oper} {T : Tab} {t : TypeId} {parts : Array (Nat × Operand)} {l : List (Nat × Value)} {p : Prop} {z : AV}
    (hT : tabOK C.P T) (hsel : noSel ops = true) (ho : ops[i]? = some o) (hop : o.op = .build t parts) (hl : plainParts σ parts.toList = some l) (hz : evBuild T t l = some (p, z)) (hw : wantOf ops σ o = some .yes) (hd : dstOK C.n o.dst = true)
    (hp : p) (h : RunO C held n0 ops ord k (σ.put o.dst z)) : RunO C held n0 ops ((i, true) :: ord) k σ := by
  refine RunO.first hsel ho hd (fun M0 M fp a w hM hR => .inl ⟨wantOf_yes hR.q hw, (fun c e => by rw [hop] at e; cases e), fun w' _ => ?_⟩) h
  have hc := plainParts_conc hR.q hl
  have e : (parts.map fun x => (x.1, a.eval x.2)).toList = l := by rw [← hc]; simp
  have := evBuild_run hT (M := M) (parts := parts.map fun x => (x.1, a.eval x.2)) (by rw [e]; exact hz) hp w'
  simp [execOp, hop, this]
end Go.AM

/-
  Of and List walked. Own work.
-/
namespace Go.Proofs.YtpfanhbkjajocaaDoor
open Go.AM
set_option maxRecDepth 100000

/-- The set of a list, with what is wrong. -/
def ofS : List Int → BitVec 64 → BitVec 64 × Int
  | [], d => (d, 0)
  | i :: l, d => if inB i = true then ofS l (d ||| 1#64 <<< i.toNat) else (0#64, 4)

def ofSV (x : BitVec 64 × Int) : Value := .tuple #[.int .u64 (un x.1), .int .i64 x.2]

theorem of_ok (p : Option Addr) (c : Nat) (xs : List Int) (w : World) (hs : SeesI w p xs) (hl : xs.length ≤ maxLen) : Gives Tryd.prog 46 [.slice p xs.length c] w (ofSV (ofS xs 0#64)) := by
  refine Gives.of_run Tryd.func46 rfl (by show 1 ≤ 22; decide) ?_
  have hml : maxLen = 9223372036854775807 := rfl
  refine RunF_sound tab_ok noX_local 100 [] _ _ rfl ?_ ?_
  · simp
  obtain ⟨v, hv⟩ : ∃ v, v = ofS xs 0#64 := ⟨_, rfl⟩
  rw [← hv]
  suffices H : ∀ (m i : Nat) (d : BitVec 64), i + m = xs.length → v = ofS (xs.drop i) d → Run _ _ ⟨[(7, .v (.slice p xs.length c)), (8, .v (.int .i64 (xs.length : Int))), (9, .v (.int .i64 (i : Int))), (4, .v (.int .u64 (un d)))], [], 0⟩ by
    exact Run.to (H xs.length 0 0#64 (by omega) hv) ⟨rfl, rfl, rfl, rfl, trivial⟩ trivial
  intro m
  induction m with
  | zero =>
    intro i d hi hd
    rw [List.drop_eq_nil_of_le (by omega)] at hd
    refine RunF_sound tab_ok noX_local 100 [false] _ _ rfl ?_ ?_
    · simp; omega
    refine Run.retL tab_ok Tryd.func46 rfl ?_ (fun M => ?_)
    · simp
    rw [hd]; rfl
  | succ m ih =>
    intro i d hi hd
    have hil : i < xs.length := by omega
    rw [List.drop_eq_getElem_cons hil] at hd
    obtain ⟨hp, hpc⟩ := hs i hil
    generalize xs[i] = z at *
    refine RunF_sound tab_ok noX_local 100 [true] _ _ rfl ?_ ?_
    · simp only [fnC_w0, fnC_S0, Int.toNat_natCast, Nat.mul_one, hpc]
      simp
      (repeat' refine And.intro ?_ ?_) <;> first | omega | exact hp
    simp only [fnC_w0, Int.toNat_natCast, Nat.mul_one, hpc]
    refine Run.callFn (r := .bool (inB z)) noX_local rfl rfl rfl rfl rfl rfl rfl right_enters rfl (fun w' _ => right_ok z w') ?_
    by_cases c0 : inB z = true
    · rw [ofS, if_pos c0] at hd
      have hz : 0 ≤ z ∧ z < 64 := by simpa [inB] using c0
      refine RunF_sound tab_ok noX_local 100 [false] _ _ rfl ?_ ?_
      · simp [c0]; omega
      refine Run.to (ih (i + 1) (d ||| 1#64 <<< z.toNat) (by omega) hd) ⟨rfl, rfl, i64_eq (wrap_succ (by omega)), u64_eq ?_, trivial⟩ trivial
      rw [shl1_un, bor_un]
    · rw [ofS, if_neg c0] at hd
      refine RunF_sound tab_ok noX_local 100 [true] _ _ rfl ?_ ?_
      · simpa using c0
      refine Run.retL tab_ok Tryd.func46 rfl ?_ (fun M => ?_)
      · simp
      rw [hd]; rfl
theorem of_enters : Enters Tryd.prog 46 := enters_mk Tryd.func46 (by decide) rfl
end Go.Proofs.YtpfanhbkjajocaaDoor

/-
  The abstract machine, twenty-sixth part: make([]T, len, cap). Own work; over any program.
-/
namespace Go.AM

theorem run_makeSlice {P : Program} {T : Tab} (hT : tabOK P T) {t e : TypeId} {i : TI} {l c : Nat} (hd : T.desc t = some (.slice e)) (hi : lk T e = some i) (h1 : i.bytes * c ≤ 2 ^ 48) (h2 : l ≤ c) (h3 : c ≤ maxLen) (h0 : 0 < i.size) (w : World) :
    (Instr.makeSlice t (.int .i64 (l : Int)) (.int .i64 (c : Int))).run P w = .ok (.slice (some ⟨w.heap.size, 0, none⟩) l c) (w.alloc (.cells ((Array.range (c * i.size)).map (fun j => i.zero.cells[j % i.zero.cells.size]!)) e)) := by
  have hml : maxLen = 9223372036854775807 := rfl
  have w1 : IntKind.i64.wrap (l : Int) = (l : Int) := by rw [wrap_i64] <;> omega
  have w2 : IntKind.i64.wrap (c : Int) = (c : Int) := by rw [wrap_i64] <;> omega
  obtain ⟨_, x, hx, hs, hb, _⟩ := hT e _ hi
  have hn : ¬ c * i.size = 0 ∨ c = 0 := by
    rcases Nat.eq_zero_or_pos c with h | h
    · exact .inr h
    · exact .inl (Nat.ne_of_gt (Nat.mul_pos h h0))
  have g1 : ¬ ((c : Int) < 0) := by omega
  have g2 : ¬ ((i.bytes : Int) * (c : Int) > 281474976710656) := by
    have : ((i.bytes * c : Nat) : Int) ≤ 281474976710656 := by omega
    push_cast at this; omega
  have g3 : ¬ ((l : Int) < 0) := by omega
  have g4 : ¬ ((l : Int) > (c : Int)) := by omega
  have g : ¬ ((((c : Int) < 0 ∨ 281474976710656 < (i.bytes : Int) * (c : Int)) ∨ (l : Int) < 0) ∨ (c : Int) < (l : Int)) := by
    rintro (((h | h) | h) | h)
    · exact g1 h
    · exact g2 h
    · exact g3 h
    · exact g4 h
  simp only [Instr.makeSlice, Sem.run_bind, tab_und hT hd, Result.andThen_ok, asInt, asIntOf, typeInfo, hx]
  have g' : ¬ ((((c : Int) < 0 ∨ 281474976710656 < (i.bytes : Int) * (c : Int)) ∨ (l : Int) < 0) ∨ c < l) := fun h => g (h.imp id (fun h => by omega))
  simp [w1, w2, hb, tab_size' hT hi, tab_zero hT hi, newRow, typeInfo, hx]
  rw [if_neg g']
  by_cases hz : c * i.size = 0
  · have hr : Array.range 0 = (#[] : Array Nat) := rfl
    rw [if_pos hz, hz, hr, List.map_toArray, List.map_toArray, List.map_nil, List.map_nil]
  · rw [if_neg hz]

section
variable {C : Ctx} {ops : Array Oper} {i : Nat} {rest : List Nat} {k : List Item} {σ : St} {o : Oper} {T : Tab} {t e : TypeId} {x y : Operand} {ti : TI} {l c : Nat}

/-- A slice is made. -/
theorem Run.mkSlice (hT : tabOK C.P T) (hL : Local C.X) (ho : ops[i]? = some o) (hop : o.op = .makeSlice t x y) (hx : σ.ev x = some (.v (.int .i64 (l : Int)))) (hy : σ.ev y = some (.v (.int .i64 (c : Int)))) (hw : wantOf ops σ o = some .yes) (hd : dstOK C.n o.dst = true)
    (hb : σ.bel = true) (hds : T.desc t = some (.slice e)) (hi : lk T e = some ti) (h1 : ti.bytes * c ≤ 2 ^ 48) (h2 : l ≤ c) (h3 : c ≤ maxLen) (h0 : 0 < ti.size) (h4 : ti.zero.cells.size = ti.size)
    (h : Run C (.inRegion ops rest :: k) (St.put ⟨σ.t, (σ.nx, .row e ti.size l (repL l ti.zero.cells.toList)) :: σ.h, σ.nx + 1⟩ o.dst (.sl σ.nx ti.size 0 l))) : Run C (.inRegion ops (i :: rest) :: k) σ := by
  intro M fp a w hR cs
  have ex := hR.q.ev hx
  have ey := hR.q.ev hy
  simp only [conc] at ex ey
  have hrun : (execOp a.eval o).run C.P w = .ok (.value (.slice (some ⟨w.heap.size, 0, none⟩) l c)) (w.alloc (.cells ((Array.range (c * ti.size)).map (fun j => ti.zero.cells[j % ti.zero.cells.size]!)) e)) := by
    simp [execOp, hop, ex, ey, run_makeSlice hT hds hi h1 h2 h3 h0 w]
  have hz : ((Array.range (c * ti.size)).map (fun j => ti.zero.cells[j % ti.zero.cells.size]!)).toList = repL c ti.zero.cells.toList := by
    rw [← h4]; exact zeros_eq _ _
  have hzl : (repL c ti.zero.cells.toList).length = c * ti.size := by rw [repL_length, Array.length_toList, h4]
  have htk : ∀ l c : Nat, l ≤ c → (repL c ti.zero.cells.toList).take (l * ti.size) = repL l ti.zero.cells.toList := by
    intro l c
    induction l generalizing c with
    | zero => intro _; simp [repL]
    | succ l ih =>
      intro hlc
      obtain ⟨c, rfl⟩ : ∃ c', c = c' + 1 := ⟨c - 1, by omega⟩
      simp only [repL]
      rw [List.take_append, List.take_of_length_le (by rw [Array.length_toList, h4, Nat.succ_mul]; omega), Array.length_toList, h4, show (l + 1) * ti.size - ti.size = l * ti.size by rw [Nat.succ_mul]; omega, ih c (by omega)]
  have hR' := newBlk hL hR hb (cap := c) (cs := (Array.range (c * ti.size)).map (fun j => ti.zero.cells[j % ti.zero.cells.size]!)) (e := e) (B := .row e ti.size l (repL l ti.zero.cells.toList))
    ⟨by rw [repL_length, Array.length_toList, h4], (Array.range (c * ti.size)).map (fun j => ti.zero.cells[j % ti.zero.cells.size]!), by simp only [updM, if_true]; exact heap_alloc_new _ _, by simpa [updM] using h2, by simpa [updM] using h3, by
      simp [updM], by rw [hz, htk l c h2]⟩
  obtain ⟨m, s, z⟩ := h _ fp _ _ (hR'.put (z := .sl σ.nx ti.size 0 l) (dstOK_lt hd)) cs
  refine ⟨m, .head (step_value ho (wantOf_yes hR.q hw) (fun c e => by rw [hop] at e; cases e) ?_) s, z⟩
  rw [hrun]
  simp [conc, updM]
end
end Go.AM

/-
  List walked. Own work.
-/
namespace Go.Proofs.YtpfanhbkjajocaaDoor
open Go.AM
set_option maxRecDepth 100000

/-- What lies in List's blocks. -/
def liB (l : List Int) : List (Nat × Blk) := [(1, .cells 37 [.one (.sl 0 1 0 l.length)]), (0, .row 3 1 l.length (encI l))]

theorem listS_ok (x : BitVec 64) (w : World) (hT : TabAt w) (h0 : 0 < w.heap.size) : HandsZ Tryd.prog 48 [.int .u64 (un x)] w (.sl 9 1 0 (listL x).length) [(9, .row 3 1 (listL x).length (encI (listL x)))] := by
  refine HandsZ.of_run Tryd.func48 rfl (by show 1 ≤ 16; decide) ?_
  have hl64 := listL_le x
  rw [listL_len] at hl64
  refine RunF_sound tab_ok noX_local 100 [] _ _ rfl ?_ ?_
  · simp
  refine Run.callFn (r := .int .i64 ((bitsL x).length : Int)) noX_local rfl rfl rfl rfl rfl rfl rfl size_enters rfl (fun w' _ => size_ok x w') ?_
  refine Run.mkSlice (l := 0) (c := (bitsL x).length) tab_ok noX_local rfl rfl rfl rfl rfl rfl rfl rfl rfl ?_ (by omega) ?_ (by decide) (by decide) ?_
  · show 8 * (bitsL x).length ≤ 281474976710656
    omega
  · show (bitsL x).length ≤ 9223372036854775807
    omega
  refine RunF_sound tab_ok noX_local 100 [] _ _ rfl ?_ ?_
  · simp [okCell, argsT.ofConst', ofConst, Value.oneCell']
  refine Run.callR noX_local rfl rfl rfl rfl rfl rfl each_enters rfl (fun M w' _ _ => each_ok x w') ?_
  rintro v w2 w1 S1 hag hag2 ⟨bb, rfl, hbl, hW⟩ hS1
  have hB1 := (Based.refl w).call hag hag2 hS1
  have hbw1 : bb < w1.heap.size := World.block_lt_of_cell? w1 _ hW
  have hS1b : ¬ S1 bb := hS1.new bb hbl
  have hS10 : ¬ S1 0 := fun h => by have := hB1.new 0 h; omega
  have hT1 : TabAt w1 := hT.agree hB1.agree (fun f => f)
  have hw1 : 0 < w1.heap.size := by have := hB1.agree.size; omega
  have hit := each_iter x bb w1 hW hT1
  have hli : listL x = (bitsL x).map fun k : Nat => (k : Int) := rfl
  rw [hli]
  generalize bitsL x = E at hit hl64
  refine ⟨.fn 63 [.v (.pointer (some ⟨bb, 0, none⟩))], fun M => rfl, ?_⟩
  refine RunF_sound tab_ok noX_local 100 [] _ _ rfl ?_ ?_
  · simp
  refine Run.rangeFn noX_local rfl rfl (fun M => rfl) eachIt_enters 4 [(3, .ptr 1 0)] ⟨rfl, trivial⟩ rfl rfl hit
    (fun j hj => by rcases hj with rfl | rfl; exact ⟨hw1, hS10⟩; exact ⟨hbw1, hS1b⟩) (fun z hz => by simp only [encNs, List.mem_map] at hz; obtain ⟨e, _, rfl⟩ := hz; rfl)
    (fun pre h => ∃ j, j ≤ E.length ∧ pre = encNs (E.take j) ∧ h = liB ((E.take j).map fun k : Nat => (k : Int)))
    (fun _ _ _ => False) 12 (liB []) ⟨0, by omega, rfl, by simp⟩ ⟨rfl, rfl, trivial⟩ ?_ ?_ ?_
  · rintro D l a0 rc wy fpy pre z h hI hpx ⟨j, hj, rfl, rfl⟩
    obtain ⟨hlt, rfl⟩ := encNs_next hj hpx
    refine RunF_sound tab_ok (roundX_local hI.loc l rc .ready) 100 [] _ _ rfl ?_ ?_
    · simp
    refine Run.beginRound hI.loc hI.lw ?_
    have hlen : ((E.take j).map fun k : Nat => (k : Int)).length = j := by simp; omega
    have he : ((E.take (j + 1)).map fun k : Nat => (k : Int)) = ((E.take j).map fun k : Nat => (k : Int)) ++ [(E[j] : Int)] := by
      rw [List.take_succ_eq_append_getElem hlt, List.map_append]; rfl
    have hin : ∃ j', j' ≤ E.length ∧ encNs (E.take j) ++ [[Value.int .i64 (E[j] : Int)]] = encNs (E.take j') ∧ liB (((E.take j).map fun k : Nat => (k : Int)) ++ [(E[j] : Int)]) = liB ((E.take j').map fun k : Nat => (k : Int)) := ⟨j + 1, by omega, encNs_succ hlt, by rw [he]⟩
    generalize (E.take j).map (fun k : Nat => (k : Int)) = m at *
    generalize (E[j] : Int) = y at *
    refine RunF_sound tab_ok (roundX_local hI.loc l rc .busy) 100 [] _ _ rfl ?_ ?_
    · simp [okCell, fillL, Value.cells, splice, repL, maxLen, Value.oneCell', ofConst]
      omega
    refine Run.roundEnd hI [(0, 13)] (liB (m ++ [y])) hin ⟨rfl, trivial⟩ ⟨?_, ?_, trivial⟩ rfl
    · refine congrArg (fun n => some (Blk.cells 37 [.one (.sl 13 1 0 n)])) ?_
      simp
    · have e2 : (m ++ [y]).length = m.length + 1 := by simp
      show _ = some (Blk.row 3 1 (m ++ [y]).length (encI (m ++ [y])))
      rw [e2, ← encI_app m m.length rfl]; rfl
  · rintro D h ⟨j, hj, hx, rfl⟩
    have hje := encNs_all hj hx
    subst hje
    rw [List.take_length]
    refine RunF_sound tab_ok (markX_local noX_local D) 100 [] _ _ rfl ?_ ?_
    · simp
    refine Run.retHB (Ds := [D]) tab_ok noX_local [(9, 0)] hB1 Tryd.func48 rfl ?_ rfl ⟨rfl, trivial⟩ rfl
    simp
  · rintro D pre c h hpre h
    exact h.elim
theorem listS_enters : Enters Tryd.prog 48 := enters_mk Tryd.func48 (by decide) rfl
end Go.Proofs.YtpfanhbkjajocaaDoor

/-
  Own work, merged: AM4.
-/
import Derived.AtR
import Derived.Below
import Derived.Laws.AppendOwn
import Derived.Laws.BytesString
import Derived.Laws.Cells
import Derived.Laws.Entries
import Derived.Laws.Rows
import Derived.Laws.Small
import Derived.Test.YtehimiadpgbhmaaDoorQ1DEB2B
/-
  The abstract machine, fourth part: the operations that turn nothing, as one function on abstract states. Own work; over any program.
-/
namespace Go.AM

def evUn (op : UnOp) (x : AV) : Option AV :=
  match op, x.toV with
  | .neg, some (.int k n) => some (.v (.int k (k.wrap (0 - n))))
  | .xor, some (.int k n) => some (.v (.int k (bxor k (if k.signed then -1 else k.max) n)))
  | .not, some (.bool b) => some (.v (.bool !b))
  | _, _ => none

theorem evUn_run {P : Program} {M : Loc} {op : UnOp} {x z : AV} (h : evUn op x = some z) (w : World) : (Op.unary op (conc M x)).run P w = .ok (conc M z) w := by
  unfold evUn at h
  split at h <;> first | (cases h; done) | skip
  · rename_i k n hx; cases h; rw [AV.toV_conc hx]; simp [Op.unary, Op.intArith, conc]
  · rename_i k n hx; cases h; rw [AV.toV_conc hx]; simp [Op.unary, Op.intBits, bxor, conc]
  · rename_i b hx; cases h; rw [AV.toV_conc hx]; simp [Op.unary, conc]

/-- A conversion between numbers, or of a string to a string type. -/
def evConv (T : Tab) (s d : TypeId) (x : AV) : Option AV :=
  match T.desc s, T.desc d, x with
  | some _, some (.int k), .v (.int _ n) => some (.v (.int k (k.wrap n)))
  | some .string, some .string, .v (.string z) => some (.v (.string z))
  | _, _, _ => none

theorem evConv_run {P : Program} {T : Tab} (hT : tabOK P T) {M : Loc} {s d : TypeId} {x z : AV} (h : evConv T s d x = some z) (w : World) : (convert s d (conc M x)).run P w = .ok (conc M z) w := by
  unfold evConv at h
  split at h <;> first | (cases h; done) | skip
  · rename_i ds k k' n hs hd; cases h
    simp [convert, tab_und hT hs, tab_und hT hd, conc, Conv.intToInt]
  · rename_i z hs hd; cases h
    simp [convert, tab_und hT hs, tab_und hT hd, conc]

/-- The address of a field. -/
def evFieldAddr (T : Tab) (t : TypeId) (x : AV) (f : Nat) : Option AV :=
  match T.desc t with
  | some (.struct fs) =>
    match fs[f]? with
    | some ⟨_, ty, fo, _, _, _, _⟩ =>
      match T.size ty with
      | some (_ + 1) =>
        match x with
        | .ptr id off => some (.ptr id (off + fo))
        | .elt id off j => some (.elt id off (j + fo))
        | .v (.pointer (some a)) => some (.v (.pointer (some (a.add fo))))
        | _ => none
      | _ => none
    | none => none
  | _ => none

theorem add_lit' (b o i : Nat) : (⟨b, o, none⟩ : Addr).add i = ⟨b, o + i, none⟩ := by
  unfold Addr.add; split <;> simp_all

theorem evFieldAddr_run {P : Program} {T : Tab} (hT : tabOK P T) {M : Loc} {t : TypeId} {x z : AV} {f : Nat} (h : evFieldAddr T t x f = some z) (w : World) :
    (Instr.fieldAt t (conc M x) f).run P w = .ok (conc M z) w := by
  unfold evFieldAddr at h
  split at h <;> first | (cases h; done) | skip
  rename_i fs hd
  split at h <;> first | (cases h; done) | skip
  rename_i hf
  split at h <;> first | (cases h; done) | skip
  rename_i n hn
  have hs := tab_size hT hn w
  split at h <;> cases h
  · simp [Instr.fieldAt, tab_und hT hd, hf, Instr.sureAddr, fieldPlace, hs, conc, add_lit']
  · simp [Instr.fieldAt, tab_und hT hd, hf, Instr.sureAddr, fieldPlace, hs, conc, add_lit', Nat.add_assoc]
  · simp [Instr.fieldAt, tab_und hT hd, hf, Instr.sureAddr, fieldPlace, hs, conc]

/-- The address of an element. -/
def evIndexAddr (T : Tab) (t : TypeId) (x i : AV) : Option (Prop × AV) :=
  match i with
  | .v (.int _ n) =>
    match T.desc t with
    | some (.array len e) =>
      match T.size e with
      | some sz =>
        match x with
        | .ptr id off => some (0 ≤ n ∧ n < len, .elt id off (n.toNat * sz))
        | .elt id off j => some (0 ≤ n ∧ n < len, .elt id off (j + n.toNat * sz))
        | .v (.pointer (some a)) => some (0 ≤ n ∧ n < len, .v (.pointer (some (a.add (n.toNat * sz)))))
        | _ => none
      | none => none
    | some (.slice e) =>
      match T.size e with
      | some sz =>
        match x with
        | .sl id sz' off len => match Nat.beq sz sz' with | true => some (0 ≤ n ∧ n < len, .elt id 0 ((off + n.toNat) * sz)) | false => none
        | .v (.slice p len _) => some (p = some (p.getD default) ∧ 0 ≤ n ∧ n < len, .v (.pointer (some ((p.getD default).add (n.toNat * sz)))))
        | _ => none
      | none => none
    | _ => none
  | _ => none

theorem evIndexAddr_run {P : Program} {T : Tab} (hT : tabOK P T) {M : Loc} {t : TypeId} {x i z : AV} {p : Prop} (h : evIndexAddr T t x i = some (p, z)) (hp : p) (w : World) :
    (Instr.indexAt t (conc M x) (conc M i)).run P w = .ok (conc M z) w := by
  unfold evIndexAddr at h
  split at h <;> first | (cases h; done) | skip
  rename_i k n
  split at h <;> first | (cases h; done) | skip
  · rename_i len e hd
    split at h <;> first | (cases h; done) | skip
    rename_i sz hs
    split at h <;> cases h
    · simp [Instr.indexAt, asIntOf, tab_und hT hd, tab_size hT hs, Instr.sureAddr, conc, hp, add_lit']
    · simp [Instr.indexAt, asIntOf, tab_und hT hd, tab_size hT hs, Instr.sureAddr, conc, hp, add_lit', Nat.add_assoc]
    · simp [Instr.indexAt, asIntOf, tab_und hT hd, tab_size hT hs, Instr.sureAddr, conc, hp]
  · rename_i e hd
    split at h <;> first | (cases h; done) | skip
    rename_i sz hs
    split at h <;> first | (cases h; done) | skip
    · rename_i id sz' off len
      split at h <;> cases h
      rename_i he
      have := Nat.eq_of_beq_eq_true he
      subst this
      simp [Instr.indexAt, asIntOf, tab_und hT hd, tab_size hT hs, conc, hp, add_lit', Nat.add_mul]
    · rename_i q len cap
      cases h
      obtain ⟨h1, h2⟩ := hp
      rw [h1]
      simp [Instr.indexAt, asIntOf, tab_und hT hd, tab_size hT hs, conc, h2]

/-- A part of a value. -/
theorem part_run {P : Program} {T : Tab} (hT : tabOK P T) {t : TypeId} {vs : Array Value} {j : Nat} {p : Prop} {x : Value} (h : partOf T t vs.toList j = some (p, x)) (hp : p) (w : World) :
    (part t vs j).run P w = .ok x w := by
  unfold partOf at h
  split at h
  · rename_i hi
    split at h <;> first | (cases h; done) | skip
    · rename_i k; cases h
      have : vs[j]? = some (.int k (intAt vs.toList j)) := by rw [← hp]; simp
      simp [part, tab_agg hT hi, oneCellTy, this]
    · cases h
      have : vs[j]? = some (.bool (boolAt vs.toList j)) := by rw [← hp]; simp
      simp [part, tab_agg hT hi, oneCellTy, this]
    · cases h
      have : vs[j]? = some (.string (strAt vs.toList j)) := by rw [← hp]; simp
      simp [part, tab_agg hT hi, oneCellTy, this]
    · cases h
      simp [part, tab_agg hT hi, oneCellTy, tab_size' hT hi]
      apply Array.ext'; simp
    · cases h
      simp [part, tab_agg hT hi, oneCellTy, tab_size' hT hi]
      apply Array.ext'; simp
    · cases h
      generalize slOf vs.toList[j]? = q at hp ⊢
      have : vs[j]? = some (.slice q.1 q.2.1 q.2.2) := by rw [← hp]; simp
      simp [part, tab_agg hT hi, oneCellTy, this]
  · cases h

def evIndex (T : Tab) (t : TypeId) (x i : AV) : Option (Prop × AV) :=
  match i with
  | .v (.int _ n) =>
    match T.desc t, x with
    | some (.array len e), .v (.agg vs) =>
      match T.size e with
      | some sz => match partOf T e vs.toList (n.toNat * sz) with | some (p, y) => some ((0 ≤ n ∧ n < len) ∧ p, .v y) | none => none
      | none => none
    | some .string, .v (.string s) => some (0 ≤ n ∧ n.toNat < s.size, .v (.int .u8 (s[n.toNat]?.getD 0).toNat))
    | _, _ => none
  | _ => none

theorem evIndex_run {P : Program} {T : Tab} (hT : tabOK P T) {M : Loc} {t : TypeId} {x i z : AV} {p : Prop} (h : evIndex T t x i = some (p, z)) (hp : p) (w : World) :
    (Instr.index t (conc M x) (conc M i)).run P w = .ok (conc M z) w := by
  unfold evIndex at h
  split at h <;> first | (cases h; done) | skip
  rename_i k n
  split at h <;> first | (cases h; done) | skip
  · rename_i len e vs hd
    split at h <;> first | (cases h; done) | skip
    rename_i sz hs
    split at h <;> cases h
    rename_i p' y hpo
    have := part_run hT hpo hp.2 w
    simp [Instr.index, asIntOf, tab_und hT hd, tab_size hT hs, conc, hp.1, this]
  · rename_i s hd
    cases h
    obtain ⟨h1, h2⟩ := hp
    have h3 : s[n.toNat]? = some s[n.toNat] := getElem?_pos s n.toNat h2
    simp [Instr.index, asIntOf, tab_und hT hd, conc, h1, h3]

def evField (T : Tab) (t : TypeId) (x : AV) (f : Nat) : Option (Prop × AV) :=
  match T.desc t, x with
  | some (.struct fs), .v (.agg vs) =>
    match fs[f]? with
    | some ⟨_, ty, fo, _, _, _, _⟩ => match partOf T ty vs.toList fo with | some (p, y) => some (p, .v y) | none => none
    | none => none
  | _, _ => none

theorem evField_run {P : Program} {T : Tab} (hT : tabOK P T) {M : Loc} {t : TypeId} {x z : AV} {f : Nat} {p : Prop} (h : evField T t x f = some (p, z)) (hp : p) (w : World) :
    (Instr.field t (conc M x) f).run P w = .ok (conc M z) w := by
  unfold evField at h
  split at h <;> first | (cases h; done) | skip
  rename_i fs vs hd
  split at h <;> first | (cases h; done) | skip
  rename_i hf
  split at h <;> cases h
  rename_i p' y hpo
  simp [Instr.field, tab_und hT hd, hf, conc, asAgg, part_run hT hpo hp w]

def nth {α : Type} : List α → Nat → Option α
  | [], _ => none
  | x :: _, 0 => some x
  | _ :: r, n + 1 => nth r n

theorem nth_conc {M : Loc} : ∀ {l : List AV} {j : Nat} {x : AV}, nth l j = some x → (concL M l)[j]? = some (conc M x)
  | [], _, _, h => by cases h
  | y :: r, 0, x, h => by cases h; simp [concL]
  | y :: r, n + 1, x, h => by simp only [concL, List.getElem?_cons_succ]; exact nth_conc h

def evExtract (x : AV) (i : Nat) : Option AV :=
  match x with
  | .tup l => nth l i
  | .v (.tuple vs) => match vs[i]? with | some y => some (.v y) | none => none
  | _ => none

theorem evExtract_run {P : Program} {M : Loc} {x z : AV} {i : Nat} (h : evExtract x i = some z) (w : World) : (Instr.extract (conc M x) i).run P w = .ok (conc M z) w := by
  unfold evExtract at h
  split at h <;> first | (cases h; done) | skip
  · rename_i l
    have := nth_conc (M := M) h
    simp [Instr.extract, conc, this]
  · rename_i vs
    split at h <;> cases h
    rename_i y hy
    simp [Instr.extract, conc, hy]

/-- A string cut. -/
def evSlice (T : Tab) (t : TypeId) (x : AV) (lo hi : Option AV) : Option (Prop × AV) :=
  match T.desc t, x with
  | some .string, .v (.string s) =>
    match lo, hi with
    | none, none => some (True, .v (.string (s.extract 0 s.size)))
    | some (.v (.int _ l)), none => some (0 ≤ l ∧ l ≤ s.size, .v (.string (s.extract l.toNat s.size)))
    | none, some (.v (.int _ h)) => some (0 ≤ h ∧ h ≤ s.size, .v (.string (s.extract 0 h.toNat)))
    | some (.v (.int _ l)), some (.v (.int _ h)) => some ((0 ≤ h ∧ h ≤ s.size) ∧ 0 ≤ l ∧ l ≤ h.toNat, .v (.string (s.extract l.toNat h.toNat)))
    | _, _ => none
  | some (.slice e), .v (.slice p len cap) =>
    match T.size e with
    | some _ =>
      match lo, hi with
      | none, none => some (True, .v (.slice p len cap))
      | none, some (.v (.int _ h)) => some (0 ≤ h ∧ h ≤ cap, .v (.slice (p.map (·.add 0)) h.toNat cap))
      | _, _ => none
    | none => none
  | _, _ => none

theorem add_zero (a : Addr) : a.add 0 = a := by simp [Addr.add]

theorem evSlice_run {P : Program} {T : Tab} (hT : tabOK P T) {M : Loc} {t : TypeId} {x z : AV} {lo hi : Option AV} {p : Prop} (h : evSlice T t x lo hi = some (p, z)) (hp : p) (w : World) :
    (Instr.sliceAt t (conc M x) (lo.map (conc M)) (hi.map (conc M)) none).run P w = .ok (conc M z) w := by
  unfold evSlice at h
  split at h <;> first | (cases h; done) | skip
  · rename_i s hd
    have hu := tab_und hT hd
    split at h <;> cases h
    · simp [Instr.sliceAt, Instr.slice, hu, Instr.sliceBounds, conc]
    · simp [Instr.sliceAt, Instr.slice, hu, Instr.sliceBounds, Instr.sliceBound, asIntOf, conc, hp]
    · simp [Instr.sliceAt, Instr.slice, hu, Instr.sliceBounds, Instr.sliceBound, asIntOf, conc, hp]
    · obtain ⟨h1, h2, h3⟩ := hp
      simp [Instr.sliceAt, Instr.slice, hu, Instr.sliceBounds, Instr.sliceBound, asIntOf, conc, h1, h2]
      intro h4; omega
  · rename_i e q len cap hd
    have hu := tab_und hT hd
    split at h <;> first | (cases h; done) | skip
    rename_i sz hs
    split at h <;> cases h
    · simp [Instr.sliceAt, Instr.slice, hu, tab_size hT hs, Instr.sliceBounds, conc]
      cases q <;> simp [add_zero]
    · simp [Instr.sliceAt, Instr.slice, hu, tab_size hT hs, Instr.sliceBounds, Instr.sliceBound, asIntOf, conc, hp]
      cases q <;> simp [add_zero]

/-- An owned slice cut. -/
def evSliceB (T : Tab) (h : List (Nat × Blk)) (t : TypeId) (id sz off len : Nat) (lo hi : Option AV) : Option (Prop × AV) :=
  match T.desc t with
  | some (.slice e) =>
    match T.size e, lk h id with
    | some sz', some (.row _ _ n _) =>
      match Nat.beq sz' sz with
      | true =>
        match lo, hi with
        | none, none => some (True, .sl id sz off len)
        | none, some (.v (.int _ y)) => some (0 ≤ y ∧ off + y.toNat ≤ n, .sl id sz off y.toNat)
        | some (.v (.int _ x)), none => some ((0 ≤ x ∧ x ≤ len) ∧ off + x.toNat < n, .sl id sz (off + x.toNat) (len - x.toNat))
        | some (.v (.int _ x)), some (.v (.int _ y)) => some ((0 ≤ y ∧ off + y.toNat ≤ n) ∧ (0 ≤ x ∧ x ≤ y.toNat) ∧ off + x.toNat < n, .sl id sz (off + x.toNat) (y.toNat - x.toNat))
        | _, _ => none
      | false => none
    | _, _ => none
  | _ => none

theorem evSliceB_run {C : Ctx} {T : Tab} (hT : tabOK C.P T) {M : Loc} {σ : St} {a : Act} {w : World} (hR : RelQ C M σ a w) {t : TypeId} {id sz off len : Nat} {z : AV} {lo hi : Option AV} {p : Prop} (h : evSliceB T σ.h t id sz off len lo hi = some (p, z)) (hp : p) :
    (Instr.sliceAt t (conc M (.sl id sz off len)) (lo.map (conc M)) (hi.map (conc M)) none).run C.P w = .ok (conc M z) w := by
  unfold evSliceB at h
  split at h <;> first | (cases h; done) | skip
  rename_i e hd
  have hu := tab_und hT hd
  split at h <;> first | (cases h; done) | skip
  rename_i sz' n vs hs hB
  split at h <;> first | (cases h; done) | skip
  rename_i he
  have := Nat.eq_of_beq_eq_true he
  subst this
  obtain ⟨_, cur, _, hcap, _⟩ := hR.heap _ _ hB
  split at h <;> cases h
  · simp [Instr.sliceAt, Instr.slice, hu, tab_size hT hs, Instr.sliceBounds, conc, add_zero]
  · rename_i k y
    obtain ⟨h1, h2⟩ := hp
    have h3 : y ≤ ((M id).2 - off : Nat) := by omega
    simp [Instr.sliceAt, Instr.slice, hu, tab_size hT hs, Instr.sliceBounds, Instr.sliceBound, asIntOf, conc, h1, h3, add_zero]
  · rename_i k x
    obtain ⟨⟨h1, h2⟩, h3⟩ := hp
    have h4 : ¬ ((M id).2 - off = x.toNat) := by omega
    simp [Instr.sliceAt, Instr.slice, hu, tab_size hT hs, Instr.sliceBounds, Instr.sliceBound, asIntOf, conc, h1, h2, h4, Addr.add_lit, Nat.add_mul]
    omega
  · rename_i k x k' y
    obtain ⟨⟨h1, h2⟩, ⟨h3, h4⟩, h5⟩ := hp
    have h6 : ¬ ((M id).2 - off = x.toNat) := by omega
    have h7 : y ≤ ((M id).2 - off : Nat) := by omega
    have h8 : x ≤ max y 0 := by omega
    simp [Instr.sliceAt, Instr.slice, hu, tab_size hT hs, Instr.sliceBounds, Instr.sliceBound, asIntOf, conc, h1, h7, h3, h8, h6, Addr.add_lit, Nat.add_mul]
    omega

/-- Bytes as a text. -/
def byteOf : Value → UInt8
  | .int _ n => UInt8.ofNat n.toNat
  | _ => 0
def bstr (l : List Value) : ByteArray := ⟨(l.map byteOf).toArray⟩
def intOf : Value → Int
  | .int _ n => n
  | _ => 0

theorem foldl_bytes (l : List Int) : ∀ s : ByteArray, l.foldl (fun r n => r.push (UInt8.ofNat n.toNat)) s = ⟨s.data ++ (l.map fun n => UInt8.ofNat n.toNat).toArray⟩ := by
  induction l with
  | nil => intro s; simp
  | cons n l ih =>
    intro s
    rw [List.foldl_cons, ih]
    congr 1
    apply Array.ext'
    simp [ByteArray.push]

theorem bstr_ints (l : List Int) : bstr (l.map (Value.int .u8)) = ⟨(l.map fun n => UInt8.ofNat n.toNat).toArray⟩ := by
  simp [bstr, byteOf, Function.comp_def]

def evConvB (T : Tab) (h : List (Nat × Blk)) (s d : TypeId) (id sz off len : Nat) : Option (Prop × AV) :=
  match T.desc s, T.desc d with
  | some (.slice e), some .string =>
    match T.desc e, lk h id with
    | some (.int .u8), some (.row _ sz2 n vs) => some (((sz = 1 ∧ sz2 = 1) ∧ off + len ≤ n) ∧ ∀ u ∈ (vs.drop off).take len, u = .int .u8 (intOf u), .v (.string (bstr ((vs.drop off).take len))))
    | _, _ => none
  | _, _ => none

theorem evConvB_run {C : Ctx} {T : Tab} (hT : tabOK C.P T) {M : Loc} {σ : St} {a : Act} {w : World} (hR : RelQ C M σ a w) {s d : TypeId} {id sz off len : Nat} {z : AV} {p : Prop} (h : evConvB T σ.h s d id sz off len = some (p, z)) (hp : p) :
    (convert s d (conc M (.sl id sz off len))).run C.P w = .ok (conc M z) w := by
  unfold evConvB at h
  split at h <;> first | (cases h; done) | skip
  rename_i e hs hd
  split at h <;> cases h
  rename_i e2 sz2 n vs he hB
  obtain ⟨⟨⟨h1, h2⟩, h3⟩, h4⟩ := hp
  subst h1; subst h2
  have hb := hR.heap _ _ hB
  have hlen := hb.1
  have hl := run_loadCells_list (P := C.P) (w := w) ⟨(M id).1, off, none⟩ ((vs.drop off).take len) (fun q v hq => by
    rw [List.getElem?_take] at hq
    split at hq
    · rw [List.getElem?_drop] at hq
      have := row_cells hb _ _ hq
      rw [Nat.zero_add] at this
      rw [Addr.add_lit]; exact this
    · cases hq)
  have e1 : ((vs.drop off).take len).length = len := by simp; omega
  rw [e1] at hl
  have e2 : (vs.drop off).take len = (((vs.drop off).take len).map intOf).map (Value.int .u8) := by
    rw [List.map_map]
    conv => lhs; rw [← List.map_id ((vs.drop off).take len)]
    exact List.map_congr_left fun u hu => h4 u hu
  have hb2 := run_bytesToString (P := C.P) w ⟨(M id).1, off, none⟩ len ((M id).2 - off) (((vs.drop off).take len).map intOf) (by rw [← e2]; exact hl)
  rw [foldl_bytes, ByteArray.data_empty, Array.empty_append, ← bstr_ints, ← e2] at hb2
  have hu := tab_und hT hs
  have hv := tab_und hT hd
  have hx := tab_und hT he
  simp only [conc, Nat.mul_one]
  simp [convert, hu, hv, hx, hb2]

/-- len, min and max. -/
def evBuiltin (T : Tab) (b : Builtin) (ts : Array TypeId) (xs : List AV) : Option (Prop × AV) :=
  match b, xs with
  | .len, [x] =>
    match ts[0]? with
    | some t =>
      match T.desc t, x with
      | some .string, .v (.string s) => some (True, .v (.int .i64 s.size))
      | some (.slice _), .v (.slice _ n _) => some (True, .v (.int .i64 n))
      | some (.slice _), .sl _ _ _ n => some (True, .v (.int .i64 n))
      | some (.array n _), _ => some (True, .v (.int .i64 n))
      | _, _ => none
    | none => none
  | .max, [.v (.int k a), .v (.int _ b)] => some (True, .v (.int k (if b > a then b else a)))
  | .min, [.v (.int k a), .v (.int _ b)] => some (True, .v (.int k (if b < a then b else a)))
  | _, _ => none

theorem evBuiltin_run {P : Program} {T : Tab} (hT : tabOK P T) {M : Loc} {b : Builtin} {ts : Array TypeId} {ty : TypeId} {cs : Array Bool} {xs : List AV} {z : AV} {p : Prop} (h : evBuiltin T b ts xs = some (p, z)) (w : World) :
    (builtin b ts ty cs (concL M xs).toArray).run P w = .ok (.value (conc M z)) w := by
  unfold evBuiltin at h
  split at h <;> first | (cases h; done) | skip
  · rename_i x
    split at h <;> first | (cases h; done) | skip
    rename_i t ht
    split at h <;> first | (cases h; done) | skip
    all_goals
      rename_i hd
      cases h
      simp [builtin, Builtin.len_, ht, tab_und hT hd, conc, concL, goInt]
  · cases h; simp [builtin, concL, conc, run_max_int2]
  · cases h; simp [builtin, concL, conc, run_min_int2]

def evs (σ : St) : List Operand → Option (List AV)
  | [] => some []
  | x :: r => match σ.ev x with | some y => (match evs σ r with | some l => some (y :: l) | none => none) | none => none

theorem evs_conc {C : Ctx} {M : Loc} {σ : St} {a : Act} {w : World} (hR : RelQ C M σ a w) : ∀ {l : List Operand} {xs : List AV}, evs σ l = some xs → l.map a.eval = concL M xs
  | [], xs, h => by cases h; rfl
  | x :: r, xs, h => by
    simp only [evs] at h
    split at h <;> first | (cases h; done) | skip
    rename_i y hy
    split at h <;> cases h
    rename_i l hl
    simp [concL, hR.ev hy, evs_conc hR hl]

def optEv (σ : St) : Option Operand → Option (Option AV)
  | none => some none
  | some x => match σ.ev x with | some y => some (some y) | none => none

theorem optEv_conc {C : Ctx} {M : Loc} {σ : St} {a : Act} {w : World} (hR : RelQ C M σ a w) {x : Option Operand} {y : Option AV} (h : optEv σ x = some y) : x.map a.eval = y.map (conc M) := by
  cases x with
  | none => cases h; rfl
  | some x =>
    simp only [optEv] at h
    split at h <;> cases h
    rename_i z hz
    simp [hR.ev hz]

/-- An operation that turns nothing: what must hold, and what it gives. -/
def evPure (T : Tab) (W0 : World) (S0 : Nat → Prop) (σ : St) (o : Oper) : Option (Prop × AV) :=
  match o.op with
  | .move x => match σ.ev x with | some y => some (True, y) | none => none
  | .assign x => match σ.ev x with | some y => some (True, y) | none => none
  | .pick c a b => match σ.ev c with
    | some (.tt true) => (match σ.ev a with | some y => some (True, y) | none => none)
    | some (.tt false) => (match σ.ev b with | some y => some (True, y) | none => none)
    | _ => none
  | .load t x => match σ.ev x with | some y => loadOf T W0 S0 σ.h t y | none => none
  | .nilCheck x => match σ.ev x with
    | some (.ptr id off) => some (True, .ptr id off)
    | some (.elt id off j) => some (True, .elt id off j)
    | some (.fn f l) => some (True, .fn f l)
    | some (.v (.pointer (some a))) => some (True, .v (.pointer (some a)))
    | _ => none
  | .binOp op t x y _ => match σ.ev x, σ.ev y with | some a, some b => evBin T op t a b | _, _ => none
  | .unOp op _ x => match σ.ev x with | some y => (match evUn op y with | some z => some (True, z) | none => none) | none => none
  | .convert s d x => match σ.ev x with | some (.sl id sz off len) => evConvB T σ.h s d id sz off len | some y => (match evConv T s d y with | some z => some (True, z) | none => none) | none => none
  | .makeFunc (.func f) first caps => match first.toList with
    | [] => (match evs σ caps.toList with | some l => some (True, .fn f l) | none => none)
    | _ :: _ => none
  | .fieldAddr t x f => match σ.ev x with | some y => (match evFieldAddr T t y f with | some z => some (True, z) | none => none) | none => none
  | .field t x f => match σ.ev x with | some y => evField T t y f | none => none
  | .indexAddr t x i => match σ.ev x, σ.ev i with | some a, some b => evIndexAddr T t a b | _, _ => none
  | .index t x i => match σ.ev x, σ.ev i with | some a, some b => evIndex T t a b | _, _ => none
  | .extract x i => match σ.ev x with | some y => (match evExtract y i with | some z => some (True, z) | none => none) | none => none
  | .slice t x lo hi none => match σ.ev x, optEv σ lo, optEv σ hi with | some (.sl id sz off len), some l, some h => evSliceB T σ.h t id sz off len l h | some a, some l, some h => evSlice T t a l h | _, _, _ => none
  | .call c => match c.callee with
    | .builtin b => match evs σ c.args.toList with | some xs => evBuiltin T b c.argTypes xs | none => none
    | _ => none
  | _ => none

theorem evPure_run {C : Ctx} {T : Tab} (hT : tabOK C.P T) {M : Loc} {σ : St} {a : Act} {w : World} (hR : RelQ C M σ a w) {o : Oper} {p : Prop} {z : AV}
    (h : evPure T C.w0 C.S0 σ o = some (p, z)) (hp : p) : (execOp a.eval o).run C.P w = .ok (.value (conc M z)) w := by
  unfold evPure at h
  split at h
  · rename_i x ho
    split at h <;> cases h
    rename_i hy; simp [execOp, ho, hR.ev hy]
  · rename_i x ho
    split at h <;> cases h
    rename_i hy; simp [execOp, ho, hR.ev hy]
  · rename_i c x y ho
    split at h <;> first | (cases h; done) | skip
    · rename_i hc
      split at h <;> cases h
      rename_i hy; simp [execOp, ho, hR.ev hc, hR.ev hy, conc, asBool]
    · rename_i hc
      split at h <;> cases h
      rename_i hy; simp [execOp, ho, hR.ev hc, hR.ev hy, conc, asBool]
  · rename_i t x ho
    split at h <;> first | (cases h; done) | skip
    rename_i y hy
    have := loadOf_run hT hR h hp
    simp [execOp, ho, hR.ev hy, this]
  · rename_i x ho
    split at h <;> cases h
    all_goals rename_i hy; simp [execOp, ho, hR.ev hy, conc]
  · rename_i op t x y ty ho
    split at h <;> first | (cases h; done) | skip
    rename_i u v hu hv
    have := evBin_run hT (M := M) h hp w x y
    simp only [Sem.run_bind] at this
    simp only [execOp, ho, hR.ev hu, hR.ev hv, Sem.run_bind]
    cases hq : (eqGuard op t x y (conc M u) (conc M v)).run C.P w with
    | ok q w' => rw [hq] at this; simp only [Result.andThen_ok] at this ⊢; rw [this]; rfl
    | halt q w' => rw [hq] at this; simp at this
  · rename_i op t x ho
    split at h <;> first | (cases h; done) | skip
    rename_i y hy
    split at h <;> cases h
    rename_i hz
    simp [execOp, ho, hR.ev hy, evUn_run (P := C.P) (M := M) hz w]
  · rename_i s d x ho
    split at h <;> first | (cases h; done) | skip
    · rename_i hy
      have := evConvB_run hT hR h hp
      simp [execOp, ho, hR.ev hy, this]
    · rename_i y _ hy
      split at h <;> cases h
      rename_i hz
      simp [execOp, ho, hR.ev hy, evConv_run hT (M := M) hz w]
  · rename_i f first caps ho
    split at h <;> first | (cases h; done) | skip
    rename_i hf
    split at h <;> cases h
    rename_i l hl
    have h1 : first = #[] := by apply Array.ext'; exact hf
    have h2 : caps.map a.eval = (concL M l).toArray := by apply Array.ext'; simpa using evs_conc hR hl
    simp [execOp, ho, h1, h2, Instr.makeFunc, conc]
  · rename_i t x f ho
    split at h <;> first | (cases h; done) | skip
    rename_i y hy
    split at h <;> cases h
    rename_i hz
    simp [execOp, ho, hR.ev hy, evFieldAddr_run hT (M := M) hz w]
  · rename_i t x f ho
    split at h <;> first | (cases h; done) | skip
    rename_i y hy
    simp [execOp, ho, hR.ev hy, evField_run hT (M := M) h hp w]
  · rename_i t x i ho
    split at h <;> first | (cases h; done) | skip
    rename_i u v hu hv
    simp [execOp, ho, hR.ev hu, hR.ev hv, evIndexAddr_run hT (M := M) h hp w]
  · rename_i t x i ho
    split at h <;> first | (cases h; done) | skip
    rename_i u v hu hv
    simp [execOp, ho, hR.ev hu, hR.ev hv, evIndex_run hT (M := M) h hp w]
  · rename_i x i ho
    split at h <;> first | (cases h; done) | skip
    rename_i y hy
    split at h <;> cases h
    rename_i hz
    simp [execOp, ho, hR.ev hy, evExtract_run (P := C.P) (M := M) hz w]
  · rename_i t x lo hi ho
    split at h <;> first | (cases h; done) | skip
    · rename_i id sz off len l hh hu hl hhh
      have := evSliceB_run hT hR h hp
      rw [← optEv_conc hR hl, ← optEv_conc hR hhh] at this
      simp [execOp, ho, hR.ev hu, this]
    · rename_i u l hh _ hu hl hhh
      have := evSlice_run hT (M := M) h hp w
      rw [← optEv_conc hR hl, ← optEv_conc hR hhh] at this
      simp [execOp, ho, hR.ev hu, this]
  · rename_i c ho
    split at h <;> first | (cases h; done) | skip
    rename_i b hc
    split at h <;> first | (cases h; done) | skip
    rename_i xs hx
    have h2 : c.args.map a.eval = (concL M xs).toArray := by apply Array.ext'; simpa using evs_conc hR hx
    have := fun cs => evBuiltin_run hT (M := M) (ty := o.type) (cs := cs) h w
    simp [execOp, ho, resolve, hc, h2, invoke, this]
  · cases h

end Go.AM

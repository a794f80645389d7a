/-
  Own work, merged: AMO, R8, LPOP.
-/
import Derived.AtR
import Derived.Below
import Derived.ChangeKeysEq
import Derived.KernelRfl
import Derived.Laws.AppendOwn
import Derived.Laws.BytesString
import Derived.Laws.Cells
import Derived.Laws.CopyRow
import Derived.Laws.Entries
import Derived.Laws.Rows
import Derived.Laws.Small
import Derived.Laws.StructEq
import Derived.Maps.AppendAt
import Derived.OpenShut
import Derived.Orders
import Derived.ProofKit
import Derived.RangeFuncRecord
import Derived.Test.YtocpkgckllbjlaaDoorProg
import Derived.Test.YtocpkgckllbjlaaDoorQ29CE01
/-
  Arguments opened: plain lists. Own work; over any program.
-/
namespace Go.AM

theorem mapM_some {α β : Type} {f : α → Option β} : ∀ {l : List α} {ys : List β}, l.mapM f = some ys → ys.length = l.length ∧ ∀ (i : Nat) (a : α), l[i]? = some a → ∃ y, ys[i]? = some y ∧ f a = some y
  | [], ys, h => by
    simp at h
    subst h
    exact ⟨rfl, fun i a h => by simp at h⟩
  | x :: l, ys, h => by
    rw [List.mapM_cons] at h
    simp only [bind, Option.bind_eq_some_iff, pure, Option.some.injEq] at h
    obtain ⟨y, hy, ys', hys, rfl⟩ := h
    obtain ⟨h1, h2⟩ := mapM_some hys
    refine ⟨by simp [h1], fun i a hi => ?_⟩
    cases i with
    | zero => simp at hi; subst hi; exact ⟨y, by simp, hy⟩
    | succ i => simpa using h2 i a (by simpa using hi)

theorem wf_i64 {n : Int} (h : (Lit.int .i64 n).wf = true) : -9223372036854775808 ≤ n ∧ n ≤ 9223372036854775807 := by
  simp only [Lit.wf, IntKind.min, IntKind.max, IntKind.signed, IntKind.bits, Bool.and_eq_true, decide_eq_true_eq] at h
  simpa using h
theorem wf_u64 {n : Int} (h : (Lit.int .u64 n).wf = true) : n = un (BitVec.ofInt 64 n) := by
  simp only [Lit.wf, IntKind.min, IntKind.max, IntKind.signed, IntKind.bits, Bool.and_eq_true, decide_eq_true_eq] at h
  have h' : 0 ≤ n ∧ n ≤ 18446744073709551615 := by simpa using h
  rw [← wrap_u64_bv, wrap_u64] <;> omega

end Go.AM

/-
  Arguments of the rows on relations, opened. Own work.
-/
namespace Go.Proofs.YtocpkgckllbjlaaDoor
open Go.ChangeShapes Go.WideShapes Go.ChangeAt Go.RowKit Go.AM

section
variable {H : Type} {enc : TypeId × Value → H} {w W : World} {base b0 : Nat} {sp : Nat → Bool} {held : Bool} {v : Value} {d : DataW H} {ps : List MemPlace}

theorem open_rel (hval : Value.okWide Tryd.prog W .any b0 25 v) (hd : DataW.Trod enc Tryd.prog w base sp held 25 v d ps) : ∃ r : Rl, v = encRel r := by
  have hu := tab_undP tab_ok (t := 25) (d := .struct #[{ name := "N", type := 3, offset := 0, embedded := false, tag := "", pkgPath := "", byteOffset := 0 }, { name := "Rows", type := 23, offset := 1, embedded := false, tag := "", pkgPath := "", byteOffset := 8 }]) rfl
  have hi := tab_undP tab_ok (t := 3) (d := .int .i64) rfl
  have ha := tab_undP tab_ok (t := 23) (d := .array 64 22) rfl
  have hq := tab_undP tab_ok (t := 22) (d := .int .u64) rfl
  have c1 : Tryd.prog.cellsOf 25 = 65 := by kernel_rfl
  have c2 : Tryd.prog.cellsOf 3 = 1 := by kernel_rfl
  have c3 : Tryd.prog.cellsOf 23 = 64 := by kernel_rfl
  have c4 : Tryd.prog.cellsOf 22 = 1 := by kernel_rfl
  obtain ⟨cs, rfl, hsz⟩ := okWide_struct hu hval
  obtain ⟨fuel, hf⟩ := hd
  obtain ⟨y0, y1, n, _, hl, h0, h1⟩ := trod_struct2 hu hf
  simp only [Value.cells, c1, c2, c3, List.drop_zero] at hl h0 h1
  obtain ⟨N, hN, _, _⟩ := DataW.trod_int hi h0
  obtain ⟨xs, m, _, _, hl2, hlen, hel⟩ := DataW.trod_array ha h1
  have hrow : ∀ i, i < 64 → ∃ z : BitVec 64, cs.toList[1 + i]? = some (.int .u64 (un z)) := by
    intro i hi'
    have he := hel i hi'
    rw [c4, List.getElem?_eq_getElem (by omega)] at he
    obtain ⟨k, hk, _, hw⟩ := DataW.trod_int hq he
    refine ⟨BitVec.ofInt 64 k, ?_⟩
    rw [← wf_u64 hw]
    have := congrArg (fun l : List Value => l[0]?) hk
    simp only [List.getElem?_take, List.getElem?_drop, List.getElem?_cons_zero] at this
    rw [if_pos (by omega), if_pos (by omega)] at this
    rw [← this]; congr 1; omega
  obtain ⟨f, hf2⟩ : ∃ f : Nat → BitVec 64, ∀ i, i < 64 → cs.toList[1 + i]? = some (.int .u64 (un (f i))) :=
    ⟨fun i => if h : i < 64 then (hrow i h).choose else 0#64, fun i h => by simp only [dif_pos h]; exact (hrow i h).choose_spec⟩
  refine ⟨Rl.by_ N f, ?_⟩
  have hn : cs.toList[0]? = some (.int .i64 N) := by
    have := congrArg (fun l : List Value => l[0]?) hN
    simpa using this
  rw [encRel]
  congr 1
  apply Array.ext'
  show cs.toList = relV _
  apply List.ext_getElem?
  intro j
  cases j with
  | zero => rw [hn]; rfl
  | succ j =>
    by_cases hj : j < 64
    · rw [Nat.add_comm, relV_get _ _ hj, Rl.row_by, if_pos hj]
      exact hf2 j hj
    · rw [List.getElem?_eq_none (by omega), List.getElem?_eq_none (by rw [relV_length]; omega)]

theorem open_edges (hval : Value.okWide Tryd.prog W .any b0 29 v) (hd : DataW.Trod enc Tryd.prog w base sp held 29 v d ps) :
    ∃ (p : Option Addr) (c : Nat) (xs : List (Int × Int)), v = .slice p xs.length c ∧ SeesE w p xs ∧ (p = none → xs = [] ∧ c = 0) ∧ xs.length ≤ maxLen ∧ ((∃ es rest, d = .slice es rest ∧ es.length = xs.length) ∨ xs = []) := by
  have hs := tab_undP tab_ok (t := 29) (d := .slice 67) rfl
  have hu := tab_undP tab_ok (t := 67) (d := .struct #[{ name := "A", type := 3, offset := 0, embedded := false, tag := "", pkgPath := "", byteOffset := 0 }, { name := "B", type := 3, offset := 1, embedded := false, tag := "", pkgPath := "", byteOffset := 8 }]) rfl
  have hi := tab_undP tab_ok (t := 3) (d := .int .i64) rfl
  have c1 : Tryd.prog.cellsOf 67 = 2 := by kernel_rfl
  have c2 : Tryd.prog.cellsOf 3 = 1 := by kernel_rfl
  obtain ⟨p, len, cap, rfl⟩ := okWide_slice hs hval
  obtain ⟨fuel, hf⟩ := hd
  simp only [Value.cells] at hf
  rcases DataW.trod_slice hs hf with ⟨hcs, _⟩ | ⟨a, len', cap', elems, rest, n, _, hcs, hx, _, hlc, hcm, hle, hel, _, _⟩
  · simp at hcs
    obtain ⟨rfl, rfl, rfl⟩ := hcs
    exact ⟨none, 0, [], rfl, fun i h => by simp at h, fun _ => ⟨rfl, rfl⟩, Nat.zero_le _, .inr rfl⟩
  · simp at hcs
    obtain ⟨rfl, rfl, rfl⟩ := hcs
    have key : ∀ i, i < len → ∃ A B : Int, w.cell? (a.add (i * 2)) = some (.int .i64 A) ∧ w.cell? (a.add (i * 2 + 1)) = some (.int .i64 B) := by
      intro i hi'
      have he := hel i hi'
      rw [c1, List.getElem?_eq_getElem (by omega)] at he
      simp only [Option.bind_eq_some_iff] at he
      obtain ⟨cs, hcs, ht⟩ := he
      unfold World.cells? at hcs
      split at hcs
      · obtain ⟨m1, m2⟩ := mapM_some hcs
        obtain ⟨u0, g0, g0'⟩ := m2 0 0 rfl
        obtain ⟨u1, g1, g1'⟩ := m2 1 1 rfl
        obtain ⟨y0, y1, n, _, _, h0, h1⟩ := trod_struct2 hu ht
        simp only [c2, List.drop_zero] at h0 h1
        obtain ⟨A, hA, _, _⟩ := DataW.trod_int hi h0
        obtain ⟨B, hB, _, _⟩ := DataW.trod_int hi h1
        have e0 := congrArg (fun l : List Value => l[0]?) hA
        have e1 := congrArg (fun l : List Value => l[0]?) hB
        simp at e0 e1
        rw [e0] at g0
        rw [e1] at g1
        cases g0; cases g1
        rw [add_add] at g0' g1'
        exact ⟨A, B, g0', g1'⟩
      · cases hcs
    obtain ⟨g, hg⟩ : ∃ g : Nat → Int × Int, ∀ i, i < len → w.cell? (a.add (i * 2)) = some (.int .i64 (g i).1) ∧ w.cell? (a.add (i * 2 + 1)) = some (.int .i64 (g i).2) :=
      ⟨fun i => if h : i < len then ((key i h).choose, (key i h).choose_spec.choose) else (0, 0), fun i h => by simp only [dif_pos h]; exact (key i h).choose_spec.choose_spec⟩
    refine ⟨some a, cap, (List.range len).map g, by simp, ?_, fun h => (by cases h), by simp; omega, .inl ⟨elems.map (·.1), rest.map (·.1), ?_, by simp [hle]⟩⟩
    · intro i hi'
      have hlt : i < len := by simpa using hi'
      obtain ⟨k1, k2⟩ := hg i hlt
      have eg : ((List.range len).map g)[i] = g i := by simp
      rw [eg]
      refine ⟨rfl, ?_, ?_⟩
      · simp only [extCells, Option.getD_some, add_add, Nat.add_zero, Nat.zero_add, k1, k2]
      · intro j hj
        rcases (show j = 0 ∨ j = 1 by omega) with rfl | rfl
        · simp only [Option.getD_some, add_add, Nat.add_zero, k1, Option.isSome_some]
        · simp only [Option.getD_some, add_add, k2, Option.isSome_some]
    · simp only [Prod.mk.injEq] at hx; exact hx.1
end
end Go.Proofs.YtocpkgckllbjlaaDoor

/-
  The count of a word's one bits, as math/bits reckons it: fields of bits summed side by side. Plain arithmetic; of no program. Own work.
-/
namespace Go.AM

/-- How many of the first n bits are one. -/
def pop : Nat → Nat → Nat
  | 0, _ => 0
  | n + 1, x => x % 2 + pop n (x / 2)

def dsum (k : Nat) : Nat → Nat → Nat
  | 0, _ => 0
  | m + 1, x => x % 2 ^ k + dsum k m (x / 2 ^ k)

def dle (k : Nat) (B : Nat) : Nat → Nat → Prop
  | 0, _ => True
  | m + 1, x => x % 2 ^ k ≤ B ∧ dle k B m (x / 2 ^ k)

def msk (k : Nat) : Nat → Nat
  | 0 => 0
  | m + 1 => (2 ^ k - 1) + 2 ^ (2 * k) * msk k m

def st (k m x : Nat) : Nat := ((x / 2 ^ k) &&& msk k m) + (x &&& msk k m)

theorem and_split (j x c d : Nat) (hc : c < 2 ^ j) : x &&& (c + 2 ^ j * d) = ((x % 2 ^ j) &&& c) + 2 ^ j * ((x / 2 ^ j) &&& d) := by
  have h1 : (x % 2 ^ j) &&& c < 2 ^ j := Nat.and_lt_two_pow _ hc
  apply Nat.eq_of_testBit_eq
  intro i
  rw [Nat.add_comm c, Nat.add_comm (_ &&& c), Nat.testBit_and, Nat.testBit_two_pow_mul_add _ hc, Nat.testBit_two_pow_mul_add _ h1]
  by_cases hi : i < j
  · simp [hi, Nat.testBit_mod_two_pow]
  · simp only [hi, if_false, Nat.testBit_and, Nat.testBit_div_two_pow]
    rw [show i - j + j = i by omega]

theorem st_succ (k m x : Nat) (hk : 0 < k) : st k (m + 1) x = (x % 2 ^ k + x / 2 ^ k % 2 ^ k) + 2 ^ (2 * k) * st k m (x / 2 ^ (2 * k)) := by
  have hp : 2 ^ (2 * k) = 2 ^ k * 2 ^ k := by rw [Nat.two_mul, Nat.pow_add]
  have hpos : 0 < 2 ^ k := Nat.two_pow_pos k
  have hc : 2 ^ k - 1 < 2 ^ (2 * k) := by
    have : 2 ^ k ≤ 2 ^ k * 2 ^ k := Nat.le_mul_of_pos_right _ hpos
    omega
  unfold st
  simp only [msk]
  rw [and_split _ _ _ _ hc, and_split _ _ _ _ hc, Nat.and_two_pow_sub_one_eq_mod, Nat.and_two_pow_sub_one_eq_mod]
  have e1 : x / 2 ^ k % 2 ^ (2 * k) % 2 ^ k = x / 2 ^ k % 2 ^ k := by rw [hp, Nat.mod_mul_right_mod]
  have e2 : x % 2 ^ (2 * k) % 2 ^ k = x % 2 ^ k := by rw [hp, Nat.mod_mul_right_mod]
  have e3 : x / 2 ^ k / 2 ^ (2 * k) = x / 2 ^ (2 * k) / 2 ^ k := by rw [Nat.div_div_eq_div_mul, Nat.div_div_eq_div_mul, Nat.mul_comm]
  rw [e1, e2, e3, Nat.mul_add]
  omega

theorem two_lt (k : Nat) (hk : 0 < k) : 2 ^ k - 1 + (2 ^ k - 1) < 2 ^ (2 * k) := by
  have hp : 2 ^ (2 * k) = 2 ^ k * 2 ^ k := by rw [Nat.two_mul, Nat.pow_add]
  have h2 : 2 ≤ 2 ^ k := by
    have : 2 ^ 1 ≤ 2 ^ k := Nat.pow_le_pow_right (by decide) hk
    simpa using this
  have : 2 * 2 ^ k ≤ 2 ^ k * 2 ^ k := Nat.mul_le_mul_right _ h2
  omega

theorem st_parts (k m x : Nat) (hk : 0 < k) : st k (m + 1) x % 2 ^ (2 * k) = x % 2 ^ k + x / 2 ^ k % 2 ^ k ∧ st k (m + 1) x / 2 ^ (2 * k) = st k m (x / 2 ^ (2 * k)) := by
  rw [st_succ k m x hk]
  have h1 := Nat.mod_lt x (Nat.two_pow_pos k)
  have h2 := Nat.mod_lt (x / 2 ^ k) (Nat.two_pow_pos k)
  have h3 := two_lt k hk
  have hlt : x % 2 ^ k + x / 2 ^ k % 2 ^ k < 2 ^ (2 * k) := by omega
  constructor
  · rw [Nat.add_mul_mod_self_left, Nat.mod_eq_of_lt hlt]
  · rw [Nat.add_mul_div_left _ _ (Nat.two_pow_pos _), Nat.div_eq_of_lt hlt, Nat.zero_add]

theorem div_two (k x : Nat) : x / 2 ^ k / 2 ^ k = x / 2 ^ (2 * k) := by rw [Nat.div_div_eq_div_mul, ← Nat.pow_add, Nat.two_mul]

theorem dsum_st (k : Nat) (hk : 0 < k) : ∀ m x, dsum (2 * k) m (st k m x) = dsum k (2 * m) x
  | 0, x => rfl
  | m + 1, x => by
    obtain ⟨h1, h2⟩ := st_parts k m x hk
    rw [show 2 * (m + 1) = 2 * m + 1 + 1 by omega]
    simp only [dsum]
    rw [h1, h2, dsum_st k hk m, div_two]
    omega

theorem dle_st (k B : Nat) (hk : 0 < k) : ∀ m x, dle k B (2 * m) x → dle (2 * k) (2 * B) m (st k m x)
  | 0, x, _ => trivial
  | m + 1, x, h => by
    obtain ⟨h1, h2⟩ := st_parts k m x hk
    rw [show 2 * (m + 1) = 2 * m + 1 + 1 by omega] at h
    simp only [dle] at h ⊢
    rw [h1, h2]
    refine ⟨by omega, dle_st k B hk m _ ?_⟩
    rw [← div_two]; exact h.2.2

/-- Where the fields are small the sum can be masked once. -/
theorem once (k B : Nat) (hk : 0 < k) (hB : 2 * B < 2 ^ k) : ∀ m x, dle k B (2 * m) x → x < 2 ^ (2 * k * m) → (x / 2 ^ k + x) &&& msk k m = st k m x
  | 0, x, _, _ => by simp [st, msk]
  | m + 1, x, h, hx => by
    have hp : 2 ^ (2 * k) = 2 ^ k * 2 ^ k := by rw [Nat.two_mul, Nat.pow_add]
    have hpos : 0 < 2 ^ k := Nat.two_pow_pos k
    have hc : 2 ^ k - 1 < 2 ^ (2 * k) := by
      have : 2 ^ k ≤ 2 ^ k * 2 ^ k := Nat.le_mul_of_pos_right _ hpos
      omega
    rw [show 2 * (m + 1) = 2 * m + 1 + 1 by omega] at h
    simp only [dle] at h
    obtain ⟨ha, hb, hr⟩ := h
    rw [div_two] at hr
    have hx' : x / 2 ^ (2 * k) < 2 ^ (2 * k * m) := by
      rw [Nat.div_lt_iff_lt_mul (Nat.two_pow_pos _), ← Nat.pow_add]
      rwa [show 2 * k * m + 2 * k = 2 * k * (m + 1) by rw [Nat.mul_add, Nat.mul_one]]
    have hlow : (x / 2 ^ (2 * k)) % 2 ^ k ≤ B := by
      cases m with
      | zero =>
        have h0 : x / 2 ^ (2 * k) = 0 := by
          have h1 : 2 ^ (2 * k * 0) = 1 := rfl
          rw [h1] at hx'; exact Nat.lt_one_iff.1 hx'
        rw [h0]; simp
      | succ m =>
        rw [show 2 * (m + 1) = 2 * m + 1 + 1 by omega] at hr
        simp only [dle] at hr
        exact hr.1
    have ih := once k B hk hB m _ hr hx'
    rw [st_succ k m x hk, ← ih]
    simp only [msk]
    rw [and_split _ _ _ _ hc, Nat.and_two_pow_sub_one_eq_mod]
    -- the fields of x
    generalize hd0 : x % 2 ^ k = d0 at *
    generalize hd1 : x / 2 ^ k % 2 ^ k = d1 at *
    generalize hx2 : x / 2 ^ (2 * k) = x2 at *
    have e1 : x / 2 ^ k = d1 + 2 ^ k * x2 := by rw [← hd1, ← hx2, ← div_two]; exact (Nat.mod_add_div _ _).symm
    have e0 : x = d0 + 2 ^ k * (d1 + 2 ^ k * x2) := by rw [← e1, ← hd0]; exact (Nat.mod_add_div _ _).symm
    have eS : x / 2 ^ k + x = (d0 + d1) + 2 ^ k * (x2 + d1 + 2 ^ k * x2) := by
      rw [e1]; conv => lhs; rw [e0]
      simp only [Nat.mul_add]
      omega
    have q1 : (x / 2 ^ k + x) % 2 ^ (2 * k) % 2 ^ k = d0 + d1 := by
      rw [hp, Nat.mod_mul_right_mod, eS, Nat.add_mul_mod_self_left, Nat.mod_eq_of_lt (by omega)]
    have q2 : (x / 2 ^ k + x) / 2 ^ (2 * k) = x2 / 2 ^ k + x2 := by
      rw [eS, hp, ← Nat.div_div_eq_div_mul, Nat.add_mul_div_left _ _ hpos, Nat.div_eq_of_lt (show d0 + d1 < 2 ^ k by omega), Nat.zero_add, Nat.add_mul_div_left _ _ hpos]
      congr 1
      have : x2 + d1 = (x2 % 2 ^ k + d1) + 2 ^ k * (x2 / 2 ^ k) := by have := Nat.mod_add_div x2 (2 ^ k); omega
      rw [this, Nat.add_mul_div_left _ _ hpos, Nat.div_eq_of_lt (show x2 % 2 ^ k + d1 < 2 ^ k by omega), Nat.zero_add]
    rw [q1, q2]

theorem st_lt (k : Nat) (hk : 0 < k) : ∀ m x, st k m x < 2 ^ (2 * k * m)
  | 0, x => by simp [st, msk]
  | m + 1, x => by
    obtain ⟨h1, h2⟩ := st_parts k m x hk
    rw [show 2 * k * (m + 1) = 2 * k * m + 2 * k by rw [Nat.mul_add, Nat.mul_one], Nat.pow_add, ← Nat.div_lt_iff_lt_mul (Nat.two_pow_pos _), h2]
    exact st_lt k hk m _

theorem dle_bits : ∀ m x, dle 1 1 m x
  | 0, _ => trivial
  | m + 1, x => ⟨by have := Nat.mod_lt x (show 0 < 2 ^ 1 by decide); omega, dle_bits m _⟩

theorem dsum_bits : ∀ m x, dsum 1 m x = pop m x
  | 0, _ => rfl
  | m + 1, x => by simp only [dsum, pop, Nat.pow_one, dsum_bits m]

theorem msk0 : msk 1 32 = 6148914691236517205 := by decide
theorem msk1 : msk 2 16 = 3689348814741910323 := by decide
theorem msk2 : msk 4 8 = 1085102592571150095 := by decide

/-- The last three sums: eight small bytes. -/
theorem bytes_sum (x : Nat) (h : dle 8 8 8 x) (hx : x < 18446744073709551616) :
    (let y := (x + x / 256) % 18446744073709551616
     let z := (y + y / 65536) % 18446744073709551616
     (z + z / 4294967296) % 18446744073709551616) % 128 = dsum 8 8 x := by
  simp only [dle, dsum, Nat.reducePow] at h ⊢
  obtain ⟨h0, h1, h2, h3, h4, h5, h6, h7, -⟩ := h
  generalize hx1 : x / 256 = x1 at *
  generalize hx2 : x1 / 256 = x2 at *
  generalize hx3 : x2 / 256 = x3 at *
  generalize hx4 : x3 / 256 = x4 at *
  generalize hx5 : x4 / 256 = x5 at *
  generalize hx6 : x5 / 256 = x6 at *
  generalize hx7 : x6 / 256 = x7 at *
  obtain ⟨c0, e0⟩ : ∃ c, c = x % 256 := ⟨_, rfl⟩
  obtain ⟨c1, e1⟩ : ∃ c, c = x1 % 256 := ⟨_, rfl⟩
  obtain ⟨c2, e2⟩ : ∃ c, c = x2 % 256 := ⟨_, rfl⟩
  obtain ⟨c3, e3⟩ : ∃ c, c = x3 % 256 := ⟨_, rfl⟩
  obtain ⟨c4, e4⟩ : ∃ c, c = x4 % 256 := ⟨_, rfl⟩
  obtain ⟨c5, e5⟩ : ∃ c, c = x5 % 256 := ⟨_, rfl⟩
  obtain ⟨c6, e6⟩ : ∃ c, c = x6 % 256 := ⟨_, rfl⟩
  obtain ⟨c7, e7⟩ : ∃ c, c = x7 % 256 := ⟨_, rfl⟩
  have k7 : x7 = c7 := by omega
  have k6 : x6 = c6 + 256 * c7 := by omega
  have k5 : x5 = c5 + 256 * x6 := by omega
  have k4 : x4 = c4 + 256 * x5 := by omega
  have k3 : x3 = c3 + 256 * x4 := by omega
  have k2 : x2 = c2 + 256 * x3 := by omega
  have k1 : x1 = c1 + 256 * x2 := by omega
  have k0 : x = c0 + 256 * x1 := by omega
  rw [← e0, ← e1, ← e2, ← e3, ← e4, ← e5, ← e6, ← e7]
  rw [← e0] at h0
  rw [← e1] at h1
  rw [← e2] at h2
  rw [← e3] at h3
  rw [← e4] at h4
  rw [← e5] at h5
  rw [← e6] at h6
  rw [← e7] at h7
  clear e0 e1 e2 e3 e4 e5 e6 e7 hx1 hx2 hx3 hx4 hx5 hx6 hx7 hx
  have hx1 : x1 = c1 + 256 * c2 + 65536 * c3 + 16777216 * c4 + 4294967296 * c5 + 1099511627776 * c6 + 281474976710656 * c7 := by omega
  have y1 : (x + x1) % 18446744073709551616 = (c0 + c1) + 256 * (c1 + c2) + 65536 * (c2 + c3) + 16777216 * (c3 + c4) + 4294967296 * (c4 + c5) + 1099511627776 * (c5 + c6) + 281474976710656 * (c6 + c7) + 72057594037927936 * c7 := by omega
  clear hx1 k0 k1 k2 k3 k4 k5 k6 k7
  rw [y1]
  clear y1
  generalize hy : (c0 + c1) + 256 * (c1 + c2) + 65536 * (c2 + c3) + 16777216 * (c3 + c4) + 4294967296 * (c4 + c5) + 1099511627776 * (c5 + c6) + 281474976710656 * (c6 + c7) + 72057594037927936 * c7 = y
  have y2 : y / 65536 = (c2 + c3) + 256 * (c3 + c4) + 65536 * (c4 + c5) + 16777216 * (c5 + c6) + 4294967296 * (c6 + c7) + 1099511627776 * c7 := by omega
  have z1 : (y + y / 65536) % 18446744073709551616 = (c0 + c1 + c2 + c3) + 256 * (c1 + c2 + c3 + c4) + 65536 * (c2 + c3 + c4 + c5) + 16777216 * (c3 + c4 + c5 + c6) + 4294967296 * (c4 + c5 + c6 + c7) + 1099511627776 * (c5 + c6 + c7) + 281474976710656 * (c6 + c7) + 72057594037927936 * c7 := by omega
  rw [z1]
  clear z1 y2 hy
  generalize hz : (c0 + c1 + c2 + c3) + 256 * (c1 + c2 + c3 + c4) + 65536 * (c2 + c3 + c4 + c5) + 16777216 * (c3 + c4 + c5 + c6) + 4294967296 * (c4 + c5 + c6 + c7) + 1099511627776 * (c5 + c6 + c7) + 281474976710656 * (c6 + c7) + 72057594037927936 * c7 = z
  have z2 : z / 4294967296 = (c4 + c5 + c6 + c7) + 256 * (c5 + c6 + c7) + 65536 * (c6 + c7) + 16777216 * c7 := by omega
  omega

/-- bits.OnesCount64's own reckoning, over numbers. -/
theorem pop_swar (x : Nat) (hx : x < 18446744073709551616) :
    (let a := ((x / 2 &&& 6148914691236517205) + (x &&& 6148914691236517205)) % 18446744073709551616
     let b := ((a / 4 &&& 3689348814741910323) + (a &&& 3689348814741910323)) % 18446744073709551616
     let c := (b / 16 + b) % 18446744073709551616 &&& 1085102592571150095
     let y := (c + c / 256) % 18446744073709551616
     let z := (y + y / 65536) % 18446744073709551616
     (z + z / 4294967296) % 18446744073709551616) % 128 = pop 64 x := by
  have ha : (x / 2 &&& 6148914691236517205) + (x &&& 6148914691236517205) = st 1 32 x := by unfold st; rw [msk0]
  have la := st_lt 1 (by decide) 32 x
  have hb : (st 1 32 x / 4 &&& 3689348814741910323) + (st 1 32 x &&& 3689348814741910323) = st 2 16 (st 1 32 x) := by
    rw [← msk1]; rfl
  have lb := st_lt 2 (by decide) 16 (st 1 32 x)
  have d1 := dle_bits 64 x
  have d2 := dle_st 1 1 (by decide) 32 x d1
  have d3 := dle_st 2 2 (by decide) 16 _ d2
  have hc := once 4 4 (by decide) (by decide) 8 _ d3 (by simpa using lb)
  have d4 := dle_st 4 4 (by decide) 8 _ d3
  have lc := st_lt 4 (by decide) 8 (st 2 16 (st 1 32 x))
  have s1 := dsum_st 1 (by decide) 32 x
  have s2 := dsum_st 2 (by decide) 16 (st 1 32 x)
  have s3 := dsum_st 4 (by decide) 8 (st 2 16 (st 1 32 x))
  simp only [Nat.reduceMul, Nat.reducePow] at *
  rw [ha, Nat.mod_eq_of_lt la, hb, Nat.mod_eq_of_lt lb]
  rw [← dsum_bits, ← s1, ← s2, ← s3, ← bytes_sum _ d4 lc]
  generalize hg : st 2 16 (st 1 32 x) = b at *
  have hsm : b / 16 + b < 18446744073709551616 := by
    simp only [dle, Nat.reducePow] at d3
    omega
  rw [Nat.mod_eq_of_lt hsm]
  rw [msk2] at hc
  rw [hc]

theorem pop_le : ∀ n x, pop n x ≤ n
  | 0, _ => Nat.le_refl _
  | n + 1, x => by have := pop_le n (x / 2); simp only [pop]; omega

end Go.AM

/-
  Own work, merged: J5, K9, W1, K1.
-/
import Derived.AtR
import Derived.Below
import Derived.ChangeKeysEq
import Derived.KernelRfl
import Derived.Laws.AppendOwn
import Derived.Laws.BytesString
import Derived.Laws.Cells
import Derived.Laws.CopyRow
import Derived.Laws.Entries
import Derived.Laws.Externs
import Derived.Laws.Rows
import Derived.Laws.Small
import Derived.Laws.StructEq
import Derived.Lib.ItoaNum
import Derived.Lib.TrailingZeros
import Derived.Maps.AppendAt
import Derived.Orders
import Derived.RangeFuncRecord
import Derived.Test.YtpfanhbkjajocaaDoorProg
import Derived.Test.YtpfanhbkjajocaaDoorQBD581D
/-
  A number's digits to a base: the reference's. Own work.
-/
namespace Go.Proofs.YtpfanhbkjajocaaDoor
open Go.AM
set_option maxRecDepth 100000

def dgC (i : Nat) : UInt8 := if i < 10 then UInt8.ofNat (48 + i) else UInt8.ofNat (87 + i)
def digB (b u : Nat) : List UInt8 := if _h : u < b ∨ b < 2 then [dgC u] else digB b (u / b) ++ [dgC (u % b)]
termination_by u
decreasing_by
  exact Nat.div_lt_self (by omega) (by omega)

theorem digB_lt {b u : Nat} (h : u < b) : digB b u = [dgC u] := by rw [digB, dif_pos (.inl h)]
theorem digB_ge {b u : Nat} (h : b ≤ u) (hb : 2 ≤ b) : digB b u = digB b (u / b) ++ [dgC (u % b)] := by rw [digB, dif_neg (by omega)]
theorem digB_10 (u : Nat) : digB 10 u = Lib.decDigits u := by
  induction u using Nat.strongRecOn with
  | _ u ih =>
    rw [Lib.decDigits]
    by_cases h : u < 10
    · rw [digB_lt h, dif_pos h]; simp [dgC, h]
    · rw [digB_ge (by omega) (by omega), dif_neg h, ih _ (by omega)]
      have : u % 10 < 10 := by omega
      simp [dgC, this]
theorem digB_len {b : Nat} (hb : 2 ≤ b) : ∀ (u k : Nat), u < 2 ^ k → 1 ≤ k → (digB b u).length ≤ k := by
  intro u
  induction u using Nat.strongRecOn with
  | _ u ih =>
    intro k hu hk
    by_cases h : u < b
    · rw [digB_lt h]; simpa using hk
    · rw [digB_ge (by omega) hb, List.length_append]
      have hlt : u / b < u := Nat.div_lt_self (by omega) (by omega)
      have hk2 : 2 ≤ k := by
        rcases Nat.lt_or_ge k 2 with h2 | h2
        · have : k = 1 := by omega
          subst this; simp at hu; omega
        · exact h2
      have h3 : u / b < 2 ^ (k - 1) := by
        have h4 : u / b ≤ u / 2 := Nat.div_le_div_left hb (by omega)
        have h5 : 2 ^ k = 2 * 2 ^ (k - 1) := by rw [← Nat.pow_succ']; congr 1; omega
        omega
      have := ih _ hlt (k - 1) h3 (by omega)
      simp only [List.length_singleton]
      omega
theorem digB_ne {b u : Nat} (hb : 2 ≤ b) : digB b u ≠ [] := by
  by_cases h : u < b
  · rw [digB_lt h]; simp
  · rw [digB_ge (by omega) hb]; simp

def hexD : ByteArray := ⟨#[48, 49, 50, 51, 52, 53, 54, 55, 56, 57, 97, 98, 99, 100, 101, 102]⟩

theorem hex_at (i : Nat) (h : i < 16) : hexD.extract i (i + 1) = ⟨#[dgC i]⟩ := by
  have key : ∀ i : Fin 16, hexD.extract i.val (i.val + 1) = ⟨#[dgC i.val]⟩ := by decide +kernel
  exact key ⟨i, h⟩
theorem hex_app (i : Nat) (h : i < 16) (acc : List UInt8) : hexD.extract i (i + 1) ++ (⟨acc.toArray⟩ : ByteArray) = ⟨(dgC i :: acc).toArray⟩ := by
  rw [hex_at i h]; apply ByteArray.ext; simp

set_option maxHeartbeats 1000000 in
theorem in_ok (b : Nat) (hb : 2 ≤ b) (hb16 : b ≤ 16) (u : Nat) (hu : u < 2 ^ 64) (w : World) :
    Gives Tryd.prog 71 [.int .u64 (u : Int), .int .u64 (b : Int)] w (.string ⟨(digB b u).toArray⟩) := by
  refine Gives.of_run Tryd.func71 rfl (by show 2 ≤ 28; decide) ?_
  refine RunF_sound tab_ok noX_local 100 [] _ _ rfl ?_ ?_
  · simp
  suffices H : ∀ (v : Nat) (acc : List UInt8), v < 2 ^ 64 → (digB b v).length + acc.length ≤ 64 → digB b v ++ acc = digB b u → ∀ σ, inT σ.t [(0, .v (.int .u64 (v : Int))), (1, .v (.int .u64 (b : Int))), (5, .v (.string ⟨acc.toArray⟩))] → inT σ.h [] → Run _ _ σ by
    exact H u [] hu (by have := digB_len hb u 64 hu (by decide); simpa using this) (by simp) _ ⟨rfl, rfl, rfl, trivial⟩ trivial
  intro v
  induction v using Nat.strongRecOn with
  | _ v ih =>
    intro acc hv hl he σ ht hh
    refine Run.to ?_ ht hh (n' := 0)
    have hsz : (⟨acc.toArray⟩ : ByteArray).size = acc.length := rfl
    by_cases hvb : v < b
    · have hw1 : IntKind.u64.wrap ((v : Int) + 1) = ((v + 1 : Nat) : Int) := by rw [wrap_u64 (by omega) (by omega)]; omega
      refine RunF_sound tab_ok noX_local 100 [false] _ _ rfl ?_ ?_
      · simp only [hw1, Int.toNat_natCast]
        simp [hsz]
        refine ⟨hvb, ⟨⟨by omega, ?_⟩, by omega⟩, ?_⟩
        · show ((v : Int) + 1) ≤ (16 : Nat); omega
        · omega
      simp only [hw1, Int.toNat_natCast]
      refine Run.retP tab_ok Tryd.func71 rfl trivial (fun M => ?_)
      have := hex_app v (by omega) acc
      rw [← he, digB_lt hvb]
      exact congrArg Value.string this
    · have hrem : (v : Int).tmod (b : Int) = ((v % b : Nat) : Int) := (Int.ofNat_tmod v b).symm
      have hquo : (v : Int).tdiv (b : Int) = ((v / b : Nat) : Int) := (Int.ofNat_tdiv v b).symm
      have hlt := Nat.mod_lt v (show 0 < b by omega)
      have hw1 : IntKind.u64.wrap (((v % b : Nat) : Int) + 1) = ((v % b + 1 : Nat) : Int) := by rw [wrap_u64 (by omega) (by omega)]; omega
      refine RunF_sound tab_ok noX_local 100 [true] _ _ rfl ?_ ?_
      · simp
        omega
      refine Run.drawA noX_local rfl [] [] rfl rfl trivial ?_
      refine RunOF_sound tab_ok noX_local rfl rfl 100 [] _ _ rfl ?_ ?_
      · simp only [hrem, hw1, Int.toNat_natCast]
        simp [hsz]
        refine ⟨by omega, ⟨⟨by omega, ?_⟩, by omega⟩, ?_⟩
        · show (((v % b : Nat) : Int) + 1) ≤ (16 : Nat); omega
        · omega
      simp only [hrem, hw1, Int.toNat_natCast]
      refine RunO.done ?_
      refine RunF_sound tab_ok noX_local 100 [] _ _ rfl ?_ ?_
      · simp
        omega
      have hdl : v / b < v := Nat.div_lt_self (by omega) (by omega)
      refine ih (v / b) hdl (dgC (v % b) :: acc) (by omega) ?_ ?_ _ ⟨?_, rfl, ?_, trivial⟩ trivial
      · rw [digB_ge (by omega) hb, List.length_append] at hl
        simp at hl ⊢
        omega
      · have hd : digB b v = digB b (v / b) ++ [dgC (v % b)] := digB_ge (by omega) hb
        rw [← he, hd]; simp
      · refine congrArg (fun z => some (AV.v (Value.int .u64 z))) ?_
        have hqb : ((v / b : Nat) : Int) ≤ 18446744073709551615 := by generalize v / b = q at hdl; omega
        rw [hquo, wrap_u64 (Int.natCast_nonneg _) hqb]
      · exact congrArg (fun z => some (AV.v (Value.string z))) (hex_app (v % b) (by omega) acc)
end Go.Proofs.YtpfanhbkjajocaaDoor

/-
  Texts of numbers, read: in plain Lean. Own work.
-/
namespace Go.Proofs.YtpfanhbkjajocaaDoor
open Go.AM

theorem tk_list (L : List UInt8) (i : Nat) : tk ⟨L.toArray⟩ (i : Int) = ((L[i]?.getD 0).toNat : Int) := by
  unfold tk
  rw [Int.toNat_natCast]
  have e : (⟨L.toArray⟩ : ByteArray)[i]? = L[i]? := by
    simp only [getElem?_def]
    by_cases h : i < L.length
    · rw [dif_pos h, dif_pos (show i < (⟨L.toArray⟩ : ByteArray).size from h)]; rfl
    · rw [dif_neg h, dif_neg (show ¬ i < (⟨L.toArray⟩ : ByteArray).size from h)]
  rw [e]
theorem tk_mid (P D : List UInt8) (c : UInt8) : tk ⟨(P ++ c :: D).toArray⟩ ((P.length : Nat) : Int) = (c.toNat : Int) := by
  rw [tk_list, List.getElem?_append_right (Nat.le_refl _)]
  simp

def dU (c : UInt8) : Int := dv (c.toNat : Int)
/-- Digits' value. -/
def hv (B : Int) (v : Int) (D : List UInt8) : Int := D.foldl (fun v c => v * B + dU c) v

theorem dU_nonneg (c : UInt8) : 0 ≤ dU c := (dv_bounds _).1
theorem hv_ge {B : Int} (hB : 1 ≤ B) : ∀ (D : List UInt8) (v : Int), 0 ≤ v → v ≤ hv B v D
  | [], v, _ => Int.le_refl _
  | c :: D, v, h => by
    have h1 := dU_nonneg c
    have h2 : v ≤ v * B := by
      have := Int.mul_le_mul_of_nonneg_left hB h
      omega
    have := hv_ge hB D (v * B + dU c) (by omega)
    show v ≤ hv B (v * B + dU c) D
    omega

theorem dgo_read {B : Int} (hB : 1 ≤ B) (T : List UInt8) (hT : ∀ c T', T = c :: T' → ¬ dU c < B) : ∀ (D P : List UInt8) (v : Int), 0 ≤ v → (∀ c ∈ D, dU c < B) → hv B v D < 18446744073709551616 →
    dgo ⟨(P ++ (D ++ T)).toArray⟩ B (D.length + T.length) P.length v false = (hv B v D, false, P.length + D.length)
  | [], P, v, hv0, _, _ => by
    cases T with
    | nil => rfl
    | cons t T =>
      have h1 : ¬ dv (t.toNat : Int) < B := hT t T rfl
      have h2 := tk_mid P T t
      show dgo _ B (0 + (T.length + 1)) P.length v false = _
      rw [Nat.zero_add]
      unfold dgo
      rw [List.nil_append, h2, if_neg h1]
      rfl
  | c :: D, P, v, hv0, hd, hlt => by
    have h1 := hd c List.mem_cons_self
    have h2 := tk_mid P (D ++ T) c
    have hge : v * B + dU c ≤ hv B (v * B + dU c) D := hv_ge hB D _ (by
      have := Int.mul_nonneg hv0 (show 0 ≤ B by omega)
      have := dU_nonneg c
      omega)
    have hlt' : hv B (v * B + dU c) D < 18446744073709551616 := hlt
    have hn0 : 0 ≤ v * B + dU c := by
      have := Int.mul_nonneg hv0 (show 0 ≤ B by omega)
      have := dU_nonneg c
      omega
    have e1 : stp B v (dU c) = v * B + dU c := by unfold stp; rw [Int.emod_eq_of_lt hn0 (by omega)]
    have e2 : ovf B v (dU c) = false := by unfold ovf; rw [decide_eq_false_iff_not]; omega
    have ih := dgo_read hB T hT D (P ++ [c]) (v * B + dU c) hn0 (fun x hx => hd x (List.mem_cons_of_mem _ hx)) hlt'
    rw [show (c :: D).length + T.length = (D.length + T.length) + 1 by simp; omega]
    unfold dgo
    rw [List.cons_append, h2]
    have h1' : dv (c.toNat : Int) < B := h1
    rw [if_pos h1']
    have e1' : stp B v (dv (c.toNat : Int)) = v * B + dU c := e1
    have e2' : ovf B v (dv (c.toNat : Int)) = false := e2
    rw [e1', e2', Bool.false_or]
    rw [show P ++ c :: (D ++ T) = P ++ [c] ++ (D ++ T) by simp, show P.length + 1 = (P ++ [c]).length by simp, ih]
    simp only [List.length_append, List.length_cons, List.length_nil, hv, List.foldl_cons]
    congr 2
    omega

theorem hv_app (B v : Int) (D E : List UInt8) : hv B v (D ++ E) = hv B (hv B v D) E := by simp [hv]
theorem dU_dgC (i : Nat) (h : i < 16) : dU (dgC i) = (i : Int) := by
  have key : ∀ i : Fin 16, dU (dgC i.val) = ((i.val : Nat) : Int) := by decide +kernel
  exact key ⟨i, h⟩
theorem hv_dig {b : Nat} (hb : 2 ≤ b) (hb16 : b ≤ 16) (u : Nat) : hv (b : Int) 0 (digB b u) = (u : Int) := by
  induction u using Nat.strongRecOn with
  | _ u ih =>
    by_cases h : u < b
    · rw [digB_lt h]
      show 0 * (b : Int) + dU (dgC u) = _
      rw [dU_dgC u (by omega)]; omega
    · have hlt : u / b < u := Nat.div_lt_self (by omega) (by omega)
      rw [digB_ge (by omega) hb, hv_app, ih _ hlt]
      have hm := Nat.mod_lt u (show 0 < b by omega)
      show ((u / b : Nat) : Int) * (b : Int) + dU (dgC (u % b)) = _
      rw [dU_dgC _ (by omega)]
      have := Nat.div_add_mod u b
      rw [← Int.natCast_mul, ← Int.natCast_add]
      congr 1
      rw [Nat.mul_comm]; exact this
theorem dig_all {b : Nat} (hb : 2 ≤ b) (hb16 : b ≤ 16) (u : Nat) : ∀ c ∈ digB b u, dU c < (b : Int) := by
  induction u using Nat.strongRecOn with
  | _ u ih =>
    intro c hc
    by_cases h : u < b
    · rw [digB_lt h] at hc
      simp at hc
      rw [hc, dU_dgC u (by omega)]; omega
    · have hlt : u / b < u := Nat.div_lt_self (by omega) (by omega)
      rw [digB_ge (by omega) hb] at hc
      rcases List.mem_append.1 hc with hc | hc
      · exact ih _ hlt c hc
      · have hm := Nat.mod_lt u (show 0 < b by omega)
        simp at hc
        rw [hc, dU_dgC _ (by omega)]; omega

/-- So many noughts. -/
def zer (n : Nat) : List UInt8 := List.replicate n 48
theorem hv_zer (B : Int) (n : Nat) : hv B 0 (zer n) = 0 := by
  induction n with
  | zero => rfl
  | succ n ih =>
    show hv B (0 * B + dU 48) (zer n) = 0
    have : dU 48 = 0 := by decide
    rw [this, Int.zero_mul, Int.add_zero, ih]
theorem zer_all {B : Int} (hB : 2 ≤ B) (n : Nat) : ∀ c ∈ zer n, dU c < B := fun c hc => by
  rw [List.eq_of_mem_replicate hc, show dU 48 = 0 by decide]; omega

theorem dU10 {c : UInt8} (h : dU c < 10) : 48 ≤ c.toNat ∧ c.toNat ≤ 57 := by
  unfold dU dv at h
  split at h
  · omega
  · split at h
    · omega
    · split at h <;> omega

theorem size_list (L : List UInt8) : (⟨L.toArray⟩ : ByteArray).size = L.length := rfl

/-- A decimal text, with what may stand behind it. -/
theorem next_dec (sg : Bool) (D T : List UInt8) (hD : D ≠ []) (hd : ∀ c ∈ D, dU c < 10) (hT : T = [] ∨ T = [32]) (hlt : hv 10 0 D < 18446744073709551616) (hbig : sg = true → hv 10 0 D ≤ 9223372036854775808) :
    nextS ⟨((if sg then [45] else []) ++ (D ++ T)).toArray⟩ 0 = (IntKind.i64.wrap (if sg then IntKind.u64.wrap (0 - hv 10 0 D) else hv 10 0 D), (((if sg then 1 else 0) + D.length : Nat) : Int), 0) ∧
      lenS ⟨((if sg then [45] else []) ++ (D ++ T)).toArray⟩ = (((if sg then 1 else 0) + D.length : Nat) : Int) := by
  obtain ⟨c0, D', rfl⟩ : ∃ c0 D', D = c0 :: D' := by cases D with | nil => exact absurd rfl hD | cons c D => exact ⟨c, D, rfl⟩
  have hc0 := dU10 (hd c0 List.mem_cons_self)
  have hTn : ∀ c T', T = c :: T' → ¬ dU c < 10 := by
    rintro c T' rfl
    rcases hT with h | h
    · cases h
    · cases h; decide
  have hneg : negS ⟨((if sg then [45] else []) ++ (c0 :: D' ++ T)).toArray⟩ 0 = sg := by
    unfold negS
    rw [show ((0 : Nat) : Int) = 0 from rfl, size_list]
    cases sg with
    | true =>
      have := tk_mid [] (c0 :: D' ++ T) 45
      simp only [List.nil_append, List.length_nil] at this
      simp only [if_true, List.cons_append, List.nil_append] at this ⊢
      rw [show tk _ 0 = _ from this]; simp
    | false =>
      have := tk_mid [] (D' ++ T) c0
      simp only [List.nil_append, List.length_nil] at this
      simp only [Bool.false_eq_true, if_false, List.nil_append, List.cons_append] at this ⊢
      rw [show tk _ 0 = _ from this]
      have : ¬ ((c0.toNat : Int) = 45) := by omega
      simp [this]
  have hbeg : begS ⟨((if sg then [45] else []) ++ (c0 :: D' ++ T)).toArray⟩ 0 = (if sg then [45] else [] : List UInt8).length := by
    unfold begS; rw [hneg]; cases sg <;> rfl
  generalize hP : (if sg then [45] else [] : List UInt8) = P at *
  have hPl : P.length = if sg then 1 else 0 := by rw [← hP]; cases sg <;> rfl
  have hhex : hexS ⟨(P ++ (c0 :: D' ++ T)).toArray⟩ P.length = false := by
    cases hx : hexS ⟨(P ++ (c0 :: D' ++ T)).toArray⟩ P.length with
    | false => rfl
    | true =>
      obtain ⟨h1, h2, h3⟩ := xS_iff.1 (hexS_iff'.1 hx).1
      rw [tk_list] at h3
      rw [size_list] at h1
      cases D' with
      | nil =>
        rcases hT with rfl | rfl
        · simp at h1
        · rw [List.getElem?_append_right (by omega)] at h3
          simp at h3
      | cons c1 D' =>
        have hc1 := dU10 (hd c1 (by simp))
        rw [List.getElem?_append_right (by omega)] at h3
        simp at h3
        omega
  have hbase : baseS ⟨(P ++ (c0 :: D' ++ T)).toArray⟩ P.length = 10 := by unfold baseS; rw [hhex]; rfl
  have hst : stS ⟨(P ++ (c0 :: D' ++ T)).toArray⟩ P.length = P.length := by unfold stS; rw [hhex]; rfl
  have hrun : runS ⟨(P ++ (c0 :: D' ++ T)).toArray⟩ P.length = (hv 10 0 (c0 :: D'), false, P.length + (c0 :: D').length) := by
    unfold runS
    rw [hbase, hst, size_list, show (P ++ (c0 :: D' ++ T)).length - P.length = (c0 :: D').length + T.length by simp; omega]
    exact dgo_read (by decide) T hTn (c0 :: D') P 0 (by decide) hd hlt
  refine ⟨?_, ?_⟩
  · unfold nextS
    rw [if_neg (by omega)]
    show nextAt _ 0 = _
    unfold nextAt
    rw [hbeg, hrun, hst, hneg]
    rw [if_neg (by show ¬ (P.length + (c0 :: D').length = P.length); simp)]
    have hb : (false || (sg && decide (hv 10 0 (c0 :: D') > 9223372036854775808))) = false := by
      cases sg with
      | false => rfl
      | true => have := hbig rfl; simp; omega
    rw [hb, if_neg (by decide)]
    simp only [Nat.sub_zero]
    rw [hPl]
  · unfold lenS
    rw [hbeg, hrun]
    simp only
    rw [hPl]

/-- A hexadecimal text, with what may stand behind it. -/
theorem next_hex (X : UInt8) (hX : X = 120 ∨ X = 88) (D T : List UInt8) (hD : D ≠ []) (hd : ∀ c ∈ D, dU c < 16) (hT : T = [] ∨ T = [32]) (hlt : hv 16 0 D < 18446744073709551616) :
    nextS ⟨([48, X] ++ (D ++ T)).toArray⟩ 0 = (IntKind.i64.wrap (hv 16 0 D), ((2 + D.length : Nat) : Int), 0) ∧ lenS ⟨([48, X] ++ (D ++ T)).toArray⟩ = ((2 + D.length : Nat) : Int) := by
  obtain ⟨c0, D', rfl⟩ : ∃ c0 D', D = c0 :: D' := by cases D with | nil => exact absurd rfl hD | cons c D => exact ⟨c, D, rfl⟩
  have hTn : ∀ c T', T = c :: T' → ¬ dU c < 16 := by
    rintro c T' rfl
    rcases hT with h | h
    · cases h
    · cases h; decide
  have hX' : (X.toNat : Int) = 120 ∨ (X.toNat : Int) = 88 := by rcases hX with rfl | rfl <;> decide
  have h0 : tk ⟨([48, X] ++ (c0 :: D' ++ T)).toArray⟩ ((0 : Nat) : Int) = 48 := by rw [tk_list]; rfl
  have h1 : tk ⟨([48, X] ++ (c0 :: D' ++ T)).toArray⟩ ((1 : Nat) : Int) = (X.toNat : Int) := by rw [tk_list]; rfl
  have h2 : tk ⟨([48, X] ++ (c0 :: D' ++ T)).toArray⟩ ((2 : Nat) : Int) = (c0.toNat : Int) := by rw [tk_list]; rfl
  have hneg : negS ⟨([48, X] ++ (c0 :: D' ++ T)).toArray⟩ 0 = false := by
    unfold negS; rw [h0]; simp
  have hbeg : begS ⟨([48, X] ++ (c0 :: D' ++ T)).toArray⟩ 0 = 0 := by unfold begS; rw [hneg]; rfl
  have hhex : hexS ⟨([48, X] ++ (c0 :: D' ++ T)).toArray⟩ 0 = true := by
    rw [hexS_iff', xS_iff, size_list]
    refine ⟨⟨by simp, h0, by rw [Nat.zero_add, h1]; exact hX'⟩, by simp, by rw [Nat.zero_add, h2]; exact hd c0 List.mem_cons_self⟩
  have hbase : baseS ⟨([48, X] ++ (c0 :: D' ++ T)).toArray⟩ 0 = 16 := by unfold baseS; rw [hhex]; rfl
  have hst : stS ⟨([48, X] ++ (c0 :: D' ++ T)).toArray⟩ 0 = 2 := by unfold stS; rw [hhex]; rfl
  have hrun : runS ⟨([48, X] ++ (c0 :: D' ++ T)).toArray⟩ 0 = (hv 16 0 (c0 :: D'), false, 2 + (c0 :: D').length) := by
    unfold runS
    rw [hbase, hst, size_list, show ([48, X] ++ (c0 :: D' ++ T)).length - 2 = (c0 :: D').length + T.length by simp; omega]
    exact dgo_read (by decide) T hTn (c0 :: D') [48, X] 0 (by decide) hd hlt
  refine ⟨?_, ?_⟩
  · unfold nextS
    rw [if_neg (by omega)]
    show nextAt _ 0 = _
    unfold nextAt
    rw [hbeg, hrun, hst, hneg]
    rw [if_neg (by show ¬ (2 + (c0 :: D').length = 2); simp)]
    rfl
  · unfold lenS
    rw [hbeg, hrun]
theorem parse_of {s : ByteArray} {v n : Int} (h : nextS s 0 = (v, n, 0)) (hl : lenS s = s.size) : parseS s = (v, 0) := by
  unfold parseS
  rw [h, hl]; simp
end Go.Proofs.YtpfanhbkjajocaaDoor

/-
  What word.Take and its reference do. Own work.
-/
namespace Go.Proofs.YtpfanhbkjajocaaDoor
open Go.AM
set_option maxRecDepth 100000

theorem wrap_7 {k : Nat} (h : k < 10) : IntKind.i64.wrap (7 * (k : Int)) = 7 * (k : Int) := by rw [wrap_i64] <;> omega

theorem take_ok (s : ByteArray) (a : Int) (w : World) (hs : s.size ≤ maxLen) : Gives Tryd.prog 58 [.string s, .int .i64 a] w (tv (if a < 0 ∨ a ≥ s.size then err3 else takeP s a 10 0 0)) := by
  refine Gives.of_run Tryd.func58 rfl (by show 2 ≤ 67; decide) ?_
  have hsz : (s.size : Int) ≤ 9223372036854775807 := by simp only [maxLen] at hs; omega
  by_cases h1 : a < 0
  · refine RunF_sound tab_ok noX_local 100 [true, true] _ _ rfl ?_ ?_
    · simp [h1]
    · refine Run.retL tab_ok Tryd.func58 rfl trivial (fun M => ?_)
      rw [if_pos (.inl h1)]; rfl
  by_cases h2 : a ≥ s.size
  · refine RunF_sound tab_ok noX_local 100 [false, true] _ _ rfl ?_ ?_
    · simp; omega
    · refine Run.retL tab_ok Tryd.func58 rfl trivial (fun M => ?_)
      rw [if_pos (.inr h2)]; rfl
  rw [if_neg (by omega)]
  generalize hR : takeP s a 10 0 0 = R
  refine RunF_sound tab_ok noX_local 100 [false, false] _ _ rfl ?_ ?_
  · simp; omega
  suffices H : ∀ (d k : Nat) (u : Int), k + d = 10 → a + k ≤ s.size → R = takeP s a d k u → ∀ σ, inT σ.t [(0, .v (.string s)), (1, .v (.int .i64 a)), (7, .v (.int .u64 u)), (8, .v (.int .i64 (k : Int)))] → inT σ.h [] → Run _ _ σ by
    exact H 10 0 0 (by omega) (by omega) hR.symm _ ⟨rfl, rfl, rfl, rfl, trivial⟩ trivial
  intro d
  induction d with
  | zero =>
    intro k u hk ha hv σ ht hh
    refine Run.to ?_ ht hh (n' := 0)
    refine RunF_sound tab_ok noX_local 100 [false] _ _ rfl ?_ ?_
    · simp; omega
    · refine Run.retL tab_ok Tryd.func58 rfl trivial (fun M => ?_)
      rw [hv]; rfl
  | succ d ih =>
    intro k u hk ha hv σ ht hh
    refine Run.to ?_ ht hh (n' := 0)
    have hw : IntKind.i64.wrap (a + k) = a + k := by rw [wrap_i64] <;> omega
    have hk1 : IntKind.i64.wrap ((k : Int) + 1) = (k : Int) + 1 := by rw [wrap_i64] <;> omega
    have hw7 := wrap_7 (k := k) (by omega)
    by_cases h3 : a + k < s.size
    · have hi : (a + k).toNat < s.size := by omega
      rw [takeP, if_pos h3] at hv
      have hb0 := tk_nonneg s (a + k)
      have htk : ((s[(a + (k : Int)).toNat]?.getD 0).toNat : Int) = tk s (a + k) := rfl
      have hm : bor .u64 u (shlI .u64 (IntKind.u64.wrap (band .u8 (((s[(IntKind.i64.wrap (a + (k : Int))).toNat]?.getD 0).toNat : Nat) : Int) 127)) (IntKind.i64.wrap (7 * (k : Int)))) = addP u (tk s (a + k)) k := by
        rw [hw, hw7]; rfl
      by_cases c9 : k = 9
      · by_cases c1 : tk s (a + k) > 1
        · rw [if_pos ⟨c9, c1⟩] at hv
          refine RunF_sound tab_ok noX_local 100 [true, true, true, true] _ _ rfl ?_ ?_
          · simp [hw, htk]; omega
          · refine Run.retL tab_ok Tryd.func58 rfl trivial (fun M => ?_)
            rw [hv]; rfl
        · rw [if_neg (by omega), if_pos (by omega)] at hv
          by_cases c0 : tk s (a + k) = 0
          · rw [if_pos (by omega)] at hv
            refine RunF_sound tab_ok noX_local 100 [true, true, true, false, true, true, true] _ _ rfl ?_ ?_
            · simp [hw, hw7, htk]; omega
            · refine Run.retL tab_ok Tryd.func58 rfl trivial (fun M => ?_)
              rw [hv]; rfl
          · rw [if_neg (by omega)] at hv
            refine RunF_sound tab_ok noX_local 100 [true, true, true, false, true, false] _ _ rfl ?_ ?_
            · simp [hw, hw7, htk]; omega
            · refine Run.retL tab_ok Tryd.func58 rfl trivial (fun M => ?_)
              rw [hv, ← hm]; show Value.tuple #[_, .int .i64 (IntKind.i64.wrap ((k : Int) + 1)), _] = _; rw [hk1]; rfl
      · rw [if_neg (by omega)] at hv
        by_cases c1 : tk s (a + k) < 128
        · rw [if_pos c1] at hv
          by_cases c0 : tk s (a + k) = 0
          · by_cases ck : k > 0
            · rw [if_pos ⟨c0, ck⟩] at hv
              refine RunF_sound tab_ok noX_local 100 [true, true, false, true, true, true] _ _ rfl ?_ ?_
              · simp [hw, hw7, htk]; omega
              · refine Run.retL tab_ok Tryd.func58 rfl trivial (fun M => ?_)
                rw [hv]; rfl
            · rw [if_neg (by omega)] at hv
              refine RunF_sound tab_ok noX_local 100 [true, true, false, true, true, false] _ _ rfl ?_ ?_
              · simp [hw, hw7, htk]; omega
              · refine Run.retL tab_ok Tryd.func58 rfl trivial (fun M => ?_)
                rw [hv, ← hm]; show Value.tuple #[_, .int .i64 (IntKind.i64.wrap ((k : Int) + 1)), _] = _; rw [hk1]; rfl
          · rw [if_neg (by omega)] at hv
            refine RunF_sound tab_ok noX_local 100 [true, true, false, true, false] _ _ rfl ?_ ?_
            · simp [hw, hw7, htk]; omega
            · refine Run.retL tab_ok Tryd.func58 rfl trivial (fun M => ?_)
              rw [hv, ← hm]; show Value.tuple #[_, .int .i64 (IntKind.i64.wrap ((k : Int) + 1)), _] = _; rw [hk1]; rfl
        · rw [if_neg c1] at hv
          refine RunF_sound tab_ok noX_local 100 [true, true, false, false] _ _ rfl ?_ ?_
          · simp [hw, hw7, htk]; omega
          exact ih (k + 1) _ (by omega) (by omega) hv _ ⟨rfl, rfl, congrArg (fun z => some (AV.v (.int .u64 z))) hm, i64_eq (wrap_succ (by omega)), trivial⟩ trivial
    · rw [takeP, if_neg h3] at hv
      refine RunF_sound tab_ok noX_local 100 [true, false] _ _ rfl ?_ ?_
      · simp [hw]; omega
      · refine Run.retL tab_ok Tryd.func58 rfl trivial (fun M => ?_)
        rw [hv]; rfl

theorem take_enters : Enters Tryd.prog 58 := enters_mk Tryd.func58 (by decide) rfl
end Go.Proofs.YtpfanhbkjajocaaDoor

/-
  What word.Put and its reference do. Own work.
-/
namespace Go.Proofs.YtpfanhbkjajocaaDoor
open Go.AM
set_option maxRecDepth 100000

theorem isU8 (l : List Value) (b : Int) (h : ∀ u ∈ l, u = .int .u8 (intOf u)) : ∀ u ∈ l ++ [.int .u8 b], u = .int .u8 (intOf u) := by
  intro u hu
  rcases List.mem_append.1 hu with h1 | h1
  · exact h u h1
  · simp only [List.mem_singleton] at h1; subst h1; rfl

theorem isU8' (l : List Value) (b : Int) (h : ∀ u ∈ l, u = .int .u8 (intOf u)) : ∀ u, u ∈ l ∨ u = .int .u8 b → u = .int .u8 (intOf u) := by
  rintro u (h1 | h1)
  · exact h u h1
  · subst h1; rfl

theorem shr7_lt {d : Nat} {u : BitVec 64} (h : u.toNat < 128 * 128 ^ (d + 1)) : (u >>> 7).toNat < 128 * 128 ^ d := by
  simp only [BitVec.toNat_ushiftRight, Nat.shiftRight_eq_div_pow]
  rw [Nat.div_lt_iff_lt_mul (by decide)]
  rw [Nat.pow_succ] at h
  omega

theorem put_ok (v : Int) (w : World) (h : -9223372036854775808 ≤ v) (h' : v ≤ 9223372036854775807) : Gives Tryd.prog 57 [.int .i64 v] w (.string (putS v)) := by
  refine Gives.of_run Tryd.func57 rfl (by show 1 ≤ 28; decide) ?_
  have hz := zigP h h'
  unfold putS
  generalize hR : putGo 10 (zig v) = R
  refine RunF_sound tab_ok noX_local 100 [] _ _ rfl ?_ ?_
  · simp
  suffices HB : ∀ (d n : Nat) (pre : List Value) (u : BitVec 64), n + d ≤ 11 → pre.length = n → (∀ x ∈ pre, x = .int .u8 (intOf x)) → u.toNat < 128 * 128 ^ d → R = pre ++ putGo d u →
      Run _ _ ⟨[(3, .v (.int .u64 (un u))), (4, .sl 0 1 0 n)], [(0, .row 5 1 n pre)], 1⟩ by
    by_cases c : (zig v).toNat ≥ 128
    · refine RunF_sound tab_ok noX_local 100 [true] _ _ rfl ?_ ?_
      · simp [hz, un_ge, c, maxLen, fillL, repL, splice, Value.cells, Value.oneCell']
      · refine Run.toR [(0, 1)] (HB 9 1 [.int .u8 (bor .u8 (IntKind.u8.wrap (un (zig v))) 128)] (zig v >>> 7) (by omega) rfl (by simp [intOf]) (shr7_lt (d := 9) (by have := (zig v).isLt; omega)) ?_) ⟨?_, rfl, trivial⟩ ⟨?_, trivial⟩ rfl
        · rw [← hR, putGo, if_pos c]; rfl
        · exact u64_eq (by rw [hz]; exact shr_un _ _)
        · rw [← hz]; rfl
    · refine RunF_sound tab_ok noX_local 100 [false] _ _ rfl ?_ ?_
      · simp [hz, un_ge, maxLen, fillL, repL, splice, Value.cells, Value.oneCell', intOf]; omega
      · refine Run.retP tab_ok Tryd.func57 rfl trivial (fun M => ?_)
        rw [← hR, putGo_last _ _ c, ← hz]; rfl
  intro d
  induction d with
  | zero => 
    intro n pre u hn hl hp hu hv
    have c : ¬ u.toNat ≥ 128 := by omega
    have htk : pre.take n = pre := by rw [← hl]; exact List.take_length
    have htk1 : ∀ x : Value, (pre ++ [x]).take (n + 1) = pre ++ [x] := fun x => List.take_of_length_le (by simp [hl])
    refine RunF_sound tab_ok noX_local 100 [false] _ _ rfl ?_ ?_
    · simp [un_ge, maxLen, fillL, repL, splice, Value.cells, Value.oneCell', htk, htk1]
      exact ⟨by omega, by omega, isU8' _ _ hp⟩
    · refine Run.retP tab_ok Tryd.func57 rfl trivial (fun M => ?_)
      rw [hv, putGo_last _ _ c]
      simp [conc, fillL, repL, splice, Value.cells, htk, htk1]
  | succ d ih => 
    intro n pre u hn hl hp hu hv
    have htk : pre.take n = pre := by rw [← hl]; exact List.take_length
    have htk1 : ∀ x : Value, (pre ++ [x]).take (n + 1) = pre ++ [x] := fun x => List.take_of_length_le (by simp [hl])
    by_cases c : u.toNat ≥ 128
    · refine RunF_sound tab_ok noX_local 100 [true] _ _ rfl ?_ ?_
      · simp [un_ge, c, maxLen, fillL, repL, splice, Value.cells, Value.oneCell']; omega
      · refine Run.toR [(0, 2)] (ih (n + 1) (pre ++ [.int .u8 (bor .u8 (IntKind.u8.wrap (un u)) 128)]) (u >>> 7) (by omega) (by simp [hl]) (isU8 _ _ hp) (shr7_lt hu) ?_) ⟨u64_eq (shr_un _ _), rfl, trivial⟩ ⟨?_, trivial⟩ rfl
        · rw [hv, putGo, if_pos c]; simp
        · refine congrArg (fun l => some (Blk.row 5 1 (n + 1) l)) ?_
          simp [fillL, repL, splice, Value.cells, htk]
    · refine RunF_sound tab_ok noX_local 100 [false] _ _ rfl ?_ ?_
      · simp [un_ge, maxLen, fillL, repL, splice, Value.cells, Value.oneCell', htk, htk1]
        exact ⟨by omega, by omega, isU8' _ _ hp⟩
      · refine Run.retP tab_ok Tryd.func57 rfl trivial (fun M => ?_)
        rw [hv, putGo_last _ _ c]
        simp [conc, fillL, repL, splice, Value.cells, htk, htk1]
theorem put_enters : Enters Tryd.prog 57 := enters_mk Tryd.func57 (by decide) rfl
theorem num_ok (n : Int) (w : World) : Gives Tryd.prog 56 [.int .i64 n] w (.int .i64 n) := by
  refine Gives.of_run Tryd.func56 rfl (by show 1 ≤ 4; decide) ?_
  refine RunF_sound tab_ok noX_local 100 [] _ _ rfl ?_ ?_
  · simp
  · exact Run.retP tab_ok Tryd.func56 rfl trivial (fun M => rfl)

theorem num_enters : Enters Tryd.prog 56 := enters_mk Tryd.func56 (by decide) rfl
end Go.Proofs.YtpfanhbkjajocaaDoor

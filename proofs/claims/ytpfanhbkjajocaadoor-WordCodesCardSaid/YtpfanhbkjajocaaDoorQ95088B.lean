/-
  Own work, merged: J5.
-/
import Derived.AtR
import Derived.Below
import Derived.ChangeKeysEq
import Derived.KernelRfl
import Derived.Laws.AppendOwn
import Derived.Laws.BytesString
import Derived.Laws.Cells
import Derived.Laws.CopyRow
import Derived.Laws.Entries
import Derived.Laws.Rows
import Derived.Laws.Small
import Derived.Laws.StructEq
import Derived.Lib.ItoaNum
import Derived.Lib.TrailingZeros
import Derived.Maps.AppendAt
import Derived.Orders
import Derived.RangeFuncRecord
import Derived.Test.YtpfanhbkjajocaaDoorProg
import Derived.Test.YtpfanhbkjajocaaDoorQ097EBC
/-
  A number's digits to a base: the reference's. Own work.
-/
namespace Go.Proofs.YtpfanhbkjajocaaDoor
open Go.AM
set_option maxRecDepth 100000

def dgC (i : Nat) : UInt8 := if i < 10 then UInt8.ofNat (48 + i) else UInt8.ofNat (87 + i)
def digB (b u : Nat) : List UInt8 := if _h : u < b ∨ b < 2 then [dgC u] else digB b (u / b) ++ [dgC (u % b)]
termination_by u
decreasing_by
  exact Nat.div_lt_self (by omega) (by omega)

theorem digB_lt {b u : Nat} (h : u < b) : digB b u = [dgC u] := by rw [digB, dif_pos (.inl h)]
theorem digB_ge {b u : Nat} (h : b ≤ u) (hb : 2 ≤ b) : digB b u = digB b (u / b) ++ [dgC (u % b)] := by rw [digB, dif_neg (by omega)]
theorem digB_10 (u : Nat) : digB 10 u = Lib.decDigits u := by
  induction u using Nat.strongRecOn with
  | _ u ih =>
    rw [Lib.decDigits]
    by_cases h : u < 10
    · rw [digB_lt h, dif_pos h]; simp [dgC, h]
    · rw [digB_ge (by omega) (by omega), dif_neg h, ih _ (by omega)]
      have : u % 10 < 10 := by omega
      simp [dgC, this]
theorem digB_len {b : Nat} (hb : 2 ≤ b) : ∀ (u k : Nat), u < 2 ^ k → 1 ≤ k → (digB b u).length ≤ k := by
  intro u
  induction u using Nat.strongRecOn with
  | _ u ih =>
    intro k hu hk
    by_cases h : u < b
    · rw [digB_lt h]; simpa using hk
    · rw [digB_ge (by omega) hb, List.length_append]
      have hlt : u / b < u := Nat.div_lt_self (by omega) (by omega)
      have hk2 : 2 ≤ k := by
        rcases Nat.lt_or_ge k 2 with h2 | h2
        · have : k = 1 := by omega
          subst this; simp at hu; omega
        · exact h2
      have h3 : u / b < 2 ^ (k - 1) := by
        have h4 : u / b ≤ u / 2 := Nat.div_le_div_left hb (by omega)
        have h5 : 2 ^ k = 2 * 2 ^ (k - 1) := by rw [← Nat.pow_succ']; congr 1; omega
        omega
      have := ih _ hlt (k - 1) h3 (by omega)
      simp only [List.length_singleton]
      omega
theorem digB_ne {b u : Nat} (hb : 2 ≤ b) : digB b u ≠ [] := by
  by_cases h : u < b
  · rw [digB_lt h]; simp
  · rw [digB_ge (by omega) hb]; simp

def hexD : ByteArray := ⟨#[48, 49, 50, 51, 52, 53, 54, 55, 56, 57, 97, 98, 99, 100, 101, 102]⟩

theorem hex_at (i : Nat) (h : i < 16) : hexD.extract i (i + 1) = ⟨#[dgC i]⟩ := by
  have key : ∀ i : Fin 16, hexD.extract i.val (i.val + 1) = ⟨#[dgC i.val]⟩ := by decide +kernel
  exact key ⟨i, h⟩
theorem hex_app (i : Nat) (h : i < 16) (acc : List UInt8) : hexD.extract i (i + 1) ++ (⟨acc.toArray⟩ : ByteArray) = ⟨(dgC i :: acc).toArray⟩ := by
  rw [hex_at i h]; apply ByteArray.ext; simp

set_option maxHeartbeats 1000000 in
theorem in_ok (b : Nat) (hb : 2 ≤ b) (hb16 : b ≤ 16) (u : Nat) (hu : u < 2 ^ 64) (w : World) :
    Gives Tryd.prog 71 [.int .u64 (u : Int), .int .u64 (b : Int)] w (.string ⟨(digB b u).toArray⟩) := by
  refine Gives.of_run Tryd.func71 rfl (by show 2 ≤ 28; decide) ?_
  refine RunF_sound tab_ok noX_local 100 [] _ _ rfl ?_ ?_
  · simp
  suffices H : ∀ (v : Nat) (acc : List UInt8), v < 2 ^ 64 → (digB b v).length + acc.length ≤ 64 → digB b v ++ acc = digB b u → ∀ σ, inT σ.t [(0, .v (.int .u64 (v : Int))), (1, .v (.int .u64 (b : Int))), (5, .v (.string ⟨acc.toArray⟩))] → inT σ.h [] → Run _ _ σ by
    exact H u [] hu (by have := digB_len hb u 64 hu (by decide); simpa using this) (by simp) _ ⟨rfl, rfl, rfl, trivial⟩ trivial
  intro v
  induction v using Nat.strongRecOn with
  | _ v ih =>
    intro acc hv hl he σ ht hh
    refine Run.to ?_ ht hh (n' := 0)
    have hsz : (⟨acc.toArray⟩ : ByteArray).size = acc.length := rfl
    by_cases hvb : v < b
    · have hw1 : IntKind.u64.wrap ((v : Int) + 1) = ((v + 1 : Nat) : Int) := by rw [wrap_u64 (by omega) (by omega)]; omega
      refine RunF_sound tab_ok noX_local 100 [false] _ _ rfl ?_ ?_
      · simp only [hw1, Int.toNat_natCast]
        simp [hsz]
        refine ⟨hvb, ⟨⟨by omega, ?_⟩, by omega⟩, ?_⟩
        · show ((v : Int) + 1) ≤ (16 : Nat); omega
        · omega
      simp only [hw1, Int.toNat_natCast]
      refine Run.retP tab_ok Tryd.func71 rfl trivial (fun M => ?_)
      have := hex_app v (by omega) acc
      rw [← he, digB_lt hvb]
      exact congrArg Value.string this
    · have hrem : (v : Int).tmod (b : Int) = ((v % b : Nat) : Int) := (Int.ofNat_tmod v b).symm
      have hquo : (v : Int).tdiv (b : Int) = ((v / b : Nat) : Int) := (Int.ofNat_tdiv v b).symm
      have hlt := Nat.mod_lt v (show 0 < b by omega)
      have hw1 : IntKind.u64.wrap (((v % b : Nat) : Int) + 1) = ((v % b + 1 : Nat) : Int) := by rw [wrap_u64 (by omega) (by omega)]; omega
      refine RunF_sound tab_ok noX_local 100 [true] _ _ rfl ?_ ?_
      · simp
        omega
      refine Run.drawA noX_local rfl [] [] rfl rfl trivial ?_
      refine RunOF_sound tab_ok noX_local rfl rfl 100 [] _ _ rfl ?_ ?_
      · simp only [hrem, hw1, Int.toNat_natCast]
        simp [hsz]
        refine ⟨by omega, ⟨⟨by omega, ?_⟩, by omega⟩, ?_⟩
        · show (((v % b : Nat) : Int) + 1) ≤ (16 : Nat); omega
        · omega
      simp only [hrem, hw1, Int.toNat_natCast]
      refine RunO.done ?_
      refine RunF_sound tab_ok noX_local 100 [] _ _ rfl ?_ ?_
      · simp
        omega
      have hdl : v / b < v := Nat.div_lt_self (by omega) (by omega)
      refine ih (v / b) hdl (dgC (v % b) :: acc) (by omega) ?_ ?_ _ ⟨?_, rfl, ?_, trivial⟩ trivial
      · rw [digB_ge (by omega) hb, List.length_append] at hl
        simp at hl ⊢
        omega
      · have hd : digB b v = digB b (v / b) ++ [dgC (v % b)] := digB_ge (by omega) hb
        rw [← he, hd]; simp
      · refine congrArg (fun z => some (AV.v (Value.int .u64 z))) ?_
        have hqb : ((v / b : Nat) : Int) ≤ 18446744073709551615 := by generalize v / b = q at hdl; omega
        rw [hquo, wrap_u64 (Int.natCast_nonneg _) hqb]
      · exact congrArg (fun z => some (AV.v (Value.string z))) (hex_app (v % b) (by omega) acc)
end Go.Proofs.YtpfanhbkjajocaaDoor

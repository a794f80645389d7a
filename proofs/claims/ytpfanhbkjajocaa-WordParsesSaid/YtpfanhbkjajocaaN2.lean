/-
  Next: what is left of a text; the walk of word.Next. Own work.
-/
import Derived.Test.YtpfanhbkjajocaaN1
namespace Go.Proofs.Ytpfanhbkjajocaa
open Go.AM
set_option maxRecDepth 100000

/-- r is the text s from b on. -/
structure From (s r : ByteArray) (b : Nat) : Prop where
  size : r.size = s.size - b
  at' : ∀ j : Nat, tk r (j : Nat) = tk s (b + j : Nat)

theorem dgo_from {s r : ByteArray} {b : Nat} (h : From s r b) (B : Int) : ∀ (d i : Nat) (v : Int) (g : Bool), dgo s B d (b + i) v g = ((dgo r B d i v g).1, (dgo r B d i v g).2.1, b + (dgo r B d i v g).2.2)
  | 0, i, v, g => rfl
  | d + 1, i, v, g => by
    have ht := h.at' i
    have ih := dgo_from h B d (i + 1) (stp B v (dv (tk s (b + i : Nat)))) (g || ovf B v (dv (tk s (b + i : Nat))))
    unfold dgo
    rw [ht]
    split
    · rw [Nat.add_assoc]; exact ih
    · rfl
theorem hexS_from {s r : ByteArray} {b : Nat} (h : From s r b) : hexS s b = hexS r 0 := by
  have h0 := h.at' 0
  have h1 := h.at' 1
  have h2 := h.at' 2
  have hs := h.size
  unfold hexS xS
  simp only [Nat.zero_add, h1, h2, Nat.add_zero] at h0 ⊢
  rw [h0, hs, show decide (1 < s.size - b) = decide (b + 1 < s.size) from decide_eq_decide.2 (by omega), show decide (2 < s.size - b) = decide (b + 2 < s.size) from decide_eq_decide.2 (by omega)]
theorem baseS_from {s r : ByteArray} {b : Nat} (h : From s r b) : baseS s b = baseS r 0 := by unfold baseS; rw [hexS_from h]
theorem stS_from {s r : ByteArray} {b : Nat} (h : From s r b) : stS s b = b + stS r 0 := by
  unfold stS; rw [hexS_from h]; split <;> omega
theorem runS_from {s r : ByteArray} {b : Nat} (h : From s r b) : runS s b = ((runS r 0).1, (runS r 0).2.1, b + (runS r 0).2.2) := by
  have hs := h.size
  unfold runS
  rw [baseS_from h, stS_from h, show s.size - (b + stS r 0) = r.size - stS r 0 by omega]
  exact dgo_from h _ _ _ _ _

theorem from_cut (s : ByteArray) (a : Nat) (h : a ≤ s.size) : From s (s.extract a s.size) a := ⟨by simp, fun j => tk_cut s a j⟩
theorem From.comp {s r q : ByteArray} {a b : Nat} (h : From s r a) (h' : From r q b) : From s q (a + b) := ⟨by rw [h'.size, h.size]; omega, fun j => by rw [h'.at' j, h.at' (b + j), Nat.add_assoc]⟩

theorem strt_size {s : ByteArray} (h : strt s = true) : 0 < s.size := by unfold strt at h; simp at h; exact h.1
theorem rest_from (s : ByteArray) : From s (restS s) (if strt s then 1 else 0) := by
  unfold restS
  split
  · rename_i h
    exact from_cut s 1 (strt_size h)
  · exact ⟨by omega, fun j => by rw [Nat.zero_add]⟩
theorem strt_cut (s : ByteArray) (a : Nat) (h : a ≤ s.size) : strt (s.extract a s.size) = negS s a := by
  have h1 := (from_cut s a h).size
  have h2 := tk_cut s a 0
  unfold strt negS
  rw [show tk (s.extract a s.size) 0 = tk s a from h2, h1, show decide (0 < s.size - a) = decide (a < s.size) from decide_eq_decide.2 (by omega)]

/-- What Next answers, of what is left. -/
def nextR (r : ByteArray) (ng : Bool) : T3 :=
  if (runS r 0).2.2 = stS r 0 then (0, 0, 40)
  else if (runS r 0).2.1 || (ng && decide ((runS r 0).1 > 9223372036854775808)) then (0, 0, 41)
  else (IntKind.i64.wrap (if ng then IntKind.u64.wrap (0 - (runS r 0).1) else (runS r 0).1), ((runS r 0).2.2 + (if ng then 1 else 0) : Nat), 0)

theorem begS_eq (s : ByteArray) (a : Nat) : begS s a = a + (if negS s a then 1 else 0) := by unfold begS; split <;> rfl

theorem nextAt_eq (s : ByteArray) (a : Nat) (h : a ≤ s.size) : nextAt s a = nextR (restS (s.extract a s.size)) (negS s a) := by
  have hf : From s (restS (s.extract a s.size)) (begS s a) := by
    have := (from_cut s a h).comp (rest_from (s.extract a s.size))
    rw [strt_cut s a h] at this
    rw [begS_eq]; exact this
  unfold nextAt nextR
  rw [runS_from hf, stS_from hf, begS_eq]
  generalize runS (restS (s.extract a s.size)) 0 = F
  generalize stS (restS (s.extract a s.size)) 0 = S0
  by_cases c : F.2.2 = S0
  · rw [if_pos c, if_pos (by show _ + F.2.2 = _ + S0; omega)]
  · rw [if_neg c, if_neg (by show ¬ (_ + F.2.2 = _ + S0); omega)]
    by_cases c2 : (F.2.1 || (negS s a && decide (F.1 > 9223372036854775808))) = true
    · rw [if_pos c2, if_pos c2]
    · rw [if_neg c2, if_neg c2]
      have : (a + (if negS s a = true then 1 else 0) + F.2.2 - a : Nat) = F.2.2 + (if negS s a = true then 1 else 0) := by omega
      rw [this]

theorem lenS_eq (s : ByteArray) : lenS s = (((runS (restS s) 0).2.2 + (if strt s then 1 else 0) : Nat) : Int) := by
  have h0 : strt s = negS s 0 := by unfold strt negS; rfl
  have hf := rest_from s
  unfold lenS
  rw [begS_eq, Nat.zero_add, ← h0, runS_from hf]
  show (((if strt s = true then 1 else 0) + (runS (restS s) 0).2.2 : Nat) : Int) = _
  rw [Nat.add_comm]

theorem base_or (r : ByteArray) (b : Nat) : baseS r b = 10 ∨ baseS r b = 16 := by unfold baseS; split <;> simp
theorem st_le (r : ByteArray) : stS r 0 ≤ r.size := by
  unfold stS
  split
  · rename_i h
    unfold hexS at h
    simp at h
    omega
  · omega

/-- One digit more: what Mul64 and Add64 say of it. -/
theorem ovf_eq {B v d : Int} (hB : B = 10 ∨ B = 16) (h0 : 0 ≤ v) (h1 : v < 18446744073709551616) (hd : 0 ≤ d) (hd' : d ≤ 99) :
    ovf B v d = (decide (v * B / 18446744073709551616 > 0) || decide ((v * B % 18446744073709551616 + d + 0) / 18446744073709551616 > 0)) ∧ (v * B % 18446744073709551616 + d + 0) % 18446744073709551616 = stp B v d := by
  unfold ovf stp
  rcases hB with rfl | rfl
  · refine ⟨?_, by omega⟩
    rw [Bool.eq_iff_iff]; simp; omega
  · refine ⟨?_, by omega⟩
    rw [Bool.eq_iff_iff]; simp; omega

theorem or32 (c : Int) (h0 : 0 ≤ c) (h1 : c < 256) : (bor .u8 c 32 == 120) = (decide (c = 120) || decide (c = 88)) := by
  obtain ⟨n, rfl⟩ := Int.eq_ofNat_of_zero_le h0
  have hn : n < 256 := by omega
  have : ∀ n : Fin 256, (bor .u8 ((n.1 : Nat) : Int) 32 == 120) = (decide (((n.1 : Nat) : Int) = 120) || decide (((n.1 : Nat) : Int) = 88)) := by decide +kernel
  exact this ⟨n, hn⟩
end Go.Proofs.Ytpfanhbkjajocaa

/-
  An execution as a value; lists of numbers in a world; the reads-from and coherence relations, in plain Lean. Own work.
-/
import Derived.Test.YtehimiadpgbhmaaDoorE0d
import Derived.Test.YtehimiadpgbhmaaDoorV1
import Derived.Test.YtehimiadpgbhmaaDoorAM20
namespace Go.Proofs.YtehimiadpgbhmaaDoor
open Go.AM
set_option maxRecDepth 100000

/-- A slice of numbers, as it lies in a world. -/
def SeesI (w : World) (p : Option Addr) (xs : List Int) : Prop :=
  ∀ i (h : i < xs.length), p = some (p.getD default) ∧ w.cell? ((p.getD default).add i) = some (.int .i64 xs[i])
theorem SeesI.agree {S : Nat → Prop} {w w' : World} {p : Option Addr} {xs : List Int} (h : SeesI w p xs) (hA : Agree S w w') (hS : ∀ a, p = some a → ¬ S a.block) : SeesI w' p xs := by
  intro i hi
  obtain ⟨h1, h2⟩ := h i hi
  exact ⟨h1, hA.cell h2 (by rw [add_block]; exact hS _ h1)⟩

/-- A slice of slices of numbers. -/
def SeesII (w : World) (p : Option Addr) (xss : List (List Int)) : Prop :=
  ∀ i (h : i < xss.length), p = some (p.getD default) ∧ ∃ q c, w.cell? ((p.getD default).add i) = some (.slice q xss[i].length c) ∧ SeesI w q xss[i]
theorem SeesII.agree {w w' : World} {p : Option Addr} {xss : List (List Int)} (h : SeesII w p xss) (hA : Agree (fun _ => False) w w') : SeesII w' p xss := by
  intro i hi
  obtain ⟨h1, q, c, h2, h3⟩ := h i hi
  exact ⟨h1, q, c, hA.cell h2 (fun h => h), h3.agree hA (fun _ _ h => h)⟩

/-- An execution: its events, whence reads read, and the orders; the rest is not looked at. -/
structure Xn where
  ev : List Ev
  from_ : List Int
  ord : List (List Int)
  pe : Option Addr
  ce : Nat
  u1 : Value
  pf : Option Addr
  cf : Nat
  po : Option Addr
  co : Nat
  u4 : Value
def xV (x : Xn) : List Value := [.slice x.pe x.ev.length x.ce, x.u1, .slice x.pf x.from_.length x.cf, .slice x.po x.ord.length x.co, x.u4]
def encX (x : Xn) : Value := .agg (xV x).toArray
structure SeesX (w : World) (x : Xn) : Prop where
  ev : SeesV w x.pe x.ev
  from_ : SeesI w x.pf x.from_
  ord : SeesII w x.po x.ord
  one1 : x.u1.oneCell' = true
  one4 : x.u4.oneCell' = true
  cap : x.from_.length ≤ x.cf
  lf : x.from_.length ≤ maxLen
  lo : x.ord.length ≤ maxLen
  lo2 : ∀ c ∈ x.ord, c.length ≤ maxLen
theorem SeesX.agree {w w' : World} {x : Xn} (h : SeesX w x) (hA : Agree (fun _ => False) w w') : SeesX w' x :=
  ⟨h.ev.agree hA (fun _ _ h => h), h.from_.agree hA (fun _ _ h => h), h.ord.agree hA, h.one1, h.one4, h.cap, h.lf, h.lo, h.lo2⟩
theorem xV_one {x : Xn} (h1 : x.u1.oneCell' = true) (h4 : x.u4.oneCell' = true) : (∀ c ∈ xV x, c.oneCell' = true) ↔ True := iff_true_intro fun c hc => by
  simp only [xV, List.mem_cons, List.not_mem_nil, or_false] at hc
  rcases hc with rfl | rfl | rfl | rfl | rfl
  · rfl
  · exact h1
  · rfl
  · rfl
  · exact h4
@[simp] theorem xV_0 (x : Xn) : (xV x)[0]? = some (.slice x.pe x.ev.length x.ce) := rfl
@[simp] theorem xV_2 (x : Xn) : (xV x)[2]? = some (.slice x.pf x.from_.length x.cf) := rfl
@[simp] theorem xV_3 (x : Xn) : (xV x)[3]? = some (.slice x.po x.ord.length x.co) := rfl
@[simp] theorem slOf_slice (p : Option Addr) (n c : Nat) : slOf (some (.slice p n c)) = (p, n, c) := rfl

/-- The pairs that the first k numbers say. -/
def rfP (n : Int) (fr : List Int) (k : Nat) : Rl := Rl.gen n fun x y => decide (y < k) && (decide ((x : Int) < n) && decide (fr[y]? = some (x : Int)))
def rfL (n : Nat) (fr : List Int) : Rl := rfP n fr (min n fr.length)
theorem rfP_0 (n : Int) (fr : List Int) : rfP n fr 0 = Rl.void n := by
  rw [Rl.gen_void]; exact Rl.gen_congr fun a b _ _ => by simp
theorem rfP_yes {n : Int} {fr : List Int} {k v : Nat} (hk : k < 64) (hv : v < 64) (hn : (v : Int) < n) (h : fr[k]? = some (v : Int)) : (rfP n fr k).setRow v ((rfP n fr k).row v ||| 1#64 <<< k) = rfP n fr (k + 1) := by
  unfold rfP
  rw [Rl.gen_add _ _ _ _ hv hk]
  refine Rl.gen_congr fun x y _ _ => ?_
  by_cases hy : y = k
  · subst hy
    rw [h]
    by_cases hx : x = v
    · subst hx; simp [hn]
    · have : ¬ (v : Int) = (x : Int) := by omega
      simp [hx, this]
  · have : decide (y < k + 1) = decide (y < k) := decide_eq_decide.2 (by omega)
    simp [hy, this]
theorem rfP_no {n : Int} {fr : List Int} {k : Nat} (h : ∀ v : Nat, (v : Int) < n → fr[k]? ≠ some (v : Int)) : rfP n fr k = rfP n fr (k + 1) := by
  unfold rfP
  refine Rl.gen_congr fun x y _ _ => ?_
  by_cases hy : y = k
  · subst hy
    by_cases hx : (x : Int) < n
    · simp [h x hx]
    · simp [hx]
  · have : decide (y < k + 1) = decide (y < k) := decide_eq_decide.2 (by omega)
    simp [this]

/-- One number more in a chain: it stands behind all that are ahead of it. -/
def cP (R : Rl) (s : BitVec 64) (b k : Nat) : Rl := Rl.by_ R.n fun a => if a < k ∧ s.getLsbD a = true then R.row a ||| 1#64 <<< b else R.row a
theorem cP_n (R : Rl) (s : BitVec 64) (b k : Nat) : (cP R s b k).n = R.n := by unfold cP; exact Rl.n_by _ _
theorem cP_0 (R : Rl) (s : BitVec 64) (b : Nat) : cP R s b 0 = R := by
  unfold cP
  conv => rhs; rw [← by_row R]
  exact Rl.by_congr fun x _ => by simp
theorem cP_at {R : Rl} {s : BitVec 64} {b k : Nat} (hk : k < 64) : (cP R s b k).row k = R.row k := by
  unfold cP; rw [Rl.row_by, if_pos hk, if_neg (by omega)]
theorem cP_yes {R : Rl} {s : BitVec 64} {b k : Nat} (hk : k < 64) (h : s.getLsbD k = true) : (cP R s b k).setRow k ((cP R s b k).row k ||| 1#64 <<< b) = cP R s b (k + 1) := by
  rw [cP_at hk]
  unfold cP
  rw [Rl.set_by]
  refine Rl.by_congr fun x _ => ?_
  by_cases e : k = x
  · subst e; simp [h]
  · rw [if_neg e]
    have : (x < k ∧ s.getLsbD x = true) ↔ (x < k + 1 ∧ s.getLsbD x = true) := by constructor <;> rintro ⟨h1, h2⟩ <;> exact ⟨by omega, h2⟩
    simp only [this]
theorem cP_no {R : Rl} {s : BitVec 64} {b k : Nat} (h : s.getLsbD k = false) : cP R s b k = cP R s b (k + 1) := by
  unfold cP
  refine Rl.by_congr fun x _ => ?_
  by_cases e : k = x
  · subst e; simp [h]
  · have : (x < k ∧ s.getLsbD x = true) ↔ (x < k + 1 ∧ s.getLsbD x = true) := by constructor <;> rintro ⟨h1, h2⟩ <;> exact ⟨by omega, h2⟩
    simp only [this]
def cStep (n : Nat) (z : Rl × BitVec 64) (v : Int) : Rl × BitVec 64 := if v < 0 ∨ v ≥ (n : Int) then z else (cP z.1 z.2 v.toNat n, z.2 ||| 1#64 <<< v.toNat)
def cChain (n : Nat) (R : Rl) (c : List Int) : Rl := (c.foldl (cStep n) (R, 0#64)).1
def coL (n : Nat) (ord : List (List Int)) : Rl := ord.foldl (cChain n) (Rl.void (n : Int))

theorem cStep_n (n : Nat) (z : Rl × BitVec 64) (v : Int) : (cStep n z v).1.n = z.1.n := by
  unfold cStep; split
  · rfl
  · exact cP_n _ _ _ _
theorem fold_n (n : Nat) : ∀ (c : List Int) (z : Rl × BitVec 64), (c.foldl (cStep n) z).1.n = z.1.n
  | [], z => rfl
  | v :: c, z => by rw [List.foldl_cons, fold_n n c, cStep_n]
theorem chain_n (n : Nat) (R : Rl) (c : List Int) : (cChain n R c).n = R.n := fold_n n c _
theorem coL_n (n : Nat) : ∀ (ord : List (List Int)) (R : Rl), (ord.foldl (cChain n) R).n = R.n
  | [], R => rfl
  | c :: ord, R => by rw [List.foldl_cons, coL_n n ord, chain_n]

/-- All pairs are below n. -/
def Below' (n : Nat) (R : Rl) : Prop := ∀ a b, R.has a b = true → a < n ∧ b < n
theorem cStep_below {n : Nat} (hn : n ≤ 64) {z : Rl × BitVec 64} {v : Int} (h : Below' n z.1) : Below' n (cStep n z v).1 := by
  unfold cStep
  split
  · exact h
  · rename_i hv
    intro a b hb
    have hv' : v.toNat < n := by omega
    rcases Nat.lt_or_ge a 64 with ha | ha
    · have hb : (Rl.row (cP z.1 z.2 v.toNat n) a).getLsbD b = true := hb
      unfold cP at hb
      rw [Rl.row_by, if_pos ha] at hb
      split at hb
      · rename_i h1
        rw [BitVec.getLsbD_or, Bool.or_eq_true] at hb
        rcases hb with hb | hb
        · exact h a b hb
        · rw [one_shl_get _ _ (by omega)] at hb
          simp at hb
          omega
      · exact h a b hb
    · rw [Rl.has, Rl.row_ge _ ha] at hb; simp at hb
theorem fold_below {n : Nat} (hn : n ≤ 64) : ∀ (c : List Int) (z : Rl × BitVec 64), Below' n z.1 → Below' n (c.foldl (cStep n) z).1
  | [], z, h => h
  | v :: c, z, h => by rw [List.foldl_cons]; exact fold_below hn c _ (cStep_below hn h)
theorem coL_below {n : Nat} (hn : n ≤ 64) : ∀ (ord : List (List Int)) (R : Rl), Below' n R → Below' n (ord.foldl (cChain n) R)
  | [], R, h => h
  | c :: ord, R, h => by rw [List.foldl_cons]; exact coL_below hn ord _ (fold_below hn c _ h)
theorem void_below (n : Nat) (m : Int) : Below' n (Rl.void m) := fun a b h => by rw [Rl.has, Rl.row_void] at h; simp at h
theorem rfL_below {n : Nat} (fr : List Int) : Below' n (rfL n fr) := fun a b h => by
  unfold rfL rfP at h
  rw [Rl.has_gen] at h
  simp at h
  omega
end Go.Proofs.YtehimiadpgbhmaaDoor

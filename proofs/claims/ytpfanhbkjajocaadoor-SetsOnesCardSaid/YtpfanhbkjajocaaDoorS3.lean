/-
  The reference's List, Size, At, Rank. Own work.
-/
import Derived.Test.YtpfanhbkjajocaaDoorS2
namespace Go.Proofs.YtpfanhbkjajocaaDoor
open Go.AM
set_option maxRecDepth 100000

def encI (l : List Int) : List Value := l.map (Value.int .i64)

/-- A slice of ints, as it lies in a world. -/
def SeesI (w : World) (p : Option Addr) (xs : List Int) : Prop :=
  ∀ i (h : i < xs.length), p = some (p.getD default) ∧ w.cell? ((p.getD default).add i) = some (.int .i64 xs[i])

theorem SeesI.agree {S : Nat → Prop} {w w' : World} {p : Option Addr} {xs : List Int} (h : SeesI w p xs) (hA : Agree S w w') (hS : ∀ a, p = some a → ¬ S a.block) : SeesI w' p xs := by
  intro i hi
  obtain ⟨h1, h2⟩ := h i hi
  exact ⟨h1, hA.cell h2 (by rw [add_block]; exact hS _ h1)⟩

theorem seesI_row {M : AM.Loc} {w : World} {id e n : Nat} {l : List Int} (hb : BlkAt M w id (.row e 1 n (encI l))) : SeesI w (some ⟨(M id).1, 0, none⟩) l := by
  intro i hi
  have := row_cells hb i (.int .i64 l[i]) (by simp [encI, hi])
  refine ⟨rfl, ?_⟩
  rw [Option.getD_some, Addr.add_lit]
  exact this

/-- A slice of ints that was made behind a world. -/
def NewI (w : World) (xs : List Int) (v : Value) (w' : World) : Prop := ∃ p c, v = .slice p xs.length c ∧ xs.length ≤ c ∧ SeesI w' p xs ∧ ∀ a, p = some a → w.heap.size ≤ a.block ∧ a.block < w'.heap.size

theorem newI_nil (w w' : World) : NewI w [] (.slice none 0 0) w' := ⟨none, 0, rfl, Nat.le_refl _, fun i hi => absurd hi (Nat.not_lt_zero _), fun a h => by cases h⟩

theorem newI_row {P : Program} {f : FuncId} {nt : Nat} {w : World} {X : Res} {R : Value → World → Prop} {M : AM.Loc} {fp : Foot} {σ : St} {a : Act} {w' : World} {id n : Nat} {l : List Int}
    (hr : Rel (fnC P f nt w (fun _ => False) X R) M fp σ a w') (hB : lk σ.h id = some (.row 3 1 n (encI l))) (hl : l.length = n) : NewI w l (conc M (.sl id 1 0 n)) w' := by
  refine ⟨some ⟨(M id).1, 0, none⟩, (M id).2 - 0, ?_, ?_, seesI_row (hr.heap id _ hB), ?_⟩
  · rw [hl]; simp [conc]
  · obtain ⟨_, _, _, hc, _⟩ := hr.heap id _ hB; rw [hl]; exact hc
  · intro a ha
    cases ha
    refine ⟨?_, (hr.heap id _ hB).lt⟩
    rcases Nat.lt_or_ge (M id).1 w.heap.size with h | h
    · exact (hr.own id _ hB h).elim
    · exact h

def lstV : Nat → AV
  | 0 => .v (.slice none 0 0)
  | k + 1 => .sl 9 1 0 (k + 1)
def lstB (l : List Int) : Nat → List (Nat × Blk)
  | 0 => []
  | k + 1 => [(9, .row 3 1 (k + 1) (encI l))]

theorem encI_app (l : List Int) (n : Nat) (hl : l.length = n) (x : Int) : (encI l).take (n * 1) ++ [.int .i64 x] = encI (l ++ [x]) := by
  rw [List.take_of_length_le (by simp [encI, hl])]; simp [encI]

/-- A set's numbers, as ints. -/
def listL (x : BitVec 64) : List Int := (bitsL x).map fun k : Nat => (k : Int)
def listFrom (x : BitVec 64) (i d : Nat) : List Int := (bitsFrom x i d).map fun k : Nat => (k : Int)
theorem listFrom_succ (x : BitVec 64) (i d : Nat) : listFrom x i (d + 1) = (if x.getLsbD i then [(i : Int)] else []) ++ listFrom x (i + 1) d := by
  unfold listFrom
  rw [bitsFrom_succ, List.map_append]
  split <;> rfl
theorem listL_len (x : BitVec 64) : (listL x).length = (bitsL x).length := by simp [listL]
theorem listL_le (x : BitVec 64) : (listL x).length ≤ 64 := by rw [listL_len]; exact bitsL_len_le x

theorem listR_ok (x : BitVec 64) (w : World) : Makes Tryd.prog 30 [.int .u64 (un x)] w (NewI w (listL x)) := by
  refine Makes.of_run Tryd.func30 rfl (by show 1 ≤ 17; decide) ?_
  refine RunF_sound tab_ok noX_local 100 [] _ _ rfl ?_ ?_
  · simp
  generalize hL : listL x = L
  have hLn : L.length ≤ 64 := by rw [← hL]; exact listL_le x
  suffices H : ∀ (d k n : Nat) (l : List Int), l.length = n → k + d = 64 → L = l ++ listFrom x k d →
      Run _ _ ⟨[(0, .v (.int .u64 (un x))), (3, lstV n), (4, .v (.int .i64 (k : Int)))], lstB l n, 10⟩ by
    refine Run.to (H 64 0 0 [] rfl rfl ?_) ⟨rfl, rfl, rfl, trivial⟩ trivial
    rw [← hL, List.nil_append, listL, listFrom, bitsFrom_all]
  intro d
  induction d with
  | zero =>
    intro k n l hln hk hl
    have hl' : L = l := by rw [hl]; simp [listFrom, bitsFrom]
    subst hl'
    cases n with
    | zero =>
      refine RunF_sound tab_ok noX_local 100 [false] _ _ rfl ?_ ?_
      · simp; omega
      have h0 : L = [] := List.length_eq_zero_iff.1 hln
      subst h0
      exact Run.ret tab_ok Tryd.func30 rfl trivial fun M fp a w' hr => ⟨hr.agree, newI_nil _ _⟩
    | succ n =>
      refine RunF_sound tab_ok noX_local 100 [false] _ _ rfl ?_ ?_
      · simp; omega
      exact Run.ret tab_ok Tryd.func30 rfl trivial fun M fp a w' hr => ⟨hr.agree, newI_row hr rfl hln⟩
  | succ d ih =>
    intro k n l hln hk hl
    have hnl : n ≤ 64 := by
      have := congrArg List.length hl
      rw [List.length_append, hln] at this
      omega
    refine RunF_sound tab_ok noX_local 100 [true] _ _ rfl ?_ ?_
    · simp; omega
    refine Run.callFn noX_local rfl rfl rfl rfl rfl rfl rfl hasR_enters rfl (fun w' _ => hasR_ok x k w') ?_
    have hb : hasB x (k : Int) = x.getLsbD k := by
      rw [hasB, (inB_iff _).2 (by omega)]; simp
    rw [listFrom_succ] at hl
    by_cases c : x.getLsbD k = true
    · rw [if_pos c] at hl
      cases n with
      | zero =>
        refine RunF_sound tab_ok noX_local 100 [true] _ _ rfl ?_ ?_
        · simp [hb, c, maxLen, fillL, repL, splice, Value.cells, Value.oneCell']
        refine Run.toR [(9, 11)] (ih (k + 1) 1 (l ++ [(k : Int)]) (by simp [hln]) (by omega) (by rw [hl]; simp)) ⟨rfl, rfl, i64_eq (wrap_succ (by omega)), trivial⟩ ⟨?_, trivial⟩ rfl
        refine congrArg (fun l => some (Blk.row 3 1 1 l)) ?_
        have : l = [] := List.length_eq_zero_iff.1 hln
        subst this
        rfl
      | succ n =>
        refine RunF_sound tab_ok noX_local 100 [true] _ _ rfl ?_ ?_
        · simp [hb, c, maxLen, fillL, repL, splice, Value.cells, Value.oneCell']; omega
        refine Run.toR [(9, 11)] (ih (k + 1) (n + 2) (l ++ [(k : Int)]) (by simp [hln]) (by omega) (by rw [hl]; simp)) ⟨rfl, rfl, i64_eq (wrap_succ (by omega)), trivial⟩ ⟨?_, trivial⟩ rfl
        refine congrArg (fun l => some (Blk.row 3 1 (n + 2) l)) ?_
        exact encI_app l (n + 1) hln (k : Int)
    · rw [if_neg c, List.nil_append] at hl
      refine RunF_sound tab_ok noX_local 100 [false] _ _ rfl ?_ ?_
      · simpa [hb] using c
      refine Run.to (ih (k + 1) n l hln (by omega) hl) ⟨rfl, rfl, i64_eq (wrap_succ (by omega)), trivial⟩ ?_
      cases n <;> first | trivial | exact ⟨rfl, trivial⟩
theorem listR_enters : Enters Tryd.prog 30 := enters_mk Tryd.func30 (by decide) rfl

theorem sizeR_ok (x : BitVec 64) (w : World) : Gives Tryd.prog 20 [.int .u64 (un x)] w (.int .i64 ((bitsL x).length : Int)) := by
  refine Gives.of_run Tryd.func20 rfl (by show 1 ≤ 6; decide) ?_
  refine RunF_sound tab_ok noX_local 100 [] _ _ rfl ?_ ?_
  · simp
  refine Run.callR noX_local rfl rfl rfl rfl rfl rfl listR_enters rfl (fun M w' _ _ => listR_ok x w') ?_
  rintro v w2 w1 S1 hag hag2 ⟨p, c, rfl, hc, hs, hnew⟩ hS1
  have hB1 := (Based.refl w).call hag hag2 hS1
  refine ⟨.v (.slice p (listL x).length c), fun M => rfl, ?_⟩
  refine RunF_sound tab_ok noX_local 100 [] _ _ rfl ?_ ?_
  · simp
  refine Run.retB (Ds := []) tab_ok noX_local hB1 Tryd.func20 rfl trivial (fun M => ?_)
  rw [← listL_len]; rfl
theorem sizeR_enters : Enters Tryd.prog 20 := enters_mk Tryd.func20 (by decide) rfl

theorem atL_list (x : BitVec 64) (k : Int) (h0 : 0 ≤ k) (h : k.toNat < (listL x).length) : (listL x)[k.toNat] = atL x k := by
  unfold atL
  rw [if_neg (by omega)]
  have h' : k.toNat < (bitsL x).length := by rw [← listL_len]; exact h
  rw [List.getElem?_eq_getElem h']
  simp [listL]

theorem atL_none (x : BitVec 64) (k : Int) (h : k < 0 ∨ k ≥ ((listL x).length : Int)) : atL x k = -1 := by
  unfold atL
  split
  · rfl
  · rw [listL_len] at h
    rw [List.getElem?_eq_none (by omega)]

theorem atR_ok (x : BitVec 64) (k : Int) (w : World) : Gives Tryd.prog 24 [.int .u64 (un x), .int .i64 k] w (.int .i64 (atL x k)) := by
  refine Gives.of_run Tryd.func24 rfl (by show 2 ≤ 20; decide) ?_
  refine RunF_sound tab_ok noX_local 100 [] _ _ rfl ?_ ?_
  · simp
  refine Run.callR noX_local rfl rfl rfl rfl rfl rfl listR_enters rfl (fun M w' _ _ => listR_ok x w') ?_
  rintro v w2 w1 S1 hag hag2 ⟨p, c, rfl, hc, hs, hnew⟩ hS1
  have hB1 := (Based.refl w).call hag hag2 hS1
  refine ⟨.v (.slice p (listL x).length c), fun M => rfl, ?_⟩
  by_cases h1 : k < 0
  · refine RunF_sound tab_ok noX_local 100 [true, true] _ _ rfl ?_ ?_
    · simp [h1]
    refine Run.retB (Ds := []) tab_ok noX_local hB1 Tryd.func24 rfl trivial (fun M => ?_)
    rw [atL_none x k (.inl h1)]; rfl
  · by_cases h2 : k ≥ ((listL x).length : Int)
    · refine RunF_sound tab_ok noX_local 100 [false, true] _ _ rfl ?_ ?_
      · simp; omega
      refine Run.retB (Ds := []) tab_ok noX_local hB1 Tryd.func24 rfl trivial (fun M => ?_)
      rw [atL_none x k (.inr h2)]; rfl
    · have hlt : k.toNat < (listL x).length := by omega
      obtain ⟨e1, e2⟩ := hs k.toNat hlt
      have hS : ¬ S1 ((p.getD default).add k.toNat).block := by rw [add_block]; exact hS1.new _ (hnew _ e1).1
      refine RunF_sound tab_ok noX_local 100 [false, false] _ _ rfl ?_ ?_
      · simp only [Nat.mul_one, e2]
        simp [hS]
        (repeat' refine And.intro ?_ ?_) <;> first | omega | exact e1
      refine Run.retB (Ds := []) tab_ok noX_local hB1 Tryd.func24 rfl trivial (fun M => ?_)
      simp only [Nat.mul_one, e2]
      rw [← atL_list x k (by omega) hlt]; rfl
theorem atR_enters : Enters Tryd.prog 24 := enters_mk Tryd.func24 (by decide) rfl

theorem rankR_ok (x : BitVec 64) (i : Int) (w : World) : Gives Tryd.prog 26 [.int .u64 (un x), .int .i64 i] w (.int .i64 (((bitsL x).filter fun k : Nat => decide ((k : Int) < i)).length : Int)) := by
  refine Gives.of_run Tryd.func26 rfl (by show 2 ≤ 25; decide) ?_
  refine RunF_sound tab_ok noX_local 100 [] _ _ rfl ?_ ?_
  · simp
  refine Run.callR noX_local rfl rfl rfl rfl rfl rfl listR_enters rfl (fun M w' _ _ => listR_ok x w') ?_
  rintro v w2 w1 S1 hag hag2 ⟨p, c, rfl, hc, hs, hnew⟩ hS1
  have hB1 := (Based.refl w).call hag hag2 hS1
  have hle := listL_le x
  have e0 : ((bitsL x).filter fun k : Nat => decide ((k : Int) < i)).length = ((listL x).filter fun k => decide (k < i)).length := by
    rw [listL, List.filter_map, List.length_map]; rfl
  rw [e0]
  generalize hL : listL x = L at *
  refine ⟨.v (.slice p L.length c), fun M => rfl, ?_⟩
  generalize hT : (L.filter fun k => decide (k < i)).length = T
  refine RunF_sound tab_ok noX_local 100 [] _ _ rfl ?_ ?_
  · simp
  suffices H : ∀ (d k n : Nat), k + d = L.length → n ≤ k → T = n + ((L.drop k).filter fun k => decide (k < i)).length → ∀ σ, inT σ.t [(1, .v (.int .i64 i)), (5, .v (.slice p L.length c)), (6, .v (.int .i64 (n : Int))), (7, .v (.int .i64 (k : Int)))] → inT σ.h [] → Run _ _ σ by
    exact H L.length 0 0 (by omega) (Nat.le_refl _) (by rw [List.drop_zero, hT]; omega) _ ⟨rfl, rfl, rfl, rfl, trivial⟩ trivial
  intro d
  induction d with
  | zero =>
    intro k n hk hnk hv σ ht hh
    refine Run.to ?_ ht hh (n' := 0)
    refine RunF_sound tab_ok noX_local 100 [false] _ _ rfl ?_ ?_
    · simp; omega
    refine Run.retB (Ds := []) tab_ok noX_local hB1 Tryd.func26 rfl trivial (fun M => ?_)
    rw [List.drop_eq_nil_of_le (by omega)] at hv
    have : T = n := by simpa using hv
    rw [this]; rfl
  | succ d ih =>
    intro k n hk hnk hv σ ht hh
    refine Run.to ?_ ht hh (n' := 0)
    have hlt : k < L.length := by omega
    obtain ⟨e1, e2⟩ := hs k hlt
    have hS : ¬ S1 ((p.getD default).add k).block := by rw [add_block]; exact hS1.new _ (hnew _ e1).1
    rw [List.drop_eq_getElem_cons hlt, List.filter_cons] at hv
    by_cases cc : L[k] < i
    · refine RunF_sound tab_ok noX_local 100 [true, true] _ _ rfl ?_ ?_
      · simp only [Nat.mul_one, Int.toNat_natCast, e2]
        simp [hS, cc]
        (repeat' refine And.intro ?_ ?_) <;> first | omega | exact e1
      rw [if_pos (by simpa using cc), List.length_cons] at hv
      exact ih (k + 1) (n + 1) (by omega) (by omega) (by omega) _ ⟨rfl, rfl, i64_eq (wrap_succ (by omega)), i64_eq (wrap_succ (by omega)), trivial⟩ trivial
    · refine RunF_sound tab_ok noX_local 100 [true, false] _ _ rfl ?_ ?_
      · simp only [Nat.mul_one, Int.toNat_natCast, e2]
        simp [hS, cc]
        (repeat' refine And.intro ?_ ?_) <;> first | omega | exact e1
      rw [if_neg (by simpa using cc)] at hv
      exact ih (k + 1) n (by omega) (by omega) hv _ ⟨rfl, rfl, rfl, i64_eq (wrap_succ (by omega)), trivial⟩ trivial
theorem rankR_enters : Enters Tryd.prog 26 := enters_mk Tryd.func26 (by decide) rfl
end Go.Proofs.YtpfanhbkjajocaaDoor

/-
  Co, here and in the reference. Own work.
-/
import Derived.Test.YtehimiadpgbhmaaDoorX1
namespace Go.Proofs.YtehimiadpgbhmaaDoor
open Go.AM
set_option maxRecDepth 100000

theorem bit_eq (x : BitVec 64) (b : Int) : (band .u64 (shrI .u64 (un x) b) 1 == 1) = x.getLsbD b.toNat := by
  rw [shr_un, band1_un, Bool.eq_iff_iff, beq_iff_eq, un_eq1, bit_iff]
theorem bit1 (x : BitVec 64) (i : Nat) : (band .u64 (un (x >>> i)) 1 = 1) ↔ x.getLsbD i = true := by
  have h := bit_eq x (i : Int)
  rw [shr_un, Int.toNat_natCast, Bool.eq_iff_iff, beq_iff_eq] at h
  exact h

theorem slOf_of {o : Option Value} {p : Option Addr} {n c : Nat} (h : o = some (.slice p n c)) : slOf o = (p, n, c) := by rw [h]; rfl

theorem co_ok (x : Xn) (w : World) (hX : SeesX w x) : Gives Tryd.prog 8 [encX x] w (encRel (coL (shortL x.ev).length x.ord)) := by
  refine Gives.of_run Tryd.func8 rfl (by show 1 ≤ 63; decide) ?_
  have hone := xV_one hX.one1 hX.one4
  refine RunF_sound tab_ok noX_local 200 [] _ _ rfl ?_ ?_
  · simp [segsVals, relV_one', hone]
  refine Run.callFn noX_local rfl rfl rfl rfl rfl rfl rfl short_enters rfl (fun w' _ => short_ok x.pe x.ce x.ev w') ?_
  obtain ⟨p', c', e1, _⟩ := short_form x.ce hX.ev
  have hle := shortL_le x.ev
  rw [e1]
  generalize (shortL x.ev).length = n at hle
  have hlo := hX.lo
  have hlo2 := hX.lo2
  have hcells := hX.ord
  refine RunF_sound tab_ok noX_local 200 [] _ _ rfl ?_ ?_
  · simp [fillL, Value.cells, segsVals, relV_one', relV_tail_one, splice]
    try rfl
  obtain ⟨Z, hZ⟩ : ∃ Z, Z = coL n x.ord := ⟨_, rfl⟩
  rw [← hZ]
  suffices H : ∀ (d i : Nat) (R : Rl), i + d = x.ord.length → R.n = (n : Int) → Z = (x.ord.drop i).foldl (cChain n) R → ∀ σ, inT σ.t [(2, .ptr 1 0), (3, .ptr 2 0), (16, .v (.slice x.po x.ord.length x.co)), (17, .v (.int .i64 (x.ord.length : Int))), (18, .v (.int .i64 (i : Int)))] →
      inT σ.h [(1, .cells 32 [.vals 65 (relV (Rl.void 0))]), (2, .cells 32 [.vals 65 (relV R)])] → Run _ _ σ by
    exact H x.ord.length 0 (Rl.void (n : Int)) (by omega) rfl (by rw [List.drop_zero]; exact hZ) _ ⟨rfl, rfl, rfl, rfl, rfl, trivial⟩ ⟨rfl, rfl, trivial⟩
  clear hZ
  intro d
  induction d with
  | zero =>
    intro i R hi hR hv σ ht hh
    refine Run.to ?_ ht hh (n' := 3)
    refine RunF_sound tab_ok noX_local 100 [false] _ _ rfl ?_ ?_
    · simp [relV_one', segsVals]; omega
    refine Run.retP tab_ok Tryd.func8 rfl ?_ (fun M => ?_)
    · simp
    rw [List.drop_eq_nil_of_le (by omega)] at hv
    rw [hv]; rfl
  | succ d ih =>
    intro i R hi hR hv σ ht hh
    refine Run.to ?_ ht hh (n' := 3)
    have hil : i < x.ord.length := by omega
    rw [List.drop_eq_getElem_cons hil, List.foldl_cons] at hv
    obtain ⟨f1, q, cq, f2, hin⟩ := hcells i hil
    have hcl := hlo2 x.ord[i] (List.getElem_mem hil)
    generalize x.ord[i] = C at *
    have f3 := slOf_of f2
    simp only [maxLen] at hcl hlo
    refine RunF_sound tab_ok noX_local 200 [true] _ _ rfl ?_ ?_
    · simp only [fnC_w0, fnC_S0, Int.toNat_natCast, Nat.mul_one, f2]
      simp
      (repeat' refine And.intro ?_ ?_) <;> first | omega | exact f1
    suffices H2 : ∀ (e j : Nat) (R : Rl) (s : BitVec 64), j + e = C.length → R.n = (n : Int) → Z = (x.ord.drop (i + 1)).foldl (cChain n) ((C.drop j).foldl (cStep n) (R, s)).1 → ∀ σ, inT σ.t [(2, .ptr 1 0), (3, .ptr 2 0), (16, .v (.slice x.po x.ord.length x.co)), (17, .v (.int .i64 (x.ord.length : Int))), (18, .v (.int .i64 (i : Int))), (6, .v (.int .u64 (un s))), (22, .v (.slice q C.length cq)), (23, .v (.int .i64 (C.length : Int))), (24, .v (.int .i64 (j : Int)))] →
        inT σ.h [(1, .cells 32 [.vals 65 (relV (Rl.void 0))]), (2, .cells 32 [.vals 65 (relV R)])] → Run _ _ σ by
      refine H2 C.length 0 R 0#64 (by omega) hR (by rw [List.drop_zero]; exact hv) _ ⟨rfl, rfl, rfl, rfl, rfl, rfl, ?_, ?_, rfl, trivial⟩ ⟨rfl, rfl, trivial⟩
      · simp only [fnC_w0, Int.toNat_natCast, Nat.mul_one, f3]; rfl
      · simp only [fnC_w0, Int.toNat_natCast, Nat.mul_one, f3]; rfl
    clear hv
    intro e
    induction e with
    | zero =>
      intro j R s hj hR hv σ ht hh
      refine Run.to ?_ ht hh (n' := 3)
      refine RunF_sound tab_ok noX_local 100 [false] _ _ rfl ?_ ?_
      · simp; omega
      rw [List.drop_eq_nil_of_le (by omega)] at hv
      exact ih (i + 1) R (by omega) hR hv _ ⟨rfl, rfl, rfl, rfl, i64_eq (wrap_succ (by omega)), trivial⟩ ⟨rfl, rfl, trivial⟩
    | succ e ihe =>
      intro j R s hj hR hv σ ht hh
      refine Run.to ?_ ht hh (n' := 3)
      have hjl : j < C.length := by omega
      rw [List.drop_eq_getElem_cons hjl, List.foldl_cons] at hv
      obtain ⟨g1, g2⟩ := hin j hjl
      generalize C[j] = v at *
      have hnR : intAt (relV R) 0 = (n : Int) := hR
      by_cases c1 : v < 0
      · rw [show cStep n (R, s) v = (R, s) by unfold cStep; rw [if_pos (.inl c1)]] at hv
        refine RunF_sound tab_ok noX_local 200 [true, true, true] _ _ rfl ?_ ?_
        · simp only [fnC_w0, fnC_S0, Int.toNat_natCast, Nat.mul_one, g2]
          simp [c1]
          (repeat' refine And.intro ?_ ?_) <;> first | omega | exact g1
        exact ihe (j + 1) R s (by omega) hR hv _ ⟨rfl, rfl, rfl, rfl, rfl, rfl, rfl, rfl, i64_eq (wrap_succ (by omega)), trivial⟩ ⟨rfl, rfl, trivial⟩
      by_cases c2 : v ≥ (n : Int)
      · rw [show cStep n (R, s) v = (R, s) by unfold cStep; rw [if_pos (.inr c2)]] at hv
        refine RunF_sound tab_ok noX_local 200 [true, false, true] _ _ rfl ?_ ?_
        · simp only [fnC_w0, fnC_S0, Int.toNat_natCast, Nat.mul_one, g2]
          simp [hR]
          (repeat' refine And.intro ?_ ?_) <;> first | omega | exact g1
        exact ihe (j + 1) R s (by omega) hR hv _ ⟨rfl, rfl, rfl, rfl, rfl, rfl, rfl, rfl, i64_eq (wrap_succ (by omega)), trivial⟩ ⟨rfl, rfl, trivial⟩
      obtain ⟨b, rfl⟩ : ∃ b : Nat, v = (b : Int) := ⟨v.toNat, by omega⟩
      rw [show cStep n (R, s) (b : Int) = (cP R s b n, s ||| 1#64 <<< b) by unfold cStep; rw [if_neg (by omega), Int.toNat_natCast]] at hv
      have hb : b < 64 := by omega
      refine RunF_sound tab_ok noX_local 200 [true, false, false] _ _ rfl ?_ ?_
      · simp only [fnC_w0, fnC_S0, Int.toNat_natCast, Nat.mul_one, g2]
        simp [hR]
        (repeat' refine And.intro ?_ ?_) <;> first | omega | exact g1
      suffices H3 : ∀ (y a : Nat), a + y = n → ∀ σ, inT σ.t [(2, .ptr 1 0), (3, .ptr 2 0), (16, .v (.slice x.po x.ord.length x.co)), (17, .v (.int .i64 (x.ord.length : Int))), (18, .v (.int .i64 (i : Int))), (6, .v (.int .u64 (un s))), (22, .v (.slice q C.length cq)), (23, .v (.int .i64 (C.length : Int))), (24, .v (.int .i64 (j : Int))), (8, .v (.int .i64 (b : Int))), (37, .v (.int .i64 (n : Int))), (38, .v (.int .i64 (a : Int)))] →
          inT σ.h [(1, .cells 32 [.vals 65 (relV (Rl.void 0))]), (2, .cells 32 [.vals 65 (relV (cP R s b a))])] → Run _ _ σ by
        refine H3 n 0 (by omega) _ ⟨rfl, rfl, rfl, rfl, rfl, rfl, rfl, rfl, rfl, ?_, i64_eq hnR, rfl, trivial⟩ ⟨rfl, ?_, trivial⟩
        · simp only [fnC_w0, Int.toNat_natCast, Nat.mul_one, g2]; rfl
        · rw [cP_0]; rfl
      intro y
      induction y with
      | zero =>
        intro a ha σ ht hh
        refine Run.to ?_ ht hh (n' := 3)
        refine RunF_sound tab_ok noX_local 200 [false] _ _ rfl ?_ ?_
        · simp; omega
        refine ihe (j + 1) (cP R s b n) (s ||| 1#64 <<< b) (by omega) ((cP_n _ _ _ _).trans hR) hv _ ⟨rfl, rfl, rfl, rfl, rfl, ?_, rfl, rfl, i64_eq (wrap_succ (by omega)), trivial⟩ ⟨rfl, ?_, trivial⟩
        · refine u64_eq ?_
          rw [shl1_un, bor_un, Int.toNat_natCast]
        · rw [show n = a by omega]; rfl
      | succ y ihy =>
        intro a ha σ ht hh
        refine Run.to ?_ ht hh (n' := 3)
        have ha' : a < 64 := by omega
        have hbit := bit1 s a
        by_cases c : s.getLsbD a = true
        · refine RunF_sound tab_ok noX_local 200 [true, true] _ _ rfl ?_ ?_
          · simp [hbit, c]; omega
          refine Run.drawA noX_local rfl [] [(2, .cells 32 [.vals 65 (relV (cP R s b a))])] rfl rfl ⟨rfl, trivial⟩ ?_
          refine RunOF_sound tab_ok noX_local rfl rfl 9 [] _ _ rfl ?_ ?_
          · simp [relV_get _ _ ha', intAt_row _ _ ha', okCell, Value.oneCell', inT, lk]; omega
          refine RunO.effLast tab_ok noX_local rfl rfl rfl rfl ?_ (fun e => by cases e) rfl ?_
          · simp [okCell, Value.oneCell']; omega
          refine RunF_sound tab_ok noX_local 100 [] _ _ rfl ?_ ?_
          · simp
          refine ihy (a + 1) (by omega) _ ⟨rfl, rfl, rfl, rfl, rfl, rfl, rfl, rfl, rfl, rfl, rfl, i64_eq (wrap_succ (by omega)), trivial⟩ ⟨rfl, congrArg (fun l => some (Blk.cells 32 [.vals 65 l])) ?_, trivial⟩
          have e1 : intAt (relV (cP R s b a)) (1 + a) = un ((cP R s b a).row a) := intAt_row _ _ ha'
          simp [e1, shl1_un, relV_set _ _ ha', cP_yes ha' c]
        · refine RunF_sound tab_ok noX_local 200 [true, false] _ _ rfl ?_ ?_
          · simp [hbit, c]; omega
          refine ihy (a + 1) (by omega) _ ⟨rfl, rfl, rfl, rfl, rfl, rfl, rfl, rfl, rfl, rfl, rfl, i64_eq (wrap_succ (by omega)), trivial⟩ ⟨rfl, ?_, trivial⟩
          rw [← cP_no (by simpa using c)]; rfl
theorem co_enters : Enters Tryd.prog 8 := enters_mk Tryd.func8 (by decide) rfl

theorem coR_ok (x : Xn) (w : World) (hX : SeesX w x) : Gives Tryd.prog 9 [encX x] w (encRel (coL (shortL x.ev).length x.ord)) := by
  refine Gives.of_run Tryd.func9 rfl (by show 1 ≤ 76; decide) ?_
  have hone := xV_one hX.one1 hX.one4
  refine RunF_sound tab_ok noX_local 200 [] _ _ rfl ?_ ?_
  · simp [segsVals, relV_one', hone]
  refine Run.callFn noX_local rfl rfl rfl rfl rfl rfl rfl shortR_enters rfl (fun w' _ => shortR_ok x.pe x.ce x.ev w') ?_
  obtain ⟨p', c', e1, _⟩ := short_form x.ce hX.ev
  have hle := shortL_le x.ev
  rw [e1]
  generalize (shortL x.ev).length = n at hle
  have hlo := hX.lo
  have hlo2 := hX.lo2
  have hcells := hX.ord
  refine RunF_sound tab_ok noX_local 200 [] _ _ rfl ?_ ?_
  · simp [fillL, Value.cells, segsVals, relV_one', relV_tail_one, splice]
    try rfl
  obtain ⟨Z, hZ⟩ : ∃ Z, Z = coL n x.ord := ⟨_, rfl⟩
  rw [← hZ]
  suffices H : ∀ (d i : Nat) (R : Rl), i + d = x.ord.length → R.n = (n : Int) → Z = (x.ord.drop i).foldl (cChain n) R → ∀ σ, inT σ.t [(1, .ptr 0 0), (2, .ptr 1 0), (3, .v (.int .i64 (n : Int))), (4, .ptr 2 0), (5, .v (.int .i64 (i : Int)))] →
      inT σ.h [(0, .cells 28 [.vals 5 (xV x)]), (1, .cells 32 [.vals 65 (relV (Rl.void 0))]), (2, .cells 32 [.vals 65 (relV R)])] → Run _ _ σ by
    exact H x.ord.length 0 (Rl.void (n : Int)) (by omega) rfl (by rw [List.drop_zero]; exact hZ) _ ⟨rfl, rfl, rfl, rfl, rfl, trivial⟩ ⟨rfl, rfl, rfl, trivial⟩
  clear hZ
  intro d
  induction d with
  | zero =>
    intro i R hi hR hv σ ht hh
    refine Run.to ?_ ht hh (n' := 3)
    refine RunF_sound tab_ok noX_local 100 [false] _ _ rfl ?_ ?_
    · simp [relV_one', segsVals]; omega
    refine Run.retP tab_ok Tryd.func9 rfl ?_ (fun M => ?_)
    · simp
    rw [List.drop_eq_nil_of_le (by omega)] at hv
    rw [hv]; rfl
  | succ d ih =>
    intro i R hi hR hv σ ht hh
    refine Run.to ?_ ht hh (n' := 3)
    have hil : i < x.ord.length := by omega
    rw [List.drop_eq_getElem_cons hil, List.foldl_cons] at hv
    obtain ⟨f1, q, cq, f2, hin⟩ := hcells i hil
    have hcl := hlo2 x.ord[i] (List.getElem_mem hil)
    generalize x.ord[i] = C at *
    simp only [maxLen] at hcl hlo
    refine RunF_sound tab_ok noX_local 200 [true] _ _ rfl ?_ ?_
    · simp; omega
    suffices H2 : ∀ (e j : Nat) (R : Rl) (s : BitVec 64), j + e = C.length → R.n = (n : Int) → Z = (x.ord.drop (i + 1)).foldl (cChain n) ((C.drop j).foldl (cStep n) (R, s)).1 → ∀ σ, inT σ.t [(1, .ptr 0 0), (2, .ptr 1 0), (3, .v (.int .i64 (n : Int))), (4, .ptr 2 0), (5, .v (.int .i64 (i : Int))), (6, .v (.int .u64 (un s))), (7, .v (.int .i64 (j : Int)))] →
        inT σ.h [(0, .cells 28 [.vals 5 (xV x)]), (1, .cells 32 [.vals 65 (relV (Rl.void 0))]), (2, .cells 32 [.vals 65 (relV R)])] → Run _ _ σ by
      exact H2 C.length 0 R 0#64 (by omega) hR (by rw [List.drop_zero]; exact hv) _ ⟨rfl, rfl, rfl, rfl, rfl, rfl, rfl, trivial⟩ ⟨rfl, rfl, rfl, trivial⟩
    clear hv
    intro e
    induction e with
    | zero =>
      intro j R s hj hR hv σ ht hh
      refine Run.to ?_ ht hh (n' := 3)
      refine RunF_sound tab_ok noX_local 200 [false] _ _ rfl ?_ ?_
      · simp only [fnC_w0, fnC_S0, Int.toNat_natCast, Nat.mul_one]
        simp [f2]
        (repeat' refine And.intro ?_ ?_) <;> first | omega | exact f1
      rw [List.drop_eq_nil_of_le (by omega)] at hv
      exact ih (i + 1) R (by omega) hR hv _ ⟨rfl, rfl, rfl, rfl, i64_eq (wrap_succ (by omega)), trivial⟩ ⟨rfl, rfl, rfl, trivial⟩
    | succ e ihe =>
      intro j R s hj hR hv σ ht hh
      refine Run.to ?_ ht hh (n' := 3)
      have hjl : j < C.length := by omega
      rw [List.drop_eq_getElem_cons hjl, List.foldl_cons] at hv
      obtain ⟨g1, g2⟩ := hin j hjl
      generalize C[j] = v at *
      by_cases c1 : v < 0
      · rw [show cStep n (R, s) v = (R, s) by unfold cStep; rw [if_pos (.inl c1)]] at hv
        refine RunF_sound tab_ok noX_local 200 [true, true, true] _ _ rfl ?_ ?_
        · simp only [fnC_w0, fnC_S0, Int.toNat_natCast, Nat.mul_one]
          simp [f2, g2, c1]
          (repeat' refine And.intro ?_ ?_) <;> first | omega | exact f1 | exact g1
        exact ihe (j + 1) R s (by omega) hR hv _ ⟨rfl, rfl, rfl, rfl, rfl, rfl, i64_eq (wrap_succ (by omega)), trivial⟩ ⟨rfl, rfl, rfl, trivial⟩
      by_cases c2 : v ≥ (n : Int)
      · rw [show cStep n (R, s) v = (R, s) by unfold cStep; rw [if_pos (.inr c2)]] at hv
        refine RunF_sound tab_ok noX_local 200 [true, false, true] _ _ rfl ?_ ?_
        · simp only [fnC_w0, fnC_S0, Int.toNat_natCast, Nat.mul_one]
          simp [f2, g2]
          (repeat' refine And.intro ?_ ?_) <;> first | omega | exact f1 | exact g1
        exact ihe (j + 1) R s (by omega) hR hv _ ⟨rfl, rfl, rfl, rfl, rfl, rfl, i64_eq (wrap_succ (by omega)), trivial⟩ ⟨rfl, rfl, rfl, trivial⟩
      obtain ⟨b, rfl⟩ : ∃ b : Nat, v = (b : Int) := ⟨v.toNat, by omega⟩
      rw [show cStep n (R, s) (b : Int) = (cP R s b n, s ||| 1#64 <<< b) by unfold cStep; rw [if_neg (by omega), Int.toNat_natCast]] at hv
      have hb : b < 64 := by omega
      refine RunF_sound tab_ok noX_local 200 [true, false, false] _ _ rfl ?_ ?_
      · simp only [fnC_w0, fnC_S0, Int.toNat_natCast, Nat.mul_one]
        simp [f2, g2]
        (repeat' refine And.intro ?_ ?_) <;> first | omega | exact f1 | exact g1
      suffices H3 : ∀ (y a : Nat), a + y = n → ∀ σ, inT σ.t [(1, .ptr 0 0), (2, .ptr 1 0), (3, .v (.int .i64 (n : Int))), (4, .ptr 2 0), (5, .v (.int .i64 (i : Int))), (6, .v (.int .u64 (un s))), (7, .v (.int .i64 (j : Int))), (8, .v (.int .i64 (b : Int))), (9, .v (.int .i64 (a : Int)))] →
          inT σ.h [(0, .cells 28 [.vals 5 (xV x)]), (1, .cells 32 [.vals 65 (relV (Rl.void 0))]), (2, .cells 32 [.vals 65 (relV (cP R s b a))])] → Run _ _ σ by
        refine H3 n 0 (by omega) _ ⟨rfl, rfl, rfl, rfl, rfl, rfl, rfl, ?_, rfl, trivial⟩ ⟨rfl, rfl, ?_, trivial⟩
        · simp only [fnC_w0, Int.toNat_natCast, Nat.mul_one]
          have h8 : ∀ z : Option Addr × Nat × Nat, z = (q, C.length, cq) → w.cell? ((z.1.getD default).add j) = some (.int .i64 (b : Int)) := fun z hz => by rw [hz]; exact g2
          have h9 := h8 (slOf (w.cell? ((x.po.getD default).add i))) (slOf_of f2)
          have h10 : ∀ o : Option Value, o = some (.int .i64 (b : Int)) → some (AV.v (.int .i64 (match o with | some (.int _ m) => m | _ => 0))) = some (AV.v (.int .i64 (b : Int))) := fun o ho => by rw [ho]
          exact h10 _ h9
        · rw [cP_0]; rfl
      intro y
      induction y with
      | zero =>
        intro a ha σ ht hh
        refine Run.to ?_ ht hh (n' := 3)
        refine RunF_sound tab_ok noX_local 200 [false] _ _ rfl ?_ ?_
        · simp [wrapn b (by omega)]; omega
        refine ihe (j + 1) (cP R s b n) (s ||| 1#64 <<< b) (by omega) ((cP_n _ _ _ _).trans hR) hv _ ⟨rfl, rfl, rfl, rfl, rfl, ?_, i64_eq (wrap_succ (by omega)), trivial⟩ ⟨rfl, rfl, ?_, trivial⟩
        · refine u64_eq ?_
          rw [wrapn b (by omega), shl1_un, bor_un, Int.toNat_natCast]
        · rw [show n = a by omega]; rfl
      | succ y ihy =>
        intro a ha σ ht hh
        refine Run.to ?_ ht hh (n' := 3)
        have ha' : a < 64 := by omega
        have hbit := bit1 s a
        by_cases c : s.getLsbD a = true
        · refine RunF_sound tab_ok noX_local 200 [true, true] _ _ rfl ?_ ?_
          · simp [wrapn a (by omega), wrapn b (by omega), hbit, c, relV_get _ _ ha', intAt_row _ _ ha', okCell, Value.oneCell', inT, lk]; omega
          refine ihy (a + 1) (by omega) _ ⟨rfl, rfl, rfl, rfl, rfl, rfl, rfl, rfl, i64_eq (wrap_succ (by omega)), trivial⟩ ⟨rfl, rfl, congrArg (fun l => some (Blk.cells 32 [.vals 65 l])) ?_, trivial⟩
          have e1 : intAt (relV (cP R s b a)) (1 + a) = un ((cP R s b a).row a) := intAt_row _ _ ha'
          simp [e1, wrapn b (by omega), shl1_un, relV_set _ _ ha', cP_yes ha' c]
        · refine RunF_sound tab_ok noX_local 200 [true, false] _ _ rfl ?_ ?_
          · simp [wrapn a (by omega), hbit, c]; omega
          refine ihy (a + 1) (by omega) _ ⟨rfl, rfl, rfl, rfl, rfl, rfl, rfl, rfl, i64_eq (wrap_succ (by omega)), trivial⟩ ⟨rfl, rfl, ?_, trivial⟩
          rw [← cP_no (by simpa using c)]; rfl
theorem coR_enters : Enters Tryd.prog 9 := enters_mk Tryd.func9 (by decide) rfl
end Go.Proofs.YtehimiadpgbhmaaDoor

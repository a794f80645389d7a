/-
  The sets of events: those, Of, Memory, Locked, here and in the reference. Own work.
-/
import Derived.Test.YtehimiadpgbhmaaE1
namespace Go.Proofs.Ytehimiadpgbhmaa
open Go.AM
set_option maxRecDepth 100000

/-- The places below k at which a test holds. -/
def thoseP (T : Ev → Bool) (xs : List Ev) (k : Nat) : BitVec 64 := bitsB fun j => decide (j < k) && (match xs[j]? with | some e => T e | none => false)
def thoseL (T : Ev → Bool) (xs : List Ev) : BitVec 64 := thoseP T (shortL xs) (shortL xs).length

theorem thoseP_0 (T : Ev → Bool) (xs : List Ev) : thoseP T xs 0 = 0#64 := by
  apply BitVec.eq_of_getLsbD_eq
  intro j hj
  rw [thoseP, bitsB_get]; simp
theorem thoseP_yes (T : Ev → Bool) (xs : List Ev) (k : Nat) (hk : k < xs.length) (hk2 : k < 64) (h : T xs[k] = true) : thoseP T xs k ||| 1#64 <<< k = thoseP T xs (k + 1) := by
  apply BitVec.eq_of_getLsbD_eq
  intro j hj
  rw [BitVec.getLsbD_or, thoseP, thoseP, bitsB_get, bitsB_get, one_shl_get k j hk2]
  by_cases hjk : j = k
  · subst hjk
    rw [List.getElem?_eq_getElem hk]; simp [h, hj]
  · have : decide (j < k + 1) = decide (j < k) := decide_eq_decide.2 (by omega)
    simp [hjk, this]
theorem thoseP_no (T : Ev → Bool) (xs : List Ev) (k : Nat) (hk : k < xs.length) (h : T xs[k] = false) : thoseP T xs k = thoseP T xs (k + 1) := by
  apply BitVec.eq_of_getLsbD_eq
  intro j hj
  rw [thoseP, thoseP, bitsB_get, bitsB_get]
  by_cases hjk : j = k
  · subst hjk
    rw [List.getElem?_eq_getElem hk]; simp [h]
  · have : decide (j < k + 1) = decide (j < k) := decide_eq_decide.2 (by omega)
    simp [this]

theorem those_ok (g : FuncId) (cs : List Value) (T : Ev → Bool) (p : Option Addr) (c : Nat) (xs : List Ev) (w : World) (hs : SeesV w p xs) (hent : Enters Try.prog g)
    (hg : ∀ w', Agree (fun _ => False) w w' → ∀ e, Gives Try.prog g ([encEv e] ++ cs) w' (.bool (T e))) :
    Gives Try.prog 17 [.slice p xs.length c, .func (.func g) #[] cs.toArray] w (.int .u64 (un (thoseL T xs))) := by
  refine Gives.of_run Try.func17 rfl (by show 2 ≤ 25; decide) ?_
  refine RunF_sound tab_ok noX_local 100 [] _ _ rfl ?_ ?_
  · simp
  refine Run.callFn noX_local rfl rfl rfl rfl rfl rfl rfl short_enters rfl (fun w' _ => short_ok p c xs w') ?_
  obtain ⟨p', c', e1, hs'⟩ := short_form c hs
  have hle := shortL_le xs
  rw [e1]
  unfold thoseL
  generalize shortL xs = L at hs' hle
  refine RunF_sound tab_ok noX_local 100 [] _ _ rfl ?_ ?_
  · simp
  suffices H : ∀ (d k : Nat), k + d = L.length → ∀ σ, inT σ.t [(1, .v (.func (.func g) #[] cs.toArray)), (5, .v (.int .u64 (un (thoseP T L k)))), (9, .v (.slice p' L.length c')), (10, .v (.int .i64 (L.length : Int))), (11, .v (.int .i64 (k : Int)))] → inT σ.h [] → Run _ _ σ by
    refine H L.length 0 (by omega) _ ⟨rfl, ?_, rfl, rfl, rfl, trivial⟩ trivial
    rw [thoseP_0]; rfl
  intro d
  induction d with
  | zero =>
    intro k hk σ ht hh
    refine Run.to ?_ ht hh (n' := 0)
    refine RunF_sound tab_ok noX_local 100 [false] _ _ rfl ?_ ?_
    · simp; omega
    refine Run.retP tab_ok Try.func17 rfl trivial (fun M => ?_)
    rw [show L.length = k by omega]; rfl
  | succ d ih =>
    intro k hk σ ht hh
    refine Run.to ?_ ht hh (n' := 0)
    have hlt : k < L.length := by omega
    have f1 := (hs' k hlt).1
    have f2 := hs'.ext k hlt
    have f3 := hs'.some k hlt
    have f4 := evV_one L[k]
    refine RunF_sound tab_ok noX_local 100 [true] _ _ rfl ?_ ?_
    · simp only [fnC_w0, fnC_S0, Int.toNat_natCast, f2]
      simp [segsVals, f4]
      (repeat' refine And.intro ?_ ?_) <;> first | omega | exact f1
    refine Run.callFv (cs := cs) (f := g) (r := .bool (T L[k])) noX_local rfl rfl rfl rfl rfl rfl rfl hent rfl (fun w' hA => ?_) ?_
    · have := hg w' hA L[k]
      simp only [fnC_w0, Int.toNat_natCast, f2, splice, List.take_zero, List.nil_append, evV_len, zev, List.drop_length, List.append_nil, Nat.zero_add]
      exact this
    by_cases ct : T L[k] = true
    · refine RunF_sound tab_ok noX_local 100 [true] _ _ rfl ?_ ?_
      · simp [ct]
      refine ih (k + 1) (by omega) _ ⟨rfl, ?_, rfl, rfl, i64_eq (wrap_succ (by omega)), trivial⟩ trivial
      refine u64_eq ?_
      rw [shl1_un, bor_un, Int.toNat_natCast, thoseP_yes T L k hlt (by omega) ct]
    · refine RunF_sound tab_ok noX_local 100 [false] _ _ rfl ?_ ?_
      · simpa using ct
      refine ih (k + 1) (by omega) _ ⟨rfl, ?_, rfl, rfl, i64_eq (wrap_succ (by omega)), trivial⟩ trivial
      rw [← thoseP_no T L k hlt (by simpa using ct)]; rfl
theorem those_enters : Enters Try.prog 17 := enters_mk Try.func17 (by decide) rfl

theorem of_ok (p : Option Addr) (c : Nat) (xs : List Ev) (k : Int) (w : World) (hs : SeesV w p xs) : Gives Try.prog 4 [.slice p xs.length c, .int .i64 k] w (.int .u64 (un (thoseL (fun e => decide (e.kind = k)) xs))) := by
  refine Gives.of_run Try.func4 rfl (by show 2 ≤ 8; decide) ?_
  refine RunF_sound tab_ok noX_local 100 [] _ _ rfl ?_ ?_
  · simp [okCell, argsT.ofConst', Value.oneCell']
  refine Run.callM noX_local rfl rfl rfl rfl rfl rfl those_enters rfl (r := .int .u64 (un (thoseL (fun e => decide (e.kind = k)) xs))) (fun M w' hb hA => ?_) ?_
  · have hcell : w'.cell? ⟨(M 0).1, 0, none⟩ = some (.int .i64 k) := cells_of_blk (hb 0 _ rfl) 0
    exact those_ok 18 [.pointer (some ⟨(M 0).1, 0, none⟩)] _ p c xs w' (hs.agree hA (fun _ _ h => h)) isOf_enters (fun w'' hA' e => isOf_ok e (M 0).1 k w'' (hA'.cell hcell (fun h => h)))
  refine RunF_sound tab_ok noX_local 100 [] _ _ rfl ?_ ?_
  · simp
  exact Run.retP tab_ok Try.func4 rfl trivial (fun M => rfl)
theorem of_enters : Enters Try.prog 4 := enters_mk Try.func4 (by decide) rfl

theorem memorySet_ok (p : Option Addr) (c : Nat) (xs : List Ev) (w : World) (hs : SeesV w p xs) : Gives Try.prog 6 [.slice p xs.length c] w (.int .u64 (un (thoseL memB xs))) := by
  refine Gives.of_run Try.func6 rfl (by show 1 ≤ 5; decide) ?_
  refine RunF_sound tab_ok noX_local 100 [] _ _ rfl ?_ ?_
  · simp
  refine Run.callM noX_local rfl rfl rfl rfl rfl rfl those_enters rfl (r := .int .u64 (un (thoseL memB xs))) (fun M w' _ hA => those_ok 20 [] _ p c xs w' (hs.agree hA (fun _ _ h => h)) memory_enters (fun w'' _ e => memory_ok e w'')) ?_
  refine RunF_sound tab_ok noX_local 100 [] _ _ rfl ?_ ?_
  · simp
  exact Run.retP tab_ok Try.func6 rfl trivial (fun M => rfl)
theorem memorySet_enters : Enters Try.prog 6 := enters_mk Try.func6 (by decide) rfl

theorem lockedSet_ok (p : Option Addr) (c : Nat) (xs : List Ev) (w : World) (hs : SeesV w p xs) : Gives Try.prog 8 [.slice p xs.length c] w (.int .u64 (un (thoseL (fun e => e.locked) xs))) := by
  refine Gives.of_run Try.func8 rfl (by show 1 ≤ 5; decide) ?_
  refine RunF_sound tab_ok noX_local 100 [] _ _ rfl ?_ ?_
  · simp
  refine Run.callM noX_local rfl rfl rfl rfl rfl rfl those_enters rfl (r := .int .u64 (un (thoseL (fun e => e.locked) xs))) (fun M w' _ hA => those_ok 21 [] _ p c xs w' (hs.agree hA (fun _ _ h => h)) locked1_enters (fun w'' _ e => locked1_ok e w'')) ?_
  refine RunF_sound tab_ok noX_local 100 [] _ _ rfl ?_ ?_
  · simp
  exact Run.retP tab_ok Try.func8 rfl trivial (fun M => rfl)
theorem lockedSet_enters : Enters Try.prog 8 := enters_mk Try.func8 (by decide) rfl

/-! ### The reference's -/
theorem wrapn (k : Nat) (h : k < 9223372036854775808) : IntKind.u64.wrap (k : Int) = (k : Int) := wrap_u64 (by omega) (by omega)

theorem ofR_ok (p : Option Addr) (c : Nat) (xs : List Ev) (kd : Int) (w : World) (hs : SeesV w p xs) : Gives Try.prog 5 [.slice p xs.length c, .int .i64 kd] w (.int .u64 (un (thoseL (fun e => decide (e.kind = kd)) xs))) := by
  refine Gives.of_run Try.func5 rfl (by show 2 ≤ 28; decide) ?_
  refine RunF_sound tab_ok noX_local 100 [] _ _ rfl ?_ ?_
  · simp
  refine Run.callFn noX_local rfl rfl rfl rfl rfl rfl rfl shortR_enters rfl (fun w' _ => shortR_ok p c xs w') ?_
  obtain ⟨p', c', e1, hs'⟩ := short_form c hs
  have hle := shortL_le xs
  rw [e1]
  unfold thoseL
  generalize shortL xs = L at hs' hle
  generalize hT : (fun e : Ev => decide (e.kind = kd)) = T
  have hT' : ∀ e, T e = decide (e.kind = kd) := fun e => by rw [← hT]
  refine RunF_sound tab_ok noX_local 100 [] _ _ rfl ?_ ?_
  · simp
  suffices H : ∀ (d k : Nat), k + d = L.length → ∀ σ, inT σ.t [(0, .v (.slice p' L.length c')), (1, .v (.int .i64 kd)), (5, .v (.int .u64 (un (thoseP T L k)))), (6, .v (.int .i64 (k : Int)))] → inT σ.h [] → Run _ _ σ by
    refine H L.length 0 (by omega) _ ⟨rfl, rfl, ?_, rfl, trivial⟩ trivial
    rw [thoseP_0]; rfl
  intro d
  induction d with
  | zero =>
    intro k hk σ ht hh
    refine Run.to ?_ ht hh (n' := 0)
    refine RunF_sound tab_ok noX_local 100 [false] _ _ rfl ?_ ?_
    · simp; omega
    refine Run.retP tab_ok Try.func5 rfl trivial (fun M => ?_)
    rw [show L.length = k by omega]; rfl
  | succ d ih =>
    intro k hk σ ht hh
    refine Run.to ?_ ht hh (n' := 0)
    have hlt : k < L.length := by omega
    have f1 := (hs' k hlt).1
    have f2 := hs'.field k hlt (evV_0 L[k])
    by_cases ct : L[k].kind = kd
    · refine RunF_sound tab_ok noX_local 100 [true, true] _ _ rfl ?_ ?_
      · simp only [fnC_w0, fnC_S0, Int.toNat_natCast, f2]
        simp [ct, wrapn k (by omega)]
        (repeat' refine And.intro ?_ ?_) <;> first | omega | exact f1
      refine ih (k + 1) (by omega) _ ⟨rfl, rfl, ?_, i64_eq (wrap_succ (by omega)), trivial⟩ trivial
      refine u64_eq ?_
      rw [wrapn k (by omega), shl1_un, bor_un, Int.toNat_natCast, thoseP_yes T L k hlt (by omega) (by rw [hT']; simp [ct])]
    · refine RunF_sound tab_ok noX_local 100 [true, false] _ _ rfl ?_ ?_
      · simp only [fnC_w0, fnC_S0, Int.toNat_natCast, f2]
        simp [ct]
        (repeat' refine And.intro ?_ ?_) <;> first | omega | exact f1
      refine ih (k + 1) (by omega) _ ⟨rfl, rfl, ?_, i64_eq (wrap_succ (by omega)), trivial⟩ trivial
      rw [← thoseP_no T L k hlt (by rw [hT']; simp [ct])]; rfl
theorem ofR_enters : Enters Try.prog 5 := enters_mk Try.func5 (by decide) rfl

theorem thoseL_or (S T U : Ev → Bool) (h : ∀ e, U e = (S e || T e)) (xs : List Ev) : thoseL S xs ||| thoseL T xs = thoseL U xs := by
  apply BitVec.eq_of_getLsbD_eq
  intro j hj
  unfold thoseL thoseP
  rw [BitVec.getLsbD_or, bitsB_get, bitsB_get, bitsB_get]
  cases (shortL xs)[j]? with
  | none => simp
  | some e => simp only [h]; cases S e <;> cases T e <;> simp

theorem memoryR_ok (p : Option Addr) (c : Nat) (xs : List Ev) (w : World) (hs : SeesV w p xs) : Gives Try.prog 7 [.slice p xs.length c] w (.int .u64 (un (thoseL memB xs))) := by
  refine Gives.of_run Try.func7 rfl (by show 1 ≤ 11; decide) ?_
  refine RunF_sound tab_ok noX_local 100 [] _ _ rfl ?_ ?_
  · simp
  refine Run.callFn noX_local rfl rfl rfl rfl rfl rfl rfl ofR_enters rfl (fun w' hA => ofR_ok p c xs 1 w' (hs.agree hA (fun _ _ h => h))) ?_
  refine RunF_sound tab_ok noX_local 100 [] _ _ rfl ?_ ?_
  · simp
  refine Run.callFn noX_local rfl rfl rfl rfl rfl rfl rfl ofR_enters rfl (fun w' hA => ofR_ok p c xs 2 w' (hs.agree hA (fun _ _ h => h))) ?_
  refine RunF_sound tab_ok noX_local 100 [] _ _ rfl ?_ ?_
  · simp
  refine Run.callFn noX_local rfl rfl rfl rfl rfl rfl rfl ofR_enters rfl (fun w' hA => ofR_ok p c xs 3 w' (hs.agree hA (fun _ _ h => h))) ?_
  refine RunF_sound tab_ok noX_local 100 [] _ _ rfl ?_ ?_
  · simp
  refine Run.retP tab_ok Try.func7 rfl trivial (fun M => ?_)
  show Value.int _ _ = _
  rw [bor_un, bor_un, thoseL_or _ _ (fun e => decide (e.kind = 1) || decide (e.kind = 2)) (fun e => rfl), thoseL_or _ _ memB (fun e => ?_)]
  unfold memB
  rw [Bool.eq_iff_iff]; simp; omega
theorem memoryR_enters : Enters Try.prog 7 := enters_mk Try.func7 (by decide) rfl

theorem lockedR_ok (p : Option Addr) (c : Nat) (xs : List Ev) (w : World) (hs : SeesV w p xs) : Gives Try.prog 9 [.slice p xs.length c] w (.int .u64 (un (thoseL (fun e => e.locked) xs))) := by
  refine Gives.of_run Try.func9 rfl (by show 1 ≤ 24; decide) ?_
  refine RunF_sound tab_ok noX_local 100 [] _ _ rfl ?_ ?_
  · simp
  refine Run.callFn noX_local rfl rfl rfl rfl rfl rfl rfl shortR_enters rfl (fun w' _ => shortR_ok p c xs w') ?_
  obtain ⟨p', c', e1, hs'⟩ := short_form c hs
  have hle := shortL_le xs
  rw [e1]
  unfold thoseL
  generalize shortL xs = L at hs' hle
  generalize hT : (fun e : Ev => e.locked) = T
  have hT' : ∀ e, T e = e.locked := fun e => by rw [← hT]
  refine RunF_sound tab_ok noX_local 100 [] _ _ rfl ?_ ?_
  · simp
  suffices H : ∀ (d k : Nat), k + d = L.length → ∀ σ, inT σ.t [(0, .v (.slice p' L.length c')), (3, .v (.int .u64 (un (thoseP T L k)))), (4, .v (.int .i64 (k : Int)))] → inT σ.h [] → Run _ _ σ by
    refine H L.length 0 (by omega) _ ⟨rfl, ?_, rfl, trivial⟩ trivial
    rw [thoseP_0]; rfl
  intro d
  induction d with
  | zero =>
    intro k hk σ ht hh
    refine Run.to ?_ ht hh (n' := 0)
    refine RunF_sound tab_ok noX_local 100 [false] _ _ rfl ?_ ?_
    · simp; omega
    refine Run.retP tab_ok Try.func9 rfl trivial (fun M => ?_)
    rw [show L.length = k by omega]; rfl
  | succ d ih =>
    intro k hk σ ht hh
    refine Run.to ?_ ht hh (n' := 0)
    have hlt : k < L.length := by omega
    have f1 := (hs' k hlt).1
    have f2 := hs'.field k hlt (evV_4 L[k])
    by_cases ct : L[k].locked = true
    · refine RunF_sound tab_ok noX_local 100 [true, true] _ _ rfl ?_ ?_
      · simp only [fnC_w0, fnC_S0, Int.toNat_natCast, f2]
        simp [ct, wrapn k (by omega)]
        (repeat' refine And.intro ?_ ?_) <;> first | omega | exact f1
      refine ih (k + 1) (by omega) _ ⟨rfl, ?_, i64_eq (wrap_succ (by omega)), trivial⟩ trivial
      refine u64_eq ?_
      rw [wrapn k (by omega), shl1_un, bor_un, Int.toNat_natCast, thoseP_yes T L k hlt (by omega) (by rw [hT', ct])]
    · refine RunF_sound tab_ok noX_local 100 [true, false] _ _ rfl ?_ ?_
      · simp only [fnC_w0, fnC_S0, Int.toNat_natCast, f2]
        simp [ct]
        (repeat' refine And.intro ?_ ?_) <;> first | omega | exact f1
      refine ih (k + 1) (by omega) _ ⟨rfl, ?_, i64_eq (wrap_succ (by omega)), trivial⟩ trivial
      rw [← thoseP_no T L k hlt (by rw [hT']; simpa using ct)]; rfl
theorem lockedR_enters : Enters Try.prog 9 := enters_mk Try.func9 (by decide) rfl
end Go.Proofs.Ytehimiadpgbhmaa

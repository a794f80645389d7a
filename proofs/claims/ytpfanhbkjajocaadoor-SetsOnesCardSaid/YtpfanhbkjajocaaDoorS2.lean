/-
  The plain functions of sets and of its reference: Has, With, Without, Below, Next. Own work.
-/
import Derived.Test.YtpfanhbkjajocaaDoorS1
import Derived.Test.YtpfanhbkjajocaaDoorB1
namespace Go.Proofs.YtpfanhbkjajocaaDoor
open Go.AM
set_option maxRecDepth 100000

theorem right_ok (i : Int) (w : World) : Gives Tryd.prog 60 [.int .i64 i] w (.bool (inB i)) := by
  refine Gives.of_run Tryd.func60 rfl (by show 1 ≤ 9; decide) ?_
  by_cases h : 0 ≤ i
  · refine RunF_sound tab_ok noX_local 100 [true] _ _ rfl ?_ ?_
    · simp [h]
    · refine Run.retP tab_ok Tryd.func60 rfl trivial (fun M => ?_)
      simp [resAV, conc, inB, h]
  · refine RunF_sound tab_ok noX_local 100 [false] _ _ rfl ?_ ?_
    · simp [h]
    · refine Run.retP tab_ok Tryd.func60 rfl trivial (fun M => ?_)
      simp [resAV, conc, inB, h]
theorem right_enters : Enters Tryd.prog 60 := enters_mk Tryd.func60 (by decide) rfl

theorem inB_iff (i : Int) : inB i = true ↔ 0 ≤ i ∧ i < 64 := by simp [inB]

theorem has_ok (x : BitVec 64) (i : Int) (w : World) : Gives Tryd.prog 13 [.int .u64 (un x), .int .i64 i] w (.bool (hasB x i)) := by
  refine Gives.of_run Tryd.func13 rfl (by show 2 ≤ 14; decide) ?_
  refine RunF_sound tab_ok noX_local 100 [] _ _ rfl ?_ ?_
  · simp
  refine Run.callFn noX_local rfl rfl rfl rfl rfl rfl rfl right_enters rfl (fun w' _ => right_ok i w') ?_
  by_cases h : inB i = true
  · have := (inB_iff i).1 h
    refine RunF_sound tab_ok noX_local 100 [true] _ _ rfl ?_ ?_
    · simp [h]; omega
    · refine Run.retP tab_ok Tryd.func13 rfl trivial (fun M => ?_)
      show Value.bool _ = _
      rw [bit_eq, hasB, h]; rfl
  · have h' : inB i = false := by simpa using h
    refine RunF_sound tab_ok noX_local 100 [false] _ _ rfl ?_ ?_
    · simp [h']
    · refine Run.retP tab_ok Tryd.func13 rfl trivial (fun M => ?_)
      rw [hasB, h']; rfl
theorem has_enters : Enters Tryd.prog 13 := enters_mk Tryd.func13 (by decide) rfl

theorem wrap_small (i : Int) (h : 0 ≤ i) (h' : i < 64) : IntKind.u64.wrap i = i := wrap_u64 h (by omega)

theorem hasR_ok (x : BitVec 64) (i : Int) (w : World) : Gives Tryd.prog 14 [.int .u64 (un x), .int .i64 i] w (.bool (hasB x i)) := by
  refine Gives.of_run Tryd.func14 rfl (by show 2 ≤ 19; decide) ?_
  by_cases h : 0 ≤ i
  · by_cases h' : i < 64
    · refine RunF_sound tab_ok noX_local 100 [true, true] _ _ rfl ?_ ?_
      · simp [h, h', wrap_small i h h']
      · refine Run.retP tab_ok Tryd.func14 rfl trivial (fun M => ?_)
        show Value.bool _ = _
        rw [wrap_small i h h', bit_eq, hasB, (inB_iff i).2 ⟨h, h'⟩]; rfl
    · refine RunF_sound tab_ok noX_local 100 [true, false] _ _ rfl ?_ ?_
      · simp [h, h']
      · refine Run.retP tab_ok Tryd.func14 rfl trivial (fun M => ?_)
        simp [resAV, conc, hasB, inB, h']
  · refine RunF_sound tab_ok noX_local 100 [false] _ _ rfl ?_ ?_
    · simp [h]
    · refine Run.retP tab_ok Tryd.func14 rfl trivial (fun M => ?_)
      simp [resAV, conc, hasB, inB, h]
theorem hasR_enters : Enters Tryd.prog 14 := enters_mk Tryd.func14 (by decide) rfl

theorem with_ok (x : BitVec 64) (i : Int) (w : World) : Gives Tryd.prog 15 [.int .u64 (un x), .int .i64 i] w (.int .u64 (un (withL x i))) := by
  refine Gives.of_run Tryd.func15 rfl (by show 2 ≤ 12; decide) ?_
  refine RunF_sound tab_ok noX_local 100 [] _ _ rfl ?_ ?_
  · simp
  refine Run.callFn noX_local rfl rfl rfl rfl rfl rfl rfl right_enters rfl (fun w' _ => right_ok i w') ?_
  by_cases h : inB i = true
  · have h1 := (inB_iff i).1 h
    refine RunF_sound tab_ok noX_local 100 [true] _ _ rfl ?_ ?_
    · simp [h]; omega
    · refine Run.retP tab_ok Tryd.func15 rfl trivial (fun M => ?_)
      show Value.int _ _ = _
      rw [shl1_un, bor_un, withL, if_pos h1]
  · have h1 : ¬ (0 ≤ i ∧ i < 64) := fun e => h ((inB_iff i).2 e)
    refine RunF_sound tab_ok noX_local 100 [false] _ _ rfl ?_ ?_
    · simpa using h
    · refine Run.retP tab_ok Tryd.func15 rfl trivial (fun M => ?_)
      rw [withL, if_neg h1]; rfl
theorem with_enters : Enters Tryd.prog 15 := enters_mk Tryd.func15 (by decide) rfl

theorem withR_ok (x : BitVec 64) (i : Int) (w : World) : Gives Tryd.prog 16 [.int .u64 (un x), .int .i64 i] w (.int .u64 (un (withL x i))) := by
  refine Gives.of_run Tryd.func16 rfl (by show 2 ≤ 17; decide) ?_
  by_cases h : i < 0
  · refine RunF_sound tab_ok noX_local 100 [true, true] _ _ rfl ?_ ?_
    · simp [h]
    · refine Run.retP tab_ok Tryd.func16 rfl trivial (fun M => ?_)
      rw [withL, if_neg (by omega)]; rfl
  · by_cases h' : i > 63
    · refine RunF_sound tab_ok noX_local 100 [false, true] _ _ rfl ?_ ?_
      · simp; omega
      · refine Run.retP tab_ok Tryd.func16 rfl trivial (fun M => ?_)
        rw [withL, if_neg (by omega)]; rfl
    · refine RunF_sound tab_ok noX_local 100 [false, false] _ _ rfl ?_ ?_
      · simp [wrap_small i (by omega) (by omega)]; omega
      · refine Run.retP tab_ok Tryd.func16 rfl trivial (fun M => ?_)
        show Value.int _ _ = _
        rw [wrap_small i (by omega) (by omega), shl1_un, bor_un, withL, if_pos (by omega)]
theorem withR_enters : Enters Tryd.prog 16 := enters_mk Tryd.func16 (by decide) rfl

theorem without_ok (x : BitVec 64) (i : Int) (w : World) : Gives Tryd.prog 17 [.int .u64 (un x), .int .i64 i] w (.int .u64 (un (withoutL x i))) := by
  refine Gives.of_run Tryd.func17 rfl (by show 2 ≤ 12; decide) ?_
  refine RunF_sound tab_ok noX_local 100 [] _ _ rfl ?_ ?_
  · simp
  refine Run.callFn noX_local rfl rfl rfl rfl rfl rfl rfl right_enters rfl (fun w' _ => right_ok i w') ?_
  by_cases h : inB i = true
  · have h1 := (inB_iff i).1 h
    refine RunF_sound tab_ok noX_local 100 [true] _ _ rfl ?_ ?_
    · simp [h]; omega
    · refine Run.retP tab_ok Tryd.func17 rfl trivial (fun M => ?_)
      show Value.int _ _ = _
      rw [shl1_un, bandn_un, withoutL, if_pos h1]
  · have h1 : ¬ (0 ≤ i ∧ i < 64) := fun e => h ((inB_iff i).2 e)
    refine RunF_sound tab_ok noX_local 100 [false] _ _ rfl ?_ ?_
    · simpa using h
    · refine Run.retP tab_ok Tryd.func17 rfl trivial (fun M => ?_)
      rw [withoutL, if_neg h1]; rfl
theorem without_enters : Enters Tryd.prog 17 := enters_mk Tryd.func17 (by decide) rfl

theorem withoutR_ok (x : BitVec 64) (i : Int) (w : World) : Gives Tryd.prog 18 [.int .u64 (un x), .int .i64 i] w (.int .u64 (un (withoutL x i))) := by
  refine Gives.of_run Tryd.func18 rfl (by show 2 ≤ 14; decide) ?_
  refine RunF_sound tab_ok noX_local 100 [] _ _ rfl ?_ ?_
  · simp
  refine Run.callFn noX_local rfl rfl rfl rfl rfl rfl rfl hasR_enters rfl (fun w' _ => hasR_ok x i w') ?_
  rw [without_sub]
  by_cases h : hasB x i = true
  · have h1 : 0 ≤ i ∧ i < 64 := by
      have := h; simp only [hasB, Bool.and_eq_true] at this; exact (inB_iff i).1 this.1
    refine RunF_sound tab_ok noX_local 100 [true] _ _ rfl ?_ ?_
    · simp [h, wrap_small i h1.1 h1.2]; omega
    · refine Run.retP tab_ok Tryd.func18 rfl trivial (fun M => ?_)
      show Value.int _ _ = _
      rw [wrap_small i h1.1 h1.2, shl1_un, sub_un, if_pos h]
  · refine RunF_sound tab_ok noX_local 100 [false] _ _ rfl ?_ ?_
    · simpa using h
    · refine Run.retP tab_ok Tryd.func18 rfl trivial (fun M => ?_)
      rw [if_neg h]; rfl
theorem withoutR_enters : Enters Tryd.prog 18 := enters_mk Tryd.func18 (by decide) rfl

theorem below_ok (n : Int) (w : World) : Gives Tryd.prog 27 [.int .i64 n] w (.int .u64 (un (lowL n))) := by
  refine Gives.of_run Tryd.func27 rfl (by show 1 ≤ 12; decide) ?_
  by_cases h1 : n < 1
  · refine RunF_sound tab_ok noX_local 100 [true] _ _ rfl ?_ ?_
    · simp [h1]
    · refine Run.retP tab_ok Tryd.func27 rfl trivial (fun M => ?_)
      rw [lowL, if_pos h1]; rfl
  · by_cases h2 : n ≥ 64
    · refine RunF_sound tab_ok noX_local 100 [false, true] _ _ rfl ?_ ?_
      · simp; omega
      · refine Run.retP tab_ok Tryd.func27 rfl trivial (fun M => ?_)
        rw [lowL, if_neg h1, if_pos h2]; rfl
    · refine RunF_sound tab_ok noX_local 100 [false, false] _ _ rfl ?_ ?_
      · simp; omega
      · refine Run.retP tab_ok Tryd.func27 rfl trivial (fun M => ?_)
        show Value.int _ _ = _
        rw [shl1_un, sub1_un, lowL, if_neg h1, if_neg h2]
theorem below_enters : Enters Tryd.prog 27 := enters_mk Tryd.func27 (by decide) rfl

theorem belowR_ok (n : Int) (w : World) : Gives Tryd.prog 28 [.int .i64 n] w (.int .u64 (un (lowL n))) := by
  refine Gives.of_run Tryd.func28 rfl (by show 1 ≤ 18; decide) ?_
  refine RunF_sound tab_ok noX_local 100 [] _ _ rfl ?_ ?_
  · simp
  suffices H : ∀ (d k : Nat), k + d = 64 → (k = 0 ∨ (k : Int) ≤ n) → ∀ σ, inT σ.t [(0, .v (.int .i64 n)), (3, .v (.int .u64 (un (lowL k)))), (4, .v (.int .i64 (k : Int)))] → inT σ.h [] → Run _ _ σ by
    exact H 64 0 rfl (.inl rfl) _ ⟨rfl, rfl, rfl, trivial⟩ trivial
  intro d
  induction d with
  | zero =>
    intro k hk hkn σ ht hh
    refine Run.to ?_ ht hh (n' := 0)
    refine RunF_sound tab_ok noX_local 100 [false, false] _ _ rfl ?_ ?_
    · simp; omega
    · refine Run.retP tab_ok Tryd.func28 rfl trivial (fun M => ?_)
      rw [← below_end n k (by omega) hkn (by omega)]; rfl
  | succ d ih =>
    intro k hk hkn σ ht hh
    refine Run.to ?_ ht hh (n' := 0)
    by_cases c : (k : Int) < n
    · refine RunF_sound tab_ok noX_local 100 [true, true, true] _ _ rfl ?_ ?_
      · simp; omega
      refine Run.callFn noX_local rfl rfl rfl rfl rfl rfl rfl withR_enters rfl (fun w' _ => withR_ok (lowL k) k w') ?_
      refine RunF_sound tab_ok noX_local 100 [] _ _ rfl ?_ ?_
      · simp
      rw [below_step n k (by omega) c]
      exact ih (k + 1) (by omega) (.inr (by omega)) _ ⟨rfl, rfl, i64_eq (wrap_succ (by omega)), trivial⟩ trivial
    · refine RunF_sound tab_ok noX_local 100 [true, false] _ _ rfl ?_ ?_
      · simp; omega
      · refine Run.retP tab_ok Tryd.func28 rfl trivial (fun M => ?_)
        rw [← below_end n k (by omega) hkn (by omega)]; rfl
theorem belowR_enters : Enters Tryd.prog 28 := enters_mk Tryd.func28 (by decide) rfl

theorem size_ok (x : BitVec 64) (w : World) : Gives Tryd.prog 19 [.int .u64 (un x)] w (.int .i64 ((bitsL x).length : Int)) := by
  refine Gives.of_run Tryd.func19 rfl (by show 1 ≤ 5; decide) ?_
  refine RunF_sound tab_ok noX_local 100 [] _ _ rfl ?_ ?_
  · simp
  refine Run.callFn noX_local rfl rfl rfl rfl rfl rfl rfl ones_enters rfl (fun w' _ => ones_ok x w') ?_
  refine RunF_sound tab_ok noX_local 100 [] _ _ rfl ?_ ?_
  · simp
  exact Run.retP tab_ok Tryd.func19 rfl trivial (fun M => rfl)
theorem size_enters : Enters Tryd.prog 19 := enters_mk Tryd.func19 (by decide) rfl

theorem rank_ok (x : BitVec 64) (i : Int) (w : World) : Gives Tryd.prog 25 [.int .u64 (un x), .int .i64 i] w (.int .i64 (((bitsL x).filter fun k : Nat => decide ((k : Int) < i)).length : Int)) := by
  refine Gives.of_run Tryd.func25 rfl (by show 2 ≤ 10; decide) ?_
  refine RunF_sound tab_ok noX_local 100 [] _ _ rfl ?_ ?_
  · simp
  refine Run.callFn noX_local rfl rfl rfl rfl rfl rfl rfl below_enters rfl (fun w' _ => below_ok i w') ?_
  refine RunF_sound tab_ok noX_local 100 [] _ _ rfl ?_ ?_
  · simp
  rw [band_un, ← bits_below]
  refine Run.callFn noX_local rfl rfl rfl rfl rfl rfl rfl size_enters rfl (fun w' _ => size_ok (x &&& lowL i) w') ?_
  refine RunF_sound tab_ok noX_local 100 [] _ _ rfl ?_ ?_
  · simp
  exact Run.retP tab_ok Tryd.func25 rfl trivial (fun M => rfl)
theorem rank_enters : Enters Tryd.prog 25 := enters_mk Tryd.func25 (by decide) rfl

theorem next_ok (x : BitVec 64) (i : Int) (w : World) (hT : TabAt w) : Gives Tryd.prog 21 [.int .u64 (un x), .int .i64 i] w (.int .i64 (nextL x i)) := by
  refine Gives.of_run Tryd.func21 rfl (by show 2 ≤ 13; decide) ?_
  refine RunF_sound tab_ok noX_local 100 [] _ _ rfl ?_ ?_
  · simp
  refine Run.callFn noX_local rfl rfl rfl rfl rfl rfl rfl below_enters rfl (fun w' _ => below_ok i w') ?_
  by_cases h : x &&& ~~~(lowL i) = 0#64
  · refine RunF_sound tab_ok noX_local 100 [true] _ _ rfl ?_ ?_
    · simp [h]
    · refine Run.retP tab_ok Tryd.func21 rfl trivial (fun M => ?_)
      rw [nextL, if_pos h]; rfl
  · refine RunF_sound tab_ok noX_local 100 [false] _ _ rfl ?_ ?_
    · simp [h]
    rw [bandn_un]
    refine Run.callFn noX_local rfl rfl rfl rfl rfl rfl rfl tz_enters rfl (fun w' hA => tz_ok (x &&& ~~~(lowL i)) w' (hT.agree hA (fun f => f))) ?_
    refine RunF_sound tab_ok noX_local 100 [] _ _ rfl ?_ ?_
    · simp
    refine Run.retP tab_ok Tryd.func21 rfl trivial (fun M => ?_)
    rw [nextL, if_neg h]
    show Value.int _ (tzI _) = _
    rw [tzI, if_neg h]
theorem next_enters : Enters Tryd.prog 21 := enters_mk Tryd.func21 (by decide) rfl

theorem nextR_ok (x : BitVec 64) (i : Int) (hi : i ≤ 9223372036854775807) (w : World) : Gives Tryd.prog 22 [.int .u64 (un x), .int .i64 i] w (.int .i64 (nextL x i)) := by
  refine Gives.of_run Tryd.func22 rfl (by show 2 ≤ 16; decide) ?_
  rw [next_eq]
  refine RunF_sound tab_ok noX_local 100 [] _ _ rfl ?_ ?_
  · simp
  obtain ⟨k0, hk0⟩ : ∃ k : Nat, (if i > 0 then i else 0) = (k : Int) := ⟨(if i > 0 then i else 0).toNat, by split <;> omega⟩
  rw [hk0, Int.toNat_natCast]
  generalize hV : nextFrom x k0 (64 - k0) = V
  suffices H : ∀ (d k : Nat), (k : Int) ≤ 9223372036854775807 → 64 - k = d → nextFrom x k d = V → ∀ σ, inT σ.t [(0, .v (.int .u64 (un x))), (5, .v (.int .i64 (k : Int)))] → inT σ.h [] → Run _ _ σ by
    exact H (64 - k0) k0 (by split at hk0 <;> omega) rfl hV _ ⟨rfl, rfl, trivial⟩ trivial
  intro d
  induction d with
  | zero =>
    intro k hk2 hk hv σ ht hh
    refine Run.to ?_ ht hh (n' := 0)
    refine RunF_sound tab_ok noX_local 100 [false] _ _ rfl ?_ ?_
    · simp; omega
    · refine Run.retP tab_ok Tryd.func22 rfl trivial (fun M => ?_)
      rw [← hv]; rfl
  | succ d ih =>
    intro k hk2 hk hv σ ht hh
    refine Run.to ?_ ht hh (n' := 0)
    refine RunF_sound tab_ok noX_local 100 [true] _ _ rfl ?_ ?_
    · simp; omega
    refine Run.callFn noX_local rfl rfl rfl rfl rfl rfl rfl hasR_enters rfl (fun w' _ => hasR_ok x k w') ?_
    have hb : hasB x (k : Int) = x.getLsbD k := by
      rw [hasB, (inB_iff _).2 (by omega)]; simp
    rw [nextFrom] at hv
    by_cases c : x.getLsbD k = true
    · refine RunF_sound tab_ok noX_local 100 [true] _ _ rfl ?_ ?_
      · simp [hb, c]
      · refine Run.retP tab_ok Tryd.func22 rfl trivial (fun M => ?_)
        rw [← hv, if_pos c]; rfl
    · refine RunF_sound tab_ok noX_local 100 [false] _ _ rfl ?_ ?_
      · simpa [hb] using c
      rw [if_neg c] at hv
      exact ih (k + 1) (by omega) (by omega) hv _ ⟨rfl, i64_eq (wrap_succ (by omega)), trivial⟩ trivial
theorem nextR_enters : Enters Tryd.prog 22 := enters_mk Tryd.func22 (by decide) rfl
end Go.Proofs.YtpfanhbkjajocaaDoor

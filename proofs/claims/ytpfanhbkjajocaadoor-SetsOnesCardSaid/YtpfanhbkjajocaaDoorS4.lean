/-
  sets.Each as an iterator; At. Own work.
-/
import Derived.Test.YtpfanhbkjajocaaDoorS3
namespace Go.Proofs.YtpfanhbkjajocaaDoor
open Go.AM
set_option maxRecDepth 100000

/-- A word that lies in a block. -/
def WordAt (w : World) (b : Nat) (x : BitVec 64) : Prop := w.cell? ⟨b, 0, none⟩ = some (.int .u64 (un x))

def eachF (b : Nat) : Value := .func (.func 63) #[] #[.pointer (some ⟨b, 0, none⟩)]
def eachK (b : Nat) : Nat → Prop := fun k => k = 0 ∨ k = b
def encNs (l : List Nat) : List (List Value) := l.map fun k : Nat => [.int .i64 (k : Int)]

theorem each_ok (x : BitVec 64) (w : World) : Makes Tryd.prog 29 [.int .u64 (un x)] w (fun v w' => ∃ b, v = eachF b ∧ w.heap.size ≤ b ∧ WordAt w' b x) := by
  refine Makes.of_run Tryd.func29 rfl (by show 1 ≤ 4; decide) ?_
  refine RunF_sound tab_ok noX_local 100 [] _ _ rfl ?_ ?_
  · simp [okCell, argsT.ofConst', Value.oneCell']
  refine Run.ret tab_ok Tryd.func29 rfl trivial fun M fp a w' hr => ⟨hr.agree, (M 0).1, rfl, ?_, ?_⟩
  · rcases Nat.lt_or_ge (M 0).1 w.heap.size with h | h
    · exact (hr.own 0 _ rfl h).elim
    · exact h
  · have hb : BlkAt M w' 0 (.cells 23 [.one (.v (.int .u64 (un x)))]) := hr.heap 0 _ rfl
    have := cells_of_blk hb 0
    exact this
theorem each_enters : Enters Tryd.prog 29 := enters_mk Tryd.func29 (by decide) rfl

theorem each_iter (x : BitVec 64) (b : Nat) (w0 : World) (hb : WordAt w0 b x) (hT : TabAt w0) :
    Iter Tryd.prog 63 [.pointer (some ⟨b, 0, none⟩)] (eachK b) w0 (encNs (bitsL x)) := by
  refine Iter.of_run Tryd.func63 rfl (by show 2 ≤ 16; decide) ?_
  intro y J Js w fp hJ hJs hy hag hfp R hR
  have hbw : w.cell? ⟨b, 0, none⟩ = some (.int .u64 (un x)) := hag.cell hb (fun h => h (.inr rfl))
  have hTw : TabAt w := hT.agree hag (fun h => h (.inl rfl))
  have hf0 : ¬ fp 0 := fun h => hfp 0 h (.inl rfl)
  have hfb : ¬ fp b := fun h => hfp b h (.inr rfl)
  have hres : (Tryd.f63).results = #[] := rfl
  refine RunF_sound tab_ok (hJ []) 100 [] _ _ rfl ?_ ?_
  · simp only [fnC_w0, fnC_S0, hbw]
    simp [hfb]
  simp only [fnC_w0, hbw]
  generalize hX : bitsL x = X at *
  suffices H : ∀ (m : Nat) (z : BitVec 64) (pre : List (List Value)), (bitsL z).length = m → pre ++ encNs (bitsL z) = encNs X →
      ∀ σ, inT σ.t [(0, .v y), (3, .v (.int .u64 (un z)))] → inT σ.h [] → Run (fnC Tryd.prog 63 (Tryd.f63).ntmps w fp (J pre) R) _ σ by
    exact H _ x [] rfl (by rw [hX]; rfl) _ ⟨rfl, rfl, trivial⟩ trivial
  intro m
  induction m with
  | zero =>
    intro z pre hm hp σ ht hh
    refine Run.to ?_ ht hh (n' := 0)
    have hz : z = 0#64 := by
      by_cases h : z = 0#64
      · exact h
      · rw [bitsL_cons z h] at hm; cases hm
    refine RunF_sound tab_ok (hJ pre) 100 [false] _ _ rfl ?_ ?_
    · simp [hz]
    refine Run.finI Tryd.func63 hres fun v w' fp' hg hX => hR v w' fp' pre hg (.inl ⟨?_, hX⟩)
    have : bitsL z = [] := List.length_eq_zero_iff.1 hm
    rw [this] at hp; simpa [encNs] using hp
  | succ m ih =>
    intro z pre hm hp σ ht hh
    refine Run.to ?_ ht hh (n' := 0)
    have hz : z ≠ 0#64 := fun h => by rw [h, bitsL_zero] at hm; cases hm
    refine RunF_sound tab_ok (hJ pre) 100 [true] _ _ rfl ?_ ?_
    · simp [hz]
    refine Run.callFn (hJ pre) rfl rfl rfl rfl rfl rfl rfl tz_enters rfl (fun w' hw' => tz_ok z w' (hTw.agree hw' hf0)) ?_
    have htz : tzI z = (tz z : Int) := by rw [tzI, if_neg hz]
    have hp' : (pre ++ [[.int .i64 (tz z : Int)]]) ++ encNs (bitsL (dropLow z)) = encNs X := by
      rw [← hp, bitsL_cons z hz]; simp [encNs]
    have hpx : pre ++ [[.int .i64 (tz z : Int)]] <+: encNs X := ⟨_, hp'⟩
    refine RunF_sound tab_ok (hJ pre) 100 [] _ _ rfl ?_ ?_
    · simp
    refine Run.yield (J := J) (Js := Js) rfl (hy pre _ hpx) rfl rfl rfl rfl rfl ?_ rfl rfl ?_ ?_
    · rw [htz]; rfl
    · refine RunF_sound tab_ok (hJ _) 100 [false] _ _ rfl ?_ ?_
      · simp
      refine ih (dropLow z) _ ?_ hp' _ ⟨rfl, ?_, trivial⟩ trivial
      · rw [bitsL_cons z hz] at hm; simpa using hm
      · refine u64_eq ?_
        rw [sub1_un, band_un]; rfl
    · refine RunF_sound tab_ok (hJs _) 100 [true] _ _ rfl ?_ ?_
      · simp
      exact Run.retI Tryd.func63 hres fun v w' fp' hg hX => hR v w' fp' _ hg (.inr ⟨hpx, hX⟩)
theorem eachIt_enters : Enters Tryd.prog 63 := enters_mk Tryd.func63 (by decide) rfl

theorem encNs_next {E : List Nat} {k : Nat} (hk : k ≤ E.length) {x : List Value} (h : encNs (E.take k) ++ [x] <+: encNs E) : ∃ hlt : k < E.length, x = [.int .i64 (E[k] : Int)] := by
  have hl := h.length_le
  simp only [encNs, List.length_append, List.length_map, List.length_take, List.length_singleton] at hl
  have hlt : k < E.length := by omega
  refine ⟨hlt, ?_⟩
  obtain ⟨t, ht⟩ := h
  have := congrArg (fun l => l[k]?) ht
  simp only [encNs] at this
  rw [List.append_assoc, List.getElem?_append_right (by simp; omega)] at this
  simp [Nat.min_eq_left hk, hlt] at this
  exact this
theorem encNs_succ {E : List Nat} {k : Nat} (hlt : k < E.length) : encNs (E.take k) ++ [[.int .i64 (E[k] : Int)]] = encNs (E.take (k + 1)) := by
  rw [List.take_succ_eq_append_getElem hlt, encNs, encNs, List.map_append]; rfl
theorem encNs_all {E : List Nat} {k : Nat} (hk : k ≤ E.length) (h : encNs E = encNs (E.take k)) : k = E.length := by
  have := congrArg List.length h
  simp only [encNs, List.length_map, List.length_take] at this
  omega

def atB (k r : Int) : List (Nat × Blk) := [(1, .cells 3 [.one (.v (.int .i64 r))]), (0, .cells 3 [.one (.v (.int .i64 k))])]

theorem at_ok (x : BitVec 64) (k : Int) (w : World) (hT : TabAt w) (h0 : 0 < w.heap.size) (hk2 : k ≤ 9223372036854775807) : Gives Tryd.prog 23 [.int .u64 (un x), .int .i64 k] w (.int .i64 (atL x k)) := by
  refine Gives.of_run Tryd.func23 rfl (by show 2 ≤ 16; decide) ?_
  by_cases c : k < 0
  · refine RunF_sound tab_ok noX_local 100 [true] _ _ rfl ?_ ?_
    · simp [c, okCell, argsT.ofConst', ofConst, Value.oneCell']
    refine Run.retP tab_ok Tryd.func23 rfl ⟨trivial, trivial⟩ (fun M => ?_)
    rw [atL, if_pos c]; rfl
  refine RunF_sound tab_ok noX_local 100 [false] _ _ rfl ?_ ?_
  · simp [okCell, argsT.ofConst', ofConst, Value.oneCell']; omega
  refine Run.callR noX_local rfl rfl rfl rfl rfl rfl each_enters rfl (fun M w' _ _ => each_ok x w') ?_
  rintro v w2 w1 S1 hag hag2 ⟨bb, rfl, hbl, hW⟩ hS1
  have hB1 := (Based.refl w).call hag hag2 hS1
  have hbw1 : bb < w1.heap.size := World.block_lt_of_cell? w1 _ hW
  have hS1b : ¬ S1 bb := hS1.new bb hbl
  have hS10 : ¬ S1 0 := fun h => by have := hB1.new 0 h; omega
  have hT1 : TabAt w1 := hT.agree hB1.agree (fun f => f)
  have hw1 : 0 < w1.heap.size := by have := hB1.agree.size; omega
  have hit := each_iter x bb w1 hW hT1
  have hat : atL x k = match (bitsL x)[k.toNat]? with | some i => (i : Int) | none => -1 := by rw [atL, if_neg c]; cases (bitsL x)[k.toNat]? <;> rfl
  generalize bitsL x = E at hit hat
  refine ⟨.fn 63 [.v (.pointer (some ⟨bb, 0, none⟩))], fun M => rfl, ?_⟩
  refine RunF_sound tab_ok noX_local 100 [] _ _ rfl ?_ ?_
  · simp
  refine Run.rangeFn noX_local rfl rfl (fun M => rfl) eachIt_enters 5 [(4, .ptr 1 0), (3, .ptr 0 0)] ⟨rfl, rfl, trivial⟩ rfl rfl hit
    (fun j hj => by rcases hj with rfl | rfl; exact ⟨hw1, hS10⟩; exact ⟨hbw1, hS1b⟩) (fun z hz => by simp only [encNs, List.mem_map] at hz; obtain ⟨e, _, rfl⟩ := hz; rfl)
    (fun pre h => ∃ j, j ≤ E.length ∧ j ≤ k.toNat ∧ pre = encNs (E.take j) ∧ h = atB (k - j) 0)
    (fun _ c h => c = .ret ∧ h = atB 0 (atL x k)) 12 (atB k 0) ⟨0, by omega, by omega, rfl, by simp⟩ ⟨rfl, rfl, trivial⟩ ?_ ?_ ?_
  · rintro D l a0 rc wy fpy pre z h hI hpx ⟨j, hj, hjk, rfl, rfl⟩
    obtain ⟨hlt, rfl⟩ := encNs_next hj hpx
    refine RunF_sound tab_ok (roundX_local hI.loc l rc .ready) 100 [] _ _ rfl ?_ ?_
    · simp
    refine Run.beginRound hI.loc hI.lw ?_
    by_cases cc : k - (j : Int) = 0
    · have hkj : k.toNat = j := by omega
      refine RunF_sound tab_ok (roundX_local hI.loc l rc .busy) 100 [true] _ _ rfl ?_ ?_
      · simp [cc, okCell, Value.oneCell']
      refine Run.roundRet hI [] (atB 0 (atL x k)) ⟨rfl, rfl⟩ ⟨rfl, rfl, trivial⟩ ⟨?_, ?_, trivial⟩ rfl
      · rw [hat, hkj, List.getElem?_eq_getElem hlt]; rfl
      · rw [cc]; rfl
    · refine RunF_sound tab_ok (roundX_local hI.loc l rc .busy) 100 [false] _ _ rfl ?_ ?_
      · simp [cc, okCell, Value.oneCell']
      refine Run.roundEnd hI [] (atB (k - (j + 1 : Nat)) 0) ⟨j + 1, by omega, by omega, encNs_succ hlt, rfl⟩ ⟨rfl, rfl, trivial⟩ ⟨rfl, ?_, trivial⟩ rfl
      have : IntKind.i64.wrap (k - (j : Int) - 1) = k - ((j + 1 : Nat) : Int) := by rw [wrap_i64] <;> omega
      rw [← this]; rfl
  · rintro D h ⟨j, hj, hjk, hx, rfl⟩
    have hje := encNs_all hj hx
    refine RunF_sound tab_ok (markX_local noX_local D) 100 [] _ _ rfl ?_ ?_
    · simp [okCell, Value.oneCell', ofConst]
    refine Run.retB (Ds := [D]) tab_ok noX_local hB1 Tryd.func23 rfl ⟨trivial, trivial⟩ (fun M => ?_)
    rw [hat, List.getElem?_eq_none (by omega)]; rfl
  · rintro D pre c h hpre ⟨rfl, rfl⟩
    exact Run.retB (Ds := [D]) tab_ok noX_local hB1 Tryd.func23 rfl ⟨trivial, trivial⟩ (fun M => rfl)
theorem at_enters : Enters Tryd.prog 23 := enters_mk Tryd.func23 (by decide) rfl
end Go.Proofs.YtpfanhbkjajocaaDoor

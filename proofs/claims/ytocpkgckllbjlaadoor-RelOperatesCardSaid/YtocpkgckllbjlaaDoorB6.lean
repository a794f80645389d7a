/-
  What the law gathers off an iterator. Own work.
-/
import Derived.Test.YtocpkgckllbjlaaDoorB5
namespace Go.Proofs.YtocpkgckllbjlaaDoor
open Go.AM
set_option maxRecDepth 100000

theorem encEs_next {E : List (Int × Int)} {k : Nat} (hk : k ≤ E.length) {x : List Value} (h : encEs (E.take k) ++ [x] <+: encEs E) : ∃ hlt : k < E.length, x = encEd E[k] := by
  have hl := h.length_le
  simp only [encEs, List.length_append, List.length_map, List.length_take, List.length_singleton] at hl
  have hlt : k < E.length := by omega
  refine ⟨hlt, ?_⟩
  obtain ⟨t, ht⟩ := h
  have := congrArg (fun l => l[k]?) ht
  simp only [encEs] at this
  rw [List.append_assoc, List.getElem?_append_right (by simp; omega)] at this
  simp [Nat.min_eq_left hk, hlt] at this
  exact this

theorem encEs_succ {E : List (Int × Int)} {k : Nat} (hlt : k < E.length) : encEs (E.take k) ++ [encEd E[k]] = encEs (E.take (k + 1)) := by
  rw [List.take_succ_eq_append_getElem hlt, encEs, encEs, List.map_append]; rfl

theorem encEs_all {E : List (Int × Int)} {k : Nat} (hk : k ≤ E.length) (h : encEs E = encEs (E.take k)) : k = E.length := by
  have := congrArg List.length h
  simp only [encEs, List.length_map, List.length_take] at this
  omega

/-- The blocks of the gathering function. -/
def gatB (m : Int) (l : List (Int × Int)) (n : Nat) : List (Nat × Blk) :=
  (1, .cells 29 [.one (lstV n)]) :: (0, .cells 3 [.one (.v (.int .i64 m))]) :: lstB l n

theorem newE_nil (w w' : World) : NewE w [] (.slice none 0 0) w' := ⟨none, 0, rfl, Nat.le_refl _, fun i hi => absurd hi (Nat.not_lt_zero _), fun a h => by cases h⟩

theorem newE_row {P : Program} {f : FuncId} {nt : Nat} {w : World} {X : Res} {R : Value → World → Prop} {M : AM.Loc} {fp : Foot} {σ : St} {a : Act} {w' : World} {id n : Nat} {l : List (Int × Int)}
    (hr : Rel (fnC P f nt w (fun _ => False) X R) M fp σ a w') (hB : lk σ.h id = some (.row 67 2 n (encE l))) (hl : l.length = n) : NewE w l (conc M (.sl id 2 0 n)) w' := by
  refine ⟨some ⟨(M id).1, 0, none⟩, (M id).2 - 0, ?_, ?_, seesE_row (hr.heap id _ hB) (fun i hi => encE_get l i hi), ?_⟩
  · rw [hl]; simp [conc]
  · obtain ⟨_, _, _, hc, _⟩ := hr.heap id _ hB; rw [hl]; exact hc
  · intro a ha
    cases ha
    refine ⟨?_, (hr.heap id _ hB).lt⟩
    rcases Nat.lt_or_ge (M id).1 w.heap.size with h | h
    · exact (hr.own id _ hB h).elim
    · exact h

theorem edgesLaw_ok (r : Rl) (hn : 0 ≤ r.n ∧ r.n ≤ 64) (b : Nat) (m : Int) (w : World) (hb : RelAt w b r) (hT : TabAt w) (hbl : b < w.heap.size) (h0l : 0 < w.heap.size) :
    Makes Tryd.prog 19 [edgesF b, .int .i64 m] w (NewE w ((edgesL r).take m.toNat)) := by
  refine Makes.of_run Tryd.func19 rfl (by show 2 ≤ 18; decide) ?_
  have hlen : (edgesL r).length ≤ 4096 := by rw [edgesL, restL_len]; have := sumL_le r r.n.toNat 0; omega
  have hit := edges_iter r hn b w hb hT
  generalize edgesL r = E at hlen hit
  refine RunF_sound tab_ok noX_local 100 [] _ _ rfl ?_ ?_
  · simp [okCell, argsT.ofConst', ofConst, Value.oneCell']
  refine Run.rangeFn noX_local rfl rfl (fun M => rfl) edgesIt_enters 6 [(5, .ptr 1 0), (3, .ptr 0 0)] ⟨rfl, rfl, trivial⟩ rfl rfl hit
    (fun k hk => ⟨by rcases hk with rfl | rfl <;> assumption, fun h => h⟩) (fun x hx => by simp only [encEs, List.mem_map] at hx; obtain ⟨e, _, rfl⟩ := hx; rfl)
    (fun pre h => ∃ k, k ≤ E.length ∧ k ≤ m.toNat ∧ pre = encEs (E.take k) ∧ h = gatB m (E.take k) k)
    (fun _ c h => c = .exit 0 ∧ m.toNat ≤ E.length ∧ h = gatB m (E.take m.toNat) m.toNat) 12 (gatB m [] 0) ⟨0, by omega, by omega, rfl, rfl⟩ ⟨rfl, rfl, trivial⟩ ?_ ?_ ?_
  · -- a round
    rintro D l a0 rc wy fpy pre x h hI hpx ⟨k, hk, hkm, rfl, rfl⟩
    obtain ⟨hlt, rfl⟩ := encEs_next hk hpx
    have htl : (E.take k).length = k := by simp; omega
    have hnext : encEs (E.take k) ++ [encEd E[k]] = encEs (E.take (k + 1)) := encEs_succ hlt
    have hts : E.take (k + 1) = E.take k ++ [E[k]] := List.take_succ_eq_append_getElem hlt
    have hmk : (k : Int) ≥ m → m.toNat = k := fun c => by omega
    cases k with
    | zero =>
      refine RunF_sound tab_ok (roundX_local hI.loc l rc .ready) 100 [] _ _ rfl ?_ ?_
      · simp [fillL, Value.cells, segsVals]
      refine Run.beginRound hI.loc hI.lw ?_
      by_cases c : ((0 : Nat) : Int) ≥ m
      · refine RunF_sound tab_ok (roundX_local hI.loc l rc .busy) 100 [true] _ _ rfl ?_ ?_
        · simpa using c
        exact Run.roundExit hI [] (gatB m (E.take 0) 0) rfl ⟨rfl, by omega, by rw [hmk c]⟩ ⟨rfl, rfl, trivial⟩ ⟨rfl, rfl, trivial⟩ rfl
      · refine RunF_sound tab_ok (roundX_local hI.loc l rc .busy) 100 [false] _ _ rfl ?_ ?_
        · simp [maxLen, fillL, repL, splice, Value.cells, Value.oneCell', okCell]; omega
        refine Run.roundEnd hI [(9, 14)] (gatB m (E.take 1) 1) ⟨1, by omega, by omega, hnext, rfl⟩ ⟨rfl, rfl, trivial⟩ ⟨rfl, rfl, ?_, trivial⟩ rfl
        refine congrArg (fun l => some (Blk.row 67 2 1 l)) ?_
        rw [hts]; rfl
    | succ k =>
      refine RunF_sound tab_ok (roundX_local hI.loc l rc .ready) 100 [] _ _ rfl ?_ ?_
      · simp [fillL, Value.cells, segsVals]
      refine Run.beginRound hI.loc hI.lw ?_
      by_cases c : ((k + 1 : Nat) : Int) ≥ m
      · refine RunF_sound tab_ok (roundX_local hI.loc l rc .busy) 100 [true] _ _ rfl ?_ ?_
        · simpa using c
        exact Run.roundExit hI [] (gatB m (E.take (k + 1)) (k + 1)) rfl ⟨rfl, by omega, by rw [hmk c]⟩ ⟨rfl, rfl, trivial⟩ ⟨rfl, rfl, rfl, trivial⟩ rfl
      · refine RunF_sound tab_ok (roundX_local hI.loc l rc .busy) 100 [false] _ _ rfl ?_ ?_
        · simp [maxLen, fillL, repL, splice, Value.cells, Value.oneCell', okCell]; omega
        refine Run.roundEnd hI [(9, 14)] (gatB m (E.take (k + 2)) (k + 2)) ⟨k + 2, by omega, by omega, hnext, rfl⟩ ⟨rfl, rfl, trivial⟩ ⟨rfl, rfl, ?_, trivial⟩ rfl
        refine congrArg (fun l => some (Blk.row 67 2 (k + 2) l)) ?_
        rw [hts]
        exact encE_app (E.take (k + 1)) (k + 1) htl E[k + 1]
  · -- all gone through
    rintro D h ⟨k, hk, hkm, hx, rfl⟩
    have hke := encEs_all hk hx
    have e1 : E.take m.toNat = E.take k := by rw [List.take_of_length_le (by omega), List.take_of_length_le (by omega)]
    rw [e1]
    cases k with
    | zero =>
      refine RunF_sound tab_ok (markX_local noX_local D) 100 [] _ _ rfl ?_ ?_
      · simp
      exact Run.retM (Ds := [D]) tab_ok noX_local Tryd.func19 rfl trivial fun M fp a w' hr => ⟨hr.agree, newE_nil _ _⟩
    | succ k =>
      refine RunF_sound tab_ok (markX_local noX_local D) 100 [] _ _ rfl ?_ ?_
      · simp
      exact Run.retM (Ds := [D]) tab_ok noX_local Tryd.func19 rfl trivial fun M fp a w' hr => ⟨hr.agree, newE_row hr rfl (by simp; omega)⟩
  · -- left
    rintro D pre c h hpre ⟨rfl, hm, rfl⟩
    generalize m.toNat = k at *
    cases k with
    | zero =>
      refine RunF_sound tab_ok (markX_local noX_local D) 100 [] _ _ rfl ?_ ?_
      · simp
      exact Run.retM (Ds := [D]) tab_ok noX_local Tryd.func19 rfl trivial fun M fp a w' hr => ⟨hr.agree, newE_nil _ _⟩
    | succ k =>
      refine RunF_sound tab_ok (markX_local noX_local D) 100 [] _ _ rfl ?_ ?_
      · simp
      exact Run.retM (Ds := [D]) tab_ok noX_local Tryd.func19 rfl trivial fun M fp a w' hr => ⟨hr.agree, newE_row hr rfl (by simp; omega)⟩
theorem edgesLaw_enters : Enters Tryd.prog 19 := enters_mk Tryd.func19 (by decide) rfl
end Go.Proofs.YtocpkgckllbjlaaDoor

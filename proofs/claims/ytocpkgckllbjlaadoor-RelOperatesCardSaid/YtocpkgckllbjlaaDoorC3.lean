/-
  Inverse, Compose: folded over the pairs. Own work.
-/
import Derived.Test.YtocpkgckllbjlaaDoorC2
namespace Go.Proofs.YtocpkgckllbjlaaDoor
open Go.AM
set_option maxRecDepth 100000

def invF (n : Int) (l : List (Int × Int)) : Rl := l.foldl (fun o e => o.setRow e.2.toNat (o.row e.2.toNat ||| 1#64 <<< e.1.toNat)) (Rl.void n)
theorem invF_app (n : Int) (l : List (Int × Int)) (e : Int × Int) : invF n (l ++ [e]) = (invF n l).setRow e.2.toNat ((invF n l).row e.2.toNat ||| 1#64 <<< e.1.toNat) := by
  unfold invF; rw [List.foldl_append]; rfl
def cmpF (s : Rl) (n : Int) (l : List (Int × Int)) : Rl := l.foldl (fun o e => o.setRow e.1.toNat (o.row e.1.toNat ||| s.row e.2.toNat)) (Rl.void n)
theorem cmpF_app (s : Rl) (n : Int) (l : List (Int × Int)) (e : Int × Int) : cmpF s n (l ++ [e]) = (cmpF s n l).setRow e.1.toNat ((cmpF s n l).row e.1.toNat ||| s.row e.2.toNat) := by
  unfold cmpF; rw [List.foldl_append]; rfl

/-- Where the pairs are. -/
theorem restL_mem (r : Rl) : ∀ d i e, e ∈ restL r i d → ∃ a b : Nat, e = ((a : Int), (b : Int)) ∧ i ≤ a ∧ a < i + d ∧ r.has a b = true
  | 0, i, e, h => by cases h
  | d + 1, i, e, h => by
    rw [restL, List.mem_append] at h
    rcases h with h | h
    · obtain ⟨b, hb, rfl⟩ := List.mem_map.1 h
      exact ⟨i, b, rfl, Nat.le_refl _, by omega, (bitsL_mem _ _).1 hb⟩
    · obtain ⟨a, b, h1, h2, h3, h4⟩ := restL_mem r d (i + 1) e h
      exact ⟨a, b, h1, by omega, by omega, h4⟩

theorem edges_mem (r : Rl) (e : Int × Int) (h : e ∈ edgesL r) : ∃ a b : Nat, e = ((a : Int), (b : Int)) ∧ a < 64 ∧ b < 64 ∧ r.has a b = true := by
  obtain ⟨a, b, h1, h2, h3, h4⟩ := restL_mem r _ _ e h
  obtain ⟨h5, h6⟩ := Rl.has_lt r h4
  exact ⟨a, b, h1, h5, h6, h4⟩

theorem relV_tail_one (r : Rl) : (∀ c ∈ (relV r).tail, c.oneCell' = true) ↔ True := iff_true_intro fun c hc => relV_one r c (List.mem_of_mem_tail hc)

/-- The blocks of Inverse. -/
def invBlk (r o : Rl) : List (Nat × Blk) := [(2, .cells 25 [.vals 65 (relV o)]), (1, .cells 25 [.vals 65 (relV (Rl.void 0))]), (0, .cells 25 [.vals 65 (relV r)])]

theorem inverse_ok (r : Rl) (w : World) (hT : TabAt w) (h0 : 0 < w.heap.size) : Gives Tryd.prog 26 [encRel r] w (encRel (invF (rightL r).n (edgesL (rightL r)))) := by
  refine Gives.of_run Tryd.func26 rfl (by show 1 ≤ 24; decide) ?_
  refine RunF_sound tab_ok noX_local 100 [] _ _ rfl ?_ ?_
  · simp [segsVals, relV_one']
  refine Run.callFn noX_local rfl rfl rfl rfl rfl rfl rfl right_enters rfl (fun w' _ => right_ok r w') ?_
  refine RunF_sound tab_ok noX_local 100 [] _ _ rfl ?_ ?_
  · simp [fillL, Value.cells, segsVals, relV_one', relV_tail_one, splice]
  refine Run.callR noX_local rfl rfl rfl rfl rfl rfl edges_enters rfl (fun M w' _ _ => edges_ok r w') ?_
  rintro v w2 w1 S1 hag hag2 ⟨bb, rfl, hbl, hRel⟩ hS1
  have hB1 := (Based.refl w).call hag hag2 hS1
  have hbw1 : bb < w1.heap.size := World.block_lt_of_cell? w1 _ (hRel 0 _ rfl)
  have hS1b : ¬ S1 bb := hS1.new bb hbl
  have hS10 : ¬ S1 0 := fun h => by have := hB1.new 0 h; omega
  have hw1 : 0 < w1.heap.size := by have := hB1.agree.size; omega
  have hn := rightL_n r
  have hit := edges_iter (rightL r) hn bb w1 hRel (hT.agree hB1.agree (fun f => f))
  have hmem := edges_mem (rightL r)
  generalize rightL r = R at *
  generalize edgesL R = E at *
  refine ⟨.fn 71 [.v (.pointer (some ⟨bb, 0, none⟩))], fun M => rfl, ?_⟩
  refine RunF_sound tab_ok noX_local 100 [] _ _ rfl ?_ ?_
  · simp
  refine Run.rangeFn noX_local rfl rfl (fun M => rfl) edgesIt_enters 4 [(3, .ptr 2 0), (2, .ptr 1 0)] ⟨rfl, rfl, trivial⟩ rfl rfl hit
    (fun k hk => by rcases hk with rfl | rfl; exact ⟨hw1, hS10⟩; exact ⟨hbw1, hS1b⟩) (fun x hx => by simp only [encEs, List.mem_map] at hx; obtain ⟨e, _, rfl⟩ := hx; rfl)
    (fun pre h => ∃ k, k ≤ E.length ∧ pre = encEs (E.take k) ∧ h = invBlk r (invF R.n (E.take k)))
    (fun _ _ _ => False) 12 (invBlk r (invF R.n [])) ⟨0, by omega, rfl, rfl⟩ ⟨?_, rfl, rfl, trivial⟩ ?_ ?_ ?_
  · show _ = some (Blk.cells 25 [.vals 65 (relV (Rl.void R.n))])
    rfl
  · rintro D l a0 rc wy fpy pre x h hI hpx ⟨k, hk, rfl, rfl⟩
    obtain ⟨hlt, rfl⟩ := encEs_next hk hpx
    obtain ⟨a, b, he, ha, hb, hab⟩ := hmem E[k] (List.getElem_mem hlt)
    have hts : E.take (k + 1) = E.take k ++ [E[k]] := List.take_succ_eq_append_getElem hlt
    have hstep : invF R.n (E.take (k + 1)) = (invF R.n (E.take k)).setRow b ((invF R.n (E.take k)).row b ||| 1#64 <<< a) := by
      rw [hts, invF_app, he]; simp
    have hnext : encEs (E.take k) ++ [encEd E[k]] = encEs (E.take (k + 1)) := encEs_succ hlt
    rw [he] at hnext ⊢
    generalize invF R.n (E.take k) = o at hstep ⊢
    refine RunF_sound tab_ok (roundX_local hI.loc l rc .ready) 100 [] _ _ rfl ?_ ?_
    · simp [fillL, Value.cells, segsVals]
    refine Run.beginRound hI.loc hI.lw ?_
    refine RunF_sound tab_ok (roundX_local hI.loc l rc .busy) 100 [] _ _ rfl ?_ ?_
    · simp
    refine Run.drawA (roundX_local hI.loc l rc .busy) rfl [4] [(12, .cells 67 [.vals 2 [.int .i64 (a : Int), .int .i64 (b : Int)]])] rfl rfl ⟨rfl, trivial⟩ ?_
    refine RunOF_sound tab_ok (roundX_local hI.loc l rc .busy) rfl rfl 100 [] _ _ rfl ?_ ?_
    · simp [relV_get _ _ hb, intAt_row _ _ hb, okCell, Value.oneCell', inT, lk]; omega
    refine RunO.done ?_
    refine RunF_sound tab_ok (roundX_local hI.loc l rc .busy) 100 [] _ _ rfl ?_ ?_
    · simp
    refine Run.roundEnd hI [] (invBlk r (invF R.n (E.take (k + 1)))) ⟨k + 1, by omega, hnext, rfl⟩ ⟨rfl, rfl, trivial⟩ ⟨?_, rfl, rfl, trivial⟩ rfl
    refine congrArg (fun l => some (Blk.cells 25 [.vals 65 l])) ?_
    rw [hstep]
    simp [intAt_row _ _ hb, shl1_un, relV_set _ _ hb]
  · rintro D h ⟨k, hk, hx, rfl⟩
    have hke := encEs_all hk hx
    have e1 : E.take k = E := List.take_of_length_le (by omega)
    rw [e1]
    refine RunF_sound tab_ok (markX_local noX_local D) 100 [] _ _ rfl ?_ ?_
    · simp [segsVals, relV_one']
    refine Run.retB (Ds := [D]) tab_ok noX_local hB1 Tryd.func26 rfl ?_ (fun M => ?_)
    · simp
    rfl
  · rintro D pre c h hpre hF
    exact hF.elim
theorem inverse_enters : Enters Tryd.prog 26 := enters_mk Tryd.func26 (by decide) rfl
end Go.Proofs.YtocpkgckllbjlaaDoor

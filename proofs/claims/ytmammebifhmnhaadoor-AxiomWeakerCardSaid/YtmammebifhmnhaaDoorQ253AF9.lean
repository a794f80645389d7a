/-
  Own work, merged: A19, A24, A25.
-/
import Derived.AtR
import Derived.Below
import Derived.ChangeKeysEq
import Derived.KernelRfl
import Derived.LaidMore
import Derived.Laws.AppendOwn
import Derived.Laws.BytesString
import Derived.Laws.Cells
import Derived.Laws.CopyRow
import Derived.Laws.Entries
import Derived.Laws.Rows
import Derived.Laws.Small
import Derived.Laws.StructEq
import Derived.Lib.LaidTab
import Derived.Lib.TrailingZeros
import Derived.MapKept
import Derived.Maps.AppendAt
import Derived.OpenShut
import Derived.Orders
import Derived.ProofKit
import Derived.RangeFuncRecord
import Derived.SevenTiedAt
import Derived.Stop.Joined
import Derived.Test.YtmammebifhmnhaaDoorCards
import Derived.Test.YtmammebifhmnhaaDoorProg
import Derived.Test.YtmammebifhmnhaaDoorRows
import Derived.Test.YtmammebifhmnhaaDoorTie
import Derived.Test.YtmammebifhmnhaaDoorQBB7554
/-
  fenced: the walk of its first part. Own work; printed in part by a program of our own.
-/
namespace Go.Proofs.YtmammebifhmnhaaDoor
open Go.AM
set_option maxRecDepth 100000

theorem take_ev (e d : Ev) : List.take 5 (evV e ++ List.drop 5 (evV d)) = evV e := rfl
theorem ev_one' (e : Ev) : ∀ c ∈ evV e, c.oneCell' = true := (evV_one e).2 trivial
theorem evs_snoc : ∀ (E : List Ev) (e : Ev), evsV (E ++ [e]) = evsV E ++ evV e
  | [], e => by simp [evsV]
  | a :: E, e => by rw [List.cons_append, evsV, evsV, evs_snoc E e, List.append_assoc]
theorem evs_app (E : List Ev) (n : Nat) (hn : E.length = n) (e : Ev) : (evsV E).take (n * 5) ++ evV e = evsV (E ++ [e]) := by
  subst hn
  rw [← evsV_length, List.take_length, evs_snoc]
theorem encI_app (F : List Int) (n : Nat) (hn : F.length = n) (f : Int) : (encI F).take (n * 1) ++ [Value.int .i64 f] = encI (F ++ [f]) := by
  subst hn
  rw [Nat.mul_one, ← encI_len, List.take_length]
  simp [encI]
theorem plR_put (ev : List Ev) (i : Nat) (hi : i < ev.length) : (encI (plR ev i)).set i (.int .i64 (plN ev i : Int)) = encI (plR ev (i + 1)) := by
  rw [← plR_set ev i hi]; unfold encI; rw [List.map_set]
theorem plR_zero (ev : List Ev) : repL ev.length [Value.int .i64 0] = encI (plR ev 0) := by
  have h : ∀ n, repL n [Value.int .i64 0] = List.replicate n (Value.int .i64 0) := fun n => by
    induction n with
    | zero => rfl
    | succ n ih => rw [repL, ih, List.replicate_succ]; rfl
  rw [h]
  apply List.ext_getElem
  · simp [encI, plR]
  · intro j h1 h2
    simp [encI, plR]


theorem fF_lt {x : Xn} (hP : WholeP x) : ∀ v ∈ fF x.ev x.from_, v < (x.ev.length : Int) := by
  have key : ∀ (l : List Ev) (m : List Int), (∀ v ∈ m, v < (x.ev.length : Int)) → ∀ v ∈ fF l m, v < (x.ev.length : Int) := by
    intro l
    induction l with
    | nil => intro m _ v hv; simp [fF] at hv
    | cons e l ih =>
      intro m hm v hv
      cases m with
      | nil => simp [fF] at hv
      | cons f m =>
        rw [fF] at hv
        rcases List.mem_append.1 hv with hv | hv
        · have hf := hm f (by simp)
          split at hv
          · simp at hv; omega
          · simp at hv; omega
        · exact ih m (fun v h => hm v (by simp [h])) v hv
  refine key _ _ fun v hv => ?_
  obtain ⟨i, hi, rfl⟩ := List.getElem_of_mem hv
  obtain ⟨_, f, h1, _, h2, _⟩ := hP.rd i (by rw [← hP.len]; exact hi)
  rw [List.getElem?_eq_getElem hi] at h1
  cases h1; exact h2
theorem lk_cons' {l : List (Nat × Blk)} {a id : Nat} {x B : Blk} (h : lk ((a, x) :: l) id = some B) : (id = a ∧ B = x) ∨ lk l id = some B := by
  simp only [lk] at h
  split at h
  · rename_i he
    cases h
    exact .inl ⟨Nat.eq_of_beq_eq_true he, rfl⟩
  · exact .inr h
def yVs (VE VF : Value) : List Value → List (Nat × Blk)
  | [] => [(2, .cells 28 [.vals 5 [VE, .slice none 0 0, VF, .slice none 0 0, .slice none 0 0]])]
  | v :: vs => [(2, .cells 28 [.vals 3 [VE, .slice none 0 0, VF], .one (.sl 6 1 0 (vs.length + 1)), .vals 1 [.slice none 0 0]]), (6, .row 24 1 (vs.length + 1) (v :: vs))]
def lV : List Int → AV
  | [] => .v (.slice none 0 0)
  | _ :: G => .sl 7 1 0 (G.length + 1)
def lR : List Int → List (Nat × Blk)
  | [] => []
  | v :: G => [(7, .row 3 1 (G.length + 1) (encI (v :: G)))]
theorem lV_app (G : List Int) (v : Int) : lV (G ++ [v]) = .sl 7 1 0 (G.length + 1) := by cases G <;> simp [lV]
theorem lR_app (G : List Int) (v : Int) : lR (G ++ [v]) = [(7, .row 3 1 (G.length + 1) (encI (G ++ [v])))] := by cases G <;> simp [lR]
theorem plR_len (ev : List Ev) (i : Nat) : (plR ev i).length = ev.length := by simp [plR]
set_option maxHeartbeats 4000000 in
theorem fencedX_ok (x : Xn) (w : World) (hX : SeesX w x) (hP : WholeP x) (hs1 : x.ord.length ≤ 5864062014805) (hs2 : ∀ l ∈ x.ord, l.length ≤ 17592186044415) : Makes Tryd.prog 17 [encX x] w (FenQ x w) := by
  refine Makes.of_run Tryd.func17 rfl (by show 1 ≤ 139; decide) ?_
  have hone := xV_one hX.one1 hX.one4
  have hml : maxLen = 9223372036854775807 := rfl
  have hn64 := hP.le
  have hfl := hP.len
  have hz : z28[0]? = some (.slice none 0 0) := rfl
  refine RunF_sound tab_ok noX_local 400 [] _ _ rfl ?_ ?_
  · simp
    rfl
  refine Run.mkSlice (l := x.ev.length) (c := x.ev.length) tab_ok noX_local rfl rfl rfl rfl rfl rfl rfl rfl rfl ?_ (Nat.le_refl _) ?_ (by decide) (by decide) ?_
  · show 8 * x.ev.length ≤ _; omega
  · rw [hml]; omega
  refine RunF_sound tab_ok noX_local 400 [] _ _ rfl ?_ ?_
  · simp
  refine Run.to (t' := [(1, .ptr 0 0), (2, .ptr 1 0), (4, .ptr 2 0), (5, .sl 3 1 0 x.ev.length), (6, .v (.int .i64 ((0 : Nat) : Int)))]) (h' := [(0, .cells 28 [.vals 5 (xV x)]), (1, .cells 28 [.vals 5 z28]), (2, .cells 28 [.vals 5 z28]), (3, .row 3 1 x.ev.length (encI (plR x.ev (0))))]) (n' := 4) ?_ ⟨rfl, rfl, rfl, rfl, rfl, trivial⟩ ⟨rfl, rfl, rfl, congrArg (fun l => some (Blk.row 3 1 x.ev.length l)) (plR_zero x.ev), trivial⟩
  suffices S3 : ∀ (w1 : World) (S1 : Foot) (E : List Ev) (F : List Int) (m cE cF cP : Nat) (pE pF pP : Option Addr), Based w w1 S1 → E = fE x.ev → F = (fF x.ev x.from_).map (plI x.ev) → E.length = m → F.length = m → m ≤ cF → (∀ a, pP = some a → ¬ S1 a.block ∧ a.block < w1.heap.size) → (∀ w', Agree (OS w S1) w1 w' → Made w' pE pF pP E F (plR x.ev x.ev.length) [] []) → ∀ σ, inT σ.t [(1, .ptr 0 0), (2, .ptr 1 0), (4, .ptr 2 0), (5, .v (.slice pP x.ev.length cP)), (8, .v (.int .i64 ((0 : Nat) : Int)))] → inT σ.h [(0, .cells 28 [.vals 5 (xV x)]), (1, .cells 28 [.vals 5 z28]), (2, .cells 28 [.vals 5 [.slice pE m cE, .slice none 0 0, .slice pF m cF, .slice none 0 0, .slice none 0 0]])] →
      Run ((fnQ Tryd.prog 17 (Tryd.f17).ntmps w (FenQ x w)).rebase w1 S1) _ σ by
   suffices H : ∀ (d i m : Nat) (E : List Ev) (F : List Int), i + d = x.ev.length → 0 < i → E = fE (x.ev.take i) → F = fF (x.ev.take i) (x.from_.take i) → E.length = m → F.length = m → ∀ σ, inT σ.t [(1, .ptr 0 0), (2, .ptr 1 0), (4, .ptr 2 0), (5, .sl 3 1 0 x.ev.length), (6, .v (.int .i64 ((i : Nat) : Int)))] → inT σ.h [(0, .cells 28 [.vals 5 (xV x)]), (1, .cells 28 [.vals 5 z28]), (3, .row 3 1 x.ev.length (encI (plR x.ev (i)))), (2, .cells 28 [.vals 0 [], .one (.sl 4 5 0 (m)), .vals 1 [.slice none 0 0], .one (.sl 5 1 0 (m)), .vals 2 [.slice none 0 0, .slice none 0 0]]), (4, .row 30 5 (m) (evsV (E))), (5, .row 3 1 (m) (encI (F)))] → Run (fnQ Tryd.prog 17 (Tryd.f17).ntmps w (FenQ x w)) _ σ by
     rcases Nat.eq_zero_or_pos x.ev.length with h0 | h0
     · refine RunF_sound tab_ok noX_local 400 [false] _ _ rfl ?_ ?_
       · simp [h0]
       refine RunF_sound tab_ok noX_local 400 [false] _ _ rfl ?_ ?_
       · simp [show z28[2]? = some (.slice none 0 0) from rfl]
       refine Run.to (t' := [(1, .ptr 0 0), (2, .ptr 1 0), (4, .ptr 2 0), (5, .sl 3 1 0 x.ev.length), (8, .v (.int .i64 ((0 : Nat) : Int)))]) (h' := [(0, .cells 28 [.vals 5 (xV x)]), (1, .cells 28 [.vals 5 z28]), (2, .cells 28 [.vals 5 z28]), (3, .row 3 1 x.ev.length (encI (plR x.ev (0))))]) (n' := 4) ?_ ⟨rfl, rfl, rfl, rfl, rfl, trivial⟩ ⟨rfl, rfl, rfl, rfl, trivial⟩
       refine Run.freezeB (fun M => [(1, .ptr 0 0), (2, .ptr 1 0), (4, .ptr 2 0), (5, .v (.slice (some ⟨(M 3).1, 0, none⟩) x.ev.length (M 3).2)), (8, .v (.int .i64 ((0 : Nat) : Int)))]) (fun M => [(0, .cells 28 [.vals 5 (xV x)]), (1, .cells 28 [.vals 5 z28]), (2, .cells 28 [.vals 5 z28])]) 3 (fun M => ⟨⟨_, rfl, rfl⟩, ⟨_, rfl, rfl⟩, ⟨_, rfl, rfl⟩, ⟨_, rfl, by simp [conc]⟩, ⟨_, rfl, rfl⟩, trivial⟩) (fun M id B' hB => (by
         rcases lk_cons' hB with ⟨rfl, rfl⟩ | hB
         · exact ⟨_, rfl, fun w h => h⟩
         rcases lk_cons' hB with ⟨rfl, rfl⟩ | hB
         · exact ⟨_, rfl, fun w h => h⟩
         rcases lk_cons' hB with ⟨rfl, rfl⟩ | hB
         · exact ⟨_, rfl, fun w h => (by simpa [BlkAt, concSegs, conc, segsOK] using h)⟩
         cases hB)) ?_
       intro M w1 S1 hb hblk hoff hown
       have b3 := hblk 3 _ rfl
       have o3 := hoff 3 _ rfl rfl
       have n3 : w.heap.size ≤ (M 3).1 := Nat.le_of_not_lt fun h => hown 3 _ rfl h
       have hx0 : x.ev = [] := List.length_eq_zero_iff.1 h0
       refine S3 w1 S1 [] [] 0 0 0 _ none none _ ((Based.refl w).base hb) (by rw [hx0]; rfl) (by rw [hx0]; simp [fF]) rfl rfl (Nat.le_refl _) (fun a h => by cases h; exact ⟨o3, b3.lt⟩) (fun w' hA => ⟨fun i hi => absurd hi (Nat.not_lt_zero _), seesI_nil _ _, seesI_row (blk_os (by rw [h0] at b3 ⊢; exact b3) o3 n3 hA), rfl, fun j h => absurd h (Nat.not_lt_zero _)⟩) _ ⟨rfl, rfl, rfl, rfl, rfl, trivial⟩ ⟨rfl, rfl, rfl, trivial⟩
     · obtain ⟨d, hd⟩ : ∃ d, 1 + d = x.ev.length := ⟨x.ev.length - 1, by omega⟩
       have hin : 0 < x.ev.length := by omega
       have hif : 0 < x.from_.length := by omega
       obtain ⟨hp, hpc⟩ := hX.from_ 0 hif
       have hvp := (hX.ev 0 hin).1
       have hve := hX.ev.ext 0 hin
       have hvs := hX.ev.some 0 hin
       have hvt := hX.ev.field 0 hin (evV_1 _)
       have hve' : extCells w ((x.pe.getD default).add 0) 0 5 = evV x.ev[0] := by simpa using hve
       have hvs' : ∀ j, j < 5 → (w.cell? (((x.pe.getD default).add 0).add j)).isSome = true := by simpa using hvs
       have hvt' : w.cell? (((x.pe.getD default).add 0).add 1) = some (.int .i64 x.ev[0].thread) := by simpa using hvt
       have hpc' : w.cell? ((x.pf.getD default).add 0) = some (.int .i64 x.from_[0]) := by simpa using hpc
       have hpl := plR_put x.ev 0 hin
       have htE : x.ev.take (0 + 1) = x.ev.take 0 ++ [x.ev[0]] := List.take_succ_eq_append_getElem hin
       have htF : x.from_.take (0 + 1) = x.from_.take 0 ++ [x.from_[0]] := List.take_succ_eq_append_getElem hif
       have hE1 : fE (x.ev.take (0 + 1)) = [] ++ (if x.ev[0].thread = -1 then [x.ev[0]] else [x.ev[0], fen x.ev[0].thread]) := by rw [htE, fE_app] <;> rfl
       have hF1 : fF (x.ev.take (0 + 1)) (x.from_.take (0 + 1)) = [] ++ (if x.ev[0].thread = -1 then [x.from_[0]] else [x.from_[0], -1]) := by rw [htE, htF, fF_app _ _ _ _ (by simp <;> omega)] <;> rfl
       generalize x.ev[0] = e at *
       generalize x.from_[0] = f at *
       refine RunF_sound tab_ok noX_local 400 [true] _ _ rfl ?_ ?_
       · simp [hz]
         exact ⟨hin, rfl, by simp [plR_len]; exact hin⟩
       refine Run.to (t' := [(1, .ptr 0 0), (2, .ptr 1 0), (4, .ptr 2 0), (5, .sl 3 1 0 x.ev.length), (6, .v (.int .i64 ((0 : Nat) : Int)))]) (h' := [(0, .cells 28 [.vals 5 (xV x)]), (1, .cells 28 [.vals 5 z28]), (2, .cells 28 [.vals 5 z28]), (3, .row 3 1 x.ev.length (encI (plR x.ev (0 + 1))))]) (n' := 4) ?_ ⟨rfl, rfl, rfl, rfl, rfl, trivial⟩ ⟨rfl, rfl, rfl, congrArg (fun l => some (Blk.row 3 1 x.ev.length l)) hpl, trivial⟩
       refine Run.drawA noX_local rfl [] [(0, .cells 28 [.vals 5 (xV x)]), (2, .cells 28 [.vals 5 z28])] rfl rfl ⟨rfl, rfl, trivial⟩ ?_
       refine RunOF_sound tab_ok noX_local rfl rfl 10 [] _ _ rfl ?_ ?_
       · simp [hz, inT, lk, fillL, splice, Value.cells, repL, maxLen, hve', take_ev, okCell]
         (repeat' refine And.intro ?_ ?_) <;> first | exact hvp | exact hin | exact hvs' | exact ev_one' e | omega | rfl
       refine RunO.effLast tab_ok noX_local rfl rfl rfl rfl ?_ (fun e => by cases e) rfl ?_
       · simp [okCell]
       refine RunF_sound tab_ok noX_local 400 [] _ _ rfl ?_ ?_
       · simp
       refine Run.to (t' := [(1, .ptr 0 0), (2, .ptr 1 0), (4, .ptr 2 0), (5, .sl 3 1 0 x.ev.length), (6, .v (.int .i64 ((0 : Nat) : Int)))]) (h' := [(0, .cells 28 [.vals 5 (xV x)]), (1, .cells 28 [.vals 5 z28]), (2, .cells 28 [.vals 0 [], .one (.sl 5 5 0 1), .vals 4 [.slice none 0 0, .slice none 0 0, .slice none 0 0, .slice none 0 0]]), (3, .row 3 1 x.ev.length (encI (plR x.ev (0 + 1)))), (5, .row 30 5 (1) (evsV ([e])))]) (n' := 6) ?_ ⟨rfl, rfl, rfl, rfl, rfl, trivial⟩ ⟨rfl, rfl, rfl, rfl, ?_, trivial⟩
       rotate_left
       · refine congrArg (fun l => some (Blk.row 30 5 1 l)) ?_
         simp [fillL, splice, Value.cells, repL, hve', evsV, take_ev]
       refine Run.drawA noX_local rfl [] [(0, .cells 28 [.vals 5 (xV x)]), (2, .cells 28 [.vals 0 [], .one (.sl 5 5 0 1), .vals 4 [.slice none 0 0, .slice none 0 0, .slice none 0 0, .slice none 0 0]])] rfl rfl ⟨rfl, rfl, trivial⟩ ?_
       refine RunOF_sound tab_ok noX_local rfl rfl 10 [] _ _ rfl ?_ ?_
       · simp [hz, inT, lk, fillL, splice, Value.cells, repL, maxLen, hve', take_ev, okCell]
         (repeat' refine And.intro ?_ ?_) <;> first | exact hp | exact hif | (rw [hpc']) | omega | rfl
       refine RunO.effLast tab_ok noX_local rfl rfl rfl rfl ?_ (fun e => by cases e) rfl ?_
       · simp [okCell]
       by_cases ht : e.thread = -1
       · refine RunF_sound tab_ok noX_local 400 [false] _ _ rfl ?_ ?_
         · simp
           exact ⟨⟨hvp, hin⟩, by rw [hvt'], by rw [hvt']; exact ht⟩
         rw [if_pos ht] at hE1 hF1
         refine Run.toR [(4, 5), (5, 7)] (n' := 6) (H d (0 + 1) (1) ([e]) ([f]) (by omega) (by omega) hE1.symm hF1.symm (by simp) (by simp) ⟨[(1, .ptr 0 0), (2, .ptr 1 0), (4, .ptr 2 0), (5, .sl 3 1 0 x.ev.length), (6, .v (.int .i64 ((0 + 1 : Nat) : Int)))], [(0, .cells 28 [.vals 5 (xV x)]), (1, .cells 28 [.vals 5 z28]), (3, .row 3 1 x.ev.length (encI (plR x.ev (0 + 1)))), (2, .cells 28 [.vals 0 [], .one (.sl 4 5 0 (1)), .vals 1 [.slice none 0 0], .one (.sl 5 1 0 (1)), .vals 2 [.slice none 0 0, .slice none 0 0]]), (4, .row 30 5 (1) (evsV ([e]))), (5, .row 3 1 (1) (encI ([f])))], 6⟩ ⟨rfl, rfl, rfl, rfl, rfl, trivial⟩ ⟨rfl, rfl, rfl, rfl, rfl, rfl, trivial⟩) ⟨rfl, rfl, rfl, rfl, i64_eq (wrap_succ (by omega)), trivial⟩ ⟨rfl, rfl, rfl, rfl, rfl, ?_, trivial⟩ rfl
         · refine congrArg (fun l => some (Blk.row 3 1 1 l)) ?_
           simp [fillL, splice, Value.cells, repL, encI]
           rw [hpc']
       · rw [if_neg ht] at hE1 hF1
         refine RunF_sound tab_ok noX_local 400 [true] _ _ rfl ?_ ?_
         · simp
           exact ⟨⟨hvp, hin⟩, by rw [hvt'], by rw [hvt']; exact ht⟩
         refine Run.to (t' := [(1, .ptr 0 0), (2, .ptr 1 0), (4, .ptr 2 0), (5, .sl 3 1 0 x.ev.length), (6, .v (.int .i64 ((0 : Nat) : Int)))]) (h' := [(0, .cells 28 [.vals 5 (xV x)]), (1, .cells 28 [.vals 5 z28]), (2, .cells 28 [.vals 0 [], .one (.sl 5 5 0 (1)), .vals 1 [.slice none 0 0], .one (.sl 7 1 0 (1)), .vals 2 [.slice none 0 0, .slice none 0 0]]), (3, .row 3 1 x.ev.length (encI (plR x.ev (0 + 1)))), (5, .row 30 5 (1) (evsV ([e]))), (7, .row 3 1 (1) (encI ([f])))]) (n' := 8) ?_ ⟨rfl, rfl, rfl, rfl, rfl, trivial⟩ ⟨rfl, rfl, rfl, rfl, rfl, ?_, trivial⟩
         rotate_left
         · refine congrArg (fun l => some (Blk.row 3 1 1 l)) ?_
           simp [fillL, splice, Value.cells, repL, encI]
           rw [hpc']
         refine Run.drawA noX_local rfl [8] [(0, .cells 28 [.vals 5 (xV x)]), (2, .cells 28 [.vals 0 [], .one (.sl 5 5 0 (1)), .vals 1 [.slice none 0 0], .one (.sl 7 1 0 (1)), .vals 2 [.slice none 0 0, .slice none 0 0]])] rfl rfl ⟨rfl, rfl, trivial⟩ ?_
         refine RunOF_sound tab_ok noX_local rfl rfl 12 [] _ _ rfl ?_ ?_
         · simp [hz, inT, lk, fillL, splice, Value.cells, repL, maxLen, hve', take_ev, okCell, show tab.size 4 = some 1 from rfl]
           (repeat' refine And.intro ?_ ?_) <;> first | exact hvp | exact hin | (rw [hvt']) | omega | (intro a ha; exact ev_one' _ a (List.mem_of_mem_drop ha))
         refine RunO.effLast tab_ok noX_local rfl rfl rfl rfl ?_ (fun e => by cases e) rfl ?_
         · simp [okCell]
         refine RunF_sound tab_ok noX_local 400 [] _ _ rfl ?_ ?_
         · simp [hz, inT, lk, fillL, splice, Value.cells, repL, maxLen, hve', take_ev, okCell] <;> omega
         refine Run.toR [(4, 9), (5, 11)] (n' := 6) (H d (0 + 1) (2) ([e, fen e.thread]) ([f, -1]) (by omega) (by omega) hE1.symm hF1.symm (by simp) (by simp) ⟨[(1, .ptr 0 0), (2, .ptr 1 0), (4, .ptr 2 0), (5, .sl 3 1 0 x.ev.length), (6, .v (.int .i64 ((0 + 1 : Nat) : Int)))], [(0, .cells 28 [.vals 5 (xV x)]), (1, .cells 28 [.vals 5 z28]), (3, .row 3 1 x.ev.length (encI (plR x.ev (0 + 1)))), (2, .cells 28 [.vals 0 [], .one (.sl 4 5 0 (2)), .vals 1 [.slice none 0 0], .one (.sl 5 1 0 (2)), .vals 2 [.slice none 0 0, .slice none 0 0]]), (4, .row 30 5 (2) (evsV ([e, fen e.thread]))), (5, .row 3 1 (2) (encI ([f, -1])))], 6⟩ ⟨rfl, rfl, rfl, rfl, rfl, trivial⟩ ⟨rfl, rfl, rfl, rfl, rfl, rfl, trivial⟩) ⟨rfl, rfl, rfl, rfl, i64_eq (wrap_succ (by omega)), trivial⟩ ⟨rfl, rfl, rfl, rfl, ?_, ?_, trivial⟩ rfl
         · refine congrArg (fun l => some (Blk.row 30 5 2 l)) ?_
           rw [show ([e, fen e.thread] : List Ev) = [e] ++ [fen e.thread] from rfl, ← evs_app [e] 1 rfl (fen e.thread)]
           refine congrArg (List.take (1 * 5) (evsV ([e])) ++ ·) ?_
           simp [fillL, splice, Value.cells, repL, show tab.size 4 = some 1 from rfl]
           rw [hvt']
           rfl
         · refine congrArg (fun l => some (Blk.row 3 1 2 l)) ?_
           rw [show ([f, -1] : List Int) = [f] ++ [-1] from rfl, ← encI_app [f] 1 rfl (-1)]
           rfl
   intro d
   induction d with
   | succ d ih =>
     intro i m E F hid hi0 hE hF hEl hFl σ ht hh
     refine Run.to ?_ ht hh (n' := 6)
     have hm128 : m ≤ 128 := by rw [← hEl, hE]; have := fE_le (x.ev.take i); rw [List.length_take] at this; omega
     clear ht hh
     have hin : i < x.ev.length := by omega
     have hif : i < x.from_.length := by omega
     obtain ⟨hp, hpc⟩ := hX.from_ i hif
     have hvp := (hX.ev i hin).1
     have hve := hX.ev.ext i hin
     have hvs := hX.ev.some i hin
     have hvt := hX.ev.field i hin (evV_1 _)
     have hve' := hve
     have hvs' := hvs
     have hvt' := hvt
     have hpc' := hpc
     have hpl := plR_put x.ev i hin
     have htE : x.ev.take (i + 1) = x.ev.take i ++ [x.ev[i]] := List.take_succ_eq_append_getElem hin
     have htF : x.from_.take (i + 1) = x.from_.take i ++ [x.from_[i]] := List.take_succ_eq_append_getElem hif
     have hE1 : fE (x.ev.take (i + 1)) = E ++ (if x.ev[i].thread = -1 then [x.ev[i]] else [x.ev[i], fen x.ev[i].thread]) := by rw [htE, fE_app]; rw [hE]
     have hF1 : fF (x.ev.take (i + 1)) (x.from_.take (i + 1)) = F ++ (if x.ev[i].thread = -1 then [x.from_[i]] else [x.from_[i], -1]) := by rw [htE, htF, fF_app _ _ _ _ (by simp <;> omega)]; rw [hF]
     generalize x.ev[i] = e at *
     generalize x.from_[i] = f at *
     refine RunF_sound tab_ok noX_local 400 [true] _ _ rfl ?_ ?_
     · simp [plR_len]
       exact ⟨hin, rfl, hin⟩
     refine Run.to (t' := [(1, .ptr 0 0), (2, .ptr 1 0), (4, .ptr 2 0), (5, .sl 3 1 0 x.ev.length), (6, .v (.int .i64 ((i : Nat) : Int)))]) (h' := [(0, .cells 28 [.vals 5 (xV x)]), (1, .cells 28 [.vals 5 z28]), (2, .cells 28 [.vals 0 [], .one (.sl 4 5 0 (m)), .vals 1 [.slice none 0 0], .one (.sl 5 1 0 (m)), .vals 2 [.slice none 0 0, .slice none 0 0]]), (3, .row 3 1 x.ev.length (encI (plR x.ev (i + 1)))), (4, .row 30 5 (m) (evsV (E))), (5, .row 3 1 (m) (encI (F)))]) (n' := 6) ?_ ⟨rfl, rfl, rfl, rfl, rfl, trivial⟩ ⟨rfl, rfl, rfl, ?_, rfl, rfl, trivial⟩
     rotate_left
     · refine congrArg (fun l => some (Blk.row 3 1 x.ev.length l)) ?_
       rw [← hpl, show plN x.ev i = m by unfold plN; rw [← hE]; exact hEl]
       simp
     refine Run.drawA noX_local rfl [] [(0, .cells 28 [.vals 5 (xV x)]), (2, .cells 28 [.vals 0 [], .one (.sl 4 5 0 (m)), .vals 1 [.slice none 0 0], .one (.sl 5 1 0 (m)), .vals 2 [.slice none 0 0, .slice none 0 0]])] rfl rfl ⟨rfl, rfl, trivial⟩ ?_
     refine RunOF_sound tab_ok noX_local rfl rfl 10 [] _ _ rfl ?_ ?_
     · simp [hz, inT, lk, fillL, splice, Value.cells, repL, maxLen, hve', take_ev, okCell]
       (repeat' refine And.intro ?_ ?_) <;> first | exact hvp | exact hin | exact hvs' | exact ev_one' e | omega | rfl
     refine RunO.effLast tab_ok noX_local rfl rfl rfl rfl ?_ (fun e => by cases e) rfl ?_
     · simp [okCell]
     refine RunF_sound tab_ok noX_local 400 [] _ _ rfl ?_ ?_
     · simp
     refine Run.to (t' := [(1, .ptr 0 0), (2, .ptr 1 0), (4, .ptr 2 0), (5, .sl 3 1 0 x.ev.length), (6, .v (.int .i64 ((i : Nat) : Int)))]) (h' := [(0, .cells 28 [.vals 5 (xV x)]), (1, .cells 28 [.vals 5 z28]), (2, .cells 28 [.vals 0 [], .one (.sl 7 5 0 (m + 1)), .vals 1 [.slice none 0 0], .one (.sl 5 1 0 (m)), .vals 2 [.slice none 0 0, .slice none 0 0]]), (3, .row 3 1 x.ev.length (encI (plR x.ev (i + 1)))), (7, .row 30 5 (m + 1) (evsV (E ++ [e]))), (5, .row 3 1 (m) (encI (F)))]) (n' := 8) ?_ ⟨rfl, rfl, rfl, rfl, rfl, trivial⟩ ⟨rfl, rfl, rfl, rfl, ?_, rfl, trivial⟩
     rotate_left
     · refine congrArg (fun l => some (Blk.row 30 5 (m + 1) l)) ?_
       rw [← evs_app E m hEl e]
       simp [fillL, splice, Value.cells, repL, hve', take_ev]
     refine Run.drawA noX_local rfl [] [(0, .cells 28 [.vals 5 (xV x)]), (2, .cells 28 [.vals 0 [], .one (.sl 7 5 0 (m + 1)), .vals 1 [.slice none 0 0], .one (.sl 5 1 0 (m)), .vals 2 [.slice none 0 0, .slice none 0 0]])] rfl rfl ⟨rfl, rfl, trivial⟩ ?_
     refine RunOF_sound tab_ok noX_local rfl rfl 10 [] _ _ rfl ?_ ?_
     · simp [hz, inT, lk, fillL, splice, Value.cells, repL, maxLen, hve', take_ev, okCell]
       (repeat' refine And.intro ?_ ?_) <;> first | exact hp | exact hif | (rw [hpc']) | omega | rfl
     refine RunO.effLast tab_ok noX_local rfl rfl rfl rfl ?_ (fun e => by cases e) rfl ?_
     · simp [okCell]
     by_cases ht : e.thread = -1
     · refine RunF_sound tab_ok noX_local 400 [false] _ _ rfl ?_ ?_
       · simp
         exact ⟨⟨hvp, hin⟩, by rw [hvt'], by rw [hvt']; exact ht⟩
       rw [if_pos ht] at hE1 hF1
       refine Run.toR [(4, 7), (5, 9)] (n' := 6) (ih (i + 1) (m + 1) (E ++ [e]) (F ++ [f]) (by omega) (by omega) hE1.symm hF1.symm (by simp; omega) (by simp; omega) ⟨[(1, .ptr 0 0), (2, .ptr 1 0), (4, .ptr 2 0), (5, .sl 3 1 0 x.ev.length), (6, .v (.int .i64 ((i + 1 : Nat) : Int)))], [(0, .cells 28 [.vals 5 (xV x)]), (1, .cells 28 [.vals 5 z28]), (3, .row 3 1 x.ev.length (encI (plR x.ev (i + 1)))), (2, .cells 28 [.vals 0 [], .one (.sl 4 5 0 (m + 1)), .vals 1 [.slice none 0 0], .one (.sl 5 1 0 (m + 1)), .vals 2 [.slice none 0 0, .slice none 0 0]]), (4, .row 30 5 (m + 1) (evsV (E ++ [e]))), (5, .row 3 1 (m + 1) (encI (F ++ [f])))], 6⟩ ⟨rfl, rfl, rfl, rfl, rfl, trivial⟩ ⟨rfl, rfl, rfl, rfl, rfl, rfl, trivial⟩) ⟨rfl, rfl, rfl, rfl, i64_eq (wrap_succ (by omega)), trivial⟩ ⟨rfl, rfl, rfl, rfl, rfl, ?_, trivial⟩ rfl
       · refine congrArg (fun l => some (Blk.row 3 1 (m + 1) l)) ?_
         rw [← encI_app F m hFl f]
         simp [fillL, splice, Value.cells, repL]
         rw [hpc']
     · rw [if_neg ht] at hE1 hF1
       refine RunF_sound tab_ok noX_local 400 [true] _ _ rfl ?_ ?_
       · simp
         exact ⟨⟨hvp, hin⟩, by rw [hvt'], by rw [hvt']; exact ht⟩
       refine Run.to (t' := [(1, .ptr 0 0), (2, .ptr 1 0), (4, .ptr 2 0), (5, .sl 3 1 0 x.ev.length), (6, .v (.int .i64 ((i : Nat) : Int)))]) (h' := [(0, .cells 28 [.vals 5 (xV x)]), (1, .cells 28 [.vals 5 z28]), (2, .cells 28 [.vals 0 [], .one (.sl 7 5 0 (m + 1)), .vals 1 [.slice none 0 0], .one (.sl 9 1 0 (m + 1)), .vals 2 [.slice none 0 0, .slice none 0 0]]), (3, .row 3 1 x.ev.length (encI (plR x.ev (i + 1)))), (7, .row 30 5 (m + 1) (evsV (E ++ [e]))), (9, .row 3 1 (m + 1) (encI (F ++ [f])))]) (n' := 10) ?_ ⟨rfl, rfl, rfl, rfl, rfl, trivial⟩ ⟨rfl, rfl, rfl, rfl, rfl, ?_, trivial⟩
       rotate_left
       · refine congrArg (fun l => some (Blk.row 3 1 (m + 1) l)) ?_
         rw [← encI_app F m hFl f]
         simp [fillL, splice, Value.cells, repL]
         rw [hpc']
       refine Run.drawA noX_local rfl [8] [(0, .cells 28 [.vals 5 (xV x)]), (2, .cells 28 [.vals 0 [], .one (.sl 7 5 0 (m + 1)), .vals 1 [.slice none 0 0], .one (.sl 9 1 0 (m + 1)), .vals 2 [.slice none 0 0, .slice none 0 0]])] rfl rfl ⟨rfl, rfl, trivial⟩ ?_
       refine RunOF_sound tab_ok noX_local rfl rfl 12 [] _ _ rfl ?_ ?_
       · simp [hz, inT, lk, fillL, splice, Value.cells, repL, maxLen, hve', take_ev, okCell, show tab.size 4 = some 1 from rfl]
         (repeat' refine And.intro ?_ ?_) <;> first | exact hvp | exact hin | (rw [hvt']) | omega | (intro a ha; exact ev_one' _ a (List.mem_of_mem_drop ha))
       refine RunO.effLast tab_ok noX_local rfl rfl rfl rfl ?_ (fun e => by cases e) rfl ?_
       · simp [okCell]
       refine RunF_sound tab_ok noX_local 400 [] _ _ rfl ?_ ?_
       · simp [hz, inT, lk, fillL, splice, Value.cells, repL, maxLen, hve', take_ev, okCell] <;> omega
       refine Run.toR [(4, 11), (5, 13)] (n' := 6) (ih (i + 1) (m + 2) (E ++ [e, fen e.thread]) (F ++ [f, -1]) (by omega) (by omega) hE1.symm hF1.symm (by simp; omega) (by simp; omega) ⟨[(1, .ptr 0 0), (2, .ptr 1 0), (4, .ptr 2 0), (5, .sl 3 1 0 x.ev.length), (6, .v (.int .i64 ((i + 1 : Nat) : Int)))], [(0, .cells 28 [.vals 5 (xV x)]), (1, .cells 28 [.vals 5 z28]), (3, .row 3 1 x.ev.length (encI (plR x.ev (i + 1)))), (2, .cells 28 [.vals 0 [], .one (.sl 4 5 0 (m + 2)), .vals 1 [.slice none 0 0], .one (.sl 5 1 0 (m + 2)), .vals 2 [.slice none 0 0, .slice none 0 0]]), (4, .row 30 5 (m + 2) (evsV (E ++ [e, fen e.thread]))), (5, .row 3 1 (m + 2) (encI (F ++ [f, -1])))], 6⟩ ⟨rfl, rfl, rfl, rfl, rfl, trivial⟩ ⟨rfl, rfl, rfl, rfl, rfl, rfl, trivial⟩) ⟨rfl, rfl, rfl, rfl, i64_eq (wrap_succ (by omega)), trivial⟩ ⟨rfl, rfl, rfl, rfl, ?_, ?_, trivial⟩ rfl
       · refine congrArg (fun l => some (Blk.row 30 5 (m + 2) l)) ?_
         rw [show E ++ [e, fen e.thread] = (E ++ [e]) ++ [fen e.thread] by simp, ← evs_app (E ++ [e]) (m + 1) (by simp; omega) (fen e.thread)]
         refine congrArg (List.take ((m + 1) * 5) (evsV (E ++ [e])) ++ ·) ?_
         simp [fillL, splice, Value.cells, repL, show tab.size 4 = some 1 from rfl]
         rw [hvt']
         rfl
       · refine congrArg (fun l => some (Blk.row 3 1 (m + 2) l)) ?_
         rw [show F ++ [f, -1] = (F ++ [f]) ++ [-1] by simp, ← encI_app (F ++ [f]) (m + 1) (by simp; omega) (-1)]
         rfl
   | zero =>
     intro i m E F hid hi0 hE hF hEl hFl σ ht hh
     refine Run.to ?_ ht hh (n' := 6)
     obtain rfl : i = x.ev.length := by omega
     rw [List.take_length] at hE hF
     rw [show x.from_.take x.ev.length = x.from_ by rw [← hfl, List.take_length]] at hF
     have hm0 : 0 < m := by rw [← hEl, hE]; have := fE_ge x.ev; omega
     have hm128 : m ≤ 128 := by rw [← hEl, hE]; have := fE_le x.ev; omega
     have hFlt : ∀ v ∈ F, v < (x.ev.length : Int) := by rw [hF]; exact fF_lt hP
     refine RunF_sound tab_ok noX_local 400 [false] _ _ rfl ?_ ?_
     · simp
     suffices H2 : ∀ (d j : Nat), j + d = m → ∀ σ, inT σ.t [(1, .ptr 0 0), (2, .ptr 1 0), (4, .ptr 2 0), (5, .sl 3 1 0 x.ev.length), (7, .v (.int .i64 (j : Int)))] → inT σ.h [(0, .cells 28 [.vals 5 (xV x)]), (1, .cells 28 [.vals 5 z28]), (3, .row 3 1 x.ev.length (encI (plR x.ev (x.ev.length)))), (2, .cells 28 [.vals 0 [], .one (.sl 4 5 0 (m)), .vals 1 [.slice none 0 0], .one (.sl 5 1 0 (m)), .vals 2 [.slice none 0 0, .slice none 0 0]]), (4, .row 30 5 (m) (evsV (E))), (5, .row 3 1 (m) (encI ((F.take j).map (plI x.ev) ++ F.drop j)))] → Run (fnQ Tryd.prog 17 (Tryd.f17).ntmps w (FenQ x w)) _ σ by
       exact H2 m 0 (by omega) _ ⟨rfl, rfl, rfl, rfl, rfl, trivial⟩ ⟨rfl, rfl, rfl, rfl, rfl, rfl, trivial⟩
     clear ht hh
     intro d
     induction d with
     | succ d ih =>
       intro j hj σ ht hh
       refine Run.to ?_ ht hh (n' := 6)
       have hjm : j < m := by omega
       have hjF : j < F.length := by omega
       have hGl : ((F.take j).map (plI x.ev) ++ F.drop j).length = m := by simp; omega
       have hGj : (encI ((F.take j).map (plI x.ev) ++ F.drop j))[j]? = some (.int .i64 F[j]) := by
         unfold encI
         rw [List.getElem?_map, List.getElem?_append_right (by simp; omega), List.length_map, List.length_take, Nat.min_eq_left (by omega), Nat.sub_self, List.getElem?_drop, Nat.add_zero, List.getElem?_eq_getElem hjF]
         rfl
       have hGn : (F.take (j + 1)).map (plI x.ev) ++ F.drop (j + 1) = ((F.take j).map (plI x.ev) ++ F.drop j).set j (plI x.ev F[j]) := by
         rw [List.take_succ_eq_append_getElem hjF, List.map_append, List.set_append_right _ _ (by simp; omega), List.append_assoc]
         congr 1
         rw [List.length_map, List.length_take, Nat.min_eq_left (by omega), Nat.sub_self, List.drop_eq_getElem_cons hjF]
         rfl
       have hlt := hFlt F[j] (List.getElem_mem hjF)
       generalize (F.take j).map (plI x.ev) ++ F.drop j = G at *
       generalize F[j] = f at *
       have hgi := int_of hGj
       by_cases h0 : 0 ≤ f
       · obtain ⟨q, rfl⟩ : ∃ q : Nat, f = (q : Int) := ⟨f.toNat, by omega⟩
         have hq : q < x.ev.length := by omega
         have hpq : (encI (plR x.ev x.ev.length))[q]? = some (.int .i64 (plN x.ev q : Int)) := by
           unfold encI plR
           simp [hq]
         have hpi := int_of hpq
         refine RunF_sound tab_ok noX_local 400 [true, true] _ _ rfl ?_ ?_
         · simp [hGj, hgi]
           exact hjm
         refine Run.drawA noX_local rfl [] [(3, .row 3 1 x.ev.length (encI (plR x.ev (x.ev.length)))), (2, .cells 28 [.vals 0 [], .one (.sl 4 5 0 (m)), .vals 1 [.slice none 0 0], .one (.sl 5 1 0 (m)), .vals 2 [.slice none 0 0, .slice none 0 0]]), (5, .row 3 1 (m) (encI (G)))] rfl rfl ⟨rfl, rfl, rfl, trivial⟩ ?_
         refine RunOF_sound tab_ok noX_local rfl rfl 12 [] _ _ rfl ?_ ?_
         · simp [hGj, hgi, hpq, hpi]
           exact ⟨hjm, hq, hjm⟩
         refine RunO.effLast tab_ok noX_local rfl rfl rfl rfl ?_ (fun e => by cases e) rfl ?_
         · refine ⟨⟨rfl, rfl⟩, ?_⟩
           rw [encI_len, hGl]; simp; exact hjm
         refine RunF_sound tab_ok noX_local 400 [] _ _ rfl ?_ ?_
         · simp
         refine ih (j + 1) (by omega) _ ⟨rfl, rfl, rfl, rfl, i64_eq (wrap_succ (by omega)), trivial⟩ ⟨rfl, rfl, rfl, rfl, rfl, ?_, trivial⟩
         refine congrArg (fun l => some (Blk.row 3 1 m l)) ?_
         simp only [Int.toNat_natCast, Nat.zero_add, Nat.mul_one, hgi, hpi]
         rw [hGn]
         unfold encI
         rw [List.map_set]
         simp [plI]
       · refine RunF_sound tab_ok noX_local 400 [true, false] _ _ rfl ?_ ?_
         · simp [hGj, hgi]
           exact ⟨hjm, by omega⟩
         refine ih (j + 1) (by omega) _ ⟨rfl, rfl, rfl, rfl, i64_eq (wrap_succ (by omega)), trivial⟩ ⟨rfl, rfl, rfl, rfl, rfl, ?_, trivial⟩
         refine congrArg (fun l => some (Blk.row 3 1 m l)) ?_
         rw [hGn, plI, if_neg h0]
         apply List.ext_getElem?
         intro t
         unfold encI
         rw [List.map_set, List.getElem?_set]
         by_cases htj : j = t
         · subst htj
           rw [if_pos rfl, if_pos (by simp; omega)]
           exact hGj
         · rw [if_neg htj]
     | zero =>
       intro j hj σ ht hh
       refine Run.to ?_ ht hh (n' := 6)
       obtain rfl : j = m := by omega
       rw [show (F.take j).map (plI x.ev) ++ F.drop j = F.map (plI x.ev) by rw [List.take_of_length_le (by omega), List.drop_of_length_le (by omega), List.append_nil]]
       refine RunF_sound tab_ok noX_local 400 [false] _ _ rfl ?_ ?_
       · simp
       refine Run.to (t' := [(1, .ptr 0 0), (2, .ptr 1 0), (4, .ptr 2 0), (5, .sl 3 1 0 x.ev.length), (8, .v (.int .i64 ((0 : Nat) : Int)))]) (h' := [(0, .cells 28 [.vals 5 (xV x)]), (1, .cells 28 [.vals 5 z28]), (3, .row 3 1 x.ev.length (encI (plR x.ev (x.ev.length)))), (2, .cells 28 [.vals 0 [], .one (.sl 4 5 0 (j)), .vals 1 [.slice none 0 0], .one (.sl 5 1 0 (j)), .vals 2 [.slice none 0 0, .slice none 0 0]]), (4, .row 30 5 (j) (evsV (E))), (5, .row 3 1 (j) (encI (F.map (plI x.ev))))]) (n' := 6) ?_ ⟨rfl, rfl, rfl, rfl, rfl, trivial⟩ ⟨rfl, rfl, rfl, rfl, rfl, rfl, trivial⟩
       refine Run.freezeB (fun M => [(1, .ptr 0 0), (2, .ptr 1 0), (4, .ptr 2 0), (5, .v (.slice (some ⟨(M 3).1, 0, none⟩) x.ev.length (M 3).2)), (8, .v (.int .i64 ((0 : Nat) : Int)))]) (fun M => [(0, .cells 28 [.vals 5 (xV x)]), (1, .cells 28 [.vals 5 z28]), (2, .cells 28 [.vals 5 [.slice (some ⟨(M 4).1, 0, none⟩) j (M 4).2, .slice none 0 0, .slice (some ⟨(M 5).1, 0, none⟩) j (M 5).2, .slice none 0 0, .slice none 0 0]])]) 3 (fun M => ⟨⟨_, rfl, rfl⟩, ⟨_, rfl, rfl⟩, ⟨_, rfl, rfl⟩, ⟨_, rfl, by simp [conc]⟩, ⟨_, rfl, rfl⟩, trivial⟩) (fun M id B' hB => (by
         rcases lk_cons' hB with ⟨rfl, rfl⟩ | hB
         · exact ⟨_, rfl, fun w h => h⟩
         rcases lk_cons' hB with ⟨rfl, rfl⟩ | hB
         · exact ⟨_, rfl, fun w h => h⟩
         rcases lk_cons' hB with ⟨rfl, rfl⟩ | hB
         · exact ⟨_, rfl, fun w h => (by simpa [BlkAt, concSegs, conc, segsOK] using h)⟩
         cases hB)) ?_
       intro M w1 S1 hb hblk hoff hown
       have b3 := hblk 3 _ rfl
       have b4 := hblk 4 _ rfl
       have b5 := hblk 5 _ rfl
       have o3 := hoff 3 _ rfl rfl
       have o4 := hoff 4 _ rfl rfl
       have o5 := hoff 5 _ rfl rfl
       have n3 : w.heap.size ≤ (M 3).1 := Nat.le_of_not_lt fun h => hown 3 _ rfl h
       have n4 : w.heap.size ≤ (M 4).1 := Nat.le_of_not_lt fun h => hown 4 _ rfl h
       have n5 : w.heap.size ≤ (M 5).1 := Nat.le_of_not_lt fun h => hown 5 _ rfl h
       have hcap : j ≤ (M 5).2 := by obtain ⟨_, cur, _, g1, _⟩ := b5; exact g1
       refine S3 w1 S1 E (F.map (plI x.ev)) j _ _ _ _ _ _ ((Based.refl w).base hb) hE (by rw [hF]) hEl (by simp; exact hFl) hcap (fun a h => by cases h; exact ⟨o3, b3.lt⟩) (fun w' hA => ⟨seesE_row (blk_os b4 o4 n4 hA) fun i hi q hq => evsV_get E i hi q hq, seesI_row (blk_os b5 o5 n5 hA), seesI_row (blk_os b3 o3 n3 hA), rfl, fun j h => absurd h (Nat.not_lt_zero _)⟩) _ ⟨rfl, rfl, rfl, rfl, rfl, trivial⟩ ⟨rfl, rfl, rfl, trivial⟩
  intro w1 S1 E F m cE cF cP pE pF pP hB hE hF hEl hFl hcap hPo hK σ ht hh
  refine Run.to ?_ ht hh (n' := 7)
  suffices L3 : ∀ (d o : Nat) (w1 : World) (S1 : Foot) (vs : List Value), o + d = x.ord.length → Based w w1 S1 → (∀ a, pP = some a → ¬ S1 a.block ∧ a.block < w1.heap.size) → (∀ w', Agree (OS w S1) w1 w' → Made w' pE pF pP E F (plR x.ev x.ev.length) vs ((x.ord.take o).map fun l => l.map (plI x.ev))) → ∀ σ, inT σ.t [(1, .ptr 0 0), (2, .ptr 1 0), (4, .ptr 2 0), (5, .v (.slice pP x.ev.length cP)), (8, .v (.int .i64 (o : Int)))] → inT σ.h ((0, .cells 28 [.vals 5 (xV x)]) :: (1, .cells 28 [.vals 5 z28]) :: yVs (.slice pE m cE) (.slice pF m cF) vs) →
      Run ((fnQ Tryd.prog 17 (Tryd.f17).ntmps w (FenQ x w)).rebase w1 S1) _ σ by
    exact L3 x.ord.length 0 w1 S1 [] (by omega) hB hPo hK _ ⟨rfl, rfl, rfl, rfl, rfl, trivial⟩ ⟨rfl, rfl, rfl, trivial⟩
  clear ht hh hB hK hPo
  clear w1 S1
  intro d
  induction d with
  | succ d ih =>
    intro o w1 S1 vs ho hB hPo hK σ ht hh
    refine Run.to ?_ ht hh (n' := 7)
    have hol : o < x.ord.length := by omega
    obtain ⟨hp, q, cq, hpc, hqI⟩ := (hX.agree hB.agree).ord.at o hol
    obtain ⟨_, q', cq', hpc', hqI0'⟩ := hX.ord.at o hol
    have hpc2 := hB.agree.cell hpc' (fun f => f)
    rw [hpc] at hpc2
    have hqI0 : SeesI w q x.ord[o] := by
      have := Option.some.inj hpc2
      cases this
      exact hqI0'
    have hold : ∀ (a : Addr) {z : Value}, w.cell? a = some z → ¬ S1 a.block := fun a z h hs => by
      have h1 := World.block_lt_of_cell? w _ h
      have h2 := hB.new _ hs
      omega
    have hpS : ¬ S1 ((x.po.getD default).add o).block := hold _ hpc'
    have hpl := (hK w1 (Agree.refl _ _)).pl
    have hl8 := hs2 x.ord[o] (List.getElem_mem hol)
    have hlb := hP.ord x.ord[o] (List.getElem_mem hol)
    have hll := hX.lo2 x.ord[o] (List.getElem_mem hol)
    rw [hml] at hll
    have htk : x.ord.take (o + 1) = x.ord.take o ++ [x.ord[o]] := List.take_succ_eq_append_getElem hol
    clear hpc2 hqI0' hpc'
    generalize x.ord[o] = l at *
    rcases vs with _ | ⟨v0, vs⟩
    · skip
      refine RunF_sound tab_ok noX_local 400 [true] _ _ rfl ?_ ?_
      · simp
        exact hol
      suffices I3 : ∀ (d k : Nat) (G : List Int), k + d = l.length → G = (l.take k).map (plI x.ev) → ∀ σ, inT σ.t [(1, .ptr 0 0), (2, .ptr 1 0), (4, .ptr 2 0), (5, .v (.slice pP x.ev.length cP)), (8, .v (.int .i64 (o : Int))), (9, lV G), (10, .v (.int .i64 (k : Int)))] → inT σ.h ((0, .cells 28 [.vals 5 (xV x)]) :: (1, .cells 28 [.vals 5 z28]) :: ((yVs (.slice pE m cE) (.slice pF m cF) []) ++ lR G)) →
          Run ((fnQ Tryd.prog 17 (Tryd.f17).ntmps w (FenQ x w)).rebase w1 S1) _ σ by
        exact I3 l.length 0 [] (by omega) rfl _ ⟨rfl, rfl, rfl, rfl, rfl, rfl, rfl, trivial⟩ ⟨rfl, rfl, rfl, trivial⟩
      clear ht hh
      intro d2
      induction d2 with
      | succ d2 ihk =>
        intro k G hk hG σ ht hh
        refine Run.to ?_ ht hh (n' := 8)
        have hkl : k < l.length := by omega
        have hGk : G.length = k := by rw [hG]; simp; omega
        obtain ⟨hq1, hq2⟩ := hqI k hkl
        have hqS : ¬ S1 ((q.getD default).add k).block := hold _ (hqI0 k hkl).2
        obtain ⟨hv0, hv1⟩ := hlb l[k] (List.getElem_mem hkl)
        have hG' : G ++ [plI x.ev l[k]] = (l.take (k + 1)).map (plI x.ev) := by rw [List.take_succ_eq_append_getElem hkl, List.map_append, hG]; rfl
        generalize l[k] = v at *
        obtain ⟨j, rfl⟩ : ∃ j : Nat, v = (j : Int) := ⟨v.toNat, by omega⟩
        have hj : j < x.ev.length := by omega
        obtain ⟨hp1, hp2⟩ := hpl j (by rw [plR_len]; exact hj)
        have hpv : (plR x.ev x.ev.length)[j]'(by rw [plR_len]; exact hj) = plI x.ev (j : Int) := by simp [plR, plI, hj]
        rw [hpv] at hp2
        have hPS : ¬ S1 ((pP.getD default).add j).block := by rw [add_block]; exact (hPo _ hp1).1
        generalize plI x.ev (j : Int) = u at *
        rcases G with _ | ⟨g, G⟩
        · refine RunF_sound tab_ok noX_local 400 [true] _ _ rfl ?_ ?_
          · simp [fillL, repL, splice, Value.cells, maxLen, hpc, hq2, hp2]
            (repeat' refine And.intro ?_ ?_) <;> first | exact hp | exact hol | exact hpS | exact hkl | exact hq1 | exact hqS | exact hp1 | exact hj | exact hPS | (simp only [List.length_cons] at hGk; omega) | omega | rfl
          refine Run.toR [(7, 9)] (n' := 8) (ihk (k + 1) [u] (by omega) (by rw [← hG']; rfl) ⟨[(1, .ptr 0 0), (2, .ptr 1 0), (4, .ptr 2 0), (5, .v (.slice pP x.ev.length cP)), (8, .v (.int .i64 (o : Int))), (9, .sl 7 1 0 1), (10, .v (.int .i64 ((k + 1 : Nat) : Int)))], [(0, .cells 28 [.vals 5 (xV x)]), (1, .cells 28 [.vals 5 z28]), (2, .cells 28 [.vals 5 [(.slice pE m cE), .slice none 0 0, (.slice pF m cF), .slice none 0 0, .slice none 0 0]]), (7, .row 3 1 1 (encI [u]))], 8⟩ ⟨rfl, rfl, rfl, rfl, rfl, rfl, rfl, trivial⟩ ⟨rfl, rfl, rfl, rfl, trivial⟩) ⟨rfl, rfl, rfl, rfl, rfl, rfl, i64_eq (wrap_succ (by omega)), trivial⟩ ⟨rfl, rfl, rfl, ?_, trivial⟩ rfl
          refine congrArg (fun l => some (Blk.row 3 1 1 l)) ?_
          simp [fillL, splice, Value.cells, repL, encI, hpc, hq2, hp2]
        · refine RunF_sound tab_ok noX_local 400 [true] _ _ rfl ?_ ?_
          · simp [fillL, repL, splice, Value.cells, maxLen, hpc, hq2, hp2]
            (repeat' refine And.intro ?_ ?_) <;> first | exact hp | exact hol | exact hpS | exact hkl | exact hq1 | exact hqS | exact hp1 | exact hj | exact hPS | (simp only [List.length_cons] at hGk; omega) | omega | rfl
          refine Run.toR [(7, 9)] (n' := 8) (ihk (k + 1) (g :: G ++ [u]) (by omega) hG' ⟨[(1, .ptr 0 0), (2, .ptr 1 0), (4, .ptr 2 0), (5, .v (.slice pP x.ev.length cP)), (8, .v (.int .i64 (o : Int))), (9, .sl 7 1 0 (G.length + 2)), (10, .v (.int .i64 ((k + 1 : Nat) : Int)))], [(0, .cells 28 [.vals 5 (xV x)]), (1, .cells 28 [.vals 5 z28]), (2, .cells 28 [.vals 5 [(.slice pE m cE), .slice none 0 0, (.slice pF m cF), .slice none 0 0, .slice none 0 0]]), (7, .row 3 1 (G.length + 2) (encI (g :: G ++ [u])))], 8⟩ ⟨rfl, rfl, rfl, rfl, rfl, ?_, rfl, trivial⟩ ⟨rfl, rfl, rfl, ?_, trivial⟩) ⟨rfl, rfl, rfl, rfl, rfl, rfl, i64_eq (wrap_succ (by omega)), trivial⟩ ⟨rfl, rfl, rfl, ?_, trivial⟩ rfl
          · rw [lV_app]; rfl
          · rw [show (G.append [u]).length + 1 = G.length + 2 by simp]; rfl
          · refine congrArg (fun l => some (Blk.row 3 1 (G.length + 2) l)) ?_
            rw [← encI_app (g :: G) (G.length + 1) rfl u]
            simp [fillL, splice, Value.cells, repL, hpc, hq2, hp2]
      | zero =>
        intro k G hk hG σ ht hh
        refine Run.to ?_ ht hh (n' := 8)
        obtain rfl : k = l.length := by omega
        rw [List.take_length] at hG
        have hGl : G.length = l.length := by rw [hG]; simp
        have hvl : ([] : List Value).length = o := by
          have := (hK w1 (Agree.refl _ _)).len
          rw [this]; simp; omega
        have hls : (x.ord.take (o + 1)).map (fun l => l.map (plI x.ev)) = (x.ord.take o).map (fun l => l.map (plI x.ev)) ++ [G] := by rw [htk, List.map_append, hG]; rfl
        have hnx := fun (w2 : World) (S2 : Foot) (vv : Value) (hb : Base S1 w1 S2 w2) (hv : ∃ q c, vv = .slice q G.length c ∧ ∀ w', Agree (OS w S2) w2 w' → SeesI w' q G) => ih (o + 1) w2 S2 ([] ++ [vv]) (by omega) (hB.base hb) (fun a h => ⟨hb.off (hPo a h).2 (hPo a h).1, Nat.lt_of_lt_of_le (hPo a h).2 hb.agree.size⟩) (fun w' hA => by
            rw [hls]
            obtain ⟨q, c, hv1, hv2⟩ := hv
            exact (hK w' (later_os hb hA)).snoc ⟨q, c, hv1, hv2 w' hA⟩)
        rcases G with _ | ⟨g, G⟩
        · refine RunF_sound tab_ok noX_local 400 [false] _ _ rfl ?_ ?_
          · simp [fillL, repL, splice, Value.cells, maxLen, hpc, okCell, ← hGl]
            (repeat' refine And.intro ?_ ?_) <;> first | exact hp | exact hol | exact hpS | omega | rfl
          refine Run.toR [(6, 9)] (n' := 7) (hnx w1 S1 (.slice none 0 0) (Base.refl _ _) ⟨none, 0, rfl, fun w' _ => seesI_nil _ _⟩ ⟨[(1, .ptr 0 0), (2, .ptr 1 0), (4, .ptr 2 0), (5, .v (.slice pP x.ev.length cP)), (8, .v (.int .i64 ((o + 1 : Nat) : Int)))], [(0, .cells 28 [.vals 5 (xV x)]), (1, .cells 28 [.vals 5 z28]), (2, .cells 28 [.vals 3 [(.slice pE m cE), .slice none 0 0, (.slice pF m cF)], .one (.sl 6 1 0 1), .vals 1 [.slice none 0 0]]), (6, .row 24 1 1 [(.slice none 0 0)])], 7⟩ ⟨rfl, rfl, rfl, rfl, rfl, trivial⟩ ⟨rfl, rfl, rfl, rfl, trivial⟩) ⟨rfl, rfl, rfl, rfl, i64_eq (wrap_succ (by omega)), trivial⟩ ⟨rfl, rfl, rfl, rfl, trivial⟩ rfl
        · refine Run.freeze (fun M => [(1, .ptr 0 0), (2, .ptr 1 0), (4, .ptr 2 0), (5, .v (.slice pP x.ev.length cP)), (8, .v (.int .i64 ((o : Nat) : Int))), (9, .v (.slice (some ⟨(M 7).1, 0, none⟩) (G.length + 1) (M 7).2)), (10, .v (.int .i64 (l.length : Int)))]) [(0, .cells 28 [.vals 5 (xV x)]), (1, .cells 28 [.vals 5 z28]), (2, .cells 28 [.vals 5 [(.slice pE m cE), .slice none 0 0, (.slice pF m cF), .slice none 0 0, .slice none 0 0]])] 8 (fun M => ⟨⟨_, rfl, rfl⟩, ⟨_, rfl, rfl⟩, ⟨_, rfl, rfl⟩, ⟨_, rfl, rfl⟩, ⟨_, rfl, rfl⟩, ⟨_, rfl, by simp [conc, lV]⟩, ⟨_, rfl, rfl⟩, trivial⟩) ⟨rfl, rfl, rfl, trivial⟩ ?_
          intro M w2 S2 hb hblk hoff hown
          have b7 := hblk 7 _ rfl
          have o7 := hoff 7 _ rfl rfl
          have n7 : w.heap.size ≤ (M 7).1 := by
            rcases Nat.lt_or_ge (M 7).1 w1.heap.size with h1 | h1
            · exact hB.new _ (hown 7 _ rfl h1)
            · exact Nat.le_trans hB.agree.size h1
          have hpc2 := hb.agree.cell hpc hpS
          have hpS2 : ¬ S2 ((x.po.getD default).add o).block := hb.off (World.block_lt_of_cell? w1 _ hpc) hpS
          refine RunF_sound tab_ok noX_local 400 [false] _ _ rfl ?_ ?_
          · simp [fillL, repL, splice, Value.cells, maxLen, hpc2, okCell, ← hGl]
            (repeat' refine And.intro ?_ ?_) <;> first | exact hp | exact hol | exact hpS2 | omega | rfl
          refine Run.toR [(6, 9)] (n' := 7) (hnx w2 S2 (.slice (some ⟨(M 7).1, 0, none⟩) (G.length + 1) (M 7).2) hb ⟨_, _, rfl, fun w' hA => seesI_row (blk_os b7 o7 n7 hA)⟩ ⟨[(1, .ptr 0 0), (2, .ptr 1 0), (4, .ptr 2 0), (5, .v (.slice pP x.ev.length cP)), (8, .v (.int .i64 ((o + 1 : Nat) : Int)))], [(0, .cells 28 [.vals 5 (xV x)]), (1, .cells 28 [.vals 5 z28]), (2, .cells 28 [.vals 3 [(.slice pE m cE), .slice none 0 0, (.slice pF m cF)], .one (.sl 6 1 0 1), .vals 1 [.slice none 0 0]]), (6, .row 24 1 1 [(.slice (some ⟨(M 7).1, 0, none⟩) (G.length + 1) (M 7).2)])], 7⟩ ⟨rfl, rfl, rfl, rfl, rfl, trivial⟩ ⟨rfl, rfl, rfl, rfl, trivial⟩) ⟨rfl, rfl, rfl, rfl, i64_eq (wrap_succ (by omega)), trivial⟩ ⟨rfl, rfl, rfl, rfl, trivial⟩ rfl
    · skip
      refine RunF_sound tab_ok noX_local 400 [true] _ _ rfl ?_ ?_
      · simp
        exact hol
      suffices I3 : ∀ (d k : Nat) (G : List Int), k + d = l.length → G = (l.take k).map (plI x.ev) → ∀ σ, inT σ.t [(1, .ptr 0 0), (2, .ptr 1 0), (4, .ptr 2 0), (5, .v (.slice pP x.ev.length cP)), (8, .v (.int .i64 (o : Int))), (9, lV G), (10, .v (.int .i64 (k : Int)))] → inT σ.h ((0, .cells 28 [.vals 5 (xV x)]) :: (1, .cells 28 [.vals 5 z28]) :: ((yVs (.slice pE m cE) (.slice pF m cF) (v0 :: vs)) ++ lR G)) →
          Run ((fnQ Tryd.prog 17 (Tryd.f17).ntmps w (FenQ x w)).rebase w1 S1) _ σ by
        exact I3 l.length 0 [] (by omega) rfl _ ⟨rfl, rfl, rfl, rfl, rfl, rfl, rfl, trivial⟩ ⟨rfl, rfl, rfl, rfl, trivial⟩
      clear ht hh
      intro d2
      induction d2 with
      | succ d2 ihk =>
        intro k G hk hG σ ht hh
        refine Run.to ?_ ht hh (n' := 8)
        have hkl : k < l.length := by omega
        have hGk : G.length = k := by rw [hG]; simp; omega
        obtain ⟨hq1, hq2⟩ := hqI k hkl
        have hqS : ¬ S1 ((q.getD default).add k).block := hold _ (hqI0 k hkl).2
        obtain ⟨hv0, hv1⟩ := hlb l[k] (List.getElem_mem hkl)
        have hG' : G ++ [plI x.ev l[k]] = (l.take (k + 1)).map (plI x.ev) := by rw [List.take_succ_eq_append_getElem hkl, List.map_append, hG]; rfl
        generalize l[k] = v at *
        obtain ⟨j, rfl⟩ : ∃ j : Nat, v = (j : Int) := ⟨v.toNat, by omega⟩
        have hj : j < x.ev.length := by omega
        obtain ⟨hp1, hp2⟩ := hpl j (by rw [plR_len]; exact hj)
        have hpv : (plR x.ev x.ev.length)[j]'(by rw [plR_len]; exact hj) = plI x.ev (j : Int) := by simp [plR, plI, hj]
        rw [hpv] at hp2
        have hPS : ¬ S1 ((pP.getD default).add j).block := by rw [add_block]; exact (hPo _ hp1).1
        generalize plI x.ev (j : Int) = u at *
        rcases G with _ | ⟨g, G⟩
        · refine RunF_sound tab_ok noX_local 400 [true] _ _ rfl ?_ ?_
          · simp [fillL, repL, splice, Value.cells, maxLen, hpc, hq2, hp2]
            (repeat' refine And.intro ?_ ?_) <;> first | exact hp | exact hol | exact hpS | exact hkl | exact hq1 | exact hqS | exact hp1 | exact hj | exact hPS | (simp only [List.length_cons] at hGk; omega) | omega | rfl
          refine Run.toR [(7, 9)] (n' := 8) (ihk (k + 1) [u] (by omega) (by rw [← hG']; rfl) ⟨[(1, .ptr 0 0), (2, .ptr 1 0), (4, .ptr 2 0), (5, .v (.slice pP x.ev.length cP)), (8, .v (.int .i64 (o : Int))), (9, .sl 7 1 0 1), (10, .v (.int .i64 ((k + 1 : Nat) : Int)))], [(0, .cells 28 [.vals 5 (xV x)]), (1, .cells 28 [.vals 5 z28]), (2, .cells 28 [.vals 3 [(.slice pE m cE), .slice none 0 0, (.slice pF m cF)], .one (.sl 6 1 0 (vs.length + 1)), .vals 1 [.slice none 0 0]]), (6, .row 24 1 (vs.length + 1) (v0 :: vs)), (7, .row 3 1 1 (encI [u]))], 8⟩ ⟨rfl, rfl, rfl, rfl, rfl, rfl, rfl, trivial⟩ ⟨rfl, rfl, rfl, rfl, rfl, trivial⟩) ⟨rfl, rfl, rfl, rfl, rfl, rfl, i64_eq (wrap_succ (by omega)), trivial⟩ ⟨rfl, rfl, rfl, rfl, ?_, trivial⟩ rfl
          refine congrArg (fun l => some (Blk.row 3 1 1 l)) ?_
          simp [fillL, splice, Value.cells, repL, encI, hpc, hq2, hp2]
        · refine RunF_sound tab_ok noX_local 400 [true] _ _ rfl ?_ ?_
          · simp [fillL, repL, splice, Value.cells, maxLen, hpc, hq2, hp2]
            (repeat' refine And.intro ?_ ?_) <;> first | exact hp | exact hol | exact hpS | exact hkl | exact hq1 | exact hqS | exact hp1 | exact hj | exact hPS | (simp only [List.length_cons] at hGk; omega) | omega | rfl
          refine Run.toR [(7, 9)] (n' := 8) (ihk (k + 1) (g :: G ++ [u]) (by omega) hG' ⟨[(1, .ptr 0 0), (2, .ptr 1 0), (4, .ptr 2 0), (5, .v (.slice pP x.ev.length cP)), (8, .v (.int .i64 (o : Int))), (9, .sl 7 1 0 (G.length + 2)), (10, .v (.int .i64 ((k + 1 : Nat) : Int)))], [(0, .cells 28 [.vals 5 (xV x)]), (1, .cells 28 [.vals 5 z28]), (2, .cells 28 [.vals 3 [(.slice pE m cE), .slice none 0 0, (.slice pF m cF)], .one (.sl 6 1 0 (vs.length + 1)), .vals 1 [.slice none 0 0]]), (6, .row 24 1 (vs.length + 1) (v0 :: vs)), (7, .row 3 1 (G.length + 2) (encI (g :: G ++ [u])))], 8⟩ ⟨rfl, rfl, rfl, rfl, rfl, ?_, rfl, trivial⟩ ⟨rfl, rfl, rfl, rfl, ?_, trivial⟩) ⟨rfl, rfl, rfl, rfl, rfl, rfl, i64_eq (wrap_succ (by omega)), trivial⟩ ⟨rfl, rfl, rfl, rfl, ?_, trivial⟩ rfl
          · rw [lV_app]; rfl
          · rw [show (G.append [u]).length + 1 = G.length + 2 by simp]; rfl
          · refine congrArg (fun l => some (Blk.row 3 1 (G.length + 2) l)) ?_
            rw [← encI_app (g :: G) (G.length + 1) rfl u]
            simp [fillL, splice, Value.cells, repL, hpc, hq2, hp2]
      | zero =>
        intro k G hk hG σ ht hh
        refine Run.to ?_ ht hh (n' := 8)
        obtain rfl : k = l.length := by omega
        rw [List.take_length] at hG
        have hGl : G.length = l.length := by rw [hG]; simp
        have hvl : ((v0 :: vs) : List Value).length = o := by
          have := (hK w1 (Agree.refl _ _)).len
          rw [this]; simp; omega
        have hls : (x.ord.take (o + 1)).map (fun l => l.map (plI x.ev)) = (x.ord.take o).map (fun l => l.map (plI x.ev)) ++ [G] := by rw [htk, List.map_append, hG]; rfl
        have hnx := fun (w2 : World) (S2 : Foot) (vv : Value) (hb : Base S1 w1 S2 w2) (hv : ∃ q c, vv = .slice q G.length c ∧ ∀ w', Agree (OS w S2) w2 w' → SeesI w' q G) => ih (o + 1) w2 S2 ((v0 :: vs) ++ [vv]) (by omega) (hB.base hb) (fun a h => ⟨hb.off (hPo a h).2 (hPo a h).1, Nat.lt_of_lt_of_le (hPo a h).2 hb.agree.size⟩) (fun w' hA => by
            rw [hls]
            obtain ⟨q, c, hv1, hv2⟩ := hv
            exact (hK w' (later_os hb hA)).snoc ⟨q, c, hv1, hv2 w' hA⟩)
        rcases G with _ | ⟨g, G⟩
        · refine RunF_sound tab_ok noX_local 400 [false] _ _ rfl ?_ ?_
          · simp [fillL, repL, splice, Value.cells, maxLen, hpc, okCell, ← hGl]
            (repeat' refine And.intro ?_ ?_) <;> first | exact hp | exact hol | exact hpS | (simp only [List.length_cons] at hvl; omega) | omega | rfl
          refine Run.toR [(6, 9)] (n' := 7) (hnx w1 S1 (.slice none 0 0) (Base.refl _ _) ⟨none, 0, rfl, fun w' _ => seesI_nil _ _⟩ ⟨[(1, .ptr 0 0), (2, .ptr 1 0), (4, .ptr 2 0), (5, .v (.slice pP x.ev.length cP)), (8, .v (.int .i64 ((o + 1 : Nat) : Int)))], [(0, .cells 28 [.vals 5 (xV x)]), (1, .cells 28 [.vals 5 z28]), (2, .cells 28 [.vals 3 [(.slice pE m cE), .slice none 0 0, (.slice pF m cF)], .one (.sl 6 1 0 (vs.length + 2)), .vals 1 [.slice none 0 0]]), (6, .row 24 1 (vs.length + 2) (v0 :: (vs ++ [(.slice none 0 0)])))], 7⟩ ⟨rfl, rfl, rfl, rfl, rfl, trivial⟩ ⟨rfl, rfl, ?_, ?_, trivial⟩) ⟨rfl, rfl, rfl, rfl, i64_eq (wrap_succ (by omega)), trivial⟩ ⟨rfl, rfl, rfl, ?_, trivial⟩ rfl
          · rw [show (vs.append [(.slice none 0 0)]).length + 1 = vs.length + 2 by simp]; rfl
          · rw [show (vs.append [(.slice none 0 0)]).length + 1 = vs.length + 2 by simp]; rfl
          · refine congrArg (fun l => some (Blk.row 24 1 (vs.length + 2) l)) ?_
            simp [fillL, splice, Value.cells, repL]
        · refine Run.freeze (fun M => [(1, .ptr 0 0), (2, .ptr 1 0), (4, .ptr 2 0), (5, .v (.slice pP x.ev.length cP)), (8, .v (.int .i64 ((o : Nat) : Int))), (9, .v (.slice (some ⟨(M 7).1, 0, none⟩) (G.length + 1) (M 7).2)), (10, .v (.int .i64 (l.length : Int)))]) [(0, .cells 28 [.vals 5 (xV x)]), (1, .cells 28 [.vals 5 z28]), (2, .cells 28 [.vals 3 [(.slice pE m cE), .slice none 0 0, (.slice pF m cF)], .one (.sl 6 1 0 (vs.length + 1)), .vals 1 [.slice none 0 0]]), (6, .row 24 1 (vs.length + 1) (v0 :: vs))] 8 (fun M => ⟨⟨_, rfl, rfl⟩, ⟨_, rfl, rfl⟩, ⟨_, rfl, rfl⟩, ⟨_, rfl, rfl⟩, ⟨_, rfl, rfl⟩, ⟨_, rfl, by simp [conc, lV]⟩, ⟨_, rfl, rfl⟩, trivial⟩) ⟨rfl, rfl, rfl, rfl, trivial⟩ ?_
          intro M w2 S2 hb hblk hoff hown
          have b7 := hblk 7 _ rfl
          have o7 := hoff 7 _ rfl rfl
          have n7 : w.heap.size ≤ (M 7).1 := by
            rcases Nat.lt_or_ge (M 7).1 w1.heap.size with h1 | h1
            · exact hB.new _ (hown 7 _ rfl h1)
            · exact Nat.le_trans hB.agree.size h1
          have hpc2 := hb.agree.cell hpc hpS
          have hpS2 : ¬ S2 ((x.po.getD default).add o).block := hb.off (World.block_lt_of_cell? w1 _ hpc) hpS
          refine RunF_sound tab_ok noX_local 400 [false] _ _ rfl ?_ ?_
          · simp [fillL, repL, splice, Value.cells, maxLen, hpc2, okCell, ← hGl]
            (repeat' refine And.intro ?_ ?_) <;> first | exact hp | exact hol | exact hpS2 | (simp only [List.length_cons] at hvl; omega) | omega | rfl
          refine Run.toR [(6, 9)] (n' := 7) (hnx w2 S2 (.slice (some ⟨(M 7).1, 0, none⟩) (G.length + 1) (M 7).2) hb ⟨_, _, rfl, fun w' hA => seesI_row (blk_os b7 o7 n7 hA)⟩ ⟨[(1, .ptr 0 0), (2, .ptr 1 0), (4, .ptr 2 0), (5, .v (.slice pP x.ev.length cP)), (8, .v (.int .i64 ((o + 1 : Nat) : Int)))], [(0, .cells 28 [.vals 5 (xV x)]), (1, .cells 28 [.vals 5 z28]), (2, .cells 28 [.vals 3 [(.slice pE m cE), .slice none 0 0, (.slice pF m cF)], .one (.sl 6 1 0 (vs.length + 2)), .vals 1 [.slice none 0 0]]), (6, .row 24 1 (vs.length + 2) (v0 :: (vs ++ [(.slice (some ⟨(M 7).1, 0, none⟩) (G.length + 1) (M 7).2)])))], 7⟩ ⟨rfl, rfl, rfl, rfl, rfl, trivial⟩ ⟨rfl, rfl, ?_, ?_, trivial⟩) ⟨rfl, rfl, rfl, rfl, i64_eq (wrap_succ (by omega)), trivial⟩ ⟨rfl, rfl, rfl, ?_, trivial⟩ rfl
          · rw [show (vs.append [(.slice (some ⟨(M 7).1, 0, none⟩) (G.length + 1) (M 7).2)]).length + 1 = vs.length + 2 by simp]; rfl
          · rw [show (vs.append [(.slice (some ⟨(M 7).1, 0, none⟩) (G.length + 1) (M 7).2)]).length + 1 = vs.length + 2 by simp]; rfl
          · refine congrArg (fun l => some (Blk.row 24 1 (vs.length + 2) l)) ?_
            simp [fillL, splice, Value.cells, repL]
  | zero =>
    intro o w1 S1 vs ho hB hPo hK σ ht hh
    refine Run.to ?_ ht hh (n' := 7)
    obtain rfl : o = x.ord.length := by omega
    rw [List.take_length] at hK
    refine RunF_sound tab_ok noX_local 400 [false] _ _ rfl ?_ ?_
    · simp
    suffices S4 : ∀ (w1 : World) (S1 : Foot) (pO : Option Addr) (cO : Nat), Based w w1 S1 → (∀ w', Agree (OS w S1) w1 w' → SeesV w' pE E ∧ SeesI w' pF F ∧ SeesII w' pO (x.ord.map fun l => l.map (plI x.ev))) → ∀ σ, inT σ.t [(1, .ptr 0 0), (2, .ptr 1 0), (4, .ptr 2 0)] → inT σ.h [(0, .cells 28 [.vals 5 (xV x)]), (1, .cells 28 [.vals 5 z28]), (2, .cells 28 [.vals 5 [(.slice pE m cE), .slice none 0 0, (.slice pF m cF), .slice pO x.ord.length cO, .slice none 0 0]])] →
        Run ((fnQ Tryd.prog 17 (Tryd.f17).ntmps w (FenQ x w)).rebase w1 S1) _ σ by
      rcases vs with _ | ⟨v0, vs⟩
      · have hl0 : x.ord.length = 0 := by have := (hK w1 (Agree.refl _ _)).len; simpa using this.symm
        have hx0 : x.ord = [] := List.length_eq_zero_iff.1 hl0
        refine S4 w1 S1 none 0 hB (fun w' hA => ⟨(hK w' hA).ev, (hK w' hA).fr, fun i hi => absurd hi (by rw [hx0]; exact Nat.not_lt_zero _)⟩) _ ⟨rfl, rfl, rfl, trivial⟩ ⟨rfl, rfl, ?_, trivial⟩
        rw [hl0]; rfl
      · have hvl : vs.length + 1 = x.ord.length := by have := (hK w1 (Agree.refl _ _)).len; simpa using this
        refine Run.to (t' := [(1, .ptr 0 0), (2, .ptr 1 0), (4, .ptr 2 0)]) (h' := [(0, .cells 28 [.vals 5 (xV x)]), (1, .cells 28 [.vals 5 z28]), (2, .cells 28 [.vals 3 [(.slice pE m cE), .slice none 0 0, (.slice pF m cF)], .one (.sl 6 1 0 (vs.length + 1)), .vals 1 [.slice none 0 0]]), (6, .row 24 1 (vs.length + 1) (v0 :: vs))]) (n' := 7) ?_ ⟨rfl, rfl, rfl, trivial⟩ ⟨rfl, rfl, rfl, rfl, trivial⟩
        refine Run.freezeB (fun M => [(1, .ptr 0 0), (2, .ptr 1 0), (4, .ptr 2 0)]) (fun M => [(0, .cells 28 [.vals 5 (xV x)]), (1, .cells 28 [.vals 5 z28]), (2, .cells 28 [.vals 5 [(.slice pE m cE), .slice none 0 0, (.slice pF m cF), .slice (some ⟨(M 6).1, 0, none⟩) x.ord.length (M 6).2, .slice none 0 0]])]) 3 (fun M => ⟨⟨_, rfl, rfl⟩, ⟨_, rfl, rfl⟩, ⟨_, rfl, rfl⟩, trivial⟩) (fun M id B' hB => (by
          rcases lk_cons' hB with ⟨rfl, rfl⟩ | hB
          · exact ⟨_, rfl, fun w h => h⟩
          rcases lk_cons' hB with ⟨rfl, rfl⟩ | hB
          · exact ⟨_, rfl, fun w h => h⟩
          rcases lk_cons' hB with ⟨rfl, rfl⟩ | hB
          · exact ⟨_, rfl, fun w h => (by simpa [BlkAt, concSegs, conc, segsOK, hvl] using h)⟩
          cases hB)) ?_
        intro M w2 S2 hb hblk hoff hown
        have b6 := hblk 6 _ rfl
        have o6 := hoff 6 _ rfl rfl
        have n6 : w.heap.size ≤ (M 6).1 := by
          rcases Nat.lt_or_ge (M 6).1 w1.heap.size with h1 | h1
          · exact hB.new _ (hown 6 _ rfl h1)
          · exact Nat.le_trans hB.agree.size h1
        exact S4 w2 S2 _ _ (hB.base hb) (fun w' hA => ⟨(hK w' (later_os hb hA)).ev, (hK w' (later_os hb hA)).fr, (hK w' (later_os hb hA)).ords (blk_os b6 o6 n6 hA)⟩) _ ⟨rfl, rfl, rfl, trivial⟩ ⟨rfl, rfl, rfl, trivial⟩
    clear ht hh hK hPo hB
    clear w1 S1
    intro w1 S1 pO cO hB hK σ ht hh
    refine Run.to ?_ ht hh (n' := 3)
    refine Run.drawA noX_local rfl [] [(2, .cells 28 [.vals 5 [(.slice pE m cE), .slice none 0 0, (.slice pF m cF), .slice pO x.ord.length cO, .slice none 0 0]])] rfl rfl ⟨rfl, trivial⟩ ?_
    refine RunOF_sound tab_ok noX_local rfl rfl 400 [] _ _ rfl ?_ ?_
    · simp
      exact ⟨⟨⟨rfl, rfl, rfl, rfl, rfl⟩, rfl⟩, rfl, trivial⟩
    refine RunO.done ?_
    refine RunF_sound tab_ok noX_local 400 [] _ _ rfl ?_ ?_
    · simp
    refine Run.retM (Ds := []) tab_ok noX_local Tryd.func17 rfl ?_ fun M fp a w' hr => ?_
    · exact ⟨rfl, trivial⟩
    refine ⟨hB.later hr.agree, ⟨E, F, x.ord.map fun l => l.map (plI x.ev), pE, cE, .slice none 0 0, pF, cF, pO, cO, .slice none 0 0⟩, ?_, hE, hF, rfl, fun w'' hA => ?_⟩
    · have hd : decide ((m : Int) ≤ 64) = decide (E.length ≤ 64) := by rw [hEl]; exact decide_eq_decide.2 (by omega)
      show Value.tuple #[.agg #[.slice pE m cE, .slice none 0 0, .slice pF m cF, .slice pO x.ord.length cO, .slice none 0 0], .bool (decide ((m : Int) ≤ 64))] = _
      rw [hd]
      simp [encX, xV, hEl, hFl]
    · have hA2 : Agree (OS w S1) w1 w'' := (Agree.to hr.agree (fun _ h => .inl h)).trans hA fun b h _ => .inr h
      obtain ⟨h1, h2, h3⟩ := hK w'' hA2
      refine ⟨h1, h2, h3, rfl, rfl, ?_, ?_, ?_, ?_⟩
      · show F.length ≤ cF; omega
      · show F.length ≤ maxLen; rw [hml, hFl, ← hEl, hE]; have := fE_le x.ev; omega
      · show (x.ord.map _).length ≤ maxLen; rw [hml, List.length_map]; omega
      · intro c hc
        obtain ⟨l, hl, rfl⟩ := List.mem_map.1 hc
        rw [List.length_map]
        exact hX.lo2 l hl
theorem fencedX_enters : Enters Tryd.prog 17 := enters_mk Tryd.func17 (by decide) rfl
end Go.Proofs.YtmammebifhmnhaaDoor

/-
  AxiomWeaker answers true. Own work.
-/
namespace Go.Proofs.YtmammebifhmnhaaDoor
open Go.AM
set_option maxRecDepth 100000

set_option maxHeartbeats 1000000 in
theorem axiomWeaker_ok (x : Xn) (w : World) (hX : SeesX w x) (hs1 : x.ord.length ≤ 5864062014805) (hs2 : ∀ l ∈ x.ord, l.length ≤ 17592186044415) (hT : TabAt w) (h0w : 0 < w.heap.size) : Gives Tryd.prog 5 [encX x] w (.bool true) := by
  have hTA : ∀ w', Agree (fun _ => False) w w' → TabAt w' := fun w' hA => hT.agree hA (fun f => f)
  have hSA : ∀ w', Agree (fun _ => False) w w' → 0 < w'.heap.size := fun w' hA => Nat.lt_of_lt_of_le h0w hA.size
  have hone := xV_one hX.one1 hX.one4
  refine Gives.of_run Tryd.func5 rfl (by show 1 ≤ 105; decide) ?_
  refine RunF_sound tab_ok noX_local 100 [] _ _ rfl ?_ ?_
  · simp
  refine Run.callFn (r := .bool true) noX_local rfl rfl rfl rfl rfl rfl rfl awake_enters rfl (fun w' hA => awake_ok w' (hTA w' hA) (hSA w' hA)) ?_
  refine RunF_sound tab_ok noX_local 100 [false] _ _ rfl ?_ ?_
  · simp
  refine Run.callR noX_local rfl rfl rfl rfl rfl rfl wholeX_enters rfl (fun M w' _ hA => wholeX_ok x w' (hX.agree hA)) ?_
  rintro v w2 w1 S1 hag hag2 ⟨b, rfl, hb⟩ hS1
  have hB1 := (Based.refl w).call hag hag2 hS1
  refine ⟨.v (.bool b), fun M => rfl, ?_⟩
  cases b with
  | false =>
    refine RunF_sound tab_ok noX_local 100 [true] _ _ rfl ?_ ?_
    · simp
    exact Run.retB (Ds := []) tab_ok noX_local hB1 Tryd.func5 rfl trivial (fun M => rfl)
  | true =>
  have hP := hb rfl
  clear hb hS1 hag hag2
  refine RunF_sound tab_ok noX_local 100 [false] _ _ rfl ?_ ?_
  · simp
  have hgo : ∀ (k : Int) w', Agree S1 w1 w' → Gives Tryd.prog 16 [.int .i64 k, encX x] w' (.tuple #[.bool (hldB x k), .int .i64 (gE k)]) := fun k w' hA => holds_ok x k w' (hX.agree (hB1.later hA)) (hTA w' (hB1.later hA)) (hSA w' (hB1.later hA))
  refine Run.callFn (r := .tuple #[.bool (hldB x 1), .int .i64 0]) noX_local rfl rfl rfl rfl rfl rfl rfl holds_enters rfl (fun w' hA => hgo 1 w' hA) ?_
  refine RunF_sound tab_ok noX_local 100 [] _ _ rfl ?_ ?_
  · simp
  refine Run.callFn (r := .tuple #[.bool (hldB x 2), .int .i64 0]) noX_local rfl rfl rfl rfl rfl rfl rfl holds_enters rfl (fun w' hA => hgo 2 w' hA) ?_
  refine RunF_sound tab_ok noX_local 100 [] _ _ rfl ?_ ?_
  · simp
  refine Run.callFn (r := .tuple #[.bool (hldB x 3), .int .i64 0]) noX_local rfl rfl rfl rfl rfl rfl rfl holds_enters rfl (fun w' hA => hgo 3 w' hA) ?_
  clear hgo
  have h12 := hld_12 x
  have h23 := hld_23 x
  have hfen : ∀ y, Fen x y → hldB y 1 = hldB x 1 ∧ hldB y 2 = hldB x 1 ∧ hldB y 3 = hldB x 1 := fun y h => hld_fen h
  generalize hldB x 1 = b1 at *
  generalize hldB x 2 = b2 at *
  generalize hldB x 3 = b3 at *
  suffices H : ∀ σ, inT σ.t [(1, .ptr 0 0), (3, .v (.bool b1)), (59, .v (encX x))] → inT σ.h [(0, .cells 28 [.vals 5 (xV x)])] → Run ((fnP Tryd.prog 5 (Tryd.f5).ntmps w (.bool true)).rebase w1 S1) _ σ by
    cases b1 <;> cases b2 <;> cases b3 <;> first
      | exact absurd (h12 rfl) (by decide)
      | exact absurd (h23 rfl) (by decide)
      | (refine RunF_sound tab_ok noX_local 400 [false, false, false, false, false] _ _ rfl ?_ ?_
         · simp
         · exact H _ ⟨rfl, rfl, rfl, trivial⟩ ⟨rfl, trivial⟩)
      | (refine RunF_sound tab_ok noX_local 400 [false, false, false, false, true, false] _ _ rfl ?_ ?_
         · simp
         · exact H _ ⟨rfl, rfl, rfl, trivial⟩ ⟨rfl, trivial⟩)
      | (refine RunF_sound tab_ok noX_local 400 [false, false, false, true, false, true, false] _ _ rfl ?_ ?_
         · simp
         · exact H _ ⟨rfl, rfl, rfl, trivial⟩ ⟨rfl, trivial⟩)
      | (refine RunF_sound tab_ok noX_local 400 [false, false, false, false] _ _ rfl ?_ ?_
         · simp
         · exact H _ ⟨rfl, rfl, rfl, trivial⟩ ⟨rfl, trivial⟩)
      | (refine RunF_sound tab_ok noX_local 400 [false, false, false, false, false, false] _ _ rfl ?_ ?_
         · simp
         · exact H _ ⟨rfl, rfl, rfl, trivial⟩ ⟨rfl, trivial⟩)
  clear h12 h23
  intro σ ht hh
  refine Run.to ?_ ht hh (n' := 1)
  have hF : ∀ w', Agree S1 w1 w' → Makes Tryd.prog 17 [encX x] w' (FenQ x w') := fun w' hA => fencedX_ok x w' (hX.agree (hB1.later hA)) hP hs1 hs2
  refine Run.callR (Q := fun v w w' => FenQ x w v w') noX_local rfl rfl rfl rfl rfl rfl fencedX_enters rfl (fun M w' _ hA => hF w' hA) ?_
  rintro v w4 w3 S3 hag hag2 ⟨y, rfl, e1, e2, e3, hy⟩ hS3
  have hB3 := hB1.call hag hag2 hS3
  have hY : ∀ w', Agree S3 w3 w' → SeesX w' y := fun w' hA => hy w' (Agree.to hA fun b hs => Nat.lt_of_not_le fun hl => hS3.new b hl hs)
  refine ⟨.v (.tuple #[encX y, .bool (decide (y.ev.length ≤ 64))]), fun M => rfl, ?_⟩
  have honeY := xV_one (hY w3 (Agree.refl _ _)).one1 (hY w3 (Agree.refl _ _)).one4
  clear hS3 hag hag2 hy
  by_cases h64 : y.ev.length ≤ 64
  rotate_left
  · rw [decide_eq_false h64]
    refine RunF_sound tab_ok noX_local 100 [true] _ _ rfl ?_ ?_
    · simp [fillL, splice, Value.cells, z28]
      exact ⟨honeY.2 trivial, rfl⟩
    exact Run.retB (Ds := []) tab_ok noX_local hB3 Tryd.func5 rfl trivial (fun M => rfl)
  rw [decide_eq_true h64]
  obtain ⟨g1, g2, g3⟩ := hfen y ⟨hP, e1, e2, e3, h64⟩
  refine RunF_sound tab_ok noX_local 100 [false] _ _ rfl ?_ ?_
  · simp [fillL, splice, Value.cells, z28]
    exact ⟨honeY.2 trivial, rfl⟩
  have hgo : ∀ (k : Int) w', Agree S3 w3 w' → Gives Tryd.prog 16 [.int .i64 k, encX y] w' (.tuple #[.bool (hldB y k), .int .i64 (gE k)]) := fun k w' hA => holds_ok y k w' (hY w' hA) (hTA w' (hB3.later hA)) (hSA w' (hB3.later hA))
  refine Run.callFn (r := .tuple #[.bool b1, .int .i64 0]) noX_local rfl rfl rfl rfl rfl rfl rfl holds_enters rfl (fun w' hA => by have := hgo 1 w' hA; rwa [g1] at this) ?_
  refine RunF_sound tab_ok noX_local 100 [] _ _ rfl ?_ ?_
  · simp
  refine Run.callFn (r := .tuple #[.bool b1, .int .i64 0]) noX_local rfl rfl rfl rfl rfl rfl rfl holds_enters rfl (fun w' hA => by have := hgo 2 w' hA; rwa [g2] at this) ?_
  refine RunF_sound tab_ok noX_local 100 [] _ _ rfl ?_ ?_
  · simp
  refine Run.callFn (r := .tuple #[.bool b1, .int .i64 0]) noX_local rfl rfl rfl rfl rfl rfl rfl holds_enters rfl (fun w' hA => by have := hgo 3 w' hA; rwa [g3] at this) ?_
  refine RunF_sound tab_ok noX_local 400 [true, true, true, true, true] _ _ rfl ?_ ?_
  · simp
  exact Run.retB (Ds := []) tab_ok noX_local hB3 Tryd.func5 rfl trivial (fun M => by cases b1 <;> rfl)
end Go.Proofs.YtmammebifhmnhaaDoor

/-
  An execution as an argument, opened; what its orders weigh. Own work.
-/
namespace Go.Proofs.YtmammebifhmnhaaDoor
open Go.ChangeShapes Go.WideShapes Go.ChangeAt Go.RowKit Go.AM
set_option maxRecDepth 100000

section
variable {H : Type} {enc : TypeId × Value → H} {w W : World} {base b0 : Nat} {sp : Nat → Bool} {held : Bool} {v : Value} {d : DataW H} {ps : List MemPlace}

theorem open_ints3 {fuel : Nat} {cs : List Value} {x : DataW H × List MemPlace} (hf : DataW.trod enc Tryd.prog w base sp held fuel 24 cs = some x) :
    ∃ (p : Option Addr) (c : Nat) (xs : List Int), cs = [.slice p xs.length c] ∧ SeesI w p xs ∧ xs.length ≤ c ∧ xs.length ≤ maxLen ∧ ((∃ es rest, x.1 = .slice es rest ∧ es.length = xs.length) ∨ xs = []) := by
  have hs := tab_undP tab_ok (t := 24) (d := .slice 3) rfl
  have hi := tab_undP tab_ok (t := 3) (d := .int .i64) rfl
  have c2 : Tryd.prog.cellsOf 3 = 1 := by kernel_rfl
  rcases DataW.trod_slice hs hf with ⟨hcs, _⟩ | ⟨a, len, cap, elems, rest, n, _, hcs, hx, _, hlc, hcm, hle, hel, _, _⟩
  · exact ⟨none, 0, [], hcs, fun i h => by simp at h, Nat.le_refl _, Nat.zero_le _, .inr rfl⟩
  · have key : ∀ i, i < len → ∃ z : Int, w.cell? (a.add i) = some (.int .i64 z) := by
      intro i hi'
      have he := hel i hi'
      rw [c2, List.getElem?_eq_getElem (by omega)] at he
      simp only [Option.bind_eq_some_iff] at he
      obtain ⟨ds, hds, ht⟩ := he
      unfold World.cells? at hds
      split at hds
      · obtain ⟨m1, m2⟩ := mapM_some hds
        obtain ⟨u0, g0, g0'⟩ := m2 0 0 rfl
        obtain ⟨A, hA, _, _⟩ := DataW.trod_int hi ht
        rw [hA] at g0
        simp at g0
        subst g0
        rw [add_add, Nat.mul_one, Nat.add_zero] at g0'
        exact ⟨A, g0'⟩
      · cases hds
    obtain ⟨g, hg⟩ : ∃ g : Nat → Int, ∀ i, i < len → w.cell? (a.add i) = some (.int .i64 (g i)) :=
      ⟨fun i => if h : i < len then (key i h).choose else 0, fun i h => by simp only [dif_pos h]; exact (key i h).choose_spec⟩
    refine ⟨some a, cap, (List.range len).map g, by simp [hcs], ?_, by simp; omega, by simp; omega, .inl ⟨elems.map (·.1), rest.map (·.1), by rw [hx], by simp [hle]⟩⟩
    intro i hi'
    have hlt : i < len := by simpa using hi'
    have eg : ((List.range len).map g)[i] = g i := by simp
    rw [eg]
    exact ⟨rfl, hg i hlt⟩

theorem open_intss3 {fuel : Nat} {cs : List Value} {x : DataW H × List MemPlace} (hf : DataW.trod enc Tryd.prog w base sp held fuel 25 cs = some x) :
    ∃ (p : Option Addr) (c : Nat) (xss : List (List Int)), cs = [.slice p xss.length c] ∧ SeesII w p xss ∧ xss.length ≤ maxLen ∧ (∀ C ∈ xss, C.length ≤ maxLen) ∧ ((∃ es rest, x.1 = .slice es rest ∧ es.length = xss.length ∧ ∀ C ∈ xss, (∃ fs rs, (DataW.slice fs rs : DataW H) ∈ es ∧ fs.length = C.length) ∨ C = []) ∨ xss = []) := by
  have hs := tab_undP tab_ok (t := 25) (d := .slice 24) rfl
  have c2 : Tryd.prog.cellsOf 24 = 1 := by kernel_rfl
  rcases DataW.trod_slice hs hf with ⟨hcs, _⟩ | ⟨a, len, cap, elems, rest, n, _, hcs, hx, _, hlc, hcm, hle, hel, _, _⟩
  · exact ⟨none, 0, [], hcs, fun i h => by simp at h, Nat.zero_le _, (fun C h => by cases h), .inr rfl⟩
  · have key : ∀ i, i < len → ∃ C : List Int, C.length ≤ maxLen ∧ ((∃ fs rs, (DataW.slice fs rs : DataW H) ∈ elems.map (·.1) ∧ fs.length = C.length) ∨ C = []) ∧ ∃ q c, w.cell? (a.add i) = some (.slice q C.length c) ∧ SeesI w q C := by
      intro i hi'
      have he := hel i hi'
      rw [c2, List.getElem?_eq_getElem (by omega)] at he
      simp only [Option.bind_eq_some_iff] at he
      obtain ⟨ds, hds, ht⟩ := he
      unfold World.cells? at hds
      split at hds
      · obtain ⟨m1, m2⟩ := mapM_some hds
        obtain ⟨u0, g0, g0'⟩ := m2 0 0 rfl
        obtain ⟨q, c, C, hC, hSI, _, hlm, hdt⟩ := open_ints3 ht
        rw [hC] at g0
        simp at g0
        subst g0
        rw [add_add, Nat.mul_one, Nat.add_zero] at g0'
        refine ⟨C, hlm, ?_, q, c, g0', hSI⟩
        rcases hdt with ⟨fs, rs, k1, k2⟩ | k
        · exact .inl ⟨fs, rs, k1 ▸ List.mem_map.2 ⟨_, List.getElem_mem _, rfl⟩, k2⟩
        · exact .inr k
      · cases hds
    obtain ⟨g, hg⟩ : ∃ g : Nat → List Int, ∀ i, i < len → (g i).length ≤ maxLen ∧ ((∃ fs rs, (DataW.slice fs rs : DataW H) ∈ elems.map (·.1) ∧ fs.length = (g i).length) ∨ g i = []) ∧ ∃ q c, w.cell? (a.add i) = some (.slice q (g i).length c) ∧ SeesI w q (g i) :=
      ⟨fun i => if h : i < len then (key i h).choose else [], fun i h => by simp only [dif_pos h]; exact (key i h).choose_spec⟩
    refine ⟨some a, cap, (List.range len).map g, by simp [hcs], ?_, by simp; omega, ?_, .inl ⟨elems.map (·.1), rest.map (·.1), by rw [hx], by simp [hle], ?_⟩⟩
    · intro i hi'
      have hlt : i < len := by simpa using hi'
      have eg : ((List.range len).map g)[i] = g i := by simp
      rw [eg]
      exact ⟨rfl, (hg i hlt).2.2⟩
    · intro C hC
      obtain ⟨i, hi, rfl⟩ := List.mem_map.1 hC
      exact (hg i (List.mem_range.1 hi)).1
    · intro C hC
      obtain ⟨i, hi, rfl⟩ := List.mem_map.1 hC
      exact (hg i (List.mem_range.1 hi)).2.1

theorem open_exec3 (hval : Value.okWide Tryd.prog W .any b0 28 v) (hd : DataW.Trod enc Tryd.prog w base sp held 28 v d ps) : ∃ x : Xn, v = encX x ∧ SeesX w x ∧ x.ev.length ≤ maxLen ∧ (x.pe = none → x.ev = [] ∧ x.ce = 0) ∧ ∃ d0 d1 d2 d3 d4, d = .agg [d0, d1, d2, d3, d4] ∧ ((∃ es rest, d3 = .slice es rest ∧ es.length = x.ord.length ∧ ∀ C ∈ x.ord, (∃ fs rs, (DataW.slice fs rs : DataW H) ∈ es ∧ fs.length = C.length) ∨ C = []) ∨ x.ord = []) := by
  have hu := tab_undP tab_ok (t := 28) (d := .struct #[{ name := "Events", type := 22, offset := 0, embedded := false, tag := "", pkgPath := "", byteOffset := 0 }, { name := "Values", type := 23, offset := 1, embedded := false, tag := "", pkgPath := "", byteOffset := 24 }, { name := "From", type := 24, offset := 2, embedded := false, tag := "", pkgPath := "", byteOffset := 48 }, { name := "Order", type := 25, offset := 3, embedded := false, tag := "", pkgPath := "", byteOffset := 72 }, { name := "Regs", type := 26, offset := 4, embedded := false, tag := "", pkgPath := "", byteOffset := 96 }]) rfl
  have c0 : Tryd.prog.cellsOf 28 = 5 := by kernel_rfl
  have c1 : Tryd.prog.cellsOf 22 = 1 := by kernel_rfl
  have c2 : Tryd.prog.cellsOf 23 = 1 := by kernel_rfl
  have c3 : Tryd.prog.cellsOf 24 = 1 := by kernel_rfl
  have c4 : Tryd.prog.cellsOf 25 = 1 := by kernel_rfl
  have c5 : Tryd.prog.cellsOf 26 = 1 := by kernel_rfl
  obtain ⟨cs, rfl, hsz⟩ := okWide_struct hu hval
  obtain ⟨fuel, hf⟩ := hd
  obtain ⟨xs, n, _, _, hl, hlen, _⟩ := DataW.trod_struct hu hf
  obtain ⟨y0, y1, y2, y3, y4, n, hd5, h0, h1, h2, h3, h4⟩ := trod_struct5b hu hf
  simp only [Value.cells, c0, c1, c2, c3, c4, c5, List.drop_zero] at hl h0 h1 h2 h3 h4
  obtain ⟨pe, ce, ev, e0, s0, m0, q0, r0⟩ := open_evs2 h0
  obtain ⟨u1, e1, o1⟩ := open_one (tab_undP tab_ok (t := 23) (d := .slice 2) rfl) h1
  obtain ⟨pf, cf, fr, e2, s2, l2, m2⟩ := open_ints h2
  obtain ⟨po, co, ord, e3, s3, m3, k3, r3⟩ := open_intss3 h3
  obtain ⟨u4, e4, o4⟩ := open_one (tab_undP tab_ok (t := 26) (d := .slice 23) rfl) h4
  refine ⟨⟨ev, fr, ord, pe, ce, u1, pf, cf, po, co, u4⟩, ?_, ⟨s0, s2, s3, o1, o4, l2, m2, m3, k3⟩, m0, q0, y0.1, y1.1, y2.1, y3.1, y4.1, hd5, r3⟩
  unfold encX xV
  congr 1
  apply Array.ext'
  show cs.toList = _
  have hl5 : cs.toList.length = 5 := hl
  generalize cs.toList = L at *
  match L, hl5 with
  | [a0, a1, a2, a3, a4], _ =>
    simp at e0 e1 e2 e3 e4
    rw [e0, e1, e2, e3, e4]

theorem weightsAll_mem {P : Program} {e : TypeId} {n : Nat} {d : DataW H} : ∀ (l : List (DataW H)), d ∈ l → n ∈ DataW.weights P e d → n ∈ DataW.weightsAll P e l
  | [], h, _ => by cases h
  | c :: l, h, hn => by
    rw [DataW.weightsAll, List.mem_append]
    rcases List.mem_cons.1 h with rfl | h
    · exact .inl hn
    · exact .inr (weightsAll_mem l h hn)
end
end Go.Proofs.YtmammebifhmnhaaDoor

/-
  Own work, merged: Q14, AM32, Q15, Q16.
-/
import Derived.AtR
import Derived.Below
import Derived.ChangeKeysEq
import Derived.KernelRfl
import Derived.Laws.AppendOwn
import Derived.Laws.BytesString
import Derived.Laws.Cells
import Derived.Laws.CopyRow
import Derived.Laws.Entries
import Derived.Laws.Rows
import Derived.Laws.Small
import Derived.Laws.StructEq
import Derived.Lib.TrailingZeros
import Derived.Maps.AppendAt
import Derived.Orders
import Derived.RangeFuncRecord
import Derived.Test.YtmammebifhmnhaaGreatDoorProg
import Derived.Test.YtmammebifhmnhaaGreatDoorQD93A78
/-
  The model's axioms and the reference's: the same relations. Own work; no program in sight.
-/
namespace Go.Proofs.YtmammebifhmnhaaGreatDoor
open Go.AM
set_option maxRecDepth 100000

theorem those_get (T : Ev → Bool) (xs : List Ev) {j : Nat} (hj : j < 64) : (thoseL T xs).getLsbD j = (decide (j < (shortL xs).length) && (match (shortL xs)[j]? with | some e => T e | none => false)) := by
  unfold thoseL thoseP; rw [bitsB_get]; simp [hj]; rfl
theorem wr_mem (xs : List Ev) {j : Nat} (hj : j < 64) (h : (thoseL (fun e => decide (e.kind = 3)) xs).getLsbD j = true) : (thoseL memB xs).getLsbD j = true := by
  rw [those_get _ _ hj] at h ⊢
  simp only [Bool.and_eq_true] at h ⊢
  refine ⟨h.1, ?_⟩
  have h2 := h.2
  cases e : (shortL xs)[j]? with
  | none => rw [e] at h2; cases h2
  | some v =>
    rw [e] at h2
    simp only [decide_eq_true_eq] at h2
    simp [memB, h2]

theorem uniF_wd {n : Nat} (hn : n ≤ 64) : ∀ (L : List Rl) {A : Rl}, Wd n A → (∀ R ∈ L, Wd n R) → Wd n (uniF A L) ∧ ∀ a b, a < n → b < n → (uniF A L).has a b = (A.has a b || L.any fun R => R.has a b)
  | [], A, hA, _ => ⟨hA, fun a b _ _ => by simp [uniF]⟩
  | R :: L, A, hA, hL => by
    obtain ⟨h1, h2⟩ := uni_wd hn hA (hL R (by simp))
    obtain ⟨h3, h4⟩ := uniF_wd hn L h1 (fun S hS => hL S (List.mem_cons_of_mem _ hS))
    refine ⟨h3, fun a b ha hb => ?_⟩
    show (uniF (uniL A R) L).has a b = _
    rw [h4 a b ha hb, h2 a b ha hb, List.any_cons, Bool.or_assoc]
theorem void_has (n : Int) (a b : Nat) : (Rl.void n).has a b = false := by rw [← has_row, Rl.row_void]; simp

/-- A world over n events. -/
structure WoOK (n : Nat) (W : Wo) : Prop where
  le : n ≤ 64
  p : Wd n W.p
  r : Wd n W.r
  c : Wd n W.c
  f : Wd n W.f
  ev : (shortL W.ev).length = n
theorem woX_ok (x : Xn) : WoOK (shortL x.ev).length (woX x) := ⟨shortL_le _, stands_wd _ _, kRf_wd x, kCo_wd x, kFr_wd x, rfl⟩

theorem all_get {a : Nat} (ha : a < 64) : allB.getLsbD a = true := by
  rw [show allB = BitVec.allOnes 64 from rfl, BitVec.getLsbD_allOnes]; simp [ha]

theorem fen_wd {n : Nat} {W : Wo} (h : WoOK n W) : Wd n (fenL W) ∧ ∀ a b, a < n → b < n → (fenL W).has a b = (List.range n).any fun k => (ofW W 4).getLsbD k && (W.p.has a k && W.p.has k b) := by
  have hn := h.le
  obtain ⟨h1, h2⟩ := res_wd hn h.p allB (ofW W 4)
  obtain ⟨h3, h4⟩ := res_wd hn h.p (ofW W 4) allB
  obtain ⟨h5, h6⟩ := com_wd hn h1 h3
  refine ⟨h5, fun a b ha hb => ?_⟩
  unfold fenL
  rw [h6 a b ha hb, Bool.eq_iff_iff, List.any_eq_true, List.any_eq_true]
  constructor
  · rintro ⟨c, _, hc⟩
    have hc := Bool.and_eq_true_iff.1 hc
    have hcn := (h1.below _ _ hc.1).2
    rw [h2 a c ha hcn, h4 c b hcn hb] at hc
    simp only [Bool.and_eq_true] at hc
    exact ⟨c, List.mem_range.2 hcn, by simp [hc.1.1, hc.1.2.2, hc.2.1]⟩
  · rintro ⟨c, hcm, hc⟩
    have hcn := List.mem_range.1 hcm
    simp only [Bool.and_eq_true] at hc
    refine ⟨c, List.mem_range.2 (by omega), ?_⟩
    rw [h2 a c ha hcn, h4 c b hcn hb, hc.1, hc.2.1, hc.2.2, all_get (by omega), all_get (by omega)]; rfl

theorem lock_wd {n : Nat} {W : Wo} (h : WoOK n W) : Wd n (lockL W) ∧ ∀ a b, a < n → b < n → (lockL W).has a b = ((W.p.has a b && ((lockS W).getLsbD a && W.m.getLsbD b)) || (W.p.has a b && (W.m.getLsbD a && (lockS W).getLsbD b))) := by
  have hn := h.le
  obtain ⟨h1, h2⟩ := res_wd hn h.p (lockS W) W.m
  obtain ⟨h3, h4⟩ := res_wd hn h.p W.m (lockS W)
  have hv : Wd n (Rl.void W.p.n) := by rw [h.p.sz]; exact void_wd n
  obtain ⟨h5, h6⟩ := uniF_wd hn [resL W.p (lockS W) W.m, resL W.p W.m (lockS W)] hv (by
    intro R hR
    simp only [List.mem_cons, List.not_mem_nil, or_false] at hR
    rcases hR with rfl | rfl
    · exact h1
    · exact h3)
  refine ⟨h5, fun a b ha hb => ?_⟩
  unfold lockL
  rw [h6 a b ha hb, void_has]
  simp [h2 a b ha hb, h4 a b ha hb]

theorem tso_wd {n : Nat} {W : Wo} (h : WoOK n W) : Wd n (tsoK W) ∧ ∀ a b, a < n → b < n → (tsoK W).has a b = ((W.p.has a b && (W.m.getLsbD a && W.m.getLsbD b)) && !((W.p.has a b && (W.m.getLsbD a && W.m.getLsbD b)) && ((ofW W 1 ||| ofW W 2).getLsbD a && (ofW W 3).getLsbD b))) := by
  have hn := h.le
  obtain ⟨h1, h2⟩ := res_wd hn h.p W.m W.m
  obtain ⟨h3, h4⟩ := res_wd hn h1 (ofW W 1 ||| ofW W 2) (ofW W 3)
  obtain ⟨h5, h6⟩ := min_wd hn h1 h3
  exact ⟨h5, fun a b ha hb => by unfold tsoK; rw [h6 a b ha hb, h4 a b ha hb, h2 a b ha hb]⟩
theorem pso_wd {n : Nat} {W : Wo} (h : WoOK n W) : Wd n (psoK W) ∧ ∀ a b, a < n → b < n → (psoK W).has a b = (W.p.has a b && ((ofW W 3).getLsbD a && W.m.getLsbD b)) := res_wd h.le h.p _ _

theorem weak_wd {n : Nat} {W : Wo} (h : WoOK n W) {K : Rl} (hK : Wd n K) : Wd n (uniF (Rl.void W.p.n) ((weakL W K).map (·.2))) ∧ ∀ a b, a < n → b < n → (uniF (Rl.void W.p.n) ((weakL W K).map (·.2))).has a b =
    (K.has a b || ((List.range n).any (fun k => (ofW W 4).getLsbD k && (W.p.has a k && W.p.has k b)) || (((W.p.has a b && ((lockS W).getLsbD a && W.m.getLsbD b)) || (W.p.has a b && (W.m.getLsbD a && (lockS W).getLsbD b))) || ((W.r.has a b && (standsL 4 W.ev).has a b) || (W.c.has a b || W.f.has a b))))) := by
  have hn := h.le
  have hs : Wd n (standsL 4 W.ev) := by have := stands_wd 4 W.ev; rwa [h.ev] at this
  obtain ⟨h1, h2⟩ := fen_wd h
  obtain ⟨h3, h4⟩ := lock_wd h
  obtain ⟨h5, h6⟩ := meet_wd hn h.r hs
  have hv : Wd n (Rl.void W.p.n) := by rw [h.p.sz]; exact void_wd n
  obtain ⟨h7, h8⟩ := uniF_wd hn ((weakL W K).map (·.2)) hv (by
    intro R hR
    simp only [weakL, List.map_cons, List.map_nil, List.mem_cons, List.not_mem_nil, or_false] at hR
    rcases hR with rfl | rfl | rfl | rfl | rfl | rfl
    · exact hK
    · exact h1
    · exact h3
    · exact h5
    · exact h.c
    · exact h.f)
  refine ⟨h7, fun a b ha hb => ?_⟩
  rw [h8 a b ha hb, void_has]
  simp only [weakL, List.map_cons, List.map_nil, List.any_cons, List.any_nil, Bool.or_false, Bool.false_or, h2 a b ha hb, h4 a b ha hb, h6 a b ha hb]
theorem up_wd {n : Nat} {W : Wo} (h : WoOK n W) {K : Rl} (hK : Wd n K) : Wd n (uniF (Rl.void W.p.n) ((upL W K).map (·.2))) ∧ ∀ a b, a < n → b < n → (uniF (Rl.void W.p.n) ((upL W K).map (·.2))).has a b =
    (K.has a b || (W.r.has a b || (W.c.has a b || W.f.has a b))) := by
  have hn := h.le
  have hv : Wd n (Rl.void W.p.n) := by rw [h.p.sz]; exact void_wd n
  obtain ⟨h7, h8⟩ := uniF_wd hn ((upL W K).map (·.2)) hv (by
    intro R hR
    simp only [upL, List.map_cons, List.map_nil, List.mem_cons, List.not_mem_nil, or_false] at hR
    rcases hR with rfl | rfl | rfl | rfl
    · exact hK
    · exact h.r
    · exact h.c
    · exact h.f)
  refine ⟨h7, fun a b ha hb => ?_⟩
  rw [h8 a b ha hb, void_has]
  simp only [upL, List.map_cons, List.map_nil, List.any_cons, List.any_nil, Bool.or_false, Bool.false_or]

theorem gen_cut (n : Nat) (q : Nat → Nat → Bool) (hn : n ≤ 64) : Wd n (Rl.gen (n : Int) (cutB n q)) ∧ ∀ a b, a < n → b < n → (Rl.gen (n : Int) (cutB n q)).has a b = q a b := by
  refine ⟨⟨Rl.n_gen _ _, fun a b h => ?_⟩, fun a b ha hb => ?_⟩
  · rw [Rl.has_gen] at h
    exact cutB_lt (Bool.and_eq_true_iff.1 h).2
  · rw [Rl.has_gen, cutB_at ha hb]
    simp [show a < 64 by omega, show b < 64 by omega]

/-! ### The four laws -/
theorem law_up (x : Xn) : unpR (woX x) = unpP ((shortL x.ev).length : Int) (rsX x) (shortL x.ev).length := by
  have h := woX_ok x
  have hQ := rsX_ok x
  have hs2 : Wd (shortL x.ev).length (standsL 2 x.ev) := stands_wd 2 x.ev
  obtain ⟨m1, m2⟩ := meet_wd h.le h.p hs2
  obtain ⟨h1, h2⟩ := up_wd h m1
  have hrow := fun a => unpP_row ((shortL x.ev).length : Int) (rsX x) a (shortL x.ev).length h.le
  have hw : ∀ a b, (unpW (rsX x) a).getLsbD b = (((((rsX x).po.has a b && (rsX x).lo.has a b) || (rsX x).rf.has a b) || (rsX x).co.has a b) || (rsX x).fr.has a b) := fun a b => by
    unfold unpW
    rw [BitVec.getLsbD_or, BitVec.getLsbD_or, BitVec.getLsbD_or, BitVec.getLsbD_and]; rfl
  have hR : Wd (shortL x.ev).length (unpP ((shortL x.ev).length : Int) (rsX x) (shortL x.ev).length) := ⟨unpP_n _ _ _, fun a b hab => by
    rw [← has_row, hrow] at hab
    split at hab
    · rename_i ha
      refine ⟨ha, ?_⟩
      rw [hw] at hab
      simp only [Bool.or_eq_true, Bool.and_eq_true] at hab
      rcases hab with ((hab | hab) | hab) | hab
      · exact (hQ.po.below _ _ hab.1).2
      · exact (hQ.rf.below _ _ hab).2
      · exact (hQ.co.below _ _ hab).2
      · exact (hQ.fr.below _ _ hab).2
    · simp at hab⟩
  refine Wd.ext h1 hR fun a b ha hb => ?_
  rw [← has_row (unpP _ _ _), hrow, if_pos ha, hw]
  refine (h2 a b ha hb).trans ?_
  rw [m2 a b ha hb]
  show ((standsL 1 x.ev).has a b && (standsL 2 x.ev).has a b || ((kRf x).has a b || ((kCo x).has a b || (kFr x).has a b))) = ((((standsL 1 x.ev).has a b && (standsL 2 x.ev).has a b || (kRf x).has a b) || (kCo x).has a b) || (kFr x).has a b)
  simp only [Bool.or_assoc]

theorem law_1 (x : Xn) : uniF (Rl.void (woX x).p.n) ((upL (woX x) (woX x).p).map (·.2)) = Rl.gen ((shortL x.ev).length : Int) (cutB (shortL x.ev).length (con1 (rsX x))) := by
  have h := woX_ok x
  obtain ⟨h1, h2⟩ := up_wd h h.p
  obtain ⟨h3, h4⟩ := gen_cut (shortL x.ev).length (con1 (rsX x)) h.le
  refine Wd.ext h1 h3 fun a b ha hb => ?_
  rw [h2 a b ha hb, h4 a b ha hb]
  unfold con1 freeB
  show ((standsL 1 x.ev).has a b || ((kRf x).has a b || ((kCo x).has a b || (kFr x).has a b))) = ((((kCo x).has a b || (kFr x).has a b) || (standsL 1 x.ev).has a b) || (kRf x).has a b)
  generalize (standsL 1 x.ev).has a b = p
  generalize (kRf x).has a b = r
  generalize (kCo x).has a b = c
  generalize (kFr x).has a b = f
  cases p <;> cases r <;> cases c <;> cases f <;> rfl

theorem lockS_get (x : Xn) (a : Nat) : (lockS (woX x)).getLsbD a = ((thoseL (fun e => e.locked) x.ev).getLsbD a && (thoseL memB x.ev).getLsbD a) := by
  unfold lockS; rw [BitVec.getLsbD_and]; rfl

theorem law_2 (x : Xn) : uniF (Rl.void (woX x).p.n) ((weakL (woX x) (tsoK (woX x))).map (·.2)) = Rl.gen ((shortL x.ev).length : Int) (cutB (shortL x.ev).length (con2 (shortL x.ev).length (rsX x))) := by
  have h := woX_ok x
  obtain ⟨k1, k2⟩ := tso_wd h
  obtain ⟨h1, h2⟩ := weak_wd h k1
  obtain ⟨h3, h4⟩ := gen_cut (shortL x.ev).length (con2 (shortL x.ev).length (rsX x)) h.le
  refine Wd.ext h1 h3 fun a b ha hb => ?_
  rw [h2 a b ha hb, h4 a b ha hb, k2 a b ha hb, lockS_get, lockS_get]
  unfold con2 conW freeB memPB fenB
  show _ = ((((((kCo x).has a b || (kFr x).has a b) || ((kRf x).has a b && (standsL 4 x.ev).has a b)) || _) || ((((standsL 1 x.ev).has a b && (thoseL memB x.ev).getLsbD a) && (thoseL memB x.ev).getLsbD b) && ((thoseL (fun e => e.locked) x.ev).getLsbD a || (thoseL (fun e => e.locked) x.ev).getLsbD b))) ||
    ((((standsL 1 x.ev).has a b && (thoseL memB x.ev).getLsbD a) && (thoseL memB x.ev).getLsbD b) && !((thoseL (fun e => decide (e.kind = 1)) x.ev ||| thoseL (fun e => decide (e.kind = 2)) x.ev).getLsbD a && (thoseL (fun e => decide (e.kind = 3)) x.ev).getLsbD b)))
  have e1 : (woX x).p.has a b = (standsL 1 x.ev).has a b := rfl
  have e2 : (woX x).r.has a b = (kRf x).has a b := rfl
  have e3 : (woX x).c.has a b = (kCo x).has a b := rfl
  have e4 : (woX x).f.has a b = (kFr x).has a b := rfl
  have e5 : ∀ j, (woX x).m.getLsbD j = (thoseL memB x.ev).getLsbD j := fun _ => rfl
  have e6 : (ofW (woX x) 1 ||| ofW (woX x) 2).getLsbD a = (thoseL (fun e => decide (e.kind = 1)) x.ev ||| thoseL (fun e => decide (e.kind = 2)) x.ev).getLsbD a := rfl
  have e7 : (ofW (woX x) 3).getLsbD b = (thoseL (fun e => decide (e.kind = 3)) x.ev).getLsbD b := rfl
  have e8 : (standsL 4 (woX x).ev).has a b = (standsL 4 x.ev).has a b := rfl
  have e9 : ((List.range (shortL x.ev).length).any fun k => (ofW (woX x) 4).getLsbD k && ((woX x).p.has a k && (woX x).p.has k b)) = ((List.range (shortL x.ev).length).any fun k => (rsX x).fe.getLsbD k && ((rsX x).po.has a k && (rsX x).po.has k b)) := rfl
  rw [e9]
  simp only [e1, e2, e3, e4, e5, e6, e7, e8]
  generalize ((List.range (shortL x.ev).length).any fun k => (rsX x).fe.getLsbD k && ((rsX x).po.has a k && (rsX x).po.has k b)) = f1
  generalize (standsL 1 x.ev).has a b = p
  generalize (standsL 4 x.ev).has a b = it
  generalize (kRf x).has a b = r
  generalize (kCo x).has a b = c
  generalize (kFr x).has a b = f
  generalize (thoseL memB x.ev).getLsbD a = ma
  generalize (thoseL memB x.ev).getLsbD b = mb
  generalize (thoseL (fun e => e.locked) x.ev).getLsbD a = la
  generalize (thoseL (fun e => e.locked) x.ev).getLsbD b = lb
  generalize (thoseL (fun e => decide (e.kind = 1)) x.ev ||| thoseL (fun e => decide (e.kind = 2)) x.ev).getLsbD a = ra
  generalize (thoseL (fun e => decide (e.kind = 3)) x.ev).getLsbD b = wb
  cases f1 <;> cases p <;> cases ma <;> cases mb <;> cases c <;> cases f <;> cases r <;> simp <;> cases la <;> cases lb <;> simp <;> cases it <;> cases ra <;> cases wb <;> rfl

theorem law_3 (x : Xn) : uniF (Rl.void (woX x).p.n) ((weakL (woX x) (psoK (woX x))).map (·.2)) = Rl.gen ((shortL x.ev).length : Int) (cutB (shortL x.ev).length (con3 (shortL x.ev).length (rsX x))) := by
  have h := woX_ok x
  obtain ⟨k1, k2⟩ := pso_wd h
  obtain ⟨h1, h2⟩ := weak_wd h k1
  obtain ⟨h3, h4⟩ := gen_cut (shortL x.ev).length (con3 (shortL x.ev).length (rsX x)) h.le
  refine Wd.ext h1 h3 fun a b ha hb => ?_
  rw [h2 a b ha hb, h4 a b ha hb, k2 a b ha hb, lockS_get, lockS_get]
  have hwm := @wr_mem x.ev a (by have := h.le; omega)
  unfold con3 conW freeB memPB fenB
  show _ = ((((((kCo x).has a b || (kFr x).has a b) || ((kRf x).has a b && (standsL 4 x.ev).has a b)) || _) || ((((standsL 1 x.ev).has a b && (thoseL memB x.ev).getLsbD a) && (thoseL memB x.ev).getLsbD b) && ((thoseL (fun e => e.locked) x.ev).getLsbD a || (thoseL (fun e => e.locked) x.ev).getLsbD b))) ||
    ((((standsL 1 x.ev).has a b && (thoseL memB x.ev).getLsbD a) && (thoseL memB x.ev).getLsbD b) && (thoseL (fun e => decide (e.kind = 3)) x.ev).getLsbD a))
  have e1 : (woX x).p.has a b = (standsL 1 x.ev).has a b := rfl
  have e2 : (woX x).r.has a b = (kRf x).has a b := rfl
  have e3 : (woX x).c.has a b = (kCo x).has a b := rfl
  have e4 : (woX x).f.has a b = (kFr x).has a b := rfl
  have e5 : ∀ j, (woX x).m.getLsbD j = (thoseL memB x.ev).getLsbD j := fun _ => rfl
  have e7 : (ofW (woX x) 3).getLsbD a = (thoseL (fun e => decide (e.kind = 3)) x.ev).getLsbD a := rfl
  have e8 : (standsL 4 (woX x).ev).has a b = (standsL 4 x.ev).has a b := rfl
  have e9 : ((List.range (shortL x.ev).length).any fun k => (ofW (woX x) 4).getLsbD k && ((woX x).p.has a k && (woX x).p.has k b)) = ((List.range (shortL x.ev).length).any fun k => (rsX x).fe.getLsbD k && ((rsX x).po.has a k && (rsX x).po.has k b)) := rfl
  rw [e9]
  simp only [e1, e2, e3, e4, e5, e7, e8]
  generalize ((List.range (shortL x.ev).length).any fun k => (rsX x).fe.getLsbD k && ((rsX x).po.has a k && (rsX x).po.has k b)) = f1
  generalize (standsL 1 x.ev).has a b = p
  generalize (standsL 4 x.ev).has a b = it
  generalize (kRf x).has a b = r
  generalize (kCo x).has a b = c
  generalize (kFr x).has a b = f
  generalize (thoseL memB x.ev).getLsbD a = ma at *
  generalize (thoseL memB x.ev).getLsbD b = mb
  generalize (thoseL (fun e => e.locked) x.ev).getLsbD a = la
  generalize (thoseL (fun e => e.locked) x.ev).getLsbD b = lb
  generalize (thoseL (fun e => decide (e.kind = 3)) x.ev).getLsbD a = wa at *
  cases wa
  · cases f1 <;> cases p <;> cases ma <;> cases mb <;> cases c <;> cases f <;> cases r <;> simp <;> cases la <;> cases lb <;> simp
  · obtain rfl := hwm rfl
    cases f1 <;> cases p <;> cases mb <;> cases c <;> cases f <;> cases r <;> simp <;> cases la <;> cases lb <;> simp
end Go.Proofs.YtmammebifhmnhaaGreatDoor

/-
  The abstract machine, thirty-second part: a struct that holds owned things, loaded whole. Own work; over any program.
-/
namespace Go.AM

theorem loadAgg_run {C : Ctx} {M : Loc} {σ : St} {a : Act} {w : World} {T : Tab} {t id e : Nat} {ti : TI} {segs : List Seg} {l : List AV}
    (hT : tabOK C.P T) (hR : RelQ C M σ a w) (hi : lk T t = some ti) (h1 : oneCellTy ti.d = false) (hb : lk σ.h id = some (.cells e segs)) (hl : ∀ M, concSegs M segs = concL M l) (hsz : ti.size = l.length) :
    (Instr.loadAt t (conc M (.ptr id 0))).run C.P w = .ok (conc M (.agg l)) w := by
  have hB := hR.heap _ _ hb
  have h3 := run_loadVar_agg hT hi h1 (w := w) (b := (M id).1) (o := 0) (vs := concSegs M segs) (j := 0) (by rw [hl, concL_length]; omega) (fun q x hq => by rw [Nat.zero_add, cells_of_blk hB]; exact hq)
  rw [hl, List.drop_zero, List.take_of_length_le (by rw [concL_length]; omega)] at h3
  simpa [Instr.loadAt, Instr.sureAddr, conc] using h3

theorem Run.loadAgg {C : Ctx} {ops : Array Oper} {i : Nat} {rest : List Nat} {k : List Item} {σ : St} {o : Oper} {T : Tab} {t id e : Nat} {ti : TI} {segs : List Seg} {x : Operand} (l : List AV)
    (hT : tabOK C.P T) (ho : ops[i]? = some o) (hop : o.op = .load t x) (hx : σ.ev x = some (.ptr id 0)) (hi : lk T t = some ti) (h1 : oneCellTy ti.d = false) (hb : lk σ.h id = some (.cells e segs)) (hl : ∀ M, concSegs M segs = concL M l) (hsz : ti.size = l.length)
    (hw : wantOf ops σ o = some .yes) (hd : dstOK C.n o.dst = true) (h : Run C (.inRegion ops rest :: k) (σ.put o.dst (.agg l))) : Run C (.inRegion ops (i :: rest) :: k) σ := by
  intro M fp a w hR cs
  obtain ⟨m, s, z'⟩ := h M fp _ w (hR.put (z := .agg l) (dstOK_lt hd)) cs
  refine ⟨m, .head (step_value ho (wantOf_yes hR.q hw) (fun c e => by rw [hop] at e; cases e) ?_) s, z'⟩
  have h2 := hR.q.ev hx
  have h3 := loadAgg_run hT hR.q hi h1 hb hl hsz
  simp [execOp, hop, h2, h3]

theorem RunO.loadAgg {C : Ctx} {held : List (Nat × Blk)} {n0 : Nat} {ops : Array Oper} {i : Nat} {ord : List (Nat × Bool)} {k : List Item} {σ : St} {o : Oper} {T : Tab} {t id e : Nat} {ti : TI} {segs : List Seg} {x : Operand} (l : List AV)
    (hT : tabOK C.P T) (hsel : noSel ops = true) (hbel : hBelow n0 held = true) (ho : ops[i]? = some o) (hop : o.op = .load t x) (hx : σ.ev x = some (.ptr id 0)) (hi : lk T t = some ti) (h1 : oneCellTy ti.d = false) (hb : lk held id = some (.cells e segs)) (hl : ∀ M, concSegs M segs = concL M l) (hsz : ti.size = l.length)
    (hw : wantOf ops σ o = some .yes) (hd : dstOK C.n o.dst = true) (h : RunO C held n0 ops ord k (σ.put o.dst (.agg l))) : RunO C held n0 ops ((i, true) :: ord) k σ := by
  refine RunO.first hsel ho hd (fun M0 M fp a w hM hR => .inl ⟨wantOf_yes hR.q hw, (fun c e => by rw [hop] at e; cases e), fun w' hS' => ?_⟩) h
  have h2 := hR.q.ev hx
  have h3 := loadAgg_run (σ := ⟨σ.t, held, σ.nx⟩) hT (RelQ.held hR hbel hM hS') hi h1 hb hl hsz
  simp [execOp, hop, h2, h3]
end Go.AM

/-
  What Global says, there and here, by the model's number. Own work.
-/
namespace Go.Proofs.YtmammebifhmnhaaGreatDoor
open Go.AM
set_option maxRecDepth 100000

noncomputable def gR (x : Xn) (k : Int) : Rl :=
  if k = 1 then Rl.gen ((shortL x.ev).length : Int) (cutB (shortL x.ev).length (con1 (rsX x)))
  else if k = 2 then Rl.gen ((shortL x.ev).length : Int) (cutB (shortL x.ev).length (con2 (shortL x.ev).length (rsX x)))
  else if k = 3 then Rl.gen ((shortL x.ev).length : Int) (cutB (shortL x.ev).length (con3 (shortL x.ev).length (rsX x)))
  else Rl.void 0
def gE (k : Int) : Int := if k < 1 ∨ k > 3 then 4 else 0

theorem globalM_ok (x : Xn) (k : Int) (w : World) (hX : SeesX w x) (hT : TabAt w) (h0w : 0 < w.heap.size) : Gives Tryz.prog 22 [.int .i64 k, encX x] w (.tuple #[encRel (gR x k), .int .i64 (gE k)]) := by
  have hev : ∀ w', Agree (fun _ => False) w w' → SeesV w' (woX x).pe (woX x).ev := fun w' hA => hX.ev.agree hA (fun _ _ h => h)
  have hTA : ∀ w', Agree (fun _ => False) w w' → TabAt w' := fun w' hA => hT.agree hA (fun f => f)
  have h0A : ∀ w', Agree (fun _ => False) w w' → 0 < w'.heap.size := fun w' hA => Nat.lt_of_lt_of_le h0w hA.size
  by_cases h : k < 1 ∨ k > 3
  · have e1 : gR x k = Rl.void 0 := by unfold gR; rw [if_neg (by omega), if_neg (by omega), if_neg (by omega)]
    rw [e1, gE, if_pos h]
    exact global_out k h x w hX
  · rw [gE, if_neg h]
    have hk : k = 1 ∨ k = 2 ∨ k = 3 := by omega
    rcases hk with rfl | rfl | rfl
    · rw [show gR x 1 = _ from if_pos rfl, ← law_1]
      exact global_of 1 _ (.inl ⟨rfl, rfl⟩) x w hX hT h0w 4 (by decide) _ rfl glob1_enters (fun w' hA b hW => glob1_ok _ b w' hW (hev w' hA))
    · rw [show gR x 2 = _ from (if_neg (by decide)).trans (if_pos rfl), ← law_2]
      exact global_of 2 _ (.inr (.inl ⟨rfl, rfl⟩)) x w hX hT h0w 6 (by decide) _ rfl glob2_enters (fun w' hA b hW => glob2_ok _ b w' hW (hev w' hA) (hTA w' hA) (h0A w' hA))
    · rw [show gR x 3 = _ from (if_neg (by decide)).trans ((if_neg (by decide)).trans (if_pos rfl)), ← law_3]
      exact global_of 3 _ (.inr (.inr ⟨rfl, rfl⟩)) x w hX hT h0w 6 (by decide) _ rfl glob3_enters (fun w' hA b hW => glob3_ok _ b w' hW (hev w' hA) (hTA w' hA) (h0A w' hA))
theorem global_enters : Enters Tryz.prog 22 := enters_mk Tryz.func22 (by decide) rfl

theorem globalR_ok (x : Xn) (k : Int) (w : World) (hX : SeesX w x) : Gives Tryz.prog 18 [.int .i64 k, encX x] w (.tuple #[encRel (gR x k), .int .i64 (gE k)]) := by
  by_cases h : k < 1 ∨ k > 3
  · have e1 : gR x k = Rl.void 0 := by unfold gR; rw [if_neg (by omega), if_neg (by omega), if_neg (by omega)]
    rw [e1, gE, if_pos h]
    exact globalR_out k h x w hX
  · rw [gE, if_neg h]
    have hk : k = 1 ∨ k = 2 ∨ k = 3 := by omega
    rcases hk with rfl | rfl | rfl
    · rw [show gR x 1 = _ from if_pos rfl]; exact globalR1 x w hX
    · rw [show gR x 2 = _ from (if_neg (by decide)).trans (if_pos rfl)]; exact globalR2 x w hX
    · rw [show gR x 3 = _ from (if_neg (by decide)).trans ((if_neg (by decide)).trans (if_pos rfl))]; exact globalR3 x w hX

/-- What is seen of an execution does not hang on where its events lie. -/
theorem gR_at (x : Xn) (p : Option Addr) (c : Nat) (k : Int) : gR { x with pe := p, ce := c } k = gR x k := rfl
theorem unpR_at (x : Xn) (p : Option Addr) (c : Nat) : unpR (woX { x with pe := p, ce := c }) = unpR (woX x) := rfl
end Go.Proofs.YtmammebifhmnhaaGreatDoor

/-
  Lists of events as rows. Own work.
-/
namespace Go.Proofs.YtmammebifhmnhaaGreatDoor
open Go.AM
set_option maxRecDepth 100000

def evsV : List Ev → List Value
  | [] => []
  | e :: l => evV e ++ evsV l
theorem evsV_length : ∀ l : List Ev, (evsV l).length = l.length * 5
  | [] => rfl
  | e :: l => by simp [evsV, evsV_length l]; omega
theorem evsV_get : ∀ (l : List Ev) (i : Nat) (h : i < l.length) (j : Nat), j < 5 → (evsV l)[i * 5 + j]? = (evV l[i])[j]?
  | [], i, h, _, _ => by simp at h
  | e :: l, 0, h, j, hj => by
    simp only [evsV, Nat.zero_mul, Nat.zero_add, List.getElem_cons_zero]
    rw [List.getElem?_append_left (by simpa using hj)]
  | e :: l, i + 1, h, j, hj => by
    have := evsV_get l i (by simpa using h) j hj
    simp only [evsV, List.getElem_cons_succ]
    rw [List.getElem?_append_right (by simp; omega), show (i + 1) * 5 + j - (evV e).length = i * 5 + j by simp; omega]
    exact this
theorem evsV_one (l : List Ev) : ∀ c ∈ evsV l, c.oneCell' = true := by
  induction l with
  | nil => intro c h; cases h
  | cons e l ih =>
    intro c h
    simp only [evsV, List.mem_append] at h
    rcases h with h | h
    · exact (evV_one e).2 trivial c h
    · exact ih c h

theorem seesE_row {M : AM.Loc} {w : World} {id e n : Nat} {vs : List Value} (hb : BlkAt M w id (.row e 5 n vs)) {xs : List Ev} (h : ∀ i (h : i < xs.length) j, j < 5 → vs[i * 5 + j]? = (evV xs[i])[j]?) :
    SeesV w (some ⟨(M id).1, 0, none⟩) xs := by
  intro i hi
  refine ⟨rfl, fun j x hx => ?_⟩
  have hj : j < 5 := by have := (List.getElem?_eq_some_iff.1 hx).1; simpa using this
  have c1 := row_cells hb _ _ ((h i hi j hj).trans hx)
  rw [Nat.zero_add] at c1
  simpa [Addr.add_lit] using c1

theorem ext_evs (w : World) (a : Addr) : ∀ (xs : List Ev) (k : Nat), (∀ i (h : i < xs.length) j x, (evV xs[i])[j]? = some x → w.cell? (a.add ((k + i) * 5 + j)) = some x) → extCells w a (k * 5) (xs.length * 5) = evsV xs
  | [], _, _ => rfl
  | e :: l, k, h => by
    have c := fun j x hx => h 0 (by simp) j x hx
    simp only [List.getElem_cons_zero, Nat.add_zero] at c
    have ih := ext_evs w a l (k + 1) (fun i hi j x hx => by
      have := h (i + 1) (by simpa using hi) j x (by simpa using hx)
      rwa [show k + 1 + i = k + (i + 1) by omega])
    rw [show (e :: l).length * 5 = l.length * 5 + 1 + 1 + 1 + 1 + 1 by simp; omega]
    have c0 := c 0 _ (evV_0 e); have c1 := c 1 _ (evV_1 e); have c2 := c 2 _ (evV_2 e); have c3 := c 3 _ (evV_3 e); have c4 := c 4 _ (evV_4 e)
    simp only [Nat.add_zero] at c0
    simp only [extCells, c0, c1, c2, c3, c4, show k * 5 + 1 + 1 = k * 5 + 2 from rfl, show k * 5 + 2 + 1 = k * 5 + 3 from rfl, show k * 5 + 3 + 1 = k * 5 + 4 from rfl, show k * 5 + 4 + 1 = (k + 1) * 5 by omega, ih]
    rfl

theorem SeesV.ext_all {w : World} {a : Addr} {xs : List Ev} (h : SeesV w (Option.some a) xs) : extCells w a 0 (xs.length * 5) = evsV xs := by
  have := ext_evs w a xs 0 (fun i hi j x hx => by rw [Nat.zero_add]; exact (h i hi).2 j x hx)
  simpa using this

theorem SeesV.some_all {w : World} {a : Addr} {xs : List Ev} (h : SeesV w (Option.some a) xs) : ∀ j, j < xs.length * 5 → (w.cell? (a.add j)).isSome := by
  intro j hj
  have h1 : j / 5 < xs.length := by omega
  have h2 := (h (j / 5) h1).2 (j % 5)
  have h3 : j % 5 < (evV xs[j / 5]).length := by simp; omega
  have := h2 _ (List.getElem?_eq_getElem h3)
  rw [show j / 5 * 5 + j % 5 = j by omega] at this
  rw [show (Option.some a).getD default = a from rfl] at this
  rw [this]; rfl
end Go.Proofs.YtmammebifhmnhaaGreatDoor

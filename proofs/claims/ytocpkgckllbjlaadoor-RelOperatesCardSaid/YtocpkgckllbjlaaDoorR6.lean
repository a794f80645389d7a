/-
  Relations compared; lists of pairs compared; num. Own work.
-/
import Derived.Test.YtocpkgckllbjlaaDoorR5
namespace Go.Proofs.YtocpkgckllbjlaaDoor
open Go.AM
set_option maxRecDepth 100000

theorem eqRow (r s : Rl) (w : World) : ∀ (is : List Nat), (∀ i ∈ is, i < 64) → ∃ b : Bool, (Op.eqItems 9998 22 1 (rowV r).toArray (rowV s).toArray is).run Tryd.prog w = .ok b w ∧ (b = true ↔ ∀ i ∈ is, r.row i = s.row i)
  | [], _ => ⟨true, by simp [Op.eqItems], by simp⟩
  | i :: is, h => by
    have hi : i < 64 := h i (by simp)
    have hu := tab_undP tab_ok (t := 22) (d := .int .u64) rfl
    have p : ∀ r : Rl, (part 22 (rowV r).toArray i).run Tryd.prog w = .ok (.int .u64 (un (r.row i))) w := fun r => by
      have := part_run tab_ok (P := Tryd.prog) (t := 22) (vs := (rowV r).toArray) (j := i) (p := _) (x := _) rfl (by rw [rowV_get r i hi, intAt_rowV r i hi]) w
      rw [this, intAt_rowV r i hi]
    have he : ∀ x y : Int, (Op.equalIn 9998 22 (.int .u64 x) (.int .u64 y)).run Tryd.prog w = .ok (x == y) w := fun x y => run_equalIn_int w 9997 _ _ _ _ _ hu
    obtain ⟨b, ih, hb⟩ := eqRow r s w is (fun j hj => h j (by simp [hj]))
    by_cases c : r.row i = s.row i
    · exact ⟨b, by simp [Op.eqItems, p, he, c, ih], by simp [hb, c]⟩
    · exact ⟨false, by simp [Op.eqItems, p, he, c], by simp [c]⟩

theorem eqRows (r s : Rl) (w : World) : ∃ b : Bool, (Op.equalIn 9999 23 (.agg (rowV r).toArray) (.agg (rowV s).toArray)).run Tryd.prog w = .ok b w ∧ (b = true ↔ ∀ i, i < 64 → r.row i = s.row i) := by
  have ha := tab_undP tab_ok (t := 23) (d := .array 64 22) rfl
  obtain ⟨i, hinfo⟩ : ∃ i, Tryd.prog.info? 22 = some i := by
    obtain ⟨_, x, hx, _⟩ := tab_ok 22 _ (rfl : lk tab 22 = some _)
    exact ⟨x, hx⟩
  have hc : Tryd.prog.cellsOf 22 = 1 := by kernel_rfl
  obtain ⟨b, hb, hb'⟩ := eqRow r s w (List.range 64) (fun i hi => List.mem_range.1 hi)
  refine ⟨b, ?_, hb'.trans ⟨fun h i hi => h i (List.mem_range.2 hi), fun h i hi => h i (List.mem_range.1 hi)⟩⟩
  rw [run_equalIn_array w 9998 _ _ ha hinfo, hc]
  exact hb

theorem relP0 (r : Rl) (w : World) : (part 3 (relV r).toArray 0).run Tryd.prog w = .ok (.int .i64 r.n) w :=
  part_run tab_ok (t := 3) (vs := (relV r).toArray) (j := 0) (p := _) (x := .int .i64 r.n) rfl (by simp) w
theorem relP1 (r : Rl) (w : World) : (part 23 (relV r).toArray 1).run Tryd.prog w = .ok (.agg (rowV r).toArray) w := by
  have := part_run tab_ok (P := Tryd.prog) (t := 23) (vs := (relV r).toArray) (j := 1) (p := _) (x := _) rfl (by simp) w
  simp only [relV_drop] at this
  exact this

theorem eqFields_cons {P : Program} {d : Nat} {xs ys : Array Value} {f : Field} {fs : List Field} {a b : Value} {r r' : Bool} {w : World} (hn : f.name ≠ "_") (ha : (part f.type xs f.offset).run P w = .ok a w) (hb : (part f.type ys f.offset).run P w = .ok b w)
    (hr : (Op.equalIn d f.type a b).run P w = .ok r w) (h : r = true → (Op.eqFields d xs ys fs).run P w = .ok r' w) : (Op.eqFields d xs ys (f :: fs)).run P w = .ok (r && r') w := by
  cases r
  · simp [Op.eqFields, hn, ha, hb, hr]
  · simp [Op.eqFields, hn, ha, hb, hr, h rfl]

theorem eqRel (r s : Rl) : EqT Tryd.prog 25 (relV r).toArray (relV s).toArray (decide (r = s)) := by
  refine ⟨by kernel_rfl, fun w => ?_⟩
  have hu := tab_undP tab_ok (t := 25) (d := .struct #[{ name := "N", type := 3, offset := 0, embedded := false, tag := "", pkgPath := "", byteOffset := 0 }, { name := "Rows", type := 23, offset := 1, embedded := false, tag := "", pkgPath := "", byteOffset := 8 }]) rfl
  have hf : Tryd.prog.fieldsOf 25 = #[{ name := "N", type := 3, offset := 0, embedded := false, tag := "", pkgPath := "", byteOffset := 0 }, { name := "Rows", type := 23, offset := 1, embedded := false, tag := "", pkgPath := "", byteOffset := 8 }] := by simp [Program.fieldsOf, hu]
  rw [run_equalIn_struct w 9999 _ _ _ (by rw [hf]; exact hu) (by kernel_rfl), hf]
  have hi := tab_undP tab_ok (t := 3) (d := .int .i64) rfl
  have he : (Op.equalIn 9999 3 (.int .i64 r.n) (.int .i64 s.n)).run Tryd.prog w = .ok (r.n == s.n) w := run_equalIn_int w 9998 _ _ _ _ _ hi
  obtain ⟨b, hr, hb⟩ := eqRows r s w
  have e : decide (r = s) = ((r.n == s.n) && (b && true)) := by
    rw [Bool.eq_iff_iff, decide_eq_true_eq, Rl.ext_iff', Bool.and_true, Bool.and_eq_true, beq_iff_eq, hb]
  rw [e]
  exact eqFields_cons (by decide) (relP0 r w) (relP0 s w) he fun _ => eqFields_cons (by decide) (relP1 r w) (relP1 s w) hr fun _ => by simp [Op.eqFields]

theorem num_ok (n : Int) (w : World) : Gives Tryd.prog 63 [.int .i64 n] w (.int .i64 n) := by
  refine Gives.of_run Tryd.func63 rfl (by show 1 ≤ 4; decide) ?_
  refine RunF_sound tab_ok noX_local 100 [] _ _ rfl ?_ ?_
  · simp
  · exact Run.retP tab_ok Tryd.func63 rfl trivial (fun M => rfl)
theorem num_enters : Enters Tryd.prog 63 := enters_mk Tryd.func63 (by decide) rfl

theorem sameEdges_ok (p q : Option Addr) (c c' : Nat) (xs ys : List (Int × Int)) (w : World) (hs : SeesE w p xs) (hs' : SeesE w q ys) (hl : xs.length ≤ maxLen) :
    Gives Tryd.prog 20 [.slice p xs.length c, .slice q ys.length c'] w (.bool (decide (xs = ys))) := by
  refine Gives.of_run Tryd.func20 rfl (by show 2 ≤ 26; decide) ?_
  by_cases h1 : xs.length = ys.length
  · refine RunF_sound tab_ok noX_local 100 [false] _ _ rfl ?_ ?_
    · simp; omega
    suffices H : ∀ (d k : Nat), k + d = xs.length → (xs = ys ↔ xs.drop k = ys.drop k) → ∀ σ, inT σ.t [(0, .v (.slice p xs.length c)), (1, .v (.slice q ys.length c')), (5, .v (.int .i64 (k : Int)))] → inT σ.h [] → Run _ _ σ by
      exact H xs.length 0 (by omega) (by simp) _ ⟨rfl, rfl, rfl, trivial⟩ trivial
    intro d
    induction d with
    | zero =>
      intro k hk hv σ ht hh
      refine Run.to ?_ ht hh (n' := 0)
      refine RunF_sound tab_ok noX_local 100 [false] _ _ rfl ?_ ?_
      · simp; omega
      · refine Run.retP tab_ok Tryd.func20 rfl trivial (fun M => ?_)
        rw [decide_eq_true (hv.2 (by rw [List.drop_eq_nil_of_le (by omega), List.drop_eq_nil_of_le (by omega)]))]; rfl
    | succ d ih =>
      intro k hk hv σ ht hh
      refine Run.to ?_ ht hh (n' := 0)
      have hk1 : k < xs.length := by omega
      have hk2 : k < ys.length := by omega
      have hkm : (k : Int) < 9223372036854775807 := by simp only [maxLen] at hl; omega
      obtain ⟨e1, e2, e3⟩ := hs k hk1
      obtain ⟨f1, f2, f3⟩ := hs' k hk2
      rw [List.drop_eq_getElem_cons hk1, List.drop_eq_getElem_cons hk2, List.cons.injEq] at hv
      refine RunF_sound tab_ok noX_local 100 [true] _ _ rfl ?_ ?_
      · simp; omega
      refine Run.drawA noX_local rfl [] [] rfl rfl trivial ?_
      refine RunOF_sound tab_ok noX_local rfl rfl 100 [] _ _ rfl ?_ ?_
      · simp only [fnC_w0, fnC_S0, Int.toNat_natCast]
        simp
        exact ⟨⟨e1, hk1⟩, e3, ⟨f1, hk2⟩, f3⟩
      refine RunO.cmp rfl rfl rfl rfl rfl rfl rfl (b := decide (xs[k] = ys[k])) (c := !(decide (xs[k] = ys[k]))) ?_ (.inr ⟨rfl, rfl⟩) ?_
      · have h := eqEdge xs[k].1 xs[k].2 ys[k].1 ys[k].2
        rw [← decide_eq_decide.2 (Prod.ext_iff (x := xs[k]) (y := ys[k]))] at h
        have g1 : (extCells w ((p.getD default).add (k * 2)) 0 2).toArray = #[.int .i64 xs[k].1, .int .i64 xs[k].2] := by rw [e2]
        have g2 : (extCells w ((q.getD default).add (k * 2)) 0 2).toArray = #[.int .i64 ys[k].1, .int .i64 ys[k].2] := by rw [f2]
        rw [← g1, ← g2] at h
        exact h
      refine RunO.done ?_
      by_cases c1 : xs[k] = ys[k]
      · refine RunF_sound tab_ok noX_local 100 [false] _ _ rfl ?_ ?_
        · simp [c1]
        · exact ih (k + 1) (by omega) (hv.trans ⟨fun h => h.2, fun h => ⟨c1, h⟩⟩) _ ⟨rfl, rfl, i64_eq (wrap_succ (by omega)), trivial⟩ trivial
      · refine RunF_sound tab_ok noX_local 100 [true] _ _ rfl ?_ ?_
        · simp [c1]
        · refine Run.retP tab_ok Tryd.func20 rfl trivial (fun M => ?_)
          rw [decide_eq_false (fun h => c1 (hv.1 h).1)]; rfl
  · refine RunF_sound tab_ok noX_local 100 [true] _ _ rfl ?_ ?_
    · simp; omega
    · refine Run.retP tab_ok Tryd.func20 rfl trivial (fun M => ?_)
      rw [decide_eq_false (fun h => h1 (by rw [h]))]; rfl
theorem sameEdges_enters : Enters Tryd.prog 20 := enters_mk Tryd.func20 (by decide) rfl
end Go.Proofs.YtocpkgckllbjlaaDoor

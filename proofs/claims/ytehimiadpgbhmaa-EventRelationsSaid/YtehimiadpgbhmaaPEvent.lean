/-
  EventRelations answers true at every list of events and kind. No condition.
-/
import Derived.Test.YtehimiadpgbhmaaRows
import Derived.Test.YtehimiadpgbhmaaE7
import Derived.SizedLaws
namespace Go.Proofs.Ytehimiadpgbhmaa
open Go.ChangeShapes Go.WideShapes Go.ChangeAt Go.RowKit Go.AM

theorem Try.own : ownKnob Try.prog.godebug = none := by kernel_rfl
theorem Try.laidOut : laidOutB Try.prog = true := by kernel_rfl

theorem rels_ok (xs : List Ev) (kd : Int) (p : Option Addr) (c : Nat) (w : World) (hs : SeesV w p xs) (hp : p = none → xs = [] ∧ c = 0) (hl : xs.length < maxLen) (hl2 : (xs.length + 1) * 40 ≤ 140737488355328) :
    Gives Try.prog 3 [.slice p xs.length c, .int .i64 kd] w (.bool true) :=
  rels_core xs kd p c w hs hp hl hl2 _ _ _ _ _ _ _ _
    (fun p c w h => of_ok p c xs kd w h) (fun p c w h => ofR_ok p c xs kd w h) (fun p c w h => memorySet_ok p c xs w h) (fun p c w h => memoryR_ok p c xs w h)
    (fun p c w h => lockedSet_ok p c xs w h) (fun p c w h => lockedR_ok p c xs w h)
    (fun p c w h => by rw [← eqPo]; exact po_ok p c xs w h) (fun p c w h => refRel_ok 1 p c xs w h)
    (fun p c w h => by rw [← eqLoc]; exact loc_ok p c xs w h) (fun p c w h => refRel_ok 2 p c xs w h)
    (fun p c w h => by rw [← eqInt]; exact int_ok p c xs w h) (fun p c w h => refRel_ok 3 p c xs w h)
    (fun p c w h => by rw [← eqExt]; exact ext_ok p c xs w h) (fun p c w h => refRel_ok 4 p c xs w h)
    (fun p c w h => by rw [← eqRmw]; exact rmw_ok p c xs w h) (fun p c w h => refRel_ok 5 p c xs w h)

set_option maxRecDepth 100000 in
theorem eventRelations_lifted (os : Os) (started : os.Started) (H : Type) (enc : TypeId × Value → H) :
    ReturnsInHanded {} Try.checked os 3 .any (Rows.eventRelationsSpec.pre6 enc Try.prog Try.f3 Rows.eventRelationsRow.domain false) (Rows.eventRelationsSpec.post enc Try.prog Try.f3 false true false false) := by
  refine returnsInHanded_of_change_sized (C := Try.checked) Try.own started (by kernel_rfl) Try.func3
    (ChangeSpec.witness6 (enc := enc) (C := Try.checked) false ⟨#[], #[.slice none 0 0, .int .i64 0], []⟩ 8 (by kernel_rfl) (by kernel_rfl) (by kernel_rfl) (by kernel_rfl)) ?_
  intro W base args ds gs before hval0 hW hcnd hsz _
  have hval : ∀ (j : Nat) t v, Try.f3.params[j]? = some t → args[j]? = some v → Value.okWide Try.prog W .any base t v := hval0
  have hW' := hW
  obtain ⟨p, q, hA0, hV, rfl, hfz, hnd⟩ := hW
  have hA : DataW.TrodAll enc Try.prog W 0 (fun _ => true) true Try.f3.params.toList args.toList ds p := hA0
  rw [Try.params3] at hA hval
  obtain ⟨v0, vs0, d0, ds0, p0, q0, e0, rfl, rfl, h0, hA⟩ := trodAll_cons hA
  obtain ⟨v1, vs1, d1, ds1, p1, q1, rfl, rfl, rfl, h1, hA⟩ := trodAll_cons hA
  obtain ⟨rfl, rfl, rfl⟩ := trodAll_nil hA
  obtain rfl : args = #[v0, v1] := by cases args; simp_all
  obtain ⟨rfl, rfl⟩ := trodVars_none hV
  obtain ⟨pp, c, xs, rfl, hs, hpn, hle, hd⟩ := open_events (hval 0 22 v0 rfl rfl) h0
  obtain ⟨n, rfl, rfl, rfl, wn⟩ := open_int Try.underlying3 (hval 1 3 v1 rfl rfl) h1
  clear hA0 hval0
  have hlen : xs.length * 40 ≤ 140737488351232 := by
    rcases hd with ⟨es, rest, rfl, hes⟩ | rfl
    · have hb : Try.prog.bytesOf 24 = 40 := by kernel_rfl
      have hsl := tab_undP tab_ok (t := 22) (d := .slice 24) rfl
      have hw := List.all_eq_true.1 hsz ((es.length + rest.length) * 40) (by
        show _ ∈ DataW.weightsEach Try.prog (Try.f3.params.toList ++ _) _
        rw [Try.params3]
        simp [DataW.weightsEach, DataW.weights, hsl, hb])
      have hw' : (es.length + rest.length) * 40 ≤ 140737488351232 := of_decide_eq_true hw
      rw [← hes]; omega
    · simp
  refine Calls.mono' (?_ : Gives Try.prog 3 [.slice pp xs.length c, .int .i64 n] W (.bool true)) fun e W' ⟨he, hw⟩ => ?_
  · exact rels_ok xs n pp c W hs hpn (by simp only [maxLen]; omega) (by omega)
  · subst he
    exact ⟨_, rfl, row_post Try.laidOut (by kernel_rfl) rfl Try.underlying4 rfl hW' hw.below rfl⟩

theorem eventRelations_holds : Rows.EventRelationsSaid :=
  OpenClaim.holds_of_wide 3 Try.f3 rfl rfl rfl rfl rfl rfl rfl ⟨rfl, rfl, rfl, rfl, rfl⟩ rfl rfl rfl rfl rfl (by kernel_rfl) Try.func3 (by kernel_rfl)
    (of_decide_eq_true (by kernel_rfl)) (by unfold Func.isWrapper; rw [if_neg (by decide +kernel)]; exact ⟨rfl, rfl⟩)
    (fun os started H enc _ => eventRelations_lifted os started H enc)

#print axioms eventRelations_holds
end Go.Proofs.Ytehimiadpgbhmaa

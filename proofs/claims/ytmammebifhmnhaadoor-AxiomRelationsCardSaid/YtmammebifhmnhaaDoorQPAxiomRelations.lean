/-
  AxiomRelations answers true at every execution and number: the relation that each model and uniproc demand is the document's, and the execution stays as it is. The card of the statement. No condition of our own.
-/
import Derived.ChangeMaps5
import Derived.Test.YtmammebifhmnhaaDoorQED3623
namespace Go.Proofs.YtmammebifhmnhaaDoor
open Go.ChangeShapes Go.WideShapes Go.ChangeAt Go.RowKit Go.AM

set_option maxRecDepth 100000 in
theorem axiomRelations_lifted (os : Os) (started : os.Started) (H : Type) (enc : TypeId × Value → H) :
    ReturnsInHanded {} Tryd.checked os 3 .any (fun w args => (Rows.axiomRelationsSpec.pre enc Tryd.prog Tryd.f3 [] false w args ∧ laidMetH Tryd.prog laidL w) ∧ sizedMet enc Tryd.prog Tryd.f3 (OpenSpec.ofChange Rows.axiomRelationsSpec) false w args)
      (Rows.axiomRelationsSpec.post enc Tryd.prog Tryd.f3 false true false false) := by
  refine returnsInHanded_of_change_and (C := Tryd.checked) (X := fun w _ => laidMetH Tryd.prog laidL w) (fun _ _ _ hh h => h.of_heap hh) Tryd.own started (by kernel_rfl) Tryd.func3
    (ChangeSpec.witness_shaped (enc := enc) (C := Tryd.checked) (os := os) (X := fun w _ => laidMetH Tryd.prog laidL w) false (World.doorLaid Tryd.prog 24 os) #[encX ⟨[], [], [], none, 0, .slice none 0 0, none, 0, none, 0, .slice none 0 0⟩, .int .i64 0] 8 rfl (World.shaped_of_RefB (by kernel_rfl) (by kernel_rfl)) (by kernel_rfl) (by kernel_rfl) (by kernel_rfl) (door_met os _)) ?_
  intro W base args ds gs before hval0 hW _ hsz hL _
  have hval : ∀ (j : Nat) t v, Tryd.f3.params[j]? = some t → args[j]? = some v → Value.okWide Tryd.prog W .any base t v := hval0
  have hW' := hW
  obtain ⟨p, q, hA0, hV, rfl, hfz, hnd⟩ := hW
  have hA : DataW.TrodAll enc Tryd.prog W 0 (fun _ => true) true Tryd.f3.params.toList args.toList ds p := hA0
  rw [Tryd.params3] at hA hval
  obtain ⟨v0, vs0, d0, ds0, p0, q0, e0, rfl, rfl, h0, hA⟩ := trodAll_cons hA
  obtain ⟨v1, vs1, d1, ds1, p1, q1, rfl, rfl, rfl, h1, hA⟩ := trodAll_cons hA
  obtain ⟨rfl, rfl, rfl⟩ := trodAll_nil hA
  obtain rfl : args = #[v0, v1] := by cases args; simp_all
  obtain ⟨rfl, rfl⟩ := trodVars_none hV
  obtain ⟨x, rfl, hX, hxl, hpn, dd0, dds, rfl, hdd⟩ := open_exec2 (hval 0 28 v0 rfl rfl) h0
  obtain ⟨k, rfl, rfl, rfl, wk⟩ := open_int Tryd.underlying3 (hval 1 3 v1 rfl rfl) h1
  clear hA0 hval0
  obtain ⟨hT, h0s⟩ := tab_of_laid hL
  have hlen : x.ev.length * 40 ≤ 140737488351232 := by
    rcases hdd with ⟨es, rest, rfl, hes⟩ | hnil
    · have hb : Tryd.prog.bytesOf 30 = 40 := by kernel_rfl
      have hsl := tab_undP tab_ok (t := 22) (d := .slice 30) rfl
      have hst := Tryd.underlying28
      have hw := List.all_eq_true.1 hsz ((es.length + rest.length) * 40) (by
        show _ ∈ DataW.weightsEach Tryd.prog (Tryd.f3.params.toList ++ _) _
        rw [Tryd.params3]
        simp [DataW.weightsEach, DataW.weights, hst, hsl, hb])
      have hw' : (es.length + rest.length) * 40 ≤ 140737488351232 := of_decide_eq_true hw
      rw [← hes]; omega
    · simp [hnil]
  refine Calls.mono' (axiomRelations_ok x k W hX hT h0s hpn (by simp only [maxLen]; omega) (by omega)) fun e W' ⟨he, hw⟩ => ?_
  subst he
  exact ⟨_, rfl, row_post Tryd.laidOut (by kernel_rfl) rfl Tryd.underlying4 rfl hW' hw.below rfl⟩

theorem axiomRelations_said : Rows.AxiomRelationsSaid :=
  OpenClaim.holds_of_wide 3 Tryd.f3 rfl rfl rfl rfl rfl rfl rfl ⟨rfl, rfl, rfl, rfl, rfl⟩ rfl rfl rfl rfl rfl (by kernel_rfl) Tryd.func3 (by kernel_rfl)
    (of_decide_eq_true (by kernel_rfl)) (by unfold Func.isWrapper; first | (rw [if_pos (by decide +kernel)]; kernel_rfl) | (rw [if_neg (by decide +kernel)]; exact ⟨rfl, rfl⟩))
    (fun os started H enc _ => axiomRelations_lifted os started H enc)

theorem axiomRelations_holds : Rows.AxiomRelationsCardSaid :=
  Claim7.holds_tied_plain_at .later [] [.data] true Rows.axiomRelationsCard.stood.harness false
    axiomRelations_said (fun _ h => by cases h) (by kernel_rfl) (fun _ h => by cases h) axiomRelations_row_tie rfl ⟨rfl, rfl⟩ (by kernel_rfl) rfl
    (fun f fn hf hfn => by
      obtain rfl : f = 3 := Option.some.inj ((show Tryd.prog.funcNamed "weir/weirlaw19.AxiomRelations" = some 3 by kernel_rfl).symm.trans hf) |>.symm
      obtain rfl : fn = Tryd.f3 := (Option.some.inj (Tryd.func3.symm.trans hfn)).symm
      exact ⟨by kernel_rfl, fun j t ht => by
        have hall : (Tryd.f3.params.toList.all fun u => !Tryd.prog.wantsStandIn u) = true := by kernel_rfl
        have hm := Array.mem_toList_iff.2 (Array.mem_of_getElem? ht)
        have h9 := List.all_eq_true.1 hall t hm
        exact (show Tryd.prog.wantsStandIn t = false by simpa using h9)⟩)
    (by kernel_rfl)

#print axioms axiomRelations_holds
end Go.Proofs.YtmammebifhmnhaaDoor

/-
  AxiomWeaker answers true at every execution: what obeys the strongest model obeys the weaker ones, and with a fence behind every event the three say the same. The card of the statement. No condition of our own.
-/
import Derived.ChangeMaps5
import Derived.Test.YtmammebifhmnhaaDoorQ253AF9
namespace Go.Proofs.YtmammebifhmnhaaDoor
open Go.ChangeShapes Go.WideShapes Go.ChangeAt Go.RowKit Go.AM

set_option maxRecDepth 100000 in
theorem axiomWeaker_lifted (os : Os) (started : os.Started) (H : Type) (enc : TypeId × Value → H) :
    ReturnsInHanded {} Tryd.checked os 5 .any (fun w args => (Rows.axiomWeakerSpec.pre enc Tryd.prog Tryd.f5 [] false w args ∧ laidMetH Tryd.prog laidL w) ∧ sizedMet enc Tryd.prog Tryd.f5 (OpenSpec.ofChange Rows.axiomWeakerSpec) false w args)
      (Rows.axiomWeakerSpec.post enc Tryd.prog Tryd.f5 false true false false) := by
  refine returnsInHanded_of_change_and (C := Tryd.checked) (X := fun w _ => laidMetH Tryd.prog laidL w) (fun _ _ _ hh h => h.of_heap hh) Tryd.own started (by kernel_rfl) Tryd.func5
    (ChangeSpec.witness_shaped (enc := enc) (C := Tryd.checked) (os := os) (X := fun w _ => laidMetH Tryd.prog laidL w) false (World.doorLaid Tryd.prog 24 os) #[encX ⟨[], [], [], none, 0, .slice none 0 0, none, 0, none, 0, .slice none 0 0⟩] 8 rfl (World.shaped_of_RefB (by kernel_rfl) (by kernel_rfl)) (by kernel_rfl) (by kernel_rfl) (by kernel_rfl) (door_met os _)) ?_
  intro W base args ds gs before hval0 hW _ hsz hL _
  have hval : ∀ (j : Nat) t v, Tryd.f5.params[j]? = some t → args[j]? = some v → Value.okWide Tryd.prog W .any base t v := hval0
  have hW' := hW
  obtain ⟨p, q, hA0, hV, rfl, hfz, hnd⟩ := hW
  have hA : DataW.TrodAll enc Tryd.prog W 0 (fun _ => true) true Tryd.f5.params.toList args.toList ds p := hA0
  rw [Tryd.params5] at hA hval
  obtain ⟨v0, vs0, d0, ds0, p0, q0, e0, rfl, rfl, h0, hA⟩ := trodAll_cons hA
  obtain ⟨rfl, rfl, rfl⟩ := trodAll_nil hA
  obtain rfl : args = #[v0] := by cases args; simp_all
  obtain ⟨rfl, rfl⟩ := trodVars_none hV
  obtain ⟨x, rfl, hX, hxl, hpn, dd0, dd1, dd2, dd3, dd4, rfl, hdd⟩ := open_exec3 (hval 0 28 v0 rfl rfl) h0
  clear hA0 hval0
  obtain ⟨hT, h0s⟩ := tab_of_laid hL
  have hst := Tryd.underlying28
  have hs3 := tab_undP tab_ok (t := 25) (d := .slice 24) rfl
  have hs4 := tab_undP tab_ok (t := 24) (d := .slice 3) rfl
  have hb3 : Tryd.prog.bytesOf 24 = 24 := by kernel_rfl
  have hb4 : Tryd.prog.bytesOf 3 = 8 := by kernel_rfl
  have hW3 : ∀ n, n ∈ DataW.weights Tryd.prog 25 dd3 → n ≤ 140737488351232 := fun n hn => by
    have hw := List.all_eq_true.1 hsz n (by
      show n ∈ DataW.weightsEach Tryd.prog (Tryd.f5.params.toList ++ _) _
      rw [Tryd.params5]
      simp [DataW.weightsEach, DataW.weights, hst, hn])
    exact of_decide_eq_true hw
  have hs1 : x.ord.length ≤ 5864062014805 := by
    rcases hdd with ⟨es, rest, rfl, hes, _⟩ | hnil
    · have := hW3 ((es.length + rest.length) * 24) (by simp [DataW.weights, hs3, hb3])
      rw [← hes]; omega
    · simp [hnil]
  have hs2 : ∀ l ∈ x.ord, l.length ≤ 17592186044415 := fun l hl => by
    rcases hdd with ⟨es, rest, rfl, _, hes⟩ | hnil
    · rcases hes l hl with ⟨fs, rs, hm, hfl⟩ | rfl
      · have hin : (fs.length + rs.length) * 8 ∈ DataW.weights Tryd.prog 24 (DataW.slice fs rs : DataW H) := by simp [DataW.weights, hs4, hb4]
        have := hW3 ((fs.length + rs.length) * 8) (by
          rw [DataW.weights]
          simp only [hs3]
          exact List.mem_cons_of_mem _ (List.mem_append_left _ (weightsAll_mem es hm hin)))
        omega
      · simp
    · rw [hnil] at hl; cases hl
  refine Calls.mono' (axiomWeaker_ok x W hX hs1 hs2 hT h0s) fun e W' ⟨he, hw⟩ => ?_
  subst he
  exact ⟨_, rfl, row_post Tryd.laidOut (by kernel_rfl) rfl Tryd.underlying4 rfl hW' hw.below rfl⟩

theorem axiomWeaker_said : Rows.AxiomWeakerSaid :=
  OpenClaim.holds_of_wide 5 Tryd.f5 rfl rfl rfl rfl rfl rfl rfl ⟨rfl, rfl, rfl, rfl, rfl⟩ rfl rfl rfl rfl rfl (by kernel_rfl) Tryd.func5 (by kernel_rfl)
    (of_decide_eq_true (by kernel_rfl)) (by unfold Func.isWrapper; first | (rw [if_pos (by decide +kernel)]; kernel_rfl) | (rw [if_neg (by decide +kernel)]; exact ⟨rfl, rfl⟩))
    (fun os started H enc _ => axiomWeaker_lifted os started H enc)

theorem axiomWeaker_holds : Rows.AxiomWeakerCardSaid :=
  Claim7.holds_tied_plain_at .later [] [.data] true Rows.axiomWeakerCard.stood.harness false
    axiomWeaker_said (fun _ h => by cases h) (by kernel_rfl) (fun _ h => by cases h) axiomWeaker_row_tie rfl ⟨rfl, rfl⟩ (by kernel_rfl) rfl
    (fun f fn hf hfn => by
      obtain rfl : f = 5 := Option.some.inj ((show Tryd.prog.funcNamed "weir/weirlaw19.AxiomWeaker" = some 5 by kernel_rfl).symm.trans hf) |>.symm
      obtain rfl : fn = Tryd.f5 := (Option.some.inj (Tryd.func5.symm.trans hfn)).symm
      exact ⟨by kernel_rfl, fun j t ht => by
        have hall : (Tryd.f5.params.toList.all fun u => !Tryd.prog.wantsStandIn u) = true := by kernel_rfl
        have hm := Array.mem_toList_iff.2 (Array.mem_of_getElem? ht)
        have h9 := List.all_eq_true.1 hall t hm
        exact (show Tryd.prog.wantsStandIn t = false by simpa using h9)⟩)
    (by kernel_rfl)

#print axioms axiomWeaker_holds
end Go.Proofs.YtmammebifhmnhaaDoor

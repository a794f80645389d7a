/-
  EventShapes answers true at every program and every set of tries that fail: its events are at most 64, each try that fails leaves one out; Po is a strict order in each thread; Int and Ext share no pair and are all pairs. The card of the statement. No condition of our own.
-/
import Derived.ChangeMaps5
import Derived.Test.YtehimiadpgbhmaaDoorQ5C92B0
namespace Go.Proofs.YtehimiadpgbhmaaDoor
open Go.ChangeShapes Go.WideShapes Go.ChangeAt Go.RowKit Go.AM

set_option maxRecDepth 100000 in
theorem eventShapes_lifted (os : Os) (started : os.Started) (H : Type) (enc : TypeId × Value → H) :
    ReturnsInHanded {} Tryd.checked os 4 .any (fun w args => (Rows.eventShapesSpec.pre enc Tryd.prog Tryd.f4 [] false w args ∧ laidMetH Tryd.prog laidB w) ∧ sizedMet enc Tryd.prog Tryd.f4 (OpenSpec.ofChange Rows.eventShapesSpec) false w args)
      (Rows.eventShapesSpec.post enc Tryd.prog Tryd.f4 false true false false) := by
  refine returnsInHanded_of_change_and (C := Tryd.checked) (X := fun w _ => laidMetH Tryd.prog laidB w) (fun _ _ _ hh h => h.of_heap hh) Tryd.own started (by kernel_rfl) Tryd.func4
    (ChangeSpec.witness_shaped (enc := enc) (C := Tryd.checked) (os := os) (X := fun w _ => laidMetH Tryd.prog laidB w) false (World.doorLaid Tryd.prog 24 os) #[encP ⟨[], [], [], [], 0, none, 0, none, 0, none, 0, none, 0, none, 0⟩, .int .u64 0] 8 rfl (World.shaped_of_RefB (by kernel_rfl) (by kernel_rfl)) (by kernel_rfl) (by kernel_rfl) (by kernel_rfl) (door_metB os _)) ?_
  intro W base args ds gs before hval0 hW _ hsz hL _
  have hval : ∀ (j : Nat) t v, Tryd.f4.params[j]? = some t → args[j]? = some v → Value.okWide Tryd.prog W .any base t v := hval0
  have hW' := hW
  obtain ⟨p, q, hA0, hV, rfl, hfz, hnd⟩ := hW
  have hA : DataW.TrodAll enc Tryd.prog W 0 (fun _ => true) true Tryd.f4.params.toList args.toList ds p := hA0
  rw [Tryd.params4] at hA hval
  obtain ⟨v0, vs0, d0, ds0, p0, q0, e0, rfl, rfl, h0, hA⟩ := trodAll_cons hA
  obtain ⟨v1, vs1, d1, ds1, p1, q1, e1, rfl, rfl, h1, hA⟩ := trodAll_cons hA
  obtain ⟨rfl, rfl, rfl⟩ := trodAll_nil hA
  obtain rfl : args = #[v0, v1] := by cases args; simp_all
  obtain ⟨rfl, rfl⟩ := trodVars_none hV
  obtain ⟨x, rfl, hX, dd0, dd1, dd2, dd3, dd4, rfl, hdd⟩ := open_prog (hval 0 39 v0 rfl rfl) h0
  obtain ⟨f, rfl, rfl, rfl, wf⟩ := open_int Tryd.underlying40 (hval 1 40 v1 rfl rfl) h1
  clear hA0 hval0
  obtain ⟨hT, h0s⟩ := tab_of_laidB hL
  rw [wf_u64 wf] at *
  have hst := Tryd.underlying39
  have hs3 := tab_undP tab_ok (t := 35) (d := .slice 61) rfl
  have hs4 := tab_undP tab_ok (t := 61) (d := .slice 60) rfl
  have hb4 : Tryd.prog.bytesOf 60 = 40 := by kernel_rfl
  have hW3 : ∀ n, n ∈ DataW.weights Tryd.prog 35 dd0 → n ≤ 140737488351232 := fun n hn => by
    have hw := List.all_eq_true.1 hsz n (by
      show n ∈ DataW.weightsEach Tryd.prog (Tryd.f4.params.toList ++ _) _
      rw [Tryd.params4]
      simp [DataW.weightsEach, DataW.weights, hst, hn])
    exact of_decide_eq_true hw
  have hs2 : ∀ l ∈ x.th, l.length ≤ 8796093022208 := fun l hl => by
    rcases hdd with ⟨es, rest, rfl, hes⟩ | hnil
    · rcases hes l hl with ⟨fs, rs, hm, hfl⟩ | rfl
      · have hin : (fs.length + rs.length) * 40 ∈ DataW.weights Tryd.prog 61 (DataW.slice fs rs : DataW H) := by simp [DataW.weights, hs4, hb4]
        have := hW3 ((fs.length + rs.length) * 40) (by
          rw [DataW.weights]
          simp only [hs3]
          exact List.mem_cons_of_mem _ (List.mem_append_left _ (weightsAll_mem es hm hin)))
        omega
      · simp
    · rw [hnil] at hl; cases hl
  refine Calls.mono' (eventShapes_ok x _ W (hX hs2)) fun e W' ⟨he, hw⟩ => ?_
  subst he
  exact ⟨_, rfl, row_post Tryd.laidOut (by kernel_rfl) rfl Tryd.underlying4 rfl hW' hw.below rfl⟩

theorem eventShapes_said : Rows.EventShapesSaid :=
  OpenClaim.holds_of_wide 4 Tryd.f4 rfl rfl rfl rfl rfl rfl rfl ⟨rfl, rfl, rfl, rfl, rfl⟩ rfl rfl rfl rfl rfl (by kernel_rfl) Tryd.func4 (by kernel_rfl)
    (of_decide_eq_true (by kernel_rfl)) (by unfold Func.isWrapper; first | (rw [if_pos (by decide +kernel)]; kernel_rfl) | (rw [if_neg (by decide +kernel)]; exact ⟨rfl, rfl⟩))
    (fun os started H enc _ => eventShapes_lifted os started H enc)

theorem eventShapes_holds : Rows.EventShapesCardSaid :=
  Claim7.holds_tied_plain_at .later [] [.data, .data, .data] true Rows.eventShapesCard.stood.harness false
    eventShapes_said (fun _ h => by cases h) (by kernel_rfl) (fun _ h => by cases h) eventShapes_row_tie rfl ⟨rfl, rfl⟩ (by kernel_rfl) rfl
    (fun f fn hf hfn => by
      obtain rfl : f = 4 := Option.some.inj ((show Tryd.prog.funcNamed "weir/weirlaw17.EventShapes" = some 4 by kernel_rfl).symm.trans hf) |>.symm
      obtain rfl : fn = Tryd.f4 := (Option.some.inj (Tryd.func4.symm.trans hfn)).symm
      exact ⟨by kernel_rfl, fun j t ht => by
        have hall : (Tryd.f4.params.toList.all fun u => !Tryd.prog.wantsStandIn u) = true := by kernel_rfl
        have hm := Array.mem_toList_iff.2 (Array.mem_of_getElem? ht)
        have h9 := List.all_eq_true.1 hall t hm
        exact (show Tryd.prog.wantsStandIn t = false by simpa using h9)⟩)
    (by kernel_rfl)

#print axioms eventShapes_holds
end Go.Proofs.YtehimiadpgbhmaaDoor

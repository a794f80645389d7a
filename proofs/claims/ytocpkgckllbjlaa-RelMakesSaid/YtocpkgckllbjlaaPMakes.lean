/-
  RelMakes answers true at every relation, number, list of pairs and two sets: Check, Of, Cross and On are the document's. No condition.
-/
import Derived.Test.YtocpkgckllbjlaaRows
import Derived.Test.YtocpkgckllbjlaaR8
import Derived.SizedLaws
namespace Go.Proofs.Ytocpkgckllbjlaa
open Go.ChangeShapes Go.WideShapes Go.ChangeAt Go.RowKit Go.AM

theorem Try.own : ownKnob Try.prog.godebug = none := by kernel_rfl
theorem Try.laidOut : laidOutB Try.prog = true := by kernel_rfl

set_option maxRecDepth 100000 in
theorem relMakes_lifted (os : Os) (started : os.Started) (H : Type) (enc : TypeId × Value → H) :
    ReturnsInHanded {} Try.checked os 3 .any (Rows.relMakesSpec.pre6 enc Try.prog Try.f3 Rows.relMakesRow.domain false) (Rows.relMakesSpec.post enc Try.prog Try.f3 false true false false) := by
  refine returnsInHanded_of_change_sized (C := Try.checked) Try.own started (by kernel_rfl) Try.func3
    (ChangeSpec.witness6 (enc := enc) (C := Try.checked) false ⟨#[], #[encRel (Rl.void 0), .int .i64 0, .slice none 0 0, .int .u64 0, .int .u64 0], []⟩ 8 (by kernel_rfl) (by kernel_rfl) (by kernel_rfl) (by kernel_rfl)) ?_
  intro W base args ds gs before hval0 hW hcnd hsz _
  have hval : ∀ (j : Nat) t v, Try.f3.params[j]? = some t → args[j]? = some v → Value.okWide Try.prog W .any base t v := hval0
  have hW' := hW
  obtain ⟨p, q, hA0, hV, rfl, hfz, hnd⟩ := hW
  have hA : DataW.TrodAll enc Try.prog W 0 (fun _ => true) true Try.f3.params.toList args.toList ds p := hA0
  rw [Try.params3] at hA hval
  obtain ⟨v0, vs0, d0, ds0, p0, q0, e0, rfl, rfl, h0, hA⟩ := trodAll_cons hA
  obtain ⟨v1, vs1, d1, ds1, p1, q1, rfl, rfl, rfl, h1, hA⟩ := trodAll_cons hA
  obtain ⟨v2, vs2, d2, ds2, p2, q2, rfl, rfl, rfl, h2, hA⟩ := trodAll_cons hA
  obtain ⟨v3, vs3, d3, ds3, p3, q3, rfl, rfl, rfl, h3, hA⟩ := trodAll_cons hA
  obtain ⟨v4, vs4, d4, ds4, p4, q4, rfl, rfl, rfl, h4, hA⟩ := trodAll_cons hA
  obtain ⟨rfl, rfl, rfl⟩ := trodAll_nil hA
  obtain rfl : args = #[v0, v1, v2, v3, v4] := by cases args; simp_all
  obtain ⟨rfl, rfl⟩ := trodVars_none hV
  obtain ⟨r, rfl⟩ := open_rel (hval 0 25 v0 rfl rfl) h0
  obtain ⟨n, rfl, rfl, rfl, wn⟩ := open_int Try.underlying3 (hval 1 3 v1 rfl rfl) h1
  obtain ⟨pp, c, xs, rfl, hs, hpn, hle, hd⟩ := open_edges (hval 2 26 v2 rfl rfl) h2
  obtain ⟨x, rfl, rfl, rfl, wx⟩ := open_int Try.underlying27 (hval 3 27 v3 rfl rfl) h3
  obtain ⟨y, rfl, rfl, rfl, wy⟩ := open_int Try.underlying27 (hval 4 27 v4 rfl rfl) h4
  clear hA0 hval0
  have hlen : xs.length * 16 ≤ 140737488351232 := by
    rcases hd with ⟨es, rest, rfl, hes⟩ | rfl
    · have hb : Try.prog.bytesOf 29 = 16 := by kernel_rfl
      have hsl := tab_undP tab_ok (t := 26) (d := .slice 29) rfl
      have hw := List.all_eq_true.1 hsz ((es.length + rest.length) * 16) (by
        show _ ∈ DataW.weightsEach Try.prog (Try.f3.params.toList ++ _) _
        rw [Try.params3]
        simp [DataW.weightsEach, DataW.weights, hsl, hb])
      have hw' : (es.length + rest.length) * 16 ≤ 140737488351232 := of_decide_eq_true hw
      rw [← hes]; omega
    · simp
  refine Calls.mono' (?_ : Gives Try.prog 3 [encRel r, .int .i64 n, .slice pp xs.length c, .int .u64 x, .int .u64 y] W (.bool true)) fun e W' ⟨he, hw⟩ => ?_
  · rw [wf_u64 wx, wf_u64 wy]
    exact makes_ok r n pp c xs _ _ W hs hpn (by simp only [maxLen]; omega) (by omega)
  · subst he
    exact ⟨_, rfl, row_post Try.laidOut (by kernel_rfl) rfl Try.underlying4 rfl hW' hw.below rfl⟩

theorem relMakes_holds : Rows.RelMakesSaid :=
  OpenClaim.holds_of_wide 3 Try.f3 rfl rfl rfl rfl rfl rfl rfl ⟨rfl, rfl, rfl, rfl, rfl⟩ rfl rfl rfl rfl rfl (by kernel_rfl) Try.func3 (by kernel_rfl)
    (of_decide_eq_true (by kernel_rfl)) (by unfold Func.isWrapper; rw [if_neg (by decide +kernel)]; exact ⟨rfl, rfl⟩)
    (fun os started H enc _ => relMakes_lifted os started H enc)

#print axioms relMakes_holds
end Go.Proofs.Ytocpkgckllbjlaa

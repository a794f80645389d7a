/-
  RelWalks answers true. Own work.
-/
import Derived.Test.YtocpkgckllbjlaaDoorB6
namespace Go.Proofs.YtocpkgckllbjlaaDoor
open Go.AM
set_option maxRecDepth 100000

theorem SeesE.take {w : World} {p : Option Addr} {xs : List (Int × Int)} (h : SeesE w p xs) (k : Nat) : SeesE w p (xs.take k) := by
  intro i hi
  have hi' : i < xs.length := by rw [List.length_take] at hi; omega
  rw [List.getElem_take]
  exact h i hi'

theorem walks_ok (r : Rl) (a b m : Int) (w : World) (hT : TabAt w) (h0 : 0 < w.heap.size) : Gives Tryd.prog 3 [encRel r, .int .i64 a, .int .i64 b, .int .i64 m] w (.bool true) := by
  refine Gives.of_run Tryd.func3 rfl (by show 4 ≤ 56; decide) ?_
  refine RunF_sound tab_ok noX_local 100 [] _ _ rfl ?_ ?_
  · simp
  refine Run.callR noX_local rfl rfl rfl rfl rfl rfl edges_enters rfl (fun M w' _ _ => edges_ok r w') ?_
  rintro v w2 w1 S1 hag hag2 ⟨bb, rfl, hbl, hRel⟩ hS1
  have hB1 := (Based.refl w).call hag hag2 hS1
  have hbw1 : bb < w1.heap.size := World.block_lt_of_cell? w1 _ (hRel 0 _ rfl)
  have hS1b : ¬ S1 bb := hS1.new bb hbl
  refine ⟨.fn 71 [.v (.pointer (some ⟨bb, 0, none⟩))], fun M => rfl, ?_⟩
  have hn := rightL_n r
  refine RunF_sound tab_ok noX_local 100 [] _ _ rfl ?_ ?_
  · simp
  refine Run.callR noX_local rfl rfl rfl rfl rfl rfl edgesR_enters rfl (fun M w' _ _ => edgesR_ok r w') ?_
  rintro v w3 w4 S2 hag3 hag4 ⟨p, c, rfl, hc, hs, hnew⟩ hS2
  have hB2 := hB1.call hag3 hag4 hS2
  have hS2b : ¬ S2 bb := hS2.old bb hbw1 hS1b
  have hRel4 : RelAt w4 bb (rightL r) := (hRel.agree hag3 hS1b).agree hag4 (fun f => f)
  have hT4 : TabAt w4 := hT.agree hB2.agree (fun f => f)
  have h20 : ¬ S2 0 := fun h => by have := hB2.new 0 h; omega
  have hS2p : ∀ a, p = some a → ¬ S2 a.block := fun a ha => hS2.new _ (hnew a ha).1
  have hcnt := count_edges r
  have hlen : (edgesL (rightL r)).length ≤ 4096 := by rw [edgesL, restL_len]; have := sumL_le (rightL r) (rightL r).n.toNat 0; omega
  have hgat : ∀ (S : Nat → Prop) (wa wb : World) (k : Int), RelAt wa bb (rightL r) → TabAt wa → Agree S wa wb → ¬ S bb → ¬ S 0 → bb < wb.heap.size → 0 < wb.heap.size →
      Makes Tryd.prog 19 [edgesF bb, .int .i64 k] wb (NewE wb ((edgesL (rightL r)).take k.toNat)) := fun S wa wb k h1 h2 h3 h4 h5 h6 h7 => edgesLaw_ok (rightL r) hn bb k wb (h1.agree h3 h4) (h2.agree h3 h5) h6 h7
  generalize edgesL (rightL r) = L at *
  refine ⟨.v (.slice p L.length c), fun M => rfl, ?_⟩
  refine RunF_sound tab_ok noX_local 100 [] _ _ rfl ?_ ?_
  · simp
  refine Run.drawA noX_local rfl [] [(0, .cells 25 [.vals 65 (relV r)])] rfl rfl ⟨rfl, trivial⟩ ?_
  refine RunOF_sound tab_ok noX_local rfl rfl 200 [] _ _ rfl ?_ ?_
  · simp
  refine RunO.callFn noX_local rfl rfl rfl rfl rfl rfl rfl rfl count_enters rfl (fun w' _ => count_ok r w') ?_
  rw [hcnt]
  refine RunOF_sound tab_ok noX_local rfl rfl 200 [false] _ _ rfl ?_ ?_
  · simp
  refine RunO.callFn noX_local rfl rfl rfl rfl rfl rfl rfl rfl has_enters rfl (fun w' _ => has_ok r a b w') ?_
  refine RunOF_sound tab_ok noX_local rfl rfl 200 [] _ _ rfl ?_ ?_
  · simp
  refine RunO.callFn noX_local rfl rfl rfl rfl rfl rfl rfl rfl rightR_enters rfl (fun w' _ => rightR_ok r w') ?_
  refine RunOF_sound tab_ok noX_local rfl rfl 200 [] _ _ rfl ?_ ?_
  · simp
  refine RunO.callFn noX_local rfl rfl rfl rfl rfl rfl rfl rfl hasR_enters rfl (fun w' _ => hasR_ok (rightL r) hn a b w') ?_
  refine RunOF_sound tab_ok noX_local rfl rfl 200 [] _ _ rfl ?_ ?_
  · simp
  refine RunO.done ?_
  refine RunF_sound tab_ok noX_local 100 [false] _ _ rfl ?_ ?_
  · simp
  have hbw4 : bb < w4.heap.size := World.block_lt_of_cell? w4 _ (hRel4 0 _ rfl)
  have hw4 : 0 < w4.heap.size := by have := hB2.agree.size; omega
  generalize hk : (if m > 0 then m else 0) = k
  refine Run.callR (Q := fun v w w' => NewE w (L.take k.toNat) v w') noX_local rfl rfl rfl rfl rfl rfl edgesLaw_enters rfl (fun M w' _ hw' => hgat _ _ _ _ hRel4 hT4 hw' hS2b h20 (Nat.lt_of_lt_of_le hbw4 hw'.size) (Nat.lt_of_lt_of_le hw4 hw'.size)) ?_
  rintro v w5 w6 S3 hag5 hag6 ⟨p1, c1, rfl, hc1, hs1, hnew1⟩ hS3
  have hB3 := hB2.call hag5 hag6 hS3
  have hRel6 : RelAt w6 bb (rightL r) := (hRel4.agree hag5 hS2b).agree hag6 (fun f => f)
  have hT6 : TabAt w6 := hT.agree hB3.agree (fun f => f)
  have hs6 : SeesE w6 p L := (hs.agree hag5 hS2p).agree hag6 (fun _ _ f => f)
  have h30 : ¬ S3 0 := fun h => by have := hB3.new 0 h; omega
  have hbw6 : bb < w6.heap.size := World.block_lt_of_cell? w6 _ (hRel6 0 _ rfl)
  have hw6 : 0 < w6.heap.size := by have := hB3.agree.size; omega
  refine ⟨.v (.slice p1 (L.take k.toNat).length c1), fun M => rfl, ?_⟩
  refine RunF_sound tab_ok noX_local 100 [] _ _ rfl ?_ ?_
  · simp
  refine Run.callR (Q := fun v w w' => NewE w (L.take (5000 : Int).toNat) v w') noX_local rfl rfl rfl rfl rfl rfl edgesLaw_enters rfl (fun M w' _ hw' => hgat _ _ _ _ hRel6 hT6 hw' (hS3.old _ hbw4 hS2b) h30 (Nat.lt_of_lt_of_le hbw6 hw'.size) (Nat.lt_of_lt_of_le hw6 hw'.size)) ?_
  rintro v w7 w8 S4 hag7 hag8 ⟨p2, c2, rfl, hc2, hs2, hnew2⟩ hS4
  have hB4 := hB3.call hag7 hag8 hS4
  have e5 : L.take (5000 : Int).toNat = L := List.take_of_length_le (by show _ ≤ 5000; omega)
  rw [e5] at hs2 hc2 ⊢
  have hs1' : SeesE w8 p1 (L.take k.toNat) := (hs1.agree hag7 (fun a ha => hS3.new _ (hnew1 a ha).1)).agree hag8 (fun _ _ f => f)
  have hS3p : ∀ a, p = some a → ¬ S3 a.block := fun a ha => hS3.old _ (hnew a ha).2 (hS2p a ha)
  have hs8 : SeesE w8 p L := (hs6.agree hag7 hS3p).agree hag8 (fun _ _ f => f)
  have hk0 : 0 ≤ k := by rw [← hk]; split <;> omega
  have hcutl : (if k < (L.length : Int) then k else (L.length : Int)).toNat = (L.take k.toNat).length := by
    rw [List.length_take]; split <;> omega
  have hp0 : p.map (fun x => x.add 0) = p := by cases p <;> simp [AM.add_zero]
  have hS4p : ∀ a, p = some a → ¬ S4 a.block := fun a ha => hS4.old _ (Nat.lt_of_lt_of_le (hnew a ha).2 (Nat.le_trans hag5.size hag6.size)) (hS3p a ha)
  have hS4p1 : ∀ a, p1 = some a → ¬ S4 a.block := fun a ha => hS4.old _ (hnew1 a ha).2 (hS3.new _ (hnew1 a ha).1)
  have hS4p2 : ∀ a, p2 = some a → ¬ S4 a.block := fun a ha => hS4.new _ (hnew2 a ha).1
  have hlm : L.length ≤ maxLen := by simp only [maxLen]; omega
  refine ⟨.v (.slice p2 L.length c2), fun M => rfl, ?_⟩
  refine RunF_sound tab_ok noX_local 100 [] _ _ rfl ?_ ?_
  · rw [hk]
    have : (if k < (L.length : Int) then k else (L.length : Int)) ≤ c := by split <;> omega
    have : 0 ≤ (if k < (L.length : Int) then k else (L.length : Int)) := by split <;> omega
    simp; omega
  rw [hk]
  refine Run.callFn noX_local rfl rfl rfl rfl rfl rfl rfl sameEdges_enters rfl (r := .bool true) (fun w' hA => ?_) ?_
  · rw [hcutl, hp0]
    have := sameEdges_ok p1 p c1 c (L.take k.toNat) (L.take k.toNat) w' (hs1'.agree hA hS4p1) ((hs8.take _).agree hA hS4p) (by rw [List.length_take]; omega)
    rw [decide_eq_true rfl] at this; exact this
  refine RunF_sound tab_ok noX_local 100 [true] _ _ rfl ?_ ?_
  · simp
  refine Run.callFn noX_local rfl rfl rfl rfl rfl rfl rfl sameEdges_enters rfl (r := .bool true) (fun w' hA => ?_) ?_
  · have := sameEdges_ok p2 p c2 c L L w' (hs2.agree hA hS4p2) (hs8.agree hA hS4p) hlm
    rw [decide_eq_true rfl] at this; exact this
  refine RunF_sound tab_ok noX_local 100 [] _ _ rfl ?_ ?_
  · simp
  exact Run.retB (Ds := []) tab_ok noX_local hB4 Tryd.func3 rfl trivial (fun M => rfl)
theorem walks_enters : Enters Tryd.prog 3 := enters_mk Tryd.func3 (by decide) rfl
end Go.Proofs.YtocpkgckllbjlaaDoor

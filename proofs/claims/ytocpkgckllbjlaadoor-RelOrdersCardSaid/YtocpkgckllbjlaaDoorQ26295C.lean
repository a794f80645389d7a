/-
  Own work, merged: X9, X10, X2, X11, AM39, X12, X13.
-/
import Derived.AtR
import Derived.Below
import Derived.ChangeKeysEq
import Derived.KernelRfl
import Derived.LaidMore
import Derived.Laws.AppendOwn
import Derived.Laws.BytesString
import Derived.Laws.Cells
import Derived.Laws.CopyRow
import Derived.Laws.Entries
import Derived.Laws.Rows
import Derived.Laws.Small
import Derived.Laws.StructEq
import Derived.Lib.LaidTab
import Derived.Lib.TrailingZeros
import Derived.Maps.AppendAt
import Derived.OpenShut
import Derived.Orders
import Derived.ProofKit
import Derived.RangeFuncRecord
import Derived.SevenTiedAt
import Derived.Stop.Joined
import Derived.Test.YtocpkgckllbjlaaDoorCards
import Derived.Test.YtocpkgckllbjlaaDoorProg
import Derived.Test.YtocpkgckllbjlaaDoorRows
import Derived.Test.YtocpkgckllbjlaaDoorTie
import Derived.Test.YtocpkgckllbjlaaDoorQ306F3D
/-
  The document's orders: the recursion's step. Own work.
-/
namespace Go.Proofs.YtocpkgckllbjlaaDoor
open Go.AM
set_option maxRecDepth 100000

theorem Run.joinK {C : Ctx} {K : List Item} {S0 : St} (P : St → Prop) (h : ∃ k7, ((∀ σ', P σ' → Run C k7 σ') → Run C K S0) ∧ (∀ σ', P σ' → Run C k7 σ')) : Run C K S0 := let ⟨_, h1, h2⟩ := h; h1 h2

noncomputable def moLi (R : Rl) (n most d : Nat) (l : List Nat) (dn : BitVec 64) (L : List (List Nat)) (i : Nat) : List (List Nat) := L ++ (extP (aheadL R) n d l dn i).take (most - L.length)

theorem moLi_step (R : Rl) (n most d : Nat) (l : List Nat) (dn : BitVec 64) (L : List (List Nat)) (i : Nat) :
    moLi R n most d l dn L i ++ (extF (aheadL R) n d l dn i).take (most - (moLi R n most d l dn L i).length) = moLi R n most d l dn L (i + 1) := by
  unfold moLi
  rw [extP_succ, List.take_append, List.append_assoc]
  congr 2
  congr 1
  rw [List.length_append, List.length_take]
  omega

theorem dn_next {dn : BitVec 64} {l : List Nat} (hd : ∀ b, b < 64 → (dn.getLsbD b = true ↔ b ∈ l)) {i : Nat} (hi : i < 64) : ∀ b, b < 64 → ((dn ||| 1#64 <<< i).getLsbD b = true ↔ b ∈ l ++ [i]) := by
  intro b hb
  rw [BitVec.getLsbD_or, Bool.or_eq_true, hd b hb, one_shl_get i b hi, decide_eq_true_eq, List.mem_append, List.mem_singleton]

set_option maxHeartbeats 2000000 in
theorem more_succ (R : Rl) (hR : Rt R) (n : Nat) (hn : R.n = (n : Int)) (po most : Nat) (hmost : most ≤ 100000) (d : Nat) (ih : MoreOK R n po most d) : MoreOK R n po most (d + 1) := by
  intro l dn pl cl w fp L hl hd hX hlt hs hnf hpn hL9
  by_cases hf : L.length ≥ most
  · have := more_full R po most pl cl l.length w fp L hX hlt hf
    rw [show most - L.length = 0 by omega, List.take_zero, List.append_nil]
    exact this
  have hn64 : n ≤ 64 := by have := hR.hi; omega
  have hln : l.length < n := by omega
  have hml : maxLen = 9223372036854775807 := rfl
  rw [extL_succ]
  show GivesR _ _ _ _ (MoreR w fp po (moLi R n most d l dn L n))
  refine givesX_of_run (S0 := fp) (X := outX po L) Tryd.func87 rfl (by show 4 ≤ 52; decide) hX (fun b hb => ⟨hlt b hb, fun _ => hb⟩) ?_
  obtain ⟨R0, hR0⟩ : ∃ R0, R0 = MoreR w fp po (moLi R n most d l dn L n) := ⟨_, rfl⟩
  rw [← hR0]
  refine RunF_sound tab_ok (outX_local po L) 9 [] _ _ rfl ?_ ?_
  · simp
  refine Run.loadX (Q := fun v => ∃ p c, v = .slice p L.length c) tab_ok rfl rfl rfl rfl rfl (fun w' fp' h => outX_len h) rfl rfl ?_
  rintro v ⟨p, c, rfl⟩
  refine RunF_sound tab_ok (outX_local po L) 100 [false, false] _ _ rfl ?_ ?_
  · simp [hn]; omega
  suffices H : ∀ (m i : Nat), i + m = n → ∀ σ, inT σ.t [(1, .v (.slice pl l.length cl)), (2, .v (.int .i64 (most : Int))), (3, .v (.pointer (some ⟨po, 0, none⟩))), (4, .ptr 0 0), (8, .v (.int .i64 (i : Int)))] → inT σ.h [(0, .cells 25 [.vals 65 (relV R)])] →
      Run (fnC Tryd.prog 87 (Tryd.f87).ntmps w fp (outX po (moLi R n most d l dn L i)) R0) _ σ by
    have e0 : moLi R n most d l dn L 0 = L := by simp [moLi, extP]
    have := H n 0 (by omega)
    rw [e0] at this
    exact this _ ⟨rfl, rfl, rfl, rfl, rfl, trivial⟩ ⟨rfl, trivial⟩
  intro m
  induction m with
  | zero =>
    intro i hi σ ht hh
    refine Run.to ?_ ht hh (n' := 1)
    obtain rfl : i = n := by omega
    refine RunF_sound tab_ok (outX_local po _) 100 [false] _ _ rfl ?_ ?_
    · simp [hn]
    exact Run.finI Tryd.func87 rfl fun v w' fp' hg hX => by rw [hR0]; exact ⟨fp', hg, hX⟩
  | succ m ihm =>
    intro i hi σ ht hh
    refine Run.to ?_ ht hh (n' := 1)
    have hin : i < n := by omega
    have hst := moLi_step R n most d l dn L i
    have hfree : ∀ w', Agree fp w w' → Gives Tryd.prog 92 [encRel R, .slice pl l.length cl, .int .i64 (i : Int)] w' (.bool (rdyB (aheadL R) dn i)) := fun w' hA => by
      have := free_ok hR hn pl cl l i w' (hs.agree hA (fun a ha => hnf a ha)) (by omega)
      rwa [free_rdy hR hn hd hin] at this
    have hLl : (moLi R n most d l dn L i).length ≤ 1000000 := by
      unfold moLi; rw [List.length_append, List.length_take]; omega
    generalize hLi : moLi R n most d l dn L i = Li at *
    refine RunF_sound tab_ok (outX_local po _) 100 [true] _ _ rfl ?_ ?_
    · simp [hn]; omega
    refine Run.callFn (r := .bool (rdyB (aheadL R) dn i)) (outX_local po _) rfl rfl rfl rfl rfl rfl rfl free_enters rfl (fun w' hA => hfree w' hA) ?_
    have hnext : ∀ σ, (rdyB (aheadL R) dn i = false ∨ True) → inT σ.t [(1, .v (.slice pl l.length cl)), (2, .v (.int .i64 (most : Int))), (3, .v (.pointer (some ⟨po, 0, none⟩))), (4, .ptr 0 0), (8, .v (.int .i64 ((i + 1 : Nat) : Int)))] → inT σ.h [(0, .cells 25 [.vals 65 (relV R)])] →
      Run (fnC Tryd.prog 87 (Tryd.f87).ntmps w fp (outX po (moLi R n most d l dn L (i + 1))) R0) _ σ := fun σ _ ht hh => ihm (i + 1) (by omega) σ ht hh
    by_cases hr : rdyB (aheadL R) dn i = true
    · have hef : extF (aheadL R) n d l dn i = extL (aheadL R) n d (l ++ [i]) (dn ||| 1#64 <<< i) := by rw [extF, if_pos hr]
      rw [hef] at hst
      rw [hr]
      refine RunF_sound tab_ok (outX_local po _) 100 [true] _ _ rfl ?_ ?_
      · simp
      have hcon : ∀ (M : AM.Loc) (fp1 : Foot) (a : Act) (w1 : World) (σ : St) (idr : Nat), Rel (fnC Tryd.prog 87 (Tryd.f87).ntmps w fp (outX po Li) R0) M fp1 σ a w1 → lk σ.h idr = some (.row 3 1 (l.length + 1) (encN (l ++ [i]))) →
          GivesR Tryd.prog 87 [encRel R, .slice (some ⟨(M idr).1, 0, none⟩) (l.length + 1) ((M idr).2 - 0), .int .i64 (most : Int), .pointer (some ⟨po, 0, none⟩)] w1 (fun v w' => ∃ fp', Grown fp1 w1 fp' w' ∧ outX po (moLi R n most d l dn L (i + 1)) w' fp') := by
        intro M fp1 a w1 σ idr hRl hB
        have hlen : (l ++ [i]).length = l.length + 1 := by simp
        have hb := hRl.heap idr _ hB
        rw [← hlen] at hb ⊢
        refine Calls.mono' (ih (l ++ [i]) (dn ||| 1#64 <<< i) (some ⟨(M idr).1, 0, none⟩) ((M idr).2 - 0) w1 fp1 Li (by rw [hlen]; omega) (dn_next hd (by omega)) hRl.outer (fun b hb => (hRl.fpok b hb).1) (seesN_row hb) (fun a ha => by cases ha; exact hRl.apart idr _ hB) (fun h => by cases h) hLl) ?_
        rintro e w' ⟨v, h1, fp', hg, hX'⟩
        rw [hst] at hX'
        exact ⟨v, h1, fp', hg, hX'⟩
      refine Run.to (t' := [(1, .v (.slice pl l.length cl)), (2, .v (.int .i64 (most : Int))), (3, .v (.pointer (some ⟨po, 0, none⟩))), (4, .ptr 0 0), (8, .v (.int .i64 (i : Int)))]) (h' := [(0, .cells 25 [.vals 65 (relV R)])]) (n' := 1) ?_ ⟨rfl, rfl, rfl, rfl, rfl, trivial⟩ ⟨rfl, trivial⟩
      cases pl with
      | none =>
        obtain ⟨rfl, rfl⟩ := hpn rfl
        refine Run.drawF2 (outX_local po _) rfl 5 1 3 rfl rfl [] [(0, .cells 25 [.vals 65 (relV R)])] rfl rfl rfl rfl rfl rfl ⟨rfl, trivial⟩ ?_ ?_ ?_
        · refine RunOF_sound tab_ok (outX_local po _) rfl rfl 200 [] _ _ rfl ?_ ?_
          · simp [repL, fillL, Value.cells, inT, lk, maxLen, Value.oneCell', splice]
          refine RunO.to [(1, .v (.slice none ([] : List Nat).length 0)), (2, .v (.int .i64 (most : Int))), (3, .v (.pointer (some ⟨po, 0, none⟩))), (4, .ptr 0 0), (8, .v (.int .i64 (i : Int))), (42, .v (encRel R)), (48, .sl 3 1 0 (0 + 1)), (49, .v (.int .i64 (most : Int))), (50, .v (.pointer (some ⟨po, 0, none⟩)))] [(0, .cells 25 [.vals 65 (relV R)]), (3, .row 3 1 (0 + 1) (encN (([] : List Nat) ++ [i])))] 9 ?_ ⟨rfl, rfl, rfl, rfl, rfl, rfl, rfl, rfl, rfl, trivial⟩ ⟨rfl, ?_, trivial⟩ (show 1 ≤ 9 by decide)
          rotate_left
          · rfl
          refine RunO.callG (xs := [.v (encRel R), .sl 3 1 0 (0 + 1), .v (.int .i64 (most : Int)), .v (.pointer (some ⟨po, 0, none⟩))]) (caps := []) rfl ⟨rfl, trivial⟩ rfl rfl rfl rfl rfl rfl more_enters rfl fun M fp1 a w1 hRl => ?_
          have ea : concL M ([AV.v (encRel R), .sl 3 1 0 (0 + 1), .v (.int .i64 (most : Int)), .v (.pointer (some ⟨po, 0, none⟩))] ++ []) = [encRel R, .slice (some ⟨(M 3).1, 0, none⟩) (([] : List Nat).length + 1) ((M 3).2 - 0), .int .i64 (most : Int), .pointer (some ⟨po, 0, none⟩)] := by simp [concL, conc]
          rw [ea]
          refine Calls.mono' (hcon M fp1 a w1 _ 3 hRl rfl) fun e w' ⟨v, h1, fp', h2, h3⟩ => ⟨v, h1, _, fp', h2, h3, RunO.done ?_⟩
          refine RunF_sound tab_ok (outX_local po _) 100 [] _ _ rfl ?_ ?_
          · simp
          exact hnext _ (.inr trivial) ⟨rfl, rfl, rfl, rfl, i64_eq (wrap_succ (by omega)), trivial⟩ ⟨rfl, trivial⟩
        · refine RunOF_sound tab_ok (outX_local po _) rfl rfl 200 [] _ _ rfl ?_ ?_
          · simp [repL, fillL, Value.cells, inT, lk, maxLen, Value.oneCell', splice]
          refine RunO.to [(1, .v (.slice none ([] : List Nat).length 0)), (2, .v (.int .i64 (most : Int))), (3, .v (.pointer (some ⟨po, 0, none⟩))), (4, .ptr 0 0), (8, .v (.int .i64 (i : Int))), (42, .v (encRel R)), (48, .sl 3 1 0 (0 + 1)), (49, .v (.int .i64 (most : Int))), (50, .v (.pointer (some ⟨po, 0, none⟩)))] [(0, .cells 25 [.vals 65 (relV R)]), (3, .row 3 1 (0 + 1) (encN (([] : List Nat) ++ [i])))] 9 ?_ ⟨rfl, rfl, rfl, rfl, rfl, rfl, rfl, rfl, rfl, trivial⟩ ⟨rfl, ?_, trivial⟩ (show 1 ≤ 9 by decide)
          rotate_left
          · rfl
          refine RunO.callG (xs := [.v (encRel R), .sl 3 1 0 (0 + 1), .v (.int .i64 (most : Int)), .v (.pointer (some ⟨po, 0, none⟩))]) (caps := []) rfl ⟨rfl, trivial⟩ rfl rfl rfl rfl rfl rfl more_enters rfl fun M fp1 a w1 hRl => ?_
          have ea : concL M ([AV.v (encRel R), .sl 3 1 0 (0 + 1), .v (.int .i64 (most : Int)), .v (.pointer (some ⟨po, 0, none⟩))] ++ []) = [encRel R, .slice (some ⟨(M 3).1, 0, none⟩) (([] : List Nat).length + 1) ((M 3).2 - 0), .int .i64 (most : Int), .pointer (some ⟨po, 0, none⟩)] := by simp [concL, conc]
          rw [ea]
          refine Calls.mono' (hcon M fp1 a w1 _ 3 hRl rfl) fun e w' ⟨v, h1, fp', h2, h3⟩ => ⟨v, h1, _, fp', h2, h3, RunO.done ?_⟩
          refine RunF_sound tab_ok (outX_local po _) 100 [] _ _ rfl ?_ ?_
          · simp
          exact hnext _ (.inr trivial) ⟨rfl, rfl, rfl, rfl, i64_eq (wrap_succ (by omega)), trivial⟩ ⟨rfl, trivial⟩
        · refine RunOF_sound tab_ok (outX_local po _) rfl rfl 200 [] _ _ rfl ?_ ?_
          · simp [repL, fillL, Value.cells, inT, lk, maxLen, Value.oneCell', splice]
          refine RunO.to [(1, .v (.slice none ([] : List Nat).length 0)), (2, .v (.int .i64 (most : Int))), (3, .v (.pointer (some ⟨po, 0, none⟩))), (4, .ptr 0 0), (8, .v (.int .i64 (i : Int))), (42, .v (encRel R)), (48, .sl 3 1 0 (0 + 1)), (49, .v (.int .i64 (most : Int))), (50, .v (.pointer (some ⟨po, 0, none⟩)))] [(0, .cells 25 [.vals 65 (relV R)]), (3, .row 3 1 (0 + 1) (encN (([] : List Nat) ++ [i])))] 9 ?_ ⟨rfl, rfl, rfl, rfl, rfl, rfl, rfl, rfl, rfl, trivial⟩ ⟨rfl, ?_, trivial⟩ (show 1 ≤ 9 by decide)
          rotate_left
          · rfl
          refine RunO.callG (xs := [.v (encRel R), .sl 3 1 0 (0 + 1), .v (.int .i64 (most : Int)), .v (.pointer (some ⟨po, 0, none⟩))]) (caps := []) rfl ⟨rfl, trivial⟩ rfl rfl rfl rfl rfl rfl more_enters rfl fun M fp1 a w1 hRl => ?_
          have ea : concL M ([AV.v (encRel R), .sl 3 1 0 (0 + 1), .v (.int .i64 (most : Int)), .v (.pointer (some ⟨po, 0, none⟩))] ++ []) = [encRel R, .slice (some ⟨(M 3).1, 0, none⟩) (([] : List Nat).length + 1) ((M 3).2 - 0), .int .i64 (most : Int), .pointer (some ⟨po, 0, none⟩)] := by simp [concL, conc]
          rw [ea]
          refine Calls.mono' (hcon M fp1 a w1 _ 3 hRl rfl) fun e w' ⟨v, h1, fp', h2, h3⟩ => ⟨v, h1, _, fp', h2, h3, RunO.done ?_⟩
          refine RunF_sound tab_ok (outX_local po _) 100 [] _ _ rfl ?_ ?_
          · simp
          exact hnext _ (.inr trivial) ⟨rfl, rfl, rfl, rfl, i64_eq (wrap_succ (by omega)), trivial⟩ ⟨rfl, trivial⟩
      | some a =>
        have hext : extCells w a 0 l.length = encN l := ext_seesN hs
        have hsm : ∀ j, j < l.length → (w.cell? (a.add j)).isSome := fun j hj => by have := (hs j hj).2; rw [Option.getD_some] at this; rw [this]; rfl
        have hnfa := hnf a rfl
        refine Run.drawF2 (outX_local po _) rfl 5 1 3 rfl rfl [] [(0, .cells 25 [.vals 65 (relV R)])] rfl rfl rfl rfl rfl rfl ⟨rfl, trivial⟩ ?_ ?_ ?_
        · refine RunOF_sound tab_ok (outX_local po _) rfl rfl 200 [] _ _ rfl ?_ ?_
          · simp [repL, fillL, Value.cells, inT, lk, Value.oneCell', splice]
            rw [hext]
            first
            | exact ⟨by omega, ⟨⟨⟨hsm, hnfa⟩, by omega, by omega⟩, encN_one l⟩, by omega, by omega⟩
            | exact ⟨⟨⟨⟨hsm, hnfa⟩, by omega, by omega⟩, encN_one l⟩, by omega, by omega, by omega⟩
          refine RunO.to [(1, .v (.slice (some a) l.length cl)), (2, .v (.int .i64 (most : Int))), (3, .v (.pointer (some ⟨po, 0, none⟩))), (4, .ptr 0 0), (8, .v (.int .i64 (i : Int))), (42, .v (encRel R)), (48, .sl 4 1 0 (0 + l.length + 1)), (49, .v (.int .i64 (most : Int))), (50, .v (.pointer (some ⟨po, 0, none⟩)))] [(0, .cells 25 [.vals 65 (relV R)]), (4, .row 3 1 (0 + l.length + 1) (encN (l ++ [i])))] 9 ?_ ⟨rfl, rfl, rfl, rfl, rfl, rfl, rfl, rfl, rfl, trivial⟩ ⟨rfl, ?_, trivial⟩ (show 1 ≤ 9 by decide)
          rotate_left
          · exact congrArg (fun z => some (Blk.row 3 1 (0 + l.length + 1) z)) (show (([] : List Value) ++ extCells w a 0 (l.length * 1)).take ((0 + l.length) * 1) ++ [Value.int .i64 (i : Int)] = encN (l ++ [i]) by rw [Nat.mul_one, Nat.mul_one, Nat.zero_add, List.nil_append, hext, List.take_of_length_le (by simp), encN_append]; rfl)
          refine RunO.callG (xs := [.v (encRel R), .sl 4 1 0 (0 + l.length + 1), .v (.int .i64 (most : Int)), .v (.pointer (some ⟨po, 0, none⟩))]) (caps := []) rfl ⟨rfl, trivial⟩ rfl rfl rfl rfl rfl rfl more_enters rfl fun M fp1 a w1 hRl => ?_
          have ea : concL M ([AV.v (encRel R), .sl 4 1 0 (0 + l.length + 1), .v (.int .i64 (most : Int)), .v (.pointer (some ⟨po, 0, none⟩))] ++ []) = [encRel R, .slice (some ⟨(M 4).1, 0, none⟩) (l.length + 1) ((M 4).2 - 0), .int .i64 (most : Int), .pointer (some ⟨po, 0, none⟩)] := by simp [concL, conc]
          rw [ea]
          refine Calls.mono' (hcon M fp1 a w1 _ 4 hRl (by show some (Blk.row 3 1 (0 + l.length + 1) (encN (l ++ [i]))) = _; rw [Nat.zero_add])) fun e w' ⟨v, h1, fp', h2, h3⟩ => ⟨v, h1, _, fp', h2, h3, RunO.done ?_⟩
          refine RunF_sound tab_ok (outX_local po _) 100 [] _ _ rfl ?_ ?_
          · simp
          exact hnext _ (.inr trivial) ⟨rfl, rfl, rfl, rfl, i64_eq (wrap_succ (by omega)), trivial⟩ ⟨rfl, trivial⟩
        · refine RunOF_sound tab_ok (outX_local po _) rfl rfl 200 [] _ _ rfl ?_ ?_
          · simp [repL, fillL, Value.cells, inT, lk, Value.oneCell', splice]
            rw [hext]
            first
            | exact ⟨by omega, ⟨⟨⟨hsm, hnfa⟩, by omega, by omega⟩, encN_one l⟩, by omega, by omega⟩
            | exact ⟨⟨⟨⟨hsm, hnfa⟩, by omega, by omega⟩, encN_one l⟩, by omega, by omega, by omega⟩
          refine RunO.to [(1, .v (.slice (some a) l.length cl)), (2, .v (.int .i64 (most : Int))), (3, .v (.pointer (some ⟨po, 0, none⟩))), (4, .ptr 0 0), (8, .v (.int .i64 (i : Int))), (42, .v (encRel R)), (48, .sl 4 1 0 (0 + l.length + 1)), (49, .v (.int .i64 (most : Int))), (50, .v (.pointer (some ⟨po, 0, none⟩)))] [(0, .cells 25 [.vals 65 (relV R)]), (4, .row 3 1 (0 + l.length + 1) (encN (l ++ [i])))] 9 ?_ ⟨rfl, rfl, rfl, rfl, rfl, rfl, rfl, rfl, rfl, trivial⟩ ⟨rfl, ?_, trivial⟩ (show 1 ≤ 9 by decide)
          rotate_left
          · exact congrArg (fun z => some (Blk.row 3 1 (0 + l.length + 1) z)) (show (([] : List Value) ++ extCells w a 0 (l.length * 1)).take ((0 + l.length) * 1) ++ [Value.int .i64 (i : Int)] = encN (l ++ [i]) by rw [Nat.mul_one, Nat.mul_one, Nat.zero_add, List.nil_append, hext, List.take_of_length_le (by simp), encN_append]; rfl)
          refine RunO.callG (xs := [.v (encRel R), .sl 4 1 0 (0 + l.length + 1), .v (.int .i64 (most : Int)), .v (.pointer (some ⟨po, 0, none⟩))]) (caps := []) rfl ⟨rfl, trivial⟩ rfl rfl rfl rfl rfl rfl more_enters rfl fun M fp1 a w1 hRl => ?_
          have ea : concL M ([AV.v (encRel R), .sl 4 1 0 (0 + l.length + 1), .v (.int .i64 (most : Int)), .v (.pointer (some ⟨po, 0, none⟩))] ++ []) = [encRel R, .slice (some ⟨(M 4).1, 0, none⟩) (l.length + 1) ((M 4).2 - 0), .int .i64 (most : Int), .pointer (some ⟨po, 0, none⟩)] := by simp [concL, conc]
          rw [ea]
          refine Calls.mono' (hcon M fp1 a w1 _ 4 hRl (by show some (Blk.row 3 1 (0 + l.length + 1) (encN (l ++ [i]))) = _; rw [Nat.zero_add])) fun e w' ⟨v, h1, fp', h2, h3⟩ => ⟨v, h1, _, fp', h2, h3, RunO.done ?_⟩
          refine RunF_sound tab_ok (outX_local po _) 100 [] _ _ rfl ?_ ?_
          · simp
          exact hnext _ (.inr trivial) ⟨rfl, rfl, rfl, rfl, i64_eq (wrap_succ (by omega)), trivial⟩ ⟨rfl, trivial⟩
        · refine RunOF_sound tab_ok (outX_local po _) rfl rfl 200 [] _ _ rfl ?_ ?_
          · simp [repL, fillL, Value.cells, inT, lk, Value.oneCell', splice]
            rw [hext]
            first
            | exact ⟨by omega, ⟨⟨⟨hsm, hnfa⟩, by omega, by omega⟩, encN_one l⟩, by omega, by omega⟩
            | exact ⟨⟨⟨⟨hsm, hnfa⟩, by omega, by omega⟩, encN_one l⟩, by omega, by omega, by omega⟩
          refine RunO.to [(1, .v (.slice (some a) l.length cl)), (2, .v (.int .i64 (most : Int))), (3, .v (.pointer (some ⟨po, 0, none⟩))), (4, .ptr 0 0), (8, .v (.int .i64 (i : Int))), (42, .v (encRel R)), (48, .sl 4 1 0 (0 + l.length + 1)), (49, .v (.int .i64 (most : Int))), (50, .v (.pointer (some ⟨po, 0, none⟩)))] [(0, .cells 25 [.vals 65 (relV R)]), (4, .row 3 1 (0 + l.length + 1) (encN (l ++ [i])))] 9 ?_ ⟨rfl, rfl, rfl, rfl, rfl, rfl, rfl, rfl, rfl, trivial⟩ ⟨rfl, ?_, trivial⟩ (show 1 ≤ 9 by decide)
          rotate_left
          · exact congrArg (fun z => some (Blk.row 3 1 (0 + l.length + 1) z)) (show (([] : List Value) ++ extCells w a 0 (l.length * 1)).take ((0 + l.length) * 1) ++ [Value.int .i64 (i : Int)] = encN (l ++ [i]) by rw [Nat.mul_one, Nat.mul_one, Nat.zero_add, List.nil_append, hext, List.take_of_length_le (by simp), encN_append]; rfl)
          refine RunO.callG (xs := [.v (encRel R), .sl 4 1 0 (0 + l.length + 1), .v (.int .i64 (most : Int)), .v (.pointer (some ⟨po, 0, none⟩))]) (caps := []) rfl ⟨rfl, trivial⟩ rfl rfl rfl rfl rfl rfl more_enters rfl fun M fp1 a w1 hRl => ?_
          have ea : concL M ([AV.v (encRel R), .sl 4 1 0 (0 + l.length + 1), .v (.int .i64 (most : Int)), .v (.pointer (some ⟨po, 0, none⟩))] ++ []) = [encRel R, .slice (some ⟨(M 4).1, 0, none⟩) (l.length + 1) ((M 4).2 - 0), .int .i64 (most : Int), .pointer (some ⟨po, 0, none⟩)] := by simp [concL, conc]
          rw [ea]
          refine Calls.mono' (hcon M fp1 a w1 _ 4 hRl (by show some (Blk.row 3 1 (0 + l.length + 1) (encN (l ++ [i]))) = _; rw [Nat.zero_add])) fun e w' ⟨v, h1, fp', h2, h3⟩ => ⟨v, h1, _, fp', h2, h3, RunO.done ?_⟩
          refine RunF_sound tab_ok (outX_local po _) 100 [] _ _ rfl ?_ ?_
          · simp
          exact hnext _ (.inr trivial) ⟨rfl, rfl, rfl, rfl, i64_eq (wrap_succ (by omega)), trivial⟩ ⟨rfl, trivial⟩
    · rw [Bool.not_eq_true] at hr
      have hef : extF (aheadL R) n d l dn i = [] := by rw [extF, hr]; rfl
      rw [hef, List.take_nil, List.append_nil] at hst
      rw [hr]
      refine RunF_sound tab_ok (outX_local po _) 100 [false] _ _ rfl ?_ ?_
      · simp
      rw [hst]
      exact hnext _ (.inr trivial) ⟨rfl, rfl, rfl, rfl, i64_eq (wrap_succ (by omega)), trivial⟩ ⟨rfl, trivial⟩
end Go.Proofs.YtocpkgckllbjlaaDoor

/-
  The document's Extends, Extend and Reduce. Own work.
-/
namespace Go.Proofs.YtocpkgckllbjlaaDoor
open Go.AM
set_option maxRecDepth 100000

theorem more_ok (R : Rl) (hR : Rt R) (n : Nat) (hn : R.n = (n : Int)) (po most : Nat) (hmost : most ≤ 100000) : ∀ d, MoreOK R n po most d
  | 0 => more_zero R hR n hn po most
  | d + 1 => more_succ R hR n hn po most hmost d (more_ok R hR n hn po most hmost d)

/-- The outer part, opened. -/
theorem Run.exX {C : Ctx} {todo : List Item} {σ : St} {α : Type} (X' : α → Res) (hX : ∀ w fp, C.X w fp → ∃ a, X' a w fp) (h : ∀ a, Run (C.withX (X' a)) todo σ) : Run C todo σ := fun M fp a w hR cs => by
  obtain ⟨x, hx⟩ := hX w fp hR.outer
  exact h x M fp a w { heap := hR.heap, inj := hR.inj, own := hR.own, apart := hR.apart, agree := hR.agree, outer := hx, fpok := hR.fpok, size := hR.size, frozen := hR.frozen, tmps := hR.tmps, defers := hR.defers } cs

def brV (br : Option (Nat × Nat)) (n : Nat) : Value := match br with
  | none => .slice none 0 0
  | some (b, cap) => .slice (some ⟨b, 0, none⟩) n cap

theorem out_cell {w : World} {fp : Foot} {po : Nat} {br : Option (Nat × Nat)} {s : List Ent} (h : OutSt w fp po br s) : w.cell? ⟨po, 0, none⟩ = some (brV br s.length) := by
  have hb := h.box
  cases br with
  | none => have := cells_of_blk hb.2 0; simpa [concSegs, conc, brV] using this
  | some x => have := cells_of_blk hb.2.2.1 0; simpa [concSegs, conc, brV] using this

def outS (po : Nat) (a : Option (Nat × Nat) × List Ent) : Res := fun w fp => OutSt w fp po a.1 a.2
theorem outS_local (po : Nat) (a : Option (Nat × Nat) × List Ent) : Local (outS po a) := by
  rintro w w' fp h _ heq
  refine ⟨?_, h.foot, h.nd, fun e he => ⟨BlkAt.same (h.ent e he).1 (heq _ ((h.foot _).2 (.inr (.inr ⟨e, he, rfl⟩)))), (h.ent e he).2⟩⟩
  have hb := h.box
  have hpo := heq po ((h.foot _).2 (.inl rfl))
  have hft := h.foot
  obtain ⟨br, s⟩ := a
  cases br with
  | none => exact ⟨hb.1, BlkAt.same hb.2 hpo⟩
  | some x => exact ⟨hb.1, hb.2.1, BlkAt.same hb.2.2.1 hpo, BlkAt.same hb.2.2.2.1 (heq x.1 ((hft _).2 (.inr (.inl ⟨x.2, rfl⟩)))), hb.2.2.2.2⟩

theorem out_join {M : AM.Loc} {w : World} {id : Nat} (hb : BlkAt M w id (.cells 53 [.one (.v (.slice none 0 0))])) : Joins (rowsX []) (fun b => b = (M id).1) (outX (M id).1 []) w := by
  rintro fp ⟨h1, _, _⟩ _
  refine ⟨none, [], rfl, ⟨rfl, ?_⟩, fun x => ?_, List.nodup_nil, fun e he => (by cases he)⟩
  · have := hb.1
    exact ⟨by simpa [concSegs, conc] using this, hb.2⟩
  · constructor
    · rintro (h | h)
      · obtain ⟨e, he, _⟩ := (h1 x).1 h; cases he
      · exact .inl h
    · rintro (h | ⟨c, h⟩ | ⟨e, he, _⟩)
      · exact .inr h
      · cases h
      · cases he

/-- What a maker of lists of lists gives. -/
def ListsR (w : World) (L : List (List Nat)) : Value → World → Prop := fun v w' => Agree (fun _ => False) w w' ∧ ∃ (s : List Ent) (p : Option Addr) (c : Nat), v = .slice p s.length c ∧ s.map (fun e => e.2.2) = L ∧ SeesL w' p s ∧ (∀ a, p = some a → w.heap.size ≤ a.block) ∧ ∀ e ∈ s, w.heap.size ≤ e.1

set_option maxHeartbeats 1000000 in
theorem extendsR_ok (r : Rl) (most : Nat) (hmost : most ≤ 100000) (w : World) : GivesR Tryd.prog 55 [encRel r, .int .i64 (most : Int)] w (ListsR w ((ordersL r).take most)) := by
  refine givesX_of_run (S0 := fun _ => False) (X := rowsX []) (fp := fun _ => False) Tryd.func55 rfl (by show 2 ≤ 15; decide) ⟨fun b => ⟨fun h => h.elim, fun ⟨e, he, _⟩ => (by cases he)⟩, List.nodup_nil, fun e he => (by cases he)⟩ (fun b h => h.elim) ?_
  obtain ⟨R0, hR0⟩ : ∃ R0, R0 = ListsR w ((ordersL r).take most) := ⟨_, rfl⟩
  rw [← hR0]
  refine RunF_sound tab_ok (rowsX_local []) 100 [] _ _ rfl ?_ ?_
  · simp
  refine Run.callFn (r := encRel (rightL r)) (rowsX_local []) rfl rfl rfl rfl rfl rfl rfl rightR_enters rfl (fun w' _ => rightR_ok r w') ?_
  refine RunF_sound tab_ok (rowsX_local []) 100 [] _ _ rfl ?_ ?_
  · simp [segsVals, relV_one', okCell, ofConst]
    rfl
  have hac : ∀ w', Gives Tryd.prog 47 [encRel (rightL r)] w' (.bool (irB (clos (rightL r)))) := fun w' => by
    have := acyclicR_ok (rightL r) w'
    rwa [rightL_idem] at this
  refine Run.callFn (r := .bool (irB (clos (rightL r)))) (rowsX_local []) rfl rfl rfl rfl rfl rfl rfl acyclicR_enters rfl (fun w' _ => hac w') ?_
  by_cases c : irB (clos (rightL r)) = true
  · have hor : ordersL r = extL (aheadL (rightL r)) (sizeL r) (sizeL r) [] 0#64 := by
      rw [ordersL, if_pos c]
      unfold aheadL
      rw [rightL_idem]
    have hRr := rt_right r
    have hn : (rightL r).n = (sizeL r : Int) := by unfold sizeL; have := hRr.lo; omega
    rw [c]
    refine RunF_sound tab_ok (rowsX_local []) 100 [false] _ _ rfl ?_ ?_
    · simp
    refine Run.give 1 (B := .cells 53 [.one (.v (.slice none 0 0))]) (fun M => outX (M 1).1 []) (fun M => [(5, .v (.pointer (some ⟨(M 1).1, 0, none⟩))), (11, .v (encRel (rightL r))), (12, .v (.int .i64 (most : Int)))]) [] 2 rfl trivial rfl ?_ ?_ ?_
    · exact fun M => ⟨⟨_, rfl, by simp [conc]⟩, ⟨_, rfl, rfl⟩, ⟨_, rfl, rfl⟩, trivial⟩
    · exact fun M w hb => out_join hb
    intro M
    generalize (M 1).1 = po
    refine Run.callK (xs := [.v (encRel (rightL r)), .v (.slice none 0 0), .v (.int .i64 (most : Int)), .v (.pointer (some ⟨po, 0, none⟩))]) (caps := []) rfl rfl rfl rfl rfl rfl more_enters rfl fun M fp1 a w1 hRl => ?_
    have ea : concL M ([AV.v (encRel (rightL r)), .v (.slice none 0 0), .v (.int .i64 (most : Int)), .v (.pointer (some ⟨po, 0, none⟩))] ++ []) = [encRel (rightL r), .slice none ([] : List Nat).length 0, .int .i64 (most : Int), .pointer (some ⟨po, 0, none⟩)] := by simp [concL, conc]
    rw [ea]
    refine Calls.mono' (more_ok (rightL r) hRr (sizeL r) hn po most hmost (sizeL r) [] 0#64 none 0 w1 fp1 [] (by simp) (fun b _ => by rw [BitVec.getLsbD_zero]; simp) hRl.outer (fun b hb => (hRl.fpok b hb).1) (seesN_nil w1 none) (fun a h => by cases h) (fun _ => ⟨rfl, rfl⟩) (by simp)) ?_
    rintro e w' ⟨v, h1, fp', hg, hX'⟩
    rw [List.nil_append, List.length_nil, Nat.sub_zero, ← hor] at hX'
    refine ⟨v, h1, outX po ((ordersL r).take most), M, fp', _, .v v, by simp [conc], hRl.grown hg hX', ?_⟩
    refine Run.exX (fun x => outS po x.1) (α := { x : Option (Nat × Nat) × List Ent // x.2.map (fun e => e.2.2) = (ordersL r).take most }) (fun w fp ⟨br, s, h2, h3⟩ => ⟨⟨(br, s), h2⟩, h3⟩) ?_
    rintro ⟨⟨br, s⟩, hs⟩
    refine RunF_sound tab_ok (outS_local po (br, s)) 3 [] _ _ rfl ?_ ?_
    · simp
    refine Run.loadX (Q := fun v => v = brV br s.length) tab_ok rfl rfl rfl rfl rfl (fun w' fp' h => ⟨_, rfl, out_cell h⟩) rfl rfl ?_
    rintro v rfl
    refine RunF_sound tab_ok (outS_local po (br, s)) 100 [] _ _ rfl ?_ ?_
    · simp
    refine Run.retM (Ds := []) tab_ok (outS_local po (br, s)) Tryd.func55 rfl trivial fun M fp a w' hr => ?_
    rw [hR0]
    have hO : OutSt w' fp po br s := hr.outer
    have hnw : ∀ x, fp x → w.heap.size ≤ x := fun x hx => Nat.le_of_not_lt fun hlt => (hr.fpok x hx).2 hlt
    have hbx := hO.box
    refine ⟨hr.agree, s, ?_⟩
    cases br with
    | none =>
      obtain ⟨rfl, _⟩ := hbx
      exact ⟨none, 0, by simp [conc, resAV, brV], hs, ⟨fun i h => absurd h (Nat.not_lt_zero _), fun e he => (by cases he)⟩, fun a h => (by cases h), fun e he => (by cases he)⟩
    | some x =>
      obtain ⟨h1, h2, h3, h4, h5⟩ := hbx
      refine ⟨some ⟨x.1, 0, none⟩, x.2, by simp [conc, resAV, brV], hs, ⟨fun i h => ⟨rfl, ?_⟩, fun e he => (hO.ent e he).1⟩, fun a h => ?_, fun e he => hnw _ ((hO.foot _).2 (.inr (.inr ⟨e, he, rfl⟩)))⟩
      · have := row_cells h4 i (slV s[i]) (by rw [List.getElem?_map, List.getElem?_eq_getElem h]; rfl)
        rw [Option.getD_some, Addr.add_lit]
        exact this
      · cases h
        exact hnw _ ((hO.foot _).2 (.inr (.inl ⟨x.2, rfl⟩)))
  · have hor : ordersL r = [] := by rw [ordersL, if_neg c]
    rw [Bool.not_eq_true] at c
    rw [c]
    refine RunF_sound tab_ok (rowsX_local []) 100 [true] _ _ rfl ?_ ?_
    · simp
    refine Run.retM (Ds := []) tab_ok (rowsX_local []) Tryd.func55 rfl trivial fun M fp a w' hr => ?_
    rw [hR0, hor]
    exact ⟨hr.agree, [], none, 0, rfl, by simp, ⟨fun i h => absurd h (Nat.not_lt_zero _), fun e he => (by cases he)⟩, fun a h => (by cases h), fun e he => (by cases he)⟩
end Go.Proofs.YtocpkgckllbjlaaDoor

/-
  Lists of ints compared; the test of an order, of any list. Own work.
-/
namespace Go.Proofs.YtocpkgckllbjlaaDoor
open Go.AM
set_option maxRecDepth 100000

/-- A slice of ints, as it lies in a world. -/
def SeesZ (w : World) (p : Option Addr) (xs : List Int) : Prop :=
  ∀ i (h : i < xs.length), p = some (p.getD default) ∧ w.cell? ((p.getD default).add i) = some (.int .i64 xs[i])

theorem SeesZ.agree {S : Nat → Prop} {w w' : World} {p : Option Addr} {xs : List Int} (h : SeesZ w p xs) (hA : Agree S w w') (hS : ∀ a, p = some a → ¬ S a.block) : SeesZ w' p xs := by
  intro i hi
  obtain ⟨h1, h2⟩ := h i hi
  exact ⟨h1, hA.cell h2 (by rw [add_block]; exact hS _ h1)⟩

def castZ (ys : List Nat) : List Int := ys.map fun k : Nat => (k : Int)
theorem castZ_len (ys : List Nat) : (castZ ys).length = ys.length := by simp [castZ]
theorem SeesN.ints {w : World} {p : Option Addr} {ys : List Nat} (h : SeesN w p ys) : SeesZ w p (castZ ys) := by
  intro i hi
  have := h i (by simpa [castZ] using hi)
  simpa [castZ] using this

/-- Are two lists alike from a place on? -/
theorem sameIntsZ_ok (p q : Option Addr) (c d : Nat) (xs ys : List Int) (w : World) (hx : SeesZ w p xs) (hy : SeesZ w q ys) (hl : xs.length ≤ maxLen) :
    Gives Tryd.prog 53 [.slice p xs.length c, .slice q ys.length d] w (.bool (decide (xs = ys))) := by
  refine Gives.of_run Tryd.func53 rfl (by show 2 ≤ 26; decide) ?_
  have hml : maxLen = 9223372036854775807 := rfl
  by_cases hlen : xs.length = ys.length
  · refine RunF_sound tab_ok noX_local 100 [false] _ _ rfl ?_ ?_
    · simp [hlen]
    suffices H : ∀ (m i : Nat), i + m = xs.length → xs.take i = ys.take i → ∀ σ, inT σ.t [(0, .v (.slice p xs.length c)), (1, .v (.slice q ys.length d)), (5, .v (.int .i64 (i : Int)))] → inT σ.h [] → Run _ _ σ by
      exact H xs.length 0 (by omega) rfl _ ⟨rfl, rfl, rfl, trivial⟩ trivial
    intro m
    induction m with
    | zero =>
      intro i hi he σ ht hh
      refine Run.to ?_ ht hh (n' := 0)
      refine RunF_sound tab_ok noX_local 100 [false] _ _ rfl ?_ ?_
      · simp; omega
      refine Run.retP tab_ok Tryd.func53 rfl trivial (fun M => ?_)
      have : xs = ys := by rw [List.take_of_length_le (by omega), List.take_of_length_le (by omega)] at he; exact he
      simp [conc, this]
    | succ m ih =>
      intro i hi he σ ht hh
      refine Run.to ?_ ht hh (n' := 0)
      have hix : i < xs.length := by omega
      have hiy : i < ys.length := by omega
      obtain ⟨hp, hpc⟩ := hx i hix
      obtain ⟨hq, hqc⟩ := hy i hiy
      refine RunF_sound tab_ok noX_local 100 [true] _ _ rfl ?_ ?_
      · simp; omega
      refine Run.drawA noX_local rfl [] [] rfl rfl trivial ?_
      refine RunOF_sound tab_ok noX_local rfl rfl 100 [] _ _ rfl ?_ ?_
      · simp only [fnC_w0, fnC_S0, Int.toNat_natCast, Nat.mul_one, hpc, hqc]
        simp
        (repeat' refine And.intro ?_ ?_) <;> first | omega | exact hp | exact hq
      refine RunO.done ?_
      simp only [fnC_w0, Int.toNat_natCast, Nat.mul_one, hpc, hqc]
      by_cases c0 : xs[i] = ys[i]
      · refine RunF_sound tab_ok noX_local 100 [false] _ _ rfl ?_ ?_
        · simp [c0]
        refine ih (i + 1) (by omega) ?_ _ ⟨rfl, rfl, i64_eq (wrap_succ (by omega)), trivial⟩ trivial
        rw [List.take_succ_eq_append_getElem hix, List.take_succ_eq_append_getElem hiy, he, c0]
      · refine RunF_sound tab_ok noX_local 100 [true] _ _ rfl ?_ ?_
        · simp [c0]
        refine Run.retP tab_ok Tryd.func53 rfl trivial (fun M => ?_)
        have : xs ≠ ys := fun e => by subst e; exact c0 rfl
        simp [conc, this]
  · refine RunF_sound tab_ok noX_local 100 [true] _ _ rfl ?_ ?_
    · simp; omega
    refine Run.retP tab_ok Tryd.func53 rfl trivial (fun M => ?_)
    have : xs ≠ ys := fun e => by subst e; exact hlen rfl
    simp [conc, this]

theorem below_ok (p q : Option Addr) (c d : Nat) (xs ys : List Nat) (w : World) (hx : SeesN w p xs) (hy : SeesN w q ys) (hlen : xs.length = ys.length) (hm : xs.length ≤ maxLen) :
    Gives Tryd.prog 67 [.slice p xs.length c, .slice q ys.length d] w (.bool (belowL xs ys)) := by
  refine Gives.of_run Tryd.func67 rfl (by show 2 ≤ 36; decide) ?_
  have hml : maxLen = 9223372036854775807 := rfl
  obtain ⟨B, hB⟩ : ∃ B, B = belowL xs ys := ⟨_, rfl⟩
  rw [← hB]
  refine RunF_sound tab_ok noX_local 100 [] _ _ rfl ?_ ?_
  · simp
  suffices H : ∀ (m i : Nat), i + m = xs.length → B = belowL (xs.drop i) (ys.drop i) → ∀ σ, inT σ.t [(0, .v (.slice p xs.length c)), (1, .v (.slice q ys.length d)), (5, .v (.int .i64 (i : Int)))] → inT σ.h [] → Run _ _ σ by
    exact H xs.length 0 (by omega) hB _ ⟨rfl, rfl, rfl, trivial⟩ trivial
  intro m
  induction m with
  | zero =>
    intro i hi he σ ht hh
    refine Run.to ?_ ht hh (n' := 0)
    rw [List.drop_of_length_le (by omega)] at he
    have hf : B = false := by rw [he]; simp [belowL]
    refine RunF_sound tab_ok noX_local 100 [false] _ _ rfl ?_ ?_
    · simp; omega
    exact Run.retP tab_ok Tryd.func67 rfl trivial (fun M => by rw [hf]; rfl)
  | succ m ih =>
    intro i hi he σ ht hh
    refine Run.to ?_ ht hh (n' := 0)
    have hix : i < xs.length := by omega
    have hiy : i < ys.length := by omega
    obtain ⟨hp, hpc⟩ := hx i hix
    obtain ⟨hq, hqc⟩ := hy i hiy
    rw [List.drop_eq_getElem_cons hix, List.drop_eq_getElem_cons hiy] at he
    refine RunF_sound tab_ok noX_local 100 [true, true] _ _ rfl ?_ ?_
    · simp; omega
    refine Run.to (t' := [(0, .v (.slice p xs.length c)), (1, .v (.slice q ys.length d)), (5, .v (.int .i64 (i : Int)))]) (h' := []) (n' := 0) ?_ ⟨rfl, rfl, rfl, trivial⟩ trivial
    refine Run.drawA noX_local rfl [] [] rfl rfl trivial ?_
    refine RunOF_sound tab_ok noX_local rfl rfl 100 [] _ _ rfl ?_ ?_
    · simp only [fnC_w0, fnC_S0, Int.toNat_natCast, Nat.mul_one, hpc, hqc]
      simp
      (repeat' refine And.intro ?_ ?_) <;> first | omega | exact hp | exact hq
    refine RunO.done ?_
    simp only [fnC_w0, Int.toNat_natCast, Nat.mul_one, hpc, hqc]
    by_cases c0 : xs[i] = ys[i]
    · refine RunF_sound tab_ok noX_local 100 [false] _ _ rfl ?_ ?_
      · simp [c0]
      refine ih (i + 1) (by omega) ?_ _ ⟨rfl, rfl, i64_eq (wrap_succ (by omega)), trivial⟩ trivial
      rw [he, belowL, if_pos c0]
    · refine RunF_sound tab_ok noX_local 100 [true] _ _ rfl ?_ ?_
      · simp; omega
      refine Run.to (t' := [(0, .v (.slice p xs.length c)), (1, .v (.slice q ys.length d)), (5, .v (.int .i64 (i : Int)))]) (h' := []) (n' := 0) ?_ ⟨rfl, rfl, rfl, trivial⟩ trivial
      refine Run.drawA noX_local rfl [] [] rfl rfl trivial ?_
      refine RunOF_sound tab_ok noX_local rfl rfl 100 [] _ _ rfl ?_ ?_
      · simp only [fnC_w0, fnC_S0, Int.toNat_natCast, Nat.mul_one, hpc, hqc]
        simp
        (repeat' refine And.intro ?_ ?_) <;> first | omega | exact hp | exact hq
      refine RunO.done ?_
      simp only [fnC_w0, Int.toNat_natCast, Nat.mul_one, hpc, hqc]
      refine RunF_sound tab_ok noX_local 100 [] _ _ rfl ?_ ?_
      · simp
      refine Run.retP tab_ok Tryd.func67 rfl trivial (fun M => ?_)
      rw [he, belowL, if_neg c0]
      simp [conc]
theorem below_enters : Enters Tryd.prog 67 := enters_mk Tryd.func67 (by decide) rfl

theorem ranL_get {Z : Rl} (hZ : Rt Z) {a b : Nat} (h : Z.has a b = true) : ranL Z ≠ 0#64 := by
  intro e
  unfold ranL at e
  rw [hZ.right] at e
  have hi := invR_rt hZ
  unfold invR at hi
  rw [hi.right] at e
  have hb := (Rl.has_lt Z h).2
  have := congrArg (fun z : BitVec 64 => z.getLsbD b) e
  simp only [BitVec.getLsbD_zero] at this
  rw [domL, domP_get, decide_eq_true hb, Bool.true_and, Bool.true_and, Bool.not_eq_false'] at this
  have h1 : (Rl.gen Z.n fun x y => Z.has y x).has b a = true := (invR_has Z b a).2 h
  rw [Rl.has, eq_of_beq this, BitVec.getLsbD_zero] at h1
  cases h1

set_option maxHeartbeats 1000000 in
theorem forwardG_ok {R : Rl} (hR : Rt R) {n : Nat} (hn : R.n = (n : Int)) (p : Option Addr) (c : Nat) (l : List Int) (w : World) (hs : SeesZ w p l) (hT : TabAt w) (h0 : 0 < w.heap.size) :
    Gives Tryd.prog 66 [encRel R, .slice p l.length c] w (.bool (decide (l.length = n) && fwdGo R n 0#64 l)) := by
  refine Gives.of_run Tryd.func66 rfl (by show 2 ≤ 57; decide) ?_
  have hn64 : n ≤ 64 := by have := hR.hi; omega
  by_cases hl : l.length = n
  · rw [decide_eq_true hl, Bool.true_and]
    refine RunF_sound tab_ok noX_local 100 [false] _ _ rfl ?_ ?_
    · simp [hl, hn]
    obtain ⟨B, hB⟩ : ∃ B, B = fwdGo R n 0#64 l := ⟨_, rfl⟩
    rw [← hB]
    suffices H : ∀ (m i : Nat) (dn : BitVec 64), i + m = n → B = fwdGo R n dn (l.drop i) → Run _ _ ⟨[(1, .v (.slice p l.length c)), (2, .ptr 0 0), (5, .v (.int .u64 (un dn))), (6, .v (.int .i64 (i : Int)))], [(0, .cells 25 [.vals 65 (relV R)])], 1⟩ by
      exact Run.to (H n 0 0#64 (by omega) hB) ⟨rfl, rfl, rfl, rfl, trivial⟩ ⟨rfl, trivial⟩
    intro m
    induction m with
    | zero =>
      intro i dn hi hb
      rw [List.drop_of_length_le (by omega)] at hb
      subst hb
      refine RunF_sound tab_ok noX_local 100 [false] _ _ rfl ?_ ?_
      · simp; omega
      exact Run.retP tab_ok Tryd.func66 rfl trivial (fun M => rfl)
    | succ m ih =>
      intro i dn hi hb
      have hil : i < l.length := by omega
      rw [List.drop_eq_getElem_cons hil] at hb
      obtain ⟨hp, hpc⟩ := hs i hil
      generalize l[i] = v at *
      refine RunF_sound tab_ok noX_local 100 [true] _ _ rfl ?_ ?_
      · simp only [fnC_w0, fnC_S0, Int.toNat_natCast, Nat.mul_one, hpc]
        simp
        (repeat' refine And.intro ?_ ?_) <;> first | omega | exact hp
      simp only [fnC_w0, Int.toNat_natCast, Nat.mul_one, hpc]
      refine Run.to (t' := [(1, .v (.slice p l.length c)), (2, .ptr 0 0), (5, .v (.int .u64 (un dn))), (6, .v (.int .i64 (i : Int))), (7, .v (.int .i64 v))]) (h' := [(0, .cells 25 [.vals 65 (relV R)])]) (n' := 1) ?_ ⟨rfl, rfl, rfl, rfl, rfl, trivial⟩ ⟨rfl, trivial⟩
      refine Run.drawA noX_local rfl [] [(0, .cells 25 [.vals 65 (relV R)])] rfl rfl ⟨rfl, trivial⟩ ?_
      by_cases c1 : v < 0
      · have hf : B = false := by rw [hb]; simp [fwdGo]; omega
        refine RunOF_sound tab_ok noX_local rfl rfl 200 [true] _ _ rfl ?_ ?_
        · simp only []
          simp [c1]
        refine RunO.done ?_
        refine RunF_sound tab_ok noX_local 100 [] _ _ rfl ?_ ?_
        · simp
        exact Run.retP tab_ok Tryd.func66 rfl trivial (fun M => by rw [hf]; rfl)
      by_cases c2 : v ≥ (n : Int)
      · have hf : B = false := by rw [hb]; simp [fwdGo]; omega
        refine RunOF_sound tab_ok noX_local rfl rfl 200 [false, true] _ _ rfl ?_ ?_
        · simp only []
          simp [hn]; omega
        refine RunO.done ?_
        refine RunF_sound tab_ok noX_local 100 [] _ _ rfl ?_ ?_
        · simp
        exact Run.retP tab_ok Tryd.func66 rfl trivial (fun M => by rw [hf]; rfl)
      obtain ⟨v, rfl⟩ := Int.eq_ofNat_of_zero_le (show 0 ≤ v by omega)
      have hv64 : v < 64 := by omega
      have hbe := bit_eq dn (v : Int)
      rw [Int.toNat_natCast, shr_un, Int.toNat_natCast] at hbe
      by_cases c3 : dn.getLsbD v = true
      · have hf : B = false := by rw [hb]; simp [fwdGo, c3]
        rw [c3] at hbe
        have hb1 : band .u64 (un (dn >>> v)) 1 = 1 := by simpa using hbe
        refine RunOF_sound tab_ok noX_local rfl rfl 200 [false, false, true] _ _ rfl ?_ ?_
        · simp only []
          simp [hn, hb1]; omega
        refine RunO.done ?_
        refine RunF_sound tab_ok noX_local 100 [] _ _ rfl ?_ ?_
        · simp
        exact Run.retP tab_ok Tryd.func66 rfl trivial (fun M => by rw [hf]; rfl)
      rw [Bool.not_eq_true] at c3
      rw [c3] at hbe
      have hb0 : ¬ band .u64 (un (dn >>> v)) 1 = 1 := by simpa using hbe
      have hZr := cross_rt hR.lo hR.hi (1#64 <<< v) dn
      have hZn := cross_n hR.lo hR.hi (1#64 <<< v) dn
      have hZ := twoR_rt 1 hR hZr hZn.symm
      have hZh : ∀ a b, (twoR 1 R (crossL R.n (1#64 <<< v) dn)).has a b = true ↔ a = v ∧ R.has v b = true ∧ dn.getLsbD b = true := by
        intro a b
        rw [meet_has hR hZr hZn.symm, cross_has hR.lo hR.hi, one_shl_get v a hv64, decide_eq_true_eq]
        constructor
        · rintro ⟨h1, _, rfl, h2⟩; exact ⟨rfl, h1, h2⟩
        · rintro ⟨rfl, h1, h2⟩
          have := hR.lt _ _ h1
          exact ⟨h1, this, rfl, h2⟩
      have k1 : ∀ w', Gives Tryd.prog 30 [encRel R, .int .u64 (un (1#64 <<< v)), .int .u64 (un dn)] w' (encRel (twoR 1 R (crossL R.n (1#64 <<< v) dn))) := fun w' => restrictT hR _ _ w'
      have k2 : ∀ w', Agree (fun _ => False) w w' → Gives Tryd.prog 40 [encRel (twoR 1 R (crossL R.n (1#64 <<< v) dn))] w' (.int .u64 (un (ranL (twoR 1 R (crossL R.n (1#64 <<< v) dn))))) := fun w' hA => range_ok _ w' (hT.agree hA (fun f => f)) (Nat.lt_of_lt_of_le h0 hA.size)
      have kz : (∃ b, R.has v b = true ∧ dn.getLsbD b = true) → ranL (twoR 1 R (crossL R.n (1#64 <<< v) dn)) ≠ 0#64 := fun ⟨b, h1, h2⟩ => ranL_get hZ ((hZh v b).2 ⟨rfl, h1, h2⟩)
      have ky : (¬ ∃ b, R.has v b = true ∧ dn.getLsbD b = true) → ∀ w', Agree (fun _ => False) w w' → Gives Tryd.prog 40 [encRel (twoR 1 R (crossL R.n (1#64 <<< v) dn))] w' (.int .u64 0) := fun hno w' hA =>
        rangeT hZ (fun a b h => hno ⟨b, ((hZh a b).1 h).2⟩) w' (hT.agree hA (fun f => f)) (Nat.lt_of_lt_of_le h0 hA.size)
      have k3 : ∀ w', Gives Tryd.prog 16 [encRel R, .int .i64 (v : Int), .int .i64 (v : Int)] w' (.bool (R.has v v)) := fun w' => by
        have := has_ok R v v w'
        rw [hR.right, hasI_in (by omega) (by omega)] at this
        exact this
      have hx4 : ((List.range 64).all fun b => !(R.has v b && dn.getLsbD b)) = true ↔ ¬ ∃ b, R.has v b = true ∧ dn.getLsbD b = true := by
        rw [List.all_eq_true]
        constructor
        · rintro h ⟨b, h1, h2⟩
          have := h b (List.mem_range.2 (Rl.has_lt R h1).2)
          rw [h1, h2] at this; cases this
        · intro h b _
          by_cases q1 : R.has v b = true
          · by_cases q2 : dn.getLsbD b = true
            · exact absurd ⟨b, q1, q2⟩ h
            · rw [Bool.not_eq_true] at q2; rw [q2]; simp
          · rw [Bool.not_eq_true] at q1; rw [q1]; simp
      have hgo : fwdGo R n dn ((v : Int) :: l.drop (i + 1)) = ((((List.range 64).all fun b => !(R.has v b && dn.getLsbD b)) && !R.has v v) && fwdGo R n (dn ||| 1#64 <<< v) (l.drop (i + 1))) := by
        rw [fwdGo, Int.toNat_natCast, decide_eq_true (show (0 : Int) ≤ v by omega), decide_eq_true (show (v : Int) < n by omega), c3]
        simp only [Bool.true_and, Bool.not_false, Bool.and_true]
      rw [hgo] at hb
      generalize twoR 1 R (crossL R.n (1#64 <<< v) dn) = Z at *
      refine RunOF_sound tab_ok noX_local rfl rfl 200 [false, false, false] _ _ rfl ?_ ?_
      · simp only []
        simp [hn]
        exact ⟨by omega, hb0⟩
      refine RunO.callFn (r := encRel Z) noX_local rfl rfl rfl rfl rfl rfl rfl rfl restrict_enters rfl (fun w' _ => ?_) ?_
      · have := k1 w'
        rw [← shl1_un' v] at this
        exact this
      refine RunOF_sound tab_ok noX_local rfl rfl 200 [] _ _ rfl ?_ ?_
      · simp
      by_cases c4 : ∃ b, R.has v b = true ∧ dn.getLsbD b = true
      · have hf : B = false := by
          rw [hb, Bool.eq_false_iff.2 (fun h => hx4.1 h c4)]; rfl
        have hz := kz c4
        generalize ranL Z = rz at *
        refine RunO.callFn (r := .int .u64 (un rz)) noX_local rfl rfl rfl rfl rfl rfl rfl rfl range_enters rfl (fun w' hA => k2 w' hA) ?_
        refine RunOF_sound tab_ok noX_local rfl rfl 200 [true] _ _ rfl ?_ ?_
        · simp
          exact hz
        refine RunO.done ?_
        refine RunF_sound tab_ok noX_local 100 [] _ _ rfl ?_ ?_
        · simp
        exact Run.retP tab_ok Tryd.func66 rfl trivial (fun M => by rw [hf]; rfl)
      rw [hx4.2 c4, Bool.true_and] at hb
      refine RunO.callFn (r := .int .u64 0) noX_local rfl rfl rfl rfl rfl rfl rfl rfl range_enters rfl (fun w' hA => ky c4 w' hA) ?_
      refine RunOF_sound tab_ok noX_local rfl rfl 200 [false] _ _ rfl ?_ ?_
      · simp
      generalize R.has v v = bv at *
      refine RunO.callFn (r := .bool bv) noX_local rfl rfl rfl rfl rfl rfl rfl rfl has_enters rfl (fun w' _ => k3 w') ?_
      refine RunOF_sound tab_ok noX_local rfl rfl 200 [] _ _ rfl ?_ ?_
      · simp
      refine RunO.done ?_
      cases bv with
      | true =>
        refine RunF_sound tab_ok noX_local 100 [true] _ _ rfl ?_ ?_
        · simp
        exact Run.retP tab_ok Tryd.func66 rfl trivial (fun M => by rw [hb]; rfl)
      | false =>
        refine RunF_sound tab_ok noX_local 100 [false] _ _ rfl ?_ ?_
        · simp
        refine Run.to (ih (i + 1) (dn ||| 1#64 <<< v) (by omega) (by rw [hb]; simp)) ⟨rfl, rfl, u64_eq ?_, i64_eq (wrap_succ (by omega)), trivial⟩ ⟨rfl, trivial⟩
        rw [shl1_un, bor_un, Int.toNat_natCast]
  · rw [decide_eq_false hl, Bool.false_and]
    refine RunF_sound tab_ok noX_local 100 [true] _ _ rfl ?_ ?_
    · simp [hn]
      omega
    exact Run.retP tab_ok Tryd.func66 rfl trivial (fun M => rfl)
end Go.Proofs.YtocpkgckllbjlaaDoor

/-
  The document's Extend and Reduce; lists of lists compared. Own work.
-/
namespace Go.Proofs.YtocpkgckllbjlaaDoor
open Go.AM
set_option maxRecDepth 100000

theorem ordersL_right (r : Rl) : ordersL (rightL r) = ordersL r := by
  unfold ordersL aheadL sizeL
  rw [rightL_idem]

theorem entSees' {w : World} {e : Ent} (h : EntAt w e) : SeesN w (some ⟨e.1, 0, none⟩) e.2.2 := seesN_row h
theorem slOf_eq' {w : World} {a : Addr} {e : Ent} (h : w.cell? a = some (slV e)) : Value.slice (slOf (w.cell? a)).1 (slOf (w.cell? a)).2.1 (slOf (w.cell? a)).2.2 = slV e := by rw [h]; rfl
theorem extendsR_enters : Enters Tryd.prog 55 := enters_mk Tryd.func55 (by decide) rfl


set_option maxHeartbeats 1000000 in
theorem extendR_ok (r : Rl) (w : World) : GivesR Tryd.prog 50 [encRel r] w (fun v w' => Agree (fun _ => False) w w' ∧ ∃ (p : Option Addr) (l : List Nat) (c : Nat) (b : Bool), v = .tuple #[.slice p l.length c, .bool b] ∧ extendL r = (if b then some l else none) ∧ (b = false → l = []) ∧ SeesN w' p l ∧ ∀ a, p = some a → w.heap.size ≤ a.block) := by
  refine givesX_of_run (S0 := fun _ => False) (X := noX) (fp := fun _ => False) Tryd.func50 rfl (by show 1 ≤ 13; decide) trivial (fun b h => h.elim) ?_
  obtain ⟨R0, hR0⟩ : ∃ R0 : Value → World → Prop, R0 = fun v w' => Agree (fun _ => False) w w' ∧ ∃ (p : Option Addr) (l : List Nat) (c : Nat) (b : Bool), v = .tuple #[.slice p l.length c, .bool b] ∧ extendL r = (if b then some l else none) ∧ (b = false → l = []) ∧ SeesN w' p l ∧ ∀ a, p = some a → w.heap.size ≤ a.block := ⟨_, rfl⟩
  rw [← hR0]
  refine RunF_sound tab_ok noX_local 100 [] _ _ rfl ?_ ?_
  · simp
  refine Run.callFn (r := .bool (irB (clos (rightL r)))) noX_local rfl rfl rfl rfl rfl rfl rfl acyclicR_enters rfl (fun w' _ => acyclicR_ok r w') ?_
  by_cases c : irB (clos (rightL r)) = true
  · have hne : ordersL r ≠ [] := by
      have := orders_ex (rt_right r) c
      rwa [ordersL_right] at this
    obtain ⟨x, os, hos⟩ := List.exists_cons_of_ne_nil hne
    rw [c]
    refine RunF_sound tab_ok noX_local 100 [false] _ _ rfl ?_ ?_
    · simp
    refine Run.callR noX_local rfl rfl rfl rfl rfl rfl extendsR_enters rfl (fun M w' _ _ => extendsR_ok r 1 (by decide) w') ?_
    rintro v w2 w1 S1 hag hag2 ⟨s, p, c, rfl, hs, hsee, hpn, hen⟩ hS1
    have hB1 := (Based.refl w).call hag hag2 hS1
    refine ⟨.v (.slice p s.length c), fun M => rfl, ?_⟩
    rw [hos] at hs
    simp only [List.take_succ_cons, List.take_zero] at hs
    obtain ⟨e, rfl⟩ : ∃ e, s = [e] := by
      cases s with
      | nil => cases hs
      | cons e s =>
        cases s with
        | nil => exact ⟨e, rfl⟩
        | cons e1 s => cases hs
    have hex : e.2.2 = x := by simpa using hs
    obtain ⟨hp, hpc⟩ := hsee.1 0 (by simp)
    simp only [List.getElem_cons_zero] at hpc
    have hpS : ¬ S1 ((p.getD default).add 0).block := by rw [add_block]; exact hS1.new _ (hpn _ hp)
    refine RunF_sound tab_ok noX_local 100 [] _ _ rfl ?_ ?_
    · simp only []
      simp
      exact ⟨hp, by rw [slOf_eq' hpc]; exact hpc, hpS⟩
    refine Run.retM (Ds := []) tab_ok noX_local Tryd.func50 rfl trivial fun M fp a w' hr => ?_
    rw [hR0]
    have hnS : ¬ S1 e.1 := hS1.new _ (hen e (by simp))
    refine ⟨hB1.later hr.agree, some ⟨e.1, 0, none⟩, x, e.2.1, true, ?_, by simp [extendL, hos], fun h => (by cases h), ?_, fun a h => ?_⟩
    · have h2 : Value.slice (slOf (w1.cell? ((p.getD default).add 0))).1 (slOf (w1.cell? ((p.getD default).add 0))).2.1 (slOf (w1.cell? ((p.getD default).add 0))).2.2 = slV e := slOf_eq' hpc
      simp only [resAV, conc, concL]
      exact congrArg (fun z => Value.tuple #[z, .bool true]) (h2.trans (by rw [slV, hex]))
    · rw [← hex]
      exact (entSees' (hsee.2 e (by simp))).agree hr.agree (fun a h => by cases h; exact hnS)
    · cases h
      have h1 := hen e (by simp)
      have h2 := hag.size
      exact Nat.le_trans h2 h1
  · have hor : ordersL r = [] := by rw [ordersL, if_neg c]
    rw [Bool.not_eq_true] at c
    rw [c]
    refine RunF_sound tab_ok noX_local 100 [true] _ _ rfl ?_ ?_
    · simp
    refine Run.retM (Ds := []) tab_ok noX_local Tryd.func50 rfl trivial fun M fp a w' hr => ?_
    rw [hR0]
    exact ⟨hr.agree, none, [], 0, false, rfl, by simp [extendL, hor], fun _ => rfl, seesN_nil w' none, fun a h => (by cases h)⟩
theorem extendR_enters : Enters Tryd.prog 50 := enters_mk Tryd.func50 (by decide) rfl

theorem twoL_right1 (r s : Rl) : twoL (rightL r) s = twoL r s := by unfold twoL; rw [rightL_idem]
theorem twoR_right1 (op : Nat) (r s : Rl) : twoR op (rightL r) s = twoR op r s := by unfold twoR; rw [twoL_right1]

theorem redR_alt {R : Rl} (hR : Rt R) : twoR 3 (clos R) (clos R) = twoR 3 R (clos R) := by
  have hc := clos_rt hR
  have hn := clos_n R
  refine rl_eq ?_ fun a b => ?_
  · rw [twoR_n 3 hc hc rfl, twoR_n 3 hR hc hn.symm, hn]
  · rw [comp_has hc hc rfl, comp_has hR hc hn.symm]
    constructor
    · rintro ⟨c, h1, h2⟩
      rcases clos_first hR h1 with h | ⟨d, h3, h4⟩
      · exact ⟨c, h, h2⟩
      · exact ⟨d, h3, clos_trans hR _ _ _ h4 h2⟩
    · rintro ⟨c, h1, h2⟩
      exact ⟨c, clos_sub hR _ _ h1, h2⟩

theorem redL_alt (r : Rl) : redL r = if irB (clos (rightL r)) = true then twoR 2 (rightL r) (twoR 3 (clos (rightL r)) (clos (rightL r))) else Rl.void 0 := by
  unfold redL
  by_cases c : irB (clos (rightL r)) = true
  · rw [if_pos c, if_pos c, redR_alt (rt_right r), twoR_right1, twoR_right1]
  · rw [if_neg c, if_neg c]

set_option maxHeartbeats 1000000 in
theorem reduceR_ok (r : Rl) (w : World) : Gives Tryd.prog 52 [encRel r] w (.tuple #[encRel (redL r), .bool (irB (clos (rightL r)))]) := by
  refine Gives.of_run Tryd.func52 rfl (by show 1 ≤ 20; decide) ?_
  have hred := redL_alt r
  have ka : ∀ w', Gives Tryd.prog 47 [encRel (rightL r)] w' (.bool (irB (clos (rightL r)))) := fun w' => by
    have := acyclicR_ok (rightL r) w'; rwa [rightL_idem] at this
  have kp : ∀ w', Gives Tryd.prog 35 [encRel (rightL r)] w' (encRel (clos (rightL r))) := fun w' => by
    have := plusR_ok (rightL r) w'; rwa [rightL_idem] at this
  refine RunF_sound tab_ok noX_local 100 [] _ _ rfl ?_ ?_
  · simp
  refine Run.callFn (r := encRel (rightL r)) noX_local rfl rfl rfl rfl rfl rfl rfl rightR_enters rfl (fun w' _ => rightR_ok r w') ?_
  generalize rightL r = A at *
  have k3 : ∀ w', Gives Tryd.prog 22 [.int .i64 3, encRel (clos A), encRel (clos A)] w' (encRel (twoR 3 (clos A) (clos A))) := fun w' => two_R 3 (by decide) _ _ w'
  generalize clos A = P at *
  have k2 : ∀ w', Gives Tryd.prog 22 [.int .i64 2, encRel A, encRel (twoR 3 P P)] w' (encRel (twoR 2 A (twoR 3 P P))) := fun w' => two_R 2 (by decide) _ _ w'
  generalize twoR 3 P P = Q at *
  generalize twoR 2 A Q = D at *
  refine RunF_sound tab_ok noX_local 100 [] _ _ rfl ?_ ?_
  · simp [segsVals, relV_one']
  refine Run.callFn (r := .bool (irB P)) noX_local rfl rfl rfl rfl rfl rfl rfl acyclicR_enters rfl (fun w' _ => ka w') ?_
  by_cases c : irB P = true
  · rw [if_pos c] at hred
    rw [c, hred]
    refine RunF_sound tab_ok noX_local 100 [false] _ _ rfl ?_ ?_
    · simp
    refine Run.callFn (r := encRel P) noX_local rfl rfl rfl rfl rfl rfl rfl plusR_enters rfl (fun w' _ => kp w') ?_
    refine RunF_sound tab_ok noX_local 100 [] _ _ rfl ?_ ?_
    · simp [segsVals, relV_one']
    refine Run.drawA noX_local rfl [] [(0, .cells 25 [.vals 65 (relV A)]), (2, .cells 25 [.vals 65 (relV P)])] rfl rfl ⟨rfl, rfl, trivial⟩ ?_
    refine RunOF_sound tab_ok noX_local rfl rfl 200 [] _ _ rfl ?_ ?_
    · simp
    refine RunO.callFn (r := encRel Q) noX_local rfl rfl rfl rfl rfl rfl rfl rfl two_R_enters rfl (fun w' hA => k3 w') ?_
    refine RunOF_sound tab_ok noX_local rfl rfl 200 [] _ _ rfl ?_ ?_
    · simp
    refine RunO.callFn (r := encRel D) noX_local rfl rfl rfl rfl rfl rfl rfl rfl two_R_enters rfl (fun w' hA => k2 w') ?_
    refine RunOF_sound tab_ok noX_local rfl rfl 200 [] _ _ rfl ?_ ?_
    · simp [segsVals, relV_one', inT, lk]
    refine RunO.done ?_
    refine RunF_sound tab_ok noX_local 100 [] _ _ rfl ?_ ?_
    · simp
    refine Run.retL tab_ok Tryd.func52 rfl ?_ (fun M => ?_)
    · simp
    rfl
  · rw [if_neg c] at hred
    rw [Bool.eq_false_iff.2 c, hred]
    refine RunF_sound tab_ok noX_local 100 [true] _ _ rfl ?_ ?_
    · simp [segsVals, relV_one', fillL, Value.cells]
    refine Run.retL tab_ok Tryd.func52 rfl ?_ (fun M => ?_)
    · simp [fillL, Value.cells]
    rfl
theorem reduceR_enters : Enters Tryd.prog 52 := enters_mk Tryd.func52 (by decide) rfl

set_option maxHeartbeats 1000000 in
theorem sameLists_ok (p q : Option Addr) (c d : Nat) (s t : List Ent) (w : World) (hs : SeesL w p s) (ht : SeesL w q t) (hst : s.map (fun e => e.2.2) = t.map (fun e => e.2.2)) (hl : s.length ≤ maxLen) :
    Gives Tryd.prog 56 [.slice p s.length c, .slice q t.length d] w (.bool true) := by
  have hlen : s.length = t.length := by have := congrArg List.length hst; simpa using this
  have hml : maxLen = 9223372036854775807 := rfl
  refine Gives.of_run Tryd.func56 rfl (by show 2 ≤ 27; decide) ?_
  refine RunF_sound tab_ok noX_local 100 [false] _ _ rfl ?_ ?_
  · simp [hlen]
  suffices H : ∀ (m i : Nat), i + m = s.length → ∀ σ, inT σ.t [(0, .v (.slice p s.length c)), (1, .v (.slice q t.length d)), (5, .v (.int .i64 (i : Int)))] → inT σ.h [] → Run _ _ σ by
    exact H s.length 0 (by omega) _ ⟨rfl, rfl, rfl, trivial⟩ trivial
  intro m
  induction m with
  | zero =>
    intro i hi σ htt hh
    refine Run.to ?_ htt hh (n' := 0)
    refine RunF_sound tab_ok noX_local 100 [false] _ _ rfl ?_ ?_
    · simp; omega
    exact Run.retP tab_ok Tryd.func56 rfl trivial (fun M => rfl)
  | succ m ih =>
    intro i hi σ htt hh
    refine Run.to ?_ htt hh (n' := 0)
    have his : i < s.length := by omega
    have hit : i < t.length := by omega
    obtain ⟨hp, hpc⟩ := hs.1 i his
    obtain ⟨hq, hqc⟩ := ht.1 i hit
    have hee : s[i].2.2 = t[i].2.2 := by
      have : (s.map (fun e => e.2.2))[i]'(by simpa using his) = (t.map (fun e => e.2.2))[i]'(by simpa using hit) := by simp only [hst]
      simpa using this
    have hsl : ∀ w', Agree (fun _ => False) w w' → Gives Tryd.prog 53 [slV s[i], slV t[i]] w' (.bool true) := fun w' hA => by
      have k1 := (entSees' (hs.2 s[i] (List.getElem_mem his))).agree hA (fun a _ h => h)
      have k2 := (entSees' (ht.2 t[i] (List.getElem_mem hit))).agree hA (fun a _ h => h)
      have hml2 : s[i].2.2.length ≤ maxLen := by
        obtain ⟨_, cur, _, g1, g2, _⟩ := hs.2 s[i] (List.getElem_mem his)
        exact Nat.le_trans g1 g2
      have := sameInts_ok (some ⟨s[i].1, 0, none⟩) (some ⟨t[i].1, 0, none⟩) s[i].2.1 t[i].2.1 s[i].2.2 t[i].2.2 w' k1 k2 hml2
      rw [decide_eq_true hee] at this
      exact this
    refine RunF_sound tab_ok noX_local 100 [true] _ _ rfl ?_ ?_
    · simp; omega
    refine Run.drawA noX_local rfl [] [] rfl rfl trivial ?_
    refine RunOF_sound tab_ok noX_local rfl rfl 200 [] _ _ rfl ?_ ?_
    · simp only [fnC_w0, fnC_S0, Int.toNat_natCast, Nat.mul_one, hpc, hqc]
      simp
      exact ⟨⟨hp, his⟩, rfl, ⟨hq, hit⟩, rfl⟩
    refine RunO.callFn (r := .bool true) noX_local rfl rfl rfl rfl rfl rfl rfl rfl sameInts_enters rfl (fun w' hA => ?_) ?_
    · have := hsl w' hA
      rw [← slOf_eq' hpc, ← slOf_eq' hqc] at this
      simp only [fnC_w0, Int.toNat_natCast, Nat.mul_one]
      exact this
    refine RunOF_sound tab_ok noX_local rfl rfl 200 [] _ _ rfl ?_ ?_
    · simp
    refine RunO.done ?_
    refine RunF_sound tab_ok noX_local 100 [false] _ _ rfl ?_ ?_
    · simp
    exact ih (i + 1) (by omega) _ ⟨rfl, rfl, i64_eq (wrap_succ (by omega)), trivial⟩ trivial
theorem sameLists_enters : Enters Tryd.prog 56 := enters_mk Tryd.func56 (by decide) rfl
end Go.Proofs.YtocpkgckllbjlaaDoor

/-
  The abstract machine, thirty-ninth part: old memory given to the outer part; append to its slices. Own work; over any program.
-/
namespace Go.AM
open Go.RowKit

/-- What has been made since and stood still may be turned from here on, as the outer part. -/
theorem Run.unfreeze {C : Ctx} {todo : List Item} {σ : St} (F : Foot) (X' : Res) {w00 : World} (hF : ∀ b, F b → b < C.w0.heap.size ∧ ¬ C.S0 b ∧ w00.heap.size ≤ b) (hB : Based w00 C.w0 C.S0)
    (hX : ∀ w, Agree C.S0 C.w0 w → X' w F)
    (h : ∀ w S1, Agree C.S0 C.w0 w → Based w00 w S1 → (∀ b, b < C.w0.heap.size → ¬ C.S0 b → ¬ F b → ¬ S1 b) → Run { C with w0 := w, S0 := S1, X := X' } todo σ) : Run C todo σ := by
  intro M fp a w hR cs
  let S1 : Foot := fun b => b < w.heap.size ∧ (b < C.w0.heap.size → C.S0 b ∨ F b)
  refine h w S1 hR.agree ⟨hB.later hR.agree, fun b hb => ?_⟩ (fun b hl hs hf hb => (hb.2 hl).elim hs hf) M F a w ?_ cs
  · rcases Nat.lt_or_ge b C.w0.heap.size with hl | hl
    · rcases hb.2 hl with h1 | h1
      · exact hB.new b h1
      · exact (hF b h1).2.2
    · exact Nat.le_trans hB.agree.size hl
  · refine { heap := hR.heap, inj := hR.inj, own := fun id B hB _ => ⟨(hR.heap id B hB).lt, fun hl => .inl (hR.own id B hB hl)⟩, apart := fun id B hB hf => (hF _ hf).2.1 (hR.own id B hB (hF _ hf).1), agree := Agree.refl _ _, outer := hX w hR.agree,
             fpok := fun b hb => ?_, size := hR.size, frozen := hR.frozen, tmps := hR.tmps, defers := hR.defers }
    have h1 := (hF b hb).1
    exact ⟨Nat.lt_of_lt_of_le h1 hR.agree.size, fun _ => ⟨Nat.lt_of_lt_of_le h1 hR.agree.size, fun _ => .inr hb⟩⟩

section
variable {C : Ctx} {ops : Array Oper} {i : Nat} {rest : List Nat} {k : List Item} {σ : St} {o : Oper}

theorem Run.appendX {T : Tab} {t e : TypeId} {ti : TI} {c : Call} {x y : Operand} {g n cap id : Nat} {u : Value} {X1 : Res} {X2 : Nat → Nat → Res} (hT : tabOK C.P T) (ho : ops[i]? = some o) (hop : o.op = .call c) (hc : c.callee = .builtin .append) (hca : c.args = #[x, y]) (hct : c.argTypes = #[t, t])
    (hx : σ.ev x = some (.v (.slice (some ⟨g, 0, none⟩) n cap))) (hy : σ.ev y = some (.sl id 1 0 1)) (hB : lk σ.h id = some (.row e 1 1 [u])) (hu : u.oneCell' = true) (hd : T.desc t = some (.slice e)) (hi : lk T e = some ti) (h1 : ti.size = 1) (hz1 : ti.zero.cells.size = 1)
    (h63 : n + 1 ≤ maxLen) (hby : (n + 1) * ti.bytes ≤ 140737488355328) (hw : wantOf ops σ o = some .yes) (hdo : dstOK C.n o.dst = true)
    (hX : ∀ w fp, C.X w fp → (∀ b, fp b → b < w.heap.size) → fp g ∧ n ≤ cap ∧ ∃ cur, w.heap[g]? = some (.cells cur e (0, 0)) ∧ cur.size = cap ∧ (n + 1 ≤ cap → X1 (w.setRow g (cur.toList.take n ++ [u] ++ cur.toList.drop (n + 1)).toArray) fp) ∧
      ∀ (cs : Array Value) cap', cs.size = cap' → n + 1 ≤ cap' → cap' ≤ maxLen → X2 w.heap.size cap' (w.drew.alloc (.cells cs e)) (fun b => fp b ∨ b = w.heap.size))
    (hr1 : n + 1 ≤ cap → Run (C.withX X1) (.inRegion ops rest :: k) (σ.put o.dst (.v (.slice (some ⟨g, 0, none⟩) (n + 1) cap))))
    (hr2 : ∀ g' cap', Run (C.withX (X2 g' cap')) (.inRegion ops rest :: k) (σ.put o.dst (.v (.slice (some ⟨g', 0, none⟩) (n + 1) cap')))) : Run C (.inRegion ops (i :: rest) :: k) σ := by
  refine Run.opX ho (fun c e => by rw [hop] at e; cases e) hw hdo fun M fp a w hR => ?_
  obtain ⟨hf, hnc, cur, hg, hcs, hX1, hX2⟩ := hX w fp hR.outer (fun b hb => (hR.fpok b hb).1)
  have ex := hR.q.ev hx
  have ey := hR.q.ev hy
  simp only [conc, Nat.zero_mul, Nat.sub_zero] at ex ey
  have hb := hR.heap _ _ hB
  have hcu : w.cell? ⟨(M id).1, 0, none⟩ = some u := row_cells hb 0 u (by simp)
  rcases append_plain (P := C.P) hT (ty := o.type) hd hi h1 hz1 hg hnc hcs (a := ⟨(M id).1, 0, none⟩) (c := (M id).2) hcu hu h63 hby with ⟨hroom, hrun⟩ | ⟨cap', cs, q1, q2, q3, hrun⟩
  · refine ⟨_, _, fp, X1, ?_, Grown.row hf (fun b hb => (hR.fpok b hb).1), hX1 hroom, hr1 hroom⟩
    have hbu : ∀ cs', (builtin .append #[t, t] o.type cs' #[.slice (some ⟨g, 0, none⟩) n cap, .slice (some ⟨(M id).1, 0, none⟩) 1 (M id).2]).run C.P w = .ok (.value (.slice (some ⟨g, 0, none⟩) (n + 1) cap)) (w.setRow g (cur.toList.take n ++ [u] ++ cur.toList.drop (n + 1)).toArray) := fun cs' => by
      simp [builtin, hrun]
    simp [execOp, hop, resolve, hc, hca, hct, ex, ey, invoke, hbu]
  · refine ⟨_, w.drew.alloc (.cells cs e), fun b => fp b ∨ b = w.heap.size, X2 w.heap.size cap', ?_, ⟨⟨rfl, rfl, rfl, by simp, fun b hb _ => old_alloc w.drew _ hb⟩, ?_⟩, hX2 cs cap' q3 q1 q2, hr2 _ _⟩
    · have hbu : ∀ cs', (builtin .append #[t, t] o.type cs' #[.slice (some ⟨g, 0, none⟩) n cap, .slice (some ⟨(M id).1, 0, none⟩) 1 (M id).2]).run C.P w = .ok (.value (.slice (some ⟨w.heap.size, 0, none⟩) (n + 1) cap')) (w.drew.alloc (.cells cs e)) := fun cs' => by
        simp [builtin, hrun]
      simp [execOp, hop, resolve, hc, hca, hct, ex, ey, invoke, hbu]
    · rintro b (hb | rfl)
      · have h2 := (hR.fpok b hb).1
        refine ⟨?_, fun _ => hb⟩
        simp only [World.size_alloc]
        exact Nat.lt_succ_of_lt h2
      · refine ⟨?_, fun h => absurd h (Nat.lt_irrefl _)⟩
        simp only [World.size_alloc]
        exact Nat.lt_succ_self _
end
end Go.AM

/-
  Lists that are written and grown: the outer part. Own work.
-/
namespace Go.Proofs.YtocpkgckllbjlaaDoor
open Go.AM
set_option maxRecDepth 100000

def gX (s : List Ent) (G : List Nat) : Res := fun w fp => (∀ b, fp b ↔ b ∈ s.map (fun e => e.1) ∨ b ∈ G) ∧ (s.map fun e => e.1).Nodup ∧ ∀ j (h : j < s.length), EntAt w s[j] ∧ s[j].1 ∉ G

theorem gX_local (s : List Ent) (G : List Nat) : Local (gX s G) := fun _ _ _ ⟨h1, h2, h3⟩ _ hs =>
  ⟨h1, h2, fun j h => ⟨BlkAt.same (h3 j h).1 (hs _ ((h1 _).2 (.inl (List.mem_map.2 ⟨_, List.getElem_mem h, rfl⟩)))), (h3 j h).2⟩⟩

theorem ent_ne {s : List Ent} (hn : (s.map fun e => e.1).Nodup) {i j : Nat} (hi : i < s.length) (hj : j < s.length) (h : i ≠ j) : s[i].1 ≠ s[j].1 := fun e => by
  have := (List.pairwise_iff_getElem.1 hn)
  rcases Nat.lt_or_ge i j with h1 | h1
  · have := this i j (by simpa using hi) (by simpa using hj) h1
    simp only [List.getElem_map] at this
    exact this e
  · have := this j i (by simpa using hj) (by simpa using hi) (by omega)
    simp only [List.getElem_map] at this
    exact this e.symm

def setE (s : List Ent) (i k v : Nat) (h : i < s.length) : List Ent := s.set i (s[i].1, s[i].2.1, s[i].2.2.set k v)
theorem setE_len {s : List Ent} {i k v : Nat} (h : i < s.length) : (setE s i k v h).length = s.length := by simp [setE]
theorem setE_fst {s : List Ent} {i k v : Nat} (h : i < s.length) : (setE s i k v h).map (fun e => e.1) = s.map (fun e => e.1) := by
  unfold setE
  rw [List.map_set]
  apply List.ext_getElem
  · simp
  · intro j h1 h2
    rw [List.getElem_set]
    split
    · rename_i e; subst e; simp
    · rfl
theorem setE_at {s : List Ent} {i k v : Nat} (h : i < s.length) (j : Nat) (hj : j < (setE s i k v h).length) : (setE s i k v h)[j] = if i = j then (s[i].1, s[i].2.1, s[i].2.2.set k v) else s[j]'(by rwa [setE_len] at hj) := by
  exact List.getElem_set (by rw [setE_len] at hj; simpa using hj)

theorem encN_set (l : List Nat) (k v : Nat) : encN (l.set k v) = (encN l).set k (.int .i64 (v : Int)) := by unfold encN; rw [List.map_set]

theorem gX_set {s : List Ent} {G : List Nat} {w : World} {fp : Foot} {i k : Nat} (v : Nat) (h : gX s G w fp) (hi : i < s.length) (hk : k < s[i].2.2.length) :
    fp s[i].1 ∧ ∃ cur e, w.heap[s[i].1]? = some (.cells cur e (0, 0)) ∧ k < cur.size ∧ gX (setE s i k v hi) G (w.setRow s[i].1 (cur.toList.take k ++ [Value.int .i64 (v : Int)] ++ cur.toList.drop (k + 1)).toArray) fp := by
  obtain ⟨h1, h2, h3⟩ := h
  obtain ⟨hlen, cur, hc, hn, hm, hsz, htk⟩ := (h3 i hi).1
  simp only [Nat.mul_one] at hsz htk hn hlen
  have hkc : k < cur.size := by rw [hsz]; exact Nat.lt_of_lt_of_le hk hn
  refine ⟨(h1 _).2 (.inl (List.mem_map.2 ⟨_, List.getElem_mem hi, rfl⟩)), cur, _, hc, hkc, ?_, ?_, ?_⟩
  · intro b; rw [setE_fst]; exact h1 b
  · rw [setE_fst]; exact h2
  · intro j hj
    have hj' : j < s.length := by rwa [setE_len] at hj
    rw [setE_at]
    by_cases e : i = j
    · subst e
      rw [if_pos rfl]
      refine ⟨?_, (h3 i hi).2⟩
      refine ⟨by simp, _, setRow_heap w _ _ _ _ _ hc, by simpa using hn, hm, ?_, ?_⟩
      · simp only [Nat.mul_one, List.size_toArray, List.length_append, List.length_take, List.length_drop, Array.length_toList, List.length_singleton]
        omega
      · rw [encN_set, ← htk]
        have e1 : cur.toList.take k ++ [Value.int .i64 (v : Int)] ++ cur.toList.drop (k + 1) = cur.toList.set k (.int .i64 (v : Int)) := by
          rw [List.set_eq_take_append_cons_drop, if_pos (by simpa using hkc)]; simp
        rw [List.toList_toArray, e1, List.length_set, Nat.mul_one, List.take_set]
    · rw [if_neg e]
      have hne := ent_ne h2 hj' hi (Ne.symm e)
      exact ⟨BlkAt.same (h3 j hj').1 (setRow_other _ _ _ _ hne), (h3 j hj').2⟩

/-- A slice over one of the lists, or over memory of its own. -/
def oX (s : List Ent) (x : List Nat × Nat × Nat × Nat) : Res := fun w fp => gX s x.1 w fp ∧ (∃ cur, w.heap[x.2.1]? = some (.cells cur 3 (0, 0)) ∧ cur.size = x.2.2.1) ∧ x.2.2.2 ≤ x.2.2.1 ∧ x.2.2.1 ≤ maxLen ∧
  ((∃ i, ∃ h : i < s.length, s[i].1 = x.2.1 ∧ s[i].2.2.length ≤ x.2.2.2) ∨ x.2.1 ∈ x.1)

theorem gX_foot {s : List Ent} {x : List Nat × Nat × Nat × Nat} {w : World} {fp : Foot} (h : oX s x w fp) : fp x.2.1 := by
  obtain ⟨hg, _, _, _, h5⟩ := h
  rcases h5 with ⟨i, hi, e, _⟩ | h5
  · exact (hg.1 _).2 (.inl (List.mem_map.2 ⟨_, List.getElem_mem hi, e⟩))
  · exact (hg.1 _).2 (.inr h5)

theorem oX_local (s : List Ent) (x : List Nat × Nat × Nat × Nat) : Local (oX s x) := fun w w' fp h hl hs => by
  have hf := gX_foot h
  obtain ⟨hg, ⟨cur, hc, hs2⟩, h3, h4, h5⟩ := h
  exact ⟨gX_local s x.1 w w' fp hg hl hs, ⟨cur, by rw [hs _ hf]; exact hc, hs2⟩, h3, h4, h5⟩

theorem oX_start {s : List Ent} {G : List Nat} {w : World} {fp : Foot} (h : gX s G w fp) {i : Nat} (hi : i < s.length) : oX s (G, s[i].1, s[i].2.1, s[i].2.2.length) w fp := by
  obtain ⟨hlen, cur, hc, hn, hm, hsz, htk⟩ := (h.2.2 i hi).1
  exact ⟨h, ⟨cur, hc, by simpa using hsz⟩, hn, hm, .inl ⟨i, hi, rfl, Nat.le_refl _⟩⟩

theorem oX_room {s : List Ent} {G : List Nat} {w : World} {fp : Foot} {g cap k : Nat} {u : Value} {cur : Array Value} (h : oX s (G, g, cap, k) w fp) (hc : w.heap[g]? = some (.cells cur 3 (0, 0))) (hk : k + 1 ≤ cap) :
    oX s (G, g, cap, k + 1) (w.setRow g (cur.toList.take k ++ [u] ++ cur.toList.drop (k + 1)).toArray) fp := by
  obtain ⟨⟨h1, h2, h3⟩, ⟨cur', hc', hs2⟩, h4, h5, h6⟩ := h
  simp only at hc' hs2 h4 h5 h6
  rw [hc] at hc'
  cases hc'
  have hsz : (cur.toList.take k ++ [u] ++ cur.toList.drop (k + 1)).toArray.size = cap := by
    simp only [List.size_toArray, List.length_append, List.length_take, List.length_drop, Array.length_toList, List.length_singleton]
    omega
  refine ⟨⟨h1, h2, fun j hj => ⟨?_, (h3 j hj).2⟩⟩, ⟨_, setRow_heap w _ _ _ _ _ hc, hsz⟩, hk, h5, ?_⟩
  · by_cases e : s[j].1 = g
    · have hle : s[j].2.2.length ≤ k := by
        rcases h6 with ⟨i, hi, e2, hl⟩ | h6
        · by_cases hij : i = j
          · subst hij; exact hl
          · exact absurd (e2.trans e.symm) (ent_ne h2 hi hj hij)
        · exact absurd h6 (e ▸ (h3 j hj).2)
      obtain ⟨hlen, cur2, hc2, hn, hm, hsz2, htk⟩ := (h3 j hj).1
      simp only at hc2
      rw [e, hc] at hc2
      cases hc2
      simp only [Nat.mul_one] at hsz2 htk hn
      refine ⟨hlen, _, by simp only; rw [e]; exact setRow_heap w _ _ _ _ _ hc, hn, hm, by simp only [Nat.mul_one]; rw [hsz, ← hs2, hsz2], ?_⟩
      rw [List.toList_toArray, Nat.mul_one, List.append_assoc, List.take_append_of_le_length (by simp only [List.length_take, Array.length_toList]; omega), List.take_take, Nat.min_eq_left hle, htk]
    · exact BlkAt.same (h3 j hj).1 (setRow_other _ _ _ _ e)
  · rcases h6 with ⟨i, hi, e2, hl⟩ | h6
    · exact .inl ⟨i, hi, e2, Nat.le_succ_of_le hl⟩
    · exact .inr h6

theorem oX_new {s : List Ent} {G : List Nat} {w : World} {fp : Foot} {g cap k : Nat} {cs : Array Value} {cap' : Nat} (h : oX s (G, g, cap, k) w fp) (hlt : ∀ b, fp b → b < w.heap.size) (hcs : cs.size = cap') (hk : k + 1 ≤ cap') (hm : cap' ≤ maxLen) :
    oX s (w.heap.size :: G, w.heap.size, cap', k + 1) (w.drew.alloc (.cells cs 3)) (fun b => fp b ∨ b = w.heap.size) := by
  obtain ⟨⟨h1, h2, h3⟩, _⟩ := h
  have hold : ∀ b, fp b → (w.drew.alloc (.cells cs 3)).heap[b]? = w.heap[b]? := fun b hb => old_alloc w.drew _ (hlt b hb)
  have hent : ∀ j (hj : j < s.length), fp s[j].1 := fun j hj => (h1 _).2 (.inl (List.mem_map.2 ⟨_, List.getElem_mem hj, rfl⟩))
  refine ⟨⟨fun b => ?_, h2, fun j hj => ⟨BlkAt.same (h3 j hj).1 (hold _ (hent j hj)), fun hm => ?_⟩⟩, ⟨cs, World.alloc_heap_new w.drew _, hcs⟩, hk, hm, .inr (by simp)⟩
  · show fp b ∨ b = w.heap.size ↔ _
    rw [h1 b, List.mem_cons]
    constructor
    · rintro ((h | h) | h)
      · exact .inl h
      · exact .inr (.inr h)
      · exact .inr (.inl h)
    · rintro (h | h | h)
      · exact .inl (.inl h)
      · exact .inr h
      · exact .inl (.inr h)
  · rcases List.mem_cons.1 hm with e | hm
    · have := hlt _ (hent j hj); omega
    · exact (h3 j hj).2 hm

theorem gX_cell {s : List Ent} {G : List Nat} {w : World} {fp : Foot} (h : gX s G w fp) {i k : Nat} (hi : i < s.length) (hk : k < s[i].2.2.length) : w.cell? ⟨s[i].1, k, none⟩ = some (.int .i64 (s[i].2.2[k] : Int)) := by
  have := row_cells (h.2.2 i hi).1 k (.int .i64 (s[i].2.2[k] : Int)) (by simp [encN, hk])
  rwa [Nat.zero_add] at this

theorem seesL_agree {S : Nat → Prop} {w w' : World} {p : Option Addr} {s : List Ent} (h : SeesL w p s) (hA : Agree S w w') (hp : ∀ a, p = some a → ¬ S a.block) (he : ∀ e ∈ s, ¬ S e.1) : SeesL w' p s :=
  ⟨fun i hi => ⟨(h.1 i hi).1, hA.cell (h.1 i hi).2 (by rw [add_block]; exact hp _ (h.1 i hi).1)⟩, fun e hm => BlkAt.same (h.2 e hm) (hA.block _ (h.2 e hm).lt (he e hm))⟩

theorem orders_all (r : Rl) (b : Nat) (m : Nat) (hm : m ≤ 1000000) (w : World) (hb : RelAt w b r) (hT : TabAt w) (h0 : 0 < w.heap.size) :
    GivesR Tryd.prog 54 [extendsF b, .int .i64 (m : Int)] w (fun v w' => Agree (fun _ => False) w w' ∧ ∃ (s : List Ent) (p : Option Addr) (c : Nat), v = .slice p s.length c ∧ s.map (fun e => e.2.2) = (ordersL r).take m ∧ SeesL w' p s ∧ (∀ a, p = some a → w.heap.size ≤ a.block) ∧ (∀ e ∈ s, w.heap.size ≤ e.1) ∧ (s.map fun e => e.1).Nodup ∧ ∀ a, p = some a → ∀ e ∈ s, e.1 ≠ a.block) := by
  by_cases h : 0 < m
  · exact orders_ok r b m ⟨h, hm⟩ w hb hT h0
  · obtain rfl : m = 0 := by omega
    refine givesX_of_run (S0 := fun _ => False) (X := rowsX []) (fp := fun _ => False) Tryd.func54 rfl (by show 2 ≤ 20; decide) ⟨fun b => ⟨fun h => h.elim, fun ⟨e, he, _⟩ => (by cases he)⟩, List.nodup_nil, fun e he => (by cases he)⟩ (fun b h => h.elim) ?_
    refine RunF_sound tab_ok (rowsX_local []) 100 [true] _ _ rfl ?_ ?_
    · simp [okCell, argsT.ofConst', ofConst, Value.oneCell']
    refine Run.retM (Ds := []) tab_ok (rowsX_local []) Tryd.func54 rfl trivial fun M fp a w' hr => ?_
    exact ⟨hr.agree, [], none, 0, rfl, by simp, ⟨fun i h => absurd h (Nat.not_lt_zero _), fun e he => (by cases he)⟩, fun a h => (by cases h), fun e he => (by cases he), List.nodup_nil, fun a h => (by cases h)⟩
end Go.Proofs.YtocpkgckllbjlaaDoor

/-
  RelOrders answers true. Own work.
-/
namespace Go.Proofs.YtocpkgckllbjlaaDoor
open Go.AM
set_option maxRecDepth 100000

theorem ordersW_enters : Enters Tryd.prog 54 := enters_mk Tryd.func54 (by decide) rfl

theorem extend_len {r : Rl} {l : List Nat} (h : extendL r = some l) : l.length ≤ 64 := by
  have h1 : l ∈ ordersL (rightL r) := by
    rw [ordersL_right]
    unfold extendL at h
    cases ho : ordersL r with
    | nil => rw [ho] at h; cases h
    | cons a t => rw [ho] at h; simp at h; subst h; simp
  have := (orders_good (rt_right r) h1).2.1
  have h2 := (rt_right r).hi
  omega

/-- Extend, its answer as old memory. -/
theorem extendP_ok (r : Rl) (w : World) (hT : TabAt w) (h0 : 0 < w.heap.size) : GivesR Tryd.prog 49 [encRel r] w (fun v w' => Agree (fun _ => False) w w' ∧ ∃ (p : Option Addr) (l : List Nat) (c : Nat) (b : Bool), v = .tuple #[.slice p l.length c, .bool b] ∧ extendL r = (if b then some l else none) ∧ (b = false → l = []) ∧ SeesN w' p l ∧ ∀ a, p = some a → w.heap.size ≤ a.block) := by
  refine Calls.mono' (extend_ok r w hT h0) fun e w' ⟨v, h1, hh⟩ => ⟨v, h1, hh.agree, ?_⟩
  obtain ⟨M, hv, hb, _⟩ := hh.ex
  cases hE : extendL r with
  | none =>
    rw [hE] at hv
    exact ⟨none, [], 0, false, by rw [← hv]; simp [exZ, conc, concL], rfl, fun _ => rfl, seesN_nil w' none, fun a h => (by cases h)⟩
  | some x =>
    rw [hE] at hv hb
    have h2 := hb 0 _ rfl
    refine ⟨some ⟨(M 0).1, 0, none⟩, x, (M 0).2, true, by rw [← hv]; simp [exZ, conc, concL], rfl, fun h => (by cases h), seesN_row h2.1, fun a h => ?_⟩
    cases h; exact h2.2

theorem ext_same {o : Option (List Nat)} {l1 l2 : List Nat} {b1 b2 : Bool} (h1 : o = if b1 then some l1 else none) (h2 : o = if b2 then some l2 else none) (z1 : b1 = false → l1 = []) (z2 : b2 = false → l2 = []) : b1 = b2 ∧ l1 = l2 := by
  cases b1 <;> cases b2 <;> simp_all

/-- A list that stands still. -/
def KeepN (w : World) (S : Foot) (p : Option Addr) (l : List Nat) : Prop := SeesN w p l ∧ (l ≠ [] → ∀ a, p = some a → ¬ S a.block)
theorem KeepN.new {w0 w w1 : World} {S0 S1 : Foot} {p : Option Addr} {l : List Nat} (h : SeesN w1 p l) (hn : ∀ a, p = some a → w.heap.size ≤ a.block) (hS : Since w0 S0 w S1) : KeepN w1 S1 p l := ⟨h, fun _ a ha => hS.new _ (hn a ha)⟩
theorem KeepN.at {w w' : World} {S : Foot} {p : Option Addr} {l : List Nat} (h : KeepN w S p l) (hA : Agree S w w') : SeesN w' p l := by
  cases l with
  | nil => exact seesN_nil w' p
  | cons x l => exact h.1.agree hA (h.2 (by simp))
theorem KeepN.call {w0 w w1 : World} {S0 S1 : Foot} {p : Option Addr} {l : List Nat} (h : KeepN w0 S0 p l) (hA : Agree S0 w0 w) (hA2 : Agree (fun _ => False) w w1) (hS : Since w0 S0 w S1) : KeepN w1 S1 p l := by
  refine ⟨(h.at hA).agree hA2 (fun _ _ h => h), fun hne a ha => ?_⟩
  cases l with
  | nil => exact absurd rfl hne
  | cons x l =>
    have h1 := (h.1 0 (by simp)).2
    rw [ha, Option.getD_some] at h1
    have h2 := World.block_lt_of_cell? w0 _ h1
    rw [add_block] at h2
    exact hS.old _ h2 (h.2 hne a ha)

def KeepL (w : World) (S : Foot) (p : Option Addr) (s : List Ent) : Prop := SeesL w p s ∧ (s ≠ [] → ∀ a, p = some a → ¬ S a.block) ∧ ∀ e ∈ s, ¬ S e.1
theorem KeepL.new {w0 w w1 : World} {S0 S1 : Foot} {p : Option Addr} {s : List Ent} (h : SeesL w1 p s) (hn : ∀ a, p = some a → w.heap.size ≤ a.block) (he : ∀ e ∈ s, w.heap.size ≤ e.1) (hS : Since w0 S0 w S1) : KeepL w1 S1 p s := ⟨h, fun _ a ha => hS.new _ (hn a ha), fun e hm => hS.new _ (he e hm)⟩
theorem KeepL.at {w w' : World} {S : Foot} {p : Option Addr} {s : List Ent} (h : KeepL w S p s) (hA : Agree S w w') : SeesL w' p s := by
  cases s with
  | nil => exact ⟨fun i hi => absurd hi (Nat.not_lt_zero _), fun e he => by cases he⟩
  | cons x s => exact seesL_agree h.1 hA (h.2.1 (by simp)) h.2.2
theorem KeepL.lt {w : World} {S : Foot} {p : Option Addr} {s : List Ent} (h : KeepL w S p s) (hne : s ≠ []) {a : Addr} (ha : p = some a) : a.block < w.heap.size := by
  cases s with
  | nil => exact absurd rfl hne
  | cons x s =>
    have h1 := (h.1.1 0 (by simp)).2
    rw [ha, Option.getD_some] at h1
    have h2 := World.block_lt_of_cell? w _ h1
    rwa [add_block] at h2
theorem KeepL.to {w0 w1 : World} {S0 S1 : Foot} {p : Option Addr} {s : List Ent} (h : KeepL w0 S0 p s) (h1 : SeesL w1 p s) (hS : ∀ b, b < w0.heap.size → ¬ S0 b → ((∃ e ∈ s, e.1 = b) ∨ ∃ a, p = some a ∧ a.block = b) → ¬ S1 b) : KeepL w1 S1 p s :=
  ⟨h1, fun hne a ha => hS _ (h.lt hne ha) (h.2.1 hne a ha) (.inr ⟨a, ha, rfl⟩), fun e he => hS _ (h.1.2 e he).lt (h.2.2 e he) (.inl ⟨e, he, rfl⟩)⟩
theorem KeepL.call {w0 w w1 : World} {S0 S1 : Foot} {p : Option Addr} {s : List Ent} (h : KeepL w0 S0 p s) (hA : Agree S0 w0 w) (hA2 : Agree (fun _ => False) w w1) (hS : Since w0 S0 w S1) : KeepL w1 S1 p s :=
  h.to (seesL_agree (h.at hA) hA2 (fun _ _ h => h) (fun _ _ h => h)) fun b hb hn _ => hS.old b hb hn

/-- The lists while they are written: all up to one hold their own number. -/
def Wr (s cur : List Ent) (i : Nat) : Prop := cur.length = s.length ∧ ∀ j (h : j < s.length) (h' : j < cur.length), cur[j].1 = s[j].1 ∧ cur[j].2.1 = s[j].2.1 ∧ cur[j].2.2.length = s[j].2.2.length ∧ (j < i → ∀ k (hk : k < cur[j].2.2.length), cur[j].2.2[k] = j)
theorem Wr.slv {s cur : List Ent} {i j : Nat} (h : Wr s cur i) (hj : j < s.length) (hj' : j < cur.length) : slV s[j] = slV cur[j] := by
  obtain ⟨h1, h2, h3, _⟩ := h.2 j hj hj'
  unfold slV; rw [h1, h2, h3]
theorem Wr.set {s cur : List Ent} {i k : Nat} (h : Wr s cur i) (hi : i < cur.length) : Wr s (setE cur i k i hi) i := by
  refine ⟨by rw [setE_len]; exact h.1, fun j hj hj' => ?_⟩
  have hjc : j < cur.length := by rwa [setE_len] at hj'
  obtain ⟨h1, h2, h3, h4⟩ := h.2 j hj hjc
  have e := setE_at (k := k) (v := i) hi j hj'
  rw [e]
  by_cases hij : i = j
  · subst hij
    rw [if_pos rfl]
    exact ⟨h1, h2, by simpa using h3, fun hlt => absurd hlt (Nat.lt_irrefl _)⟩
  · rw [if_neg hij]; exact ⟨h1, h2, h3, h4⟩
theorem Wr.next {s cur : List Ent} {i : Nat} (h : Wr s cur i) (hi : i < cur.length) (hall : ∀ k (hk : k < cur[i].2.2.length), cur[i].2.2[k] = i) : Wr s cur (i + 1) := by
  refine ⟨h.1, fun j hj hj' => ?_⟩
  obtain ⟨h1, h2, h3, h4⟩ := h.2 j hj hj'
  refine ⟨h1, h2, h3, fun hlt => ?_⟩
  by_cases e : j = i
  · subst e; exact hall
  · exact h4 (by omega)

/-- How many are asked for. -/
theorem most_ex (most : Int) : ∃ mm : Nat, mm ≤ 200 ∧ (if (if (200 : Int) < most then 200 else most) > 0 then (if (200 : Int) < most then 200 else most) else 0) = (mm : Int) := by
  by_cases h : (200 : Int) < most
  · exact ⟨200, by omega, by simp [h]⟩
  · by_cases h2 : most > 0
    · exact ⟨most.toNat, by omega, by simp [h, h2]; omega⟩
    · exact ⟨0, by omega, by simp [h, h2]⟩

set_option maxHeartbeats 4000000 in
theorem relOrders_ok (r : Rl) (most : Int) (w : World) (hT : TabAt w) (h0 : 0 < w.heap.size) : Gives Tryd.prog 6 [encRel r, .int .i64 most] w (.bool true) := by
  have hTA : ∀ w', Agree (fun _ => False) w w' → TabAt w' := fun w' hA => hT.agree hA (fun f => f)
  have hSA : ∀ w', Agree (fun _ => False) w w' → 0 < w'.heap.size := fun w' hA => Nat.lt_of_lt_of_le h0 hA.size
  have hml : maxLen = 9223372036854775807 := rfl
  refine Gives.of_run Tryd.func6 rfl (by show 2 ≤ 155; decide) ?_
  refine RunF_sound tab_ok noX_local 400 [] _ _ rfl ?_ ?_
  · simp
  obtain ⟨mm, hmm, hme⟩ := most_ex most
  refine Run.callR noX_local rfl rfl rfl rfl rfl rfl extends_enters rfl (fun M w' _ _ => extends_ok r w') ?_
  rintro v w2 w1 S1 hag hag2 ⟨bb, rfl, hbl, hRel⟩ hS1
  have hB1 := (Based.refl w).call hag hag2 hS1
  have hbw1 : bb < w1.heap.size := World.block_lt_of_cell? w1 _ (hRel 0 _ rfl)
  have hS1b : ¬ S1 bb := hS1.new bb hbl
  refine ⟨.v (extendsF bb), fun M => rfl, ?_⟩
  refine RunF_sound tab_ok noX_local 400 [] _ _ rfl ?_ ?_
  · simp
  refine Run.fnNil tab_ok rfl rfl rfl rfl rfl rfl ?_
  refine RunF_sound tab_ok noX_local 400 [] _ _ rfl ?_ ?_
  · simp
  refine Run.toC (t' := [(1, .v (.int .i64 (mm : Int))), (2, .ptr 0 0), (5, .v (extendsF bb)), (32, .v (encRel r))]) (h' := [(0, .cells 25 [.vals 65 (relV r)])]) (n' := 1) ?_ ⟨⟨_, rfl, fun M => by simp only [conc]; rw [← hme]⟩, inTC_same rfl, inTC_same rfl, inTC_same rfl, trivial⟩ ⟨rfl, trivial⟩
  refine Run.callR noX_local rfl rfl rfl rfl rfl rfl extend_enters rfl (fun M w' _ hA => extendP_ok r w' (hTA w' (hB1.later hA)) (hSA w' (hB1.later hA))) ?_
  rintro v w4 w3 S3 hag3 hag4 ⟨p1, l1, c1, b1, rfl, e1, z1, s1, n1⟩ hS3
  have hB3 := hB1.call hag3 hag4 hS3
  refine ⟨.v (.tuple #[.slice p1 l1.length c1, .bool b1]), fun M => rfl, ?_⟩
  refine RunF_sound tab_ok noX_local 400 [] _ _ rfl ?_ ?_
  · simp
  refine Run.callR noX_local rfl rfl rfl rfl rfl rfl extendR_enters rfl (fun M w' _ _ => extendR_ok r w') ?_
  rintro v w6 w5 S5 hag5 hag6 ⟨p2, l2, c2, b2, rfl, e2, z2, s2, n2⟩ hS5
  have hB5 := hB3.call hag5 hag6 hS5
  refine ⟨.v (.tuple #[.slice p2 l2.length c2, .bool b2]), fun M => rfl, ?_⟩
  obtain ⟨rfl, rfl⟩ := ext_same e1 e2 z1 z2
  have hl64 : l1.length ≤ 64 := by
    cases b1 with
    | true => exact extend_len e1
    | false => rw [z1 rfl]; simp
  have K1 := (KeepN.new s1 n1 hS3).call hag5 hag6 hS5
  have K2 := KeepN.new s2 n2 hS5
  have hRel5 : RelAt w5 bb r := ((((hRel.agree hag3 hS1b).agree hag4 (fun h => h)).agree hag5 (hS3.old bb hbw1 hS1b)).agree hag6 (fun h => h))
  have hbb3 : ¬ S3 bb := hS3.old bb hbw1 hS1b
  have hbw3 : bb < w3.heap.size := Nat.lt_of_lt_of_le hbw1 (Nat.le_trans hag3.size hag4.size)
  have hbb5 : ¬ S5 bb := hS5.old bb hbw3 hbb3
  have hbw5 : bb < w5.heap.size := Nat.lt_of_lt_of_le hbw3 (Nat.le_trans hag5.size hag6.size)
  have hred : ∀ w', Agree S5 w5 w' → Gives Tryd.prog 51 [encRel r] w' (.tuple #[encRel (redL r), .bool (irB (clos (rightL r)))]) := fun w' hA => reduce_ok r w' (hTA w' (hB5.later hA)) (hSA w' (hB5.later hA))
  have hredR : ∀ w', Gives Tryd.prog 52 [encRel r] w' (.tuple #[encRel (redL r), .bool (irB (clos (rightL r)))]) := fun w' => reduceR_ok r w'
  clear hRel hS1b hbw1 hag hag2 hbl hS1 hB1 s1 n1 s2 n2 hS3 hag3 hag4 hB3 hS5 hag5 hag6 hbb3 hbw3 e1 e2 z1 z2
  show Run ((fnP Tryd.prog 6 (Tryd.f6).ntmps w (.bool true)).rebase w5 S5) _ _
  generalize redL r = Dd at *
  generalize irB (clos (rightL r)) = ac at *
  refine RunF_sound tab_ok noX_local 400 [] _ _ rfl ?_ ?_
  · simp
  refine Run.to (t' := [(1, .v (.int .i64 (mm : Int))), (2, .ptr 0 0), (5, .v (extendsF bb)), (6, .v (.slice p1 l1.length c1)), (7, .v (.bool b1)), (8, .v (.slice p2 l1.length c2)), (9, .v (.bool b1)), (42, .v (encRel r))]) (h' := [(0, .cells 25 [.vals 65 (relV r)])]) (n' := 1) ?_ ⟨rfl, rfl, rfl, rfl, rfl, rfl, rfl, rfl, trivial⟩ ⟨rfl, trivial⟩
  refine Run.callFn (r := .tuple #[encRel Dd, .bool ac]) noX_local rfl rfl rfl rfl rfl rfl rfl reduce_enters rfl (fun w' hA => hred w' hA) ?_
  refine RunF_sound tab_ok noX_local 400 [] _ _ rfl ?_ ?_
  · simp [segsVals, relV_one']
  refine Run.callFn (r := .tuple #[encRel Dd, .bool ac]) noX_local rfl rfl rfl rfl rfl rfl rfl reduceR_enters rfl (fun w' hA => hredR w') ?_
  refine RunF_sound tab_ok noX_local 400 [false] _ _ rfl ?_ ?_
  · simp [segsVals, relV_one']
  refine Run.callFn (r := .bool true) noX_local rfl rfl rfl rfl rfl rfl rfl sameInts_enters rfl (fun w' hA => ?_) ?_
  · have := sameInts_ok p1 p2 c1 c2 l1 l1 w' (K1.at hA) (K2.at hA) (by omega)
    rwa [decide_eq_true rfl] at this
  refine RunF_sound tab_ok noX_local 400 [false] _ _ rfl ?_ ?_
  · simp
  refine Run.cmp rfl rfl rfl rfl rfl rfl (b := true) (c := false) (hcmpL rfl (by simp)) (.inr ⟨rfl, rfl⟩) ?_
  refine RunF_sound tab_ok noX_local 400 [false, false] _ _ rfl ?_ ?_
  · simp
  have hord : ∀ w5 S5, RelAt w5 bb r → ¬ S5 bb → bb < w5.heap.size → Based w w5 S5 → ∀ w', Agree S5 w5 w' → RelAt w' bb r ∧ TabAt w' ∧ 0 < w'.heap.size := fun w5 S5 h1 h2 h3 h4 w' hA => ⟨h1.agree hA h2, hTA w' (h4.later hA), hSA w' (h4.later hA)⟩
  refine Run.to (t' := [(1, .v (.int .i64 (mm : Int))), (2, .ptr 0 0), (5, .v (extendsF bb)), (70, .v (extendsF bb)), (71, .v (.int .i64 (mm : Int)))]) (h' := [(0, .cells 25 [.vals 65 (relV r)])]) (n' := 1) ?_ ⟨rfl, rfl, rfl, rfl, rfl, trivial⟩ ⟨rfl, trivial⟩
  refine Run.callR noX_local rfl rfl rfl rfl rfl rfl ordersW_enters rfl (fun M w' _ hA => orders_all r bb mm (by omega) w' (hord w5 S5 hRel5 hbb5 hbw5 hB5 w' hA).1 (hord w5 S5 hRel5 hbb5 hbw5 hB5 w' hA).2.1 (hord w5 S5 hRel5 hbb5 hbw5 hB5 w' hA).2.2) ?_
  rintro v w8 w7 S7 hag7 hag8 ⟨s, p, c, rfl, hs, hsee, hpn, hen, hnd, hsep⟩ hS7
  have hB7 := hB5.call hag7 hag8 hS7
  have KL := KeepL.new hsee hpn hen hS7
  have hRel7 : RelAt w7 bb r := (hRel5.agree hag7 hbb5).agree hag8 (fun h => h)
  have hbb7 : ¬ S7 bb := hS7.old bb hbw5 hbb5
  have hbw7 : bb < w7.heap.size := Nat.lt_of_lt_of_le hbw5 (Nat.le_trans hag7.size hag8.size)
  have hpn0 : ∀ a, p = some a → w.heap.size ≤ a.block := fun a ha => Nat.le_trans (Nat.le_trans hB5.agree.size hag7.size) (hpn a ha)
  have hen0 : ∀ e ∈ s, w.heap.size ≤ e.1 := fun e he => Nat.le_trans (Nat.le_trans hB5.agree.size hag7.size) (hen e he)
  refine ⟨.v (.slice p s.length c), fun M => rfl, ?_⟩
  refine RunF_sound tab_ok noX_local 400 [] _ _ rfl ?_ ?_
  · simp
  refine Run.callR noX_local rfl rfl rfl rfl rfl rfl ordersW_enters rfl (fun M w' _ hA => orders_all r bb mm (by omega) w' (hord w7 S7 hRel7 hbb7 hbw7 hB7 w' hA).1 (hord w7 S7 hRel7 hbb7 hbw7 hB7 w' hA).2.1 (hord w7 S7 hRel7 hbb7 hbw7 hB7 w' hA).2.2) ?_
  rintro v w10 w9 S9 hag9 hag10 ⟨t, q, d, rfl, ht, htee, hqn, htn, _, _⟩ hS9
  have hB9 := hB7.call hag9 hag10 hS9
  have KL9 := KL.call hag9 hag10 hS9
  have KT := KeepL.new htee hqn htn hS9
  refine ⟨.v (.slice q t.length d), fun M => rfl, ?_⟩
  refine RunF_sound tab_ok noX_local 400 [] _ _ rfl ?_ ?_
  · simp
  refine Run.callR noX_local rfl rfl rfl rfl rfl rfl extendsR_enters rfl (fun M w' _ _ => extendsR_ok r mm (by omega) w') ?_
  rintro v w12 w11 S11 hag11 hag12 ⟨u, p3, c3, rfl, hu, huee, hun, hun2⟩ hS11
  have hB11 := hB9.call hag11 hag12 hS11
  have KL11 := KL9.call hag11 hag12 hS11
  have KT11 := KT.call hag11 hag12 hS11
  have KU := KeepL.new huee hun hun2 hS11
  refine ⟨.v (.slice p3 u.length c3), fun M => rfl, ?_⟩
  have hsl : s.length ≤ 200 := by
    have := congrArg List.length hs
    rw [List.length_map, List.length_take] at this; omega
  have htl : t.length ≤ 200 := by
    have := congrArg List.length ht
    rw [List.length_map, List.length_take] at this; omega
  have hsu : s.map (fun e => e.2.2) = u.map (fun e => e.2.2) := hs.trans hu.symm
  have htu : t.map (fun e => e.2.2) = u.map (fun e => e.2.2) := ht.trans hu.symm
  have hse7 : ∀ e ∈ s, e.1 < w7.heap.size := fun e he => (hsee.2 e he).lt
  have hmf : ∀ b, b ∈ s.map (fun e => e.1) → b < w7.heap.size := fun b hb => by obtain ⟨e, he, rfl⟩ := List.mem_map.1 hb; exact hse7 e he
  have hps : ∀ a, p = some a → a.block ∉ s.map (fun e => e.1) := fun a ha hm => by obtain ⟨e, he, h⟩ := List.mem_map.1 hm; exact hsep a ha e he h
  have hts : ∀ b, ((∃ e ∈ t, e.1 = b) ∨ ∃ a, q = some a ∧ a.block = b) → b ∉ s.map (fun e => e.1) := fun b hb hm => by
    have h1 := hmf b hm
    have h2 : w7.heap.size ≤ w10.heap.size := hag9.size
    rcases hb with ⟨e, he, rfl⟩ | ⟨a, ha, rfl⟩
    · have := htn e he; omega
    · have := hqn a ha; omega
  have hus : ∀ b, ((∃ e ∈ u, e.1 = b) ∨ ∃ a, p3 = some a ∧ a.block = b) → b ∉ s.map (fun e => e.1) := fun b hb hm => by
    have h1 := hmf b hm
    have h2 : w7.heap.size ≤ w10.heap.size := hag9.size
    have h3 : w10.heap.size ≤ w9.heap.size := hag10.size
    have h4 : w9.heap.size ≤ w12.heap.size := hag11.size
    rcases hb with ⟨e, he, rfl⟩ | ⟨a, ha, rfl⟩
    · have := hun2 e he; omega
    · have := hun a ha; omega
  have hl64s : ∀ e ∈ s, e.2.2.length ≤ 64 := fun e he => by
    have h1 : e.2.2 ∈ ordersL (rightL r) := by rw [ordersL_right]; exact List.mem_of_mem_take (hs ▸ List.mem_map.2 ⟨e, he, rfl⟩)
    have := (orders_good (rt_right r) h1).2.1
    have h2 := (rt_right r).hi
    omega
  clear hs ht hu hsee htee huee hun hun2 hqn htn hpn hen hS7 hS9 hS11 hag7 hag8 hag9 hag10 hag11 hag12 KL KL9 KT hB5 hB7 hB9 hord hred hredR hRel5 hRel7 hbb5 hbb7 hbw5 hbw7 K1 K2
  show Run ((fnP Tryd.prog 6 (Tryd.f6).ntmps w (.bool true)).rebase w11 S11) _ _
  refine RunF_sound tab_ok noX_local 400 [] _ _ rfl ?_ ?_
  · simp
  refine Run.callFn (r := .bool true) noX_local rfl rfl rfl rfl rfl rfl rfl sameLists_enters rfl (fun w' hA => sameLists_ok p p3 c c3 s u w' (KL11.at hA) (KU.at hA) hsu (by omega)) ?_
  refine RunF_sound tab_ok noX_local 400 [false] _ _ rfl ?_ ?_
  · simp
  refine Run.callFn (r := .bool true) noX_local rfl rfl rfl rfl rfl rfl rfl sameLists_enters rfl (fun w' hA => sameLists_ok q p3 d c3 t u w' (KT11.at hA) (KU.at hA) htu (by omega)) ?_
  refine RunF_sound tab_ok noX_local 400 [false] _ _ rfl ?_ ?_
  · simp
  refine Run.unfreeze (w00 := w) (fun b => b ∈ s.map (fun e => e.1)) (gX s []) (fun b hb => ?_) hB11 (fun w' hA => ⟨fun b => by simp, hnd, fun j hj => ⟨(KL11.at hA).2 _ (List.getElem_mem hj), by simp⟩⟩) ?_
  · obtain ⟨e, he, rfl⟩ := List.mem_map.1 hb
    exact ⟨(KL11.1.2 e he).lt, KL11.2.2 e he, hen0 e he⟩
  intro w13 S13 hA13 hB13 hS13
  have KT13 : KeepL w13 S13 q t := KT11.to (KT11.at hA13) fun b h1 h2 h3 => hS13 b h1 h2 (hts b h3)
  have KU13 : KeepL w13 S13 p3 u := KU.to (KU.at hA13) fun b h1 h2 h3 => hS13 b h1 h2 (hus b h3)
  have hcell : ∀ i (h : i < s.length), p = some (p.getD default) ∧ w13.cell? ((p.getD default).add i) = some (slV s[i]) ∧ ¬ S13 ((p.getD default).add i).block := fun i h => by
    have h1 := (KL11.at hA13).1 i h
    have hne : s ≠ [] := fun e => by rw [e] at h; exact absurd h (Nat.not_lt_zero _)
    refine ⟨h1.1, h1.2, ?_⟩
    rw [add_block]
    exact hS13 _ (KL11.lt hne h1.1) (KL11.2.1 hne _ h1.1) (hps _ h1.1)
  clear KL11 KT11 KU hS13 hA13 hB11 hsep hps hts hus hmf hse7 hpn0 hen0
  have hgl := fun cur G => gX_local cur G
  suffices H1 : ∀ (m i : Nat) (cur : List Ent), i + m = s.length → Wr s cur i → ∀ σ, inT σ.t [(14, .v (.slice p s.length c)), (15, .v (.slice q t.length d)), (16, .v (.slice p3 u.length c3)), (17, .v (.int .i64 (i : Int)))] → inT σ.h [] →
      Run (((fnP Tryd.prog 6 (Tryd.f6).ntmps w (.bool true)).rebase w13 S13).withX (gX cur [])) _ σ by
    exact H1 s.length 0 s (by omega) ⟨rfl, fun j h h' => ⟨rfl, rfl, rfl, fun h => absurd h (Nat.not_lt_zero _)⟩⟩ _ ⟨rfl, rfl, rfl, rfl, trivial⟩ trivial
  intro m
  induction m with
  | succ m ih =>
    intro i cur hi hw σ htt hh
    refine Run.to ?_ htt hh (n' := 1)
    have his : i < s.length := by omega
    obtain ⟨hpi, hpci, hpSi⟩ := hcell i his
    have hic : i < cur.length := by rw [hw.1]; exact his
    refine RunF_sound tab_ok (hgl cur []) 400 [true] _ _ rfl ?_ ?_
    · simp; omega
    suffices H : ∀ (m k : Nat) (cur : List Ent) (hic : i < cur.length), k + m = s[i].2.2.length → Wr s cur i → (∀ k', k' < k → cur[i].2.2[k']? = some i) → ∀ σ, inT σ.t [(14, .v (.slice p s.length c)), (15, .v (.slice q t.length d)), (16, .v (.slice p3 u.length c3)), (17, .v (.int .i64 (i : Int))), (18, .v (.int .i64 (k : Int)))] → inT σ.h [] →
        Run (((fnP Tryd.prog 6 (Tryd.f6).ntmps w (.bool true)).rebase w13 S13).withX (gX cur [])) _ σ by
      exact H s[i].2.2.length 0 cur hic (by omega) hw (fun k' h => absurd h (Nat.not_lt_zero _)) _ ⟨rfl, rfl, rfl, rfl, rfl, trivial⟩ trivial
    clear htt hh hw hic cur
    intro mk
    induction mk with
    | zero =>
      intro k cur hic hk hw hall σ htt hh
      refine Run.to ?_ htt hh (n' := 1)
      have hlen := (hw.2 i his hic).2.2.1
      refine RunF_sound tab_ok (hgl cur []) 400 [false] _ _ rfl ?_ ?_
      · simp only [Int.toNat_natCast, Nat.mul_one, hpci]
        simp
        exact ⟨⟨hpi, his⟩, ⟨rfl, hpSi⟩, show s[i].2.2.length ≤ k by omega⟩
      refine ih (i + 1) cur (by omega) (hw.next hic fun k' hk' => by have := hall k' (by omega); rw [List.getElem?_eq_getElem hk'] at this; exact Option.some.inj this) _ ⟨rfl, rfl, rfl, i64_eq (wrap_succ (by omega)), trivial⟩ trivial
    | succ mk ihk =>
      intro k cur hic hk hw hall σ htt hh
      refine Run.to ?_ htt hh (n' := 1)
      have hlen := (hw.2 i his hic).2.2.1
      have hs1 := (hw.2 i his hic).1
      have hks : k < s[i].2.2.length := by omega
      have hl64i := hl64s s[i] (List.getElem_mem his)
      have hkc : k < cur[i].2.2.length := by omega
      refine RunF_sound tab_ok (hgl cur []) 400 [true] _ _ rfl ?_ ?_
      · simp only [Int.toNat_natCast, Nat.mul_one, hpci]
        simp
        exact ⟨⟨hpi, his⟩, ⟨rfl, hpSi⟩, hks, ⟨hpi, his⟩, ⟨rfl, hpSi⟩, ⟨rfl, hks⟩⟩
      refine Run.toC (t' := [(14, .v (.slice p s.length c)), (15, .v (.slice q t.length d)), (16, .v (.slice p3 u.length c3)), (17, .v (.int .i64 (i : Int))), (18, .v (.int .i64 (k : Int))), (109, .v (.int .i64 (i : Int))), (110, .v (.pointer (some ⟨cur[i].1, k, none⟩)))]) (h' := []) (n' := 1) ?_
        ⟨inTC_same rfl, inTC_same rfl, inTC_same rfl, inTC_same rfl, inTC_same rfl, inTC_same rfl, ⟨_, rfl, fun M => ?_⟩, trivial⟩ trivial
      rotate_left
      · simp only [conc, Int.toNat_natCast, Nat.mul_one, hpci]
        show Value.pointer (some ((⟨s[i].1, 0, none⟩ : Addr).add k)) = _
        rw [Addr.add_lit, Nat.zero_add, ← hs1]
      refine Run.storeX (X' := gX (setE cur i k i hic) []) tab_ok rfl rfl rfl rfl rfl rfl rfl rfl (fun w' fp' h _ => ?_) rfl ?_
      · obtain ⟨g1, cu, e, g2, g3, g4⟩ := gX_set (k := k) i h hic hkc
        exact ⟨g1, cu, e, g2, g3, g4⟩
      refine RunF_sound tab_ok (hgl _ []) 400 [] _ _ rfl ?_ ?_
      · simp
      refine ihk (k + 1) (setE cur i k i hic) (by rw [setE_len]; exact hic) (by omega) (hw.set hic) (fun k' hlt => ?_) _ ⟨rfl, rfl, rfl, rfl, i64_eq (wrap_succ (by omega)), trivial⟩ trivial
      have e := setE_at (k := k) (v := i) hic i (by rw [setE_len]; exact hic)
      rw [if_pos rfl] at e
      rw [e, List.getElem?_set]
      by_cases hkk : k = k'
      · rw [if_pos hkk, if_pos (by omega)]
      · rw [if_neg hkk]; exact hall k' (by omega)
  | zero =>
    intro i cur hi hw σ htt hh
    refine Run.to ?_ htt hh (n' := 1)
    obtain rfl : i = s.length := by omega
    refine RunF_sound tab_ok (hgl cur []) 400 [false] _ _ rfl ?_ ?_
    · simp
    clear htt hh
    have hcl := hw.1
    suffices H2 : ∀ (m i : Nat) (G : List Nat), i + m = s.length → ∀ σ, inT σ.t [(14, .v (.slice p s.length c)), (15, .v (.slice q t.length d)), (16, .v (.slice p3 u.length c3)), (19, .v (.int .i64 (i : Int)))] → inT σ.h [] →
        Run (((fnP Tryd.prog 6 (Tryd.f6).ntmps w (.bool true)).rebase w13 S13).withX (gX cur G)) _ σ by
      exact H2 s.length 0 [] (by omega) _ ⟨rfl, rfl, rfl, rfl, trivial⟩ trivial
    intro m
    induction m with
    | succ m ih =>
      intro i G hi σ htt hh
      refine Run.to ?_ htt hh (n' := 1)
      have his : i < s.length := by omega
      have hic : i < cur.length := by omega
      obtain ⟨hpi, hpci, hpSi⟩ := hcell i his
      have hl64i := hl64s s[i] (List.getElem_mem his)
      have hci := hw.2 i his hic
      refine RunF_sound tab_ok (hgl cur G) 400 [true] _ _ rfl ?_ ?_
      · simp only [Int.toNat_natCast, Nat.mul_one, hpci]
        simp
        exact ⟨his, ⟨hpi, his⟩, rfl, hpSi⟩
      refine Run.toX (oX cur (G, cur[i].1, cur[i].2.1, cur[i].2.2.length)) (fun w fp h => oX_start h hic) ?_
      suffices H : ∀ (mk k : Nat) (x : List Nat × Nat × Nat × Nat), k + mk = 70 → x.2.2.2 = s[i].2.2.length + k → ∀ σ, inT σ.t [(14, .v (.slice p s.length c)), (15, .v (.slice q t.length d)), (16, .v (.slice p3 u.length c3)), (19, .v (.int .i64 (i : Int))), (20, .v (.slice (some ⟨x.2.1, 0, none⟩) x.2.2.2 x.2.2.1)), (21, .v (.int .i64 (k : Int)))] → inT σ.h [] →
          Run (((fnP Tryd.prog 6 (Tryd.f6).ntmps w (.bool true)).rebase w13 S13).withX (oX cur x)) _ σ by
        refine Run.toC (t' := [(14, .v (.slice p s.length c)), (15, .v (.slice q t.length d)), (16, .v (.slice p3 u.length c3)), (19, .v (.int .i64 (i : Int))), (20, .v (.slice (some ⟨cur[i].1, 0, none⟩) cur[i].2.2.length cur[i].2.1)), (21, .v (.int .i64 ((0 : Nat) : Int)))]) (h' := []) (n' := 1) ?_
          ⟨inTC_same rfl, inTC_same rfl, inTC_same rfl, inTC_same rfl, ⟨_, rfl, fun M => ?_⟩, inTC_same rfl, trivial⟩ trivial
        · exact H 70 0 (G, cur[i].1, cur[i].2.1, cur[i].2.2.length) (by omega) (by simp only; omega) _ ⟨rfl, rfl, rfl, rfl, rfl, rfl, trivial⟩ trivial
        · simp only [conc, Int.toNat_natCast, Nat.mul_one, hpci]
          show slV s[i] = slV cur[i]
          exact hw.slv his hic
      clear htt hh
      intro mk
      induction mk with
      | zero =>
        intro k x hk hx σ htt hh
        refine Run.to ?_ htt hh (n' := 1)
        obtain rfl : k = 70 := by omega
        refine RunF_sound tab_ok (oX_local cur x) 400 [false] _ _ rfl ?_ ?_
        · simp
        refine Run.toX (gX cur x.1) (fun w fp h => h.1) ?_
        exact ih (i + 1) x.1 (by omega) _ ⟨rfl, rfl, rfl, i64_eq (wrap_succ (by omega)), trivial⟩ trivial
      | succ mk ihk =>
        rintro k ⟨G, g, cap, n⟩ hk hx σ htt hh
        simp only at hx
        refine Run.to ?_ htt hh (n' := 1)
        refine RunF_sound tab_ok (oX_local cur _) 400 [true] _ _ rfl ?_ ?_
        · simp [fillL, repL, Value.cells, maxLen]; omega
        refine Run.appendX (u := .int .i64 (-8)) (X1 := oX cur (G, g, cap, n + 1)) (X2 := fun g' cap' => oX cur (g' :: G, g', cap', n + 1)) tab_ok rfl rfl rfl rfl rfl rfl rfl rfl rfl rfl rfl rfl rfl (by simp only [hml]; omega) (by show (n + 1) * 8 ≤ 140737488355328; omega) rfl rfl ?_ ?_ ?_
        · intro w fp h hlt
          obtain ⟨cu, hc, hs2⟩ := h.2.1
          exact ⟨gX_foot h, h.2.2.1, cu, hc, hs2, fun hr => oX_room h hc hr, fun cs cap' q1 q2 q3 => oX_new h hlt q1 q2 q3⟩
        · intro hr
          refine RunF_sound tab_ok (oX_local cur _) 400 [] _ _ rfl ?_ ?_
          · simp
          exact ihk (k + 1) (G, g, cap, n + 1) (by omega) (by simp only; omega) _ ⟨rfl, rfl, rfl, rfl, rfl, i64_eq (wrap_succ (by omega)), trivial⟩ trivial
        · intro g' cap'
          refine RunF_sound tab_ok (oX_local cur _) 400 [] _ _ rfl ?_ ?_
          · simp
          exact ihk (k + 1) (g' :: G, g', cap', n + 1) (by omega) (by simp only; omega) _ ⟨rfl, rfl, rfl, rfl, rfl, i64_eq (wrap_succ (by omega)), trivial⟩ trivial
    | zero =>
      intro i G hi σ htt hh
      refine Run.to ?_ htt hh (n' := 1)
      obtain rfl : i = s.length := by omega
      refine RunF_sound tab_ok (hgl cur G) 400 [false] _ _ rfl ?_ ?_
      · simp
      clear htt hh
      suffices H3 : ∀ (m i : Nat), i + m = s.length → ∀ σ, inT σ.t [(14, .v (.slice p s.length c)), (15, .v (.slice q t.length d)), (16, .v (.slice p3 u.length c3)), (22, .v (.int .i64 (i : Int)))] → inT σ.h [] →
          Run (((fnP Tryd.prog 6 (Tryd.f6).ntmps w (.bool true)).rebase w13 S13).withX (gX cur G)) _ σ by
        exact H3 s.length 0 (by omega) _ ⟨rfl, rfl, rfl, rfl, trivial⟩ trivial
      intro m
      induction m with
      | zero =>
        intro i hi σ htt hh
        refine Run.to ?_ htt hh (n' := 1)
        obtain rfl : i = s.length := by omega
        refine RunF_sound tab_ok (hgl cur G) 400 [false] _ _ rfl ?_ ?_
        · simp
        refine Run.callFn (r := .bool true) (hgl cur G) rfl rfl rfl rfl rfl rfl rfl sameLists_enters rfl (fun w' hA => sameLists_ok q p3 d c3 t u w' (KT13.at hA) (KU13.at hA) htu (by omega)) ?_
        refine RunF_sound tab_ok (hgl cur G) 400 [] _ _ rfl ?_ ?_
        · simp
        exact Run.retB (Ds := []) tab_ok (hgl cur G) hB13 Tryd.func6 rfl trivial (fun M => rfl)
      | succ m ih =>
        intro i hi σ htt hh
        refine Run.to ?_ htt hh (n' := 1)
        have his : i < s.length := by omega
        have hic : i < cur.length := by omega
        obtain ⟨hpi, hpci, hpSi⟩ := hcell i his
        have hl64i := hl64s s[i] (List.getElem_mem his)
        have hci := hw.2 i his hic
        refine RunF_sound tab_ok (hgl cur G) 400 [true] _ _ rfl ?_ ?_
        · simp; omega
        suffices H : ∀ (mk k : Nat), k + mk = s[i].2.2.length → ∀ σ, inT σ.t [(14, .v (.slice p s.length c)), (15, .v (.slice q t.length d)), (16, .v (.slice p3 u.length c3)), (22, .v (.int .i64 (i : Int))), (23, .v (.int .i64 (k : Int)))] → inT σ.h [] →
            Run (((fnP Tryd.prog 6 (Tryd.f6).ntmps w (.bool true)).rebase w13 S13).withX (gX cur G)) _ σ by
          exact H s[i].2.2.length 0 (by omega) _ ⟨rfl, rfl, rfl, rfl, rfl, trivial⟩ trivial
        clear htt hh
        intro mk
        induction mk with
        | zero =>
          intro k hk σ htt hh
          refine Run.to ?_ htt hh (n' := 1)
          refine RunF_sound tab_ok (hgl cur G) 400 [false] _ _ rfl ?_ ?_
          · simp only [Int.toNat_natCast, Nat.mul_one, hpci]
            simp
            exact ⟨⟨hpi, his⟩, ⟨rfl, hpSi⟩, show s[i].2.2.length ≤ k by omega⟩
          exact ih (i + 1) (by omega) _ ⟨rfl, rfl, rfl, i64_eq (wrap_succ (by omega)), trivial⟩ trivial
        | succ mk ihk =>
          intro k hk σ htt hh
          refine Run.to ?_ htt hh (n' := 1)
          have hks : k < s[i].2.2.length := by omega
          have hkc : k < cur[i].2.2.length := by omega
          have hval := hci.2.2.2 his k hkc
          refine RunF_sound tab_ok (hgl cur G) 23 [true] _ _ rfl ?_ ?_
          · simp only [Int.toNat_natCast, Nat.mul_one, hpci]
            simp
            exact ⟨⟨hpi, his⟩, ⟨rfl, hpSi⟩, hks, ⟨hpi, his⟩, ⟨rfl, hpSi⟩, ⟨rfl, hks⟩⟩
          refine Run.toC (t' := [(14, .v (.slice p s.length c)), (15, .v (.slice q t.length d)), (16, .v (.slice p3 u.length c3)), (22, .v (.int .i64 (i : Int))), (23, .v (.int .i64 (k : Int))), (148, .v (.pointer (some ⟨cur[i].1, k, none⟩)))]) (h' := []) (n' := 1) ?_
            ⟨inTC_same rfl, inTC_same rfl, inTC_same rfl, inTC_same rfl, inTC_same rfl, ⟨_, rfl, fun M => ?_⟩, trivial⟩ trivial
          rotate_left
          · simp only [conc, Int.toNat_natCast, Nat.mul_one, hpci]
            show Value.pointer (some ((⟨s[i].1, 0, none⟩ : Addr).add k)) = _
            rw [Addr.add_lit, Nat.zero_add, ← hci.1]
          refine Run.loadX (Q := fun v => v = .int .i64 (i : Int)) tab_ok rfl rfl rfl rfl rfl (fun w' fp' h => ⟨_, rfl, by rw [gX_cell h hic hkc, hval]⟩) rfl rfl ?_
          rintro _ rfl
          refine RunF_sound tab_ok (hgl cur G) 400 [false] _ _ rfl ?_ ?_
          · simp
          exact ihk (k + 1) (by omega) _ ⟨rfl, rfl, rfl, rfl, i64_eq (wrap_succ (by omega)), trivial⟩ trivial
end Go.Proofs.YtocpkgckllbjlaaDoor

/- walk: Collect. -/
import Derived.Test.YtjkpfnmkhjlllaaGreatDoorRzShelf2
set_option linter.unusedVariables false
set_option linter.unusedSimpArgs false
open Go Go.Rz
set_option maxRecDepth 4000
namespace Go.Rz
/-- What was collected. -/
def colP (b : Nat) (R : List It) : HProp := ex fun x : Option Addr × Nat => [pr (wf x.1 R.length x.2), pts b 0 [.slice x.1 R.length x.2], sl x.1 R.length x.2 2 (flat itC R)]
def colJ (b b3 : Nat) (most : Int) (L : List It) (i : Nat) : List HProp := [pr ((i : Int) < most ∧ i ≤ L.length), pts b3 0 [.int .i64 most], colP b (L.take i)]
def colX (b b3 : Nat) (most : Int) (L : List It) : Code → Nat → List HProp
  | .exit 0, i => [pr ((i : Int) = most ∧ i ≤ L.length), colP b (L.take i)]
  | _, _ => [pr False]
theorem colP_nil {b : Nat} {S : List HProp} : Ent (pts b 0 [.slice none 0 0] :: S) (colP b [] :: S) := fun h H =>
  Ent.ex (A := fun x : Option Addr × Nat => [pr (wf x.1 0 x.2), pts b 0 [.slice x.1 0 x.2], sl x.1 0 x.2 2 []]) (none, 0) h (Ent.pr (.inl ⟨rfl, rfl, rfl⟩) h (seps_swap ⟨Heap.emp, h, ⟨rfl, .inl ⟨rfl, rfl, rfl⟩, by simp⟩, H, fun _ _ => .inl rfl, fun _ _ _ e => (by cases e), sub_refl h⟩))
theorem colP_in {b n cp : Nat} {a : Option Addr} {R : List It} {us : List Value} {S : List HProp} (hn : R.length = n) (hu : us = flat itC R) (hw : wf a n cp) : Ent (pts b 0 [.slice a n cp] :: sl a n cp 2 us :: S) (colP b R :: S) := fun h H => by
  subst hn; subst hu
  exact Ent.ex (A := fun x : Option Addr × Nat => [pr (wf x.1 R.length x.2), pts b 0 [.slice x.1 R.length x.2], sl x.1 R.length x.2 2 (flat itC R)]) (a, cp) h (Ent.pr hw h H)
theorem colX_ne {b b3 : Nat} {most : Int} {L : List It} {c : Code} {s : Nat} (h : c ≠ .exit 0) : colX b b3 most L c s = [pr False] := by
  unfold colX
  split
  · exact absurd rfl h
  · rfl
theorem sp_Collect {B : Base} {gf : Nat} {first lb : Array Value} {L : List It} {A A0 : List HProp} {most : Int} {dn st : Nat → List HProp → Prop} : (IsFn PP gf ∧ Iter PP B gf first lb (arcStp L) 0 A dn st ∧ (∀ i A', dn i A' → i = L.length ∧ A' = A0) ∧ (∀ i A', st i A' → A' = A0) ∧ 0 < most ∧ most < 1000000) →
    Fn PP B N.walk_Collect [.func (.func gf) first lb, .int .i64 most] A (fun v M => ∃ a cap, wf a (L.take most.toNat).length cap ∧ v = .slice a (L.take most.toNat).length cap ∧ M = A0 ++ [sl a (L.take most.toNat).length cap 2 (flat itC (L.take most.toNat))]) := by
  rintro ⟨hfn, hit, hdn, hst, hm0, hm1⟩
  refine Fn.pre (A' := [seps A]) ?_ (Ent.one A)
  have hit' : Iter PP B gf first lb (arcStp L) 0 [seps A] (fun i A' => i = L.length ∧ A' = [seps A0]) (fun i A' => A' = [seps A0]) := fun Y JJ X hY =>
    Fn.conseq (hit Y JJ X hY) (Ent.append (Ent.one' A) (Ent.refl _)) (by
      rintro v M ⟨A', s, ⟨h1, rfl⟩ | ⟨h1, rfl⟩⟩
      · obtain ⟨h2, h3⟩ := hdn _ _ h1
        subst h2; subst h3
        exact ⟨_, ⟨[seps A'], _, .inl ⟨⟨rfl, rfl⟩, rfl⟩⟩, Ent.append (Ent.one _) (Ent.refl _)⟩
      · have h3 := hst _ _ h1
        subst h3
        exact ⟨_, ⟨[seps A'], s, .inr ⟨rfl, rfl⟩⟩, Ent.append (Ent.one _) (Ent.refl _)⟩)
  refine Fn.conseq (Ps' := fun v M => ∃ a cap, wf a (L.take most.toNat).length cap ∧ v = .slice a (L.take most.toNat).length cap ∧ M = [seps A0, sl a (L.take most.toNat).length cap 2 (flat itC (L.take most.toNat))]) ?_ (Ent.refl _) ?_
  rotate_left
  · rintro v M ⟨a, cap, h1, h2, rfl⟩
    exact ⟨_, ⟨a, cap, h1, h2, rfl⟩, Ent.open⟩
  refine Fn_ofM N.walk_Collect_f rfl rfl fun fr => ?_
  try dsimp only [List.append_eq, List.cons_append, List.nil_append]
  repeat' (first | refine T_seq ?_ | refine T_regionR Tt (by kernel_rfl) ?_ | refine W_go Tt rfl ?_ | refine W_nil ?_ | refine T_cond_true rfl ?_ | refine T_cond_false rfl ?_ | refine T_skip ?_ | refine T_ret ?_ | refine T_exit ?_ | refine T_block ?_ | with_reducible refine R_block ?_ | with_reducible refine R_then ?_ | with_reducible refine R_norm ?_ | with_reducible refine R_exitEq ?_ | refine R_exitNe ?_ | with_reducible refine R_thenX ?_ | with_reducible refine R_scopeX ?_ | with_reducible refine R_blockN ?_ | refine A_cmpT Tt ?_ | refine A_cmpF Tt ?_ | (refine A_cmp Tt ?_ ?_ <;> intro hc) | refine A_skip Tt ?_ | refine A_ldPts Tt ?_ | refine A_ldSl Tt ?_ | refine A_arr Tt ?_ | refine A_el Tt ?_ | refine A_el1 Tt ?_ | refine A_el2 Tt ?_ | refine A_store Tt ?_ | (refine A_box Tt ?_; intro b) | (refine A_alloc Tt ?_; intro b) | (refine A_mk Tt ?_; intro b) | (refine A_app Tt ?_; intro a cp hwf) | (refine A_appNil Tt ?_; intro a cp hwf) | fail)
  · exact absurd hc (by omega)
  rename_i b3
  obtain ⟨b5, hb5⟩ : ∃ x, x = b := ⟨_, rfl⟩
  subst hb5
  refine T_ent (colP_nil (b := b5)) ?_
  refine T_ent (Ent.pr (p := ((0 : Nat) : Int) < most ∧ 0 ≤ L.length) ⟨by omega, by omega⟩) ?_
  refine T_rangeFunc (J := colJ b5 b3 most L) (Jx := colX b5 b3 most L) (stp := arcStp L) (s0 := 0) (A := [seps A]) rfl hfn (by decide) ?_ takeS hit' ?_ ?_ ?_
  · rintro s vals s' ⟨x, -, rfl, -⟩; rfl
  · rintro l fr' n s vals s' ⟨x, hx, rfl, rfl⟩
    dsimp only [colJ, List.cons_append, List.nil_append]
    repeat' (first | refine T_seq ?_ | refine T_regionR Tt (by kernel_rfl) ?_ | refine W_go Tt rfl ?_ | refine W_nil ?_ | refine T_cond_true rfl ?_ | refine T_cond_false rfl ?_ | refine T_skip ?_ | refine T_ret ?_ | refine T_exit ?_ | refine T_block ?_ | with_reducible refine R_block ?_ | with_reducible refine R_then ?_ | with_reducible refine R_norm ?_ | with_reducible refine R_exitEq ?_ | refine R_exitNe ?_ | with_reducible refine R_thenX ?_ | with_reducible refine R_scopeX ?_ | with_reducible refine R_blockN ?_ | refine A_cmpT Tt ?_ | refine A_cmpF Tt ?_ | (refine A_cmp Tt ?_ ?_ <;> intro hc) | refine A_skip Tt ?_ | refine A_ldPts Tt ?_ | refine A_ldSl Tt ?_ | refine A_arr Tt ?_ | refine A_el Tt ?_ | refine A_el1 Tt ?_ | refine A_el2 Tt ?_ | refine A_store Tt ?_ | (refine A_box Tt ?_; intro b) | (refine A_alloc Tt ?_; intro b) | (refine A_mk Tt ?_; intro b) | (refine A_app Tt ?_; intro a cp hwf) | (refine A_appNil Tt ?_; intro a cp hwf) | fail)
    refine ⟨rfl, fun fr2 => ?_⟩
    dsimp only [List.dropLast, List.cons_append, List.nil_append]
    refine T_prp pk0 fun hs => ?_
    refine T_ex pk1 fun y => ?_
    dsimp only [List.cons_append, List.nil_append]
    refine T_prp pk0 fun hw => ?_
    obtain ⟨ya, yc⟩ := y
    have hsl : s < L.length := (List.getElem?_eq_some_iff.1 hx).1
    have htl : (L.take s).length = s := by simp; omega
    have ht2 : L.take (s + 1) = L.take s ++ [x] := by rw [List.take_add_one, hx]; rfl
    dsimp only at hw ⊢
    repeat' (first | refine T_seq ?_ | refine T_regionR Tt (by kernel_rfl) ?_ | refine W_go Tt rfl ?_ | refine W_nil ?_ | refine T_cond_true rfl ?_ | refine T_cond_false rfl ?_ | refine T_skip ?_ | refine T_ret ?_ | refine T_exit ?_ | refine T_block ?_ | with_reducible refine R_block ?_ | with_reducible refine R_then ?_ | with_reducible refine R_norm ?_ | with_reducible refine R_exitEq ?_ | refine R_exitNe ?_ | with_reducible refine R_thenX ?_ | with_reducible refine R_scopeX ?_ | with_reducible refine R_blockN ?_ | refine A_cmpT Tt ?_ | refine A_cmpF Tt ?_ | (refine A_cmp Tt ?_ ?_ <;> intro hc) | refine A_skip Tt ?_ | refine A_ldPts Tt ?_ | refine A_ldSl Tt ?_ | refine A_arr Tt ?_ | refine A_el Tt ?_ | refine A_el1 Tt ?_ | refine A_el2 Tt ?_ | refine A_store Tt ?_ | (refine A_box Tt ?_; intro b) | (refine A_alloc Tt ?_; intro b) | (refine A_mk Tt ?_; intro b) | (refine A_app Tt ?_; intro a cp hwf) | (refine A_appNil Tt ?_; intro a cp hwf) | fail)
    · refine (Ent.takeL (L := [pts b5 0 [.slice a _ cp], sl a _ cp 2 _, fr2]) takeS).trans ?_
      refine (colP_in (R := L.take (s + 1)) (by rw [ht2]; simp) (by rw [ht2, flat_append, flat_one_elem]; rfl) hwf).trans ?_
      exact Ent.pr ⟨by rw [htl] at hc; omega, by omega⟩
    · refine (Ent.takeL (L := [pts b5 0 [.slice a _ cp], sl a _ cp 2 _, pts b3 0 [.int .i64 most], fr2]) takeS).trans ?_
      refine (colP_in (R := L.take (s + 1)) (by rw [ht2]; simp) (by rw [ht2, flat_append, flat_one_elem]; rfl) hwf).trans ?_
      exact Ent.swap.trans (Ent.pr ⟨by rw [htl] at hc; omega, by omega⟩)
  · intro D s A' hA
    obtain ⟨rfl, rfl⟩ := hA
    dsimp only [colJ, List.cons_append, List.nil_append]
    refine R_blockN (R_norm ?_)
    refine T_prp pk2 fun hs => ?_
    refine T_ex pk3 fun y => ?_
    dsimp only [List.cons_append, List.nil_append]
    refine T_prp pk0 fun hw => ?_
    obtain ⟨ya, yc⟩ := y
    dsimp only at hw ⊢
    have e1 : L.take most.toNat = L.take L.length := by rw [List.take_of_length_le (by omega), List.take_length]
    rw [e1]
    repeat' (first | refine T_seq ?_ | refine T_regionR Tt (by kernel_rfl) ?_ | refine W_go Tt rfl ?_ | refine W_nil ?_ | refine T_cond_true rfl ?_ | refine T_cond_false rfl ?_ | refine T_skip ?_ | refine T_ret ?_ | refine T_exit ?_ | refine T_block ?_ | with_reducible refine R_block ?_ | with_reducible refine R_then ?_ | with_reducible refine R_norm ?_ | with_reducible refine R_exitEq ?_ | refine R_exitNe ?_ | with_reducible refine R_thenX ?_ | with_reducible refine R_scopeX ?_ | with_reducible refine R_blockN ?_ | refine A_cmpT Tt ?_ | refine A_cmpF Tt ?_ | (refine A_cmp Tt ?_ ?_ <;> intro hc) | refine A_skip Tt ?_ | refine A_ldPts Tt ?_ | refine A_ldSl Tt ?_ | refine A_arr Tt ?_ | refine A_el Tt ?_ | refine A_el1 Tt ?_ | refine A_el2 Tt ?_ | refine A_store Tt ?_ | (refine A_box Tt ?_; intro b) | (refine A_alloc Tt ?_; intro b) | (refine A_mk Tt ?_; intro b) | (refine A_app Tt ?_; intro a cp hwf) | (refine A_appNil Tt ?_; intro a cp hwf) | fail)
    (change bodyQM PP _ [fr] _ _ _ _ _; refine ⟨[D], _, rfl, takeS, _, _, _, (.tmp .nil), ⟨ya, yc, hw, rfl, rfl⟩, takeS⟩)
  · intro D s A' c hA
    subst hA
    by_cases hx : c = .exit 0
    · subst hx
      dsimp only [colX, List.cons_append, List.nil_append]
      refine T_prp pk2 fun hs => ?_
      refine T_ex pk2 fun y => ?_
      dsimp only [List.cons_append, List.nil_append]
      refine T_prp pk0 fun hw => ?_
      obtain ⟨ya, yc⟩ := y
      dsimp only at hw ⊢
      have e1 : most.toNat = s := by omega
      rw [e1]
      repeat' (first | refine T_seq ?_ | refine T_regionR Tt (by kernel_rfl) ?_ | refine W_go Tt rfl ?_ | refine W_nil ?_ | refine T_cond_true rfl ?_ | refine T_cond_false rfl ?_ | refine T_skip ?_ | refine T_ret ?_ | refine T_exit ?_ | refine T_block ?_ | with_reducible refine R_block ?_ | with_reducible refine R_then ?_ | with_reducible refine R_norm ?_ | with_reducible refine R_exitEq ?_ | refine R_exitNe ?_ | with_reducible refine R_thenX ?_ | with_reducible refine R_scopeX ?_ | with_reducible refine R_blockN ?_ | refine A_cmpT Tt ?_ | refine A_cmpF Tt ?_ | (refine A_cmp Tt ?_ ?_ <;> intro hc) | refine A_skip Tt ?_ | refine A_ldPts Tt ?_ | refine A_ldSl Tt ?_ | refine A_arr Tt ?_ | refine A_el Tt ?_ | refine A_el1 Tt ?_ | refine A_el2 Tt ?_ | refine A_store Tt ?_ | (refine A_box Tt ?_; intro b) | (refine A_alloc Tt ?_; intro b) | (refine A_mk Tt ?_; intro b) | (refine A_app Tt ?_; intro a cp hwf) | (refine A_appNil Tt ?_; intro a cp hwf) | fail)
      (change bodyQM PP _ [fr] _ _ _ _ _; refine ⟨[D], _, rfl, takeS, _, _, _, (.tmp .nil), ⟨ya, yc, hw, rfl, rfl⟩, takeS⟩)
    · rw [colX_ne hx]
      exact T_prp pk2 fun h => h.elim
end Go.Rz


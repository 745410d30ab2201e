/- shelf: all items. -/
import Derived.Test.YtjkpfnmkhjlllaaGreatDoorRzTree1
set_option linter.unusedVariables false
set_option linter.unusedSimpArgs false
open Go Go.Rz
set_option maxRecDepth 4000
namespace Go.Rz
def AllSp (B : Base) (T : Nat → List It → HProp) : Prop := ∀ {p : Nat} {l : List It} {a : Option Addr} {n cap : Nat} {us : List Value}, (wf a n cap ∧ n + l.length ≤ 1000000) →
  Fn PP B N.shelf_node_all [.pointer (some ⟨p, 0, none⟩), .slice a n cap] [T p l, sl a n cap 2 us] (fun v L => ∃ a' cap', wf a' (n + l.length) cap' ∧ v = .slice a' (n + l.length) cap' ∧ L = [T p l, sl a' (n + l.length) cap' 2 (us ++ flat itC l)])
structure AllX where
  i : Nat
  a : Option Addr
  cp : Nat
  n : Nat
  us : List Value

theorem sp_all_leaf {B : Base} {m : Nat} : AllSp B (trP 0 m) := by
  intro p l a n cap us ⟨hwf, hn⟩
  refine Fn.conseq (Ps' := fun v L => ∃ a' cap' x, wf a' (n + l.length) cap' ∧ v = .slice a' (n + l.length) cap' ∧ (m ≤ l.length ∧ l.length ≤ 6 ∧ Nd.ok x l.length 0) ∧ L = ndP p x l [] ++ [sl a' (n + l.length) cap' 2 (us ++ flat itC l)]) ?_ (Ent.refl _) ?_
  rotate_left
  · rintro v L ⟨a', cap', x, h1, h2, h3, rfl⟩
    exact ⟨_, ⟨a', cap', h1, h2, rfl⟩, fun h H => Ent.ex (A := fun x : Nd => pr (m ≤ l.length ∧ l.length ≤ 6 ∧ x.ok l.length 0) :: ndP p x l []) x h (Ent.pr h3 h H)⟩
  refine Fn.ex fun x => Fn.prop fun hx => ?_
  obtain ⟨ia, ic, ba, bc⟩ := x
  have hx' := hx
  obtain ⟨h3, h6, hia, hba⟩ := hx'
  dsimp only at hia hba
  unfold ndP
  dsimp only [List.cons_append, List.nil_append]
  refine Fn_of N.shelf_node_all_f rfl rfl fun fr => ?_
  try dsimp only [List.append_eq, List.cons_append, List.nil_append]
  repeat' (first | refine T_seq ?_ | refine T_regionR Tt (by kernel_rfl) ?_ | refine T_drawR Tt N.shelf_node_all_d mixed (by kernel_rfl) ?_ | refine W_go Tt rfl ?_ | refine W_nil ?_ | refine T_cond_true rfl ?_ | refine T_cond_false rfl ?_ | refine T_skip ?_ | refine T_ret ?_ | refine T_exit ?_ | refine T_block ?_ | with_reducible refine R_block ?_ | with_reducible refine R_then ?_ | with_reducible refine R_norm ?_ | with_reducible refine R_exitEq ?_ | refine R_exitNe ?_ | with_reducible refine R_thenX ?_ | with_reducible refine R_scopeX ?_ | with_reducible refine R_blockN ?_ | refine A_cmpT Tt ?_ | refine A_cmpF Tt ?_ | (refine A_cmp Tt ?_ ?_ <;> intro hc) | refine A_ldPts Tt ?_ | refine A_ldSl Tt ?_ | refine S_ix Tt ?_ | refine S_ixA Tt ?_ | refine A_el Tt ?_ | refine A_el1 Tt ?_ | refine A_el2 Tt ?_ | refine A_store Tt ?_ | refine A_stEl Tt ?_ | (refine A_alloc Tt ?_; intro b) | (refine A_mk Tt ?_; intro b) | (refine A_app Tt ?_; intro a cp hwf) | (refine A_appNil Tt ?_; intro a cp hwf) | fail)
  refine T_loopE (X := AllX) (fun x => [(0, .pointer (some ⟨p, 0, none⟩)), (1, .slice x.a x.n x.cp), (13, .slice ia l.length ic), (14, .int .i64 l.length), (15, .int .i64 x.i)])
    (fun x => [pts p 0 (ndC ⟨ia, ic, ba, bc⟩ l.length 0), sl ia l.length ic 2 (flat itC l), sl ba 0 bc 1 (flat ptC []), sl x.a x.n x.cp 2 x.us, fr]) (fun x => l.length + 1 - x.i) (fun x => x.i ≤ l.length ∧ wf x.a x.n x.cp ∧ x.n = n + x.i ∧ x.us = us ++ flat itC (l.take x.i)) ⟨0, a, cap, n, us⟩ ⟨by simp, hwf, by simp, by simp⟩ (by exact ⟨rfl, rfl, rfl, rfl, rfl, trivial⟩) takeS ?_
  rintro ⟨i, a, cp, n', us'⟩ d ⟨hi, hw, hn', hu⟩
  dsimp only at hi hw hn' hu ⊢
  by_cases hlt : i < l.length
  · rcases hia with ⟨rfl, h0, rfl⟩ | ⟨ib, off, rfl, hle⟩
    · omega
    obtain ⟨y, hy⟩ : ∃ x, l[i]? = some x := ⟨_, List.getElem?_eq_getElem hlt⟩
    repeat' (first | refine T_seq ?_ | refine T_regionR Tt (by kernel_rfl) ?_ | refine T_drawR Tt N.shelf_node_all_d mixed (by kernel_rfl) ?_ | refine W_go Tt rfl ?_ | refine W_nil ?_ | refine T_cond_true rfl ?_ | refine T_cond_false rfl ?_ | refine T_skip ?_ | refine T_ret ?_ | refine T_exit ?_ | refine T_block ?_ | with_reducible refine R_block ?_ | with_reducible refine R_then ?_ | with_reducible refine R_norm ?_ | with_reducible refine R_exitEq ?_ | refine R_exitNe ?_ | with_reducible refine R_thenX ?_ | with_reducible refine R_scopeX ?_ | with_reducible refine R_blockN ?_ | refine A_cmpT Tt ?_ | refine A_cmpF Tt ?_ | (refine A_cmp Tt ?_ ?_ <;> intro hc) | refine A_ldPts Tt ?_ | refine A_ldSl Tt ?_ | refine S_ix Tt ?_ | refine S_ixA Tt ?_ | refine A_el Tt ?_ | refine A_el1 Tt ?_ | refine A_el2 Tt ?_ | refine A_store Tt ?_ | refine A_stEl Tt ?_ | (refine A_alloc Tt ?_; intro b) | (refine A_mk Tt ?_; intro b) | (refine A_app Tt ?_; intro a cp hwf) | (refine A_appNil Tt ?_; intro a cp hwf) | (refine A_call Tt N.shelf_node_leaf_is (sp_leaf_yes (x := ⟨some ⟨ib, off, none⟩, ic, ba, bc⟩) (n := l.length)) (trivial) ?_; rintro v L ⟨rfl, rfl⟩ <;> dsimp only [List.cons_append, List.nil_append]) | fail)
    · refine ⟨rfl, ⟨i + 1, _, _, n' + 1, us' ++ itC y⟩, ⟨by dsimp only; omega, hwf, by dsimp only; omega, ?_⟩, by dsimp only; omega, ⟨rfl, rfl, rfl, rfl, inc_ok (by omega), trivial⟩, _, takeS⟩
      dsimp only; rw [hu, List.take_add_one, hy]; simp
    · exact absurd hc (by omega)
  · have hie : i = l.length := by omega
    rw [hie, List.take_length] at hu
    subst hu
    subst hn'
    subst hie
    repeat' (first | refine T_seq ?_ | refine T_regionR Tt (by kernel_rfl) ?_ | refine T_drawR Tt N.shelf_node_all_d mixed (by kernel_rfl) ?_ | refine W_go Tt rfl ?_ | refine W_nil ?_ | refine T_cond_true rfl ?_ | refine T_cond_false rfl ?_ | refine T_skip ?_ | refine T_ret ?_ | refine T_exit ?_ | refine T_block ?_ | with_reducible refine R_block ?_ | with_reducible refine R_then ?_ | with_reducible refine R_norm ?_ | with_reducible refine R_exitEq ?_ | refine R_exitNe ?_ | with_reducible refine R_thenX ?_ | with_reducible refine R_scopeX ?_ | with_reducible refine R_blockN ?_ | refine A_cmpT Tt ?_ | refine A_cmpF Tt ?_ | (refine A_cmp Tt ?_ ?_ <;> intro hc) | refine A_ldPts Tt ?_ | refine A_ldSl Tt ?_ | refine S_ix Tt ?_ | refine S_ixA Tt ?_ | refine A_el Tt ?_ | refine A_el1 Tt ?_ | refine A_el2 Tt ?_ | refine A_store Tt ?_ | refine A_stEl Tt ?_ | (refine A_alloc Tt ?_; intro b) | (refine A_mk Tt ?_; intro b) | (refine A_app Tt ?_; intro a cp hwf) | (refine A_appNil Tt ?_; intro a cp hwf) | (refine A_call Tt N.shelf_node_leaf_is (sp_leaf_yes (x := ⟨ia, ic, ba, bc⟩) (n := l.length)) (trivial) ?_; rintro v L ⟨rfl, rfl⟩ <;> dsimp only [List.cons_append, List.nil_append]) | fail)
    · exact absurd hc (by omega)
    · (change bodyQ PP _ [fr] _ _ _ _ _; refine ⟨rfl, _, _, _, (.tmp .nil), ⟨a, cp, ⟨ia, ic, ba, bc⟩, hw, rfl, hx, rfl⟩, takeS⟩)

theorem all_kid {B : Base} {T : Nat → List It → HProp} (h : AllSp B T) {k1 k2 : List Kid} {k : Kid} {a : Option Addr} {n cap : Nat} {us : List Value} : (wf a n cap ∧ n + k.2.length ≤ 1000000) →
    Fn PP B N.shelf_node_all [.pointer (some ⟨k.1, 0, none⟩), .slice a n cap] [kidsP T (k1 ++ k :: k2), sl a n cap 2 us] (fun v L => ∃ a' cap', wf a' (n + k.2.length) cap' ∧ v = .slice a' (n + k.2.length) cap' ∧ L = [kidsP T (k1 ++ k :: k2), sl a' (n + k.2.length) cap' 2 (us ++ flat itC k.2)]) := fun hh => by
  refine Fn.conseq ((h hh).frame [kidsP T (k1 ++ k2)]) (A := [kidsP T (k1 ++ k :: k2), sl a n cap 2 us]) (A' := [T k.1 k.2, sl a n cap 2 us] ++ [kidsP T (k1 ++ k2)]) ?_ ?_
  · exact kids_mid.trans (Ent.cons _ Ent.swap)
  · rintro v L ⟨L', ⟨a', cap', h1, h2, rfl⟩, rfl⟩
    exact ⟨_, ⟨a', cap', h1, h2, rfl⟩, (Ent.cons _ Ent.swap).trans kids_mid'⟩
theorem split_at {α : Type} {l : List α} {i : Nat} {x : α} (h : l[i]? = some x) : l = l.take i ++ x :: l.drop (i + 1) := by
  obtain ⟨h1, e⟩ := List.getElem?_eq_some_iff.1 h
  rw [← e, ← List.drop_eq_getElem_cons h1, List.take_append_drop]
theorem kid_len {ks : List Kid} {its : List It} {i : Nat} {k : Kid} (h : ks.length = its.length + 1) (hk : ks[i]? = some k) : (pre (ks.take i) (its.take i)).length + k.2.length ≤ (weave ks its).length := by
  have hi := (List.getElem?_eq_some_iff.1 hk).1
  conv => rhs; rw [split_at hk, ← List.take_append_drop i its]
  rw [weave_mid (by simp; omega) (by simp; omega)]
  simp
theorem kid_len1 {ks : List Kid} {its : List It} {i : Nat} {k : Kid} (h : ks.length = its.length + 1) (hk : ks[i]? = some k) (hi : i < its.length) : (pre (ks.take i) (its.take i)).length + k.2.length + 1 ≤ (weave ks its).length := by
  obtain ⟨y, hy⟩ : ∃ x, its[i]? = some x := ⟨_, List.getElem?_eq_getElem hi⟩
  have h1 := pre_take hk hy
  obtain ⟨k', hk'⟩ : ∃ x, ks[i + 1]? = some x := ⟨_, List.getElem?_eq_getElem (by omega)⟩
  have := kid_len h hk'
  rw [h1] at this
  simp at this
  omega

theorem sp_all_step {B : Base} {dp m : Nat} (ih : AllSp B (trP dp 3)) : AllSp B (trP (dp + 1) m) := by
  intro p l a n cap us ⟨hwf, hn⟩
  refine Fn.conseq (Ps' := fun v L => ∃ a' cap', ∃ x : Nd × List It × List Kid, wf a' (n + l.length) cap' ∧ v = .slice a' (n + l.length) cap' ∧ (m ≤ x.2.1.length ∧ x.2.1.length ≤ 6 ∧ x.2.2.length = x.2.1.length + 1 ∧ l = weave x.2.2 x.2.1 ∧ x.1.ok x.2.1.length (x.2.1.length + 1)) ∧ L = (ndP p x.1 x.2.1 (x.2.2.map (·.1)) ++ [kidsP (trP dp 3) x.2.2]) ++ [sl a' (n + l.length) cap' 2 (us ++ flat itC l)]) ?_ (Ent.refl _) ?_
  rotate_left
  · rintro v L ⟨a', cap', x, h1, h2, h3, rfl⟩
    exact ⟨_, ⟨a', cap', h1, h2, rfl⟩, fun h H => Ent.ex (A := fun x : Nd × List It × List Kid => pr (m ≤ x.2.1.length ∧ x.2.1.length ≤ 6 ∧ x.2.2.length = x.2.1.length + 1 ∧ l = weave x.2.2 x.2.1 ∧ x.1.ok x.2.1.length (x.2.1.length + 1)) :: (ndP p x.1 x.2.1 (x.2.2.map (·.1)) ++ [kidsP (trP dp 3) x.2.2])) x h (Ent.pr h3 h H)⟩
  refine Fn.ex fun x => Fn.prop fun hx => ?_
  obtain ⟨⟨ia, ic, ba, bc⟩, its, ks⟩ := x
  have hx' := hx
  obtain ⟨h3, h6, hks, hl, hia, hba⟩ := hx'
  dsimp only at h3 h6 hks hl hia hba
  unfold ndP
  dsimp only [List.cons_append, List.nil_append]
  have hkl : (ks.map (·.1)).length = its.length + 1 := by simpa using hks
  rw [hkl]
  subst hl
  rcases hba with ⟨_, h0, _⟩ | ⟨bb, boff, rfl, hble⟩
  · omega
  refine Fn_of N.shelf_node_all_f rfl rfl fun fr => ?_
  try dsimp only [List.append_eq, List.cons_append, List.nil_append]
  repeat' (first | refine T_seq ?_ | refine T_regionR Tt (by kernel_rfl) ?_ | refine T_drawR Tt N.shelf_node_all_d mixed (by kernel_rfl) ?_ | refine W_go Tt rfl ?_ | refine W_nil ?_ | refine T_cond_true rfl ?_ | refine T_cond_false rfl ?_ | refine T_skip ?_ | refine T_ret ?_ | refine T_exit ?_ | refine T_block ?_ | with_reducible refine R_block ?_ | with_reducible refine R_then ?_ | with_reducible refine R_norm ?_ | with_reducible refine R_exitEq ?_ | refine R_exitNe ?_ | with_reducible refine R_thenX ?_ | with_reducible refine R_scopeX ?_ | with_reducible refine R_blockN ?_ | refine A_cmpT Tt ?_ | refine A_cmpF Tt ?_ | (refine A_cmp Tt ?_ ?_ <;> intro hc) | refine A_ldPts Tt ?_ | refine A_ldSl Tt ?_ | refine S_ix Tt ?_ | refine S_ixA Tt ?_ | refine A_el Tt ?_ | refine A_el1 Tt ?_ | refine A_el2 Tt ?_ | refine A_store Tt ?_ | refine A_stEl Tt ?_ | (refine A_alloc Tt ?_; intro b) | (refine A_mk Tt ?_; intro b) | (refine A_app Tt ?_; intro a cp hwf) | (refine A_appNil Tt ?_; intro a cp hwf) | fail)
  refine T_loopE (X := AllX) (fun x => [(0, .pointer (some ⟨p, 0, none⟩)), (1, .slice x.a x.n x.cp), (13, .slice ia its.length ic), (14, .int .i64 its.length), (15, .int .i64 x.i)])
    (fun x => [pts p 0 (ndC ⟨ia, ic, some ⟨bb, boff, none⟩, bc⟩ its.length (its.length + 1)), sl ia its.length ic 2 (flat itC its), sl (some ⟨bb, boff, none⟩) (its.length + 1) bc 1 (flat ptC (ks.map (·.1))), kidsP (trP dp 3) ks, sl x.a x.n x.cp 2 x.us, fr]) (fun x => its.length + 1 - x.i)
    (fun x => x.i ≤ its.length ∧ wf x.a x.n x.cp ∧ x.n = n + (pre (ks.take x.i) (its.take x.i)).length ∧ x.us = us ++ flat itC (pre (ks.take x.i) (its.take x.i))) ⟨0, a, cap, n, us⟩ ⟨by simp, hwf, by simp [pre], by simp [pre]⟩ (by exact ⟨rfl, rfl, rfl, rfl, rfl, trivial⟩) takeS ?_
  rintro ⟨i, a, cp, n', us'⟩ d ⟨hi, hw, hn', hu⟩
  dsimp only at hi hw hn' hu ⊢
  by_cases hlt : i < its.length
  · rcases hia with ⟨rfl, h0, rfl⟩ | ⟨ib, off, rfl, hle⟩
    · omega
    obtain ⟨y, hy⟩ : ∃ x, its[i]? = some x := ⟨_, List.getElem?_eq_getElem hlt⟩
    obtain ⟨k, hk⟩ : ∃ x, ks[i]? = some x := ⟨_, List.getElem?_eq_getElem (by omega)⟩
    have hk1 : (ks.map (·.1))[i]? = some k.1 := by simp [hk]
    have hb1 := kid_len1 hks hk hlt
    have hpt := pre_take hk hy
    have hcall := all_kid (B := B) ih (k1 := ks.take i) (k2 := ks.drop (i + 1)) (k := k) (a := a) (n := n') (cap := cp) (us := us') ⟨hw, by omega⟩
    rw [← split_at hk] at hcall
    repeat' (first | refine T_seq ?_ | refine T_regionR Tt (by kernel_rfl) ?_ | refine T_drawR Tt N.shelf_node_all_d mixed (by kernel_rfl) ?_ | refine W_go Tt rfl ?_ | refine W_nil ?_ | refine T_cond_true rfl ?_ | refine T_cond_false rfl ?_ | refine T_skip ?_ | refine T_ret ?_ | refine T_exit ?_ | refine T_block ?_ | with_reducible refine R_block ?_ | with_reducible refine R_then ?_ | with_reducible refine R_norm ?_ | with_reducible refine R_exitEq ?_ | refine R_exitNe ?_ | with_reducible refine R_thenX ?_ | with_reducible refine R_scopeX ?_ | with_reducible refine R_blockN ?_ | refine A_cmpT Tt ?_ | refine A_cmpF Tt ?_ | (refine A_cmp Tt ?_ ?_ <;> intro hc) | refine A_ldPts Tt ?_ | refine A_ldSl Tt ?_ | refine S_ix Tt ?_ | refine S_ixA Tt ?_ | refine A_el Tt ?_ | refine A_el1 Tt ?_ | refine A_el2 Tt ?_ | refine A_store Tt ?_ | refine A_stEl Tt ?_ | (refine A_alloc Tt ?_; intro b) | (refine A_mk Tt ?_; intro b) | (refine A_app Tt ?_; intro a cp hwf) | (refine A_appNil Tt ?_; intro a cp hwf) | (refine A_call Tt N.shelf_node_leaf_is (sp_leaf_no (x := ⟨some ⟨ib, off, none⟩, ic, some ⟨bb, boff, none⟩, bc⟩) (n := its.length) (m := its.length + 1)) (Nat.succ_pos _) ?_; rintro v L ⟨rfl, rfl⟩ <;> dsimp only [List.cons_append, List.nil_append]) | (refine A_call Tt N.shelf_node_all_is (fun _ => hcall) (trivial) ?_; rintro v L ⟨a3, cp3, hw3, rfl, rfl⟩ <;> dsimp only [List.cons_append, List.nil_append]) | fail)
    · refine ⟨rfl, ⟨i + 1, _, _, n' + k.2.length + 1, us' ++ flat itC k.2 ++ itC y⟩, ⟨by dsimp only; omega, hwf, by dsimp only; rw [hpt]; simp; omega, ?_⟩, by dsimp only; omega, ⟨rfl, rfl, rfl, rfl, inc_ok (by omega), trivial⟩, _, takeS⟩
      dsimp only; rw [hu, hpt]; simp
    · exact absurd hc (by omega)
  · have hie : i = its.length := by omega
    subst hie
    rw [List.take_length] at hu hn'
    obtain ⟨k, hk⟩ : ∃ x, ks[its.length]? = some x := ⟨_, List.getElem?_eq_getElem (by omega)⟩
    have hk1 : (ks.map (·.1))[its.length]? = some k.1 := by simp [hk]
    have hwl := weave_last hks hk
    have hb1 := kid_len hks hk
    rw [List.take_length] at hb1
    have hcall := all_kid (B := B) ih (k1 := ks.take its.length) (k2 := ks.drop (its.length + 1)) (k := k) (a := a) (n := n') (cap := cp) (us := us') ⟨hw, by omega⟩
    rw [← split_at hk] at hcall
    repeat' (first | refine T_seq ?_ | refine T_regionR Tt (by kernel_rfl) ?_ | refine T_drawR Tt N.shelf_node_all_d mixed (by kernel_rfl) ?_ | refine W_go Tt rfl ?_ | refine W_nil ?_ | refine T_cond_true rfl ?_ | refine T_cond_false rfl ?_ | refine T_skip ?_ | refine T_ret ?_ | refine T_exit ?_ | refine T_block ?_ | with_reducible refine R_block ?_ | with_reducible refine R_then ?_ | with_reducible refine R_norm ?_ | with_reducible refine R_exitEq ?_ | refine R_exitNe ?_ | with_reducible refine R_thenX ?_ | with_reducible refine R_scopeX ?_ | with_reducible refine R_blockN ?_ | refine A_cmpT Tt ?_ | refine A_cmpF Tt ?_ | (refine A_cmp Tt ?_ ?_ <;> intro hc) | refine A_ldPts Tt ?_ | refine A_ldSl Tt ?_ | refine S_ix Tt ?_ | refine S_ixA Tt ?_ | refine A_el Tt ?_ | refine A_el1 Tt ?_ | refine A_el2 Tt ?_ | refine A_store Tt ?_ | refine A_stEl Tt ?_ | (refine A_alloc Tt ?_; intro b) | (refine A_mk Tt ?_; intro b) | (refine A_app Tt ?_; intro a cp hwf) | (refine A_appNil Tt ?_; intro a cp hwf) | (refine A_call Tt N.shelf_node_leaf_is (sp_leaf_no (x := ⟨ia, ic, some ⟨bb, boff, none⟩, bc⟩) (n := its.length) (m := its.length + 1)) (Nat.succ_pos _) ?_; rintro v L ⟨rfl, rfl⟩ <;> dsimp only [List.cons_append, List.nil_append]) | (refine A_call Tt N.shelf_node_all_is (fun _ => hcall) (trivial) ?_; rintro v L ⟨a3, cp3, hw3, rfl, rfl⟩ <;> dsimp only [List.cons_append, List.nil_append]) | fail)
    · exact absurd hc (by omega)
    · have e1 : n + (weave ks its).length = n' + k.2.length := by rw [hwl, hn']; simp; omega
      have e2 : us ++ flat itC (weave ks its) = us' ++ flat itC k.2 := by rw [hwl, hu]; simp
      rw [e1, e2]
      have e3 : [pts p 0 (ndC ⟨ia, ic, some ⟨bb, boff, none⟩, bc⟩ its.length (its.length + 1)), sl ia its.length ic 2 (flat itC its), sl (some ⟨bb, boff, none⟩) (its.length + 1) bc 1 (flat ptC (ks.map (·.1))), kidsP (trP dp 3) ks, sl a3 (n' + k.2.length) cp3 2 (us' ++ flat itC k.2)] =
          (ndP p ⟨ia, ic, some ⟨bb, boff, none⟩, bc⟩ its (ks.map (·.1)) ++ [kidsP (trP dp 3) ks]) ++ [sl a3 (n' + k.2.length) cp3 2 (us' ++ flat itC k.2)] := by
        dsimp only [ndP, List.cons_append, List.nil_append]; rw [hkl]
      (change bodyQ PP _ [fr] _ _ _ _ _; refine ⟨rfl, _, _, _, (.tmp .nil), ⟨a3, cp3, ⟨⟨ia, ic, some ⟨bb, boff, none⟩, bc⟩, its, ks⟩, hw3, rfl, hx, e3⟩, takeS⟩)
theorem sp_all {B : Base} : ∀ (d m : Nat), AllSp B (trP d m)
  | 0, _ => sp_all_leaf
  | d + 1, _ => sp_all_step (sp_all d 3)
end Go.Rz


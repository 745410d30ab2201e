/- hold: Own. -/
import Derived.Test.YtjkpfnmkhjlllaaGreatDoorRzHold1
import Derived.Test.YtjkpfnmkhjlllaaGreatDoorRzFork
set_option linter.unusedVariables false
set_option linter.unusedSimpArgs false
open Go Go.Rz
set_option maxRecDepth 4000
namespace Go.Rz
noncomputable def pieces (f t : Int) : List (Int × Int) := if t = 0 ∨ f < t then [(f, t)] else [(f, 0), (0, t)]
theorem pieces_le (f t : Int) : (pieces f t).length ≤ 2 := by unfold pieces; split <;> simp
theorem sp_pieces {B : Base} {f t : Int} : True → Fn PP B N.arc_Pieces [.agg #[.int .u64 f, .int .u64 t]] [] (fun v L => ∃ b : Nat, v = .slice (some ⟨b, 0, none⟩) (pieces f t).length (pieces f t).length ∧ L = [sl (some ⟨b, 0, none⟩) (pieces f t).length (pieces f t).length 2 (flat arcC (pieces f t))]) := by
  intro _
  refine (sp_arc_Pieces trivial).mono ?_
  rintro v L ⟨b, h⟩
  refine ⟨b, ?_⟩
  unfold pieces
  split at h
  · rename_i hc; rw [if_pos hc]; exact h
  · rename_i hc; rw [if_neg hc]; exact h

structure OwnX where
  i : Nat
  a : Option Addr
  cp : Nat
  n : Nat
  us : List Value
def mkOw (node ep : Int) (p : Int × Int) : Ow := ⟨p.1, p.2, node, ep⟩
theorem sp_hold_Hold_Own {B : Base} {p : Nat} {h : Hd} {f t ep : Int} : (wf h.oa h.ow.length h.oc ∧ h.ow.length < 1000000) → Fn PP B N.hold_Hold_Own [.pointer (some ⟨p, 0, none⟩), .agg #[.int .u64 f, .int .u64 t], .int .i64 ep] [pts p 0 (hdC h), sl h.oa h.ow.length h.oc 4 (flat ownC h.ow)]
    (fun v L => ∃ q : Bool, v = .bool q ∧ (q = true ↔ 0 ≤ ep ∧ ∀ o ∈ h.ow, ¬ (Meets (o.f, o.t) f ∨ Meets (f, t) o.f)) ∧ ∃ oa oc, wf oa (bif q then h.ow ++ (pieces f t).map (mkOw h.node ep) else h.ow).length oc ∧
      L = [pts p 0 (hdC { h with oa := oa, oc := oc, ow := bif q then h.ow ++ (pieces f t).map (mkOw h.node ep) else h.ow }), sl oa (bif q then h.ow ++ (pieces f t).map (mkOw h.node ep) else h.ow).length oc 4 (flat ownC (bif q then h.ow ++ (pieces f t).map (mkOw h.node ep) else h.ow))]) := by
  obtain ⟨node, most, kept, oa, oc, ow, sp, sh, gf, gt, gp⟩ := h
  rintro ⟨hwf, hlen⟩
  dsimp only at hwf hlen ⊢
  refine Fn_of N.hold_Hold_Own_f rfl rfl fun fr => ?_
  try dsimp only [List.append_eq, List.cons_append, List.nil_append]
  repeat' (first | refine T_seq ?_ | refine T_regionR Tt (by kernel_rfl) ?_ | refine T_drawR Tt N.hold_Hold_Own_d mixed (by kernel_rfl) ?_ | refine W_go Tt rfl ?_ | refine W_nil ?_ | refine T_cond_true rfl ?_ | refine T_cond_false rfl ?_ | refine T_skip ?_ | refine T_ret ?_ | refine T_exit ?_ | refine T_block ?_ | with_reducible refine R_block ?_ | with_reducible refine R_then ?_ | with_reducible refine R_norm ?_ | with_reducible refine R_exitEq ?_ | refine R_exitNe ?_ | with_reducible refine R_thenX ?_ | with_reducible refine R_scopeX ?_ | with_reducible refine R_blockN ?_ | refine A_cmpT Tt ?_ | refine A_cmpF Tt ?_ | (refine A_cmp Tt ?_ ?_ <;> intro hc) | refine A_ldPts Tt ?_ | refine A_ldSl Tt ?_ | refine A_arr Tt ?_ | refine S_ix Tt ?_ | refine S_ixA Tt ?_ | refine A_el Tt ?_ | refine A_el1 Tt ?_ | refine A_el2 Tt ?_ | refine A_store Tt ?_ | refine A_stEl Tt ?_ | (refine A_box Tt ?_; intro b) | (refine A_alloc Tt ?_; intro b) | (refine A_mk Tt ?_; intro b) | (refine A_app Tt ?_; intro a cp hwf) | (refine A_appNil Tt ?_; intro a cp hwf) | (refine A_call Tt N.hold_Hold_may_is (sp_hold_Hold_may (h := ⟨node, most, kept, oa, oc, ow, sp, sh, gf, gt, gp⟩)) (⟨hwf, by dsimp only; omega⟩) ?_; rintro v L ⟨q, rfl, hb, rfl⟩; cases q <;> dsimp only [List.cons_append, List.nil_append, cond_true, cond_false]) | (refine A_call Tt N.arc_Pieces_is (sp_pieces) (trivial) ?_; rintro v L ⟨pb, rfl, rfl⟩ <;> dsimp only [List.cons_append, List.nil_append]) | fail)
  · (change bodyQ PP _ [fr] _ _ _ _ _; refine ⟨rfl, _, _, _, (.tmp .nil), ⟨false, rfl, by simpa using hb, oa, oc, hwf, rfl⟩, takeS⟩)
  refine T_loopE (X := OwnX) (fun x => [(0, .pointer (some ⟨p, 0, none⟩)), (2, .int .i64 ep), (15, .slice (some ⟨pb, 0, none⟩) (pieces f t).length (pieces f t).length), (16, .int .i64 (pieces f t).length), (17, .int .i64 x.i)])
    (fun x => [sl (some ⟨pb, 0, none⟩) (pieces f t).length (pieces f t).length 2 (flat arcC (pieces f t)), pts p 0 [.int .i64 node, .int .i64 most, .int .i64 kept, .slice x.a x.n x.cp, .pointer (some ⟨sp, 0, none⟩), .bool sh, .int .u64 gf, .int .u64 gt, gp], sl x.a x.n x.cp 4 x.us, fr])
    (fun x => (pieces f t).length + 1 - x.i) (fun x => x.i ≤ (pieces f t).length ∧ wf x.a x.n x.cp ∧ x.n = (ow ++ ((pieces f t).take x.i).map (mkOw node ep)).length ∧ x.us = flat ownC (ow ++ ((pieces f t).take x.i).map (mkOw node ep)))
    ⟨0, oa, oc, ow.length, flat ownC ow⟩ ⟨by simp, hwf, by simp, by simp⟩ (by exact ⟨rfl, rfl, rfl, rfl, rfl, trivial⟩) takeS ?_
  rintro ⟨i, a, cp, n, us⟩ d ⟨hi, hw, hn, hu⟩
  dsimp only at hi hw hn hu ⊢
  have hple := pieces_le f t
  by_cases hlt : i < (pieces f t).length
  · obtain ⟨x, hx⟩ : ∃ x, (pieces f t)[i]? = some x := ⟨_, List.getElem?_eq_getElem hlt⟩
    have hnb : n ≤ 1000002 := by rw [hn]; simp; omega
    repeat' (first | refine T_seq ?_ | refine T_regionR Tt (by kernel_rfl) ?_ | refine T_drawR Tt N.hold_Hold_Own_d mixed (by kernel_rfl) ?_ | refine W_go Tt rfl ?_ | refine W_nil ?_ | refine T_cond_true rfl ?_ | refine T_cond_false rfl ?_ | refine T_skip ?_ | refine T_ret ?_ | refine T_exit ?_ | refine T_block ?_ | with_reducible refine R_block ?_ | with_reducible refine R_then ?_ | with_reducible refine R_norm ?_ | with_reducible refine R_exitEq ?_ | refine R_exitNe ?_ | with_reducible refine R_thenX ?_ | with_reducible refine R_scopeX ?_ | with_reducible refine R_blockN ?_ | refine A_cmpT Tt ?_ | refine A_cmpF Tt ?_ | (refine A_cmp Tt ?_ ?_ <;> intro hc) | refine A_ldPts Tt ?_ | refine A_ldSl Tt ?_ | refine A_arr Tt ?_ | refine S_ix Tt ?_ | refine S_ixA Tt ?_ | refine A_el Tt ?_ | refine A_el1 Tt ?_ | refine A_el2 Tt ?_ | refine A_store Tt ?_ | refine A_stEl Tt ?_ | (refine A_box Tt ?_; intro b) | (refine A_alloc Tt ?_; intro b) | (refine A_mk Tt ?_; intro b) | (refine A_app Tt ?_; intro a cp hwf) | (refine A_appNil Tt ?_; intro a cp hwf) | fail)
    · refine ⟨rfl, ⟨i + 1, a, cp, n + 1, us ++ ownC (mkOw node ep x)⟩, ⟨by dsimp only; omega, hwf, ?_, ?_⟩, by dsimp only; omega, ⟨rfl, rfl, rfl, rfl, inc_ok (by omega), trivial⟩, _, takeS⟩
      · dsimp only; rw [hn, List.take_add_one, hx]; simp; omega
      · dsimp only; rw [hu, List.take_add_one, hx]; simp
    · exact absurd hc (by omega)
  · have hie : i = (pieces f t).length := by omega
    rw [hie, List.take_length] at hn hu
    repeat' (first | refine T_seq ?_ | refine T_regionR Tt (by kernel_rfl) ?_ | refine T_drawR Tt N.hold_Hold_Own_d mixed (by kernel_rfl) ?_ | refine W_go Tt rfl ?_ | refine W_nil ?_ | refine T_cond_true rfl ?_ | refine T_cond_false rfl ?_ | refine T_skip ?_ | refine T_ret ?_ | refine T_exit ?_ | refine T_block ?_ | with_reducible refine R_block ?_ | with_reducible refine R_then ?_ | with_reducible refine R_norm ?_ | with_reducible refine R_exitEq ?_ | refine R_exitNe ?_ | with_reducible refine R_thenX ?_ | with_reducible refine R_scopeX ?_ | with_reducible refine R_blockN ?_ | refine A_cmpT Tt ?_ | refine A_cmpF Tt ?_ | (refine A_cmp Tt ?_ ?_ <;> intro hc) | refine A_ldPts Tt ?_ | refine A_ldSl Tt ?_ | refine A_arr Tt ?_ | refine S_ix Tt ?_ | refine S_ixA Tt ?_ | refine A_el Tt ?_ | refine A_el1 Tt ?_ | refine A_el2 Tt ?_ | refine A_store Tt ?_ | refine A_stEl Tt ?_ | (refine A_box Tt ?_; intro b) | (refine A_alloc Tt ?_; intro b) | (refine A_mk Tt ?_; intro b) | (refine A_app Tt ?_; intro a cp hwf) | (refine A_appNil Tt ?_; intro a cp hwf) | fail)
    · exact absurd hc (by omega)
    · subst hn; subst hu
      (change bodyQ PP _ [fr] _ _ _ _ _; refine ⟨rfl, _, _, _, (.tmp .nil), ⟨true, rfl, by simpa using hb, a, cp, hw, rfl⟩, takeS⟩)
end Go.Rz


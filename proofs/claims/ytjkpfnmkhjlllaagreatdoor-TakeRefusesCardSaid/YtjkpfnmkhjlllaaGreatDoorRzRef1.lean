/- the document's own: arcs, holds. -/
import Derived.Test.YtjkpfnmkhjlllaaGreatDoorRzHold2
set_option linter.unusedVariables false
set_option linter.unusedSimpArgs false
open Go Go.Rz
set_option maxRecDepth 4000
namespace Go.Rz
theorem sp_ref1_In {B : Base} {f t x : Int} : True → Fn PP B N.rosref1_In [.agg #[.int .u64 f, .int .u64 t], .int .u64 x] [] (fun v L => ∃ q : Bool, v = .bool q ∧ (q = true ↔ Meets (f, t) x) ∧ L = []) := by
  intro _
  refine Fn_of N.rosref1_In_f rfl rfl fun fr => ?_
  try dsimp only [List.append_eq, List.cons_append, List.nil_append]
  repeat' (first | refine T_seq ?_ | refine T_regionR Tt (by kernel_rfl) ?_ | refine W_go Tt rfl ?_ | refine W_nil ?_ | refine T_cond_true rfl ?_ | refine T_cond_false rfl ?_ | refine T_skip ?_ | refine T_ret ?_ | with_reducible refine R_then ?_ | with_reducible refine R_norm ?_ | refine A_cmpT Tt ?_ | refine A_cmpF Tt ?_ | (refine A_cmp Tt ?_ ?_ <;> intro hc) | refine A_ldPts Tt ?_ | refine A_ldSl Tt ?_ | refine A_el Tt ?_ | refine A_el1 Tt ?_ | refine A_el2 Tt ?_ | (refine A_box Tt ?_; intro b) | fail)
  all_goals
    (change bodyQ PP _ [fr] _ _ _ _ _; refine ⟨rfl, _, _, _, (.tmp .nil), ⟨_, rfl, by simp only [Meets]; (try simp only [wr] at *); simp at *; omega, rfl⟩, takeS⟩)
theorem sp_ref1_Apart {B : Base} {f t f2 t2 : Int} : True → Fn PP B N.rosref1_Apart [.agg #[.int .u64 f, .int .u64 t], .agg #[.int .u64 f2, .int .u64 t2]] [] (fun v L => ∃ q : Bool, v = .bool q ∧
    (q = true ↔ ¬ Meets (f, t) f2 ∧ ¬ Meets (f2, t2) f) ∧ L = []) := by
  intro _
  refine Fn_of N.rosref1_Apart_f rfl rfl fun fr => ?_
  try dsimp only [List.append_eq, List.cons_append, List.nil_append]
  repeat' (first | refine T_seq ?_ | refine T_regionR Tt (by kernel_rfl) ?_ | refine W_go Tt rfl ?_ | refine W_nil ?_ | refine T_ret ?_ | with_reducible refine R_then ?_ | with_reducible refine R_norm ?_ | refine A_skip Tt ?_ | refine A_ldPts Tt ?_ | refine A_ldSl Tt ?_ | refine A_el Tt ?_ | refine A_el1 Tt ?_ | refine A_el2 Tt ?_ | (refine A_box Tt ?_; intro b) | (refine A_call Tt N.rosref1_In_is (sp_ref1_In) (trivial) ?_; rintro v L ⟨q, rfl, hb, rfl⟩; cases q <;> dsimp only [List.cons_append, List.nil_append, cond_true, cond_false]) | fail)
  all_goals
    (change bodyQ PP _ [fr] _ _ _ _ _; refine ⟨rfl, _, _, _, (.tmp .nil), ⟨_, rfl, by by_cases m1 : Meets (f, t) f2 <;> by_cases m2 : Meets (f2, t2) f <;> simp_all, rfl⟩, takeS⟩)
def Clash (o : Ow) (f t : Int) : Prop := Meets (o.f, o.t) f ∨ Meets (f, t) o.f
theorem sp_ref10_apart {B : Base} {p : Nat} {h : Hd} {f t : Int} : (wf h.oa h.ow.length h.oc ∧ h.ow.length < 1000000) → Fn PP B N.rosref10_Hold_apart [.pointer (some ⟨p, 0, none⟩), .agg #[.int .u64 f, .int .u64 t]] [pts p 0 (hdC h), sl h.oa h.ow.length h.oc 4 (flat ownC h.ow)]
    (fun v L => ∃ q : Bool, v = .bool q ∧ (q = true ↔ ∀ o ∈ h.ow, ¬ (Meets (o.f, o.t) f ∨ Meets (f, t) o.f)) ∧ L = [pts p 0 (hdC h), sl h.oa h.ow.length h.oc 4 (flat ownC h.ow)]) := by
  obtain ⟨node, most, kept, oa, oc, ow, sp, sh, gf, gt, gp⟩ := h
  rintro ⟨hwf, hlen⟩
  dsimp only at hwf hlen ⊢
  refine Fn_of N.rosref10_Hold_apart_f rfl rfl fun fr => ?_
  try dsimp only [List.append_eq, List.cons_append, List.nil_append]
  repeat' (first | refine T_seq ?_ | refine T_regionR Tt (by kernel_rfl) ?_ | refine T_drawR Tt N.rosref10_Hold_apart_d mixed (by kernel_rfl) ?_ | refine W_go Tt rfl ?_ | refine W_nil ?_ | refine T_cond_true rfl ?_ | refine T_cond_false rfl ?_ | refine T_skip ?_ | refine T_ret ?_ | refine T_exit ?_ | refine T_block ?_ | with_reducible refine R_block ?_ | with_reducible refine R_then ?_ | with_reducible refine R_norm ?_ | with_reducible refine R_exitEq ?_ | refine R_exitNe ?_ | with_reducible refine R_thenX ?_ | with_reducible refine R_scopeX ?_ | with_reducible refine R_blockN ?_ | refine A_cmpT Tt ?_ | refine A_cmpF Tt ?_ | (refine A_cmp Tt ?_ ?_ <;> intro hc) | refine A_ldPts Tt ?_ | refine A_ldSl Tt ?_ | refine S_ix Tt ?_ | refine S_ixA Tt ?_ | refine A_el Tt ?_ | refine A_el1 Tt ?_ | refine A_el2 Tt ?_ | (refine A_box Tt ?_; intro b) | fail)
  refine T_loopE (X := Nat) (fun i => [(0, .pointer (some ⟨p, 0, none⟩)), (3, .pointer (some ⟨b, 0, none⟩)), (5, .int .i64 i)]) (fun i => [pts p 0 (hdC ⟨node, most, kept, oa, oc, ow, sp, sh, gf, gt, gp⟩), sl oa ow.length oc 4 (flat ownC ow), pts b 0 [.int .u64 f, .int .u64 t], fr])
    (fun i => ow.length + 1 - i) (fun i => i ≤ ow.length ∧ ∀ j o, j < i → ow[j]? = some o → ¬ (Meets (o.f, o.t) f ∨ Meets (f, t) o.f)) 0 ⟨by omega, by omega⟩ (by exact ⟨rfl, rfl, rfl, trivial⟩) takeS ?_
  rintro i d ⟨hi, h1⟩
  have fin : i = ow.length → ∀ o ∈ ow, ¬ (Meets (o.f, o.t) f ∨ Meets (f, t) o.f) := fun e o ho => by
    obtain ⟨j, hj, hjo⟩ := List.getElem_of_mem ho
    exact h1 j o (by omega) (by rw [List.getElem?_eq_getElem hj, hjo])
  rcases hwf with ⟨rfl, h0, rfl⟩ | ⟨ob, off, rfl, hle⟩
  · repeat' (first | refine T_seq ?_ | refine T_regionR Tt (by kernel_rfl) ?_ | refine T_drawR Tt N.rosref10_Hold_apart_d mixed (by kernel_rfl) ?_ | refine W_go Tt rfl ?_ | refine W_nil ?_ | refine T_cond_true rfl ?_ | refine T_cond_false rfl ?_ | refine T_skip ?_ | refine T_ret ?_ | refine T_exit ?_ | refine T_block ?_ | with_reducible refine R_block ?_ | with_reducible refine R_then ?_ | with_reducible refine R_norm ?_ | with_reducible refine R_exitEq ?_ | refine R_exitNe ?_ | with_reducible refine R_thenX ?_ | with_reducible refine R_scopeX ?_ | with_reducible refine R_blockN ?_ | refine A_cmpT Tt ?_ | refine A_cmpF Tt ?_ | (refine A_cmp Tt ?_ ?_ <;> intro hc) | refine A_ldPts Tt ?_ | refine A_ldSl Tt ?_ | refine S_ix Tt ?_ | refine S_ixA Tt ?_ | refine A_el Tt ?_ | refine A_el1 Tt ?_ | refine A_el2 Tt ?_ | (refine A_box Tt ?_; intro b) | fail)
    · exact absurd hc (by dsimp only; omega)
    · (change bodyQ PP _ [fr] _ _ _ _ _; refine ⟨rfl, _, _, _, (.tmp .nil), ⟨true, rfl, ⟨fun _ => fin (by dsimp only at hc; omega), fun _ => rfl⟩, rfl⟩, takeS⟩)
  · by_cases hlt : i < ow.length
    · obtain ⟨x, hx⟩ : ∃ x, ow[i]? = some x := ⟨_, List.getElem?_eq_getElem hlt⟩
      repeat' (first | refine T_seq ?_ | refine T_regionR Tt (by kernel_rfl) ?_ | refine T_drawR Tt N.rosref10_Hold_apart_d mixed (by kernel_rfl) ?_ | refine W_go Tt rfl ?_ | refine W_nil ?_ | refine T_cond_true rfl ?_ | refine T_cond_false rfl ?_ | refine T_skip ?_ | refine T_ret ?_ | refine T_exit ?_ | refine T_block ?_ | with_reducible refine R_block ?_ | with_reducible refine R_then ?_ | with_reducible refine R_norm ?_ | with_reducible refine R_exitEq ?_ | refine R_exitNe ?_ | with_reducible refine R_thenX ?_ | with_reducible refine R_scopeX ?_ | with_reducible refine R_blockN ?_ | refine A_cmpT Tt ?_ | refine A_cmpF Tt ?_ | (refine A_cmp Tt ?_ ?_ <;> intro hc) | refine A_ldPts Tt ?_ | refine A_ldSl Tt ?_ | refine S_ix Tt ?_ | refine S_ixA Tt ?_ | refine A_el Tt ?_ | refine A_el1 Tt ?_ | refine A_el2 Tt ?_ | (refine A_box Tt ?_; intro b) | (refine A_call Tt N.rosref1_Apart_is (sp_ref1_Apart) (trivial) ?_; rintro v L ⟨q, rfl, hb, rfl⟩; cases q <;> dsimp only [List.cons_append, List.nil_append, cond_true, cond_false]) | fail)
      · (change bodyQ PP _ [fr] _ _ _ _ _; refine ⟨rfl, _, _, _, (.tmp .nil), ⟨false, rfl, ⟨fun h => (by cases h), fun h => absurd (hb.2 ⟨fun m => h x (List.mem_of_getElem? hx) (.inl m), fun m => h x (List.mem_of_getElem? hx) (.inr m)⟩) (by simp)⟩, rfl⟩, takeS⟩)
      · refine ⟨rfl, i + 1, ⟨by omega, fun j o hj ho => ?_⟩, by omega, ⟨rfl, rfl, inc_ok (by omega), trivial⟩, _, takeS⟩
        rcases Nat.lt_succ_iff_lt_or_eq.1 hj with h | rfl
        · exact h1 j o h ho
        · rw [hx] at ho; cases ho
          have := hb.1 rfl
          exact fun m => m.elim this.1 this.2
      · exact absurd hc (by dsimp only; omega)
    · repeat' (first | refine T_seq ?_ | refine T_regionR Tt (by kernel_rfl) ?_ | refine T_drawR Tt N.rosref10_Hold_apart_d mixed (by kernel_rfl) ?_ | refine W_go Tt rfl ?_ | refine W_nil ?_ | refine T_cond_true rfl ?_ | refine T_cond_false rfl ?_ | refine T_skip ?_ | refine T_ret ?_ | refine T_exit ?_ | refine T_block ?_ | with_reducible refine R_block ?_ | with_reducible refine R_then ?_ | with_reducible refine R_norm ?_ | with_reducible refine R_exitEq ?_ | refine R_exitNe ?_ | with_reducible refine R_thenX ?_ | with_reducible refine R_scopeX ?_ | with_reducible refine R_blockN ?_ | refine A_cmpT Tt ?_ | refine A_cmpF Tt ?_ | (refine A_cmp Tt ?_ ?_ <;> intro hc) | refine A_ldPts Tt ?_ | refine A_ldSl Tt ?_ | refine S_ix Tt ?_ | refine S_ixA Tt ?_ | refine A_el Tt ?_ | refine A_el1 Tt ?_ | refine A_el2 Tt ?_ | (refine A_box Tt ?_; intro b) | fail)
      · exact absurd hc (by dsimp only; omega)
      · (change bodyQ PP _ [fr] _ _ _ _ _; refine ⟨rfl, _, _, _, (.tmp .nil), ⟨true, rfl, ⟨fun _ => fin (by dsimp only at hc; omega), fun _ => rfl⟩, rfl⟩, takeS⟩)

theorem sp_ref10_Own {B : Base} {p : Nat} {h : Hd} {f t ep : Int} : (wf h.oa h.ow.length h.oc ∧ h.ow.length < 1000000) → Fn PP B N.rosref10_Hold_Own [.pointer (some ⟨p, 0, none⟩), .agg #[.int .u64 f, .int .u64 t], .int .i64 ep] [pts p 0 (hdC h), sl h.oa h.ow.length h.oc 4 (flat ownC h.ow)]
    (fun v L => ∃ q : Bool, v = .bool q ∧ (q = true ↔ 0 ≤ ep ∧ ∀ o ∈ h.ow, ¬ (Meets (o.f, o.t) f ∨ Meets (f, t) o.f)) ∧ ∃ oa oc, wf oa (bif q then h.ow ++ [⟨f, t, h.node, ep⟩] else h.ow).length oc ∧
      L = [pts p 0 (hdC { h with oa := oa, oc := oc, ow := bif q then h.ow ++ [⟨f, t, h.node, ep⟩] else h.ow }), sl oa (bif q then h.ow ++ [⟨f, t, h.node, ep⟩] else h.ow).length oc 4 (flat ownC (bif q then h.ow ++ [⟨f, t, h.node, ep⟩] else h.ow))]) := by
  obtain ⟨node, most, kept, oa, oc, ow, sp, sh, gf, gt, gp⟩ := h
  rintro ⟨hwf, hlen⟩
  dsimp only at hwf hlen ⊢
  refine Fn_of N.rosref10_Hold_Own_f rfl rfl fun fr => ?_
  try dsimp only [List.append_eq, List.cons_append, List.nil_append]
  repeat' (first | refine T_seq ?_ | refine T_regionR Tt (by kernel_rfl) ?_ | refine T_drawR Tt N.rosref10_Hold_Own_d mixed (by kernel_rfl) ?_ | refine T_fork Tt 5 13 N.rosref10_Hold_Own_a3 N.rosref10_Hold_Own_b3 mixed rfl rfl (by kernel_rfl) (by kernel_rfl) ?_ ?_ | refine W_go Tt rfl ?_ | refine W_nil ?_ | refine T_cond_true rfl ?_ | refine T_cond_false rfl ?_ | refine T_skip ?_ | refine T_ret ?_ | with_reducible refine R_then ?_ | with_reducible refine R_norm ?_ | refine A_cmpT Tt ?_ | refine A_cmpF Tt ?_ | (refine A_cmp Tt ?_ ?_ <;> intro hc) | refine A_skip Tt ?_ | refine A_ldPts Tt ?_ | refine A_ldSl Tt ?_ | refine A_arr Tt ?_ | refine A_el Tt ?_ | refine A_el1 Tt ?_ | refine A_el2 Tt ?_ | refine A_store Tt ?_ | (refine A_box Tt ?_; intro b) | (refine A_mk Tt ?_; intro b) | (refine A_app Tt ?_; intro a cp hwf) | (refine A_appNil Tt ?_; intro a cp hwf) | (refine A_call Tt N.rosref10_Hold_apart_is (sp_ref10_apart (h := ⟨node, most, kept, oa, oc, ow, sp, sh, gf, gt, gp⟩)) (⟨hwf, hlen⟩) ?_; rintro v L ⟨q, rfl, hb, rfl⟩; cases q <;> dsimp only [List.cons_append, List.nil_append, cond_true, cond_false]) | fail)
  · (change bodyQ PP _ [fr] _ _ _ _ _; refine ⟨rfl, _, _, _, (.tmp .nil), ⟨false, rfl, by simp; omega, oa, oc, hwf, rfl⟩, takeS⟩)
  · (change bodyQ PP _ [fr] _ _ _ _ _; refine ⟨rfl, _, _, _, (.tmp .nil), ⟨false, rfl, by dsimp only at hb; simp only [Bool.false_eq_true, false_iff] at hb ⊢; exact fun h => hb h.2, oa, oc, hwf, rfl⟩, takeS⟩)
  all_goals
    have e1 : (ow ++ [(⟨f, t, node, ep⟩ : Ow)]).length = ow.length + 1 := by simp
    have e2 : flat ownC (ow ++ [(⟨f, t, node, ep⟩ : Ow)]) = flat ownC ow ++ ownC ⟨f, t, node, ep⟩ := by simp
    (change bodyQ PP _ [fr] _ _ _ _ _; refine ⟨rfl, _, _, _, (.tmp .nil), ⟨true, rfl, ⟨fun _ => ⟨by omega, hb.1 rfl⟩, fun _ => rfl⟩, a, cp, by rw [cond_true, e1]; exact hwf, by simp only [cond_true, hdC, e1, e2]; exact rfl⟩, takeS⟩)
end Go.Rz


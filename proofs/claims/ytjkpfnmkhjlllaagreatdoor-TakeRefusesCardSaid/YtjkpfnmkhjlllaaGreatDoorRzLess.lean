/- hold: what is left of a piece. -/
import Derived.Test.YtjkpfnmkhjlllaaGreatDoorRzHold4
set_option linter.unusedVariables false
set_option linter.unusedSimpArgs false
open Go Go.Rz
set_option maxRecDepth 4000
set_option maxHeartbeats 4000000
namespace Go.Rz
theorem Ent.sl0 {esz : Nat} {S : List HProp} : Ent S (sl none 0 0 esz [] :: S) := fun h H => ⟨Heap.emp, h, ⟨by simp, .inl ⟨rfl, rfl, rfl⟩, by simp⟩, H, fun _ _ => .inl rfl, fun _ _ _ e => (by cases e), sub_refl h⟩
noncomputable def lessL (o : Ow) (f t : Int) : List Ow := open Classical in
  if (0 < t ∧ t ≤ o.f) ∨ (0 < o.t ∧ o.t ≤ f) then [o] else
    (if o.f < f then [{ o with t := f }] else []) ++ (if 0 < t ∧ (o.t = 0 ∨ t < o.t) then [{ o with f := t }] else [])
theorem less0 {of ot on oe f t : Int} (h : (0 < t ∧ t ≤ of) ∨ (0 < ot ∧ ot ≤ f)) : lessL ⟨of, ot, on, oe⟩ f t = [⟨of, ot, on, oe⟩] := by unfold lessL; rw [if_pos h]
theorem less1 {of ot on oe f t : Int} (h : ¬ ((0 < t ∧ t ≤ of) ∨ (0 < ot ∧ ot ≤ f))) (h1 : ¬ of < f) (h2 : ¬ (0 < t ∧ (ot = 0 ∨ t < ot))) : lessL ⟨of, ot, on, oe⟩ f t = [] := by unfold lessL; rw [if_neg h, if_neg h1, if_neg h2]; rfl
theorem less2 {of ot on oe f t : Int} (h : ¬ ((0 < t ∧ t ≤ of) ∨ (0 < ot ∧ ot ≤ f))) (h1 : of < f) (h2 : ¬ (0 < t ∧ (ot = 0 ∨ t < ot))) : lessL ⟨of, ot, on, oe⟩ f t = [⟨of, f, on, oe⟩] := by unfold lessL; rw [if_neg h, if_pos h1, if_neg h2]; rfl
theorem less3 {of ot on oe f t : Int} (h : ¬ ((0 < t ∧ t ≤ of) ∨ (0 < ot ∧ ot ≤ f))) (h1 : ¬ of < f) (h2 : (0 < t ∧ (ot = 0 ∨ t < ot))) : lessL ⟨of, ot, on, oe⟩ f t = [⟨t, ot, on, oe⟩] := by unfold lessL; rw [if_neg h, if_neg h1, if_pos h2]; rfl
theorem less4 {of ot on oe f t : Int} (h : ¬ ((0 < t ∧ t ≤ of) ∨ (0 < ot ∧ ot ≤ f))) (h1 : of < f) (h2 : (0 < t ∧ (ot = 0 ∨ t < ot))) : lessL ⟨of, ot, on, oe⟩ f t = [⟨of, f, on, oe⟩, ⟨t, ot, on, oe⟩] := by unfold lessL; rw [if_neg h, if_pos h1, if_pos h2]; rfl
theorem sp_hold_less {B : Base} {o : Ow} {f t : Int} : True → Fn PP B N.hold_less [ownV o, .agg #[.int .u64 f, .int .u64 t]] []
    (fun v L => ∃ a cap, wf a (lessL o f t).length cap ∧ v = .slice a (lessL o f t).length cap ∧ L = [sl a (lessL o f t).length cap 4 (flat ownC (lessL o f t))]) := by
  obtain ⟨of, ot, on, oe⟩ := o
  intro _
  dsimp only [ownV]
  refine Fn.pre ?_ (Ent.sl0 (esz := 4))
  by_cases h0 : (0 < t ∧ t ≤ of) ∨ (0 < ot ∧ ot ≤ f)
  · rw [less0 h0]
    refine Fn_of N.hold_less_f rfl rfl fun fr => ?_
    try dsimp only [List.append_eq, List.cons_append, List.nil_append]
    repeat' (first | refine T_seq ?_ | refine T_regionR Tt (by kernel_rfl) ?_ | refine W_go Tt rfl ?_ | refine W_nil ?_ | refine T_cond_true rfl ?_ | refine T_cond_false rfl ?_ | refine T_skip ?_ | refine T_ret ?_ | with_reducible refine R_then ?_ | with_reducible refine R_norm ?_ | refine A_cmpT Tt ?_ | refine A_cmpF Tt ?_ | refine A_cmpY Tt ?_ | refine A_cmpN Tt ?_ | (refine A_cmp Tt ?_ ?_ <;> intro hc) | refine A_skip Tt ?_ | refine A_ldPts Tt ?_ | refine A_ldSl Tt ?_ | refine A_el Tt ?_ | refine A_el1 Tt ?_ | refine A_el2 Tt ?_ | refine A_store Tt ?_ | (refine A_box Tt ?_; intro b) | (refine A_alloc Tt ?_; intro b) | (refine A_mk Tt ?_; intro b) | (refine A_app Tt ?_; intro a cp hwf) | (refine A_appNil Tt ?_; intro a cp hwf) | fail)
    all_goals first
      | (exfalso; omega)
      | (change bodyQ PP _ [fr] _ _ _ _ _; refine ⟨rfl, _, _, _, (.tmp .nil), ⟨_, _, .inr ⟨_, _, rfl, Nat.le_refl _⟩, rfl, rfl⟩, takeS⟩)
  by_cases h1 : of < f <;> by_cases h2 : 0 < t ∧ (ot = 0 ∨ t < ot)
  · rw [less4 h0 h1 h2]
    refine Fn_of N.hold_less_f rfl rfl fun fr => ?_
    try dsimp only [List.append_eq, List.cons_append, List.nil_append]
    repeat' (first | refine T_seq ?_ | refine T_regionR Tt (by kernel_rfl) ?_ | refine W_go Tt rfl ?_ | refine W_nil ?_ | refine T_cond_true rfl ?_ | refine T_cond_false rfl ?_ | refine T_skip ?_ | refine T_ret ?_ | with_reducible refine R_then ?_ | with_reducible refine R_norm ?_ | refine A_cmpT Tt ?_ | refine A_cmpF Tt ?_ | refine A_cmpY Tt ?_ | refine A_cmpN Tt ?_ | (refine A_cmp Tt ?_ ?_ <;> intro hc) | refine A_skip Tt ?_ | refine A_ldPts Tt ?_ | refine A_ldSl Tt ?_ | refine A_el Tt ?_ | refine A_el1 Tt ?_ | refine A_el2 Tt ?_ | refine A_store Tt ?_ | (refine A_box Tt ?_; intro b) | (refine A_alloc Tt ?_; intro b) | (refine A_mk Tt ?_; intro b) | (refine A_app Tt ?_; intro a cp hwf) | (refine A_appNil Tt ?_; intro a cp hwf) | fail)
    all_goals first
      | (exfalso; omega)
      | (change bodyQ PP _ [fr] _ _ _ _ _; refine ⟨rfl, _, _, _, (.tmp .nil), ⟨_, _, hwf, rfl, rfl⟩, takeS⟩)
  · rw [less2 h0 h1 h2]
    refine Fn_of N.hold_less_f rfl rfl fun fr => ?_
    try dsimp only [List.append_eq, List.cons_append, List.nil_append]
    repeat' (first | refine T_seq ?_ | refine T_regionR Tt (by kernel_rfl) ?_ | refine W_go Tt rfl ?_ | refine W_nil ?_ | refine T_cond_true rfl ?_ | refine T_cond_false rfl ?_ | refine T_skip ?_ | refine T_ret ?_ | with_reducible refine R_then ?_ | with_reducible refine R_norm ?_ | refine A_cmpT Tt ?_ | refine A_cmpF Tt ?_ | refine A_cmpY Tt ?_ | refine A_cmpN Tt ?_ | (refine A_cmp Tt ?_ ?_ <;> intro hc) | refine A_skip Tt ?_ | refine A_ldPts Tt ?_ | refine A_ldSl Tt ?_ | refine A_el Tt ?_ | refine A_el1 Tt ?_ | refine A_el2 Tt ?_ | refine A_store Tt ?_ | (refine A_box Tt ?_; intro b) | (refine A_alloc Tt ?_; intro b) | (refine A_mk Tt ?_; intro b) | (refine A_app Tt ?_; intro a cp hwf) | (refine A_appNil Tt ?_; intro a cp hwf) | fail)
    all_goals first
      | (exfalso; omega)
      | (change bodyQ PP _ [fr] _ _ _ _ _; refine ⟨rfl, _, _, _, (.tmp .nil), ⟨_, _, hwf, rfl, rfl⟩, takeS⟩)
  · rw [less3 h0 h1 h2]
    refine Fn_of N.hold_less_f rfl rfl fun fr => ?_
    try dsimp only [List.append_eq, List.cons_append, List.nil_append]
    repeat' (first | refine T_seq ?_ | refine T_regionR Tt (by kernel_rfl) ?_ | refine W_go Tt rfl ?_ | refine W_nil ?_ | refine T_cond_true rfl ?_ | refine T_cond_false rfl ?_ | refine T_skip ?_ | refine T_ret ?_ | with_reducible refine R_then ?_ | with_reducible refine R_norm ?_ | refine A_cmpT Tt ?_ | refine A_cmpF Tt ?_ | refine A_cmpY Tt ?_ | refine A_cmpN Tt ?_ | (refine A_cmp Tt ?_ ?_ <;> intro hc) | refine A_skip Tt ?_ | refine A_ldPts Tt ?_ | refine A_ldSl Tt ?_ | refine A_el Tt ?_ | refine A_el1 Tt ?_ | refine A_el2 Tt ?_ | refine A_store Tt ?_ | (refine A_box Tt ?_; intro b) | (refine A_alloc Tt ?_; intro b) | (refine A_mk Tt ?_; intro b) | (refine A_app Tt ?_; intro a cp hwf) | (refine A_appNil Tt ?_; intro a cp hwf) | fail)
    all_goals first
      | (exfalso; omega)
      | (change bodyQ PP _ [fr] _ _ _ _ _; refine ⟨rfl, _, _, _, (.tmp .nil), ⟨_, _, hwf, rfl, rfl⟩, takeS⟩)
  · rw [less1 h0 h1 h2]
    refine Fn_of N.hold_less_f rfl rfl fun fr => ?_
    try dsimp only [List.append_eq, List.cons_append, List.nil_append]
    repeat' (first | refine T_seq ?_ | refine T_regionR Tt (by kernel_rfl) ?_ | refine W_go Tt rfl ?_ | refine W_nil ?_ | refine T_cond_true rfl ?_ | refine T_cond_false rfl ?_ | refine T_skip ?_ | refine T_ret ?_ | with_reducible refine R_then ?_ | with_reducible refine R_norm ?_ | refine A_cmpT Tt ?_ | refine A_cmpF Tt ?_ | refine A_cmpY Tt ?_ | refine A_cmpN Tt ?_ | (refine A_cmp Tt ?_ ?_ <;> intro hc) | refine A_skip Tt ?_ | refine A_ldPts Tt ?_ | refine A_ldSl Tt ?_ | refine A_el Tt ?_ | refine A_el1 Tt ?_ | refine A_el2 Tt ?_ | refine A_store Tt ?_ | (refine A_box Tt ?_; intro b) | (refine A_alloc Tt ?_; intro b) | (refine A_mk Tt ?_; intro b) | (refine A_app Tt ?_; intro a cp hwf) | (refine A_appNil Tt ?_; intro a cp hwf) | fail)
    all_goals first
      | (exfalso; omega)
      | (change bodyQ PP _ [fr] _ _ _ _ _; refine ⟨rfl, _, _, _, (.tmp .nil), ⟨none, 0, .inl ⟨rfl, rfl, rfl⟩, rfl, rfl⟩, takeS⟩)
end Go.Rz


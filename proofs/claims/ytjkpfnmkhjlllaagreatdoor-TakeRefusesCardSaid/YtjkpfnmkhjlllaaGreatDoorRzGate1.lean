/- gates: of a hold's. -/
import Derived.Test.YtjkpfnmkhjlllaaGreatDoorRzRef2
set_option linter.unusedVariables false
set_option linter.unusedSimpArgs false
open Go Go.Rz
set_option maxRecDepth 4000
namespace Go.Rz
theorem sp_gate_Freeze {B : Base} {p : Nat} {h : Hd} {f t : Int} : True → Fn PP B N.gate_Gate_Freeze [.pointer (some ⟨p, 5, none⟩), .agg #[.int .u64 f, .int .u64 t]] [pts p 0 (hdC h)]
    (fun v L => v = .bool (!h.sh) ∧ L = [pts p 0 (hdC (bif h.sh then h else { h with sh := true, gf := f, gt := t }))]) := by
  obtain ⟨node, most, kept, oa, oc, ow, sp, sh, gf, gt, gp⟩ := h
  intro _
  cases sh
  · refine Fn_of N.gate_Gate_Freeze_f rfl rfl fun fr => ?_
    try dsimp only [List.append_eq, List.cons_append, List.nil_append]
    repeat' (first | refine T_seq ?_ | refine T_regionR Tt (by kernel_rfl) ?_ | refine T_drawR Tt N.gate_Gate_Freeze_d mixed (by kernel_rfl) ?_ | refine W_go Tt rfl ?_ | refine W_nil ?_ | refine T_cond_true rfl ?_ | refine T_cond_false rfl ?_ | refine T_skip ?_ | refine T_ret ?_ | with_reducible refine R_then ?_ | with_reducible refine R_norm ?_ | refine A_cmpT Tt ?_ | refine A_cmpF Tt ?_ | (refine A_cmp Tt ?_ ?_ <;> intro hc) | refine A_skip Tt ?_ | refine A_ldPts Tt ?_ | refine A_ldSl Tt ?_ | refine A_el Tt ?_ | refine A_el1 Tt ?_ | refine A_el2 Tt ?_ | refine A_store Tt ?_ | (refine A_box Tt ?_; intro b) | fail)
    (change bodyQ PP _ [fr] _ _ _ _ _; refine ⟨rfl, _, _, _, (.tmp .nil), ⟨rfl, rfl⟩, takeS⟩)
  · refine Fn_of N.gate_Gate_Freeze_f rfl rfl fun fr => ?_
    try dsimp only [List.append_eq, List.cons_append, List.nil_append]
    repeat' (first | refine T_seq ?_ | refine T_regionR Tt (by kernel_rfl) ?_ | refine T_drawR Tt N.gate_Gate_Freeze_d mixed (by kernel_rfl) ?_ | refine W_go Tt rfl ?_ | refine W_nil ?_ | refine T_cond_true rfl ?_ | refine T_cond_false rfl ?_ | refine T_skip ?_ | refine T_ret ?_ | with_reducible refine R_then ?_ | with_reducible refine R_norm ?_ | refine A_cmpT Tt ?_ | refine A_cmpF Tt ?_ | (refine A_cmp Tt ?_ ?_ <;> intro hc) | refine A_skip Tt ?_ | refine A_ldPts Tt ?_ | refine A_ldSl Tt ?_ | refine A_el Tt ?_ | refine A_el1 Tt ?_ | refine A_el2 Tt ?_ | refine A_store Tt ?_ | (refine A_box Tt ?_; intro b) | fail)
    (change bodyQ PP _ [fr] _ _ _ _ _; refine ⟨rfl, _, _, _, (.tmp .nil), ⟨rfl, rfl⟩, takeS⟩)
theorem sp_gate_Thaw {B : Base} {p : Nat} {h : Hd} : True → Fn PP B N.gate_Gate_Thaw [.pointer (some ⟨p, 5, none⟩)] [pts p 0 (hdC h)]
    (fun v L => v = .bool h.sh ∧ L = [pts p 0 (hdC (bif h.sh then { h with sh := false, gf := 0, gt := 0 } else h))]) := by
  obtain ⟨node, most, kept, oa, oc, ow, sp, sh, gf, gt, gp⟩ := h
  intro _
  cases sh
  · refine Fn_of N.gate_Gate_Thaw_f rfl rfl fun fr => ?_
    try dsimp only [List.append_eq, List.cons_append, List.nil_append]
    repeat' (first | refine T_seq ?_ | refine T_regionR Tt (by kernel_rfl) ?_ | refine W_go Tt rfl ?_ | refine W_nil ?_ | refine T_cond_true rfl ?_ | refine T_cond_false rfl ?_ | refine T_skip ?_ | refine T_ret ?_ | with_reducible refine R_then ?_ | with_reducible refine R_norm ?_ | refine A_cmpT Tt ?_ | refine A_cmpF Tt ?_ | (refine A_cmp Tt ?_ ?_ <;> intro hc) | refine A_skip Tt ?_ | refine A_ldPts Tt ?_ | refine A_ldSl Tt ?_ | refine A_arr Tt ?_ | refine A_el Tt ?_ | refine A_el1 Tt ?_ | refine A_el2 Tt ?_ | refine A_store Tt ?_ | fail)
    (change bodyQ PP _ [fr] _ _ _ _ _; refine ⟨rfl, _, _, _, (.tmp .nil), ⟨rfl, rfl⟩, takeS⟩)
  · refine Fn_of N.gate_Gate_Thaw_f rfl rfl fun fr => ?_
    try dsimp only [List.append_eq, List.cons_append, List.nil_append]
    repeat' (first | refine T_seq ?_ | refine T_regionR Tt (by kernel_rfl) ?_ | refine W_go Tt rfl ?_ | refine W_nil ?_ | refine T_cond_true rfl ?_ | refine T_cond_false rfl ?_ | refine T_skip ?_ | refine T_ret ?_ | with_reducible refine R_then ?_ | with_reducible refine R_norm ?_ | refine A_cmpT Tt ?_ | refine A_cmpF Tt ?_ | (refine A_cmp Tt ?_ ?_ <;> intro hc) | refine A_skip Tt ?_ | refine A_ldPts Tt ?_ | refine A_ldSl Tt ?_ | refine A_arr Tt ?_ | refine A_el Tt ?_ | refine A_el1 Tt ?_ | refine A_el2 Tt ?_ | refine A_store Tt ?_ | fail)
    (change bodyQ PP _ [fr] _ _ _ _ _; refine ⟨rfl, _, _, _, (.tmp .nil), ⟨rfl, rfl⟩, takeS⟩)
theorem sp_gate_Frozen {B : Base} {p : Nat} {h : Hd} {x : Int} : True → Fn PP B N.gate_Gate_Frozen [.pointer (some ⟨p, 5, none⟩), .int .u64 x] [pts p 0 (hdC h)]
    (fun v L => ∃ q : Bool, v = .bool q ∧ (q = true ↔ h.sh = true ∧ Meets (h.gf, h.gt) x) ∧ L = [pts p 0 (hdC h)]) := by
  obtain ⟨node, most, kept, oa, oc, ow, sp, sh, gf, gt, gp⟩ := h
  intro _
  cases sh
  · refine Fn_of N.gate_Gate_Frozen_f rfl rfl fun fr => ?_
    try dsimp only [List.append_eq, List.cons_append, List.nil_append]
    repeat' (first | refine T_seq ?_ | refine T_regionR Tt (by kernel_rfl) ?_ | refine W_go Tt rfl ?_ | refine W_nil ?_ | refine T_ret ?_ | with_reducible refine R_then ?_ | with_reducible refine R_norm ?_ | refine A_cmpT Tt ?_ | refine A_cmpF Tt ?_ | (refine A_cmp Tt ?_ ?_ <;> intro hc) | refine A_skip Tt ?_ | refine A_ldPts Tt ?_ | refine A_ldSl Tt ?_ | refine A_el Tt ?_ | refine A_el1 Tt ?_ | refine A_el2 Tt ?_ | (refine A_call Tt N.arc_In_is (sp_arc_In) (trivial) ?_; rintro v L ⟨q, rfl, hb, rfl⟩; cases q <;> dsimp only [List.cons_append, List.nil_append, cond_true, cond_false]) | fail)
    (change bodyQ PP _ [fr] _ _ _ _ _; refine ⟨rfl, _, _, _, (.tmp .nil), ⟨_, rfl, by simp, rfl⟩, takeS⟩)
  · refine Fn_of N.gate_Gate_Frozen_f rfl rfl fun fr => ?_
    try dsimp only [List.append_eq, List.cons_append, List.nil_append]
    repeat' (first | refine T_seq ?_ | refine T_regionR Tt (by kernel_rfl) ?_ | refine W_go Tt rfl ?_ | refine W_nil ?_ | refine T_ret ?_ | with_reducible refine R_then ?_ | with_reducible refine R_norm ?_ | refine A_cmpT Tt ?_ | refine A_cmpF Tt ?_ | (refine A_cmp Tt ?_ ?_ <;> intro hc) | refine A_skip Tt ?_ | refine A_ldPts Tt ?_ | refine A_ldSl Tt ?_ | refine A_el Tt ?_ | refine A_el1 Tt ?_ | refine A_el2 Tt ?_ | (refine A_call Tt N.arc_In_is (sp_arc_In) (trivial) ?_; rintro v L ⟨q, rfl, hb, rfl⟩; cases q <;> dsimp only [List.cons_append, List.nil_append, cond_true, cond_false]) | fail)
    all_goals
      (change bodyQ PP _ [fr] _ _ _ _ _; refine ⟨rfl, _, _, _, (.tmp .nil), ⟨_, rfl, by simpa [Meets] using hb, rfl⟩, takeS⟩)
theorem sp_gate_Arc {B : Base} {p : Nat} {h : Hd} : True → Fn PP B N.gate_Gate_Arc [.pointer (some ⟨p, 5, none⟩)] [pts p 0 (hdC h)]
    (fun v L => v = .tuple #[.agg #[.int .u64 h.gf, .int .u64 h.gt], .bool h.sh] ∧ L = [pts p 0 (hdC h)]) := by
  intro _
  refine Fn_of N.gate_Gate_Arc_f rfl rfl fun fr => ?_
  try dsimp only [List.append_eq, List.cons_append, List.nil_append]
  repeat' (first | refine T_seq ?_ | refine T_regionR Tt (by kernel_rfl) ?_ | refine T_drawR Tt N.gate_Gate_Arc_d mixed (by kernel_rfl) ?_ | refine W_go Tt rfl ?_ | refine W_nil ?_ | refine T_cond_true rfl ?_ | refine T_cond_false rfl ?_ | refine T_skip ?_ | refine T_ret ?_ | with_reducible refine R_then ?_ | with_reducible refine R_norm ?_ | refine A_cmpT Tt ?_ | refine A_cmpF Tt ?_ | (refine A_cmp Tt ?_ ?_ <;> intro hc) | refine A_ldPts Tt ?_ | refine A_ldSl Tt ?_ | refine A_arr Tt ?_ | refine A_el Tt ?_ | refine A_el1 Tt ?_ | refine A_el2 Tt ?_ | refine A_store Tt ?_ | (refine A_alloc Tt ?_; intro b) | fail)
  all_goals
    (change bodyQ PP _ [fr] _ _ _ _ _; refine ⟨rfl, _, _, _, (ResL_cell Tt (.tmp .nil)), ⟨rfl, rfl⟩, takeS⟩)
end Go.Rz


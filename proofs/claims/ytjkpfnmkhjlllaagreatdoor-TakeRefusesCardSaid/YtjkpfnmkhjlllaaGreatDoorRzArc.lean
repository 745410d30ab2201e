/- arc. -/
import Derived.Test.YtjkpfnmkhjlllaaGreatDoorRzKinds
set_option linter.unusedVariables false
set_option linter.unusedSimpArgs false
open Go Go.Rz
set_option maxRecDepth 4000
namespace Go.Rz
def arcC (a : Int × Int) : List Value := [.int .u64 a.1, .int .u64 a.2]
def arcV (a : Int × Int) : Value := .agg #[.int .u64 a.1, .int .u64 a.2]
def U (x : Int) : Prop := 0 ≤ x ∧ x < 18446744073709551616
def whole (a : Int × Int) : Bool := decide (a.1 = a.2)
def size (a : Int × Int) : Int := (a.2 - a.1) % 18446744073709551616
def inArc (a : Int × Int) (x : Int) : Prop := a.1 = a.2 ∨ (x - a.1) % 18446744073709551616 < (a.2 - a.1) % 18446744073709551616

theorem sp_arc_Whole {B : Base} {f t : Int} : True → Fn PP B N.arc_Whole [.agg #[.int .u64 f, .int .u64 t]] [] (fun v L => ∃ q : Bool, v = .bool q ∧ (q = true ↔ f = t) ∧ L = []) := by
  intro _
  refine Fn_of N.arc_Whole_f rfl rfl fun fr => ?_
  try dsimp only [List.append_eq, List.cons_append, List.nil_append]
  repeat' (first | refine T_seq ?_ | refine T_regionR Tt (by kernel_rfl) ?_ | refine W_go Tt rfl ?_ | refine W_nil ?_ | refine T_ret ?_ | with_reducible refine R_then ?_ | with_reducible refine R_norm ?_ | refine A_cmpT Tt ?_ | refine A_cmpF Tt ?_ | (refine A_cmp Tt ?_ ?_ <;> intro hc) | refine A_ldPts Tt ?_ | refine A_ldSl Tt ?_ | refine A_el Tt ?_ | refine A_el1 Tt ?_ | refine A_el2 Tt ?_ | (refine A_box Tt ?_; intro b) | fail)
  all_goals (change bodyQ PP _ [fr] _ _ _ _ _; refine ⟨rfl, _, _, _, (.tmp .nil), ⟨_, rfl, by simpa using hc, rfl⟩, takeS⟩)
theorem sp_arc_Size {B : Base} {f t : Int} : True → Fn PP B N.arc_Size [.agg #[.int .u64 f, .int .u64 t]] [] (fun v L => v = .int .u64 (wr .u64 (t - f)) ∧ L = []) := by
  intro _
  refine Fn_of N.arc_Size_f rfl rfl fun fr => ?_
  try dsimp only [List.append_eq, List.cons_append, List.nil_append]
  repeat' (first | refine T_seq ?_ | refine T_regionR Tt (by kernel_rfl) ?_ | refine W_go Tt rfl ?_ | refine W_nil ?_ | refine T_ret ?_ | with_reducible refine R_then ?_ | with_reducible refine R_norm ?_ | refine A_ldPts Tt ?_ | refine A_ldSl Tt ?_ | refine A_el Tt ?_ | refine A_el1 Tt ?_ | refine A_el2 Tt ?_ | (refine A_box Tt ?_; intro b) | fail)
  all_goals (change bodyQ PP _ [fr] _ _ _ _ _; refine ⟨rfl, _, _, _, (.tmp .nil), ⟨rfl, rfl⟩, takeS⟩)
theorem sp_arc_In {B : Base} {f t x : Int} : True → Fn PP B N.arc_In [.agg #[.int .u64 f, .int .u64 t], .int .u64 x] [] (fun v L => ∃ q : Bool, v = .bool q ∧ (q = true ↔ (f = t ∨ (x - f) % 18446744073709551616 < (t - f) % 18446744073709551616)) ∧ L = []) := by
  intro _
  refine Fn_of N.arc_In_f rfl rfl fun fr => ?_
  try dsimp only [List.append_eq, List.cons_append, List.nil_append]
  repeat' (first | refine T_seq ?_ | refine T_regionR Tt (by kernel_rfl) ?_ | refine T_drawR Tt N.arc_In_d mixed (by kernel_rfl) ?_ | refine W_go Tt rfl ?_ | refine W_nil ?_ | refine T_ret ?_ | with_reducible refine R_then ?_ | with_reducible refine R_norm ?_ | refine A_cmpT Tt ?_ | refine A_cmpF Tt ?_ | (refine A_cmp Tt ?_ ?_ <;> intro hc) | refine A_skip Tt ?_ | refine A_ldPts Tt ?_ | refine A_ldSl Tt ?_ | refine A_el Tt ?_ | refine A_el1 Tt ?_ | refine A_el2 Tt ?_ | (refine A_box Tt ?_; intro b) | (refine A_call Tt N.arc_Whole_is (sp_arc_Whole) (trivial) ?_; rintro v L ⟨q, rfl, hb, rfl⟩; cases q <;> dsimp only [List.cons_append, List.nil_append, cond_true, cond_false]) | (refine A_call Tt N.arc_Size_is (sp_arc_Size) (trivial) ?_; rintro v L ⟨rfl, rfl⟩ <;> dsimp only [List.cons_append, List.nil_append]) | fail)
  all_goals
    (change bodyQ PP _ [fr] _ _ _ _ _; refine ⟨rfl, _, _, _, (.tmp .nil), ⟨_, rfl, ?_, rfl⟩, takeS⟩)
  all_goals ((try simp only [wr] at *); simp at hb ⊢; omega)
theorem sp_arc_Within {B : Base} {f t f2 t2 : Int} : True → Fn PP B N.arc_Within [.agg #[.int .u64 f, .int .u64 t], .agg #[.int .u64 f2, .int .u64 t2]] [] (fun v L => ∃ q : Bool, v = .bool q ∧
    (q = true ↔ (f = t ∨ (f2 ≠ t2 ∧ (f2 - f) % 18446744073709551616 < (t - f) % 18446744073709551616 ∧ (t2 - f2) % 18446744073709551616 ≤ ((t - f) % 18446744073709551616 - (f2 - f) % 18446744073709551616) % 18446744073709551616))) ∧ L = []) := by
  intro _
  refine Fn_of N.arc_Within_f rfl rfl fun fr => ?_
  try dsimp only [List.append_eq, List.cons_append, List.nil_append]
  repeat' (first | refine T_seq ?_ | refine T_regionR Tt (by kernel_rfl) ?_ | refine T_drawR Tt N.arc_Within_d mixed (by kernel_rfl) ?_ | refine W_go Tt rfl ?_ | refine W_nil ?_ | refine T_cond_true rfl ?_ | refine T_cond_false rfl ?_ | refine T_skip ?_ | refine T_ret ?_ | refine T_block ?_ | with_reducible refine R_block ?_ | with_reducible refine R_then ?_ | with_reducible refine R_norm ?_ | with_reducible refine R_blockN ?_ | refine A_cmpT Tt ?_ | refine A_cmpF Tt ?_ | (refine A_cmp Tt ?_ ?_ <;> intro hc) | refine A_skip Tt ?_ | refine A_ldPts Tt ?_ | refine A_ldSl Tt ?_ | refine A_el Tt ?_ | refine A_el1 Tt ?_ | refine A_el2 Tt ?_ | (refine A_box Tt ?_; intro b) | (refine A_call Tt N.arc_Whole_is (sp_arc_Whole) (trivial) ?_; rintro v L ⟨q, rfl, hb, rfl⟩; cases q <;> dsimp only [List.cons_append, List.nil_append, cond_true, cond_false]) | (refine A_call Tt N.arc_Size_is (sp_arc_Size) (trivial) ?_; rintro v L ⟨rfl, rfl⟩ <;> dsimp only [List.cons_append, List.nil_append]) | fail)
  all_goals
    (change bodyQ PP _ [fr] _ _ _ _ _; refine ⟨rfl, _, _, _, (.tmp .nil), ⟨_, rfl, ?_, rfl⟩, takeS⟩)
  all_goals ((try simp only [wr] at *); simp at *; omega)
theorem sp_arc_Pieces {B : Base} {f t : Int} : True → Fn PP B N.arc_Pieces [.agg #[.int .u64 f, .int .u64 t]] [] (fun v L => ∃ b : Nat, if t = 0 ∨ f < t then v = .slice (some ⟨b, 0, none⟩) 1 1 ∧ L = [sl (some ⟨b, 0, none⟩) 1 1 2 (flat arcC [(f, t)])] else v = .slice (some ⟨b, 0, none⟩) 2 2 ∧ L = [sl (some ⟨b, 0, none⟩) 2 2 2 (flat arcC [(f, 0), (0, t)])]) := by
  intro _
  refine Fn_of N.arc_Pieces_f rfl rfl fun fr => ?_
  try dsimp only [List.append_eq, List.cons_append, List.nil_append]
  repeat' (first | refine T_seq ?_ | refine T_regionR Tt (by kernel_rfl) ?_ | refine W_go Tt rfl ?_ | refine W_nil ?_ | refine T_cond_true rfl ?_ | refine T_cond_false rfl ?_ | refine T_skip ?_ | refine T_ret ?_ | with_reducible refine R_then ?_ | with_reducible refine R_norm ?_ | refine A_cmpT Tt ?_ | refine A_cmpF Tt ?_ | (refine A_cmp Tt ?_ ?_ <;> intro hc) | refine A_skip Tt ?_ | refine A_ldPts Tt ?_ | refine A_ldSl Tt ?_ | refine A_arr Tt ?_ | refine A_el Tt ?_ | refine A_el1 Tt ?_ | refine A_el2 Tt ?_ | (refine A_box Tt ?_; intro b) | (refine A_mk Tt ?_; intro b) | fail)
  · (change bodyQ PP _ [fr] _ _ _ _ _; refine ⟨rfl, _, _, _, (.tmp .nil), ⟨_, by rw [if_pos (.inl hc)]; exact ⟨rfl, rfl⟩⟩, takeS⟩)
  · (change bodyQ PP _ [fr] _ _ _ _ _; refine ⟨rfl, _, _, _, (.tmp .nil), ⟨_, by rw [if_pos (.inr hc)]; exact ⟨rfl, rfl⟩⟩, takeS⟩)
  · (change bodyQ PP _ [fr] _ _ _ _ _; refine ⟨rfl, _, _, _, (.tmp .nil), ⟨_, by rw [if_neg (by omega)]; exact ⟨rfl, rfl⟩⟩, takeS⟩)
end Go.Rz


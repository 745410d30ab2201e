/- arc: loops. -/
import Derived.Test.YtjkpfnmkhjlllaaGreatDoorRzArc
set_option linter.unusedVariables false
set_option linter.unusedSimpArgs false
open Go Go.Rz
set_option maxRecDepth 4000
namespace Go.Rz
def arc2C (a : (Int × Int) × (Int × Int)) : List Value := [.int .u64 a.1.1, .int .u64 a.1.2, .int .u64 a.2.1, .int .u64 a.2.2]
instance : Uni arc2C 4 := ⟨fun _ => rfl, fun _ => rfl⟩
instance : Uni arcC 2 := ⟨fun _ => rfl, fun _ => rfl⟩
def Meets (a : Int × Int) (x : Int) : Prop := a.1 = a.2 ∨ (x - a.1) % 18446744073709551616 < (a.2 - a.1) % 18446744073709551616

theorem sp_arc_Apart {B : Base} {f t f2 t2 : Int} : True → Fn PP B N.arc_Apart [.agg #[.int .u64 f, .int .u64 t], .agg #[.int .u64 f2, .int .u64 t2]] [] (fun v L => ∃ q : Bool, v = .bool q ∧
    (q = true ↔ ¬ Meets (f, t) f2 ∧ ¬ Meets (f2, t2) f) ∧ L = []) := by
  intro _
  refine Fn_of N.arc_Apart_f rfl rfl fun fr => ?_
  try dsimp only [List.append_eq, List.cons_append, List.nil_append]
  repeat' (first | refine T_seq ?_ | refine T_regionR Tt (by kernel_rfl) ?_ | refine W_go Tt rfl ?_ | refine W_nil ?_ | refine T_cond_true rfl ?_ | refine T_cond_false rfl ?_ | refine T_skip ?_ | refine T_ret ?_ | refine T_exit ?_ | refine T_block ?_ | refine T_scope ?_ | refine T_label ?_ | with_reducible refine R_block ?_ | with_reducible refine R_then ?_ | with_reducible refine R_norm ?_ | with_reducible refine R_scope ?_ | with_reducible refine R_exitEq ?_ | refine R_exitNe ?_ | with_reducible refine R_thenX ?_ | with_reducible refine R_scopeX ?_ | with_reducible refine R_blockN ?_ | with_reducible refine R_scopeN ?_ | refine A_cmpT Tt ?_ | refine A_cmpF Tt ?_ | (refine A_cmp Tt ?_ ?_ <;> intro hc) | refine A_ldPts Tt ?_ | refine A_ldSl Tt ?_ | refine A_arr Tt ?_ | refine S_ix Tt ?_ | refine S_ixA Tt ?_ | refine A_el Tt ?_ | refine A_el1 Tt ?_ | refine A_el2 Tt ?_ | refine A_store Tt ?_ | refine A_stEl Tt ?_ | (refine A_box Tt ?_; intro b) | (refine A_alloc Tt ?_; intro b) | (refine A_mk Tt ?_; intro b) | fail)
  refine T_loopE (X := Nat) (fun i => [(5, .bool true), (14, .slice (some ⟨b, 0, none⟩) 2 2), (15, .int .i64 2), (16, .int .i64 i)]) (fun i => [sl (some ⟨b, 0, none⟩) 2 2 4 (flat arc2C [((f, t), (f2, t2)), ((f2, t2), (f, t))]), fr]) (fun i => 3 - i)
    (fun i => i ≤ 2 ∧ (1 ≤ i → ¬ Meets (f, t) f2) ∧ (2 ≤ i → ¬ Meets (f2, t2) f)) 0 ⟨by omega, by omega, by omega⟩ (by exact ⟨rfl, rfl, rfl, rfl, trivial⟩) takeS ?_
  rintro i d ⟨hi, h1, h2⟩
  obtain rfl | rfl | rfl : i = 0 ∨ i = 1 ∨ i = 2 := by omega
  · repeat' (first | refine T_seq ?_ | refine T_regionR Tt (by kernel_rfl) ?_ | refine W_go Tt rfl ?_ | refine W_nil ?_ | refine T_cond_true rfl ?_ | refine T_cond_false rfl ?_ | refine T_skip ?_ | refine T_ret ?_ | refine T_exit ?_ | refine T_block ?_ | refine T_scope ?_ | refine T_label ?_ | with_reducible refine R_block ?_ | with_reducible refine R_then ?_ | with_reducible refine R_norm ?_ | with_reducible refine R_scope ?_ | with_reducible refine R_exitEq ?_ | refine R_exitNe ?_ | with_reducible refine R_thenX ?_ | with_reducible refine R_scopeX ?_ | with_reducible refine R_blockN ?_ | with_reducible refine R_scopeN ?_ | (refine A_cmp Tt ?_ ?_ <;> intro hc) | refine A_ldPts Tt ?_ | refine A_ldSl Tt ?_ | refine A_arr Tt ?_ | refine S_ix Tt ?_ | refine S_ixA Tt ?_ | refine A_el Tt ?_ | refine A_el1 Tt ?_ | refine A_el2 Tt ?_ | refine A_store Tt ?_ | refine A_stEl Tt ?_ | (refine A_box Tt ?_; intro b) | (refine A_alloc Tt ?_; intro b) | (refine A_mk Tt ?_; intro b) | (refine A_call Tt N.arc_In_is (sp_arc_In) (trivial) ?_; rintro v L ⟨q, rfl, hb, rfl⟩; cases q <;> dsimp only [List.cons_append, List.nil_append, cond_true, cond_false]) | fail)
    · exact ⟨rfl, 1, ⟨by omega, fun _ h => by simp [Meets] at hb h; omega, by omega⟩, by omega, ⟨rfl, rfl, rfl, rfl, trivial⟩, _, takeS⟩
    · (change bodyQ PP _ [fr] _ _ _ _ _; refine ⟨rfl, _, _, _, (.tmp .nil), ⟨_, rfl, ⟨fun h => (by cases h), fun h => absurd (by simpa [Meets] using hb) h.1⟩, rfl⟩, takeS⟩)
    · exact absurd hc (by decide)
  · repeat' (first | refine T_seq ?_ | refine T_regionR Tt (by kernel_rfl) ?_ | refine W_go Tt rfl ?_ | refine W_nil ?_ | refine T_cond_true rfl ?_ | refine T_cond_false rfl ?_ | refine T_skip ?_ | refine T_ret ?_ | refine T_exit ?_ | refine T_block ?_ | refine T_scope ?_ | refine T_label ?_ | with_reducible refine R_block ?_ | with_reducible refine R_then ?_ | with_reducible refine R_norm ?_ | with_reducible refine R_scope ?_ | with_reducible refine R_exitEq ?_ | refine R_exitNe ?_ | with_reducible refine R_thenX ?_ | with_reducible refine R_scopeX ?_ | with_reducible refine R_blockN ?_ | with_reducible refine R_scopeN ?_ | (refine A_cmp Tt ?_ ?_ <;> intro hc) | refine A_ldPts Tt ?_ | refine A_ldSl Tt ?_ | refine A_arr Tt ?_ | refine S_ix Tt ?_ | refine S_ixA Tt ?_ | refine A_el Tt ?_ | refine A_el1 Tt ?_ | refine A_el2 Tt ?_ | refine A_store Tt ?_ | refine A_stEl Tt ?_ | (refine A_box Tt ?_; intro b) | (refine A_alloc Tt ?_; intro b) | (refine A_mk Tt ?_; intro b) | (refine A_call Tt N.arc_In_is (sp_arc_In) (trivial) ?_; rintro v L ⟨q, rfl, hb, rfl⟩; cases q <;> dsimp only [List.cons_append, List.nil_append, cond_true, cond_false]) | fail)
    · exact ⟨rfl, 2, ⟨by omega, fun _ => h1 (by omega), fun _ h => by simp [Meets] at hb h; omega⟩, by omega, ⟨rfl, rfl, rfl, rfl, trivial⟩, _, takeS⟩
    · (change bodyQ PP _ [fr] _ _ _ _ _; refine ⟨rfl, _, _, _, (.tmp .nil), ⟨_, rfl, ⟨fun h => (by cases h), fun h => absurd (by simpa [Meets] using hb) h.2⟩, rfl⟩, takeS⟩)
    · exact absurd hc (by decide)
  · repeat' (first | refine T_seq ?_ | refine T_regionR Tt (by kernel_rfl) ?_ | refine W_go Tt rfl ?_ | refine W_nil ?_ | refine T_cond_true rfl ?_ | refine T_cond_false rfl ?_ | refine T_skip ?_ | refine T_ret ?_ | refine T_exit ?_ | refine T_block ?_ | refine T_scope ?_ | refine T_label ?_ | with_reducible refine R_block ?_ | with_reducible refine R_then ?_ | with_reducible refine R_norm ?_ | with_reducible refine R_scope ?_ | with_reducible refine R_exitEq ?_ | refine R_exitNe ?_ | with_reducible refine R_thenX ?_ | with_reducible refine R_scopeX ?_ | with_reducible refine R_blockN ?_ | with_reducible refine R_scopeN ?_ | (refine A_cmp Tt ?_ ?_ <;> intro hc) | refine A_ldPts Tt ?_ | refine A_ldSl Tt ?_ | refine A_arr Tt ?_ | refine S_ix Tt ?_ | refine S_ixA Tt ?_ | refine A_el Tt ?_ | refine A_el1 Tt ?_ | refine A_el2 Tt ?_ | refine A_store Tt ?_ | refine A_stEl Tt ?_ | (refine A_box Tt ?_; intro b) | (refine A_alloc Tt ?_; intro b) | (refine A_mk Tt ?_; intro b) | (refine A_call Tt N.arc_In_is (sp_arc_In) (trivial) ?_; rintro v L ⟨q, rfl, hb, rfl⟩; cases q <;> dsimp only [List.cons_append, List.nil_append, cond_true, cond_false]) | fail)
    all_goals first | exact absurd hc (by decide) | skip
    (change bodyQ PP _ [fr] _ _ _ _ _; refine ⟨rfl, _, _, _, (.tmp .nil), ⟨_, rfl, ⟨fun _ => ⟨h1 (by omega), h2 (by omega)⟩, fun _ => rfl⟩, rfl⟩, takeS⟩)
end Go.Rz


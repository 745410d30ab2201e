/- hold: Freeze, Thaw; gate: Point. -/
import Derived.Test.YtjkpfnmkhjlllaaGreatDoorRzHold3
set_option linter.unusedVariables false
set_option linter.unusedSimpArgs false
open Go Go.Rz
set_option maxRecDepth 4000
namespace Go.Rz
theorem arcL_le (f t : Int) (l : List It) : (arcL f t l).length ≤ l.length := by
  unfold arcL pieces
  split
  · simp only [List.flatMap_cons, List.flatMap_nil, List.append_nil]
    exact List.length_filter_le ..
  · rename_i h
    simp only [List.flatMap_cons, List.flatMap_nil, List.append_nil, List.length_append]
    induction l with
    | nil => simp [pieceL]
    | cons x l ih =>
      unfold pieceL at *
      simp only [List.filter_cons]
      by_cases h1 : inP (f, 0) (addr x.k) <;> by_cases h2 : inP (0, t) (addr x.k)
      · unfold inP at h1 h2; dsimp only at h1 h2; omega
      · rw [if_pos (tt_iff.2 h1), if_neg (fun h => h2 (tt_iff.1 h))]; simp; omega
      · rw [if_neg (fun h => h1 (tt_iff.1 h)), if_pos (tt_iff.2 h2)]; simp; omega
      · rw [if_neg (fun h => h1 (tt_iff.1 h)), if_neg (fun h => h2 (tt_iff.1 h))]; simp; omega
theorem sp_walk_Arc {B : Base} {s : Nat} {f t : Int} : True → Fn PP B N.walk_Arc [.pointer (some ⟨s, 0, none⟩), .agg #[.int .u64 f, .int .u64 t]] []
    (fun v L => ∃ b1 b2 : Nat, v = .func (.func N.walk_Arc_1) #[] #[.pointer (some ⟨b1, 0, none⟩), .pointer (some ⟨b2, 0, none⟩)] ∧ L = [pts b1 0 [.pointer (some ⟨s, 0, none⟩)], pts b2 0 [.int .u64 f, .int .u64 t]]) := by
  intro _
  refine Fn_of N.walk_Arc_f rfl rfl fun fr => ?_
  try dsimp only [List.append_eq, List.cons_append, List.nil_append]
  repeat' (first | refine T_seq ?_ | refine T_regionR Tt (by kernel_rfl) ?_ | refine W_go Tt rfl ?_ | refine W_nil ?_ | refine T_ret ?_ | with_reducible refine R_then ?_ | with_reducible refine R_norm ?_ | (refine A_box Tt ?_; intro b) | fail)
  (change bodyQ PP _ [fr] _ _ _ _ _; refine ⟨rfl, _, _, _, (.tmp .nil), ⟨_, _, rfl, rfl⟩, takeS⟩)
/-- All items of an arc. -/
theorem sp_Collect_Arc {B : Base} {s b1 b2 : Nat} {most f t : Int} {l : List It} : (l.length ≤ 200 ∧ U f ∧ U t) →
    Fn PP B N.walk_Collect [.func (.func N.walk_Arc_1) #[] #[.pointer (some ⟨b1, 0, none⟩), .pointer (some ⟨b2, 0, none⟩)], .int .i64 200] [pts b1 0 [.pointer (some ⟨s, 0, none⟩)], pts b2 0 [.int .u64 f, .int .u64 t], shP s most l]
    (fun v L => ∃ a cap, wf a (arcL f t l).length cap ∧ v = .slice a (arcL f t l).length cap ∧ L = [shP s most l, sl a (arcL f t l).length cap 2 (flat itC (arcL f t l))]) := by
  rintro ⟨h1, h2, h3⟩
  have hle := arcL_le f t l
  have := sp_Collect (B := B) (most := 200) (A0 := [shP s most l]) ⟨N.walk_Arc_1_is, iter_Arc (b1 := b1) (b2 := b2) (s := s) (most := most) (f := f) (t := t) (l := l) (by omega) h2.1 h3.1, fun i A' h => h, fun i A' h => h, by decide, by decide⟩
  rw [List.take_of_length_le (show (arcL f t l).length ≤ (200 : Int).toNat by have : (200 : Int).toNat = 200 := rfl; omega)] at this
  exact this

theorem sp_all_yes {B : Base} {q : Nat} {h : Hd} {f t : Int} : (wf h.oa h.ow.length h.oc ∧ h.ow.length < 1099511627776 ∧ Hok h.ow ∧ U f ∧ U t ∧ ∀ y, U y → inPs (pieces f t) y → (pieceAt h.ow y).isSome = true) →
    Fn PP B N.hold_Hold_all [.pointer (some ⟨q, 0, none⟩), .agg #[.int .u64 f, .int .u64 t]] [pts q 0 (hdC h), sl h.oa h.ow.length h.oc 4 (flat ownC h.ow)]
    (fun v L => ∃ e, v = .tuple #[.int .i64 e, .bool true] ∧ Cov h.ow (inPs (pieces f t)) e ∧ L = [pts q 0 (hdC h), sl h.oa h.ow.length h.oc 4 (flat ownC h.ow)]) := fun ⟨h1, h2, h3, h4, h5, h6⟩ =>
  (sp_hold_all ⟨h1, h2, h3, h4, h5⟩).mono fun v L ⟨a, b⟩ => by
    rcases a with ⟨e, rfl, hc⟩ | ⟨-, y, hy, hi, hn⟩
    · exact ⟨e, rfl, hc, b⟩
    · have := h6 y hy hi; rw [hn] at this; cases this
theorem sp_all_no {B : Base} {q : Nat} {h : Hd} {f t : Int} : (wf h.oa h.ow.length h.oc ∧ h.ow.length < 1099511627776 ∧ Hok h.ow ∧ U f ∧ U t ∧ ∃ y, U y ∧ inPs (pieces f t) y ∧ pieceAt h.ow y = none) →
    Fn PP B N.hold_Hold_all [.pointer (some ⟨q, 0, none⟩), .agg #[.int .u64 f, .int .u64 t]] [pts q 0 (hdC h), sl h.oa h.ow.length h.oc 4 (flat ownC h.ow)]
    (fun v L => v = .tuple #[.int .i64 0, .bool false] ∧ L = [pts q 0 (hdC h), sl h.oa h.ow.length h.oc 4 (flat ownC h.ow)]) := fun ⟨h1, h2, h3, h4, h5, y, h6, h7, h8⟩ =>
  (sp_hold_all ⟨h1, h2, h3, h4, h5⟩).mono fun v L ⟨a, b⟩ => by
    rcases a with ⟨e, rfl, hc⟩ | ⟨rfl, -⟩
    · obtain ⟨o, ho, -⟩ := hc.1 y h6 h7; rw [h8] at ho; cases ho
    · exact ⟨rfl, b⟩

theorem sp_Freeze_busy {B : Base} {q : Nat} {h : Hd} {f t : Int} : h.sh = true → Fn PP B N.hold_Hold_Freeze [.pointer (some ⟨q, 0, none⟩), .agg #[.int .u64 f, .int .u64 t]] [pts q 0 (hdC h)]
    (fun v L => v = .tuple #[.slice none 0 0, .int .i64 0, .int .i64 7] ∧ L = [pts q 0 (hdC h)]) := by
  obtain ⟨node, most, kept, oa, oc, ow, sp, sh, gf, gt, gp⟩ := h
  rintro rfl
  refine Fn_of N.hold_Hold_Freeze_f rfl rfl fun fr => ?_
  try dsimp only [List.append_eq, List.cons_append, List.nil_append]
  repeat' (first | refine T_seq ?_ | refine T_regionR Tt (by kernel_rfl) ?_ | refine T_drawR Tt N.hold_Hold_Freeze_d mixed (by kernel_rfl) ?_ | refine W_go Tt rfl ?_ | refine W_nil ?_ | refine T_cond_true rfl ?_ | refine T_cond_false rfl ?_ | refine T_skip ?_ | refine T_ret ?_ | with_reducible refine R_then ?_ | with_reducible refine R_norm ?_ | refine A_cmpT Tt ?_ | refine A_cmpF Tt ?_ | (refine A_cmp Tt ?_ ?_ <;> intro hc) | refine A_ldPts Tt ?_ | refine A_ldSl Tt ?_ | refine A_el Tt ?_ | refine A_el1 Tt ?_ | refine A_el2 Tt ?_ | refine A_store Tt ?_ | (refine A_box Tt ?_; intro b) | (refine A_alloc Tt ?_; intro b) | (refine A_call Tt N.gate_Gate_Arc_is (sp_gate_Arc (h := ⟨node, most, kept, oa, oc, ow, sp, true, gf, gt, gp⟩)) (trivial) ?_; rintro v L ⟨rfl, rfl⟩ <;> dsimp only [List.cons_append, List.nil_append]) | fail)
  (change bodyQ PP _ [fr] _ _ _ _ _; refine ⟨rfl, _, _, _, (.tmp (.tmp (.tmp .nil))), ⟨rfl, rfl⟩, takeS⟩)
theorem sp_Freeze_arg {B : Base} {q : Nat} {h : Hd} {f t : Int} : (h.sh = false ∧ wf h.oa h.ow.length h.oc ∧ h.ow.length < 1099511627776 ∧ Hok h.ow ∧ U f ∧ U t ∧ ∃ y, U y ∧ inPs (pieces f t) y ∧ pieceAt h.ow y = none) →
    Fn PP B N.hold_Hold_Freeze [.pointer (some ⟨q, 0, none⟩), .agg #[.int .u64 f, .int .u64 t]] [pts q 0 (hdC h), sl h.oa h.ow.length h.oc 4 (flat ownC h.ow)]
    (fun v L => v = .tuple #[.slice none 0 0, .int .i64 0, .int .i64 1] ∧ L = [pts q 0 (hdC h), sl h.oa h.ow.length h.oc 4 (flat ownC h.ow)]) := by
  obtain ⟨node, most, kept, oa, oc, ow, sp, sh, gf, gt, gp⟩ := h
  rintro ⟨rfl, hh⟩
  refine Fn_of N.hold_Hold_Freeze_f rfl rfl fun fr => ?_
  try dsimp only [List.append_eq, List.cons_append, List.nil_append]
  repeat' (first | refine T_seq ?_ | refine T_regionR Tt (by kernel_rfl) ?_ | refine T_drawR Tt N.hold_Hold_Freeze_d mixed (by kernel_rfl) ?_ | refine W_go Tt rfl ?_ | refine W_nil ?_ | refine T_cond_true rfl ?_ | refine T_cond_false rfl ?_ | refine T_skip ?_ | refine T_ret ?_ | with_reducible refine R_then ?_ | with_reducible refine R_norm ?_ | refine A_cmpT Tt ?_ | refine A_cmpF Tt ?_ | (refine A_cmp Tt ?_ ?_ <;> intro hc) | refine A_ldPts Tt ?_ | refine A_ldSl Tt ?_ | refine A_el Tt ?_ | refine A_el1 Tt ?_ | refine A_el2 Tt ?_ | refine A_store Tt ?_ | (refine A_box Tt ?_; intro b) | (refine A_alloc Tt ?_; intro b) | (refine A_call Tt N.gate_Gate_Arc_is (sp_gate_Arc (h := ⟨node, most, kept, oa, oc, ow, sp, false, gf, gt, gp⟩)) (trivial) ?_; rintro v L ⟨rfl, rfl⟩ <;> dsimp only [List.cons_append, List.nil_append]) | (refine A_call Tt N.hold_Hold_all_is (sp_all_no (h := ⟨node, most, kept, oa, oc, ow, sp, false, gf, gt, gp⟩)) (hh) ?_; rintro v L ⟨rfl, rfl⟩ <;> dsimp only [List.cons_append, List.nil_append]) | fail)
  (change bodyQ PP _ [fr] _ _ _ _ _; refine ⟨rfl, _, _, _, (.tmp (.tmp (.tmp .nil))), ⟨rfl, rfl⟩, takeS⟩)
theorem sp_Freeze_ok {B : Base} {q : Nat} {h : Hd} {f t m : Int} {l : List It} : (h.sh = false ∧ l.length ≤ 200 ∧ wf h.oa h.ow.length h.oc ∧ h.ow.length < 1099511627776 ∧ Hok h.ow ∧ U f ∧ U t ∧ ∀ y, U y → inPs (pieces f t) y → (pieceAt h.ow y).isSome = true) →
    Fn PP B N.hold_Hold_Freeze [.pointer (some ⟨q, 0, none⟩), .agg #[.int .u64 f, .int .u64 t]] [pts q 0 (hdC h), sl h.oa h.ow.length h.oc 4 (flat ownC h.ow), shP h.sp m l]
    (fun v L => ∃ a cap e, wf a (arcL f t l).length cap ∧ v = .tuple #[.slice a (arcL f t l).length cap, .int .i64 e, .int .i64 0] ∧ Cov h.ow (inPs (pieces f t)) e ∧
      L = [pts q 0 (hdC { h with sh := true, gf := f, gt := t }), sl h.oa h.ow.length h.oc 4 (flat ownC h.ow), shP h.sp m l, sl a (arcL f t l).length cap 2 (flat itC (arcL f t l))]) := by
  obtain ⟨node, most, kept, oa, oc, ow, sp, sh, gf, gt, gp⟩ := h
  rintro ⟨rfl, hl, hh⟩
  refine Fn_of N.hold_Hold_Freeze_f rfl rfl fun fr => ?_
  try dsimp only [List.append_eq, List.cons_append, List.nil_append]
  repeat' (first | refine T_seq ?_ | refine T_regionR Tt (by kernel_rfl) ?_ | refine T_drawR Tt N.hold_Hold_Freeze_d mixed (by kernel_rfl) ?_ | refine W_go Tt rfl ?_ | refine W_nil ?_ | refine T_cond_true rfl ?_ | refine T_cond_false rfl ?_ | refine T_skip ?_ | refine T_ret ?_ | with_reducible refine R_then ?_ | with_reducible refine R_norm ?_ | refine A_cmpT Tt ?_ | refine A_cmpF Tt ?_ | (refine A_cmp Tt ?_ ?_ <;> intro hc) | refine A_ldPts Tt ?_ | refine A_ldSl Tt ?_ | refine A_el Tt ?_ | refine A_el1 Tt ?_ | refine A_el2 Tt ?_ | refine A_store Tt ?_ | (refine A_box Tt ?_; intro b) | (refine A_alloc Tt ?_; intro b) | (refine A_call Tt N.gate_Gate_Arc_is (sp_gate_Arc (h := ⟨node, most, kept, oa, oc, ow, sp, false, gf, gt, gp⟩)) (trivial) ?_; rintro v L ⟨rfl, rfl⟩ <;> dsimp only [List.cons_append, List.nil_append]) | (refine A_call Tt N.hold_Hold_all_is (sp_all_yes (h := ⟨node, most, kept, oa, oc, ow, sp, false, gf, gt, gp⟩)) (hh) ?_; rintro v L ⟨ep, rfl, hcov, rfl⟩ <;> dsimp only [List.cons_append, List.nil_append]) | (refine A_call Tt N.gate_Gate_Freeze_is (sp_gate_Freeze (h := ⟨node, most, kept, oa, oc, ow, sp, false, gf, gt, gp⟩)) (trivial) ?_; rintro v L ⟨rfl, rfl⟩ <;> dsimp only [List.cons_append, List.nil_append]) | (refine A_call Tt N.walk_Arc_is (sp_walk_Arc) (trivial) ?_; rintro v L ⟨b1, b2, rfl, rfl⟩ <;> dsimp only [List.cons_append, List.nil_append]) | (refine A_call Tt N.walk_Collect_is (sp_Collect_Arc) (⟨hl, hh.2.2.2.1, hh.2.2.2.2.1⟩) ?_; rintro v L ⟨ia, ic, hw, rfl, rfl⟩ <;> dsimp only [List.cons_append, List.nil_append]) | fail)
  (change bodyQ PP _ [fr] _ _ _ _ _; refine ⟨rfl, _, _, _, (.tmp (.tmp (.tmp .nil))), ⟨ia, ic, ep, hw, rfl, hcov, rfl⟩, takeS⟩)
theorem sp_hold_Thaw {B : Base} {q : Nat} {h : Hd} : True → Fn PP B N.hold_Hold_Thaw [.pointer (some ⟨q, 0, none⟩)] [pts q 0 (hdC h)]
    (fun v L => v = .tuple #[] ∧ L = [pts q 0 (hdC (bif h.sh then { h with sh := false, gf := 0, gt := 0 } else h))]) := by
  intro _
  refine Fn_of N.hold_Hold_Thaw_f rfl rfl fun fr => ?_
  try dsimp only [List.append_eq, List.cons_append, List.nil_append]
  repeat' (first | refine T_seq ?_ | refine T_regionR Tt (by kernel_rfl) ?_ | refine W_go Tt rfl ?_ | refine W_nil ?_ | refine T_cond_true rfl ?_ | refine T_cond_false rfl ?_ | refine T_skip ?_ | with_reducible refine R_then ?_ | with_reducible refine R_norm ?_ | refine A_cmpT Tt ?_ | refine A_cmpF Tt ?_ | (refine A_cmp Tt ?_ ?_ <;> intro hc) | (refine A_call Tt N.gate_Gate_Thaw_is (sp_gate_Thaw) (trivial) ?_; rintro v L ⟨rfl, rfl⟩ <;> dsimp only [List.cons_append, List.nil_append]) | fail)
  (change bodyQ PP _ [fr] _ _ _ _ _; refine ⟨rfl, _, _, _, .nil, ⟨rfl, rfl⟩, takeS⟩)
structure Gp where
  f : Int
  t : Int
  node : Int
  old : Int
def gpC (o : Gp) : List Value := [.int .u64 o.f, .int .u64 o.t, .int .i64 o.node, .int .i64 o.old]
instance : Uni gpC 4 := ⟨fun _ => rfl, fun _ => rfl⟩
theorem sp_gate_Point {B : Base} {p n : Nat} {h : Hd} {f t node : Int} {ga : Option Addr} {gc : Nat} {us : List Value} : (n ≤ 1000000) → Fn PP B N.gate_Gate_Point [.pointer (some ⟨p, 5, none⟩), .agg #[.int .u64 f, .int .u64 t], .int .i64 node] [pts p 0 (hdC { h with gp := .slice ga n gc }), sl ga n gc 4 us]
    (fun v L => ∃ ga' gc', wf ga' (n + 1) gc' ∧ v = .tuple #[] ∧ L = [pts p 0 (hdC { h with gp := .slice ga' (n + 1) gc' }), sl ga' (n + 1) gc' 4 (us ++ gpC ⟨f, t, node, 0⟩)]) := by
  obtain ⟨hnode, most, kept, oa, oc, ow, sp, sh, gf, gt, gp⟩ := h
  intro hn
  refine Fn_of N.gate_Gate_Point_f rfl rfl fun fr => ?_
  try dsimp only [List.append_eq, List.cons_append, List.nil_append]
  repeat' (first | refine T_seq ?_ | refine T_regionR Tt (by kernel_rfl) ?_ | refine T_drawR Tt N.gate_Gate_Point_d mixed (by kernel_rfl) ?_ | refine W_go Tt rfl ?_ | refine W_nil ?_ | refine T_cond_true rfl ?_ | refine T_cond_false rfl ?_ | refine T_skip ?_ | with_reducible refine R_then ?_ | with_reducible refine R_norm ?_ | refine A_cmpT Tt ?_ | refine A_cmpF Tt ?_ | (refine A_cmp Tt ?_ ?_ <;> intro hc) | refine A_ldPts Tt ?_ | refine A_ldSl Tt ?_ | refine A_arr Tt ?_ | refine A_el Tt ?_ | refine A_el1 Tt ?_ | refine A_el2 Tt ?_ | refine A_store Tt ?_ | (refine A_box Tt ?_; intro b) | (refine A_mk Tt ?_; intro b) | (refine A_app Tt ?_; intro a cp hwf) | (refine A_appNil Tt ?_; intro a cp hwf) | fail)
  (change bodyQ PP _ [fr] _ _ _ _ _; refine ⟨rfl, _, _, _, .nil, ⟨a, cp, hwf, rfl, rfl⟩, takeS⟩)
end Go.Rz


/- give: of nothing. -/
import Derived.Test.YtjkpfnmkhjlllaaGreatDoorRzLose
import Derived.Test.YtjkpfnmkhjlllaaGreatDoorRzRef2
set_option linter.unusedVariables false
set_option linter.unusedSimpArgs false
open Go Go.Rz
set_option maxRecDepth 4000
namespace Go.Rz
theorem sp_New0 {B : Base} {node most : Int} : (0 ≤ most ∧ most ≤ 200) → Fn PP B N.hold_New [.int .i64 node, .int .i64 most] [] (fun v L => ∃ (b p : Nat), v = .pointer (some ⟨b, 0, none⟩) ∧
    L = [pts b 0 (hdC ⟨node, most, 0, none, 0, [], p, false, 0, 0, .slice none 0 0⟩), pts p 0 (shB most [] none)]) := fun h => (sp_hold_New trivial).mono fun v L ⟨b, p, h1, h2⟩ => ⟨b, p, h1, by
  rw [h2, show min (max most 0) 200 = most by omega, show min (max most 0) 200 = most by omega]; rfl⟩
theorem sp_Holds0 {B : Base} {node most : Int} : (0 ≤ most ∧ most ≤ 200) → Fn PP B N.rosref10_Holds [.int .i64 node, .int .i64 most] [] (fun v L => ∃ (b p : Nat), v = .pointer (some ⟨b, 0, none⟩) ∧
    L = [pts b 0 (hdC ⟨node, most, 0, none, 0, [], p, false, 0, 0, .slice none 0 0⟩), pts p 0 [.int .i64 most, .slice none 0 0]]) := fun h => (sp_ref10_Holds trivial).mono fun v L ⟨b, p, h1, h2⟩ => ⟨b, p, h1, by
  rw [h2, show min (max most 0) 200 = most by omega]⟩
theorem sp_Chunks_nil {B : Base} {a : Option Addr} {cap : Nat} : True → Fn PP B N.cut_Chunks [.slice a 0 cap] [] (fun v L => v = .slice none 0 0 ∧ L = []) := by
  intro _
  refine Fn_of N.cut_Chunks_f rfl rfl fun fr => ?_
  try dsimp only [List.append_eq, List.cons_append, List.nil_append]
  repeat' (first | refine T_seq ?_ | refine T_regionR Tt (by kernel_rfl) ?_ | refine W_go Tt rfl ?_ | refine W_nil ?_ | refine T_cond_true rfl ?_ | refine T_cond_false rfl ?_ | refine T_skip ?_ | refine T_ret ?_ | refine T_exit ?_ | refine T_block ?_ | with_reducible refine R_block ?_ | with_reducible refine R_then ?_ | with_reducible refine R_norm ?_ | with_reducible refine R_exitEq ?_ | refine R_exitNe ?_ | with_reducible refine R_thenX ?_ | with_reducible refine R_scopeX ?_ | with_reducible refine R_blockN ?_ | refine A_cmpT Tt ?_ | refine A_cmpF Tt ?_ | (refine A_cmp Tt ?_ ?_ <;> intro hc) | refine A_min Tt ?_ | (refine A_mk Tt ?_; intro b) | (refine A_app Tt ?_; intro a cp hwf) | (refine A_appNil Tt ?_; intro a cp hwf) | refine A_slc0 Tt ?_ | refine A_slc Tt ?_ | refine A_slcE Tt ?_ | fail)
  refine T_loopE (X := Unit) (fun _ => [(0, .slice a 0 cap), (3, .slice none 0 0)]) (fun _ => [fr]) (fun _ => 0) (fun _ => True) () trivial (by exact ⟨rfl, rfl, trivial⟩) takeS ?_
  rintro - d -
  repeat' (first | refine T_seq ?_ | refine T_regionR Tt (by kernel_rfl) ?_ | refine W_go Tt rfl ?_ | refine W_nil ?_ | refine T_cond_true rfl ?_ | refine T_cond_false rfl ?_ | refine T_skip ?_ | refine T_ret ?_ | refine T_exit ?_ | refine T_block ?_ | with_reducible refine R_block ?_ | with_reducible refine R_then ?_ | with_reducible refine R_norm ?_ | with_reducible refine R_exitEq ?_ | refine R_exitNe ?_ | with_reducible refine R_thenX ?_ | with_reducible refine R_scopeX ?_ | with_reducible refine R_blockN ?_ | refine A_cmpT Tt ?_ | refine A_cmpF Tt ?_ | (refine A_cmp Tt ?_ ?_ <;> intro hc) | refine A_min Tt ?_ | (refine A_mk Tt ?_; intro b) | (refine A_app Tt ?_; intro a cp hwf) | (refine A_appNil Tt ?_; intro a cp hwf) | refine A_slc0 Tt ?_ | refine A_slc Tt ?_ | refine A_slcE Tt ?_ | fail)
  (change bodyQ PP _ [fr] _ _ _ _ _; refine ⟨rfl, _, _, _, (.tmp .nil), ⟨rfl, rfl⟩, takeS⟩)
theorem sp_Start_self {B : Base} {q : Nat} {f t me id : Int} : True → Fn PP B N.give_Start [.pointer (some ⟨q, 0, none⟩), .agg #[.int .u64 f, .int .u64 t], .int .i64 me, .int .i64 me, .int .i64 id] []
    (fun v L => v = .tuple #[.pointer none, .slice none 0 0, .int .i64 1] ∧ L = []) := by
  intro _
  refine Fn_of N.give_Start_f rfl rfl fun fr => ?_
  try dsimp only [List.append_eq, List.cons_append, List.nil_append]
  repeat' (first | refine T_seq ?_ | refine T_regionR Tt (by kernel_rfl) ?_ | refine T_drawR Tt N.give_Start_d mixed (by kernel_rfl) ?_ | refine W_go Tt rfl ?_ | refine W_nil ?_ | refine T_cond_true rfl ?_ | refine T_cond_false rfl ?_ | refine T_skip ?_ | refine T_ret ?_ | with_reducible refine R_then ?_ | with_reducible refine R_norm ?_ | refine A_cmpT Tt ?_ | refine A_cmpF Tt ?_ | refine A_cmpY Tt ?_ | refine A_cmpN Tt ?_ | (refine A_cmp Tt ?_ ?_ <;> intro hc) | refine A_skip Tt ?_ | refine A_ldPts Tt ?_ | refine A_ldSl Tt ?_ | refine A_arr Tt ?_ | refine A_el Tt ?_ | refine A_el1 Tt ?_ | refine A_el2 Tt ?_ | refine A_store Tt ?_ | (refine A_box Tt ?_; intro b) | (refine A_alloc Tt ?_; intro b) | (refine A_mk Tt ?_; intro b) | fail)
  all_goals first | (exfalso; omega) | (change bodyQ PP _ [fr] _ _ _ _ _; refine ⟨rfl, _, _, _, (.tmp (.tmp (.tmp .nil))), ⟨rfl, rfl⟩, takeS⟩)
theorem sp_Start_busy {B : Base} {q : Nat} {h : Hd} {f t me to id : Int} : (h.sh = true ∧ to ≠ me) → Fn PP B N.give_Start [.pointer (some ⟨q, 0, none⟩), .agg #[.int .u64 f, .int .u64 t], .int .i64 me, .int .i64 to, .int .i64 id] [pts q 0 (hdC h)]
    (fun v L => v = .tuple #[.pointer none, .slice none 0 0, .int .i64 7] ∧ L = [pts q 0 (hdC h)]) := by
  rintro ⟨hs, hne⟩
  refine Fn_of N.give_Start_f rfl rfl fun fr => ?_
  try dsimp only [List.append_eq, List.cons_append, List.nil_append]
  repeat' (first | refine T_seq ?_ | refine T_regionR Tt (by kernel_rfl) ?_ | refine T_drawR Tt N.give_Start_d mixed (by kernel_rfl) ?_ | refine W_go Tt rfl ?_ | refine W_nil ?_ | refine T_cond_true rfl ?_ | refine T_cond_false rfl ?_ | refine T_skip ?_ | refine T_ret ?_ | with_reducible refine R_then ?_ | with_reducible refine R_norm ?_ | refine A_cmpT Tt ?_ | refine A_cmpF Tt ?_ | refine A_cmpY Tt ?_ | refine A_cmpN Tt ?_ | (refine A_cmp Tt ?_ ?_ <;> intro hc) | refine A_skip Tt ?_ | refine A_ldPts Tt ?_ | refine A_ldSl Tt ?_ | refine A_arr Tt ?_ | refine A_el Tt ?_ | refine A_el1 Tt ?_ | refine A_el2 Tt ?_ | refine A_store Tt ?_ | (refine A_box Tt ?_; intro b) | (refine A_alloc Tt ?_; intro b) | (refine A_mk Tt ?_; intro b) | (refine A_call Tt N.hold_Hold_Freeze_is (sp_Freeze_busy) (hs) ?_; rintro v L ⟨rfl, rfl⟩ <;> dsimp only [List.cons_append, List.nil_append]) | fail)
  (change bodyQ PP _ [fr] _ _ _ _ _; refine ⟨rfl, _, _, _, (.tmp (.tmp (.tmp .nil))), ⟨rfl, rfl⟩, takeS⟩)
theorem sp_Start_arg {B : Base} {q : Nat} {h : Hd} {f t me to id : Int} : (to ≠ me ∧ h.sh = false ∧ wf h.oa h.ow.length h.oc ∧ h.ow.length < 1099511627776 ∧ Hok h.ow ∧ U f ∧ U t ∧ ∃ y, U y ∧ inPs (pieces f t) y ∧ pieceAt h.ow y = none) →
    Fn PP B N.give_Start [.pointer (some ⟨q, 0, none⟩), .agg #[.int .u64 f, .int .u64 t], .int .i64 me, .int .i64 to, .int .i64 id] [pts q 0 (hdC h), sl h.oa h.ow.length h.oc 4 (flat ownC h.ow)]
    (fun v L => v = .tuple #[.pointer none, .slice none 0 0, .int .i64 1] ∧ L = [pts q 0 (hdC h), sl h.oa h.ow.length h.oc 4 (flat ownC h.ow)]) := by
  rintro ⟨hne, hh⟩
  refine Fn_of N.give_Start_f rfl rfl fun fr => ?_
  try dsimp only [List.append_eq, List.cons_append, List.nil_append]
  repeat' (first | refine T_seq ?_ | refine T_regionR Tt (by kernel_rfl) ?_ | refine T_drawR Tt N.give_Start_d mixed (by kernel_rfl) ?_ | refine W_go Tt rfl ?_ | refine W_nil ?_ | refine T_cond_true rfl ?_ | refine T_cond_false rfl ?_ | refine T_skip ?_ | refine T_ret ?_ | with_reducible refine R_then ?_ | with_reducible refine R_norm ?_ | refine A_cmpT Tt ?_ | refine A_cmpF Tt ?_ | refine A_cmpY Tt ?_ | refine A_cmpN Tt ?_ | (refine A_cmp Tt ?_ ?_ <;> intro hc) | refine A_skip Tt ?_ | refine A_ldPts Tt ?_ | refine A_ldSl Tt ?_ | refine A_arr Tt ?_ | refine A_el Tt ?_ | refine A_el1 Tt ?_ | refine A_el2 Tt ?_ | refine A_store Tt ?_ | (refine A_box Tt ?_; intro b) | (refine A_alloc Tt ?_; intro b) | (refine A_mk Tt ?_; intro b) | (refine A_call Tt N.hold_Hold_Freeze_is (sp_Freeze_arg) (hh) ?_; rintro v L ⟨rfl, rfl⟩ <;> dsimp only [List.cons_append, List.nil_append]) | fail)
  (change bodyQ PP _ [fr] _ _ _ _ _; refine ⟨rfl, _, _, _, (.tmp (.tmp (.tmp .nil))), ⟨rfl, rfl⟩, takeS⟩)
/-- Of nothing. -/
theorem sp_Start_nil {B : Base} {q : Nat} {h : Hd} {f t me to id m : Int} {l : List It} : (to ≠ me ∧ arcL f t l = [] ∧ h.sh = false ∧ l.length ≤ 200 ∧ wf h.oa h.ow.length h.oc ∧ h.ow.length < 1099511627776 ∧ Hok h.ow ∧ U f ∧ U t ∧ ∀ y, U y → inPs (pieces f t) y → (pieceAt h.ow y).isSome = true) →
    Fn PP B N.give_Start [.pointer (some ⟨q, 0, none⟩), .agg #[.int .u64 f, .int .u64 t], .int .i64 me, .int .i64 to, .int .i64 id] [pts q 0 (hdC h), sl h.oa h.ow.length h.oc 4 (flat ownC h.ow), shP h.sp m l]
    (fun v L => ∃ (g lb : Nat) (e : Int), v = .tuple #[.pointer (some ⟨g, 0, none⟩), .slice (some ⟨lb, 0, none⟩) 1 1, .int .i64 0] ∧ Cov h.ow (inPs (pieces f t)) e ∧
      L = [pts q 0 (hdC { h with sh := true, gf := f, gt := t }), sl h.oa h.ow.length h.oc 4 (flat ownC h.ow), shP h.sp m l,
        pts g 0 (gvC ⟨.pointer (some ⟨q, 0, none⟩), f, t, wr .i64 (e + 1), me, to, id, 1, .slice none 0 0, 0⟩), sl (some ⟨lb, 0, none⟩) 1 1 21 (flat ltC [{ kind := 10, src := me, to := to, id := id, f := f, t := t, ep := wr .i64 (e + 1), n := 0 }])]) := by
  rintro ⟨hne, hnil, hh⟩
  have hfz := sp_Freeze_ok (B := B) (q := q) (h := h) (f := f) (t := t) (m := m) (l := l) hh
  rw [hnil] at hfz
  refine Fn_of N.give_Start_f rfl rfl fun fr => ?_
  try dsimp only [List.append_eq, List.cons_append, List.nil_append]
  repeat' (first | refine T_seq ?_ | refine T_regionR Tt (by kernel_rfl) ?_ | refine T_drawR Tt N.give_Start_d mixed (by kernel_rfl) ?_ | refine W_go Tt rfl ?_ | refine W_nil ?_ | refine T_cond_true rfl ?_ | refine T_cond_false rfl ?_ | refine T_skip ?_ | refine T_ret ?_ | with_reducible refine R_then ?_ | with_reducible refine R_norm ?_ | refine A_cmpT Tt ?_ | refine A_cmpF Tt ?_ | refine A_cmpY Tt ?_ | refine A_cmpN Tt ?_ | (refine A_cmp Tt ?_ ?_ <;> intro hc) | refine A_skip Tt ?_ | refine A_ldPts Tt ?_ | refine A_ldSl Tt ?_ | refine A_arr Tt ?_ | refine A_el Tt ?_ | refine A_el1 Tt ?_ | refine A_el2 Tt ?_ | refine A_store Tt ?_ | (refine A_box Tt ?_; intro b) | (refine A_alloc Tt ?_; intro b) | (refine A_mk Tt ?_; intro b) | (refine A_call Tt N.hold_Hold_Freeze_is (fun _ => hfz) (trivial) ?_; rintro v L ⟨ia, ic, e, hw, rfl, hcov, rfl⟩ <;> dsimp only [List.cons_append, List.nil_append]) | (refine A_call Tt N.cut_Chunks_is (sp_Chunks_nil) (trivial) ?_; rintro v L ⟨rfl, rfl⟩ <;> dsimp only [List.cons_append, List.nil_append]) | (refine A_call Tt N.give_Give_letter_is (sp_give_letter (g := ⟨.pointer (some ⟨q, 0, none⟩), f, t, wr .i64 (e + 1), me, to, id, 1, .slice none 0 0, 0⟩)) (trivial) ?_; rintro v L ⟨rfl, rfl⟩ <;> dsimp only [List.cons_append, List.nil_append]) | fail)
  (change bodyQ PP _ [fr] _ _ _ _ _; refine ⟨rfl, _, _, _, (.tmp (.tmp (.tmp .nil))), ⟨_, _, e, rfl, hcov, rfl⟩, takeS⟩)
theorem sp_left {B : Base} {g : Nat} : True → Fn PP B N.give_Give_left [.pointer (some ⟨g, 0, none⟩)] [] (fun v L => ∃ b : Nat, v = .func (.func N.give_Give_left_1) #[] #[.pointer (some ⟨b, 0, none⟩)] ∧ L = [pts b 0 [.pointer (some ⟨g, 0, none⟩)]]) := by
  intro _
  refine Fn_of N.give_Give_left_f rfl rfl fun fr => ?_
  try dsimp only [List.append_eq, List.cons_append, List.nil_append]
  repeat' (first | refine T_seq ?_ | refine T_regionR Tt (by kernel_rfl) ?_ | refine W_go Tt rfl ?_ | refine W_nil ?_ | refine T_ret ?_ | with_reducible refine R_then ?_ | with_reducible refine R_norm ?_ | (refine A_box Tt ?_; intro b) | fail)
  (change bodyQ PP _ [fr] _ _ _ _ _; refine ⟨rfl, _, _, _, (.tmp .nil), ⟨_, rfl, rfl⟩, takeS⟩)
theorem iter_left_nil {B : Base} {gb bb n cc : Nat} {ca : Option Addr} {h : Value} {f t ep me to id step went : Int} (hw : n ≤ went) :
    Iter PP B N.give_Give_left_1 #[] #[.pointer (some ⟨bb, 0, none⟩)] (fun (_ : Unit) _ _ => False) () [pts bb 0 [.pointer (some ⟨gb, 0, none⟩)], pts gb 0 (gvC ⟨h, f, t, ep, me, to, id, step, .slice ca n cc, went⟩)]
      (fun _ A' => A' = [pts gb 0 (gvC ⟨h, f, t, ep, me, to, id, step, .slice ca n cc, went⟩)]) (fun _ _ => False) := by
  refine Iter.of fun Y J X hY => ?_
  refine Fn.mono (Ps := fun v L => v = .tuple #[] ∧ L = [pts gb 0 (gvC ⟨h, f, t, ep, me, to, id, step, .slice ca n cc, went⟩), J ()]) ?_ (fun v L hx => ⟨[pts gb 0 (gvC ⟨h, f, t, ep, me, to, id, step, .slice ca n cc, went⟩)], (), .inl ⟨rfl, hx.2⟩⟩)
  refine Fn_of N.give_Give_left_1_f rfl rfl fun fr => ?_
  try dsimp only [List.append_eq, List.cons_append, List.nil_append]
  repeat' (first | refine T_seq ?_ | refine T_regionR Tt (by kernel_rfl) ?_ | refine W_go Tt rfl ?_ | refine W_nil ?_ | refine T_cond_true rfl ?_ | refine T_cond_false rfl ?_ | refine T_skip ?_ | refine T_ret ?_ | refine T_exit ?_ | refine T_block ?_ | with_reducible refine R_block ?_ | with_reducible refine R_then ?_ | with_reducible refine R_norm ?_ | with_reducible refine R_exitEq ?_ | refine R_exitNe ?_ | with_reducible refine R_thenX ?_ | with_reducible refine R_scopeX ?_ | with_reducible refine R_blockN ?_ | refine A_cmpT Tt ?_ | refine A_cmpF Tt ?_ | (refine A_cmp Tt ?_ ?_ <;> intro hc) | refine A_ldPts Tt ?_ | refine A_ldSl Tt ?_ | refine S_ix Tt ?_ | refine S_ixA Tt ?_ | refine A_el Tt ?_ | refine A_el1 Tt ?_ | refine A_el2 Tt ?_ | fail)
  refine T_loopE (X := Unit) (fun _ => [(1, .pointer (some ⟨bb, 0, none⟩)), (3, .int .i64 went)]) (fun _ => [pts bb 0 [.pointer (some ⟨gb, 0, none⟩)], pts gb 0 (gvC ⟨h, f, t, ep, me, to, id, step, .slice ca n cc, went⟩), J (), fr]) (fun _ => 0) (fun _ => True) () trivial (by exact ⟨rfl, rfl, trivial⟩) takeS ?_
  rintro - d -
  repeat' (first | refine T_seq ?_ | refine T_regionR Tt (by kernel_rfl) ?_ | refine W_go Tt rfl ?_ | refine W_nil ?_ | refine T_cond_true rfl ?_ | refine T_cond_false rfl ?_ | refine T_skip ?_ | refine T_ret ?_ | refine T_exit ?_ | refine T_block ?_ | with_reducible refine R_block ?_ | with_reducible refine R_then ?_ | with_reducible refine R_norm ?_ | with_reducible refine R_exitEq ?_ | refine R_exitNe ?_ | with_reducible refine R_thenX ?_ | with_reducible refine R_scopeX ?_ | with_reducible refine R_blockN ?_ | refine A_cmpT Tt ?_ | refine A_cmpF Tt ?_ | refine A_cmpY Tt ?_ | refine A_cmpN Tt ?_ | (refine A_cmp Tt ?_ ?_ <;> intro hc) | refine A_ldPts Tt ?_ | refine A_ldSl Tt ?_ | refine S_ix Tt ?_ | refine S_ixA Tt ?_ | refine A_el Tt ?_ | refine A_el1 Tt ?_ | refine A_el2 Tt ?_ | fail)
  (change bodyQ PP _ [fr] _ _ _ _ _; refine ⟨rfl, _, _, _, .nil, ⟨rfl, rfl⟩, takeS⟩)
/-- Nothing is left: the commit. -/
theorem sp_next_commit {B : Base} {gb n cc : Nat} {ca : Option Addr} {h : Value} {f t ep me to id step went : Int} : (n ≤ went) → Fn PP B N.give_Give_next [.pointer (some ⟨gb, 0, none⟩)] [pts gb 0 (gvC ⟨h, f, t, ep, me, to, id, step, .slice ca n cc, went⟩)]
    (fun v L => ∃ lb : Nat, v = .slice (some ⟨lb, 0, none⟩) 1 1 ∧ L = [pts gb 0 (gvC ⟨h, f, t, ep, me, to, id, 3, .slice ca n cc, went⟩), sl (some ⟨lb, 0, none⟩) 1 1 21 (flat ltC [{ kind := 14, src := me, to := to, id := id, f := f, t := t, ep := ep }])]) := by
  intro hw
  refine Fn_ofM N.give_Give_next_f rfl rfl fun fr => ?_
  try dsimp only [List.append_eq, List.cons_append, List.nil_append]
  repeat' (first | refine T_seq ?_ | refine T_regionR Tt (by kernel_rfl) ?_ | refine T_drawR Tt N.give_Give_next_d mixed (by kernel_rfl) ?_ | refine W_go Tt rfl ?_ | refine W_nil ?_ | refine T_ret ?_ | refine T_block ?_ | with_reducible refine R_block ?_ | with_reducible refine R_then ?_ | with_reducible refine R_norm ?_ | with_reducible refine R_blockN ?_ | refine A_ldPts Tt ?_ | refine A_ldSl Tt ?_ | refine A_el Tt ?_ | refine A_el1 Tt ?_ | refine A_el2 Tt ?_ | refine A_store Tt ?_ | (refine A_box Tt ?_; intro b) | (refine A_alloc Tt ?_; intro b) | (refine A_mk Tt ?_; intro b) | (refine A_app Tt ?_; intro a cp hwf) | (refine A_appNil Tt ?_; intro a cp hwf) | (refine A_call Tt N.give_Give_left_is (sp_left (g := gb)) (trivial) ?_; rintro v L ⟨bb, rfl, rfl⟩ <;> dsimp only [List.cons_append, List.nil_append]) | fail)
  rename_i b1
  obtain ⟨rb, hrb⟩ : ∃ x, x = b := ⟨_, rfl⟩
  subst hrb
  refine T_rangeFunc (J := fun _ => []) (Jx := fun _ _ => []) (A := [pts bb 0 [.pointer (some ⟨gb, 0, none⟩)], pts gb 0 (gvC ⟨h, f, t, ep, me, to, id, step, .slice ca n cc, went⟩)]) rfl N.give_Give_left_1_is (by decide) (fun _ _ _ h => h.elim) takeS (iter_left_nil hw) (fun _ _ _ _ _ _ h => h.elim) ?_ (fun _ _ _ _ h => h.elim)
  rintro D - A' rfl
  dsimp only [List.cons_append, List.nil_append]
  repeat' (first | refine T_seq ?_ | refine T_regionR Tt (by kernel_rfl) ?_ | refine T_drawR Tt N.give_Give_next_d mixed (by kernel_rfl) ?_ | refine W_go Tt rfl ?_ | refine W_nil ?_ | refine T_ret ?_ | refine T_block ?_ | with_reducible refine R_block ?_ | with_reducible refine R_then ?_ | with_reducible refine R_norm ?_ | with_reducible refine R_blockN ?_ | refine A_ldPts Tt ?_ | refine A_ldSl Tt ?_ | refine A_el Tt ?_ | refine A_el1 Tt ?_ | refine A_el2 Tt ?_ | refine A_store Tt ?_ | (refine A_box Tt ?_; intro b) | (refine A_alloc Tt ?_; intro b) | (refine A_mk Tt ?_; intro b) | (refine A_app Tt ?_; intro a cp hwf) | (refine A_appNil Tt ?_; intro a cp hwf) | (refine A_call Tt N.give_Give_letter_is (sp_give_letter (g := ⟨h, f, t, ep, me, to, id, 3, .slice ca n cc, went⟩)) (trivial) ?_; rintro v L ⟨rfl, rfl⟩ <;> dsimp only [List.cons_append, List.nil_append]) | fail)
  (change bodyQM PP _ [fr] _ _ _ _ _; refine ⟨[D], _, rfl, takeS, _, _, _, (ResL_cell Tt .nil), ⟨_, rfl, rfl⟩, takeS⟩)
theorem sp_over {B : Base} {gb : Nat} {g : Gv} : True → Fn PP B N.give_Give_over [.pointer (some ⟨gb, 0, none⟩)] [pts gb 0 (gvC g)] (fun v L => ∃ q : Bool, v = .bool q ∧ (q = true ↔ g.step = 4 ∨ g.step = 5) ∧ L = [pts gb 0 (gvC g)]) := by
  intro _
  refine Fn_of N.give_Give_over_f rfl rfl fun fr => ?_
  try dsimp only [List.append_eq, List.cons_append, List.nil_append]
  repeat' (first | refine T_seq ?_ | refine T_regionR Tt (by kernel_rfl) ?_ | refine W_go Tt rfl ?_ | refine W_nil ?_ | refine T_ret ?_ | with_reducible refine R_then ?_ | with_reducible refine R_norm ?_ | refine A_cmpT Tt ?_ | refine A_cmpF Tt ?_ | (refine A_cmp Tt ?_ ?_ <;> intro hc) | refine A_skip Tt ?_ | refine A_ldPts Tt ?_ | refine A_ldSl Tt ?_ | refine A_el Tt ?_ | refine A_el1 Tt ?_ | refine A_el2 Tt ?_ | fail)
  all_goals
    (change bodyQ PP _ [fr] _ _ _ _ _; refine ⟨rfl, _, _, _, (.tmp .nil), ⟨_, rfl, by simp; omega, rfl⟩, takeS⟩)
theorem sp_over_yes {B : Base} {gb : Nat} {g : Gv} : (g.step = 4 ∨ g.step = 5) → Fn PP B N.give_Give_over [.pointer (some ⟨gb, 0, none⟩)] [pts gb 0 (gvC g)] (fun v L => v = .bool true ∧ L = [pts gb 0 (gvC g)]) := fun h =>
  (sp_over trivial).mono fun v L ⟨q, h1, h2, h3⟩ => ⟨by rw [h1, h2.2 h], h3⟩
theorem sp_over_no {B : Base} {gb : Nat} {g : Gv} : ¬ (g.step = 4 ∨ g.step = 5) → Fn PP B N.give_Give_over [.pointer (some ⟨gb, 0, none⟩)] [pts gb 0 (gvC g)] (fun v L => v = .bool false ∧ L = [pts gb 0 (gvC g)]) := fun h =>
  (sp_over trivial).mono fun v L ⟨q, h1, h2, h3⟩ => ⟨by cases q with | false => exact h1 | true => exact absurd (h2.1 rfl) h, h3⟩
/-- The answer to a yes, where nothing is to be sent. -/
theorem sp_Got_commit {B : Base} {gb n cc : Nat} {ca : Option Addr} {h : Value} {f t ep me to id went : Int} {x : Lt} : (n ≤ went ∧ x.src = to ∧ x.id = id ∧ x.kind = 11 ∧ x.n = 1) →
    Fn PP B N.give_Give_Got [.pointer (some ⟨gb, 0, none⟩), ltV x] [pts gb 0 (gvC ⟨h, f, t, ep, me, to, id, 1, .slice ca n cc, went⟩)]
    (fun v L => ∃ lb : Nat, v = .tuple #[.slice (some ⟨lb, 0, none⟩) 1 1, .bool false] ∧ L = [pts gb 0 (gvC ⟨h, f, t, ep, me, to, id, 3, .slice ca n cc, went⟩), sl (some ⟨lb, 0, none⟩) 1 1 21 (flat ltC [{ kind := 14, src := me, to := to, id := id, f := f, t := t, ep := ep }])]) := by
  rintro ⟨hw, h1, h2, h3, h4⟩
  refine Fn_of N.give_Give_Got_f rfl rfl fun fr => ?_
  try dsimp only [List.append_eq, List.cons_append, List.nil_append]
  repeat' (first | refine T_seq ?_ | refine T_regionR Tt (by kernel_rfl) ?_ | refine T_drawR Tt N.give_Give_Got_d mixed (by kernel_rfl) ?_ | refine W_go Tt rfl ?_ | refine W_nil ?_ | refine T_cond_true rfl ?_ | refine T_cond_false rfl ?_ | refine T_skip ?_ | refine T_ret ?_ | refine T_block ?_ | with_reducible refine R_block ?_ | with_reducible refine R_then ?_ | with_reducible refine R_norm ?_ | with_reducible refine R_blockN ?_ | refine A_cmpT Tt ?_ | refine A_cmpF Tt ?_ | refine A_cmpY Tt ?_ | refine A_cmpN Tt ?_ | (refine A_cmp Tt ?_ ?_ <;> intro hc) | refine A_skip Tt ?_ | refine A_ldPts Tt ?_ | refine A_ldSl Tt ?_ | refine A_el Tt ?_ | refine A_el1 Tt ?_ | refine A_el2 Tt ?_ | refine A_store Tt ?_ | (refine A_box Tt ?_; intro b) | (refine A_call Tt N.give_Give_next_is (sp_next_commit) (hw) ?_; rintro v L ⟨lb, rfl, rfl⟩ <;> dsimp only [List.cons_append, List.nil_append]) | (refine A_call Tt N.give_Give_over_is (sp_over_no (g := ⟨h, f, t, ep, me, to, id, 3, .slice ca n cc, went⟩)) ((by simp)) ?_; rintro v L ⟨rfl, rfl⟩ <;> dsimp only [List.cons_append, List.nil_append]) | fail)
  (change bodyQ PP _ [fr] _ _ _ _ _; refine ⟨rfl, _, _, _, (.tmp (.tmp .nil)), ⟨_, rfl, rfl⟩, takeS⟩)
/-- It is done: all that was given goes. -/
theorem sp_Got_done {B : Base} {gb q n : Nat} {hd : Hd} {m : Int} {l : List It} {ga : Option Addr} {gc : Nat} {us : List Value} {ch : Value} {f t ep me to id went : Int} {x : Lt} :
    ((hd.sh = true ∧ hd.gp = .slice ga n gc ∧ n ≤ 100000 ∧ wf hd.oa hd.ow.length hd.oc ∧ hd.ow.length ≤ 10000 ∧ Srt l ∧ l.length ≤ 200 ∧ U hd.gf ∧ U hd.gt ∧ (arcL hd.gf hd.gt l ≠ [] → DelSp B)) ∧ x.src = to ∧ x.id = id ∧ x.kind = 15) →
    Fn PP B N.give_Give_Got [.pointer (some ⟨gb, 0, none⟩), ltV x] [pts gb 0 (gvC ⟨.pointer (some ⟨q, 0, none⟩), f, t, ep, me, to, id, 3, ch, went⟩), pts q 0 (hdC hd), sl hd.oa hd.ow.length hd.oc 4 (flat ownC hd.ow), shP hd.sp m l, sl ga n gc 4 us]
    (fun v L => ∃ oa oc ga' gc', wf oa (lossL hd.ow hd.gf hd.gt).length oc ∧ wf ga' (n + 1) gc' ∧ v = .tuple #[.slice none 0 0, .bool true] ∧
      L = [pts gb 0 (gvC ⟨.pointer (some ⟨q, 0, none⟩), f, t, ep, me, to, id, 4, ch, went⟩), pts q 0 (hdC { hd with oa := oa, oc := oc, ow := lossL hd.ow hd.gf hd.gt, sh := false, gf := 0, gt := 0, gp := .slice ga' (n + 1) gc' }), sl oa (lossL hd.ow hd.gf hd.gt).length oc 4 (flat ownC (lossL hd.ow hd.gf hd.gt)), shP hd.sp m (outL l (arcL hd.gf hd.gt l)), sl ga' (n + 1) gc' 4 (us ++ gpC ⟨hd.gf, hd.gt, to, 0⟩)]) := by
  rintro ⟨hh, h1, h2, h3⟩
  refine Fn_of N.give_Give_Got_f rfl rfl fun fr => ?_
  try dsimp only [List.append_eq, List.cons_append, List.nil_append]
  repeat' (first | refine T_seq ?_ | refine T_regionR Tt (by kernel_rfl) ?_ | refine T_drawR Tt N.give_Give_Got_d mixed (by kernel_rfl) ?_ | refine W_go Tt rfl ?_ | refine W_nil ?_ | refine T_cond_true rfl ?_ | refine T_cond_false rfl ?_ | refine T_skip ?_ | refine T_ret ?_ | refine T_block ?_ | with_reducible refine R_block ?_ | with_reducible refine R_then ?_ | with_reducible refine R_norm ?_ | with_reducible refine R_blockN ?_ | refine A_cmpT Tt ?_ | refine A_cmpF Tt ?_ | refine A_cmpY Tt ?_ | refine A_cmpN Tt ?_ | (refine A_cmp Tt ?_ ?_ <;> intro hc) | refine A_skip Tt ?_ | refine A_ldPts Tt ?_ | refine A_ldSl Tt ?_ | refine A_el Tt ?_ | refine A_el1 Tt ?_ | refine A_el2 Tt ?_ | refine A_store Tt ?_ | (refine A_box Tt ?_; intro b) | (refine A_call Tt N.hold_Hold_Lose_is (sp_Lose (h := hd) (m := m) (l := l) (ga := ga) (gc := gc) (n := n) (us := us)) (hh) ?_; rintro v L ⟨oa, oc, ga', gc', hw1, hw2, rfl, rfl⟩ <;> dsimp only [List.cons_append, List.nil_append]) | (refine A_call Tt N.give_Give_over_is (sp_over_yes (g := ⟨.pointer (some ⟨q, 0, none⟩), f, t, ep, me, to, id, 4, ch, went⟩)) ((.inl rfl)) ?_; rintro v L ⟨rfl, rfl⟩ <;> dsimp only [List.cons_append, List.nil_append]) | fail)
  (change bodyQ PP _ [fr] _ _ _ _ _; refine ⟨rfl, _, _, _, (.tmp (.tmp .nil)), ⟨oa, oc, ga', gc', hw1, hw2, rfl, rfl⟩, takeS⟩)
end Go.Rz


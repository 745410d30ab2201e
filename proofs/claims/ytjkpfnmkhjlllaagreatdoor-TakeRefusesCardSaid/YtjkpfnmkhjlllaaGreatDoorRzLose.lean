/- cut: Out; hold: Lose. -/
import Derived.Test.YtjkpfnmkhjlllaaGreatDoorRzLess
set_option linter.unusedVariables false
set_option linter.unusedSimpArgs false
open Go Go.Rz
set_option maxRecDepth 4000
namespace Go.Rz
def DelSp (B : Base) : Prop := ∀ {s : Nat} {most : Int} {l : List It} {k : ByteArray}, (Srt l ∧ l.length ≤ 200) → Fn PP B N.shelf_Shelf_Del [.pointer (some ⟨s, 0, none⟩), .string k] [shP s most l]
  (fun v L => ∃ q : Bool, v = .bool q ∧ (q = true ↔ hasL l k) ∧ L = [shP s most (delL l k)])
/-- Without the items of a list. -/
def outL (l : List It) (m : List It) : List It := m.foldl (fun l x => delL l x.k) l
theorem outL_srt {l : List It} (h : Srt l) : ∀ m : List It, Srt (outL l m) ∧ (outL l m).length ≤ l.length := by
  intro m
  induction m generalizing l with
  | nil => exact ⟨h, Nat.le_refl _⟩
  | cons x m ih =>
    have := ih (h.del x.k)
    exact ⟨this.1, Nat.le_trans this.2 (List.length_filter_le ..)⟩
theorem outL_take {l m : List It} {i : Nat} {x : It} (h : m[i]? = some x) : outL l (m.take (i + 1)) = delL (outL l (m.take i)) x.k := by
  unfold outL; rw [List.take_add_one, h]; simp [List.foldl_append]
theorem sp_Out {B : Base} {s : Nat} {most f t : Int} {l : List It} : (Srt l ∧ l.length ≤ 200 ∧ U f ∧ U t ∧ (arcL f t l ≠ [] → DelSp B)) → Fn PP B N.cut_Out [.pointer (some ⟨s, 0, none⟩), .agg #[.int .u64 f, .int .u64 t]] [shP s most l]
    (fun v L => ∃ a cap, wf a (arcL f t l).length cap ∧ v = .slice a (arcL f t l).length cap ∧ L = [shP s most (outL l (arcL f t l)), sl a (arcL f t l).length cap 2 (flat itC (arcL f t l))]) := by
  rintro ⟨hsr, hl, hf, ht, hd⟩
  have hle := arcL_le f t l
  refine Fn_of N.cut_Out_f rfl rfl fun fr => ?_
  try dsimp only [List.append_eq, List.cons_append, List.nil_append]
  repeat' (first | refine T_seq ?_ | refine T_regionR Tt (by kernel_rfl) ?_ | refine W_go Tt rfl ?_ | refine W_nil ?_ | refine T_cond_true rfl ?_ | refine T_cond_false rfl ?_ | refine T_skip ?_ | refine T_ret ?_ | refine T_exit ?_ | refine T_block ?_ | with_reducible refine R_block ?_ | with_reducible refine R_then ?_ | with_reducible refine R_norm ?_ | with_reducible refine R_exitEq ?_ | refine R_exitNe ?_ | with_reducible refine R_thenX ?_ | with_reducible refine R_scopeX ?_ | with_reducible refine R_blockN ?_ | refine A_cmpT Tt ?_ | refine A_cmpF Tt ?_ | (refine A_cmp Tt ?_ ?_ <;> intro hc) | refine A_ldPts Tt ?_ | refine A_ldSl Tt ?_ | refine S_ix Tt ?_ | refine S_ixA Tt ?_ | refine A_el Tt ?_ | refine A_el1 Tt ?_ | refine A_el2 Tt ?_ | refine A_store Tt ?_ | refine A_stEl Tt ?_ | (refine A_box Tt ?_; intro b) | (refine A_alloc Tt ?_; intro b) | (refine A_call Tt N.walk_Arc_is (sp_walk_Arc) (trivial) ?_; rintro v L ⟨b1, b2, rfl, rfl⟩ <;> dsimp only [List.cons_append, List.nil_append]) | (refine A_call Tt N.walk_Collect_is (sp_Collect_Arc) (⟨hl, hf, ht⟩) ?_; rintro v L ⟨ia, ic, hw, rfl, rfl⟩ <;> dsimp only [List.cons_append, List.nil_append]) | fail)
  refine T_loopE (X := Nat) (fun i => [(0, .pointer (some ⟨s, 0, none⟩)), (5, .slice ia (arcL f t l).length ic), (12, .slice ia (arcL f t l).length ic), (13, .int .i64 (arcL f t l).length), (14, .int .i64 i)])
    (fun i => [shP s most (outL l ((arcL f t l).take i)), sl ia (arcL f t l).length ic 2 (flat itC (arcL f t l)), fr]) (fun i => (arcL f t l).length + 1 - i) (fun i => i ≤ (arcL f t l).length) 0 (by omega) (by exact ⟨rfl, rfl, rfl, rfl, rfl, trivial⟩) takeS ?_
  rintro i d hi
  by_cases hlt : i < (arcL f t l).length
  · rcases hw with ⟨rfl, h0, rfl⟩ | ⟨ib, off, rfl, hcap⟩
    · omega
    obtain ⟨x, hx⟩ : ∃ x, (arcL f t l)[i]? = some x := ⟨_, List.getElem?_eq_getElem hlt⟩
    have hds : DelSp B := hd (fun h => by rw [h] at hlt; simp at hlt)
    have hos := outL_srt hsr ((arcL f t l).take i)
    repeat' (first | refine T_seq ?_ | refine T_regionR Tt (by kernel_rfl) ?_ | refine W_go Tt rfl ?_ | refine W_nil ?_ | refine T_cond_true rfl ?_ | refine T_cond_false rfl ?_ | refine T_skip ?_ | refine T_ret ?_ | refine T_exit ?_ | refine T_block ?_ | with_reducible refine R_block ?_ | with_reducible refine R_then ?_ | with_reducible refine R_norm ?_ | with_reducible refine R_exitEq ?_ | refine R_exitNe ?_ | with_reducible refine R_thenX ?_ | with_reducible refine R_scopeX ?_ | with_reducible refine R_blockN ?_ | refine A_cmpT Tt ?_ | refine A_cmpF Tt ?_ | refine A_cmpY Tt ?_ | refine A_cmpN Tt ?_ | (refine A_cmp Tt ?_ ?_ <;> intro hc) | refine A_ldPts Tt ?_ | refine A_ldSl Tt ?_ | refine S_ix Tt ?_ | refine S_ixA Tt ?_ | refine A_el Tt ?_ | refine A_el1 Tt ?_ | refine A_el2 Tt ?_ | refine A_store Tt ?_ | refine A_stEl Tt ?_ | (refine A_box Tt ?_; intro b) | (refine A_alloc Tt ?_; intro b) | (refine A_call Tt N.shelf_Shelf_Del_is (hds) (⟨hos.1, by omega⟩) ?_; rintro v L ⟨dq, rfl, -, rfl⟩ <;> dsimp only [List.cons_append, List.nil_append]) | fail)
    refine ⟨rfl, i + 1, by omega, by omega, ⟨rfl, rfl, rfl, rfl, inc_ok (by omega), trivial⟩, ?_⟩
    rw [outL_take hx]; exact ⟨_, takeS⟩
  · have hie : i = (arcL f t l).length := by omega
    subst hie
    rw [List.take_length]
    repeat' (first | refine T_seq ?_ | refine T_regionR Tt (by kernel_rfl) ?_ | refine W_go Tt rfl ?_ | refine W_nil ?_ | refine T_cond_true rfl ?_ | refine T_cond_false rfl ?_ | refine T_skip ?_ | refine T_ret ?_ | refine T_exit ?_ | refine T_block ?_ | with_reducible refine R_block ?_ | with_reducible refine R_then ?_ | with_reducible refine R_norm ?_ | with_reducible refine R_exitEq ?_ | refine R_exitNe ?_ | with_reducible refine R_thenX ?_ | with_reducible refine R_scopeX ?_ | with_reducible refine R_blockN ?_ | refine A_cmpT Tt ?_ | refine A_cmpF Tt ?_ | refine A_cmpY Tt ?_ | refine A_cmpN Tt ?_ | (refine A_cmp Tt ?_ ?_ <;> intro hc) | refine A_ldPts Tt ?_ | refine A_ldSl Tt ?_ | refine S_ix Tt ?_ | refine S_ixA Tt ?_ | refine A_el Tt ?_ | refine A_el1 Tt ?_ | refine A_el2 Tt ?_ | refine A_store Tt ?_ | refine A_stEl Tt ?_ | (refine A_box Tt ?_; intro b) | (refine A_alloc Tt ?_; intro b) | fail)
    (change bodyQ PP _ [fr] _ _ _ _ _; refine ⟨rfl, _, _, _, (.tmp .nil), ⟨ia, ic, hw, rfl, rfl⟩, takeS⟩)

/-- What is owned, without a piece; without an arc. -/
noncomputable def lossP (ow : List Ow) (p : Int × Int) : List Ow := ow.flatMap fun o => lessL o p.1 p.2
noncomputable def lossL (ow : List Ow) (f t : Int) : List Ow := (pieces f t).foldl lossP ow
theorem lessL_le (o : Ow) (f t : Int) : (lessL o f t).length ≤ 2 := by
  unfold lessL
  split
  · simp
  · split <;> split <;> simp
theorem lossP_le (p : Int × Int) : ∀ ow : List Ow, (lossP ow p).length ≤ 2 * ow.length
  | [] => by simp [lossP]
  | o :: ow => by
    have h1 := lossP_le p ow
    have h2 := lessL_le o p.1 p.2
    unfold lossP at *
    simp only [List.flatMap_cons, List.length_append, List.length_cons]
    omega
structure LX where
  i : Nat
  a : Option Addr
  cp : Nat
  n : Nat
  us : List Value
theorem sp_Lose {B : Base} {q n : Nat} {h : Hd} {to m : Int} {l : List It} {ga : Option Addr} {gc : Nat} {us : List Value} :
    (h.sh = true ∧ h.gp = .slice ga n gc ∧ n ≤ 100000 ∧ wf h.oa h.ow.length h.oc ∧ h.ow.length ≤ 10000 ∧ Srt l ∧ l.length ≤ 200 ∧ U h.gf ∧ U h.gt ∧ (arcL h.gf h.gt l ≠ [] → DelSp B)) →
    Fn PP B N.hold_Hold_Lose [.pointer (some ⟨q, 0, none⟩), .int .i64 to] [pts q 0 (hdC h), sl h.oa h.ow.length h.oc 4 (flat ownC h.ow), shP h.sp m l, sl ga n gc 4 us]
    (fun v L => ∃ oa oc ga' gc', wf oa (lossL h.ow h.gf h.gt).length oc ∧ wf ga' (n + 1) gc' ∧ v = .int .i64 0 ∧
      L = [pts q 0 (hdC { h with oa := oa, oc := oc, ow := lossL h.ow h.gf h.gt, sh := false, gf := 0, gt := 0, gp := .slice ga' (n + 1) gc' }), sl oa (lossL h.ow h.gf h.gt).length oc 4 (flat ownC (lossL h.ow h.gf h.gt)), shP h.sp m (outL l (arcL h.gf h.gt l)), sl ga' (n + 1) gc' 4 (us ++ gpC ⟨h.gf, h.gt, to, 0⟩)]) := by
  obtain ⟨node, most, kept, oa, oc, ow, sp, sh, gf, gt, gp⟩ := h
  rintro ⟨h1, h2, hn, hwf, hlen, hsr, hl, hf, ht, hd⟩
  dsimp only at h1 h2 hwf hlen hf ht hd ⊢
  subst h1; subst h2
  have hpl := pieces_le gf gt
  have hn6 : n ≤ 1000000 := by omega
  refine Fn_of N.hold_Hold_Lose_f rfl rfl fun fr => ?_
  try dsimp only [List.append_eq, List.cons_append, List.nil_append]
  repeat' (first | refine T_seq ?_ | refine T_regionR Tt (by kernel_rfl) ?_ | refine T_drawR Tt N.hold_Hold_Lose_d mixed (by kernel_rfl) ?_ | refine W_go Tt rfl ?_ | refine W_nil ?_ | refine T_cond_true rfl ?_ | refine T_cond_false rfl ?_ | refine T_skip ?_ | refine T_ret ?_ | refine T_exit ?_ | refine T_block ?_ | with_reducible refine R_block ?_ | with_reducible refine R_then ?_ | with_reducible refine R_norm ?_ | with_reducible refine R_exitEq ?_ | refine R_exitNe ?_ | with_reducible refine R_thenX ?_ | with_reducible refine R_scopeX ?_ | with_reducible refine R_blockN ?_ | refine A_cmpT Tt ?_ | refine A_cmpF Tt ?_ | (refine A_cmp Tt ?_ ?_ <;> intro hc) | refine A_ldPts Tt ?_ | refine A_ldSl Tt ?_ | refine S_ix Tt ?_ | refine S_ixA Tt ?_ | refine A_el Tt ?_ | refine A_el1 Tt ?_ | refine A_el2 Tt ?_ | refine A_store Tt ?_ | refine A_stEl Tt ?_ | (refine A_alloc Tt ?_; intro b) | (refine A_app Tt ?_; intro a cp hwf) | (refine A_appNil Tt ?_; intro a cp hwf) | (refine A_call Tt N.gate_Gate_Arc_is (sp_gate_Arc (h := ⟨node, most, kept, oa, oc, ow, sp, true, gf, gt, .slice ga n gc⟩)) (trivial) ?_; rintro v L ⟨rfl, rfl⟩ <;> dsimp only [List.cons_append, List.nil_append]) | (refine A_call Tt N.arc_Pieces_is (sp_pieces) (trivial) ?_; rintro v L ⟨pb, rfl, rfl⟩ <;> dsimp only [List.cons_append, List.nil_append]) | fail)
  obtain ⟨ab, hab⟩ : ∃ x, x = b := ⟨_, rfl⟩
  subst hab
  refine T_loopE (X := LX) (fun x => [(0, .pointer (some ⟨q, 0, none⟩)), (1, .int .i64 to), (5, .pointer (some ⟨ab, 0, none⟩)), (24, .slice (some ⟨pb, 0, none⟩) (pieces gf gt).length (pieces gf gt).length), (25, .int .i64 (pieces gf gt).length), (26, .int .i64 x.i)])
    (fun x => [pts q 0 [.int .i64 node, .int .i64 most, .int .i64 kept, .slice x.a x.n x.cp, .pointer (some ⟨sp, 0, none⟩), .bool true, .int .u64 gf, .int .u64 gt, .slice ga n gc], sl x.a x.n x.cp 4 x.us, pts ab 0 [.int .u64 gf, .int .u64 gt], sl (some ⟨pb, 0, none⟩) (pieces gf gt).length (pieces gf gt).length 2 (flat arcC (pieces gf gt)), shP sp m l, sl ga n gc 4 us, fr])
    (fun x => (pieces gf gt).length + 1 - x.i) (fun x => x.i ≤ (pieces gf gt).length ∧ wf x.a x.n x.cp ∧ x.n = (((pieces gf gt).take x.i).foldl lossP ow).length ∧ x.us = flat ownC (((pieces gf gt).take x.i).foldl lossP ow) ∧ x.n ≤ 2 ^ x.i * 10000)
    ⟨0, oa, oc, ow.length, flat ownC ow⟩ ⟨by simp, hwf, by simp, by simp, by simpa using hlen⟩ (by exact ⟨rfl, rfl, rfl, rfl, rfl, rfl, trivial⟩) takeS ?_
  rintro ⟨i, a, cp, n', us'⟩ d ⟨hi, hw, hn', hu, hbd⟩
  dsimp only at hi hw hn' hu hbd ⊢
  by_cases hlt : i < (pieces gf gt).length
  · obtain ⟨p, hp⟩ : ∃ x, (pieces gf gt)[i]? = some x := ⟨_, List.getElem?_eq_getElem hlt⟩
    obtain ⟨cur, hcur⟩ : ∃ c, c = ((pieces gf gt).take i).foldl lossP ow := ⟨_, rfl⟩
    rw [← hcur] at hn' hu
    have hstep : ((pieces gf gt).take (i + 1)).foldl lossP ow = lossP cur p := by rw [List.take_add_one, hp, hcur]; simp [List.foldl_append]
    have hi2 : 2 ^ i * 10000 ≤ 20000 := by
      have : i = 0 ∨ i = 1 := by omega
      rcases this with rfl | rfl <;> decide
    repeat' (first | refine T_seq ?_ | refine T_regionR Tt (by kernel_rfl) ?_ | refine T_drawR Tt N.hold_Hold_Lose_d mixed (by kernel_rfl) ?_ | refine W_go Tt rfl ?_ | refine W_nil ?_ | refine T_cond_true rfl ?_ | refine T_cond_false rfl ?_ | refine T_skip ?_ | refine T_ret ?_ | refine T_exit ?_ | refine T_block ?_ | with_reducible refine R_block ?_ | with_reducible refine R_then ?_ | with_reducible refine R_norm ?_ | with_reducible refine R_exitEq ?_ | refine R_exitNe ?_ | with_reducible refine R_thenX ?_ | with_reducible refine R_scopeX ?_ | with_reducible refine R_blockN ?_ | refine A_cmpT Tt ?_ | refine A_cmpF Tt ?_ | refine A_cmpY Tt ?_ | refine A_cmpN Tt ?_ | (refine A_cmp Tt ?_ ?_ <;> intro hc) | refine A_ldPts Tt ?_ | refine A_ldSl Tt ?_ | refine S_ix Tt ?_ | refine S_ixA Tt ?_ | refine A_el Tt ?_ | refine A_el1 Tt ?_ | refine A_el2 Tt ?_ | refine A_store Tt ?_ | refine A_stEl Tt ?_ | (refine A_alloc Tt ?_; intro b) | (refine A_app Tt ?_; intro a cp hwf) | (refine A_appNil Tt ?_; intro a cp hwf) | fail)
    refine T_ent (Ent.sl0 (esz := 4)) ?_
    refine T_loopE (X := LX) (fun x => [(0, .pointer (some ⟨q, 0, none⟩)), (1, .int .i64 to), (5, .pointer (some ⟨ab, 0, none⟩)), (8, .pointer (some ⟨b, 0, none⟩)), (9, .slice x.a x.n x.cp), (24, .slice (some ⟨pb, 0, none⟩) (pieces gf gt).length (pieces gf gt).length), (25, .int .i64 (pieces gf gt).length), (26, .int .i64 i), (33, .slice a n' cp), (34, .int .i64 n'), (35, .int .i64 x.i)])
      (fun x => [pts b 0 [.int .u64 p.1, .int .u64 p.2], sl x.a x.n x.cp 4 x.us, pts q 0 [.int .i64 node, .int .i64 most, .int .i64 kept, .slice a n' cp, .pointer (some ⟨sp, 0, none⟩), .bool true, .int .u64 gf, .int .u64 gt, .slice ga n gc], sl a n' cp 4 us', pts ab 0 [.int .u64 gf, .int .u64 gt], sl (some ⟨pb, 0, none⟩) (pieces gf gt).length (pieces gf gt).length 2 (flat arcC (pieces gf gt)), shP sp m l, sl ga n gc 4 us, fr])
      (fun x => n' + 1 - x.i) (fun x => x.i ≤ n' ∧ wf x.a x.n x.cp ∧ x.n = ((cur.take x.i).flatMap fun o => lessL o p.1 p.2).length ∧ x.us = flat ownC ((cur.take x.i).flatMap fun o => lessL o p.1 p.2))
      ⟨0, none, 0, 0, []⟩ ⟨by simp, .inl ⟨rfl, rfl, rfl⟩, by simp, by simp⟩ (by exact ⟨rfl, rfl, rfl, rfl, rfl, rfl, rfl, rfl, rfl, rfl, rfl, trivial⟩) takeS ?_
    rintro ⟨j, a2, cp2, n2, us2⟩ d2 ⟨hj, hw2, hn2, hu2⟩
    dsimp only at hj hw2 hn2 hu2 ⊢
    by_cases hjl : j < n'
    · obtain ⟨o, ho⟩ : ∃ x, cur[j]? = some x := ⟨_, List.getElem?_eq_getElem (by omega)⟩
      have hfm := flatMap_take_succ (g := fun o => lessL o p.1 p.2) ho
      have hll := lessL_le o p.1 p.2
      have hb2 : n2 ≤ 2 * n' := by
        have := lossP_le p (cur.take j)
        unfold lossP at this
        rw [hn2]
        have h3 : (cur.take j).length ≤ n' := by simp; omega
        omega
      rcases hw with ⟨rfl, h0, rfl⟩ | ⟨ib, off, rfl, hcap⟩
      · omega
      subst hu
      repeat' (first | refine T_seq ?_ | refine T_regionR Tt (by kernel_rfl) ?_ | refine T_drawR Tt N.hold_Hold_Lose_d mixed (by kernel_rfl) ?_ | refine W_go Tt rfl ?_ | refine W_nil ?_ | refine T_cond_true rfl ?_ | refine T_cond_false rfl ?_ | refine T_skip ?_ | refine T_ret ?_ | refine T_exit ?_ | refine T_block ?_ | with_reducible refine R_block ?_ | with_reducible refine R_then ?_ | with_reducible refine R_norm ?_ | with_reducible refine R_exitEq ?_ | refine R_exitNe ?_ | with_reducible refine R_thenX ?_ | with_reducible refine R_scopeX ?_ | with_reducible refine R_blockN ?_ | refine A_cmpT Tt ?_ | refine A_cmpF Tt ?_ | refine A_cmpY Tt ?_ | refine A_cmpN Tt ?_ | (refine A_cmp Tt ?_ ?_ <;> intro hc) | refine A_ldPts Tt ?_ | refine A_ldSl Tt ?_ | refine S_ix Tt ?_ | refine S_ixA Tt ?_ | refine A_el Tt ?_ | refine A_el1 Tt ?_ | refine A_el2 Tt ?_ | refine A_store Tt ?_ | refine A_stEl Tt ?_ | (refine A_alloc Tt ?_; intro b) | (refine A_app Tt ?_; intro a cp hwf) | (refine A_appNil Tt ?_; intro a cp hwf) | (refine A_call Tt N.hold_less_is (sp_hold_less) (trivial) ?_; rintro v L ⟨la, lc, hwl, rfl, rfl⟩ <;> dsimp only [List.cons_append, List.nil_append]) | fail)
      refine ⟨rfl, ⟨j + 1, _, _, n2 + (lessL o p.1 p.2).length, us2 ++ flat ownC (lessL o p.1 p.2)⟩, ⟨by dsimp only; omega, hwf, by dsimp only; rw [hfm, hn2, List.length_append], by dsimp only; rw [hfm, hu2, flat_append]⟩, by dsimp only; omega, ⟨rfl, rfl, rfl, rfl, rfl, rfl, rfl, rfl, rfl, rfl, inc_ok (by omega), trivial⟩, _, takeS⟩
    · have hje : j = n' := by omega
      rw [List.take_of_length_le (by omega)] at hn2 hu2
      have hb2 : n2 ≤ 2 * n' := by have := lossP_le p cur; unfold lossP at this; omega
      repeat' (first | refine T_seq ?_ | refine T_regionR Tt (by kernel_rfl) ?_ | refine T_drawR Tt N.hold_Hold_Lose_d mixed (by kernel_rfl) ?_ | refine W_go Tt rfl ?_ | refine W_nil ?_ | refine T_cond_true rfl ?_ | refine T_cond_false rfl ?_ | refine T_skip ?_ | refine T_ret ?_ | refine T_exit ?_ | refine T_block ?_ | with_reducible refine R_block ?_ | with_reducible refine R_then ?_ | with_reducible refine R_norm ?_ | with_reducible refine R_exitEq ?_ | refine R_exitNe ?_ | with_reducible refine R_thenX ?_ | with_reducible refine R_scopeX ?_ | with_reducible refine R_blockN ?_ | refine A_cmpT Tt ?_ | refine A_cmpF Tt ?_ | refine A_cmpY Tt ?_ | refine A_cmpN Tt ?_ | (refine A_cmp Tt ?_ ?_ <;> intro hc) | refine A_ldPts Tt ?_ | refine A_ldSl Tt ?_ | refine S_ix Tt ?_ | refine S_ixA Tt ?_ | refine A_el Tt ?_ | refine A_el1 Tt ?_ | refine A_el2 Tt ?_ | refine A_store Tt ?_ | refine A_stEl Tt ?_ | (refine A_alloc Tt ?_; intro b) | (refine A_app Tt ?_; intro a cp hwf) | (refine A_appNil Tt ?_; intro a cp hwf) | fail)
      refine ⟨rfl, ⟨i + 1, a2, cp2, n2, us2⟩, ⟨by dsimp only; omega, hw2, by dsimp only; rw [hstep, hn2]; rfl, by dsimp only; rw [hstep, hu2]; rfl, by dsimp only; rw [Nat.pow_succ]; omega⟩, by dsimp only; omega, ⟨rfl, rfl, rfl, rfl, rfl, inc_ok (by omega), trivial⟩, _, takeS⟩
  · have hie : i = (pieces gf gt).length := by omega
    subst hie
    rw [List.take_length] at hn' hu
    subst hn'; subst hu
    repeat' (first | refine T_seq ?_ | refine T_regionR Tt (by kernel_rfl) ?_ | refine T_drawR Tt N.hold_Hold_Lose_d mixed (by kernel_rfl) ?_ | refine W_go Tt rfl ?_ | refine W_nil ?_ | refine T_cond_true rfl ?_ | refine T_cond_false rfl ?_ | refine T_skip ?_ | refine T_ret ?_ | refine T_exit ?_ | refine T_block ?_ | with_reducible refine R_block ?_ | with_reducible refine R_then ?_ | with_reducible refine R_norm ?_ | with_reducible refine R_exitEq ?_ | refine R_exitNe ?_ | with_reducible refine R_thenX ?_ | with_reducible refine R_scopeX ?_ | with_reducible refine R_blockN ?_ | refine A_cmpT Tt ?_ | refine A_cmpF Tt ?_ | refine A_cmpY Tt ?_ | refine A_cmpN Tt ?_ | (refine A_cmp Tt ?_ ?_ <;> intro hc) | refine A_ldPts Tt ?_ | refine A_ldSl Tt ?_ | refine S_ix Tt ?_ | refine S_ixA Tt ?_ | refine A_el Tt ?_ | refine A_el1 Tt ?_ | refine A_el2 Tt ?_ | refine A_store Tt ?_ | refine A_stEl Tt ?_ | (refine A_alloc Tt ?_; intro b) | (refine A_app Tt ?_; intro a cp hwf) | (refine A_appNil Tt ?_; intro a cp hwf) | (refine A_call Tt N.cut_Out_is (sp_Out) (⟨hsr, hl, hf, ht, hd⟩) ?_; rintro v L ⟨ea, ec, hew, rfl, rfl⟩ <;> dsimp only [List.cons_append, List.nil_append]) | (refine A_call Tt N.gate_Gate_Thaw_is (sp_gate_Thaw (h := ⟨node, most, kept, a, cp, lossL ow gf gt, sp, true, gf, gt, .slice ga n gc⟩)) (trivial) ?_; rintro v L ⟨rfl, rfl⟩ <;> dsimp only [List.cons_append, List.nil_append]) | (refine A_call Tt N.gate_Gate_Point_is (sp_gate_Point (h := ⟨node, most, kept, a, cp, lossL ow gf gt, sp, false, 0, 0, .slice ga n gc⟩)) (hn6) ?_; rintro v L ⟨ga', gc', hgw, rfl, rfl⟩ <;> dsimp only [List.cons_append, List.nil_append]) | fail)
    (change bodyQ PP _ [fr] _ _ _ _ _; refine ⟨rfl, _, _, _, (.tmp .nil), ⟨a, cp, ga', gc', hw, hgw, rfl, rfl⟩, takeS⟩)
end Go.Rz


/- hold: all of an arc. -/
import Derived.Test.YtjkpfnmkhjlllaaGreatDoorRzShelf3
import Derived.Test.YtjkpfnmkhjlllaaGreatDoorRzGive1
set_option linter.unusedVariables false
set_option linter.unusedSimpArgs false
open Go Go.Rz
set_option maxRecDepth 4000
namespace Go.Rz
def inO (o : Ow) (x : Int) : Prop := o.f ≤ x ∧ (o.t = 0 ∨ x < o.t)
/-- Pieces that do not go over the end, no two of which meet. -/
structure Hok (ow : List Ow) : Prop where
  u : ∀ o ∈ ow, U o.f ∧ U o.t ∧ (o.t = 0 ∨ o.f < o.t) ∧ 0 ≤ o.ep
  d : ow.Pairwise fun o o' => ∀ x, ¬ (inO o x ∧ inO o' x)
theorem pieceAt_some {ow : List Ow} {x : Int} {o : Ow} (h : pieceAt ow x = some o) : o ∈ ow ∧ inO o x := by
  unfold pieceAt at h
  refine ⟨List.mem_of_find?_eq_some h, ?_⟩
  have := List.find?_some h
  rwa [tt_iff] at this
theorem pieceAt_none {ow : List Ow} {x : Int} (h : pieceAt ow x = none) : ∀ o ∈ ow, ¬ inO o x := by
  unfold pieceAt at h
  rw [List.find?_eq_none] at h
  intro o ho hx
  exact h o ho (tt_iff.2 hx)
theorem Hok.at {ow : List Ow} (h : Hok ow) {o : Ow} {x : Int} (ho : o ∈ ow) (hx : inO o x) : pieceAt ow x = some o := by
  obtain ⟨-, d⟩ := h
  unfold pieceAt
  induction ow with
  | nil => cases ho
  | cons a l ih =>
    rw [List.pairwise_cons] at d
    rw [List.find?_cons]
    rcases List.mem_cons.1 ho with rfl | ho
    · have : tt (o.f ≤ x ∧ (o.t = 0 ∨ x < o.t)) = true := tt_iff.2 hx
      rw [this]
    · have : tt (a.f ≤ x ∧ (a.t = 0 ∨ x < a.t)) = false := by
        cases hq : tt (a.f ≤ x ∧ (a.t = 0 ∨ x < a.t)) with
        | false => rfl
        | true => exact absurd ⟨tt_iff.1 hq, hx⟩ (d.1 o ho x)
      rw [this]
      exact ih ho d.2
theorem pieceAt_isSome {ow : List Ow} {x : Int} : (pieceAt ow x).isSome = true ↔ ∃ o ∈ ow, inO o x := by
  constructor
  · intro h
    obtain ⟨o, ho⟩ := Option.isSome_iff_exists.1 h
    exact ⟨o, pieceAt_some ho⟩
  · rintro ⟨o, ho, hx⟩
    cases h : pieceAt ow x with
    | some o => rfl
    | none => exact absurd hx (pieceAt_none h o ho)
/-- All of a part of the ring is owned; the greatest epoch in it. -/
def Cov (ow : List Ow) (R : Int → Prop) (e : Int) : Prop :=
  (∀ y, U y → R y → ∃ o, pieceAt ow y = some o ∧ o.ep ≤ e) ∧ 0 ≤ e ∧ (e = 0 ∨ ∃ y, U y ∧ R y ∧ ∃ o, pieceAt ow y = some o ∧ o.ep = e)
def inPs (ps : List (Int × Int)) (y : Int) : Prop := ∃ p ∈ ps, inP p y
theorem Cov.congr {ow : List Ow} {R R' : Int → Prop} {e : Int} (h : Cov ow R e) (hr : ∀ y, U y → (R y ↔ R' y)) : Cov ow R' e :=
  ⟨fun y hy hR => h.1 y hy ((hr y hy).2 hR), h.2.1, h.2.2.imp id fun ⟨y, hy, hR, x⟩ => ⟨y, hy, (hr y hy).1 hR, x⟩⟩
/-- One more piece. -/
theorem Cov.add {ow : List Ow} {R R' : Int → Prop} {e x : Int} {o : Ow} (h : Cov ow R e) (hk : Hok ow) (ho : pieceAt ow x = some o) (hu : U x) (hx : R' x) (hr : ∀ y, U y → (R' y → R y ∨ x ≤ y ∧ inO o y)) (hs : ∀ y, U y → R y → R' y) : Cov ow R' (max e o.ep) := by
  have hm := pieceAt_some ho
  refine ⟨fun y hy hR => ?_, by have := h.2.1; omega, ?_⟩
  · rcases hr y hy hR with h1 | h1
    · obtain ⟨o', a, b⟩ := h.1 y hy h1
      exact ⟨o', a, by omega⟩
    · exact ⟨o, hk.at hm.1 h1.2, by omega⟩
  · by_cases hle : o.ep ≤ e
    · rw [Int.max_eq_left hle]
      exact h.2.2.imp id fun ⟨y, hy, hR, z⟩ => ⟨y, hy, hs y hy hR, z⟩
    · rw [Int.max_eq_right (by omega)]
      exact .inr ⟨x, hu, hx, o, ho, rfl⟩
theorem pieces_ok {f t : Int} {p : Int × Int} (hf : U f) (ht : U t) (h : p ∈ pieces f t) : U p.1 ∧ U p.2 ∧ (p.2 = 0 ∨ p.1 < p.2) := by
  unfold U at *
  unfold pieces at h
  split at h <;> simp at h
  · subst h; simp; omega
  · rcases h with rfl | rfl <;> simp <;> omega

structure AllY where
  x : Int
  e : Int
theorem sp_hold_all {B : Base} {q : Nat} {h : Hd} {f t : Int} : (wf h.oa h.ow.length h.oc ∧ h.ow.length < 1099511627776 ∧ Hok h.ow ∧ U f ∧ U t) →
    Fn PP B N.hold_Hold_all [.pointer (some ⟨q, 0, none⟩), .agg #[.int .u64 f, .int .u64 t]] [pts q 0 (hdC h), sl h.oa h.ow.length h.oc 4 (flat ownC h.ow)]
    (fun v L => ((∃ e, v = .tuple #[.int .i64 e, .bool true] ∧ Cov h.ow (inPs (pieces f t)) e) ∨ (v = .tuple #[.int .i64 0, .bool false] ∧ ∃ y, U y ∧ inPs (pieces f t) y ∧ pieceAt h.ow y = none)) ∧ L = [pts q 0 (hdC h), sl h.oa h.ow.length h.oc 4 (flat ownC h.ow)]) := by
  rintro ⟨hwf, hlen, hk, hf, ht⟩
  have hpl := pieces_le f t
  refine Fn_of N.hold_Hold_all_f rfl rfl fun fr => ?_
  try dsimp only [List.append_eq, List.cons_append, List.nil_append]
  repeat' (first | refine T_seq ?_ | refine T_regionR Tt (by kernel_rfl) ?_ | refine W_go Tt rfl ?_ | refine W_nil ?_ | refine T_cond_true rfl ?_ | refine T_cond_false rfl ?_ | refine T_skip ?_ | refine T_ret ?_ | refine T_exit ?_ | refine T_block ?_ | refine T_scope ?_ | refine T_label ?_ | with_reducible refine R_block ?_ | with_reducible refine R_then ?_ | with_reducible refine R_norm ?_ | with_reducible refine R_scope ?_ | with_reducible refine R_exitEq ?_ | refine R_exitNe ?_ | with_reducible refine R_thenX ?_ | with_reducible refine R_scopeX ?_ | with_reducible refine R_blockN ?_ | with_reducible refine R_scopeN ?_ | refine A_cmpT Tt ?_ | refine A_cmpF Tt ?_ | (refine A_cmp Tt ?_ ?_ <;> intro hc) | refine A_skip Tt ?_ | refine A_ldPts Tt ?_ | refine A_ldSl Tt ?_ | refine A_max Tt ?_ | refine S_ix Tt ?_ | refine S_ixA Tt ?_ | refine A_el Tt ?_ | refine A_el1 Tt ?_ | refine A_el2 Tt ?_ | refine A_store Tt ?_ | refine A_stEl Tt ?_ | (refine A_box Tt ?_; intro b) | (refine A_alloc Tt ?_; intro b) | (refine A_call Tt N.arc_Pieces_is (sp_pieces) (trivial) ?_; rintro v L ⟨pb, rfl, rfl⟩ <;> dsimp only [List.cons_append, List.nil_append]) | fail)
  refine T_loopE (X := AllY × Nat) (fun x => [(0, .pointer (some ⟨q, 0, none⟩)), (6, .int .i64 x.1.e), (13, .slice (some ⟨pb, 0, none⟩) (pieces f t).length (pieces f t).length), (14, .int .i64 (pieces f t).length), (15, .int .i64 x.2)])
    (fun x => [pts q 0 (hdC h), sl h.oa h.ow.length h.oc 4 (flat ownC h.ow), sl (some ⟨pb, 0, none⟩) (pieces f t).length (pieces f t).length 2 (flat arcC (pieces f t)), fr]) (fun x => (pieces f t).length + 1 - x.2)
    (fun x => x.2 ≤ (pieces f t).length ∧ Cov h.ow (inPs ((pieces f t).take x.2)) x.1.e) (⟨0, 0⟩, 0) ⟨by simp, ⟨fun y _ ⟨p, hp, _⟩ => by simp at hp, by simp, .inl rfl⟩⟩ (by exact ⟨rfl, rfl, rfl, rfl, rfl, trivial⟩) takeS ?_
  rintro ⟨⟨x0, e⟩, i⟩ d ⟨hi, hcv⟩
  dsimp only at hi hcv ⊢
  by_cases hlt : i < (pieces f t).length
  · obtain ⟨p, hp⟩ : ∃ x, (pieces f t)[i]? = some x := ⟨_, List.getElem?_eq_getElem hlt⟩
    have hpo := pieces_ok hf ht (List.mem_of_getElem? hp)
    have htk : ∀ y, inPs ((pieces f t).take (i + 1)) y ↔ inPs ((pieces f t).take i) y ∨ inP p y := fun y => by
      unfold inPs
      rw [List.take_add_one, hp]
      simp [or_and_right, exists_or]
    have hpl1 : p.1 ≤ p.1 ∧ (p.2 = 0 ∨ p.1 < p.2) := ⟨by omega, hpo.2.2⟩
    repeat' (first | refine T_seq ?_ | refine T_regionR Tt (by kernel_rfl) ?_ | refine W_go Tt rfl ?_ | refine W_nil ?_ | refine T_cond_true rfl ?_ | refine T_cond_false rfl ?_ | refine T_skip ?_ | refine T_ret ?_ | refine T_exit ?_ | refine T_block ?_ | refine T_scope ?_ | refine T_label ?_ | with_reducible refine R_block ?_ | with_reducible refine R_then ?_ | with_reducible refine R_norm ?_ | with_reducible refine R_scope ?_ | with_reducible refine R_exitEq ?_ | refine R_exitNe ?_ | with_reducible refine R_thenX ?_ | with_reducible refine R_scopeX ?_ | with_reducible refine R_blockN ?_ | with_reducible refine R_scopeN ?_ | refine A_cmpT Tt ?_ | refine A_cmpF Tt ?_ | (refine A_cmp Tt ?_ ?_ <;> intro hc) | refine A_skip Tt ?_ | refine A_ldPts Tt ?_ | refine A_ldSl Tt ?_ | refine A_max Tt ?_ | refine S_ix Tt ?_ | refine S_ixA Tt ?_ | refine A_el Tt ?_ | refine A_el1 Tt ?_ | refine A_el2 Tt ?_ | refine A_store Tt ?_ | refine A_stEl Tt ?_ | (refine A_box Tt ?_; intro b) | (refine A_alloc Tt ?_; intro b) | fail)
    · refine T_loopE (X := AllY) (fun x => [(0, .pointer (some ⟨q, 0, none⟩)), (6, .int .i64 x.e), (8, .pointer (some ⟨b, 0, none⟩)), (9, .int .u64 x.x), (13, .slice (some ⟨pb, 0, none⟩) (pieces f t).length (pieces f t).length), (14, .int .i64 (pieces f t).length), (15, .int .i64 i)])
        (fun x => [pts b 0 [.int .u64 p.1, .int .u64 p.2], pts q 0 (hdC h), sl h.oa h.ow.length h.oc 4 (flat ownC h.ow), sl (some ⟨pb, 0, none⟩) (pieces f t).length (pieces f t).length 2 (flat arcC (pieces f t)), fr]) (fun x => (18446744073709551616 - x.x).toNat)
        (fun x => U x.x ∧ inP p x.x ∧ Cov h.ow (fun y => inPs ((pieces f t).take i) y ∨ (p.1 ≤ y ∧ y < x.x)) x.e) ⟨p.1, e⟩ ⟨hpo.1, hpl1, hcv.congr fun y _ => by constructor; exact .inl; rintro (h | h); exact h; dsimp only at h; omega⟩ (by exact ⟨rfl, rfl, rfl, rfl, rfl, rfl, rfl, trivial⟩) takeS ?_
      rintro ⟨x, e'⟩ d2 ⟨hux, hix, hcx⟩
      dsimp only at hux hix hcx ⊢
      have hix' := hix
      unfold inP at hix'
      have hp0 : 0 ≤ p.1 ∧ 0 ≤ p.2 := ⟨hpo.1.1, hpo.2.1.1⟩
      cases hat : pieceAt h.ow x with
      | none =>
        repeat' (first | refine T_seq ?_ | refine T_regionR Tt (by kernel_rfl) ?_ | refine W_go Tt rfl ?_ | refine W_nil ?_ | refine T_cond_true rfl ?_ | refine T_cond_false rfl ?_ | refine T_skip ?_ | refine T_ret ?_ | refine T_exit ?_ | refine T_block ?_ | refine T_scope ?_ | refine T_label ?_ | with_reducible refine R_block ?_ | with_reducible refine R_then ?_ | with_reducible refine R_norm ?_ | with_reducible refine R_scope ?_ | with_reducible refine R_exitEq ?_ | refine R_exitNe ?_ | with_reducible refine R_thenX ?_ | with_reducible refine R_scopeX ?_ | with_reducible refine R_blockN ?_ | with_reducible refine R_scopeN ?_ | refine A_cmpT Tt ?_ | refine A_cmpF Tt ?_ | (refine A_cmp Tt ?_ ?_ <;> intro hc) | refine A_skip Tt ?_ | refine A_ldPts Tt ?_ | refine A_ldSl Tt ?_ | refine A_max Tt ?_ | refine S_ix Tt ?_ | refine S_ixA Tt ?_ | refine A_el Tt ?_ | refine A_el1 Tt ?_ | refine A_el2 Tt ?_ | refine A_store Tt ?_ | refine A_stEl Tt ?_ | (refine A_box Tt ?_; intro b) | (refine A_alloc Tt ?_; intro b) | (refine A_call Tt N.hold_Hold_at_is (sp_at_none hat) (⟨hwf, hlen⟩) ?_; rintro v L ⟨rfl, rfl⟩ <;> dsimp only [List.cons_append, List.nil_append]) | fail)
        (change bodyQ PP _ [fr] _ _ _ _ _; refine ⟨rfl, _, _, _, (.tmp (.tmp .nil)), ⟨.inr ⟨rfl, x, hux, ⟨p, List.mem_of_getElem? hp, hix⟩, hat⟩, rfl⟩, takeS⟩)
      | some o =>
        have hm := pieceAt_some hat
        have hou := hk.u o hm.1
        have hmo := hm.2
        unfold inO at hmo
        unfold U at hou hux
        have done : (o.t = 0 ∨ (0 < p.2 ∧ p.2 ≤ o.t)) → Cov h.ow (inPs ((pieces f t).take (i + 1))) (max e' o.ep) := fun hd => by
          refine hcx.add hk hat hux ((htk x).2 (.inr hix)) (fun y hy hR => ?_) (fun y hy hR => ?_)
          · rcases (htk y).1 hR with h1 | h1
            · exact .inl (.inl h1)
            · unfold inP at h1
              unfold U at hy
              by_cases hyx : y < x
              · exact .inl (.inr ⟨h1.1, hyx⟩)
              · exact .inr ⟨by omega, by unfold inO; omega⟩
          · rcases hR with h1 | h1
            · exact (htk y).2 (.inl h1)
            · exact (htk y).2 (.inr (by unfold inP; omega))
        repeat' (first | refine T_seq ?_ | refine T_regionR Tt (by kernel_rfl) ?_ | refine W_go Tt rfl ?_ | refine W_nil ?_ | refine T_cond_true rfl ?_ | refine T_cond_false rfl ?_ | refine T_skip ?_ | refine T_ret ?_ | refine T_exit ?_ | refine T_block ?_ | refine T_scope ?_ | refine T_label ?_ | with_reducible refine R_block ?_ | with_reducible refine R_then ?_ | with_reducible refine R_norm ?_ | with_reducible refine R_scope ?_ | with_reducible refine R_exitEq ?_ | refine R_exitNe ?_ | with_reducible refine R_thenX ?_ | with_reducible refine R_scopeX ?_ | with_reducible refine R_blockN ?_ | with_reducible refine R_scopeN ?_ | refine A_cmpT Tt ?_ | refine A_cmpF Tt ?_ | (refine A_cmp Tt ?_ ?_ <;> intro hc) | refine A_skip Tt ?_ | refine A_ldPts Tt ?_ | refine A_ldSl Tt ?_ | refine A_max Tt ?_ | refine S_ix Tt ?_ | refine S_ixA Tt ?_ | refine A_el Tt ?_ | refine A_el1 Tt ?_ | refine A_el2 Tt ?_ | refine A_store Tt ?_ | refine A_stEl Tt ?_ | (refine A_box Tt ?_; intro b) | (refine A_alloc Tt ?_; intro b) | (refine A_call Tt N.hold_Hold_at_is (sp_at_some hat) (⟨hwf, hlen⟩) ?_; rintro v L ⟨rfl, rfl⟩ <;> dsimp only [List.cons_append, List.nil_append]) | fail)
        · refine ⟨rfl, (⟨0, max e' o.ep⟩, i + 1), ⟨by dsimp only; omega, done (.inl hc)⟩, by dsimp only; omega, ⟨rfl, rfl, rfl, rfl, inc_ok (by omega), trivial⟩, _, takeS⟩
        · refine ⟨rfl, (⟨0, max e' o.ep⟩, i + 1), ⟨by dsimp only; omega, done (.inr (by omega))⟩, by dsimp only; omega, ⟨rfl, rfl, rfl, rfl, inc_ok (by omega), trivial⟩, _, takeS⟩
        all_goals
          refine ⟨rfl, ⟨o.t, max e' o.ep⟩, ⟨?_, ?_, ?_⟩, ?_, ⟨rfl, rfl, rfl, rfl, rfl, rfl, rfl, trivial⟩, _, takeS⟩
          · unfold U; dsimp only; omega
          · unfold inP; dsimp only; omega
          · refine hcx.add hk hat hux (.inr (by dsimp only; omega)) (fun y hy hR => ?_) (fun y hy hR => ?_)
            · rcases hR with h1 | h1
              · exact .inl (.inl h1)
              · dsimp only at h1
                by_cases hyx : y < x
                · exact .inl (.inr ⟨h1.1, hyx⟩)
                · exact .inr ⟨by omega, by unfold inO; omega⟩
            · rcases hR with h1 | h1
              · exact .inl h1
              · exact .inr (by dsimp only; omega)
          · dsimp only; omega
    · exact absurd hc (by omega)
  · have hie : i = (pieces f t).length := by omega
    rw [hie, List.take_length] at hcv
    repeat' (first | refine T_seq ?_ | refine T_regionR Tt (by kernel_rfl) ?_ | refine W_go Tt rfl ?_ | refine W_nil ?_ | refine T_cond_true rfl ?_ | refine T_cond_false rfl ?_ | refine T_skip ?_ | refine T_ret ?_ | refine T_exit ?_ | refine T_block ?_ | refine T_scope ?_ | refine T_label ?_ | with_reducible refine R_block ?_ | with_reducible refine R_then ?_ | with_reducible refine R_norm ?_ | with_reducible refine R_scope ?_ | with_reducible refine R_exitEq ?_ | refine R_exitNe ?_ | with_reducible refine R_thenX ?_ | with_reducible refine R_scopeX ?_ | with_reducible refine R_blockN ?_ | with_reducible refine R_scopeN ?_ | refine A_cmpT Tt ?_ | refine A_cmpF Tt ?_ | (refine A_cmp Tt ?_ ?_ <;> intro hc) | refine A_skip Tt ?_ | refine A_ldPts Tt ?_ | refine A_ldSl Tt ?_ | refine A_max Tt ?_ | refine S_ix Tt ?_ | refine S_ixA Tt ?_ | refine A_el Tt ?_ | refine A_el1 Tt ?_ | refine A_el2 Tt ?_ | refine A_store Tt ?_ | refine A_stEl Tt ?_ | (refine A_box Tt ?_; intro b) | (refine A_alloc Tt ?_; intro b) | fail)
    · exact absurd hc (by omega)
    · (change bodyQ PP _ [fr] _ _ _ _ _; refine ⟨rfl, _, _, _, (.tmp (.tmp .nil)), ⟨.inl ⟨e, rfl, hcv⟩, rfl⟩, takeS⟩)
end Go.Rz


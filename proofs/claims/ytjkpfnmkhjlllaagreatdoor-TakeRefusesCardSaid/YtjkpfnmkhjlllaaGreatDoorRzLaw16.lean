/- law 16: alive. -/
import Derived.Test.YtjkpfnmkhjlllaaGreatDoorRzTake
import Derived.Test.YtjkpfnmkhjlllaaGreatDoorRzParts
import Derived.Test.YtjkpfnmkhjlllaaGreatDoorRzLaw15
set_option linter.unusedVariables false
set_option linter.unusedSimpArgs false
open Go Go.Rz
set_option maxRecDepth 4000
set_option maxHeartbeats 40000000
namespace Go.Rz
theorem ow_ok {f t node ep : Int} (hf : U f) (ht : U t) (he : 0 ≤ ep) : ∀ o ∈ (pieces f t).map (mkOw node ep), U o.f ∧ U o.t ∧ 0 ≤ o.ep := fun o ho => by
  obtain ⟨p, hp, rfl⟩ := List.mem_map.1 ho
  have := pieces_ok hf ht hp
  exact ⟨this.1, this.2.1, he⟩
theorem ow_ok' {f t node ep : Int} (hf : U f) (ht : U t) (he : 0 ≤ ep) : ∀ o ∈ (pieces f t).map (mkOw node ep), 0 ≤ o.f ∧ 0 ≤ o.t ∧ 0 ≤ o.ep := fun o ho => by
  have := ow_ok hf ht he o ho
  exact ⟨this.1.1, this.2.1.1, this.2.2⟩
theorem ow_meets {f t node ep y : Int} (hf : U f) (ht : U t) (hy : U y) : (∃ o ∈ (pieces f t).map (mkOw node ep), Meets (o.f, o.t) y) ↔ Meets (f, t) y := by
  rw [← meets_pieces hf ht hy]
  unfold inPs inP
  constructor
  · rintro ⟨o, ho, hm⟩
    obtain ⟨p, hp, rfl⟩ := List.mem_map.1 ho
    have h := pieces_ok hf ht hp
    refine ⟨p, hp, ?_⟩
    unfold mkOw Meets U at *; dsimp only at *; omega
  · rintro ⟨p, hp, hm⟩
    have h := pieces_ok hf ht hp
    refine ⟨_, List.mem_map.2 ⟨p, hp, rfl⟩, ?_⟩
    unfold mkOw Meets U at *; dsimp only at *; omega
theorem touch_pieces {f t f2 t2 node ep : Int} (hf : U f) (ht : U t) (hf2 : U f2) (ht2 : U t2) (he : 0 ≤ ep) :
    (∀ o ∈ arcsH node ((pieces f t).map (mkOw node ep)), ¬ Touch o.f o.t f2 t2) ↔ ¬ Touch f t f2 t2 := by
  have hu := arcsH_u (node := node) (ow_ok (node := node) hf ht he)
  constructor
  · intro h ht'
    obtain ⟨y, hy, h1, h2⟩ := (touch_iff hf ht hf2 ht2).1 ht'
    obtain ⟨o, ho, hm⟩ := (arcsH_cover (node := node) (ow_ok (node := node) hf ht he) hy).2 ((ow_meets hf ht hy).2 h1)
    exact h o ho ((touch_iff (hu o ho).1 (hu o ho).2 hf2 ht2).2 ⟨y, hy, hm, h2⟩)
  · intro h o ho ht'
    obtain ⟨y, hy, h1, h2⟩ := (touch_iff (hu o ho).1 (hu o ho).2 hf2 ht2).1 ht'
    exact h ((touch_iff hf ht hf2 ht2).2 ⟨y, hy, (ow_meets hf ht hy).1 ((arcsH_cover (node := node) (ow_ok (node := node) hf ht he) hy).1 ⟨o, ho, h1⟩), h2⟩)
def OffPre (h : Hd) (x : Lt) (sn : Int) : Prop := x.kind = 10 ∧ wf h.oa h.ow.length h.oc ∧ h.ow.length ≤ 1000 ∧ (∀ o ∈ h.ow, 0 ≤ o.f ∧ 0 ≤ o.t ∧ 0 ≤ o.ep) ∧ 0 ≤ h.kept ∧ 0 ≤ sn ∧ sn ≤ 100000 ∧ h.kept ≤ 100000 ∧ 0 ≤ h.most ∧ h.most ≤ 200
theorem sp_Offered_yes {B : Base} {p : Nat} {h : Hd} {x : Lt} {may : Bool} {sm sn : Int} {top : Option Addr} : (OffPre h x sn ∧ mayTake h x may sn) →
    Fn PP B N.take_Offered [.pointer (some ⟨p, 0, none⟩), ltV x, .bool may] [pts p 0 (hdC h), sl h.oa h.ow.length h.oc 4 (flat ownC h.ow), pts h.sp 0 [.int .i64 sm, .int .i64 sn, .pointer top]]
    (fun v L => ∃ tk lb : Nat, v = .tuple #[.pointer (some ⟨tk, 0, none⟩), .slice (some ⟨lb, 0, none⟩) 1 1] ∧
        L = [pts p 0 (hdC { h with kept := h.kept + x.n }), sl h.oa h.ow.length h.oc 4 (flat ownC h.ow), pts h.sp 0 [.int .i64 sm, .int .i64 sn, .pointer top],
          pts tk 0 (tkC ⟨.pointer (some ⟨p, 0, none⟩), x.f, x.t, x.ep, x.n, x.to, x.src, x.id, 1, 0, .slice none 0 0⟩), sl (some ⟨lb, 0, none⟩) 1 1 21 (flat ltC [{ kind := 11, src := x.to, to := x.src, id := x.id, n := 1 }])]) := fun ⟨h1, h2⟩ =>
  (sp_Offered h1).mono fun v L hh => by
    rcases hh with ⟨-, h⟩ | ⟨h, -⟩
    · exact h
    · exact absurd h2 h
theorem sp_Offered_no {B : Base} {p : Nat} {h : Hd} {x : Lt} {may : Bool} {sm sn : Int} {top : Option Addr} : (OffPre h x sn ∧ ¬ mayTake h x may sn) →
    Fn PP B N.take_Offered [.pointer (some ⟨p, 0, none⟩), ltV x, .bool may] [pts p 0 (hdC h), sl h.oa h.ow.length h.oc 4 (flat ownC h.ow), pts h.sp 0 [.int .i64 sm, .int .i64 sn, .pointer top]]
    (fun v L => ∃ lb : Nat, v = .tuple #[.pointer none, .slice (some ⟨lb, 0, none⟩) 1 1] ∧
        L = [pts p 0 (hdC h), sl h.oa h.ow.length h.oc 4 (flat ownC h.ow), pts h.sp 0 [.int .i64 sm, .int .i64 sn, .pointer top], sl (some ⟨lb, 0, none⟩) 1 1 21 (flat ltC [{ kind := 11, src := x.to, to := x.src, id := x.id, n := 0 }])]) := fun ⟨h1, h2⟩ =>
  (sp_Offered h1).mono fun v L hh => by
    rcases hh with ⟨h, -⟩ | ⟨-, h⟩
    · exact absurd h h2
    · exact h
def KeepPre (h : Hd) (sn : Int) : Prop := 0 ≤ h.kept ∧ 0 ≤ sn ∧ sn ≤ 100000 ∧ h.kept ≤ 100000 ∧ 0 ≤ h.most ∧ h.most ≤ 200
theorem sp_Keep_yes {B : Base} {b : Nat} {h : Hd} {x sm sn : Int} {top : Option Addr} : (KeepPre h sn ∧ 0 ≤ x ∧ x ≤ h.most - sn - h.kept) →
    Fn PP B N.hold_Hold_Keep [.pointer (some ⟨b, 0, none⟩), .int .i64 x] [pts b 0 (hdC h), pts h.sp 0 [.int .i64 sm, .int .i64 sn, .pointer top]]
    (fun v L => v = .bool true ∧ L = [pts b 0 (hdC { h with kept := h.kept + x }), pts h.sp 0 [.int .i64 sm, .int .i64 sn, .pointer top]]) := fun ⟨h1, h2⟩ =>
  (sp_hold_Hold_Keep h1).mono fun v L ⟨q, e1, e2, e3⟩ => by
    have : q = true := e2.2 h2
    subst this
    exact ⟨e1, e3⟩
theorem sp_Keep_no {B : Base} {b : Nat} {h : Hd} {x sm sn : Int} {top : Option Addr} : (KeepPre h sn ∧ ¬ (0 ≤ x ∧ x ≤ h.most - sn - h.kept)) →
    Fn PP B N.hold_Hold_Keep [.pointer (some ⟨b, 0, none⟩), .int .i64 x] [pts b 0 (hdC h), pts h.sp 0 [.int .i64 sm, .int .i64 sn, .pointer top]]
    (fun v L => v = .bool false ∧ L = [pts b 0 (hdC h), pts h.sp 0 [.int .i64 sm, .int .i64 sn, .pointer top]]) := fun ⟨h1, h2⟩ =>
  (sp_hold_Hold_Keep h1).mono fun v L ⟨q, e1, e2, e3⟩ => by
    cases q with
    | false => exact ⟨e1, e3⟩
    | true => exact absurd (e2.1 rfl) h2
theorem p56 : pieces 5 6 = [(5, 6)] := by unfold pieces; simp
theorem p69 : pieces 6 9 = [(6, 9)] := by unfold pieces; simp
theorem sp_Epoch_is {B : Base} {b : Nat} {h : Hd} {m : Int} : (wf h.oa h.ow.length h.oc ∧ h.ow.length < 1099511627776 ∧ epoch h.ow = m) → Fn PP B N.hold_Hold_Epoch [.pointer (some ⟨b, 0, none⟩)] [pts b 0 (hdC h), sl h.oa h.ow.length h.oc 4 (flat ownC h.ow)]
    (fun v L => v = .int .i64 m ∧ L = [pts b 0 (hdC h), sl h.oa h.ow.length h.oc 4 (flat ownC h.ow)]) := fun ⟨h1, h2, h3⟩ => (sp_hold_Hold_Epoch ⟨h1, h2⟩).mono fun v L h => by rw [← h3]; exact h
theorem sp_alive16 {B : Base} : True → Fn PP B N.roslaw16_alive [] [] (fun v L => v = .bool true ∧ L = []) := by
  intro _
  have hl := ow_len (f := 5) (t := 6) (node := 2) (ep := 0)
  have hU : ∀ z : Int, 0 ≤ z → z < 100 → U z := fun z h1 h2 => by unfold U; omega
  have h5 := hU 5 (by decide) (by decide)
  have h6 := hU 6 (by decide) (by decide)
  have h9 := hU 9 (by decide) (by decide)
  have hok := ow_ok' (node := 2) (ep := 0) h5 h6 (Int.le_refl _)
  have hnt : ¬ Touch 5 6 6 9 := by unfold Touch Meets; decide
  have hto := (touch_pieces (node := 2) (ep := 0) h5 h6 h6 h9 (Int.le_refl _)).2 hnt
  have hmt : ∀ o ∈ (pieces 5 6).map (mkOw 2 0), ¬ (Meets (o.f, o.t) 6 ∨ Meets (6, 9) o.f) := by rw [p56]; simp [mkOw, Meets]
  have hep : epoch ((pieces 5 6).map (mkOw 2 0) ++ (pieces 6 9).map (mkOw 2 3)) = 3 := by rw [p56, p69]; rfl
  have hpc : (pieceAt ((pieces 5 6).map (mkOw 2 0) ++ (pieces 6 9).map (mkOw 2 3)) 7).isSome = true := by rw [pieceAt_isSome, p56, p69]; simp [mkOw, inO]
  have hl2 : ((pieces 5 6).map (mkOw 2 0) ++ (pieces 6 9).map (mkOw 2 3)).length < 1000 := by rw [p56, p69]; simp
  refine Fn.pre ?_ (Ent.sl0 (esz := 4))
  refine Fn_of N.roslaw16_alive_f rfl rfl fun fr => ?_
  try dsimp only [List.append_eq, List.cons_append, List.nil_append]
  repeat' (first | refine T_seq ?_ | refine T_regionR Tt (by kernel_rfl) ?_ | refine W_go Tt rfl ?_ | refine W_nil ?_ | refine T_cond_true rfl ?_ | refine T_cond_false rfl ?_ | refine T_skip ?_ | refine T_ret ?_ | with_reducible refine R_then ?_ | with_reducible refine R_norm ?_ | refine A_cmpY Tt ?_ | refine A_cmpN Tt ?_ | (refine A_cmp Tt ?_ ?_ <;> intro hc) | refine A_skip Tt ?_ | refine A_ldPts Tt ?_ | refine A_ldSl Tt ?_ | refine A_arr Tt ?_ | refine S_ix Tt ?_ | refine S_ixA Tt ?_ | refine A_el Tt ?_ | refine A_el1 Tt ?_ | refine A_el2 Tt ?_ | (refine A_call Tt N.roslaw15_Loaded_is (sp_Loaded_nil) ((Int.le_refl 0)) ?_; rintro v L ⟨q, r, sp, oc, oa, hw, rfl, rfl⟩ <;> dsimp only [List.cons_append, List.nil_append]) | (refine A_call Tt N.take_Offered_is (sp_Offered_yes (h := ⟨2, 200, 0, oa, oc, (pieces 5 6).map (mkOw 2 0), sp, false, 0, 0, .slice none 0 0⟩) (x := { kind := 10, src := 1, to := 2, id := 7, f := 6, t := 9, ep := 3, n := 0 }) (sm := 200) (sn := 0)) (⟨⟨rfl, hw, by (try dsimp only); omega, hok, by (try dsimp only); omega, by (try dsimp only); omega, by (try dsimp only); omega, by (try dsimp only); omega, by (try dsimp only); omega, by (try dsimp only); omega⟩, rfl, by decide, hto, by decide, by (try dsimp only); omega⟩) ?_; rintro v L ⟨tk, lb, rfl, rfl⟩ <;> dsimp only [List.cons_append, List.nil_append]) | (refine A_call Tt N.take_Take_Got_is (sp_Got_commit0 (x := { kind := 14, src := 1, to := 2, id := 7 }) (h := ⟨2, 200, 0 + 0, oa, oc, (pieces 5 6).map (mkOw 2 0), sp, false, 0, 0, .slice none 0 0⟩) (f := 6) (t := 9) (ep := 3) (me := 2) (src := 1) (id := 7) (most := 200) (n := 0)) (⟨rfl, rfl, rfl, hw, by (try dsimp only); omega, by decide, hmt, by (try dsimp only); omega, by (try dsimp only); omega⟩) ?_; rintro v L ⟨oa2, oc2, lb2, hw2, rfl, rfl⟩ <;> dsimp only [List.cons_append, List.nil_append]) | (refine A_call Tt N.take_Take_Step_is (sp_take_Step (g := ⟨.pointer (some ⟨q, 0, none⟩), 6, 9, 3, 0, 2, 1, 7, 2, 0, .slice none 0 0⟩)) (trivial) ?_; rintro v L ⟨rfl, rfl⟩ <;> dsimp only [List.cons_append, List.nil_append]) | (refine A_call Tt N.hold_Hold_Has_is (sp_Has_yes (q := q) (h := ownW ⟨2, 200, 0 + 0, oa, oc, (pieces 5 6).map (mkOw 2 0), sp, false, 0, 0, .slice none 0 0⟩ 6 9 3 oa2 oc2) (x := 7)) (⟨hw2, Nat.lt_trans hl2 (by decide), hpc⟩) ?_; rintro v L ⟨rfl, rfl⟩ <;> dsimp only [List.cons_append, List.nil_append]) | (refine A_call Tt N.hold_Hold_Epoch_is (sp_Epoch_is (h := ownW ⟨2, 200, 0 + 0, oa, oc, (pieces 5 6).map (mkOw 2 0), sp, false, 0, 0, .slice none 0 0⟩ 6 9 3 oa2 oc2) (m := 3)) (⟨hw2, Nat.lt_trans hl2 (by decide), hep⟩) ?_; rintro v L ⟨rfl, rfl⟩ <;> dsimp only [List.cons_append, List.nil_append]) | fail)
  · (change bodyQ PP _ [fr] _ _ _ _ _; refine ⟨rfl, _, _, _, (.tmp .nil), ⟨rfl, rfl⟩, takeS⟩)
  all_goals exact absurd rfl hc
end Go.Rz

/- law 16: TakeRefuses. -/
open Go Go.Rz
set_option maxRecDepth 4000
set_option maxHeartbeats 40000000
namespace Go.Rz
theorem sp_refApart_yes {B : Base} {f t f2 t2 : Int} : ¬ Touch f t f2 t2 → Fn PP B N.rosref1_Apart [.agg #[.int .u64 f, .int .u64 t], .agg #[.int .u64 f2, .int .u64 t2]] [] (fun v L => v = .bool true ∧ L = []) := fun h =>
  (sp_ref1_Apart trivial).mono fun v L ⟨q, e1, e2, e3⟩ => ⟨by rw [e1, e2.2 ⟨fun x => h (.inl x), fun x => h (.inr x)⟩], e3⟩
theorem sp_refApart_no {B : Base} {f t f2 t2 : Int} : Touch f t f2 t2 → Fn PP B N.rosref1_Apart [.agg #[.int .u64 f, .int .u64 t], .agg #[.int .u64 f2, .int .u64 t2]] [] (fun v L => v = .bool false ∧ L = []) := fun h =>
  (sp_ref1_Apart trivial).mono fun v L ⟨q, e1, e2, e3⟩ => ⟨(by cases q with | false => exact e1 | true => exact absurd h (fun x => x.elim (e2.1 rfl).1 (e2.1 rfl).2)), e3⟩
theorem sp_Got_drop_k {B : Base} {p tk : Nat} {h : Hd} {f t ep me src id m ch k' : Int} {l : Value} {x : Lt} : ((x.kind = 16 ∧ x.src = src ∧ x.id = id ∧ 0 ≤ h.kept ∧ h.kept < 1152921504606846976 ∧ m < 9223372036854775808) ∧ (if 0 < m then max (h.kept - m) 0 else h.kept) = k') →
    Fn PP B N.take_Take_Got [.pointer (some ⟨tk, 0, none⟩), ltV x] [pts p 0 (hdC h), pts tk 0 (tkC ⟨.pointer (some ⟨p, 0, none⟩), f, t, ep, m, me, src, id, 1, ch, l⟩)]
    (fun v L => v = .tuple #[.slice none 0 0, .bool true] ∧ L = [pts p 0 (hdC { h with kept := k' }), pts tk 0 (tkC ⟨.pointer (some ⟨p, 0, none⟩), f, t, ep, m, me, src, id, 3, ch, l⟩)]) := fun ⟨h1, h2⟩ => by
  subst h2; exact sp_Got_drop h1
theorem sp_TakeRefuses {B : Base} {f t f2 t2 most n : Int} {may : Bool} : (U f ∧ U t ∧ U f2 ∧ U t2) → Fn PP B N.roslaw16_TakeRefuses [.agg #[.int .u64 f, .int .u64 t], .agg #[.int .u64 f2, .int .u64 t2], .int .i64 most, .int .i64 n, .bool may] []
    (fun v L => v = .bool true ∧ L = []) := by
  rintro ⟨hf, ht, hf2, ht2⟩
  by_cases hg : 0 ≤ most ∧ most ≤ 60 ∧ 0 ≤ n ∧ n ≤ 60
  · obtain ⟨h0, h1, h2, h3⟩ := hg
    have hl := ow_len (f := f) (t := t) (node := 2) (ep := 0)
    have hok := ow_ok' (node := 2) (ep := 0) hf ht (Int.le_refl _)
    have hto := touch_pieces (node := 2) (ep := 0) hf ht hf2 ht2 (Int.le_refl _)
    cases may
    · have hno : ∀ oa oc sp, ¬ mayTake ⟨2, most, 0, oa, oc, (pieces f t).map (mkOw 2 0), sp, false, 0, 0, .slice none 0 0⟩ { kind := 10, src := 1, to := 2, id := 3, f := f2, t := t2, ep := 1, n := n } false 0 := fun _ _ _ h => (by cases h.1)
      refine Fn_of N.roslaw16_TakeRefuses_f rfl rfl fun fr => ?_
      try dsimp only [List.append_eq, List.cons_append, List.nil_append]
      repeat' (first | refine T_seq ?_ | refine T_regionR Tt (by kernel_rfl) ?_ | refine W_goN Tt rfl ?_ | refine W_nil ?_ | refine T_cond_true rfl ?_ | refine T_cond_false rfl ?_ | refine T_skip ?_ | refine T_ret ?_ | with_reducible refine R_then ?_ | with_reducible refine R_norm ?_ | refine A_cmpY Tt ?_ | refine A_cmpN Tt ?_ | refine A_addN Tt ?_ | refine A_subN Tt ?_ | refine A_addW Tt ?_ | refine A_subW Tt ?_ | (refine A_cmp Tt ?_ ?_ <;> intro hc) | refine A_skip Tt ?_ | refine A_ldPts Tt ?_ | refine A_ldSl Tt ?_ | refine A_arr Tt ?_ | refine S_ix Tt ?_ | refine S_ixA Tt ?_ | refine A_el Tt ?_ | refine A_el1 Tt ?_ | refine A_el2 Tt ?_ | (refine A_box Tt ?_; intro b) | (refine A_call Tt N.roslaw16_alive_is (sp_alive16) (trivial) ?_; rintro v L ⟨rfl, rfl⟩ <;> dsimp only [List.cons_append, List.nil_append]) | (refine A_call Tt N.hold_New_is (sp_New0 (most := most)) (⟨h0, by omega⟩) ?_; rintro v L ⟨q, sp, rfl, rfl⟩ <;> dsimp only [List.cons_append, List.nil_append]) | (refine A_call Tt N.hold_Hold_Own_is (sp_Own0 (most := most) (ep := 0)) ((Int.le_refl 0)) ?_; rintro v L ⟨oa, oc, hw, rfl, rfl⟩ <;> dsimp only [List.cons_append, List.nil_append]) | (refine A_call Tt N.take_Offered_is (sp_Offered_no (h := ⟨2, most, 0, oa, oc, (pieces f t).map (mkOw 2 0), sp, false, 0, 0, .slice none 0 0⟩) (x := { kind := 10, src := 1, to := 2, id := 3, f := f2, t := t2, ep := 1, n := n }) (sm := most) (sn := 0)) (⟨⟨rfl, hw, by (try dsimp only); omega, hok, by (try dsimp only); omega, by (try dsimp only); omega, by (try dsimp only); omega, by (try dsimp only); omega, by (try dsimp only); omega, by (try dsimp only); omega⟩, hno _ _ _⟩) ?_; rintro v L ⟨lb, rfl, rfl⟩ <;> dsimp only [List.cons_append, List.nil_append]) | (refine A_call Tt N.rosref1_Apart_is (sp_refApart_no) (hap) ?_; rintro v L ⟨rfl, rfl⟩ <;> dsimp only [List.cons_append, List.nil_append]) | (refine A_call Tt N.hold_Hold_Keep_is (sp_Keep_no (h := ⟨2, most, 0, oa, oc, (pieces f t).map (mkOw 2 0), sp, false, 0, 0, .slice none 0 0⟩) (x := most + 1) (sm := most) (sn := 0)) (⟨⟨by (try dsimp only); omega, by (try dsimp only); omega, by (try dsimp only); omega, by (try dsimp only); omega, by (try dsimp only); omega, by (try dsimp only); omega⟩, by (try dsimp only); omega⟩) ?_; rintro v L ⟨rfl, rfl⟩ <;> dsimp only [List.cons_append, List.nil_append]) | (refine A_call Tt N.hold_Hold_Keep_is (sp_Keep_yes (h := ⟨2, most, 0, oa, oc, (pieces f t).map (mkOw 2 0), sp, false, 0, 0, .slice none 0 0⟩) (x := most) (sm := most) (sn := 0)) (⟨⟨by (try dsimp only); omega, by (try dsimp only); omega, by (try dsimp only); omega, by (try dsimp only); omega, by (try dsimp only); omega, by (try dsimp only); omega⟩, by (try dsimp only); omega⟩) ?_; rintro v L ⟨rfl, rfl⟩ <;> dsimp only [List.cons_append, List.nil_append]) | fail)
      · (change bodyQ PP _ [fr] _ _ _ _ _; refine ⟨rfl, _, _, _, (.tmp .nil), ⟨rfl, rfl⟩, takeS⟩)
      all_goals exact absurd rfl hc
    · by_cases hle : n ≤ most
      · by_cases hap : Touch f t f2 t2
        · have hno : ∀ oa oc sp, ¬ mayTake ⟨2, most, 0, oa, oc, (pieces f t).map (mkOw 2 0), sp, false, 0, 0, .slice none 0 0⟩ { kind := 10, src := 1, to := 2, id := 3, f := f2, t := t2, ep := 1, n := n } true 0 := fun _ _ _ h => hto.1 h.2.2.1 hap
          refine Fn_of N.roslaw16_TakeRefuses_f rfl rfl fun fr => ?_
          try dsimp only [List.append_eq, List.cons_append, List.nil_append]
          repeat' (first | refine T_seq ?_ | refine T_regionR Tt (by kernel_rfl) ?_ | refine W_goN Tt rfl ?_ | refine W_nil ?_ | refine T_cond_true rfl ?_ | refine T_cond_false rfl ?_ | refine T_skip ?_ | refine T_ret ?_ | with_reducible refine R_then ?_ | with_reducible refine R_norm ?_ | refine A_cmpY Tt ?_ | refine A_cmpN Tt ?_ | refine A_addN Tt ?_ | refine A_subN Tt ?_ | refine A_addW Tt ?_ | refine A_subW Tt ?_ | (refine A_cmp Tt ?_ ?_ <;> intro hc) | refine A_skip Tt ?_ | refine A_ldPts Tt ?_ | refine A_ldSl Tt ?_ | refine A_arr Tt ?_ | refine S_ix Tt ?_ | refine S_ixA Tt ?_ | refine A_el Tt ?_ | refine A_el1 Tt ?_ | refine A_el2 Tt ?_ | (refine A_box Tt ?_; intro b) | (refine A_call Tt N.roslaw16_alive_is (sp_alive16) (trivial) ?_; rintro v L ⟨rfl, rfl⟩ <;> dsimp only [List.cons_append, List.nil_append]) | (refine A_call Tt N.hold_New_is (sp_New0 (most := most)) (⟨h0, by omega⟩) ?_; rintro v L ⟨q, sp, rfl, rfl⟩ <;> dsimp only [List.cons_append, List.nil_append]) | (refine A_call Tt N.hold_Hold_Own_is (sp_Own0 (most := most) (ep := 0)) ((Int.le_refl 0)) ?_; rintro v L ⟨oa, oc, hw, rfl, rfl⟩ <;> dsimp only [List.cons_append, List.nil_append]) | (refine A_call Tt N.take_Offered_is (sp_Offered_no (h := ⟨2, most, 0, oa, oc, (pieces f t).map (mkOw 2 0), sp, false, 0, 0, .slice none 0 0⟩) (x := { kind := 10, src := 1, to := 2, id := 3, f := f2, t := t2, ep := 1, n := n }) (sm := most) (sn := 0)) (⟨⟨rfl, hw, by (try dsimp only); omega, hok, by (try dsimp only); omega, by (try dsimp only); omega, by (try dsimp only); omega, by (try dsimp only); omega, by (try dsimp only); omega, by (try dsimp only); omega⟩, hno _ _ _⟩) ?_; rintro v L ⟨lb, rfl, rfl⟩ <;> dsimp only [List.cons_append, List.nil_append]) | (refine A_call Tt N.rosref1_Apart_is (sp_refApart_no) (hap) ?_; rintro v L ⟨rfl, rfl⟩ <;> dsimp only [List.cons_append, List.nil_append]) | (refine A_call Tt N.hold_Hold_Keep_is (sp_Keep_no (h := ⟨2, most, 0, oa, oc, (pieces f t).map (mkOw 2 0), sp, false, 0, 0, .slice none 0 0⟩) (x := most + 1) (sm := most) (sn := 0)) (⟨⟨by (try dsimp only); omega, by (try dsimp only); omega, by (try dsimp only); omega, by (try dsimp only); omega, by (try dsimp only); omega, by (try dsimp only); omega⟩, by (try dsimp only); omega⟩) ?_; rintro v L ⟨rfl, rfl⟩ <;> dsimp only [List.cons_append, List.nil_append]) | (refine A_call Tt N.hold_Hold_Keep_is (sp_Keep_yes (h := ⟨2, most, 0, oa, oc, (pieces f t).map (mkOw 2 0), sp, false, 0, 0, .slice none 0 0⟩) (x := most) (sm := most) (sn := 0)) (⟨⟨by (try dsimp only); omega, by (try dsimp only); omega, by (try dsimp only); omega, by (try dsimp only); omega, by (try dsimp only); omega, by (try dsimp only); omega⟩, by (try dsimp only); omega⟩) ?_; rintro v L ⟨rfl, rfl⟩ <;> dsimp only [List.cons_append, List.nil_append]) | fail)
          · (change bodyQ PP _ [fr] _ _ _ _ _; refine ⟨rfl, _, _, _, (.tmp .nil), ⟨rfl, rfl⟩, takeS⟩)
          all_goals exact absurd rfl hc
        · have hyes : ∀ oa oc sp, mayTake ⟨2, most, 0, oa, oc, (pieces f t).map (mkOw 2 0), sp, false, 0, 0, .slice none 0 0⟩ { kind := 10, src := 1, to := 2, id := 3, f := f2, t := t2, ep := 1, n := n } true 0 := fun _ _ _ => ⟨rfl, by (try dsimp only); omega, hto.2 hap, h2, by (try dsimp only); omega⟩
          have hkk : (if 0 < n then max (0 + n + (most - n) - n) 0 else 0 + n + (most - n)) = most - n := by split <;> omega
          refine Fn_of N.roslaw16_TakeRefuses_f rfl rfl fun fr => ?_
          try dsimp only [List.append_eq, List.cons_append, List.nil_append]
          repeat' (first | refine T_seq ?_ | refine T_regionR Tt (by kernel_rfl) ?_ | refine W_goN Tt rfl ?_ | refine W_nil ?_ | refine T_cond_true rfl ?_ | refine T_cond_false rfl ?_ | refine T_skip ?_ | refine T_ret ?_ | with_reducible refine R_then ?_ | with_reducible refine R_norm ?_ | refine A_cmpY Tt ?_ | refine A_cmpN Tt ?_ | refine A_addN Tt ?_ | refine A_subN Tt ?_ | refine A_addW Tt ?_ | refine A_subW Tt ?_ | (refine A_cmp Tt ?_ ?_ <;> intro hc) | refine A_skip Tt ?_ | refine A_ldPts Tt ?_ | refine A_ldSl Tt ?_ | refine A_arr Tt ?_ | refine S_ix Tt ?_ | refine S_ixA Tt ?_ | refine A_el Tt ?_ | refine A_el1 Tt ?_ | refine A_el2 Tt ?_ | (refine A_box Tt ?_; intro b) | (refine A_call Tt N.roslaw16_alive_is (sp_alive16) (trivial) ?_; rintro v L ⟨rfl, rfl⟩ <;> dsimp only [List.cons_append, List.nil_append]) | (refine A_call Tt N.hold_New_is (sp_New0 (most := most)) (⟨h0, by omega⟩) ?_; rintro v L ⟨q, sp, rfl, rfl⟩ <;> dsimp only [List.cons_append, List.nil_append]) | (refine A_call Tt N.hold_Hold_Own_is (sp_Own0 (most := most) (ep := 0)) ((Int.le_refl 0)) ?_; rintro v L ⟨oa, oc, hw, rfl, rfl⟩ <;> dsimp only [List.cons_append, List.nil_append]) | (refine A_call Tt N.take_Offered_is (sp_Offered_yes (h := ⟨2, most, 0, oa, oc, (pieces f t).map (mkOw 2 0), sp, false, 0, 0, .slice none 0 0⟩) (x := { kind := 10, src := 1, to := 2, id := 3, f := f2, t := t2, ep := 1, n := n }) (sm := most) (sn := 0)) (⟨⟨rfl, hw, by (try dsimp only); omega, hok, by (try dsimp only); omega, by (try dsimp only); omega, by (try dsimp only); omega, by (try dsimp only); omega, by (try dsimp only); omega, by (try dsimp only); omega⟩, hyes _ _ _⟩) ?_; rintro v L ⟨tk, lb, rfl, rfl⟩ <;> dsimp only [List.cons_append, List.nil_append]) | (refine A_call Tt N.rosref1_Apart_is (sp_refApart_yes) (hap) ?_; rintro v L ⟨rfl, rfl⟩ <;> dsimp only [List.cons_append, List.nil_append]) | (refine A_call Tt N.hold_Hold_Keep_is (sp_Keep_no (h := ⟨2, most, 0 + n, oa, oc, (pieces f t).map (mkOw 2 0), sp, false, 0, 0, .slice none 0 0⟩) (x := most - n + 1) (sm := most) (sn := 0)) (⟨⟨by (try dsimp only); omega, by (try dsimp only); omega, by (try dsimp only); omega, by (try dsimp only); omega, by (try dsimp only); omega, by (try dsimp only); omega⟩, by (try dsimp only); omega⟩) ?_; rintro v L ⟨rfl, rfl⟩ <;> dsimp only [List.cons_append, List.nil_append]) | (refine A_call Tt N.hold_Hold_Keep_is (sp_Keep_yes (h := ⟨2, most, 0 + n, oa, oc, (pieces f t).map (mkOw 2 0), sp, false, 0, 0, .slice none 0 0⟩) (x := most - n) (sm := most) (sn := 0)) (⟨⟨by (try dsimp only); omega, by (try dsimp only); omega, by (try dsimp only); omega, by (try dsimp only); omega, by (try dsimp only); omega, by (try dsimp only); omega⟩, by (try dsimp only); omega⟩) ?_; rintro v L ⟨rfl, rfl⟩ <;> dsimp only [List.cons_append, List.nil_append]) | (refine A_call Tt N.take_Take_Got_is (sp_Got_drop_k (x := { kind := 16, src := 1, to := 2, id := 3 }) (h := ⟨2, most, 0 + n + (most - n), oa, oc, (pieces f t).map (mkOw 2 0), sp, false, 0, 0, .slice none 0 0⟩) (m := n) (k' := most - n) (f := f2) (t := t2) (ep := 1) (me := 2) (src := 1) (id := 3) (ch := 0) (l := .slice none 0 0)) (⟨⟨rfl, rfl, rfl, by (try dsimp only); omega, by (try dsimp only); omega, by (try dsimp only); omega⟩, hkk⟩) ?_; rintro v L ⟨rfl, rfl⟩ <;> dsimp only [List.cons_append, List.nil_append]) | (refine A_call Tt N.take_Take_Step_is (sp_take_Step (g := ⟨.pointer (some ⟨q, 0, none⟩), f2, t2, 1, n, 2, 1, 3, 3, 0, .slice none 0 0⟩)) (trivial) ?_; rintro v L ⟨rfl, rfl⟩ <;> dsimp only [List.cons_append, List.nil_append]) | (refine A_call Tt N.hold_Hold_Keep_is (sp_Keep_yes (h := ⟨2, most, most - n, oa, oc, (pieces f t).map (mkOw 2 0), sp, false, 0, 0, .slice none 0 0⟩) (x := n) (sm := most) (sn := 0)) (⟨⟨by (try dsimp only); omega, by (try dsimp only); omega, by (try dsimp only); omega, by (try dsimp only); omega, by (try dsimp only); omega, by (try dsimp only); omega⟩, by (try dsimp only); omega⟩) ?_; rintro v L ⟨rfl, rfl⟩ <;> dsimp only [List.cons_append, List.nil_append]) | (refine A_call Tt N.hold_Hold_Keep_is (sp_Keep_no (h := ⟨2, most, most - n + n, oa, oc, (pieces f t).map (mkOw 2 0), sp, false, 0, 0, .slice none 0 0⟩) (x := 1) (sm := most) (sn := 0)) (⟨⟨by (try dsimp only); omega, by (try dsimp only); omega, by (try dsimp only); omega, by (try dsimp only); omega, by (try dsimp only); omega, by (try dsimp only); omega⟩, by (try dsimp only); omega⟩) ?_; rintro v L ⟨rfl, rfl⟩ <;> dsimp only [List.cons_append, List.nil_append]) | fail)
          · (change bodyQ PP _ [fr] _ _ _ _ _; refine ⟨rfl, _, _, _, (.tmp .nil), ⟨rfl, rfl⟩, takeS⟩)
          all_goals exact absurd rfl hc
      · have hno : ∀ oa oc sp, ¬ mayTake ⟨2, most, 0, oa, oc, (pieces f t).map (mkOw 2 0), sp, false, 0, 0, .slice none 0 0⟩ { kind := 10, src := 1, to := 2, id := 3, f := f2, t := t2, ep := 1, n := n } true 0 := fun _ _ _ h => hle (by have := h.2.2.2.2; simp at this; omega)
        refine Fn_of N.roslaw16_TakeRefuses_f rfl rfl fun fr => ?_
        try dsimp only [List.append_eq, List.cons_append, List.nil_append]
        repeat' (first | refine T_seq ?_ | refine T_regionR Tt (by kernel_rfl) ?_ | refine W_goN Tt rfl ?_ | refine W_nil ?_ | refine T_cond_true rfl ?_ | refine T_cond_false rfl ?_ | refine T_skip ?_ | refine T_ret ?_ | with_reducible refine R_then ?_ | with_reducible refine R_norm ?_ | refine A_cmpY Tt ?_ | refine A_cmpN Tt ?_ | refine A_addN Tt ?_ | refine A_subN Tt ?_ | refine A_addW Tt ?_ | refine A_subW Tt ?_ | (refine A_cmp Tt ?_ ?_ <;> intro hc) | refine A_skip Tt ?_ | refine A_ldPts Tt ?_ | refine A_ldSl Tt ?_ | refine A_arr Tt ?_ | refine S_ix Tt ?_ | refine S_ixA Tt ?_ | refine A_el Tt ?_ | refine A_el1 Tt ?_ | refine A_el2 Tt ?_ | (refine A_box Tt ?_; intro b) | (refine A_call Tt N.roslaw16_alive_is (sp_alive16) (trivial) ?_; rintro v L ⟨rfl, rfl⟩ <;> dsimp only [List.cons_append, List.nil_append]) | (refine A_call Tt N.hold_New_is (sp_New0 (most := most)) (⟨h0, by omega⟩) ?_; rintro v L ⟨q, sp, rfl, rfl⟩ <;> dsimp only [List.cons_append, List.nil_append]) | (refine A_call Tt N.hold_Hold_Own_is (sp_Own0 (most := most) (ep := 0)) ((Int.le_refl 0)) ?_; rintro v L ⟨oa, oc, hw, rfl, rfl⟩ <;> dsimp only [List.cons_append, List.nil_append]) | (refine A_call Tt N.take_Offered_is (sp_Offered_no (h := ⟨2, most, 0, oa, oc, (pieces f t).map (mkOw 2 0), sp, false, 0, 0, .slice none 0 0⟩) (x := { kind := 10, src := 1, to := 2, id := 3, f := f2, t := t2, ep := 1, n := n }) (sm := most) (sn := 0)) (⟨⟨rfl, hw, by (try dsimp only); omega, hok, by (try dsimp only); omega, by (try dsimp only); omega, by (try dsimp only); omega, by (try dsimp only); omega, by (try dsimp only); omega, by (try dsimp only); omega⟩, hno _ _ _⟩) ?_; rintro v L ⟨lb, rfl, rfl⟩ <;> dsimp only [List.cons_append, List.nil_append]) | (refine A_call Tt N.rosref1_Apart_is (sp_refApart_no) (hap) ?_; rintro v L ⟨rfl, rfl⟩ <;> dsimp only [List.cons_append, List.nil_append]) | (refine A_call Tt N.hold_Hold_Keep_is (sp_Keep_no (h := ⟨2, most, 0, oa, oc, (pieces f t).map (mkOw 2 0), sp, false, 0, 0, .slice none 0 0⟩) (x := most + 1) (sm := most) (sn := 0)) (⟨⟨by (try dsimp only); omega, by (try dsimp only); omega, by (try dsimp only); omega, by (try dsimp only); omega, by (try dsimp only); omega, by (try dsimp only); omega⟩, by (try dsimp only); omega⟩) ?_; rintro v L ⟨rfl, rfl⟩ <;> dsimp only [List.cons_append, List.nil_append]) | (refine A_call Tt N.hold_Hold_Keep_is (sp_Keep_yes (h := ⟨2, most, 0, oa, oc, (pieces f t).map (mkOw 2 0), sp, false, 0, 0, .slice none 0 0⟩) (x := most) (sm := most) (sn := 0)) (⟨⟨by (try dsimp only); omega, by (try dsimp only); omega, by (try dsimp only); omega, by (try dsimp only); omega, by (try dsimp only); omega, by (try dsimp only); omega⟩, by (try dsimp only); omega⟩) ?_; rintro v L ⟨rfl, rfl⟩ <;> dsimp only [List.cons_append, List.nil_append]) | fail)
        · (change bodyQ PP _ [fr] _ _ _ _ _; refine ⟨rfl, _, _, _, (.tmp .nil), ⟨rfl, rfl⟩, takeS⟩)
        all_goals exact absurd rfl hc
  · have hg' : most < 0 ∨ 60 < most ∨ n < 0 ∨ 60 < n := by omega
    refine Fn_of N.roslaw16_TakeRefuses_f rfl rfl fun fr => ?_
    try dsimp only [List.append_eq, List.cons_append, List.nil_append]
    repeat' (first | refine T_seq ?_ | refine T_regionR Tt (by kernel_rfl) ?_ | refine W_go Tt rfl ?_ | refine W_nil ?_ | refine T_cond_true rfl ?_ | refine T_cond_false rfl ?_ | refine T_skip ?_ | refine T_ret ?_ | with_reducible refine R_then ?_ | with_reducible refine R_norm ?_ | refine A_cmpY Tt ?_ | refine A_cmpN Tt ?_ | (refine A_cmp Tt ?_ ?_ <;> intro hc) | refine A_skip Tt ?_ | refine A_ldPts Tt ?_ | refine A_ldSl Tt ?_ | refine A_arr Tt ?_ | refine S_ix Tt ?_ | refine S_ixA Tt ?_ | refine A_el Tt ?_ | refine A_el1 Tt ?_ | refine A_el2 Tt ?_ | (refine A_box Tt ?_; intro b) | (refine A_call Tt N.roslaw16_alive_is (sp_alive16) (trivial) ?_; rintro v L ⟨rfl, rfl⟩ <;> dsimp only [List.cons_append, List.nil_append]) | fail)
    all_goals first
      | (change bodyQ PP _ [fr] _ _ _ _ _; refine ⟨rfl, _, _, _, (.tmp .nil), ⟨rfl, rfl⟩, takeS⟩)
      | (exfalso; omega)
end Go.Rz


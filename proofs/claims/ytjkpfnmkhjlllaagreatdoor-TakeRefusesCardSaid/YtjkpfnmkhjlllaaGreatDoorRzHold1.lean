/- hold: what is owned. -/
import Derived.Test.YtjkpfnmkhjlllaaGreatDoorRzApart
set_option linter.unusedVariables false
set_option linter.unusedSimpArgs false
open Go Go.Rz
set_option maxRecDepth 4000
namespace Go.Rz
structure Ow where
  f : Int
  t : Int
  node : Int
  ep : Int
def ownC (o : Ow) : List Value := [.int .u64 o.f, .int .u64 o.t, .int .i64 o.node, .int .i64 o.ep]
def ownV (o : Ow) : Value := .agg #[.int .u64 o.f, .int .u64 o.t, .int .i64 o.node, .int .i64 o.ep]
instance : Uni ownC 4 := ⟨fun _ => rfl, fun _ => rfl⟩
def idxOf {α : Type} (p : α → Bool) (l : List α) : Int := match l.findIdx? p with
  | some i => (i : Int)
  | none => -1
theorem idxOf_at {α : Type} {p : α → Bool} {l : List α} {i : Nat} {x : α} (hx : l[i]? = some x) (hp : p x = true) (hn : ∀ j y, j < i → l[j]? = some y → p y = false) : idxOf p l = i := by
  unfold idxOf
  have hi := (List.getElem?_eq_some_iff.1 hx)
  have : l.findIdx? p = some i := by
    rw [List.findIdx?_eq_some_iff_getElem]
    refine ⟨hi.1, by rw [hi.2]; exact hp, fun j hj => ?_⟩
    have := hn j (l[j]'(by have := hi.1; omega)) hj (List.getElem?_eq_getElem _)
    simp [this]
  rw [this]
theorem idxOf_none {α : Type} {p : α → Bool} {l : List α} (hn : ∀ j y, j < l.length → l[j]? = some y → p y = false) : idxOf p l = -1 := by
  unfold idxOf
  have : l.findIdx? p = none := by
    rw [List.findIdx?_eq_none_iff]
    intro x hx
    obtain ⟨i, hi, e⟩ := List.getElem_of_mem hx
    exact hn i x hi (by rw [List.getElem?_eq_getElem hi, e])
  rw [this]

theorem sp_slices_IndexFunc_Owned {B : Base} {a : Option Addr} {cap : Nat} {l : List Ow} {fv : Value} {c : HProp} {p : Ow → Bool} : (wf a l.length cap ∧ l.length < 1099511627776 ∧ ∀ x ∈ l, CallV PP B fv [ownV x] [c] (fun v L => v = .bool (p x) ∧ L = [c])) →
    Fn PP B N.slices_IndexFunc_Owned [.slice a l.length cap, fv] [sl a l.length cap 4 (flat ownC l), c] (fun v L => v = .int .i64 (idxOf p l) ∧ L = [sl a l.length cap 4 (flat ownC l), c]) := by
  rintro ⟨hwf, hlen, hcall⟩
  refine Fn_of N.slices_IndexFunc_Owned_f rfl rfl fun fr => ?_
  try dsimp only [List.append_eq, List.cons_append, List.nil_append]
  repeat' (first | refine T_seq ?_ | refine T_regionR Tt (by kernel_rfl) ?_ | refine W_go Tt rfl ?_ | refine W_nil ?_ | refine T_cond_true rfl ?_ | refine T_cond_false rfl ?_ | refine T_skip ?_ | refine T_ret ?_ | refine T_exit ?_ | refine T_block ?_ | with_reducible refine R_block ?_ | with_reducible refine R_then ?_ | with_reducible refine R_norm ?_ | with_reducible refine R_exitEq ?_ | refine R_exitNe ?_ | with_reducible refine R_thenX ?_ | with_reducible refine R_scopeX ?_ | with_reducible refine R_blockN ?_ | refine A_cmpT Tt ?_ | refine A_cmpF Tt ?_ | (refine A_cmp Tt ?_ ?_ <;> intro hc) | refine A_ldPts Tt ?_ | refine A_ldSl Tt ?_ | refine S_ix Tt ?_ | refine S_ixA Tt ?_ | refine A_el Tt ?_ | refine A_el1 Tt ?_ | refine A_el2 Tt ?_ | fail)
  refine T_loopE (X := Nat) (fun i => [(0, .slice a l.length cap), (1, fv), (7, .int .i64 l.length), (8, .int .i64 i)]) (fun i => [sl a l.length cap 4 (flat ownC l), c, fr]) (fun i => l.length + 1 - i)
    (fun i => i ≤ l.length ∧ ∀ j y, j < i → l[j]? = some y → p y = false) 0 ⟨by omega, by omega⟩ (by exact ⟨rfl, rfl, rfl, rfl, trivial⟩) takeS ?_
  rintro i d ⟨hi, h1⟩
  rcases hwf with ⟨rfl, h0, rfl⟩ | ⟨b, off, rfl, hle⟩
  · repeat' (first | refine T_seq ?_ | refine T_regionR Tt (by kernel_rfl) ?_ | refine W_go Tt rfl ?_ | refine W_nil ?_ | refine T_cond_true rfl ?_ | refine T_cond_false rfl ?_ | refine T_skip ?_ | refine T_ret ?_ | refine T_exit ?_ | refine T_block ?_ | with_reducible refine R_block ?_ | with_reducible refine R_then ?_ | with_reducible refine R_norm ?_ | with_reducible refine R_exitEq ?_ | refine R_exitNe ?_ | with_reducible refine R_thenX ?_ | with_reducible refine R_scopeX ?_ | with_reducible refine R_blockN ?_ | refine A_cmpT Tt ?_ | refine A_cmpF Tt ?_ | (refine A_cmp Tt ?_ ?_ <;> intro hc) | refine A_ldPts Tt ?_ | refine A_ldSl Tt ?_ | refine S_ix Tt ?_ | refine S_ixA Tt ?_ | refine A_el Tt ?_ | refine A_el1 Tt ?_ | refine A_el2 Tt ?_ | fail)
    · exact absurd hc (by omega)
    · (change bodyQ PP _ [fr] _ _ _ _ _; refine ⟨rfl, _, _, _, (.tmp .nil), ⟨by rw [idxOf_none (fun j y hj hy => h1 j y (by omega) hy)]; rfl, rfl⟩, takeS⟩)
  · by_cases hlt : i < l.length
    · obtain ⟨x, hx⟩ : ∃ x, l[i]? = some x := ⟨_, List.getElem?_eq_getElem hlt⟩
      have hxm : x ∈ l := List.mem_of_getElem? hx
      have hcx := hcall x hxm
      cases hp : p x <;> rw [hp] at hcx
      · repeat' (first | refine T_seq ?_ | refine T_regionR Tt (by kernel_rfl) ?_ | refine W_go Tt rfl ?_ | refine W_nil ?_ | refine T_cond_true rfl ?_ | refine T_cond_false rfl ?_ | refine T_skip ?_ | refine T_ret ?_ | refine T_exit ?_ | refine T_block ?_ | with_reducible refine R_block ?_ | with_reducible refine R_then ?_ | with_reducible refine R_norm ?_ | with_reducible refine R_exitEq ?_ | refine R_exitNe ?_ | with_reducible refine R_thenX ?_ | with_reducible refine R_scopeX ?_ | with_reducible refine R_blockN ?_ | refine A_cmpT Tt ?_ | refine A_cmpF Tt ?_ | (refine A_cmp Tt ?_ ?_ <;> intro hc) | refine A_ldPts Tt ?_ | refine A_ldSl Tt ?_ | refine S_ix Tt ?_ | refine S_ixA Tt ?_ | refine A_el Tt ?_ | refine A_el1 Tt ?_ | refine A_el2 Tt ?_ | (refine A_callV Tt (fun _ => hcx) True.intro ?_; rintro v L ⟨rfl, rfl⟩ <;> dsimp only [List.cons_append, List.nil_append]) | fail)
        · refine ⟨rfl, i + 1, ⟨by omega, fun j y hj hy => ?_⟩, by omega, ⟨rfl, rfl, rfl, inc_ok (by omega), trivial⟩, _, takeS⟩
          rcases Nat.lt_succ_iff_lt_or_eq.1 hj with h | rfl
          · exact h1 j y h hy
          · rw [hx] at hy; cases hy; exact hp
        · exact absurd hc (by omega)
      · repeat' (first | refine T_seq ?_ | refine T_regionR Tt (by kernel_rfl) ?_ | refine W_go Tt rfl ?_ | refine W_nil ?_ | refine T_cond_true rfl ?_ | refine T_cond_false rfl ?_ | refine T_skip ?_ | refine T_ret ?_ | refine T_exit ?_ | refine T_block ?_ | with_reducible refine R_block ?_ | with_reducible refine R_then ?_ | with_reducible refine R_norm ?_ | with_reducible refine R_exitEq ?_ | refine R_exitNe ?_ | with_reducible refine R_thenX ?_ | with_reducible refine R_scopeX ?_ | with_reducible refine R_blockN ?_ | refine A_cmpT Tt ?_ | refine A_cmpF Tt ?_ | (refine A_cmp Tt ?_ ?_ <;> intro hc) | refine A_ldPts Tt ?_ | refine A_ldSl Tt ?_ | refine S_ix Tt ?_ | refine S_ixA Tt ?_ | refine A_el Tt ?_ | refine A_el1 Tt ?_ | refine A_el2 Tt ?_ | (refine A_callV Tt (fun _ => hcx) True.intro ?_; rintro v L ⟨rfl, rfl⟩ <;> dsimp only [List.cons_append, List.nil_append]) | fail)
        · (change bodyQ PP _ [fr] _ _ _ _ _; refine ⟨rfl, _, _, _, (.tmp .nil), ⟨by rw [idxOf_at hx hp h1]; rfl, rfl⟩, takeS⟩)
        · exact absurd hc (by omega)
    · repeat' (first | refine T_seq ?_ | refine T_regionR Tt (by kernel_rfl) ?_ | refine W_go Tt rfl ?_ | refine W_nil ?_ | refine T_cond_true rfl ?_ | refine T_cond_false rfl ?_ | refine T_skip ?_ | refine T_ret ?_ | refine T_exit ?_ | refine T_block ?_ | with_reducible refine R_block ?_ | with_reducible refine R_then ?_ | with_reducible refine R_norm ?_ | with_reducible refine R_exitEq ?_ | refine R_exitNe ?_ | with_reducible refine R_thenX ?_ | with_reducible refine R_scopeX ?_ | with_reducible refine R_blockN ?_ | refine A_cmpT Tt ?_ | refine A_cmpF Tt ?_ | (refine A_cmp Tt ?_ ?_ <;> intro hc) | refine A_ldPts Tt ?_ | refine A_ldSl Tt ?_ | refine S_ix Tt ?_ | refine S_ixA Tt ?_ | refine A_el Tt ?_ | refine A_el1 Tt ?_ | refine A_el2 Tt ?_ | fail)
      · exact absurd hc (by omega)
      · (change bodyQ PP _ [fr] _ _ _ _ _; refine ⟨rfl, _, _, _, (.tmp .nil), ⟨by rw [idxOf_none (fun j y hj hy => h1 j y (by omega) hy)]; rfl, rfl⟩, takeS⟩)
theorem idxOf_ge {α : Type} {p : α → Bool} {l : List α} : 0 ≤ idxOf p l ↔ ∃ x ∈ l, p x = true := by
  unfold idxOf
  cases h : l.findIdx? p with
  | none =>
    rw [List.findIdx?_eq_none_iff] at h
    constructor
    · intro h'; exact absurd h' (by decide)
    · rintro ⟨x, hx, hp⟩; rw [h x hx] at hp; cases hp
  | some i =>
    rw [List.findIdx?_eq_some_iff_getElem] at h
    obtain ⟨hi, hp, _⟩ := h
    exact ⟨fun _ => ⟨_, List.getElem_mem hi, hp⟩, fun _ => by simp⟩

theorem sp_slices_ContainsFunc_Owned {B : Base} {a : Option Addr} {cap : Nat} {l : List Ow} {fv : Value} {c : HProp} {p : Ow → Bool} : (wf a l.length cap ∧ l.length < 1099511627776 ∧ ∀ x ∈ l, CallV PP B fv [ownV x] [c] (fun v L => v = .bool (p x) ∧ L = [c])) →
    Fn PP B N.slices_ContainsFunc_Owned [.slice a l.length cap, fv] [sl a l.length cap 4 (flat ownC l), c] (fun v L => ∃ q : Bool, v = .bool q ∧ (q = true ↔ ∃ x ∈ l, p x = true) ∧ L = [sl a l.length cap 4 (flat ownC l), c]) := by
  intro hh
  refine Fn_of N.slices_ContainsFunc_Owned_f rfl rfl fun fr => ?_
  try dsimp only [List.append_eq, List.cons_append, List.nil_append]
  repeat' (first | refine T_seq ?_ | refine T_regionR Tt (by kernel_rfl) ?_ | refine W_go Tt rfl ?_ | refine W_nil ?_ | refine T_ret ?_ | with_reducible refine R_then ?_ | with_reducible refine R_norm ?_ | refine A_cmpT Tt ?_ | refine A_cmpF Tt ?_ | (refine A_cmp Tt ?_ ?_ <;> intro hc) | (refine A_call Tt N.slices_IndexFunc_Owned_is (sp_slices_IndexFunc_Owned) (hh) ?_; rintro v L ⟨rfl, rfl⟩ <;> dsimp only [List.cons_append, List.nil_append]) | fail)
  all_goals
    (change bodyQ PP _ [fr] _ _ _ _ _; refine ⟨rfl, _, _, _, (.tmp .nil), ⟨_, rfl, by rw [← idxOf_ge]; simpa using hc, rfl⟩, takeS⟩)

theorem sp_hold_has {B : Base} {f t x : Int} : True → Fn PP B N.hold_has [.agg #[.int .u64 f, .int .u64 t], .int .u64 x] [] (fun v L => ∃ q : Bool, v = .bool q ∧ (q = true ↔ (f ≤ x ∧ (t = 0 ∨ x < t))) ∧ L = []) := by
  intro _
  refine Fn_of N.hold_has_f rfl rfl fun fr => ?_
  try dsimp only [List.append_eq, List.cons_append, List.nil_append]
  repeat' (first | refine T_seq ?_ | refine T_regionR Tt (by kernel_rfl) ?_ | refine W_go Tt rfl ?_ | refine W_nil ?_ | refine T_ret ?_ | with_reducible refine R_then ?_ | with_reducible refine R_norm ?_ | refine A_cmpT Tt ?_ | refine A_cmpF Tt ?_ | (refine A_cmp Tt ?_ ?_ <;> intro hc) | refine A_skip Tt ?_ | refine A_ldPts Tt ?_ | refine A_ldSl Tt ?_ | refine A_el Tt ?_ | refine A_el1 Tt ?_ | refine A_el2 Tt ?_ | (refine A_box Tt ?_; intro b) | fail)
  all_goals
    (change bodyQ PP _ [fr] _ _ _ _ _; refine ⟨rfl, _, _, _, (.tmp .nil), ⟨_, rfl, by simp at *; omega, rfl⟩, takeS⟩)

theorem sp_hold_Hold_may_1 {B : Base} {o : Ow} {p : Nat} {f t : Int} : True → Fn PP B N.hold_Hold_may_1 [ownV o, .pointer (some ⟨p, 0, none⟩)] [pts p 0 [.int .u64 f, .int .u64 t]] (fun v L => ∃ q : Bool, v = .bool q ∧ (q = true ↔ Meets (o.f, o.t) f ∨ Meets (f, t) o.f) ∧ L = [pts p 0 [.int .u64 f, .int .u64 t]]) := by
  intro _
  refine Fn_of N.hold_Hold_may_1_f rfl rfl fun fr => ?_
  try dsimp only [List.append_eq, List.cons_append, List.nil_append]
  repeat' (first | refine T_seq ?_ | refine T_regionR Tt (by kernel_rfl) ?_ | refine W_go Tt rfl ?_ | refine W_nil ?_ | refine T_ret ?_ | with_reducible refine R_then ?_ | with_reducible refine R_norm ?_ | refine A_ldPts Tt ?_ | refine A_ldSl Tt ?_ | refine A_el Tt ?_ | refine A_el1 Tt ?_ | refine A_el2 Tt ?_ | (refine A_box Tt ?_; intro b) | (refine A_call Tt N.arc_Apart_is (sp_arc_Apart) (trivial) ?_; rintro v L ⟨q, rfl, hb, rfl⟩; cases q <;> dsimp only [List.cons_append, List.nil_append, cond_true, cond_false]) | fail)
  all_goals
    (change bodyQ PP _ [fr] _ _ _ _ _; refine ⟨rfl, _, _, _, (.tmp .nil), ⟨_, rfl, by by_cases m1 : Meets (o.f, o.t) f <;> by_cases m2 : Meets (f, t) o.f <;> simp [m1, m2] at hb ⊢, rfl⟩, takeS⟩)
/-- What a hold is made of. -/
structure Hd where
  node : Int
  most : Int
  kept : Int
  oa : Option Addr
  oc : Nat
  ow : List Ow
  sp : Nat
  sh : Bool
  gf : Int
  gt : Int
  gp : Value
def hdC (h : Hd) : List Value := [.int .i64 h.node, .int .i64 h.most, .int .i64 h.kept, .slice h.oa h.ow.length h.oc, .pointer (some ⟨h.sp, 0, none⟩), .bool h.sh, .int .u64 h.gf, .int .u64 h.gt, h.gp]
def owned (h : Hd) : HProp := sl h.oa h.ow.length h.oc 4 (flat ownC h.ow)
theorem sp_hold_Hold_may {B : Base} {b : Nat} {h : Hd} {f t ep : Int} : (wf h.oa h.ow.length h.oc ∧ h.ow.length < 1099511627776) → Fn PP B N.hold_Hold_may [.pointer (some ⟨b, 0, none⟩), .agg #[.int .u64 f, .int .u64 t], .int .i64 ep] [pts b 0 (hdC h), sl h.oa h.ow.length h.oc 4 (flat ownC h.ow)]
    (fun v L => ∃ q : Bool, v = .bool q ∧ (q = true ↔ 0 ≤ ep ∧ ∀ o ∈ h.ow, ¬ (Meets (o.f, o.t) f ∨ Meets (f, t) o.f)) ∧ L = [pts b 0 (hdC h), sl h.oa h.ow.length h.oc 4 (flat ownC h.ow)]) := by
  rintro ⟨hwf, hlen⟩
  refine Fn_of N.hold_Hold_may_f rfl rfl fun fr => ?_
  try dsimp only [List.append_eq, List.cons_append, List.nil_append]
  repeat' (first | refine T_seq ?_ | refine T_regionR Tt (by kernel_rfl) ?_ | refine W_go Tt rfl ?_ | refine W_nil ?_ | refine T_ret ?_ | with_reducible refine R_then ?_ | with_reducible refine R_norm ?_ | refine A_cmpT Tt ?_ | refine A_cmpF Tt ?_ | (refine A_cmp Tt ?_ ?_ <;> intro hc) | refine A_skip Tt ?_ | refine A_ldPts Tt ?_ | refine A_ldSl Tt ?_ | refine A_el Tt ?_ | refine A_el1 Tt ?_ | refine A_el2 Tt ?_ | (refine A_box Tt ?_; intro b) | fail)
  · repeat' (first | refine T_seq ?_ | refine T_regionR Tt (by kernel_rfl) ?_ | refine W_go Tt rfl ?_ | refine W_nil ?_ | refine T_ret ?_ | with_reducible refine R_then ?_ | with_reducible refine R_norm ?_ | refine A_cmpT Tt ?_ | refine A_cmpF Tt ?_ | (refine A_cmp Tt ?_ ?_ <;> intro hc) | refine A_skip Tt ?_ | refine A_ldPts Tt ?_ | refine A_ldSl Tt ?_ | refine A_el Tt ?_ | refine A_el1 Tt ?_ | refine A_el2 Tt ?_ | (refine A_box Tt ?_; intro b) | (refine A_call Tt N.slices_ContainsFunc_Owned_is (sp_slices_ContainsFunc_Owned) (⟨hwf, hlen, fun x _ => CallV_clo [.pointer (some ⟨b, 0, none⟩)] N.hold_Hold_may_1_is (sp_hold_Hold_may_1 (o := x) (p := b) (f := f) (t := t) trivial) (fun v L hq => bool_tt hq)⟩) ?_; rintro v L ⟨q, rfl, hb, rfl⟩; cases q <;> dsimp only [List.cons_append, List.nil_append, cond_true, cond_false]) | fail)
    all_goals
      (change bodyQ PP _ [fr] _ _ _ _ _; refine ⟨rfl, _, _, _, (.tmp .nil), ⟨_, rfl, by simp only [tt_iff] at hb; simp at hb ⊢; first | exact ⟨hc, fun o ho => hb o ho⟩ | (intro _; obtain ⟨o, ho, h1⟩ := hb; exact ⟨o, ho, fun hn => h1.resolve_left hn⟩), rfl⟩, takeS⟩)
  · (change bodyQ PP _ [fr] _ _ _ _ _; refine ⟨rfl, _, _, _, (.tmp .nil), ⟨_, rfl, by simp at hc ⊢; omega, rfl⟩, takeS⟩)
theorem sp_hold_Hold_at_1 {B : Base} {o : Ow} {p : Nat} {x : Int} : True → Fn PP B N.hold_Hold_at_1 [ownV o, .pointer (some ⟨p, 0, none⟩)] [pts p 0 [.int .u64 x]] (fun v L => ∃ q : Bool, v = .bool q ∧ (q = true ↔ (o.f ≤ x ∧ (o.t = 0 ∨ x < o.t))) ∧ L = [pts p 0 [.int .u64 x]]) := by
  intro _
  refine Fn_of N.hold_Hold_at_1_f rfl rfl fun fr => ?_
  try dsimp only [List.append_eq, List.cons_append, List.nil_append]
  repeat' (first | refine T_seq ?_ | refine T_regionR Tt (by kernel_rfl) ?_ | refine W_go Tt rfl ?_ | refine W_nil ?_ | refine T_ret ?_ | with_reducible refine R_then ?_ | with_reducible refine R_norm ?_ | refine A_ldPts Tt ?_ | refine A_ldSl Tt ?_ | refine A_el Tt ?_ | refine A_el1 Tt ?_ | refine A_el2 Tt ?_ | (refine A_box Tt ?_; intro b) | (refine A_call Tt N.hold_has_is (sp_hold_has) (trivial) ?_; rintro v L ⟨q, rfl, hb, rfl⟩; cases q <;> dsimp only [List.cons_append, List.nil_append, cond_true, cond_false]) | fail)
  all_goals
    (change bodyQ PP _ [fr] _ _ _ _ _; refine ⟨rfl, _, _, _, (.tmp .nil), ⟨_, rfl, by simpa using hb, rfl⟩, takeS⟩)
/-- Where a point lies. -/
noncomputable def pieceAt (l : List Ow) (x : Int) : Option Ow := l.find? fun o => tt (o.f ≤ x ∧ (o.t = 0 ∨ x < o.t))
theorem idxOf_find {α : Type} {p : α → Bool} {l : List α} : (idxOf p l < 0 ∧ l.find? p = none) ∨ ∃ (i : Nat) (x : α), idxOf p l = i ∧ l[i]? = some x ∧ l.find? p = some x := by
  unfold idxOf
  cases h : l.findIdx? p with
  | none =>
    left
    refine ⟨by decide, ?_⟩
    rw [List.findIdx?_eq_none_iff] at h
    rw [List.find?_eq_none]; intro x hx; simp [h x hx]
  | some i =>
    right
    rw [List.findIdx?_eq_some_iff_getElem] at h
    obtain ⟨hi, hp, hn⟩ := h
    refine ⟨i, l[i], rfl, List.getElem?_eq_getElem hi, ?_⟩
    rw [List.find?_eq_some_iff_getElem]
    exact ⟨hp, i, hi, rfl, fun j hj => by simpa using hn j hj⟩
theorem sp_hold_Hold_at {B : Base} {b : Nat} {h : Hd} {x : Int} : (wf h.oa h.ow.length h.oc ∧ h.ow.length < 1099511627776) → Fn PP B N.hold_Hold_at [.pointer (some ⟨b, 0, none⟩), .int .u64 x] [pts b 0 (hdC h), sl h.oa h.ow.length h.oc 4 (flat ownC h.ow)]
    (fun v L => (v = match pieceAt h.ow x with | some o => .tuple #[ownV o, .bool true] | none => .tuple #[ownV ⟨0, 0, 0, 0⟩, .bool false]) ∧ L = [pts b 0 (hdC h), sl h.oa h.ow.length h.oc 4 (flat ownC h.ow)]) := by
  rintro ⟨hwf, hlen⟩
  rcases idxOf_find (p := fun o : Ow => tt (o.f ≤ x ∧ (o.t = 0 ∨ x < o.t))) (l := h.ow) with ⟨hneg, hfi⟩ | ⟨i, o, hix, hio, hfi⟩
  · refine Fn_of N.hold_Hold_at_f rfl rfl fun fr => ?_
    try dsimp only [List.append_eq, List.cons_append, List.nil_append]
    repeat' (first | refine T_seq ?_ | refine T_regionR Tt (by kernel_rfl) ?_ | refine W_go Tt rfl ?_ | refine W_nil ?_ | refine T_cond_true rfl ?_ | refine T_cond_false rfl ?_ | refine T_skip ?_ | refine T_ret ?_ | with_reducible refine R_then ?_ | with_reducible refine R_norm ?_ | refine A_cmpT Tt ?_ | refine A_cmpF Tt ?_ | (refine A_cmp Tt ?_ ?_ <;> intro hc) | refine A_ldPts Tt ?_ | refine A_ldSl Tt ?_ | refine A_arr Tt ?_ | refine S_ix Tt ?_ | refine S_ixA Tt ?_ | refine A_el Tt ?_ | refine A_el1 Tt ?_ | refine A_el2 Tt ?_ | refine A_store Tt ?_ | refine A_stEl Tt ?_ | (refine A_box Tt ?_; intro b) | (refine A_alloc Tt ?_; intro b) | (refine A_call Tt N.slices_IndexFunc_Owned_is (sp_slices_IndexFunc_Owned) (⟨hwf, hlen, fun o _ => CallV_clo [.pointer (some ⟨_, 0, none⟩)] N.hold_Hold_at_1_is (sp_hold_Hold_at_1 (o := o) (x := x) trivial) (fun v L hq => bool_tt hq)⟩) ?_; rintro v L ⟨rfl, rfl⟩ <;> dsimp only [List.cons_append, List.nil_append]) | fail)
    · (change bodyQ PP _ [fr] _ _ _ _ _; refine ⟨rfl, _, _, _, (ResL_cell Tt (.tmp .nil)), ⟨by rw [show pieceAt h.ow x = none from hfi]; rfl, rfl⟩, takeS⟩)
    · exact absurd hneg hc
  · obtain ⟨node, most, kept, oa, oc, ow, sp, sh, gf, gt, gp⟩ := h
    dsimp only at hwf hlen hix hio hfi ⊢
    have hil : i < ow.length := (List.getElem?_eq_some_iff.1 hio).1
    have hio' : ow[(idxOf (fun o : Ow => tt (o.f ≤ x ∧ (o.t = 0 ∨ x < o.t))) ow).toNat]? = some o := by rw [hix]; exact hio
    rcases hwf with ⟨_, h0, _⟩ | ⟨ob, off, rfl, hle⟩
    · omega
    · have hwf : wf (some ⟨ob, off, none⟩) ow.length oc := .inr ⟨ob, off, rfl, hle⟩
      refine Fn_of N.hold_Hold_at_f rfl rfl fun fr => ?_
      try dsimp only [List.append_eq, List.cons_append, List.nil_append]
      repeat' (first | refine T_seq ?_ | refine T_regionR Tt (by kernel_rfl) ?_ | refine W_go Tt rfl ?_ | refine W_nil ?_ | refine T_cond_true rfl ?_ | refine T_cond_false rfl ?_ | refine T_skip ?_ | refine T_ret ?_ | with_reducible refine R_then ?_ | with_reducible refine R_norm ?_ | refine A_cmpT Tt ?_ | refine A_cmpF Tt ?_ | (refine A_cmp Tt ?_ ?_ <;> intro hc) | refine A_ldPts Tt ?_ | refine A_ldSl Tt ?_ | refine A_arr Tt ?_ | refine S_ix Tt ?_ | refine S_ixA Tt ?_ | refine A_el Tt ?_ | refine A_el1 Tt ?_ | refine A_el2 Tt ?_ | refine A_store Tt ?_ | refine A_stEl Tt ?_ | (refine A_box Tt ?_; intro b) | (refine A_alloc Tt ?_; intro b) | (refine A_call Tt N.slices_IndexFunc_Owned_is (sp_slices_IndexFunc_Owned) (⟨hwf, hlen, fun o _ => CallV_clo [.pointer (some ⟨_, 0, none⟩)] N.hold_Hold_at_1_is (sp_hold_Hold_at_1 (o := o) (x := x) trivial) (fun v L hq => bool_tt hq)⟩) ?_; rintro v L ⟨rfl, rfl⟩ <;> dsimp only [List.cons_append, List.nil_append]) | fail)
      · omega
      · (change bodyQ PP _ [fr] _ _ _ _ _; refine ⟨rfl, _, _, _, (ResL_cell Tt (.tmp .nil)), ⟨by rw [show pieceAt ow x = some o from hfi]; rfl, rfl⟩, takeS⟩)
theorem sp_at_some {B : Base} {b : Nat} {h : Hd} {x : Int} {o : Ow} (hp : pieceAt h.ow x = some o) : (wf h.oa h.ow.length h.oc ∧ h.ow.length < 1099511627776) → Fn PP B N.hold_Hold_at [.pointer (some ⟨b, 0, none⟩), .int .u64 x] [pts b 0 (hdC h), sl h.oa h.ow.length h.oc 4 (flat ownC h.ow)]
    (fun v L => v = .tuple #[ownV o, .bool true] ∧ L = [pts b 0 (hdC h), sl h.oa h.ow.length h.oc 4 (flat ownC h.ow)]) := fun φ => (sp_hold_Hold_at φ).mono fun v L ⟨h1, h2⟩ => ⟨by rw [h1, hp], h2⟩
theorem sp_at_none {B : Base} {b : Nat} {h : Hd} {x : Int} (hp : pieceAt h.ow x = none) : (wf h.oa h.ow.length h.oc ∧ h.ow.length < 1099511627776) → Fn PP B N.hold_Hold_at [.pointer (some ⟨b, 0, none⟩), .int .u64 x] [pts b 0 (hdC h), sl h.oa h.ow.length h.oc 4 (flat ownC h.ow)]
    (fun v L => v = .tuple #[ownV ⟨0, 0, 0, 0⟩, .bool false] ∧ L = [pts b 0 (hdC h), sl h.oa h.ow.length h.oc 4 (flat ownC h.ow)]) := fun φ => (sp_hold_Hold_at φ).mono fun v L ⟨h1, h2⟩ => ⟨by rw [h1, hp], h2⟩
theorem sp_hold_Hold_Has {B : Base} {b : Nat} {h : Hd} {x : Int} : (wf h.oa h.ow.length h.oc ∧ h.ow.length < 1099511627776) → Fn PP B N.hold_Hold_Has [.pointer (some ⟨b, 0, none⟩), .int .u64 x] [pts b 0 (hdC h), sl h.oa h.ow.length h.oc 4 (flat ownC h.ow)]
    (fun v L => ∃ q : Bool, v = .bool q ∧ (q = true ↔ (pieceAt h.ow x).isSome = true) ∧ L = [pts b 0 (hdC h), sl h.oa h.ow.length h.oc 4 (flat ownC h.ow)]) := by
  intro hh
  cases hp : pieceAt h.ow x with
  | none =>
    refine Fn_of N.hold_Hold_Has_f rfl rfl fun fr => ?_
    try dsimp only [List.append_eq, List.cons_append, List.nil_append]
    repeat' (first | refine T_seq ?_ | refine T_regionR Tt (by kernel_rfl) ?_ | refine W_go Tt rfl ?_ | refine W_nil ?_ | refine T_ret ?_ | with_reducible refine R_then ?_ | with_reducible refine R_norm ?_ | refine A_store Tt ?_ | (refine A_alloc Tt ?_; intro b) | (refine A_call Tt N.hold_Hold_at_is (sp_at_none hp) (hh) ?_; rintro v L ⟨rfl, rfl⟩ <;> dsimp only [List.cons_append, List.nil_append]) | fail)
    (change bodyQ PP _ [fr] _ _ _ _ _; refine ⟨rfl, _, _, _, (.tmp .nil), ⟨false, rfl, by simp, rfl⟩, takeS⟩)
  | some o =>
    refine Fn_of N.hold_Hold_Has_f rfl rfl fun fr => ?_
    try dsimp only [List.append_eq, List.cons_append, List.nil_append]
    repeat' (first | refine T_seq ?_ | refine T_regionR Tt (by kernel_rfl) ?_ | refine W_go Tt rfl ?_ | refine W_nil ?_ | refine T_ret ?_ | with_reducible refine R_then ?_ | with_reducible refine R_norm ?_ | refine A_store Tt ?_ | (refine A_alloc Tt ?_; intro b) | (refine A_call Tt N.hold_Hold_at_is (sp_at_some hp) (hh) ?_; rintro v L ⟨rfl, rfl⟩ <;> dsimp only [List.cons_append, List.nil_append]) | fail)
    (change bodyQ PP _ [fr] _ _ _ _ _; refine ⟨rfl, _, _, _, (.tmp .nil), ⟨true, rfl, by simp, rfl⟩, takeS⟩)
theorem sp_shelf_New {B : Base} {n : Int} : True → Fn PP B N.shelf_New [.int .i64 n] [] (fun v L => ∃ p : Nat, v = .pointer (some ⟨p, 0, none⟩) ∧ L = [pts p 0 [.int .i64 (min (max n 0) 200), .int .i64 0, .pointer none]]) := by
  intro _
  refine Fn_of N.shelf_New_f rfl rfl fun fr => ?_
  try dsimp only [List.append_eq, List.cons_append, List.nil_append]
  repeat' (first | refine T_seq ?_ | refine T_regionR Tt (by kernel_rfl) ?_ | refine W_go Tt rfl ?_ | refine W_nil ?_ | refine T_ret ?_ | with_reducible refine R_then ?_ | with_reducible refine R_norm ?_ | refine A_arr Tt ?_ | refine A_max Tt ?_ | refine A_min Tt ?_ | (refine A_box Tt ?_; intro b) | fail)
  (change bodyQ PP _ [fr] _ _ _ _ _; refine ⟨rfl, _, _, _, (.tmp .nil), ⟨_, rfl, rfl⟩, takeS⟩)
theorem sp_hold_New {B : Base} {node most : Int} : True → Fn PP B N.hold_New [.int .i64 node, .int .i64 most] [] (fun v L => ∃ (b p : Nat), v = .pointer (some ⟨b, 0, none⟩) ∧
    L = [pts b 0 (hdC ⟨node, min (max most 0) 200, 0, none, 0, [], p, false, 0, 0, .slice none 0 0⟩), pts p 0 [.int .i64 (min (max (min (max most 0) 200) 0) 200), .int .i64 0, .pointer none]]) := by
  intro _
  refine Fn_of N.hold_New_f rfl rfl fun fr => ?_
  try dsimp only [List.append_eq, List.cons_append, List.nil_append]
  repeat' (first | refine T_seq ?_ | refine T_regionR Tt (by kernel_rfl) ?_ | refine W_go Tt rfl ?_ | refine W_nil ?_ | refine T_ret ?_ | with_reducible refine R_then ?_ | with_reducible refine R_norm ?_ | refine A_arr Tt ?_ | refine A_max Tt ?_ | refine A_min Tt ?_ | (refine A_box Tt ?_; intro b) | (refine A_call Tt N.shelf_New_is (sp_shelf_New) (trivial) ?_; rintro v L ⟨p, rfl, rfl⟩ <;> dsimp only [List.cons_append, List.nil_append]) | fail)
  (change bodyQ PP _ [fr] _ _ _ _ _; refine ⟨rfl, _, _, _, (.tmp .nil), ⟨_, _, rfl, rfl⟩, takeS⟩)
theorem wr_ok {n : Int} (h1 : -9223372036854775808 ≤ n) (h2 : n < 9223372036854775808) : wr .i64 n = n := w64_id h1 h2
theorem sp_hold_Hold_Release {B : Base} {b : Nat} {h : Hd} {n : Int} : (0 ≤ h.kept ∧ h.kept < 1152921504606846976 ∧ n < 9223372036854775808) → Fn PP B N.hold_Hold_Release [.pointer (some ⟨b, 0, none⟩), .int .i64 n] [pts b 0 (hdC h)]
    (fun v L => v = .tuple #[] ∧ L = [pts b 0 (hdC { h with kept := if 0 < n then max (h.kept - n) 0 else h.kept })]) := by
  rintro ⟨h1, h2, h3⟩
  refine Fn_of N.hold_Hold_Release_f rfl rfl fun fr => ?_
  try dsimp only [List.append_eq, List.cons_append, List.nil_append]
  repeat' (first | refine T_seq ?_ | refine T_regionR Tt (by kernel_rfl) ?_ | refine W_go Tt rfl ?_ | refine W_nil ?_ | refine T_cond_true rfl ?_ | refine T_cond_false rfl ?_ | refine T_skip ?_ | with_reducible refine R_then ?_ | with_reducible refine R_norm ?_ | refine A_cmpT Tt ?_ | refine A_cmpF Tt ?_ | (refine A_cmp Tt ?_ ?_ <;> intro hc) | refine A_skip Tt ?_ | refine A_ldPts Tt ?_ | refine A_ldSl Tt ?_ | refine A_max Tt ?_ | refine A_el Tt ?_ | refine A_el1 Tt ?_ | refine A_el2 Tt ?_ | refine A_store Tt ?_ | fail)
  · (change bodyQ PP _ [fr] _ _ _ _ _; refine ⟨rfl, _, _, _, .nil, ⟨rfl, by rw [if_pos hc, ← wr_ok (n := h.kept - n) (by omega) (by omega)]⟩, takeS⟩)
  · (change bodyQ PP _ [fr] _ _ _ _ _; refine ⟨rfl, _, _, _, .nil, ⟨rfl, by rw [if_neg hc]⟩, takeS⟩)
theorem sp_shelf_Len {B : Base} {b : Nat} {most n : Int} {top : Option Addr} : True → Fn PP B N.shelf_Shelf_Len [.pointer (some ⟨b, 0, none⟩)] [pts b 0 [.int .i64 most, .int .i64 n, .pointer top]]
    (fun v L => v = .int .i64 n ∧ L = [pts b 0 [.int .i64 most, .int .i64 n, .pointer top]]) := by
  intro _
  refine Fn_of N.shelf_Shelf_Len_f rfl rfl fun fr => ?_
  try dsimp only [List.append_eq, List.cons_append, List.nil_append]
  repeat' (first | refine T_seq ?_ | refine T_regionR Tt (by kernel_rfl) ?_ | refine W_go Tt rfl ?_ | refine W_nil ?_ | refine T_cond_true rfl ?_ | refine T_cond_false rfl ?_ | refine T_skip ?_ | refine T_ret ?_ | with_reducible refine R_then ?_ | with_reducible refine R_norm ?_ | refine A_cmpT Tt ?_ | refine A_cmpF Tt ?_ | (refine A_cmp Tt ?_ ?_ <;> intro hc) | refine A_ldPts Tt ?_ | refine A_ldSl Tt ?_ | refine A_el Tt ?_ | refine A_el1 Tt ?_ | refine A_el2 Tt ?_ | fail)
  (change bodyQ PP _ [fr] _ _ _ _ _; refine ⟨rfl, _, _, _, (.tmp .nil), ⟨rfl, rfl⟩, takeS⟩)
theorem sp_hold_Hold_Keep {B : Base} {b : Nat} {h : Hd} {x sm sn : Int} {top : Option Addr} : (0 ≤ h.kept ∧ 0 ≤ sn ∧ sn ≤ 100000 ∧ h.kept ≤ 100000 ∧ 0 ≤ h.most ∧ h.most ≤ 200) →
    Fn PP B N.hold_Hold_Keep [.pointer (some ⟨b, 0, none⟩), .int .i64 x] [pts b 0 (hdC h), pts h.sp 0 [.int .i64 sm, .int .i64 sn, .pointer top]]
    (fun v L => ∃ q : Bool, v = .bool q ∧ (q = true ↔ 0 ≤ x ∧ x ≤ h.most - sn - h.kept) ∧ L = [pts b 0 (hdC (bif q then { h with kept := h.kept + x } else h)), pts h.sp 0 [.int .i64 sm, .int .i64 sn, .pointer top]]) := by
  rintro ⟨h1, h2, h3, h4, h5, h6⟩
  refine Fn_of N.hold_Hold_Keep_f rfl rfl fun fr => ?_
  try dsimp only [List.append_eq, List.cons_append, List.nil_append]
  repeat' (first | refine T_seq ?_ | refine T_regionR Tt (by kernel_rfl) ?_ | refine T_drawR Tt N.hold_Hold_Keep_d mixed (by kernel_rfl) ?_ | refine W_go Tt rfl ?_ | refine W_nil ?_ | refine T_cond_true rfl ?_ | refine T_cond_false rfl ?_ | refine T_skip ?_ | refine T_ret ?_ | with_reducible refine R_then ?_ | with_reducible refine R_norm ?_ | refine A_cmpT Tt ?_ | refine A_cmpF Tt ?_ | (refine A_cmp Tt ?_ ?_ <;> intro hc) | refine A_skip Tt ?_ | refine A_ldPts Tt ?_ | refine A_ldSl Tt ?_ | refine A_el Tt ?_ | refine A_el1 Tt ?_ | refine A_el2 Tt ?_ | refine A_store Tt ?_ | (refine A_call Tt N.shelf_Shelf_Len_is (sp_shelf_Len) (trivial) ?_; rintro v L ⟨rfl, rfl⟩ <;> dsimp only [List.cons_append, List.nil_append]) | fail)
  · (change bodyQ PP _ [fr] _ _ _ _ _; refine ⟨rfl, _, _, _, (.tmp .nil), ⟨false, rfl, by simp; omega, rfl⟩, takeS⟩)
  · rw [wr_ok (n := h.most - sn) (by omega) (by omega), wr_ok (by omega) (by omega)] at hc
    (change bodyQ PP _ [fr] _ _ _ _ _; refine ⟨rfl, _, _, _, (.tmp .nil), ⟨false, rfl, by simp; omega, rfl⟩, takeS⟩)
  · rename_i hx
    rw [wr_ok (n := h.most - sn) (by omega) (by omega), wr_ok (by omega) (by omega)] at hc
    (change bodyQ PP _ [fr] _ _ _ _ _; refine ⟨rfl, _, _, _, (.tmp .nil), ⟨true, rfl, by simp; omega, by rw [cond_true, ← wr_ok (n := h.kept + x) (by omega) (by omega)]⟩, takeS⟩)

/-- The epoch that is greatest. -/
def epoch (l : List Ow) : Int := l.foldl (fun m o => max m o.ep) 0
theorem sp_hold_Hold_Epoch {B : Base} {b : Nat} {h : Hd} : (wf h.oa h.ow.length h.oc ∧ h.ow.length < 1099511627776) → Fn PP B N.hold_Hold_Epoch [.pointer (some ⟨b, 0, none⟩)] [pts b 0 (hdC h), sl h.oa h.ow.length h.oc 4 (flat ownC h.ow)]
    (fun v L => v = .int .i64 (epoch h.ow) ∧ L = [pts b 0 (hdC h), sl h.oa h.ow.length h.oc 4 (flat ownC h.ow)]) := by
  obtain ⟨node, most, kept, oa, oc, ow, sp, sh, gf, gt, gp⟩ := h
  rintro ⟨hwf, hlen⟩
  dsimp only at hwf hlen ⊢
  refine Fn_of N.hold_Hold_Epoch_f rfl rfl fun fr => ?_
  try dsimp only [List.append_eq, List.cons_append, List.nil_append]
  repeat' (first | refine T_seq ?_ | refine T_regionR Tt (by kernel_rfl) ?_ | refine W_go Tt rfl ?_ | refine W_nil ?_ | refine T_cond_true rfl ?_ | refine T_cond_false rfl ?_ | refine T_skip ?_ | refine T_ret ?_ | refine T_exit ?_ | refine T_block ?_ | with_reducible refine R_block ?_ | with_reducible refine R_then ?_ | with_reducible refine R_norm ?_ | with_reducible refine R_exitEq ?_ | refine R_exitNe ?_ | with_reducible refine R_thenX ?_ | with_reducible refine R_scopeX ?_ | with_reducible refine R_blockN ?_ | refine A_cmpT Tt ?_ | refine A_cmpF Tt ?_ | (refine A_cmp Tt ?_ ?_ <;> intro hc) | refine A_ldPts Tt ?_ | refine A_ldSl Tt ?_ | refine A_max Tt ?_ | refine S_ix Tt ?_ | refine S_ixA Tt ?_ | refine A_el Tt ?_ | refine A_el1 Tt ?_ | refine A_el2 Tt ?_ | refine A_store Tt ?_ | refine A_stEl Tt ?_ | (refine A_alloc Tt ?_; intro b) | fail)
  refine T_loopE (X := Nat) (fun i => [(3, .int .i64 (epoch (ow.take i))), (11, .slice oa ow.length oc), (12, .int .i64 ow.length), (13, .int .i64 i)]) (fun i => [pts b 0 (hdC ⟨node, most, kept, oa, oc, ow, sp, sh, gf, gt, gp⟩), sl oa ow.length oc 4 (flat ownC ow), fr]) (fun i => ow.length + 1 - i)
    (fun i => i ≤ ow.length) 0 (by omega) (by exact ⟨rfl, rfl, rfl, rfl, trivial⟩) takeS ?_
  rintro i d hi
  rcases hwf with ⟨rfl, h0, rfl⟩ | ⟨b, off, rfl, hle⟩
  · repeat' (first | refine T_seq ?_ | refine T_regionR Tt (by kernel_rfl) ?_ | refine W_go Tt rfl ?_ | refine W_nil ?_ | refine T_cond_true rfl ?_ | refine T_cond_false rfl ?_ | refine T_skip ?_ | refine T_ret ?_ | refine T_exit ?_ | refine T_block ?_ | with_reducible refine R_block ?_ | with_reducible refine R_then ?_ | with_reducible refine R_norm ?_ | with_reducible refine R_exitEq ?_ | refine R_exitNe ?_ | with_reducible refine R_thenX ?_ | with_reducible refine R_scopeX ?_ | with_reducible refine R_blockN ?_ | refine A_cmpT Tt ?_ | refine A_cmpF Tt ?_ | (refine A_cmp Tt ?_ ?_ <;> intro hc) | refine A_ldPts Tt ?_ | refine A_ldSl Tt ?_ | refine A_max Tt ?_ | refine S_ix Tt ?_ | refine S_ixA Tt ?_ | refine A_el Tt ?_ | refine A_el1 Tt ?_ | refine A_el2 Tt ?_ | refine A_store Tt ?_ | refine A_stEl Tt ?_ | (refine A_alloc Tt ?_; intro b) | fail)
    · exact absurd hc (by omega)
    · (change bodyQ PP _ [fr] _ _ _ _ _; refine ⟨rfl, _, _, _, (.tmp .nil), ⟨by rw [List.take_of_length_le (by omega)]; rfl, rfl⟩, takeS⟩)
  · by_cases hlt : i < ow.length
    · obtain ⟨x, hx⟩ : ∃ x, ow[i]? = some x := ⟨_, List.getElem?_eq_getElem hlt⟩
      repeat' (first | refine T_seq ?_ | refine T_regionR Tt (by kernel_rfl) ?_ | refine W_go Tt rfl ?_ | refine W_nil ?_ | refine T_cond_true rfl ?_ | refine T_cond_false rfl ?_ | refine T_skip ?_ | refine T_ret ?_ | refine T_exit ?_ | refine T_block ?_ | with_reducible refine R_block ?_ | with_reducible refine R_then ?_ | with_reducible refine R_norm ?_ | with_reducible refine R_exitEq ?_ | refine R_exitNe ?_ | with_reducible refine R_thenX ?_ | with_reducible refine R_scopeX ?_ | with_reducible refine R_blockN ?_ | refine A_cmpT Tt ?_ | refine A_cmpF Tt ?_ | (refine A_cmp Tt ?_ ?_ <;> intro hc) | refine A_ldPts Tt ?_ | refine A_ldSl Tt ?_ | refine A_max Tt ?_ | refine S_ix Tt ?_ | refine S_ixA Tt ?_ | refine A_el Tt ?_ | refine A_el1 Tt ?_ | refine A_el2 Tt ?_ | refine A_store Tt ?_ | refine A_stEl Tt ?_ | (refine A_alloc Tt ?_; intro b) | fail)
      · refine ⟨rfl, i + 1, by omega, by omega, ⟨?_, rfl, rfl, inc_ok (by omega), trivial⟩, _, takeS⟩
        have e1 : epoch (ow.take (i + 1)) = max (epoch (ow.take i)) x.ep := by rw [List.take_add_one, hx]; simp [epoch, List.foldl_append]
        rw [e1]; rfl
      · exact absurd hc (by omega)
    · repeat' (first | refine T_seq ?_ | refine T_regionR Tt (by kernel_rfl) ?_ | refine W_go Tt rfl ?_ | refine W_nil ?_ | refine T_cond_true rfl ?_ | refine T_cond_false rfl ?_ | refine T_skip ?_ | refine T_ret ?_ | refine T_exit ?_ | refine T_block ?_ | with_reducible refine R_block ?_ | with_reducible refine R_then ?_ | with_reducible refine R_norm ?_ | with_reducible refine R_exitEq ?_ | refine R_exitNe ?_ | with_reducible refine R_thenX ?_ | with_reducible refine R_scopeX ?_ | with_reducible refine R_blockN ?_ | refine A_cmpT Tt ?_ | refine A_cmpF Tt ?_ | (refine A_cmp Tt ?_ ?_ <;> intro hc) | refine A_ldPts Tt ?_ | refine A_ldSl Tt ?_ | refine A_max Tt ?_ | refine S_ix Tt ?_ | refine S_ixA Tt ?_ | refine A_el Tt ?_ | refine A_el1 Tt ?_ | refine A_el2 Tt ?_ | refine A_store Tt ?_ | refine A_stEl Tt ?_ | (refine A_alloc Tt ?_; intro b) | fail)
      · exact absurd hc (by omega)
      · (change bodyQ PP _ [fr] _ _ _ _ _; refine ⟨rfl, _, _, _, (.tmp .nil), ⟨by rw [List.take_of_length_le (by omega)]; rfl, rfl⟩, takeS⟩)
end Go.Rz


/- shelf: a shelf; ways through it. -/
import Derived.Test.YtjkpfnmkhjlllaaGreatDoorRzTree2
import Derived.Test.YtjkpfnmkhjlllaaGreatDoorRzHold2
set_option linter.unusedVariables false
set_option linter.unusedSimpArgs false
open Go Go.Rz
set_option maxRecDepth 4000
namespace Go.Rz
section
variable {P : Program} {B : Base}
theorem CallV.conseq {f : Value} {args : List Value} {A A' : List HProp} {Ps Ps' : Value → List HProp → Prop} (h : CallV P B f args A' Ps') (ha : Ent A A') (hp : ∀ v L, Ps' v L → ∃ M, Ps v M ∧ Ent L M) : CallV P B f args A Ps :=
  fun r n e o fo xs ats hop hf hx fr w hs a next Q hev hk => h r n e o fo xs ats hop hf hx fr w (hs.mono fun h H => Ent.append ha (Ent.refl fr) h H) a next Q hev fun v L w' hv hs' => by
    obtain ⟨M, hm, he⟩ := hp v L hv
    exact hk v M w' hm (hs'.mono fun h H => Ent.append he (Ent.refl fr) h H)
theorem Ent.one (L : List HProp) : Ent L [seps L] := fun h H => by
  have := Ent.shut (L := L) (S := []) h (by simpa using H)
  exact this
theorem Ent.one' (L : List HProp) : Ent [seps L] L := fun h H => by
  have := Ent.open (L := L) (S := []) h H
  simpa using this
theorem Iter.of {ι : Type} {f : FuncId} {first lb : Array Value} {stp : ι → List Value → ι → Prop} {s0 : ι} {A : List HProp} {dn st : ι → List HProp → Prop}
    (h : ∀ (Y : Value) (J X : ι → HProp), (∀ s vals s', stp s vals s' → CallV P B Y vals [J s] (fun v L => v = .bool true ∧ L = [J s'] ∨ v = .bool false ∧ L = [X s'])) →
      Fn P B f (first.toList ++ [Y] ++ lb.toList) (A ++ [J s0]) (fun _ L => ∃ A' s, dn s A' ∧ L = A' ++ [J s] ∨ st s A' ∧ L = A' ++ [X s])) : Iter P B f first lb stp s0 A dn st := by
  intro Y JJ X hY
  refine Fn.conseq (h Y (fun s => seps (JJ s)) X fun s vals s' hs => (hY s vals s' hs).conseq (Ent.one' _) ?_) (Ent.append (Ent.refl A) (Ent.one _)) ?_
  · rintro v L (⟨rfl, rfl⟩ | ⟨rfl, rfl⟩)
    · exact ⟨_, .inl ⟨rfl, rfl⟩, Ent.one _⟩
    · exact ⟨_, .inr ⟨rfl, rfl⟩, Ent.refl _⟩
  · rintro v L ⟨A', s, ⟨h1, rfl⟩ | ⟨h1, rfl⟩⟩
    · exact ⟨_, ⟨A', s, .inl ⟨h1, rfl⟩⟩, Ent.append (Ent.refl A') (Ent.one' _)⟩
    · exact ⟨_, ⟨A', s, .inr ⟨h1, rfl⟩⟩, Ent.refl _⟩
end

/-! ### Shelves -/
def shB (most : Int) (l : List It) (top : Option Addr) : List Value := [.int .i64 most, .int .i64 l.length, .pointer top]
/-- A shelf: where it lies, its room, its items. -/
def shA (s : Nat) (most : Int) (l : List It) : Option (Nat × Nat) → List HProp
  | none => [pr (l = []), pts s 0 (shB most l none)]
  | some (d, p) => [pr (l ≠ []), pts s 0 (shB most l (some ⟨p, 0, none⟩)), trP d 1 p l]
def shP (s : Nat) (most : Int) (l : List It) : HProp := ex (shA s most l)
theorem sh_none {s : Nat} {most : Int} {S : List HProp} : Ent (pts s 0 (shB most [] none) :: S) (shP s most [] :: S) := fun h H => Ent.ex (A := shA s most []) none h (Ent.pr rfl h H)
theorem sh_some {s d p : Nat} {most : Int} {l : List It} {S : List HProp} (hl : l ≠ []) : Ent (pts s 0 (shB most l (some ⟨p, 0, none⟩)) :: trP d 1 p l :: S) (shP s most l :: S) := fun h H => Ent.ex (A := shA s most l) (some (d, p)) h (Ent.pr hl h H)
theorem Fn_sh {B : Base} {f : FuncId} {args : List Value} {s : Nat} {most : Int} {l : List It} {L : List HProp} {Ps : Value → List HProp → Prop}
    (h0 : l = [] → Fn PP B f args (pts s 0 (shB most l none) :: L) Ps) (h1 : ∀ d p, l ≠ [] → Fn PP B f args (pts s 0 (shB most l (some ⟨p, 0, none⟩)) :: trP d 1 p l :: L) Ps) : Fn PP B f args (shP s most l :: L) Ps :=
  Fn.ex fun x => match x with
  | none => Fn.prop h0
  | some (d, p) => Fn.prop (h1 d p)

theorem sp_all_nil {B : Base} {v : Value} : True → Fn PP B N.shelf_node_all [.pointer none, v] [] (fun u L => u = v ∧ L = []) := by
  intro _
  refine Fn_of N.shelf_node_all_f rfl rfl fun fr => ?_
  try dsimp only [List.append_eq, List.cons_append, List.nil_append]
  repeat' (first | refine T_seq ?_ | refine T_regionR Tt (by kernel_rfl) ?_ | refine T_drawR Tt N.shelf_node_all_d mixed (by kernel_rfl) ?_ | refine W_go Tt rfl ?_ | refine W_nil ?_ | refine T_cond_true rfl ?_ | refine T_cond_false rfl ?_ | refine T_skip ?_ | refine T_ret ?_ | refine T_exit ?_ | refine T_block ?_ | with_reducible refine R_block ?_ | with_reducible refine R_then ?_ | with_reducible refine R_norm ?_ | with_reducible refine R_exitEq ?_ | refine R_exitNe ?_ | with_reducible refine R_thenX ?_ | with_reducible refine R_scopeX ?_ | with_reducible refine R_blockN ?_ | refine A_cmpT Tt ?_ | refine A_cmpF Tt ?_ | (refine A_cmp Tt ?_ ?_ <;> intro hc) | refine A_ldPts Tt ?_ | refine A_ldSl Tt ?_ | refine S_ix Tt ?_ | refine S_ixA Tt ?_ | refine A_el Tt ?_ | refine A_el1 Tt ?_ | refine A_el2 Tt ?_ | refine A_store Tt ?_ | refine A_stEl Tt ?_ | (refine A_alloc Tt ?_; intro b) | (refine A_mk Tt ?_; intro b) | (refine A_app Tt ?_; intro a cp hwf) | (refine A_appNil Tt ?_; intro a cp hwf) | fail)
  (change bodyQ PP _ [fr] _ _ _ _ _; refine ⟨rfl, _, _, _, (.tmp .nil), ⟨rfl, rfl⟩, takeS⟩)
theorem sp_Items {B : Base} {s : Nat} {most : Int} {l : List It} : (l.length ≤ 1000) → Fn PP B N.shelf_Shelf_Items [.pointer (some ⟨s, 0, none⟩)] [shP s most l]
    (fun v L => ∃ a cap, wf a l.length cap ∧ v = .slice a l.length cap ∧ L = [shP s most l, sl a l.length cap 2 (flat itC l)]) := by
  intro hlen
  refine Fn_sh ?_ ?_
  · rintro rfl
    refine Fn.conseq (Ps' := fun v L => v = .slice none 0 0 ∧ L = [pts s 0 (shB most [] none)]) ?_ (Ent.refl _) ?_
    · refine Fn_of N.shelf_Shelf_Items_f rfl rfl fun fr => ?_
      try dsimp only [List.append_eq, List.cons_append, List.nil_append]
      repeat' (first | refine T_seq ?_ | refine T_regionR Tt (by kernel_rfl) ?_ | refine W_go Tt rfl ?_ | refine W_nil ?_ | refine T_cond_true rfl ?_ | refine T_cond_false rfl ?_ | refine T_skip ?_ | refine T_ret ?_ | with_reducible refine R_then ?_ | with_reducible refine R_norm ?_ | refine A_cmpT Tt ?_ | refine A_cmpF Tt ?_ | (refine A_cmp Tt ?_ ?_ <;> intro hc) | refine A_ldPts Tt ?_ | refine A_ldSl Tt ?_ | refine A_el Tt ?_ | refine A_el1 Tt ?_ | refine A_el2 Tt ?_ | (refine A_call Tt N.shelf_node_all_is (sp_all_nil) (trivial) ?_; rintro v L ⟨rfl, rfl⟩ <;> dsimp only [List.cons_append, List.nil_append]) | fail)
      (change bodyQ PP _ [fr] _ _ _ _ _; refine ⟨rfl, _, _, _, (.tmp .nil), ⟨rfl, rfl⟩, takeS⟩)
    · rintro v L ⟨rfl, rfl⟩
      exact ⟨_, ⟨none, 0, .inl ⟨rfl, rfl, rfl⟩, rfl, rfl⟩, fun h H => sh_none h (seps_swap (seps_mono (sub_refl h) ⟨Heap.emp, h, ⟨rfl, .inl ⟨rfl, rfl, rfl⟩, by simp⟩, H, fun _ _ => .inl rfl, fun _ _ _ e => (by cases e), sub_refl h⟩))⟩
  · intro d p hl
    have hcall := sp_all (B := B) d 1 (p := p) (l := l) (a := none) (n := 0) (cap := 0) (us := []) ⟨.inl ⟨rfl, rfl, rfl⟩, by omega⟩
    rw [Nat.zero_add, List.nil_append] at hcall
    have hcall' := Fn.pre (A := [trP d 1 p l]) hcall (fun h H => seps_swap (⟨Heap.emp, h, ⟨rfl, .inl ⟨rfl, rfl, rfl⟩, by simp⟩, H, fun _ _ => .inl rfl, fun _ _ _ e => (by cases e), sub_refl h⟩))
    refine Fn.conseq (Ps' := fun v L => ∃ a cap, wf a l.length cap ∧ v = .slice a l.length cap ∧ L = [pts s 0 (shB most l (some ⟨p, 0, none⟩)), trP d 1 p l, sl a l.length cap 2 (flat itC l)]) ?_ (Ent.refl _) ?_
    · refine Fn_of N.shelf_Shelf_Items_f rfl rfl fun fr => ?_
      try dsimp only [List.append_eq, List.cons_append, List.nil_append]
      repeat' (first | refine T_seq ?_ | refine T_regionR Tt (by kernel_rfl) ?_ | refine W_go Tt rfl ?_ | refine W_nil ?_ | refine T_cond_true rfl ?_ | refine T_cond_false rfl ?_ | refine T_skip ?_ | refine T_ret ?_ | with_reducible refine R_then ?_ | with_reducible refine R_norm ?_ | refine A_cmpT Tt ?_ | refine A_cmpF Tt ?_ | (refine A_cmp Tt ?_ ?_ <;> intro hc) | refine A_ldPts Tt ?_ | refine A_ldSl Tt ?_ | refine A_el Tt ?_ | refine A_el1 Tt ?_ | refine A_el2 Tt ?_ | (refine A_call Tt N.shelf_node_all_is (fun _ => hcall') (trivial) ?_; rintro v L ⟨a, cp, hw, rfl, rfl⟩ <;> dsimp only [List.cons_append, List.nil_append]) | fail)
      (change bodyQ PP _ [fr] _ _ _ _ _; refine ⟨rfl, _, _, _, (.tmp .nil), ⟨a, cp, hw, rfl, rfl⟩, takeS⟩)
    · rintro v L ⟨a, cap, h1, rfl, rfl⟩
      exact ⟨_, ⟨a, cap, h1, rfl, rfl⟩, sh_some hl⟩

/-! ### Ways -/
/-- A point is in a piece. -/
def inP (p : Int × Int) (x : Int) : Prop := p.1 ≤ x ∧ (p.2 = 0 ∨ x < p.2)
noncomputable def pieceL (p : Int × Int) (l : List It) : List It := l.filter fun x => tt (inP p (addr x.k))
noncomputable def arcL (f t : Int) (l : List It) : List It := (pieces f t).flatMap fun p => pieceL p l
def arcStp (L : List It) (i : Nat) (vals : List Value) (i' : Nat) : Prop := ∃ x, L[i]? = some x ∧ vals = [.string x.k, .string x.v] ∧ i' = i + 1
end Go.Rz


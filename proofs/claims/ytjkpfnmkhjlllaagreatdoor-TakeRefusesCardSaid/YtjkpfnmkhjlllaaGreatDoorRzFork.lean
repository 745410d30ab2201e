/- Regions that draw their order, two of whose acts may come in either order. -/
import Derived.Test.YtjkpfnmkhjlllaaGreatDoorRzLoops
set_option linter.unusedVariables false
set_option linter.unusedSimpArgs false
namespace Go.Rz
set_option linter.unusedVariables false

def addO (j : Nat) (o : Oper) : Oper := { o with after := o.after.push { on := j, ground := .data } }
def addL : List Oper → Nat → Nat → List Oper
  | [], _, _ => []
  | o :: l, 0, j => addO j o :: l
  | o :: l, i + 1, j => o :: addL l i j
/-- Its i-th operation waits for the j-th as well. -/
def addDep (ops : Array Oper) (i j : Nat) : Array Oper := (addL ops.toList i j).toArray

theorem addL_get (j : Nat) : ∀ (l : List Oper) (i k : Nat), (addL l i j)[k]? = if k = i then (l[k]?).map (addO j) else l[k]?
  | [], i, k => by simp [addL]
  | o :: l, 0, k => by cases k <;> simp [addL]
  | o :: l, i + 1, k => by
    cases k with
    | zero => simp [addL]
    | succ k => simp [addL, addL_get j l i k]
theorem addDep_get (ops : Array Oper) (i j k : Nat) : (addDep ops i j)[k]? = if k = i then (ops[k]?).map (addO j) else ops[k]? := by
  simp [addDep, addL_get]
theorem addL_length (j : Nat) : ∀ (l : List Oper) (i : Nat), (addL l i j).length = l.length
  | [], i => rfl
  | o :: l, 0 => rfl
  | o :: l, i + 1 => by simp [addL, addL_length j l i]
theorem addDep_size (ops : Array Oper) (i j : Nat) : (addDep ops i j).size = ops.size := by simp [addDep, addL_length]

variable {P : Program} {B : Base} {F : Fence} {n : Nat} {ops : Array Oper}

/-- An order in which the operations may come. -/
def Valid (ops : Array Oper) : List Nat → Array Bool → Prop
  | [], listed => Region.ready .any ops listed = []
  | i :: l, listed => i ∈ Region.ready .any ops listed ∧ Valid ops l (listed.setIfInBounds i true)

theorem wpOpIn_mono' {Q : Exit → Act → World → Prop} {i : Nat} {K K' : Act → World → Prop} {a : Act} {w : World} (h : ∀ a w, K a w → K' a w) (hh : wpOpIn F n P ops Q i K a w) : wpOpIn F n P ops Q i K' a w := by
  unfold wpOpIn at *
  split
  · rename_i hn; rw [hn] at hh; exact h _ _ hh
  · rename_i o ho
    rw [ho] at hh
    dsimp only at hh
    split
    · rename_i hw; rw [if_pos hw] at hh; exact Oper.wpIn_mono h hh
    · rename_i hw; rw [if_neg hw] at hh; exact ⟨hh.1, h _ _ hh.2⟩

theorem valid_sound {Q : Exit → Act → World → Prop} : ∀ (l : List Nat) (fuel : Nat) (listed : Array Bool) (a : Act) (w : World), wpAnyIn F n P .any ops Q fuel listed a w → Valid ops l listed → l.length ≤ fuel → wpOpsIn F n P ops Q l a w
  | [], 0, listed, a, w, h, hv, _ => by simpa [wpOpsIn] using h.2
  | [], fuel + 1, listed, a, w, h, hv, _ => by simpa [wpOpsIn] using h.1 hv
  | i :: l, 0, listed, a, w, h, hv, hl => by simp at hl
  | i :: l, fuel + 1, listed, a, w, h, hv, hl => by
    rw [wpOpsIn_cons]
    exact wpOpIn_mono' (fun a w h' => valid_sound l fuel _ a w h' hv.2 (by simpa using hl)) (h.2 i hv.1)

theorem go_valid : ∀ (fuel t : Nat) (listed : Array Bool) (acc : List Nat), listed.size = ops.size → listed.toList.countP (fun b => !b) ≤ fuel →
    ∃ l, Region.linearise.go .any ops fuel t listed acc = acc.reverse ++ l ∧ Valid ops l listed ∧ l.length ≤ fuel := by
  intro fuel
  induction fuel with
  | zero =>
    intro t listed acc hsz hc
    refine ⟨[], by simp [Region.linearise.go], ?_, by simp⟩
    show Region.ready .any ops listed = []
    cases hr : Region.ready .any ops listed with
    | nil => rfl
    | cons i l =>
      have hm : i ∈ Region.ready .any ops listed := by rw [hr]; simp
      have : listedB listed i = false := by
        simp only [Region.ready, List.mem_filter, Bool.and_eq_true, Bool.not_eq_true'] at hm
        exact hm.2.1
      have := unlisted_count this
      omega
  | succ fuel ih =>
    intro t listed acc hsz hc
    have hrs : ((List.range ops.size).filter fun i => !listed.getD i true && ((ops[i]?).map (·.after.all fun e => !Region.binds .any e || listed.getD e.on false)).getD false) = Region.ready .any ops listed := rfl
    simp only [Region.linearise.go]
    rw [hrs]
    split
    · rename_i i hi
      have hm : i ∈ Region.ready .any ops listed := List.mem_of_getElem? hi
      have hu : listedB listed i = false := by
        have hm' := hm
        simp only [Region.ready, List.mem_filter, Bool.and_eq_true, Bool.not_eq_true'] at hm'
        exact hm'.2.1
      have := unlisted_count hu
      obtain ⟨l, h1, h2, h3⟩ := ih (t / (Region.ready .any ops listed).length) (listed.setIfInBounds i true) (i :: acc) (by simpa using hsz) (by omega)
      exact ⟨i :: l, by rw [h1]; simp, ⟨hm, h2⟩, by simp; omega⟩
    · rename_i hi
      refine ⟨[], by simp, ?_, by simp⟩
      show Region.ready .any ops listed = []
      cases hr : Region.ready .any ops listed with
      | nil => rfl
      | cons i l =>
        rw [hr] at hi
        rw [List.getElem?_eq_none_iff] at hi
        have h1 : t % (i :: l).length < (i :: l).length := Nat.mod_lt t (Nat.succ_pos l.length)
        omega

theorem ready_addDep {i j k : Nat} {listed : Array Bool} (h : k ∈ Region.ready .any ops listed) (hk : k = i → listed.getD j false = true) : k ∈ Region.ready .any (addDep ops i j) listed := by
  rw [mem_ready] at h ⊢
  obtain ⟨h0, o, ho, h1⟩ := h
  by_cases e : k = i
  · refine ⟨h0, addO j o, by rw [addDep_get, if_pos e, ho]; rfl, fun ed hed hb => ?_⟩
    rcases Array.mem_push.1 hed with h | h
    · exact h1 ed h hb
    · rw [h]; exact hk e
  · exact ⟨h0, o, by rw [addDep_get, if_neg e, ho], h1⟩
theorem ready_of_addDep {i j k : Nat} {listed : Array Bool} (h : k ∈ Region.ready .any (addDep ops i j) listed) : k ∈ Region.ready .any ops listed := by
  rw [mem_ready] at h ⊢
  obtain ⟨h0, o, ho, h1⟩ := h
  rw [addDep_get] at ho
  by_cases e : k = i
  · rw [if_pos e] at ho
    cases ho' : ops[k]? with
    | none => rw [ho'] at ho; cases ho
    | some o' =>
      rw [ho'] at ho
      simp only [Option.map_some, Option.some.injEq] at ho
      subst ho
      exact ⟨h0, o', rfl, fun ed hed hb => h1 ed (Array.mem_push.2 (.inl hed)) hb⟩
  · rw [if_neg e] at ho; exact ⟨h0, o, ho, h1⟩

theorem valid_addDep {i j : Nat} : ∀ (l : List Nat) (listed : Array Bool), Valid ops l listed → j < listed.size → (∀ l1 l2, l = l1 ++ i :: l2 → j ∈ l1 ∨ listed.getD j false = true) → Valid (addDep ops i j) l listed
  | [], listed, hv, _, _ => by
    show Region.ready .any (addDep ops i j) listed = []
    cases hr : Region.ready .any (addDep ops i j) listed with
    | nil => rfl
    | cons k l =>
      have : k ∈ Region.ready .any ops listed := ready_of_addDep (i := i) (j := j) (by rw [hr]; simp)
      have hv' : Region.ready .any ops listed = [] := hv
      rw [hv'] at this; cases this
  | k :: l, listed, hv, hj, ho => by
    refine ⟨ready_addDep hv.1 fun e => ?_, valid_addDep l _ hv.2 (by simpa using hj) fun l1 l2 e => ?_⟩
    · rcases ho [] l (by rw [e]; rfl) with h | h
      · cases h
      · exact h
    · rcases ho (k :: l1) l2 (by rw [e]; rfl) with h | h
      · rcases List.mem_cons.1 h with h | h
        · right
          rw [h]
          simp [Array.getD_eq_getD_getElem?, Array.getElem?_setIfInBounds, h ▸ hj]
        · exact .inl h
      · right
        simp only [Array.getD_eq_getD_getElem?, Array.getElem?_setIfInBounds] at h ⊢
        split
        · split <;> simp_all
        · exact h

theorem yielded_addDep (i j : Nat) (tmps : Array Value) : yielded (addDep ops i j) tmps = yielded ops tmps := by
  funext k
  simp only [yielded, addDep_get]
  by_cases e : k = i
  · rw [if_pos e]; cases ops[k]? <;> rfl
  · rw [if_neg e]

theorem wpOps_addDep {Q : Exit → Act → World → Prop} {i j : Nat} : ∀ (l : List Nat) (a : Act) (w : World), wpOpsIn F n P (addDep ops i j) Q l a w → wpOpsIn F n P ops Q l a w
  | [], a, w, h => by simpa [wpOpsIn] using h
  | k :: l, a, w, h => by
    rw [wpOpsIn_cons] at h ⊢
    have h2 : wpOpIn F n P (addDep ops i j) Q k (wpOpsIn F n P ops Q l) a w := wpOpIn_mono' (fun a w h' => wpOps_addDep l a w h') h
    unfold wpOpIn at h2 ⊢
    rw [yielded_addDep, addDep_get] at h2
    by_cases e : k = i
    · rw [if_pos e] at h2
      cases ho : ops[k]? with
      | none => rw [ho] at h2; exact h2
      | some o =>
        rw [ho] at h2
        exact h2
    · rw [if_neg e] at h2; exact h2

theorem fork_orders {A B : Nat} (hAB : A ≠ B) (l : List Nat) : (∀ l1 l2, l = l1 ++ B :: l2 → A ∈ l1) ∨ (∀ m1 m2, l = m1 ++ A :: m2 → B ∈ m1) := by
  by_cases h : ∀ l1 l2, l = l1 ++ B :: l2 → A ∈ l1
  · exact .inl h
  · right
    simp only [Classical.not_forall] at h
    obtain ⟨l1, l2, e, hn⟩ := h
    intro m1 m2 e2
    rw [e] at e2
    rcases List.append_eq_append_iff.1 e2 with ⟨c, h1, h2⟩ | ⟨c, h1, h2⟩
    · cases c with
      | nil => simp at h2; exact absurd h2.1.symm hAB
      | cons x c => simp at h2; rw [h1, h2.1]; simp
    · cases c with
      | nil => simp at h2; exact absurd h2.1 hAB
      | cons x c => simp at h2; rw [h1, ← h2.1] at hn; simp at hn

section
variable {T : Tab P} {r : Option Nat} {N : Nat} {e : Env} {S : List HProp} {Q : Post}
theorem any_of {ds : List Deferred} (l : List (Nat × Nat × Bool × List Nat)) (hok : drawB N ops l = true) (h : Wk P B r n (plan ops l) [] e S (fun e S => Q .normal e ds S)) {a : Act} {w : World} (hr : Rel N a e) (hd : a.defers = ds) (hs : Sat B w S) :
    wpAnyIn (Fx r) n P .any ops (lift N B Q) ops.size (Array.replicate ops.size false) a { w with drawn := w.drawn + 1 } := by
  have hD := drawB_spec hok
  refine sim (e0 := e) (ds := ds) hD (K := lift N B Q) (fun e' S' a' w' hq hr' hd' hs' => ⟨e', S', hr', hs', hd' ▸ hq⟩) _ _ a _ [] (plan ops l) [] e S h ?_ hr hd (hs.drew) ?_
  · have unl : ∀ i, i < ops.size → listedB (Array.replicate ops.size false) i = false := fun i hi => by
      simp [listedB, Array.getD_eq_getD_getElem?, hi]
    refine ⟨rfl, rfl, (fun l1 x l2 hx => by simp at hx), (fun s hs => unl _ (hD.lt s hs)), (fun x hx => by cases hx), (fun x hx => by cases hx), (fun x hx => by cases hx), (fun j Lk hj => by cases hj), ?_, by simp⟩
    intro i hl j hj
    by_cases hi : i < ops.size
    · rw [unl i hi] at hl; cases hl
    · have : ops[i]? = none := Array.getElem?_eq_none (by omega)
      simp [deps, this] at hj
  · have := List.countP_le_length (p := fun b => !b) (l := (Array.replicate ops.size false).toList)
    simpa using this

/-- Two walks: of each order of the two acts one. -/
theorem T_fork (T : Tab P) {ds : List Deferred} {id : Nat} (i j : Nat) (l1 l2 : List (Nat × Nat × Bool × List Nat)) (hm : P.follows .mixedOrders = true) (hij : Nat.beq i j = false) (hlt : (Nat.ble (i + 1) ops.size && Nat.ble (j + 1) ops.size) = true)
    (hok1 : drawB N (addDep ops j i) l1 = true) (hok2 : drawB N (addDep ops i j) l2 = true)
    (h1 : WkR T B r n (plan (addDep ops j i) l1) [] e S (fun e S => Q .normal e ds S)) (h2 : WkR T B r n (plan (addDep ops i j) l2) [] e S (fun e S => Q .normal e ds S)) : Tri P B r n N (.region id ops true) e ds S Q := fun a w hr hd hs => by
  have hne : i ≠ j := fun h => by rw [h, Nat.beq_refl] at hij; cases hij
  simp only [Bool.and_eq_true, Nat.ble_eq] at hlt
  refine wpIn_region_draw fun t => ?_
  simp only [Region.schedule, hm, Bool.true_or, if_true, Region.linearise]
  obtain ⟨l, hl, hv, hlen⟩ := go_valid (ops := ops) ops.size t (Array.replicate ops.size false) [] (by simp) (by
    have := List.countP_le_length (p := fun b => !b) (l := (Array.replicate ops.size false).toList)
    simpa using this)
  rw [hl, List.reverse_nil, List.nil_append]
  have hsz1 := addDep_size ops j i
  have hsz2 := addDep_size ops i j
  rcases fork_orders hne l with ho | ho
  · have ha := any_of l1 hok1 h1.h hr hd hs
    rw [hsz1] at ha
    exact wpOps_addDep l a _ (valid_sound l _ _ _ _ ha (valid_addDep l _ hv (by simp; omega) fun l1 l2 e => .inl (ho l1 l2 e)) hlen)
  · have ha := any_of l2 hok2 h2.h hr hd hs
    rw [hsz2] at ha
    exact wpOps_addDep l a _ (valid_sound l _ _ _ _ ha (valid_addDep l _ hv (by simp; omega) fun l1 l2 e => .inl (ho l1 l2 e)) hlen)
end
end Go.Rz

/- Separation logic over the model's worlds: who owns which cell, in lists of assertions. No program in sight. -/
import Derived.CallsIn
import Derived.Below
import Derived.RangeFuncLeaves
import Derived.RangeFuncOwn
set_option linter.unusedVariables false
set_option linter.unusedSimpArgs false
namespace Go.Rz
open Go.RowKit (Below)
set_option linter.unusedVariables false

/-- What is owned at a key. -/
inductive HV where
  | cell (v : Value)
  | obj (o : Obj)
  | hdr (t : TypeId) (n : Nat)

/-- A part of memory: by block, and offset (none: what is said of the block as a whole). -/
def Heap := Nat → Option Nat → Option HV

abbrev HProp := Heap → Prop

def Heap.disj (h g : Heap) : Prop := ∀ b k, h b k = none ∨ g b k = none
def Heap.union (h g : Heap) : Heap := fun b k => (h b k).or (g b k)
def Heap.sub (h g : Heap) : Prop := ∀ b k x, h b k = some x → g b k = some x
def Heap.emp : Heap := fun _ _ => none

/-- All assertions of a list, each of a part of its own; more may be there. -/
def seps : List HProp → HProp
  | [] => fun _ => True
  | A :: l => fun h => ∃ h1 h2, A h1 ∧ seps l h2 ∧ h1.disj h2 ∧ h1.sub h ∧ h2.sub h

theorem seps_mono {S : List HProp} : ∀ {h g : Heap}, h.sub g → seps S h → seps S g := by
  cases S with
  | nil => intros; trivial
  | cons A l =>
    rintro h g hs ⟨h1, h2, a, b, d, s1, s2⟩
    exact ⟨h1, h2, a, b, d, fun x k v e => hs _ _ _ (s1 _ _ _ e), fun x k v e => hs _ _ _ (s2 _ _ _ e)⟩

theorem disj_comm {h g : Heap} (d : h.disj g) : g.disj h := fun b k => (d b k).symm
theorem sub_refl (h : Heap) : h.sub h := fun _ _ _ e => e
theorem sub_trans {h g f : Heap} (a : h.sub g) (b : g.sub f) : h.sub f := fun _ _ _ e => b _ _ _ (a _ _ _ e)
theorem disj_sub {h g f : Heap} (d : h.disj g) (s : f.sub g) : h.disj f := fun b k => by
  rcases d b k with e | e
  · exact .inl e
  · cases hf : f b k with
    | none => exact .inr rfl
    | some x => rw [s _ _ _ hf] at e; cases e
theorem union_left (h g : Heap) : h.sub (h.union g) := fun b k x e => by simp [Heap.union, e]
theorem union_right {h g : Heap} (d : h.disj g) : g.sub (h.union g) := fun b k x e => by
  rcases d b k with f | f
  · simp [Heap.union, e, f]
  · rw [e] at f; cases f
theorem union_sub {h g f : Heap} (a : h.sub f) (b : g.sub f) : (h.union g).sub f := fun x k v e => by
  simp only [Heap.union] at e
  cases hh : h x k with
  | none => rw [hh] at e; exact b _ _ _ (by simpa using e)
  | some u => rw [hh] at e; simp at e; subst e; exact a _ _ _ hh
theorem union_disj {h g f : Heap} (a : h.disj f) (b : g.disj f) : (h.union g).disj f := fun x k => by
  rcases a x k with e | e
  · rcases b x k with e' | e'
    · exact .inl (by simp [Heap.union, e, e'])
    · exact .inr e'
  · exact .inr e

theorem seps_swap {A C : HProp} {S : List HProp} {h : Heap} (H : seps (A :: C :: S) h) : seps (C :: A :: S) h := by
  obtain ⟨h1, h2, a, ⟨h3, h4, c, s, d2, s3, s4⟩, d, s1, s2⟩ := H
  have d13 : h1.disj h3 := disj_sub d s3
  have d14 : h1.disj h4 := disj_sub d s4
  exact ⟨h3, h1.union h4, c, ⟨h1, h4, a, s, d14, union_left _ _, union_right d14⟩, disj_comm (union_disj d13 (disj_comm d2)), sub_trans s3 s2, union_sub s1 (sub_trans s4 s2)⟩

/-- A is one of S; R is the rest. -/
inductive Pick : List HProp → HProp → List HProp → Prop where
  | here {A : HProp} {R : List HProp} : Pick (A :: R) A R
  | there {A C : HProp} {R S : List HProp} (h : Pick S A R) : Pick (C :: S) A (C :: R)

theorem seps_cons_mono {A : HProp} {S T : List HProp} (hST : ∀ h, seps S h → seps T h) {h : Heap} (H : seps (A :: S) h) : seps (A :: T) h := by
  obtain ⟨h1, h2, a, s, d, s1, s2⟩ := H
  exact ⟨h1, h2, a, hST _ s, d, s1, s2⟩
theorem seps_head_mono {A C : HProp} {S : List HProp} (hAC : ∀ h, A h → C h) {h : Heap} (H : seps (A :: S) h) : seps (C :: S) h := by
  obtain ⟨h1, h2, a, s, d, s1, s2⟩ := H
  exact ⟨h1, h2, hAC _ a, s, d, s1, s2⟩
theorem seps_tail {A : HProp} {S : List HProp} {h : Heap} (H : seps (A :: S) h) : seps S h := by
  obtain ⟨h1, h2, a, s, d, s1, s2⟩ := H
  exact seps_mono s2 s
theorem Pick.out {S R : List HProp} {A : HProp} (p : Pick S A R) : ∀ {h : Heap}, seps S h → seps (A :: R) h := by
  induction p with
  | here => exact fun H => H
  | there _ ih => exact fun H => seps_swap (seps_cons_mono (fun _ => ih) H)
theorem Pick.back {S R : List HProp} {A : HProp} (p : Pick S A R) : ∀ {h : Heap}, seps (A :: R) h → seps S h := by
  induction p with
  | here => exact fun H => H
  | there _ ih => exact fun H => seps_cons_mono (fun _ => ih) (seps_swap H)

/-- All of L are of S; R is the rest. -/
inductive Take : List HProp → List HProp → List HProp → Prop where
  | nil {S : List HProp} : Take S [] S
  | cons {A : HProp} {S T L R : List HProp} (p : Pick S A T) (t : Take T L R) : Take S (A :: L) R

theorem Take.out {S L R : List HProp} (t : Take S L R) : ∀ {h : Heap}, seps S h → seps (L ++ R) h := by
  induction t with
  | nil => exact fun H => H
  | cons p _ ih => exact fun H => seps_cons_mono (fun _ => ih) (p.out H)
theorem Take.back {S L R : List HProp} (t : Take S L R) : ∀ {h : Heap}, seps (L ++ R) h → seps S h := by
  induction t with
  | nil => exact fun H => H
  | cons p _ ih => exact fun {h} H => p.back (seps_cons_mono (fun _ => ih) H)

theorem seps_append_left {L R : List HProp} {h : Heap} (H : seps (L ++ R) h) : seps L h := by
  induction L generalizing h with
  | nil => trivial
  | cons A l ih => exact seps_cons_mono (fun _ => ih) H
theorem seps_append_right {L R : List HProp} {h : Heap} (H : seps (L ++ R) h) : seps R h := by
  induction L generalizing h with
  | nil => exact H
  | cons A l ih => exact ih (seps_tail H)
theorem seps_append_mono {L R T : List HProp} (hRT : ∀ h, seps R h → seps T h) {h : Heap} (H : seps (L ++ R) h) : seps (L ++ T) h := by
  induction L generalizing h with
  | nil => exact hRT _ H
  | cons A l ih => exact seps_cons_mono (fun _ => ih) H
theorem seps_append_mono_left {L M R : List HProp} (hLM : ∀ (T : List HProp) (h : Heap), seps (L ++ T) h → seps (M ++ T) h) {h : Heap} (H : seps (L ++ R) h) : seps (M ++ R) h := hLM _ _ H
/-- A list as one assertion. -/
theorem seps_fold {L R : List HProp} {h : Heap} (H : seps (L ++ R) h) : seps (L ++ [seps R]) h :=
  seps_append_mono (R := R) (T := [seps R]) (fun h hr => ⟨h, Heap.emp, hr, trivial, fun _ _ => .inr rfl, sub_refl _, fun _ _ _ e => by cases e⟩) H
theorem seps_unfold {L R : List HProp} {h : Heap} (H : seps (L ++ [seps R]) h) : seps (L ++ R) h :=
  seps_append_mono (R := [seps R]) (T := R) (fun h hr => by obtain ⟨h1, h2, a, _, _, s1, _⟩ := hr; exact seps_mono s1 a) H

/-! ### Worlds -/
/-- The memory when the law began: what lies below n0 stays. -/
structure Base where
  n0 : Nat
  w0 : World

def HV.ok (heap : Array Obj) (b : Nat) : Option Nat → HV → Prop
  | some o, .cell v => ∃ c t, heap[b]? = some (.cells c t (0, 0)) ∧ c[o]? = some v
  | none, .obj o => heap[b]? = some o ∧ o.isCells = false
  | none, .hdr t n => ∃ c, heap[b]? = some (.cells c t (0, 0)) ∧ c.size = n
  | _, _ => False
def InW (B : Base) (w : World) (h : Heap) : Prop := ∀ b k x, h b k = some x → B.n0 ≤ b ∧ HV.ok w.heap b k x

structure Sat (B : Base) (w : World) (S : List HProp) : Prop where
  below : Below B.n0 B.w0 w
  size : B.n0 ≤ B.w0.heap.size
  heap : ∃ h, InW B w h ∧ seps S h

theorem Sat.mono {B : Base} {w : World} {S T : List HProp} (hs : Sat B w S) (hST : ∀ h, seps S h → seps T h) : Sat B w T :=
  ⟨hs.below, hs.size, let ⟨h, a, b⟩ := hs.heap; ⟨h, a, hST _ b⟩⟩
theorem Sat.take {B : Base} {w : World} {S L R : List HProp} (hs : Sat B w S) (t : Take S L R) : Sat B w (L ++ R) := hs.mono fun _ => t.out
theorem Sat.pick {B : Base} {w : World} {S R : List HProp} {A : HProp} (hs : Sat B w S) (t : Pick S A R) : Sat B w (A :: R) := hs.mono fun _ => t.out

/-- The cells vs, from an offset of a block on. -/
def pts (b off : Nat) (vs : List Value) : HProp := fun h => ∀ i v, vs[i]? = some v → h b (some (off + i)) = some (.cell v)
/-- A block's type and size. -/
def hdr (b : Nat) (t : TypeId) (n : Nat) : HProp := fun h => h b none = some (.hdr t n)
/-- A block that is no row of cells. -/
def objAt (b : Nat) (o : Obj) : HProp := fun h => h b none = some (.obj o)
/-- Something that is so. -/
def pr (p : Prop) : HProp := fun _ => p

theorem pts_split {b off : Nat} {vs us : List Value} {S : List HProp} {h : Heap} (H : seps (pts b off (vs ++ us) :: S) h) : seps (pts b off vs :: pts b (off + vs.length) us :: S) h := by
  obtain ⟨h1, h2, a, s, d, s1, s2⟩ := H
  refine ⟨fun x k => if x = b ∧ (∃ i, i < vs.length ∧ k = some (off + i)) then h1 x k else none, Heap.union (fun x k => if x = b ∧ (∃ i, i < us.length ∧ k = some (off + vs.length + i)) then h1 x k else none) h2, ?_, ?_, ?_, ?_, ?_⟩
  · intro i v e
    have hi : i < vs.length := by rw [List.getElem?_eq_some_iff] at e; exact e.1
    dsimp only
    rw [if_pos ⟨rfl, i, hi, rfl⟩]
    exact a i v (by rw [List.getElem?_append_left hi]; exact e)
  · have dd : Heap.disj (fun x k => if x = b ∧ (∃ i, i < us.length ∧ k = some (off + vs.length + i)) then h1 x k else none) h2 := fun x k => by
      rcases d x k with e | e
      · left; dsimp only; split <;> simp_all
      · exact .inr e
    refine ⟨_, h2, ?_, s, dd, union_left _ _, union_right dd⟩
    intro i v e
    have hi : i < us.length := by rw [List.getElem?_eq_some_iff] at e; exact e.1
    dsimp only
    rw [if_pos ⟨rfl, i, hi, rfl⟩]
    have := a (vs.length + i) v (by rw [List.getElem?_append_right (by omega)]; simpa using e)
    rw [show off + vs.length + i = off + (vs.length + i) by omega]; exact this
  · intro x k
    dsimp only
    split
    · rename_i hc
      obtain ⟨rfl, i, hi, rfl⟩ := hc
      right
      simp only [Heap.union]
      rw [if_neg (by rintro ⟨_, j, hj, e⟩; simp at e; omega)]
      simp only [Option.none_or]
      rcases d x (some (off + i)) with e | e
      · obtain ⟨v, hv⟩ : ∃ v, (vs ++ us)[i]? = some v := ⟨(vs ++ us)[i]'(by simp; omega), by rw [List.getElem?_eq_getElem]⟩
        rw [a i v hv] at e; cases e
      · exact e
    · exact .inl rfl
  · intro x k v e
    dsimp only at e
    split at e
    · exact s1 _ _ _ e
    · cases e
  · refine union_sub ?_ s2
    intro x k v e
    dsimp only at e
    split at e
    · exact s1 _ _ _ e
    · cases e

theorem pts_join {b off : Nat} {vs us : List Value} {S : List HProp} {h : Heap} (H : seps (pts b off vs :: pts b (off + vs.length) us :: S) h) : seps (pts b off (vs ++ us) :: S) h := by
  obtain ⟨h1, h2, a, ⟨h3, h4, c, s, d2, s3, s4⟩, d, s1, s2⟩ := H
  have d13 : h1.disj h3 := disj_sub d s3
  have d14 : h1.disj h4 := disj_sub d s4
  refine ⟨h1.union h3, h4, ?_, s, union_disj d14 d2, union_sub s1 (sub_trans s3 s2), sub_trans s4 s2⟩
  intro i v e
  by_cases hi : i < vs.length
  · rw [List.getElem?_append_left hi] at e
    exact union_left _ _ _ _ _ (a i v e)
  · rw [List.getElem?_append_right (by omega)] at e
    have := c _ v e
    rw [show off + vs.length + (i - vs.length) = off + i by omega] at this
    exact union_right d13 _ _ _ this

theorem Sat.cell {B : Base} {w : World} {b off : Nat} {vs : List Value} {S : List HProp} (hs : Sat B w (pts b off vs :: S)) {i : Nat} {v : Value} (hv : vs[i]? = some v) :
    B.n0 ≤ b ∧ ∃ c t, w.heap[b]? = some (.cells c t (0, 0)) ∧ c[off + i]? = some v := by
  obtain ⟨_, _, h, hw, h1, h2, a, s, d, s1, s2⟩ := hs
  exact hw b (some (off + i)) (.cell v) (s1 _ _ _ (a i v hv))

theorem cell_of_heap {w : World} {b o : Nat} {c : Array Value} {t : TypeId} {fr : Nat × Nat} {v : Value} (h : w.heap[b]? = some (.cells c t fr)) (hc : c[o]? = some v) : w.cell? ⟨b, o, none⟩ = some v := by
  simp [World.cell?, h, hc]

theorem Sat.cell? {B : Base} {w : World} {b off : Nat} {vs : List Value} {S : List HProp} (hs : Sat B w (pts b off vs :: S)) {i : Nat} {v : Value} (hv : vs[i]? = some v) :
    w.cell? ⟨b, off + i, none⟩ = some v := by
  obtain ⟨_, c, t, h, hc⟩ := hs.cell hv
  exact cell_of_heap h hc

theorem Sat.frozen? {B : Base} {w : World} {b off : Nat} {vs : List Value} {S : List HProp} (hs : Sat B w (pts b off vs :: S)) {i : Nat} {v : Value} (hv : vs[i]? = some v) :
    w.frozen? ⟨b, off + i, none⟩ = false := by
  obtain ⟨_, c, t, h, hc⟩ := hs.cell hv
  simp [World.frozen?, h]

/-- One owned cell is written. -/
theorem Sat.setCell {B : Base} {w : World} {b off : Nat} {vs : List Value} {S : List HProp} (hs : Sat B w (pts b off vs :: S)) {i : Nat} (hi : i < vs.length) (u : Value) :
    Sat B (w.setCell ⟨b, off + i, none⟩ u) (pts b off (vs.set i u) :: S) := by
  obtain ⟨hnb, c0, t0, hb0, hc0⟩ := hs.cell (i := i) (v := vs[i]) (by simp [hi])
  obtain ⟨hbel, hsz, h, hw, h1, h2, a, s, d, s1, s2⟩ := hs
  refine ⟨hbel.setCell hnb _, hsz, fun x k => if x = b ∧ k = some (off + i) then some (.cell u) else h x k, ?_, fun x k => if x = b ∧ k = some (off + i) then some (.cell u) else h1 x k, h2, ?_, s, ?_, ?_, ?_⟩
  · intro x k y e
    dsimp only at e
    have key : ∀ (x : Nat) (c : Array Value) (t : TypeId) (fr : Nat × Nat), w.heap[x]? = some (Obj.cells c t fr) → (w.setCell ⟨b, off + i, none⟩ u).heap[x]? = some (Obj.cells (if x = b then c.setIfInBounds (off + i) u else c) t fr) := by
      intro x c t fr hx
      simp only [World.setCell, Array.getElem?_modify, hx, Option.map_some]
      split
      · rename_i hxb; subst hxb; simp
      · rename_i hxb; rw [if_neg (fun e => hxb e.symm)]
    split at e
    · rename_i hk
      obtain ⟨rfl, rfl⟩ := hk
      injection e with e; subst e
      refine ⟨hnb, _, _, key _ _ _ _ hb0, ?_⟩
      rw [if_pos rfl, Array.getElem?_setIfInBounds, if_pos rfl, if_pos (Array.getElem?_eq_some_iff.1 hc0).1]
    · rename_i hk
      obtain ⟨hn, hx⟩ := hw x k y e
      refine ⟨hn, ?_⟩
      cases k with
      | some o =>
        cases y with
        | cell v =>
          obtain ⟨c, t, hh, hc⟩ := hx
          refine ⟨_, _, key _ _ _ _ hh, ?_⟩
          split
          · rename_i hxb
            rw [Array.getElem?_setIfInBounds, if_neg]
            · exact hc
            · intro e; exact hk ⟨hxb, by rw [e]⟩
          · exact hc
        | obj o => exact hx
        | hdr t n => exact hx
      | none =>
        cases y with
        | cell v => exact hx
        | obj o =>
          refine ⟨?_, hx.2⟩
          have hxb : x ≠ b := by
            rintro rfl
            have h2 := hx.2; rw [hx.1] at hb0; injection hb0 with e; rw [e] at h2; simp [Obj.isCells] at h2
          rw [Below.heap_setCell _ _ _ _ hxb]; exact hx.1
        | hdr t n =>
          obtain ⟨c, hh, hc⟩ := hx
          refine ⟨_, key _ _ _ _ hh, ?_⟩
          split <;> simp [hc]
  · intro j v e
    dsimp only
    by_cases hj : j = i
    · subst hj
      rw [if_pos ⟨rfl, rfl⟩]
      rw [List.getElem?_set_self hi] at e; simpa using e
    · rw [if_neg (by rintro ⟨_, e⟩; simp at e; omega)]
      rw [List.getElem?_set_ne (fun e => hj e.symm)] at e
      exact a j v e
  · intro x k
    dsimp only
    split
    · rename_i hk; obtain ⟨rfl, rfl⟩ := hk
      rcases d x (some (off + i)) with e | e
      · rw [a i vs[i] (by simp [hi])] at e; cases e
      · exact .inr e
    · exact d x k
  · intro x k y e
    dsimp only at e ⊢
    split at e
    · rename_i hk; rw [if_pos hk]; exact e
    · rename_i hk; rw [if_neg hk]; exact s1 _ _ _ e
  · intro x k y e
    dsimp only
    split
    · rename_i hk; obtain ⟨rfl, rfl⟩ := hk
      rcases d x (some (off + i)) with f | f
      · rw [a i vs[i] (by simp [hi])] at f; cases f
      · rw [f] at e; cases e
    · exact s2 _ _ _ e

theorem Sat.drew {B : Base} {w : World} {S : List HProp} (hs : Sat B w S) : Sat B w.drew S :=
  ⟨hs.below.drew, hs.size, hs.heap⟩

/-- What is owned lies in blocks that are there. -/
theorem InW.lt {B : Base} {w : World} {h : Heap} (hw : InW B w h) {b : Nat} {k : Option Nat} {x : HV} (e : h b k = some x) : b < w.heap.size := by
  have := (hw b k x e).2
  have aux : ∀ {o : Obj}, w.heap[b]? = some o → b < w.heap.size := fun h => (Array.getElem?_eq_some_iff.1 h).1
  cases k with
  | some o => cases x with
    | cell v => obtain ⟨_, _, h, _⟩ := this; exact aux h
    | obj _ => exact this.elim
    | hdr _ _ => exact this.elim
  | none => cases x with
    | cell v => exact this.elim
    | obj _ => exact aux this.1
    | hdr _ _ => obtain ⟨_, h, _⟩ := this; exact aux h

theorem HV.ok_congr {heap heap' : Array Obj} {b : Nat} (h : heap'[b]? = heap[b]?) (k : Option Nat) (x : HV) : HV.ok heap' b k x ↔ HV.ok heap b k x := by
  unfold HV.ok
  rw [h]
theorem InW.mono_heap {B : Base} {w w' : World} {h : Heap} (hw : InW B w h) (hh : ∀ b, b < w.heap.size → w'.heap[b]? = w.heap[b]?) : InW B w' h := by
  intro b k x e
  exact ⟨(hw b k x e).1, (HV.ok_congr (hh b (hw.lt e)) k x).2 (hw b k x e).2⟩

/-- A new block. -/
theorem Sat.alloc {B : Base} {w : World} {S : List HProp} (hs : Sat B w S) (c : Array Value) (t : TypeId) :
    Sat B (w.alloc (.cells c t)) (pts w.heap.size 0 c.toList :: hdr w.heap.size t c.size :: S) := by
  obtain ⟨hbel, hsz, h, hw, hS⟩ := hs
  have hle : B.n0 ≤ w.heap.size := Nat.le_trans hsz hbel.size
  have hnone : ∀ k, h w.heap.size k = none := fun k => by
    cases e : h w.heap.size k with
    | none => rfl
    | some x => exact absurd (hw.lt e) (Nat.lt_irrefl _)
  have hnew : (w.alloc (.cells c t)).heap[w.heap.size]? = some (.cells c t (0, 0)) := World.alloc_heap_new w _
  refine ⟨hbel.alloc hle _, hsz, fun x k => if x = w.heap.size then (match k with | some o => (c[o]?).map .cell | none => some (.hdr t c.size)) else h x k, ?_, fun x k => if x = w.heap.size then (match k with | some o => (c[o]?).map .cell | none => none) else none,
    fun x k => if x = w.heap.size then (match k with | some o => none | none => some (.hdr t c.size)) else h x k, ?_, ⟨fun x k => if x = w.heap.size then (match k with | some o => none | none => some (.hdr t c.size)) else none, h, ?_, hS, ?_, ?_, ?_⟩, ?_, ?_, ?_⟩
  · intro x k y e
    dsimp only at e
    split at e
    · rename_i hx; subst hx
      refine ⟨hle, ?_⟩
      cases k with
      | some o =>
        dsimp only at e
        cases hc : c[o]? with
        | none => rw [hc] at e; cases e
        | some v => rw [hc] at e; simp at e; subst e; exact ⟨c, t, hnew, hc⟩
      | none => dsimp only at e; injection e with e; subst e; exact ⟨c, hnew, rfl⟩
    · exact (hw.mono_heap (w' := w.alloc (.cells c t)) fun b hb => Below.heap_alloc _ _ _ hb) x k y e
  · intro i v e
    dsimp only
    rw [if_pos rfl]
    simp only [Nat.zero_add]
    rw [show c[i]? = some v by simpa using e]; rfl
  · simp [hdr]
  · intro x k; dsimp only; split
    · rename_i hx; subst hx; exact .inr (hnone k)
    · exact .inl rfl
  · intro x k y e; dsimp only at e ⊢; split at e
    · rename_i hx; rw [if_pos hx]; exact e
    · cases e
  · intro x k y e; dsimp only; split
    · rename_i hx; subst hx; rw [hnone] at e; cases e
    · exact e
  · intro x k; dsimp only; split
    · cases k <;> simp
    · exact .inl rfl
  · intro x k y e; dsimp only at e ⊢; split at e
    · rename_i hx; rw [if_pos hx]; cases k with
      | some o => exact e
      | none => cases e
    · cases e
  · intro x k y e; dsimp only at e ⊢; split at e
    · rename_i hx; rw [if_pos hx]; cases k with
      | some o => cases e
      | none => exact e
    · rename_i hx; rw [if_neg hx]; exact e

/-- A new object. -/
theorem Sat.allocObj {B : Base} {w : World} {S : List HProp} (hs : Sat B w S) (o : Obj) (ho : o.isCells = false) :
    Sat B (w.alloc o) (objAt w.heap.size o :: S) := by
  obtain ⟨hbel, hsz, h, hw, hS⟩ := hs
  have hle : B.n0 ≤ w.heap.size := Nat.le_trans hsz hbel.size
  have hnone : ∀ k, h w.heap.size k = none := fun k => by
    cases e : h w.heap.size k with
    | none => rfl
    | some x => exact absurd (hw.lt e) (Nat.lt_irrefl _)
  have hnew : (w.alloc o).heap[w.heap.size]? = some o := World.alloc_heap_new w _
  refine ⟨hbel.alloc hle _, hsz, fun x k => if x = w.heap.size ∧ k = none then some (.obj o) else h x k, ?_, fun x k => if x = w.heap.size ∧ k = none then some (.obj o) else none, h, ?_, hS, ?_, ?_, ?_⟩
  · intro x k y e
    dsimp only at e
    split at e
    · rename_i hx; obtain ⟨rfl, rfl⟩ := hx
      injection e with e; subst e
      exact ⟨hle, hnew, ho⟩
    · exact (hw.mono_heap (w' := w.alloc o) fun b hb => Below.heap_alloc _ _ _ hb) x k y e
  · simp [objAt]
  · intro x k; dsimp only; split
    · rename_i hx; obtain ⟨rfl, rfl⟩ := hx; exact .inr (hnone _)
    · exact .inl rfl
  · intro x k y e; dsimp only at e ⊢; split at e
    · rename_i hx; rw [if_pos hx]; exact e
    · cases e
  · intro x k y e; dsimp only; split
    · rename_i hx; obtain ⟨rfl, rfl⟩ := hx; rw [hnone] at e; cases e
    · exact e

theorem Sat.obj {B : Base} {w : World} {b : Nat} {o : Obj} {S : List HProp} (hs : Sat B w (objAt b o :: S)) : B.n0 ≤ b ∧ w.heap[b]? = some o ∧ (o.isCells = false) := by
  obtain ⟨_, _, h, hw, h1, h2, a, s, d, s1, s2⟩ := hs
  exact hw b none (.obj o) (s1 _ _ _ a)

/-- An owned object is turned. -/
theorem Sat.setObj {B : Base} {w : World} {b : Nat} {o : Obj} {S : List HProp} (hs : Sat B w (objAt b o :: S)) (o' : Obj) (ho : o'.isCells = false) :
    Sat B { w with heap := w.heap.setIfInBounds b o' } (objAt b o' :: S) := by
  obtain ⟨hnb, hb, hoc⟩ := hs.obj
  have hlt := (Array.getElem?_eq_some_iff.1 hb).1
  obtain ⟨hbel, hsz, h, hw, h1, h2, a, s, d, s1, s2⟩ := hs
  have hsame : ∀ x, x ≠ b → (w.heap.setIfInBounds b o')[x]? = w.heap[x]? := fun x hx => by rw [Array.getElem?_setIfInBounds, if_neg (fun e => hx e.symm)]
  have hd2 : h2 b none = none := by
    rcases d b none with e | e
    · rw [a] at e; cases e
    · exact e
  refine ⟨hbel.trans ⟨rfl, rfl, rfl, by simp, fun k hk => hsame k (by omega)⟩, hsz, fun x k => if x = b ∧ k = none then some (.obj o') else h x k, ?_, fun x k => if x = b ∧ k = none then some (.obj o') else none, h2, by simp [objAt], s, ?_, ?_, ?_⟩
  · intro x k y e
    dsimp only at e
    split at e
    · rename_i hx; obtain ⟨rfl, rfl⟩ := hx
      injection e with e; subst e
      exact ⟨hnb, by simp [hlt], ho⟩
    · rename_i hk
      obtain ⟨hn, hx⟩ := hw x k y e
      have hxb : x ≠ b := by
        rintro rfl
        cases k with
        | none => exact hk ⟨rfl, rfl⟩
        | some o2 => cases y with
          | cell v =>
            obtain ⟨c, t, hh, _⟩ := hx; rw [hb] at hh; injection hh with hh
            rw [hh] at hoc; simp [Obj.isCells] at hoc
          | obj _ => exact hx
          | hdr _ _ => exact hx
      refine ⟨hn, ?_⟩
      have e1 : HV.ok (w.heap.setIfInBounds b o') x k y ↔ HV.ok w.heap x k y := by
        unfold HV.ok
        rw [hsame x hxb]
      exact e1.2 hx
  · intro x k; dsimp only; split
    · rename_i hx; obtain ⟨rfl, rfl⟩ := hx; exact .inr hd2
    · exact .inl rfl
  · intro x k y e; dsimp only at e ⊢; split at e
    · rename_i hx; rw [if_pos hx]; exact e
    · cases e
  · intro x k y e; dsimp only; split
    · rename_i hx; obtain ⟨rfl, rfl⟩ := hx; rw [hd2] at e; cases e
    · exact s2 _ _ _ e

end Go.Rz

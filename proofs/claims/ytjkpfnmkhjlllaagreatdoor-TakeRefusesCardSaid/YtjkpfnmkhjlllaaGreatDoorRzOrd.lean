/- Texts in their order; lists of items that rise. No program in sight. -/
import GoSem.Op.String
import Derived.Laws.Strings
set_option linter.unusedVariables false
set_option linter.unusedSimpArgs false
namespace Go.Rz
set_option linter.unusedVariables false

/-! ### The order of texts -/
theorem bl_irrefl : ∀ l : List UInt8, Op.bytesLess l l = false
  | [] => rfl
  | a :: l => by simp [Op.bytesLess, bl_irrefl l]
theorem bl_trans : ∀ {a b c : List UInt8}, Op.bytesLess a b = true → Op.bytesLess b c = true → Op.bytesLess a c = true
  | [], [], _, h, _ => by simp [Op.bytesLess] at h
  | [], _ :: _, [], _, h => by simp [Op.bytesLess] at h
  | [], _ :: _, _ :: _, _, _ => by simp [Op.bytesLess]
  | _ :: _, [], _, h, _ => by simp [Op.bytesLess] at h
  | _ :: _, _ :: _, [], _, h => by simp [Op.bytesLess] at h
  | x :: a, y :: b, z :: c, h, g => by
    simp only [Op.bytesLess, Bool.or_eq_true, decide_eq_true_eq, Bool.and_eq_true, beq_iff_eq] at h g ⊢
    rcases h with h | ⟨rfl, h⟩
    · rcases g with g | ⟨rfl, g⟩
      · exact .inl (UInt8.lt_trans h g)
      · exact .inl h
    · rcases g with g | ⟨rfl, g⟩
      · exact .inl g
      · exact .inr ⟨rfl, bl_trans h g⟩
theorem bl_total : ∀ a b : List UInt8, Op.bytesLess a b = true ∨ a = b ∨ Op.bytesLess b a = true
  | [], [] => .inr (.inl rfl)
  | [], _ :: _ => .inl (by simp [Op.bytesLess])
  | _ :: _, [] => .inr (.inr (by simp [Op.bytesLess]))
  | x :: a, y :: b => by
    simp only [Op.bytesLess, Bool.or_eq_true, decide_eq_true_eq, Bool.and_eq_true, beq_iff_eq, List.cons.injEq]
    rcases Nat.lt_trichotomy x.toNat y.toNat with h | h | h
    · exact .inl (.inl h)
    · have hxy : x = y := UInt8.toNat_inj.1 h
      subst hxy
      rcases bl_total a b with h | h | h
      · exact .inl (.inr ⟨rfl, h⟩)
      · exact .inr (.inl ⟨rfl, h⟩)
      · exact .inr (.inr (.inr ⟨rfl, h⟩))
    · exact .inr (.inr (.inl h))

theorem bl_inj {a b : ByteArray} (h : a.toList = b.toList) : a = b := by
  have ha : ∀ x : ByteArray, x.toList = x.data.toList := fun x => by simp [ByteArray.toList_eq]
  rw [ha, ha] at h
  cases a; cases b; simp at h; simp [Array.ext_iff] at *; exact h

/-- A text is ahead of another one. -/
def blt (a b : ByteArray) : Prop := Op.bytesLess a.toList b.toList = true
instance (a b : ByteArray) : Decidable (blt a b) := inferInstanceAs (Decidable (_ = true))
theorem blt_irrefl (a : ByteArray) : ¬ blt a a := by simp [blt, bl_irrefl]
theorem blt_trans {a b c : ByteArray} (h : blt a b) (g : blt b c) : blt a c := bl_trans h g
theorem blt_total (a b : ByteArray) : blt a b ∨ a = b ∨ blt b a := by
  rcases bl_total a.toList b.toList with h | h | h
  · exact .inl h
  · exact .inr (.inl (bl_inj h))
  · exact .inr (.inr h)
theorem blt_asymm {a b : ByteArray} (h : blt a b) : ¬ blt b a := fun g => blt_irrefl _ (blt_trans h g)
theorem blt_ne {a b : ByteArray} (h : blt a b) : a ≠ b := fun e => blt_irrefl _ (e ▸ h)

/-! ### Items that rise -/
structure It where
  k : ByteArray
  v : ByteArray

def Srt (l : List It) : Prop := l.Pairwise fun a b => blt a.k b.k
/-- All of a list lie ahead of a key; behind it. -/
def AllLt (l : List It) (k : ByteArray) : Prop := ∀ x ∈ l, blt x.k k
def AllGt (l : List It) (k : ByteArray) : Prop := ∀ x ∈ l, blt k x.k

theorem Srt.app {l m : List It} : Srt (l ++ m) ↔ Srt l ∧ Srt m ∧ ∀ x ∈ l, ∀ y ∈ m, blt x.k y.k := by
  unfold Srt; rw [List.pairwise_append]
theorem Srt.cons {x : It} {l : List It} : Srt (x :: l) ↔ AllGt l x.k ∧ Srt l := by
  unfold Srt AllGt; rw [List.pairwise_cons]
theorem Srt.nil : Srt [] := List.Pairwise.nil
theorem Srt.one (x : It) : Srt [x] := by simp [Srt]

/-- How many are ahead of a key. -/
def rankL (l : List It) (k : ByteArray) : Nat := (l.takeWhile fun x => decide (blt x.k k)).length
def hasL (l : List It) (k : ByteArray) : Prop := ∃ x ∈ l, x.k = k
instance (l : List It) (k : ByteArray) : Decidable (hasL l k) := inferInstanceAs (Decidable (∃ x ∈ l, x.k = k))
/-- What is under a key. -/
def getL (l : List It) (k : ByteArray) : Option ByteArray := (l.find? fun x => decide (x.k = k)).map (·.v)
/-- An item is put in. -/
def putL : List It → It → List It
  | [], x => [x]
  | y :: l, x => if blt y.k x.k then y :: putL l x else if y.k = x.k then x :: l else x :: y :: l
/-- A key is taken away. -/
def delL (l : List It) (k : ByteArray) : List It := l.filter fun x => decide (x.k ≠ k)

theorem AllGt.not_mem {l : List It} {k : ByteArray} (h : AllGt l k) {x : It} (hx : x ∈ l) : x.k ≠ k := fun e => blt_irrefl _ (e ▸ h x hx : blt k k)
theorem AllLt.not_mem {l : List It} {k : ByteArray} (h : AllLt l k) {x : It} (hx : x ∈ l) : x.k ≠ k := fun e => blt_irrefl _ (e ▸ h x hx : blt k k)
theorem AllLt.app {l m : List It} {k : ByteArray} : AllLt (l ++ m) k ↔ AllLt l k ∧ AllLt m k := by simp [AllLt, or_imp, forall_and]
theorem AllGt.app {l m : List It} {k : ByteArray} : AllGt (l ++ m) k ↔ AllGt l k ∧ AllGt m k := by simp [AllGt, or_imp, forall_and]
theorem AllLt.cons {x : It} {m : List It} {k : ByteArray} : AllLt (x :: m) k ↔ blt x.k k ∧ AllLt m k := by simp [AllLt]
theorem AllGt.cons {x : It} {m : List It} {k : ByteArray} : AllGt (x :: m) k ↔ blt k x.k ∧ AllGt m k := by simp [AllGt]
theorem AllLt.trans {l : List It} {a b : ByteArray} (h : AllLt l a) (g : blt a b) : AllLt l b := fun x hx => blt_trans (h x hx) g
theorem AllGt.trans {l : List It} {a b : ByteArray} (h : AllGt l b) (g : blt a b) : AllGt l a := fun x hx => blt_trans g (h x hx)

theorem putL_split {l m : List It} {x : It} (hl : AllLt l x.k) (hm : AllGt m x.k) : putL (l ++ m) x = l ++ x :: m := by
  induction l with
  | nil => cases m with
    | nil => rfl
    | cons y m =>
      have := hm y (by simp)
      simp only [List.nil_append, putL]
      rw [if_neg (blt_asymm this), if_neg (fun e => blt_ne this e.symm)]
  | cons y l ih =>
    rw [AllLt.cons] at hl
    simp only [List.cons_append, putL]
    rw [if_pos hl.1, ih hl.2]
theorem putL_same {l m : List It} {x y : It} (hl : AllLt l x.k) (he : y.k = x.k) : putL (l ++ y :: m) x = l ++ x :: m := by
  induction l with
  | nil => simp only [List.nil_append, putL]; rw [if_neg (by rw [he]; exact blt_irrefl _), if_pos he]
  | cons z l ih =>
    rw [AllLt.cons] at hl
    simp only [List.cons_append, putL]
    rw [if_pos hl.1, ih hl.2]
theorem delL_app (l m : List It) (k : ByteArray) : delL (l ++ m) k = delL l k ++ delL m k := by simp [delL]
theorem delL_lt {l : List It} {k : ByteArray} (h : AllLt l k) : delL l k = l := by
  unfold delL; rw [List.filter_eq_self]; intro x hx; simpa using h.not_mem hx
theorem delL_gt {l : List It} {k : ByteArray} (h : AllGt l k) : delL l k = l := by
  unfold delL; rw [List.filter_eq_self]; intro x hx; simpa using h.not_mem hx
theorem delL_none {l : List It} {k : ByteArray} (h : ¬ hasL l k) : delL l k = l := by
  unfold delL; rw [List.filter_eq_self]; intro x hx; simpa using fun e => h ⟨x, hx, e⟩
theorem delL_split {l m : List It} {x : It} (hl : AllLt l x.k) (hm : AllGt m x.k) : delL (l ++ x :: m) x.k = l ++ m := by
  rw [delL_app, delL_lt hl]
  have : delL (x :: m) x.k = delL m x.k := by simp [delL]
  rw [this, delL_gt hm]
/-- A list that rises, parted at a key. -/
theorem Srt.part {l : List It} (h : Srt l) (k : ByteArray) : (∃ a b, l = a ++ b ∧ AllLt a k ∧ AllGt b k ∧ ¬ hasL l k) ∨ ∃ a x b, l = a ++ x :: b ∧ x.k = k ∧ AllLt a k ∧ AllGt b k := by
  induction l with
  | nil => exact .inl ⟨[], [], rfl, by simp [AllLt], by simp [AllGt], by simp [hasL]⟩
  | cons y l ih =>
    rw [Srt.cons] at h
    rcases blt_total y.k k with hy | hy | hy
    · rcases ih h.2 with ⟨a, b, rfl, ha, hb, hn⟩ | ⟨a, x, b, rfl, hx, ha, hb⟩
      · refine .inl ⟨y :: a, b, rfl, AllLt.cons.2 ⟨hy, ha⟩, hb, ?_⟩
        rintro ⟨x, hx, e⟩
        rcases List.mem_cons.1 hx with rfl | hx
        · exact blt_ne hy e
        · exact hn ⟨x, hx, e⟩
      · exact .inr ⟨y :: a, x, b, rfl, hx, AllLt.cons.2 ⟨hy, ha⟩, hb⟩
    · exact .inr ⟨[], y, l, rfl, hy, by simp [AllLt], hy ▸ h.1⟩
    · have : AllGt (y :: l) k := AllGt.cons.2 ⟨hy, h.1.trans hy⟩
      exact .inl ⟨[], y :: l, rfl, by simp [AllLt], this, fun ⟨x, hx, e⟩ => this.not_mem hx e⟩
theorem hasL_mid {a b : List It} {x : It} : hasL (a ++ x :: b) x.k := ⟨x, by simp, rfl⟩
theorem hasL_app {a b : List It} {k : ByteArray} : hasL (a ++ b) k ↔ hasL a k ∨ hasL b k := by simp [hasL, or_and_right, exists_or]
theorem hasL_cons {x : It} {b : List It} {k : ByteArray} : hasL (x :: b) k ↔ x.k = k ∨ hasL b k := by simp [hasL]
theorem hasL_lt {a : List It} {k : ByteArray} (h : AllLt a k) : ¬ hasL a k := fun ⟨_, hx, e⟩ => h.not_mem hx e
theorem hasL_gt {a : List It} {k : ByteArray} (h : AllGt a k) : ¬ hasL a k := fun ⟨_, hx, e⟩ => h.not_mem hx e
theorem getL_mid {a b : List It} {x : It} (h : AllLt a x.k) : getL (a ++ x :: b) x.k = some x.v := by
  unfold getL
  rw [List.find?_append, List.find?_eq_none.2 (fun y hy => by simpa using h.not_mem hy)]
  simp
theorem getL_none {l : List It} {k : ByteArray} (h : ¬ hasL l k) : getL l k = none := by
  unfold getL
  rw [List.find?_eq_none.2 (fun y hy => by simpa using fun e => h ⟨y, hy, e⟩)]; rfl
theorem getL_some {l : List It} {k : ByteArray} : (getL l k).isSome = true ↔ hasL l k := by
  unfold getL hasL
  rw [Option.isSome_map, List.find?_isSome]; simp
theorem Srt.put {l : List It} (h : Srt l) (x : It) : Srt (putL l x) := by
  rcases h.part x.k with ⟨a, b, rfl, ha, hb, -⟩ | ⟨a, y, b, rfl, hy, ha, hb⟩
  · rw [putL_split ha hb]
    rw [Srt.app] at h ⊢
    refine ⟨h.1, Srt.cons.2 ⟨hb, h.2.1⟩, fun u hu y hy => ?_⟩
    rcases List.mem_cons.1 hy with rfl | hy
    · exact ha u hu
    · exact h.2.2 u hu y hy
  · rw [putL_same ha hy]
    rw [Srt.app, Srt.cons] at h ⊢
    refine ⟨h.1, ⟨by rw [← hy]; exact h.2.1.1, h.2.1.2⟩, fun u hu z hz => ?_⟩
    rcases List.mem_cons.1 hz with rfl | hz
    · exact ha u hu
    · exact h.2.2 u hu z (by simp [hz])
theorem Srt.del {l : List It} (h : Srt l) (k : ByteArray) : Srt (delL l k) := List.Pairwise.sublist (List.filter_sublist ..) h
theorem putL_length_new {l : List It} {x : It} (h : Srt l) (hn : ¬ hasL l x.k) : (putL l x).length = l.length + 1 := by
  rcases h.part x.k with ⟨a, b, rfl, ha, hb, -⟩ | ⟨a, y, b, rfl, hy, ha, hb⟩
  · rw [putL_split ha hb]; simp; omega
  · exact absurd (hy ▸ hasL_mid) hn
theorem putL_length_old {l : List It} {x : It} (h : Srt l) (hn : hasL l x.k) : (putL l x).length = l.length := by
  rcases h.part x.k with ⟨a, b, rfl, ha, hb, hno⟩ | ⟨a, y, b, rfl, hy, ha, hb⟩
  · exact absurd hn hno
  · rw [putL_same ha hy]; simp
theorem delL_length {l : List It} {k : ByteArray} (h : Srt l) (hn : hasL l k) : (delL l k).length + 1 = l.length := by
  rcases h.part k with ⟨a, b, rfl, ha, hb, hno⟩ | ⟨a, y, b, rfl, hy, ha, hb⟩
  · exact absurd hn hno
  · subst hy; rw [delL_split ha hb]; simp; omega
end Go.Rz

/- Slices: what is owned of them, and the operations on them. -/
import Derived.Test.YtjkpfnmkhjlllaaGreatDoorRzFind
import Derived.Laws.Append
import Derived.ArgAppend
set_option linter.unusedVariables false
set_option linter.unusedSimpArgs false
namespace Go.Rz
open Go.RowKit (Below)
set_option linter.unusedVariables false

/-! ### Rows of cells -/
def flat {α : Type} (enc : α → List Value) (l : List α) : List Value := (l.map enc).flatten
class Uni {α : Type} (enc : α → List Value) (esz : outParam Nat) : Prop where
  len : ∀ x, (enc x).length = esz
  one : ∀ x, (enc x).all one = true

section
variable {α : Type} {enc : α → List Value} {esz : Nat}
@[simp] theorem flat_nil : flat enc [] = [] := rfl
@[simp] theorem flat_cons (x : α) (l : List α) : flat enc (x :: l) = enc x ++ flat enc l := rfl
@[simp] theorem flat_append (l m : List α) : flat enc (l ++ m) = flat enc l ++ flat enc m := by simp [flat]
theorem flat_one_elem (x : α) : flat enc [x] = enc x := by simp [flat]
theorem flat_length (u : Uni enc esz) : ∀ l : List α, (flat enc l).length = l.length * esz
  | [] => by simp
  | x :: l => by simp [u.len x, flat_length u l, Nat.add_mul, Nat.add_comm]
theorem flat_all (u : Uni enc esz) : ∀ l : List α, (flat enc l).all one = true
  | [] => rfl
  | x :: l => by simp only [flat_cons, List.all_append, u.one x, flat_all u l, Bool.and_true]
theorem flat_drop (u : Uni enc esz) : ∀ (l : List α) (k : Nat), (flat enc l).drop (k * esz) = flat enc (l.drop k)
  | [], k => by simp
  | x :: l, 0 => by simp
  | x :: l, k + 1 => by
    rw [flat_cons, Nat.add_mul, Nat.one_mul, Nat.add_comm, ← List.drop_drop, show (enc x ++ flat enc l).drop esz = flat enc l by rw [List.drop_append_of_le_length (by rw [u.len x]; exact Nat.le_refl _)]; simp [← u.len x]]
    exact flat_drop u l k
theorem flat_take (u : Uni enc esz) : ∀ (l : List α) (k : Nat), (flat enc l).take (k * esz) = flat enc (l.take k)
  | [], k => by simp
  | x :: l, 0 => by simp
  | x :: l, k + 1 => by
    rw [flat_cons, Nat.add_mul, Nat.one_mul, List.take_succ_cons, flat_cons, ← flat_take u l k, List.take_append, u.len x, show k * esz + esz - esz = k * esz by omega, List.take_of_length_le (by rw [u.len x]; omega)]
theorem flat_get (u : Uni enc esz) {l : List α} {k d : Nat} {x : α} {v : Value} (hk : l[k]? = some x) (hv : (enc x)[d]? = some v) : (flat enc l)[k * esz + d]? = some v := by
  have hd : d < esz := by rw [← u.len x]; exact (List.getElem?_eq_some_iff.1 hv).1
  have h1 : l.drop k = x :: l.drop (k + 1) := by
    obtain ⟨h, e⟩ := List.getElem?_eq_some_iff.1 hk
    rw [List.drop_eq_getElem_cons h, e]
  rw [← List.getElem?_drop, flat_drop u, h1, flat_cons, List.getElem?_append_left (by rw [u.len x]; exact hd), hv]
theorem flat_splice (u : Uni enc esz) {l : List α} {k d : Nat} {x x' : α} {us : List Value} (hk : l[k]? = some x) (hd : d + us.length ≤ esz) (hx : enc x' = splice (enc x) d us) : splice (flat enc l) (k * esz + d) us = flat enc (l.set k x') := by
  obtain ⟨h, e⟩ := List.getElem?_eq_some_iff.1 hk
  have hl : l = l.take k ++ x :: l.drop (k + 1) := by rw [← e, ← List.drop_eq_getElem_cons h, List.take_append_drop]
  have hs : l.set k x' = l.take k ++ x' :: l.drop (k + 1) := by
    rw [List.set_eq_take_append_cons_drop, if_pos h]
  have hlt : (flat enc (l.take k)).length = k * esz := by rw [flat_length u, List.length_take, Nat.min_eq_left (by omega)]
  have hxl := u.len x
  rw [splice_eq _ _ _ (by rw [flat_length u]; have : (k + 1) * esz ≤ l.length * esz := Nat.mul_le_mul_right _ h; rw [Nat.add_mul, Nat.one_mul] at this; omega)]
  rw [splice_eq _ _ _ (by omega)] at hx
  rw [hs, flat_append, flat_cons, hx]
  conv => lhs; rw [hl, flat_append, flat_cons]
  rw [← hlt, List.take_append, List.drop_append]
  simp only [show (flat enc (l.take k)).length + d - (flat enc (l.take k)).length = d by omega, show (flat enc (l.take k)).length + d + us.length - (flat enc (l.take k)).length = d + us.length by omega]
  rw [List.take_of_length_le (by omega), List.drop_of_length_le (l := flat enc (l.take k)) (by omega), List.take_append_of_le_length (by omega), List.drop_append_of_le_length (by omega)]
  simp
end

/-! ### A slice that is owned, with what lies behind its length -/
def wf (a : Option Addr) (n cap : Nat) : Prop := (a = none ∧ n = 0 ∧ cap = 0) ∨ ∃ b off, a = some ⟨b, off, none⟩ ∧ n ≤ cap
def sl (a : Option Addr) (n cap esz : Nat) (us : List Value) : HProp := fun h => us.length = n * esz ∧ wf a n cap ∧
  ∀ b off, a = some ⟨b, off, none⟩ → ∃ junk : List Value, junk.length = (cap - n) * esz ∧ pts b off (us ++ junk) h
/-- Cells that were there ahead of the call, or that are nobody's to change. -/
def ro (B : Base) (b off : Nat) (vs : List Value) : HProp := pr (b < B.n0 ∧ ∀ i v, vs[i]? = some v → B.w0.cell? ⟨b, off + i, none⟩ = some v)

theorem pts_pre {b off : Nat} {vs us : List Value} {h : Heap} (H : pts b off (vs ++ us) h) : pts b off vs h := fun i v e => H i v (by rw [List.getElem?_append_left (List.getElem?_eq_some_iff.1 e).1, e])

theorem RdF_sl {B : Base} {b off n cap esz : Nat} {us : List Value} : RdF B (sl (some ⟨b, off, none⟩) n cap esz us) b off us := fun w R hs i v hv => by
  have hs' : Sat B w (pts b off us :: R) := hs.mono fun h => seps_head_mono fun h H => by
    obtain ⟨_, _, h3⟩ := H
    obtain ⟨junk, _, hp⟩ := h3 b off rfl
    exact pts_pre hp
  exact hs'.cell? hv

theorem Sat.headPr {B : Base} {w : World} {A : HProp} {S : List HProp} (hs : Sat B w (A :: S)) {p : Prop} (h : ∀ g, A g → p) : p := by
  obtain ⟨_, _, g, _, h1, h2, a, _⟩ := hs
  exact h _ a

theorem RdF_ro {B : Base} {b off : Nat} {vs : List Value} : RdF B (ro B b off vs) b off vs := fun w R hs i v hv => by
  have hp := hs.headPr (p := b < B.n0 ∧ ∀ i v, vs[i]? = some v → B.w0.cell? ⟨b, off + i, none⟩ = some v) fun g H => H
  exact RdF_base (F := ro B b off vs) hp.1 hp.2 w R hs i v hv

theorem sl_len {B : Base} {w : World} {a : Option Addr} {n cap esz : Nat} {us : List Value} {S : List HProp} (hs : Sat B w (sl a n cap esz us :: S)) : us.length = n * esz ∧ wf a n cap := hs.headPr fun g H => ⟨H.1, H.2.1⟩

/-! ### append -/
section
variable {P : Program} {B : Base} {r : Option Nat} {n : Nat}

/-- What can be read of a slice that is appended. -/
def Src (B : Base) (F : HProp) (a : Option Addr) (m : Nat) (us : List Value) : Prop := m = 0 ∨ ∃ b q, a = some ⟨b, q, none⟩ ∧ RdF B F b q us

theorem Src.cells {B : Base} {w : World} {F : HProp} {R : List HProp} {a : Option Addr} {m esz c : Nat} {us : List Value} (h : Src B F a m us) (hs : Sat B w (F :: R)) (hl : us.length = m * esz) :
    (Builtin.firstCells esz m (.slice a m c)).run P w = .ok us.toArray w := by
  rcases h with rfl | ⟨b, q, rfl, hr⟩
  · obtain rfl : us = [] := by simpa using hl
    cases a with
    | none => simp [Builtin.firstCells]
    | some a => exact run_firstCells_some (P := P) w esz 0 a 0 c [] (by simp) (by simp)
  · exact run_firstCells_some (P := P) w esz m ⟨b, q, none⟩ m c us hl (fun j v hj => by
      have := hr w R hs j v hj
      simpa [Addr.add_lit] using this)

theorem append_run {w : World} {t ty e : TypeId} {ti : TypeInfo} {z : Value} (ht : P.underlying t = some (.slice e)) (hi : P.info? e = some ti) (hz : ti.zero = some z) (hzs : z.cells.size = ti.size) (hsz : 0 < ti.size)
    {a a2 : Option Addr} {l cap m c : Nat} {us news : List Value} {F : HProp} {S : List HProp} (hs : Sat B w (sl a l cap ti.size us :: F :: S)) (hsrc : Src B F a2 m news) (hl : news.length = m * ti.size) (h1 : news.all one = true)
    (h63 : l + m ≤ maxLen) (hbytes : (l + m) * ti.bytes ≤ 140737488355328) :
    ∃ a' cap' w', (Builtin.append_ #[t, t] ty #[.slice a l cap, .slice a2 m c]).run P w = .ok (.slice a' (l + m) cap') w' ∧ wf a' (l + m) cap' ∧ Sat B w' (sl a' (l + m) cap' ti.size (us ++ news) :: F :: S) := by
  obtain ⟨hul, hwf⟩ := sl_len hs
  have hsF : Sat B w (F :: sl a l cap ti.size us :: S) := hs.mono fun h => seps_swap
  have hfc := hsrc.cells (P := P) (c := c) hsF hl
  by_cases hroom : l + m ≤ cap
  · rcases hwf with ⟨rfl, rfl, rfl⟩ | ⟨b, off, rfl, hle⟩
    · obtain rfl : m = 0 := by omega
      obtain rfl : news = [] := by simpa using hl
      refine ⟨none, 0, w, ?_, .inl ⟨rfl, rfl, rfl⟩, ?_⟩
      · simp [Builtin.append_, run_underlying ht, sizeOf, typeInfo, hi, Builtin.lenOf, hfc]
      · simpa using hs
    · have hs1 : ∃ junk : List Value, junk.length = (cap - l) * ti.size ∧ Sat B w (pts b off (us ++ junk) :: F :: S) := by
        obtain ⟨hbel, hszz, h, hw, g1, g2, ga, gs, gd, s1, s2⟩ := hs
        obtain ⟨_, _, g3⟩ := ga
        obtain ⟨junk, hj, hp⟩ := g3 b off rfl
        exact ⟨junk, hj, hbel, hszz, h, hw, g1, g2, hp, gs, gd, s1, s2⟩
      obtain ⟨junk, hj, hs2⟩ := hs1
      have hmul : m * ti.size ≤ (cap - l) * ti.size := Nat.mul_le_mul_right _ (by omega)
      have hs3 : Sat B w (pts b (off + us.length) junk :: pts b off us :: F :: S) := hs2.mono fun h H => seps_swap (pts_split H)
      obtain ⟨w', r1, r2⟩ := storeCells_run (P := P) news 0 junk w hs3 (by omega) h1
      refine ⟨some ⟨b, off, none⟩, cap, w', ?_, .inr ⟨b, off, rfl, hroom⟩, ?_⟩
      · rw [hul] at r1
        simp [Builtin.append_, run_underlying ht, sizeOf, typeInfo, hi, Builtin.lenOf, hroom, hfc, Addr.add_lit, r1]
      · simp only [List.take_zero, List.nil_append, Nat.zero_add] at r2
        refine r2.mono fun h H => seps_head_mono (A := pts b off (us ++ (news ++ junk.drop news.length))) (fun g hg => ⟨by simp [hul, hl, Nat.add_mul], .inr ⟨b, off, rfl, hroom⟩, fun b' off' e => ⟨junk.drop news.length, ?_, ?_⟩⟩) (pts_join (seps_swap H))
        · rw [List.length_drop, hj, hl, ← Nat.sub_mul]; congr 1; omega
        · simp only [Option.some.injEq, Addr.mk.injEq] at e
          obtain ⟨rfl, rfl, _⟩ := e
          simpa using hg
  · have hcap : cap < l + m := by omega
    have hnew : ∀ (w' : World) (g k : Nat) (os : List Value), os = us ++ news ++ (Builtin.zeroCells z.cells (grownCap w (l + m) cap e - (l + m))).toList → Sat B w' (pts g 0 os :: hdr g e k :: sl a l cap ti.size us :: F :: S) →
        Sat B w' (sl (some ⟨g, 0, none⟩) (l + m) (grownCap w (l + m) cap e) ti.size (us ++ news) :: F :: S) := by
      intro w' g k os ho hs'
      refine hs'.mono fun h H => seps_head_mono (A := pts g 0 os) (fun x hx => ⟨by simp [hul, hl, Nat.add_mul], .inr ⟨g, 0, rfl, grownCap_ge ..⟩, fun b' off' e' => ?_⟩) (seps_cons_mono (fun _ H => seps_tail (seps_tail H)) H)
      simp only [Option.some.injEq, Addr.mk.injEq] at e'
      obtain ⟨rfl, rfl, _⟩ := e'
      exact ⟨_, by simp [size_zeroCells, hzs], ho ▸ hx⟩
    have hm : m ≠ 0 := by
      rintro rfl
      rcases hwf with ⟨_, rfl, rfl⟩ | ⟨_, _, _, h⟩ <;> omega
    rcases hsrc with h0 | ⟨b2, q2, rfl, hr⟩
    · exact absurd h0 hm
    have hnews : ∀ j v, news[j]? = some v → w.cell? ((⟨b2, q2, none⟩ : Addr).add j) = some v := fun j v hj => by
      have := hr w _ hsF j v hj
      simpa [Addr.add_lit] using this
    have hfit := growslice_fits hcap hbytes
    have h63' : ((l + m : Nat) : Int) ≤ 9223372036854775807 := by simp only [maxLen] at h63; omega
    rcases hwf with ⟨rfl, rfl, rfl⟩ | ⟨b, off, rfl, hle⟩
    · have hu : us = [] := by simpa using hul
      subst hu
      have := run_append_nil (P := P) w t ty e ti z ht hi hz ⟨b2, q2, none⟩ m c news hl hnews (by omega) (by simpa using h63') (by rw [nextslicecap_zero (by omega)] at hfit; simpa using hfit)
      rw [Nat.zero_add] at hnew ⊢
      refine ⟨_, _, _, this, .inr ⟨_, _, rfl, grownCap_ge ..⟩, hnew _ _ _ _ ?_ (hs.drew.alloc (news.toArray ++ Builtin.zeroCells z.cells (grownCap w m 0 e - m)) e)⟩
      simp
    · have := run_append_grow (P := P) w t ty e ti z ht hi hz ⟨b, off, none⟩ l cap us hul (fun j v hj => by have := (RdF_sl (B := B)) w _ hs j v hj; simpa [Addr.add_lit] using this) ⟨b2, q2, none⟩ m c news hl hnews hcap h63' hfit
      refine ⟨_, _, _, this, .inr ⟨_, _, rfl, grownCap_ge ..⟩, hnew _ _ _ _ ?_ (hs.drew.alloc (us.toArray ++ news.toArray ++ Builtin.zeroCells z.cells (grownCap w (l + m) cap e - (l + m))) e)⟩
      simp
end
end Go.Rz

/- plain: what the parts of a view are, point by point. -/
import Derived.Test.YtjkpfnmkhjlllaaGreatDoorRzHold5
set_option linter.unusedVariables false
set_option linter.unusedSimpArgs false
open Go Go.Rz
set_option maxRecDepth 4000
namespace Go.Rz
def Inc (L : List Pv) : Prop := L.Pairwise (fun a b => a.f < b.f)
structure Vok (L : List Pv) : Prop where
  srt : Inc L
  u : ∀ p ∈ L, U p.f
  z : L ≠ [] → ∃ p ∈ L, p.f = 0
/-- The part that holds a point. -/
def At (L : List Pv) (y : Int) (p : Pv) : Prop := p ∈ L ∧ p.f ≤ y ∧ ∀ q ∈ L, q.f ≤ y → q.f ≤ p.f
theorem Inc.uniq {L : List Pv} (h : Inc L) {a b : Pv} (ha : a ∈ L) (hb : b ∈ L) (e : a.f = b.f) : a = b := by
  induction L with
  | nil => cases ha
  | cons p l ih =>
    have h1 := List.pairwise_cons.1 h
    rcases List.mem_cons.1 ha with rfl | ha'
    · rcases List.mem_cons.1 hb with rfl | hb'
      · rfl
      · have := h1.1 b hb'; omega
    · rcases List.mem_cons.1 hb with rfl | hb'
      · have := h1.1 a ha'; omega
      · exact ih h1.2 ha' hb'
theorem At.uniq {L : List Pv} (h : Inc L) {y : Int} {a b : Pv} (ha : At L y a) (hb : At L y b) : a = b :=
  h.uniq ha.1 hb.1 (by have h1 := ha.2.2 b hb.1 hb.2.1; have h2 := hb.2.2 a ha.1 ha.2.1; omega)
theorem At.ex : ∀ {L : List Pv} {y : Int}, (∃ q ∈ L, q.f ≤ y) → ∃ p, At L y p
  | [], _, h => by obtain ⟨q, hq, _⟩ := h; cases hq
  | p :: l, y, h => by
    by_cases hl : ∃ q ∈ l, q.f ≤ y
    · obtain ⟨r, h1, h2, h3⟩ := At.ex hl
      by_cases hp : p.f ≤ y ∧ r.f < p.f
      · exact ⟨p, List.mem_cons_self .., hp.1, fun q hq hy => by
          rcases List.mem_cons.1 hq with rfl | hq'
          · omega
          · have := h3 q hq' hy; omega⟩
      · exact ⟨r, List.mem_cons_of_mem _ h1, h2, fun q hq hy => by
          rcases List.mem_cons.1 hq with rfl | hq'
          · omega
          · exact h3 q hq' hy⟩
    · obtain ⟨q, hq, hy⟩ := h
      rcases List.mem_cons.1 hq with rfl | hq'
      · exact ⟨q, List.mem_cons_self .., hy, fun r hr hry => by
          rcases List.mem_cons.1 hr with rfl | hr'
          · omega
          · exact absurd ⟨r, hr', hry⟩ hl⟩
      · exact absurd ⟨q, hq', hy⟩ hl
theorem Vok.ex {L : List Pv} (h : Vok L) (hn : L ≠ []) {y : Int} (hy : 0 ≤ y) : ∃ p, At L y p := by
  obtain ⟨p, hp, e⟩ := h.z hn
  exact At.ex ⟨p, hp, by omega⟩
/-- What is known of a point. -/
def Val (L : List Pv) (y : Int) (node ep : Int) : Prop := (L = [] ∧ node = -1 ∧ ep = 0) ∨ ∃ p, At L y p ∧ p.node = node ∧ p.ep = ep
theorem placeN_spec {L : List Pv} {x : Int} : ∀ {i : Nat}, i ≤ L.length → (∀ j q, placeN L x i < j → j < i → L[j]? = some q → x < q.f) ∧ (0 < placeN L x i → ∀ q, L[placeN L x i]? = some q → q.f ≤ x)
  | 0, _ => ⟨fun j q h1 h2 => by omega, fun h => by simp [placeN] at h⟩
  | i + 1, hi => by
    obtain ⟨p, hp⟩ : ∃ p, L[i]? = some p := ⟨_, List.getElem?_eq_getElem (by omega)⟩
    unfold placeN
    rw [hp]
    simp only [Option.getD_some]
    split
    · rename_i h
      exact ⟨fun j q h1 h2 => by omega, fun _ q hq => by rw [hp] at hq; cases hq; exact h⟩
    · rename_i h
      obtain ⟨h1, h2⟩ := placeN_spec (L := L) (x := x) (i := i) (by omega)
      refine ⟨fun j q h3 h4 hq => ?_, h2⟩
      by_cases hj : j = i
      · subst hj; rw [hp] at hq; cases hq; omega
      · exact h1 j q h3 (by omega) hq
theorem Inc.idx {L : List Pv} (h : Inc L) {i j : Nat} {p q : Pv} (hi : L[i]? = some p) (hj : L[j]? = some q) (hij : i < j) : p.f < q.f := by
  obtain ⟨h1, e1⟩ := List.getElem?_eq_some_iff.1 hi
  obtain ⟨h2, e2⟩ := List.getElem?_eq_some_iff.1 hj
  rw [← e1, ← e2]
  exact List.pairwise_iff_getElem.1 h i j h1 h2 hij
theorem Vok.head {L : List Pv} (h : Vok L) {p : Pv} (hp : L[0]? = some p) : p.f = 0 := by
  have hm := List.mem_of_getElem? hp
  obtain ⟨q, hq, e⟩ := h.z (List.ne_nil_of_mem hm)
  obtain ⟨j, hj, e2⟩ := List.getElem_of_mem hq
  have hq' : L[j]? = some q := by rw [List.getElem?_eq_getElem hj, e2]
  by_cases h0 : j = 0
  · subst h0; rw [hp] at hq'; cases hq'; exact e
  · have := h.srt.idx hp hq' (by omega)
    have := (h.u p hm).1
    omega
/-- Where a point lies, there is the part that holds it. -/
theorem place_at {L : List Pv} (h : Vok L) {x : Int} (hx : 0 ≤ x) {p : Pv} (hp : L[placeN L x L.length]? = some p) : At L x p ∧ ∀ j q, placeN L x L.length < j → L[j]? = some q → x < q.f := by
  obtain ⟨h1, h2⟩ := placeN_spec (L := L) (x := x) (Nat.le_refl _)
  have h1' : ∀ j q, placeN L x L.length < j → L[j]? = some q → x < q.f := fun j q hj hq => h1 j q hj (List.getElem?_eq_some_iff.1 hq).1 hq
  refine ⟨⟨List.mem_of_getElem? hp, ?_, fun q hq hy => ?_⟩, h1'⟩
  · by_cases h0 : placeN L x L.length = 0
    · rw [h0] at hp; have := h.head hp; omega
    · exact h2 (by omega) p hp
  · obtain ⟨j, hj, e⟩ := List.getElem_of_mem hq
    have hq' : L[j]? = some q := by rw [List.getElem?_eq_getElem hj, e]
    rcases Nat.lt_trichotomy j (placeN L x L.length) with h3 | h3 | h3
    · exact Int.le_of_lt (h.srt.idx hq' hp h3)
    · rw [h3, hp] at hq'; cases hq'; exact Int.le_refl _
    · have := h1' j q h3 hq'; omega
theorem cut1_ok {L : List Pv} (h : Vok L) (hn : L ≠ []) {x : Int} (hx : U x) : Vok (cut1 L x) ∧ (∃ p ∈ cut1 L x, p.f = x) ∧ ∀ y z, At (cut1 L x) y z → ∃ w, At L y w ∧ alikeP z w := by
  have hlen : 0 < L.length := List.length_pos_iff.2 hn
  have hal := placeN_lt (L := L) (x := x) hlen
  obtain ⟨p, hp⟩ : ∃ p, L[placeN L x L.length]? = some p := ⟨_, List.getElem?_eq_getElem hal⟩
  obtain ⟨hat, hgt⟩ := place_at h hx.1 hp
  by_cases hf : p.f = x
  · have e : cut1 L x = L := by unfold cut1; rw [hp]; simp [hf]
    rw [e]
    exact ⟨h, ⟨p, hat.1, hf⟩, fun y z hz => ⟨z, hz, rfl, rfl⟩⟩
  · obtain ⟨k, hk⟩ : ∃ k, k = placeN L x L.length := ⟨_, rfl⟩
    have e : cut1 L x = L.take (k + 1) ++ [⟨x, p.node, p.ep⟩] ++ L.drop (k + 1) := by unfold cut1; rw [hp]; simp [hf, hk]
    rw [← hk] at hp hgt hal
    have hm : ∀ q, q ∈ cut1 L x ↔ q ∈ L ∨ q = ⟨x, p.node, p.ep⟩ := fun q => by
      rw [e]
      have := List.take_append_drop (k + 1) L
      constructor
      · intro hq
        rcases List.mem_append.1 hq with hq | hq
        · rcases List.mem_append.1 hq with hq | hq
          · exact .inl (List.mem_of_mem_take hq)
          · exact .inr (by simpa using hq)
        · exact .inl (List.mem_of_mem_drop hq)
      · rintro (hq | rfl)
        · rw [← this] at hq
          rcases List.mem_append.1 hq with hq | hq
          · exact List.mem_append_left _ (List.mem_append_left _ hq)
          · exact List.mem_append_right _ hq
        · exact List.mem_append_left _ (List.mem_append_right _ (by simp))
    have hlt : ∀ q ∈ L.take (k + 1), q.f < x := fun q hq => by
      obtain ⟨j, hj, e2⟩ := List.getElem_of_mem hq
      have hj' : j < k + 1 := by simp at hj; omega
      have hq' : L[j]? = some q := by rw [← e2]; simp
      by_cases hjk : j = k
      · subst hjk; rw [hp] at hq'; cases hq'; have := hat.2.1; omega
      · have := h.srt.idx hq' hp (by omega); have := hat.2.1; omega
    have hgt' : ∀ q ∈ L.drop (k + 1), x < q.f := fun q hq => by
      obtain ⟨j, hj, e2⟩ := List.getElem_of_mem hq
      refine hgt (k + 1 + j) q (by omega) ?_
      rw [← e2]; simp
    refine ⟨⟨?_, fun q hq => ?_, fun _ => ?_⟩, ⟨_, (hm _).2 (.inr rfl), rfl⟩, fun y z hz => ?_⟩
    · unfold Inc
      rw [e, List.append_assoc, List.pairwise_append]
      have hs := h.srt
      unfold Inc at hs
      refine ⟨hs.sublist (List.take_sublist ..), ?_, ?_⟩
      · rw [List.singleton_append, List.pairwise_cons]
        exact ⟨fun q hq => hgt' q hq, hs.sublist (List.drop_sublist ..)⟩
      · intro a ha b hb
        rcases List.mem_append.1 hb with hb | hb
        · have := List.mem_singleton.1 hb; subst this; exact hlt a ha
        · have h1 := hlt a ha; have h2 := hgt' b hb; omega
    · rcases (hm q).1 hq with hq | rfl
      · exact h.u q hq
      · exact hx
    · obtain ⟨q, hq, e0⟩ := h.z hn
      exact ⟨q, (hm q).2 (.inl hq), e0⟩
    · obtain ⟨h1, h2, h3⟩ := hz
      rcases (hm z).1 h1 with h4 | rfl
      · exact ⟨z, ⟨h4, h2, fun q hq hy => h3 q ((hm q).2 (.inl hq)) hy⟩, rfl, rfl⟩
      · exact ⟨p, ⟨hat.1, by have := hat.2.1; dsimp only at h2; omega, fun q hq hy => hat.2.2 q hq (by have := h3 q ((hm q).2 (.inl hq)) hy; exact this)⟩, rfl, rfl⟩
theorem Vok.one : Vok [⟨0, -1, 0⟩] := ⟨List.pairwise_singleton .., by simp [U], fun _ => ⟨⟨0, -1, 0⟩, by simp, rfl⟩⟩
theorem cutL_ok {L : List Pv} (h : Vok L) {x : Int} (hx : U x) : Vok (cutL L x) ∧ cutL L x ≠ [] ∧ (∃ p ∈ cutL L x, p.f = x) ∧ ∀ y n e, 0 ≤ y → Val (cutL L x) y n e → Val L y n e := by
  have hne : cutL L x ≠ [] := List.length_pos_iff.1 (cutL_pos L x)
  unfold cutL at hne ⊢
  by_cases hl : L.length = 0
  · have hL : L = [] := List.length_eq_zero_iff.1 hl
    subst hL
    rw [if_pos (by simp)] at hne ⊢
    obtain ⟨h1, h2, h3⟩ := cut1_ok Vok.one (by simp) hx
    refine ⟨h1, hne, h2, fun y n e hy hv => ?_⟩
    rcases hv with ⟨h4, -⟩ | ⟨p, hp, e1, e2⟩
    · exact absurd h4 hne
    · obtain ⟨w, hw, ha⟩ := h3 y p hp
      have := List.mem_singleton.1 hw.1
      subst this
      exact .inl ⟨rfl, by rw [← e1]; exact ha.1, by rw [← e2]; exact ha.2⟩
  · rw [if_neg hl] at hne ⊢
    obtain ⟨h1, h2, h3⟩ := cut1_ok h (fun e => hl (by rw [e]; rfl)) hx
    refine ⟨h1, hne, h2, fun y n e hy hv => ?_⟩
    rcases hv with ⟨h4, -⟩ | ⟨p, hp, e1, e2⟩
    · exact absurd h4 hne
    · obtain ⟨w, hw, ha⟩ := h3 y p hp
      exact .inr ⟨w, hw, by rw [← e1]; exact ha.1.symm, by rw [← e2]; exact ha.2.symm⟩
theorem Val.fn {L : List Pv} (h : Vok L) {y a b a' b' : Int} (h1 : Val L y a b) (h2 : Val L y a' b') : a = a' ∧ b = b' := by
  rcases h1 with ⟨e, rfl, rfl⟩ | ⟨p, hp, rfl, rfl⟩
  · rcases h2 with ⟨-, rfl, rfl⟩ | ⟨q, hq, -⟩
    · exact ⟨rfl, rfl⟩
    · rw [e] at hq; cases hq.1
  · rcases h2 with ⟨e, -⟩ | ⟨q, hq, rfl, rfl⟩
    · rw [e] at hp; cases hp.1
    · obtain rfl := hp.uniq h.srt hq; exact ⟨rfl, rfl⟩
theorem Val.ex {L : List Pv} (h : Vok L) {y : Int} (hy : 0 ≤ y) : ∃ a b, Val L y a b := by
  by_cases hn : L = []
  · exact ⟨-1, 0, .inl ⟨hn, rfl, rfl⟩⟩
  · obtain ⟨p, hp⟩ := h.ex hn hy; exact ⟨_, _, .inr ⟨p, hp, rfl, rfl⟩⟩
/-- What is learned of a point. -/
def Upd (P : Prop) (n e a0 b0 a b : Int) : Prop := (P ∧ ¬ (0 ≤ a0 ∧ e ≤ b0) ∧ a = n ∧ b = e) ∨ (¬ (P ∧ ¬ (0 ≤ a0 ∧ e ≤ b0)) ∧ a = a0 ∧ b = b0)
theorem setP_f (p : Int × Int) (n e : Int) (q : Pv) : (setP p n e q).f = q.f := by unfold setP; split <;> rfl
theorem map_ok {L : List Pv} (h : Vok L) (p : Int × Int) (n e : Int) : Vok (L.map (setP p n e)) := by
  refine ⟨?_, fun q hq => ?_, fun hn => ?_⟩
  · unfold Inc
    rw [List.pairwise_map]
    exact List.Pairwise.imp (fun {a b} hab => by rw [setP_f, setP_f]; exact hab) h.srt
  · obtain ⟨w, hw, rfl⟩ := List.mem_map.1 hq
    rw [setP_f]; exact h.u w hw
  · obtain ⟨w, hw, e0⟩ := h.z (fun e0 => hn (by rw [e0]; rfl))
    exact ⟨_, List.mem_map.2 ⟨w, hw, rfl⟩, by rw [setP_f]; exact e0⟩
theorem map_val {L : List Pv} (hn : L ≠ []) {p : Int × Int} {n e : Int} (h2 : 0 ≤ p.2) (hs : ∃ q ∈ L, q.f = p.1) (ht : 0 < p.2 → ∃ q ∈ L, q.f = p.2) {y a b : Int} (hv : Val (L.map (setP p n e)) y a b) :
    ∃ a0 b0, Val L y a0 b0 ∧ Upd (p.1 ≤ y ∧ (p.2 = 0 ∨ y < p.2)) n e a0 b0 a b := by
  rcases hv with ⟨e0, -⟩ | ⟨z, ⟨h3, h4, h5⟩, rfl, rfl⟩
  · exact absurd (List.map_eq_nil_iff.1 e0) hn
  · obtain ⟨w, hw, rfl⟩ := List.mem_map.1 h3
    rw [setP_f] at h4 h5
    have hmax : ∀ q ∈ L, q.f ≤ y → q.f ≤ w.f := fun q hq hy => by
      have := h5 _ (List.mem_map.2 ⟨q, hq, rfl⟩) (by rw [setP_f]; exact hy)
      rw [setP_f] at this; exact this
    refine ⟨w.node, w.ep, .inr ⟨w, ⟨hw, h4, hmax⟩, rfl, rfl⟩, ?_⟩
    have hb1 : w.f < p.1 ↔ ¬ p.1 ≤ y := by
      obtain ⟨q, hq, e1⟩ := hs
      constructor
      · intro h hle; have := hmax q hq (by omega); omega
      · intro h; omega
    have hb2 : 0 < p.2 → (p.2 ≤ w.f ↔ ¬ y < p.2) := fun h0 => by
      obtain ⟨q, hq, e1⟩ := ht h0
      constructor
      · intro h hlt; omega
      · intro h; have := hmax q hq (by omega); omega
    unfold Upd setP
    by_cases hc : w.f < p.1 ∨ (0 < p.2 ∧ p.2 ≤ w.f) ∨ (0 ≤ w.node ∧ e ≤ w.ep)
    · rw [if_pos hc]
      refine .inr ⟨?_, rfl, rfl⟩
      rintro ⟨⟨h6, h7⟩, h8⟩
      rcases hc with h9 | ⟨h9, h10⟩ | h9
      · exact hb1.1 h9 h6
      · exact (hb2 h9).1 h10 (by omega)
      · exact h8 h9
    · rw [if_neg hc]
      refine .inl ⟨⟨?_, ?_⟩, fun h => hc (.inr (.inr h)), rfl, rfl⟩
      · by_cases h6 : p.1 ≤ y
        · exact h6
        · exact absurd (.inl (hb1.2 h6)) hc
      · by_cases h6 : 0 < p.2
        · refine .inr ?_
          by_cases h7 : y < p.2
          · exact h7
          · exact absurd (.inr (.inl ⟨h6, (hb2 h6).2 h7⟩)) hc
        · exact .inl (by omega)
theorem cutL_keeps {L : List Pv} {x : Int} {q : Pv} (h : q ∈ L) : q ∈ cutL L x := by
  have hl : ¬ L.length = 0 := fun e => by rw [List.length_eq_zero_iff.1 e] at h; cases h
  unfold cutL cut1
  rw [if_neg hl]
  split
  · split
    · exact h
    · rw [← List.take_append_drop (placeN L x L.length + 1) L] at h
      rcases List.mem_append.1 h with h | h
      · exact List.mem_append_left _ (List.mem_append_left _ h)
      · exact List.mem_append_right _ h
  · exact h
theorem learnP_ok {L : List Pv} (h : Vok L) {p : Int × Int} {n e : Int} (h1 : U p.1) (h2 : U p.2) : Vok (learnP n e L p) ∧ ∀ y a b, 0 ≤ y → Val (learnP n e L p) y a b → ∃ a0 b0, Val L y a0 b0 ∧ Upd (p.1 ≤ y ∧ (p.2 = 0 ∨ y < p.2)) n e a0 b0 a b := by
  obtain ⟨c1, c2, c3, c4⟩ := cutL_ok h h1
  unfold learnP cut2
  by_cases hp : 0 < p.2
  · rw [if_pos hp]
    obtain ⟨d1, d2, d3, d4⟩ := cutL_ok c1 h2
    refine ⟨map_ok d1 p n e, fun y a b hy hv => ?_⟩
    obtain ⟨q, hq, e1⟩ := c3
    obtain ⟨a0, b0, hv0, hu⟩ := map_val d2 h2.1 ⟨q, cutL_keeps hq, e1⟩ (fun _ => d3) hv
    exact ⟨a0, b0, c4 y a0 b0 hy (d4 y a0 b0 hy hv0), hu⟩
  · rw [if_neg hp]
    refine ⟨map_ok c1 p n e, fun y a b hy hv => ?_⟩
    obtain ⟨a0, b0, hv0, hu⟩ := map_val c2 h2.1 c3 (fun h0 => absurd h0 hp) hv
    exact ⟨a0, b0, c4 y a0 b0 hy hv0, hu⟩
theorem Upd.trans {P R : Prop} {n e a0 b0 a1 b1 a b : Int} (hn : 0 ≤ n) (h1 : Upd P n e a0 b0 a1 b1) (h2 : Upd R n e a1 b1 a b) : Upd (P ∨ R) n e a0 b0 a b := by
  unfold Upd at *
  by_cases hP : P <;> by_cases hR : R <;> simp only [hP, hR, true_and, false_and, or_true, or_false, true_or, false_or, not_true, not_false_iff] at * <;> omega
theorem Upd.congr {P R : Prop} {n e a0 b0 a b : Int} (h : Upd P n e a0 b0 a b) (hr : P ↔ R) : Upd R n e a0 b0 a b := by unfold Upd at *; rwa [← hr]
theorem learnL_ok {L : List Pv} (h : Vok L) {f t n e : Int} (hf : U f) (ht : U t) (hn : 0 ≤ n) : Vok (learnL L f t n e) ∧ ∀ y a b, U y → Val (learnL L f t n e) y a b → ∃ a0 b0, Val L y a0 b0 ∧ Upd (Meets (f, t) y) n e a0 b0 a b := by
  have u0 : U 0 := by simp [U]
  unfold learnL vpieces
  by_cases h1 : t = 0 ∨ f < t
  · rw [if_pos h1]
    obtain ⟨c1, c2⟩ := learnP_ok (p := (f, t)) (n := n) (e := e) h hf ht
    refine ⟨c1, fun y a b hy hv => ?_⟩
    obtain ⟨a0, b0, hv0, hu⟩ := c2 y a b hy.1 hv
    refine ⟨a0, b0, hv0, hu.congr ?_⟩
    unfold Meets U at *; dsimp only; omega
  · rw [if_neg h1]
    by_cases h2 : f = t
    · rw [if_pos h2]
      obtain ⟨c1, c2⟩ := learnP_ok (p := (0, 0)) (n := n) (e := e) h u0 u0
      refine ⟨c1, fun y a b hy hv => ?_⟩
      obtain ⟨a0, b0, hv0, hu⟩ := c2 y a b hy.1 hv
      refine ⟨a0, b0, hv0, hu.congr ?_⟩
      unfold Meets U at *; dsimp only; omega
    · rw [if_neg h2]
      obtain ⟨c1, c2⟩ := learnP_ok (p := (0, t)) (n := n) (e := e) h u0 ht
      obtain ⟨d1, d2⟩ := learnP_ok (p := (f, 0)) (n := n) (e := e) c1 hf u0
      refine ⟨d1, fun y a b hy hv => ?_⟩
      obtain ⟨a1, b1, hv1, hu1⟩ := d2 y a b hy.1 hv
      obtain ⟨a0, b0, hv0, hu0⟩ := c2 y a1 b1 hy.1 hv1
      refine ⟨a0, b0, hv0, (hu0.trans hn hu1).congr ?_⟩
      unfold Meets U at *; dsimp only; omega
/-- Point by point: owned, and the greatest epoch. -/
theorem arcsV_ok {ow : List Ow} (h : ∀ o ∈ ow, U o.f ∧ U o.t ∧ 0 ≤ o.ep) : Vok (arcsV ow) ∧ ∀ y a b, U y → Val (arcsV ow) y a b →
    (0 ≤ a ↔ ∃ o ∈ ow, Meets (o.f, o.t) y) ∧ (0 ≤ a → a = 0 ∧ (∃ o ∈ ow, Meets (o.f, o.t) y ∧ o.ep = b) ∧ ∀ o ∈ ow, Meets (o.f, o.t) y → o.ep ≤ b) ∧ (a < 0 → a = -1 ∧ b = 0) := by
  have main : ∀ i, Vok (arcsV (ow.take i)) ∧ ∀ y a b, U y → Val (arcsV (ow.take i)) y a b →
    (0 ≤ a ↔ ∃ o ∈ ow.take i, Meets (o.f, o.t) y) ∧ (0 ≤ a → a = 0 ∧ (∃ o ∈ ow.take i, Meets (o.f, o.t) y ∧ o.ep = b) ∧ ∀ o ∈ ow.take i, Meets (o.f, o.t) y → o.ep ≤ b) ∧ (a < 0 → a = -1 ∧ b = 0) := by
    intro i
    induction i with
    | zero =>
      refine ⟨⟨by simp [arcsV, Inc], by simp [arcsV], by simp [arcsV]⟩, fun y a b hy hv => ?_⟩
      rcases hv with ⟨-, rfl, rfl⟩ | ⟨p, hp, -⟩
      · simp
      · simp [arcsV, At] at hp
    | succ i ih =>
      cases ho : ow[i]? with
      | none =>
        have h1 := List.getElem?_eq_none_iff.1 ho
        rw [List.take_of_length_le (by omega)]; rw [List.take_of_length_le h1] at ih; exact ih
      | some o =>
        rw [arcsV_take ho]
        obtain ⟨hof, hot, hoe⟩ := h o (List.mem_of_getElem? ho)
        obtain ⟨i1, i2⟩ := ih
        obtain ⟨l1, l2⟩ := learnL_ok (n := 0) (e := o.ep) i1 hof hot (Int.le_refl _)
        refine ⟨l1, fun y a b hy hv => ?_⟩
        obtain ⟨a0, b0, hv0, hu⟩ := l2 y a b hy hv
        obtain ⟨j1, j2, j3⟩ := i2 y a0 b0 hy hv0
        have e1 : ow.take (i + 1) = ow.take i ++ [o] := by rw [List.take_add_one, ho]; rfl
        rw [e1]
        simp only [List.mem_append, List.mem_singleton]
        unfold Upd at hu
        rcases hu with ⟨hP, hnn, rfl, rfl⟩ | ⟨hP, rfl, rfl⟩
        · refine ⟨⟨fun _ => ⟨o, .inr rfl, hP⟩, fun _ => Int.le_refl _⟩, fun _ => ⟨rfl, ⟨o, .inr rfl, hP, rfl⟩, ?_⟩, fun h => by omega⟩
          rintro q (hq | rfl) hm
          · have h0 : 0 ≤ a0 := j1.2 ⟨q, hq, hm⟩
            have := (j2 h0).2.2 q hq hm
            omega
          · exact Int.le_refl _
        · refine ⟨⟨fun h0 => ?_, ?_⟩, fun h0 => ⟨(j2 h0).1, ?_, ?_⟩, j3⟩
          · obtain ⟨q, hq, hm⟩ := j1.1 h0; exact ⟨q, .inl hq, hm⟩
          · rintro ⟨q, hq | rfl, hm⟩
            · exact j1.2 ⟨q, hq, hm⟩
            · by_cases h0 : 0 ≤ a
              · exact h0
              · exact absurd ⟨hm, fun h => h0 h.1⟩ hP
          · obtain ⟨q, hq, hm⟩ := (j2 h0).2.1; exact ⟨q, .inl hq, hm⟩
          · rintro q (hq | rfl) hm
            · exact (j2 h0).2.2 q hq hm
            · by_cases h9 : q.ep ≤ b
              · exact h9
              · exact absurd ⟨hm, fun h => h9 h.2⟩ hP
  have := main ow.length
  rw [List.take_length] at this
  exact this
theorem compS_mem {acc : List Pv} {p q : Pv} (h : q ∈ compS acc p) : q ∈ acc ∨ q = p := by
  unfold compS at h
  split at h
  · split at h
    · exact .inl h
    · simpa using h
  · simpa using h
theorem compS_keeps {acc : List Pv} {p q : Pv} (h : q ∈ acc) : q ∈ compS acc p := by
  unfold compS
  split
  · split
    · exact h
    · exact List.mem_append_left _ h
  · exact List.mem_append_left _ h
theorem compS_cases (acc : List Pv) (p : Pv) : compS acc p = acc ++ [p] ∨ ∃ M q, acc = M ++ [q] ∧ alikeP q p ∧ compS acc p = acc := by
  unfold compS
  cases hg : acc.getLast? with
  | none => exact .inl rfl
  | some q =>
    by_cases hk : alikeP q p
    · rw [List.getLast?_eq_some_iff] at hg
      obtain ⟨M, hM⟩ := hg
      exact .inr ⟨M, q, hM, hk, by simp [hk]⟩
    · exact .inl (by simp [hk])
theorem comp_ok {L : List Pv} (h : Vok L) : Vok (compL L) ∧ ∀ y a b, Val (compL L) y a b → Val L y a b := by
  have main : ∀ i, (∀ q ∈ compL (L.take i), q ∈ L.take i) ∧ Inc (compL (L.take i)) ∧ (L.take i ≠ [] → ∃ q ∈ compL (L.take i), q.f = 0) ∧ ∀ y z w, At (compL (L.take i)) y z → At (L.take i) y w → alikeP z w := by
    intro i
    induction i with
    | zero => exact ⟨by simp [compL], by simp [compL, Inc], by simp, fun y z w hz => by simp [compL, At] at hz⟩
    | succ i ih =>
      cases hp : L[i]? with
      | none =>
        have h1 := List.getElem?_eq_none_iff.1 hp
        rw [List.take_of_length_le (by omega)]; rw [List.take_of_length_le h1] at ih; exact ih
      | some p =>
        obtain ⟨i1, i2, i3, i4⟩ := ih
        have e1 : L.take (i + 1) = L.take i ++ [p] := by rw [List.take_add_one, hp]; rfl
        have hlt : ∀ q ∈ L.take i, q.f < p.f := fun q hq => by
          obtain ⟨j, hj, e2⟩ := List.getElem_of_mem hq
          have hj' : j < i := by simp at hj; omega
          exact h.srt.idx (i := j) (j := i) (by rw [← e2]; simp) hp hj'
        rw [comp_take hp, e1]
        obtain ⟨acc, hacc⟩ : ∃ c, c = compL (L.take i) := ⟨_, rfl⟩
        rw [← hacc] at i1 i2 i3 i4 ⊢
        obtain ⟨T, hT⟩ : ∃ c, c = L.take i := ⟨_, rfl⟩
        rw [← hT] at i1 i3 i4 hlt ⊢
        refine ⟨fun q hq => ?_, ?_, fun _ => ?_, fun y z w hz hw => ?_⟩
        · rcases compS_mem hq with hq | rfl
          · exact List.mem_append_left _ (i1 q hq)
          · simp
        · rcases compS_cases acc p with e2 | ⟨M, q, -, -, e2⟩
          · rw [e2]
            unfold Inc at i2 ⊢
            rw [List.pairwise_append]
            exact ⟨i2, List.pairwise_singleton .., fun a ha b hb => by have := List.mem_singleton.1 hb; subst this; exact hlt a (i1 a ha)⟩
          · rw [e2]; exact i2
        · by_cases hTn : T = []
          · have hi0 : i = 0 := by
              by_cases h0 : i = 0
              · exact h0
              · have h1 := (List.getElem?_eq_some_iff.1 hp).1
                have h2 : T.length = i := by rw [hT]; simp; omega
                rw [hTn] at h2; simp at h2; omega
            subst hi0
            have ha0 : acc = [] := by
              cases acc with
              | nil => rfl
              | cons x l => have := i1 x (by simp); rw [hTn] at this; cases this
            exact ⟨p, by rw [ha0]; simp [compS], h.head hp⟩
          · obtain ⟨q, hq, e2⟩ := i3 hTn
            exact ⟨q, compS_keeps hq, e2⟩
        · obtain ⟨hz1, hz2, hz3⟩ := hz
          obtain ⟨hw1, hw2, hw3⟩ := hw
          by_cases hy : p.f ≤ y
          · have hwp : w = p := by
              rcases List.mem_append.1 hw1 with h1 | h1
              · have h2 := hw3 p (by simp) hy; have h3 := hlt w h1; omega
              · exact List.mem_singleton.1 h1
            subst hwp
            rcases compS_cases acc w with e2 | ⟨M, q, e3, hk, e2⟩
            · rw [e2] at hz1 hz3
              have h2 := hz3 w (by simp) hy
              rcases List.mem_append.1 hz1 with h1 | h1
              · have := hlt z (i1 z h1); omega
              · rw [List.mem_singleton.1 h1]; exact ⟨rfl, rfl⟩
            · rw [e2] at hz1 hz3
              have hqa : q ∈ acc := by rw [e3]; simp
              have h2 := hz3 q hqa (by have := hlt q (i1 q hqa); omega)
              rw [e3] at hz1 i2
              unfold Inc at i2
              rw [List.pairwise_append] at i2
              rcases List.mem_append.1 hz1 with h1 | h1
              · have := i2.2.2 z h1 q (by simp); omega
              · rw [List.mem_singleton.1 h1]; exact hk
          · have hwT : w ∈ T := by
              rcases List.mem_append.1 hw1 with h1 | h1
              · exact h1
              · rw [List.mem_singleton.1 h1] at hw2; exact absurd hw2 hy
            have hza : z ∈ acc := by
              rcases compS_mem hz1 with h1 | rfl
              · exact h1
              · exact absurd hz2 hy
            exact i4 y z w ⟨hza, hz2, fun q hq => hz3 q (compS_keeps hq)⟩ ⟨hwT, hw2, fun q hq => hw3 q (List.mem_append_left _ hq)⟩
  obtain ⟨m1, m2, m3, m4⟩ := main L.length
  rw [List.take_length] at m1 m2 m3 m4
  have hv : Vok (compL L) := ⟨m2, fun q hq => h.u q (m1 q hq), fun hn => m3 (fun e => hn (by rw [e]; rfl))⟩
  refine ⟨hv, fun y a b hval => ?_⟩
  rcases hval with ⟨e, rfl, rfl⟩ | ⟨z, hz, rfl, rfl⟩
  · refine .inl ⟨?_, rfl, rfl⟩
    by_cases hL : L = []
    · exact hL
    · have := comp_pos (List.length_pos_iff.2 hL); rw [e] at this; simp at this
  · obtain ⟨w, hw⟩ := At.ex (L := L) (y := y) ⟨z, m1 z hz.1, hz.2.1⟩
    have := m4 y z w hz hw
    exact .inr ⟨w, hw, this.1.symm, this.2.symm⟩
/-- The arc of a part is where the part lies. -/
theorem part_arc {l : List Pv} (h : Vok l) {i : Nat} {p nx : Pv} (hp : l[i]? = some p) (hn : l[(i + 1) % l.length]? = some nx) {y : Int} (hy : U y) : Meets (p.f, nx.f) y ↔ At l y p := by
  have hi := (List.getElem?_eq_some_iff.1 hp).1
  have hm := List.mem_of_getElem? hp
  have hup := h.u p hm
  have hun := h.u nx (List.mem_of_getElem? hn)
  by_cases h1 : i + 1 < l.length
  · rw [Nat.mod_eq_of_lt h1] at hn
    have hlt := h.srt.idx hp hn (by omega)
    have hat : At l y p ↔ p.f ≤ y ∧ y < nx.f := by
      constructor
      · rintro ⟨-, h2, h3⟩
        refine ⟨h2, ?_⟩
        by_cases h4 : nx.f ≤ y
        · have := h3 nx (List.mem_of_getElem? hn) h4; omega
        · omega
      · rintro ⟨h2, h3⟩
        refine ⟨hm, h2, fun q hq hqy => ?_⟩
        obtain ⟨j, hj, e⟩ := List.getElem_of_mem hq
        have hq' : l[j]? = some q := by rw [List.getElem?_eq_getElem hj, e]
        rcases Nat.lt_trichotomy j i with h5 | h5 | h5
        · exact Int.le_of_lt (h.srt.idx hq' hp h5)
        · subst h5; rw [hp] at hq'; cases hq'; exact Int.le_refl _
        · by_cases h6 : j = i + 1
          · subst h6; rw [hn] at hq'; cases hq'; omega
          · have := h.srt.idx hn hq' (by omega); omega
    rw [hat]
    unfold Meets U at *; dsimp only; omega
  · have hie : i + 1 = l.length := by omega
    rw [hie, Nat.mod_self] at hn
    have h0 := h.head hn
    have hat : At l y p ↔ p.f ≤ y := by
      constructor
      · exact fun h => h.2.1
      · intro h2
        refine ⟨hm, h2, fun q hq hqy => ?_⟩
        obtain ⟨j, hj, e⟩ := List.getElem_of_mem hq
        have hq' : l[j]? = some q := by rw [List.getElem?_eq_getElem hj, e]
        by_cases h5 : j = i
        · subst h5; rw [hp] at hq'; cases hq'; exact Int.le_refl _
        · exact Int.le_of_lt (h.srt.idx hq' hp (by omega))
    rw [hat, h0]
    unfold Meets U at *; dsimp only; omega
theorem own_mem {l : List Pv} {o : Ow} : o ∈ ownsL l ↔ ∃ i p nx, l[i]? = some p ∧ l[(i + 1) % l.length]? = some nx ∧ 0 ≤ p.node ∧ o = ⟨p.f, nx.f, p.node, p.ep⟩ := by
  unfold ownsL
  rw [List.mem_filterMap]
  constructor
  · rintro ⟨⟨p, i⟩, hm, ho⟩
    rw [List.mem_zipIdx_iff_getElem?] at hm
    dsimp only at hm
    have hl := (List.getElem?_eq_some_iff.1 hm).1
    obtain ⟨nx, hnx⟩ : ∃ x, l[(i + 1) % l.length]? = some x := ⟨_, List.getElem?_eq_getElem (Nat.mod_lt _ (by omega))⟩
    unfold ownOf at ho
    dsimp only at ho
    rw [hnx] at ho
    split at ho
    · rename_i h; cases ho; exact ⟨i, p, nx, hm, hnx, h, rfl⟩
    · cases ho
  · rintro ⟨i, p, nx, hp, hnx, hn, rfl⟩
    refine ⟨(p, i), by rw [List.mem_zipIdx_iff_getElem?]; exact hp, ?_⟩
    unfold ownOf
    dsimp only
    rw [if_pos hn, hnx]; rfl
theorem owns_cover {l : List Pv} (h : Vok l) {y : Int} (hy : U y) {n e : Int} : (∃ o ∈ ownsL l, Meets (o.f, o.t) y ∧ o.node = n ∧ o.ep = e) ↔ 0 ≤ n ∧ l ≠ [] ∧ Val l y n e := by
  constructor
  · rintro ⟨o, ho, hm, rfl, rfl⟩
    obtain ⟨i, p, nx, hp, hnx, hn, rfl⟩ := own_mem.1 ho
    exact ⟨hn, List.ne_nil_of_mem (List.mem_of_getElem? hp), .inr ⟨p, (part_arc h hp hnx hy).1 hm, rfl, rfl⟩⟩
  · rintro ⟨hn, hl, hv⟩
    rcases hv with ⟨e0, -⟩ | ⟨p, hp, rfl, rfl⟩
    · exact absurd e0 hl
    · obtain ⟨i, hi, e0⟩ := List.getElem_of_mem hp.1
      have hp' : l[i]? = some p := by rw [List.getElem?_eq_getElem hi, e0]
      obtain ⟨nx, hnx⟩ : ∃ x, l[(i + 1) % l.length]? = some x := ⟨_, List.getElem?_eq_getElem (Nat.mod_lt _ (by omega))⟩
      exact ⟨_, own_mem.2 ⟨i, p, nx, hp', hnx, hn, rfl⟩, (part_arc h hp' hnx hy).2 hp, rfl, rfl⟩
theorem owns_prefix {l : List Pv} {i : Nat} : ∀ k : Nat, ∃ r, ownsN l (i + k) = ownsN l i ++ r
  | 0 => ⟨[], by simp⟩
  | k + 1 => by
    obtain ⟨r, hr⟩ := owns_prefix (l := l) (i := i) k
    cases h : l[i + k]? with
    | none =>
      refine ⟨r, ?_⟩
      have h1 := List.getElem?_eq_none_iff.1 h
      rw [← hr]
      unfold ownsN
      rw [List.take_of_length_le h1, List.take_of_length_le (by omega)]
    | some p => exact ⟨r ++ (ownOf l (p, i + k)).toList, by rw [show i + (k + 1) = i + k + 1 by omega, owns_take h, hr, List.append_assoc]⟩
theorem wraps_split {l : List Pv} (h : wraps l) : ∃ a b l1 r, l[0]? = some a ∧ l[1]? = some l1 ∧ l[l.length - 1]? = some b ∧ 1 < l.length ∧ alikeP a b ∧ 0 ≤ a.node ∧
    ownsL l = ⟨a.f, l1.f, a.node, a.ep⟩ :: (r ++ [⟨b.f, a.f, b.node, b.ep⟩]) := by
  obtain ⟨a, b, h1, ha, hb, hn, hk⟩ := h
  obtain ⟨l1, hl1⟩ : ∃ x, l[1]? = some x := ⟨_, List.getElem?_eq_getElem h1⟩
  have e1 := owns_take ha
  have e2 := owns_take hb
  have ea : ownOf l (a, 0) = some ⟨a.f, l1.f, a.node, a.ep⟩ := by unfold ownOf; rw [if_pos hn]; dsimp only; rw [Nat.mod_eq_of_lt (by omega), hl1]; rfl
  have eb : ownOf l (b, l.length - 1) = some ⟨b.f, a.f, b.node, b.ep⟩ := by unfold ownOf; rw [if_pos (by have := hk.1; show 0 ≤ b.node; omega)]; dsimp only; rw [show l.length - 1 + 1 = l.length by omega, Nat.mod_self, ha]; rfl
  rw [ea] at e1; rw [eb, show l.length - 1 + 1 = l.length by omega, owns_all] at e2
  obtain ⟨r, hr⟩ := owns_prefix (l := l) (i := 1) (l.length - 2)
  rw [show 1 + (l.length - 2) = l.length - 1 by omega, show (1 : Nat) = 0 + 1 by rfl, e1] at hr
  rw [show l.length - (0 + 1) = l.length - 1 by omega] at hr
  have e0 : ownsN l 0 = [] := by simp [ownsN]
  refine ⟨a, b, l1, r, ha, hl1, hb, h1, hk, hn, ?_⟩
  rw [e2, hr, e0]
  simp
theorem joinO_eq {x z : Ow} {r : List Ow} : joinO (x :: (r ++ [z])) = r ++ [{ z with t := x.t }] := by
  unfold joinO
  have h1 : (x :: (r ++ [z])).length - 1 = r.length + 1 := by simp
  rw [h1]
  have h2 : (x :: (r ++ [z])).getD (r.length + 1) ⟨0, 0, 0, 0⟩ = z := by simp [List.getD_eq_getElem?_getD]
  have h3 : (x :: (r ++ [z])).getD 0 ⟨0, 0, 0, 0⟩ = x := by simp
  rw [h2, h3]
  simp [List.set_append]
theorem arcs_cover {L : List Pv} (h : Vok L) (hL : L ≠ []) {y : Int} (hy : U y) {n e : Int} : (∃ o ∈ arcsL L, Meets (o.f, o.t) y ∧ o.node = n ∧ o.ep = e) ↔ 0 ≤ n ∧ Val L y n e := by
  obtain ⟨c1, c2⟩ := comp_ok h
  have cn : compL L ≠ [] := List.length_pos_iff.1 (comp_pos (List.length_pos_iff.2 hL))
  have hval : Val (compL L) y n e ↔ Val L y n e := by
    refine ⟨c2 y n e, fun hv => ?_⟩
    obtain ⟨a, b, hab⟩ := Val.ex c1 hy.1
    obtain ⟨rfl, rfl⟩ := Val.fn h hv (c2 y a b hab)
    exact hab
  rw [← hval]
  have hc := owns_cover c1 hy (n := n) (e := e)
  unfold arcsL
  by_cases hw : wraps (compL L)
  · rw [if_pos hw]
    obtain ⟨a, b, l1, r, ha, hl1, hb, hlen, hk, hn, hsp⟩ := wraps_split hw
    rw [hsp] at hc ⊢
    rw [joinO_eq]
    have ha0 := c1.head ha
    have hu1 := c1.u l1 (List.mem_of_getElem? hl1)
    have hub := c1.u b (List.mem_of_getElem? hb)
    have h01 := c1.srt.idx ha hl1 (by omega)
    have h1b : l1.f ≤ b.f := by
      by_cases h2 : (compL L).length - 1 = 1
      · rw [h2, hl1] at hb; cases hb; exact Int.le_refl _
      · exact Int.le_of_lt (c1.srt.idx hl1 hb (by omega))
    have hmm : Meets (b.f, l1.f) y ↔ Meets (a.f, l1.f) y ∨ Meets (b.f, a.f) y := by
      rw [ha0] at h01 ⊢
      unfold Meets U at *; dsimp only; omega
    rw [show (0 ≤ n ∧ Val (compL L) y n e) ↔ (0 ≤ n ∧ compL L ≠ [] ∧ Val (compL L) y n e) from ⟨fun h => ⟨h.1, cn, h.2⟩, fun h => ⟨h.1, h.2.2⟩⟩, ← hc]
    constructor
    · rintro ⟨o, ho, hm, h3, h4⟩
      rcases List.mem_append.1 ho with ho | ho
      · exact ⟨o, List.mem_cons_of_mem _ (List.mem_append_left _ ho), hm, h3, h4⟩
      · have := List.mem_singleton.1 ho
        subst this
        dsimp only at hm h3 h4
        rcases hmm.1 hm with h5 | h5
        · exact ⟨_, List.mem_cons_self .., h5, by rw [← h3]; exact hk.1, by rw [← h4]; exact hk.2⟩
        · exact ⟨_, List.mem_cons_of_mem _ (List.mem_append_right _ (List.mem_singleton.2 rfl)), h5, h3, h4⟩
    · rintro ⟨o, ho, hm, h3, h4⟩
      rcases List.mem_cons.1 ho with rfl | ho
      · exact ⟨_, List.mem_append_right _ (List.mem_singleton.2 rfl), hmm.2 (.inl hm), by rw [← h3]; exact hk.1.symm, by rw [← h4]; exact hk.2.symm⟩
      · rcases List.mem_append.1 ho with ho | ho
        · exact ⟨o, List.mem_append_left _ ho, hm, h3, h4⟩
        · have := List.mem_singleton.1 ho
          subst this
          exact ⟨_, List.mem_append_right _ (List.mem_singleton.2 rfl), hmm.2 (.inr hm), h3, h4⟩
  · rw [if_neg hw, hc]
    exact ⟨fun h => ⟨h.1, h.2.2⟩, fun h => ⟨h.1, cn, h.2⟩⟩
/-- A hold's arcs: point by point. -/
theorem arcsH_cover {node : Int} {ow : List Ow} (h : ∀ o ∈ ow, U o.f ∧ U o.t ∧ 0 ≤ o.ep) {y : Int} (hy : U y) : (∃ o ∈ arcsH node ow, Meets (o.f, o.t) y) ↔ ∃ o ∈ ow, Meets (o.f, o.t) y := by
  obtain ⟨v1, v2⟩ := arcsV_ok h
  unfold arcsH
  by_cases hn : arcsV ow = []
  · have h0 : ow = [] := by
      cases ow with
      | nil => rfl
      | cons o l =>
        exfalso
        have := arcsV_take (ow := o :: l) (i := l.length) (o := (o :: l)[l.length]) (List.getElem?_eq_getElem (by simp))
        rw [List.take_of_length_le (by simp)] at this
        have h2 := learnL_pos (arcsV ((o :: l).take l.length)) (o :: l)[l.length].f (o :: l)[l.length].t 0 (o :: l)[l.length].ep
        rw [← this, hn] at h2; simp at h2
    subst h0
    rw [hn, arcs_nil]; simp
  · obtain ⟨a, b, hab⟩ := Val.ex v1 hy.1
    have hv := v2 y a b hy hab
    rw [← hv.1]
    constructor
    · rintro ⟨o, ho, hm⟩
      obtain ⟨w, hw, rfl⟩ := List.mem_map.1 ho
      have := (arcs_cover v1 hn hy (n := w.node) (e := w.ep)).1 ⟨w, hw, hm, rfl, rfl⟩
      obtain ⟨rfl, rfl⟩ := Val.fn v1 hab this.2
      exact this.1
    · intro h0
      obtain ⟨o, ho, hm, -, -⟩ := (arcs_cover v1 hn hy (n := a) (e := b)).2 ⟨h0, hab⟩
      exact ⟨_, List.mem_map.2 ⟨o, ho, rfl⟩, hm⟩
theorem arcsH_u {node : Int} {ow : List Ow} (h : ∀ o ∈ ow, U o.f ∧ U o.t ∧ 0 ≤ o.ep) : ∀ o ∈ arcsH node ow, U o.f ∧ U o.t := by
  obtain ⟨v1, -⟩ := arcsV_ok h
  intro o ho
  obtain ⟨w, hw, rfl⟩ := List.mem_map.1 ho
  obtain ⟨c1, -⟩ := comp_ok v1
  have hown : ∀ x ∈ ownsL (compL (arcsV ow)), U x.f ∧ U x.t := fun x hx => by
    obtain ⟨i, p, nx, hp, hnx, -, rfl⟩ := own_mem.1 hx
    exact ⟨c1.u p (List.mem_of_getElem? hp), c1.u nx (List.mem_of_getElem? hnx)⟩
  show U w.f ∧ U w.t
  unfold arcsL at hw
  split at hw
  · rename_i hwr
    obtain ⟨a, b, l1, r, ha, hl1, hb, hlen, hk, hn, hsp⟩ := wraps_split hwr
    rw [hsp, joinO_eq] at hw
    rw [hsp] at hown
    rcases List.mem_append.1 hw with hw | hw
    · exact hown w (List.mem_cons_of_mem _ (List.mem_append_left _ hw))
    · have := List.mem_singleton.1 hw
      subst this
      exact ⟨c1.u b (List.mem_of_getElem? hb), c1.u l1 (List.mem_of_getElem? hl1)⟩
  · exact hown w hw
theorem touch_iff {f t f2 t2 : Int} (h1 : U f) (h2 : U t) (h3 : U f2) (h4 : U t2) : (Meets (f, t) f2 ∨ Meets (f2, t2) f) ↔ ∃ y, U y ∧ Meets (f, t) y ∧ Meets (f2, t2) y := by
  constructor
  · rintro (h | h)
    · exact ⟨f2, h3, h, by unfold Meets U at *; dsimp only; omega⟩
    · exact ⟨f, h1, by unfold Meets U at *; dsimp only; omega, h⟩
  · rintro ⟨y, hy, ha, hb⟩
    unfold Meets U at *; dsimp only at *; omega
end Go.Rz

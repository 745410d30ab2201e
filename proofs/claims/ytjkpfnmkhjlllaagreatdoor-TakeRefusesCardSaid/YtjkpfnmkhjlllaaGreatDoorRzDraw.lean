/- A region that draws its order: one walk, in an order in which all that only reads comes as early as it may, serves for every order. -/
import Derived.Test.YtjkpfnmkhjlllaaGreatDoorRzWalk
set_option linter.unusedVariables false
set_option linter.unusedSimpArgs false
namespace Go.Rz
open Go.RowKit (Below)
set_option linter.unusedVariables false

def looks (s : St) : List Tmp := (s.o.op.operands.toList.filterMap fun | .tmp t => some t | _ => none) ++ (match s.g with | some (t, _) => [t] | none => [])
def deps (ops : Array Oper) (i : Nat) : List Nat := match ops[i]? with
  | some o => (o.after.toList.filter (Region.binds .any)).map (·.on)
  | none => []
def has (l : List Nat) (i : Nat) : Bool := l.any fun j => Nat.beq j i
theorem has_iff {l : List Nat} {i : Nat} : has l i = true ↔ i ∈ l := by
  simp only [has, List.any_eq_true]
  exact ⟨fun ⟨j, hj, h⟩ => Nat.eq_of_beq_eq_true h ▸ hj, fun h => ⟨i, h, Nat.beq_refl i⟩⟩

def apartB (ops : Array Oper) (p q : St) : Bool :=
  match q.o.dst with
  | some d => (!(has (looks p) d) || has (deps ops p.idx) q.idx || has (deps ops q.idx) p.idx) && (match p.o.dst with | some d' => !(Nat.beq d' d) | none => true)
  | none => true
def pairsB (ops : Array Oper) (L : List St) : Bool := L.all fun p => L.all fun q => Nat.beq p.idx q.idx || apartB ops p q
def topoB (ops : Array Oper) : List Nat → List St → Bool
  | _, [] => true
  | done, s :: l => (deps ops s.idx).all (has done) && !(has done s.idx) && topoB ops (s.idx :: done) l
def soleB (ops : Array Oper) : List St → Bool
  | [] => true
  | s :: l => (!(Nat.beq s.cls 2) || l.all fun k => (deps ops k.idx).any fun j => (s :: l).any fun q => Nat.beq q.idx j) && soleB ops l
/-- Who is an ancestor: by a table of bit masks. -/
def befores (ops : Array Oper) : Nat → List Nat
  | 0 => []
  | k + 1 => let t := befores ops k; t ++ [(deps ops k).foldl (fun m j => m ||| 2 ^ j ||| (t[j]?.getD 0)) 0]
def locksB (bef : List Nat) : List St → List St → Bool
  | _, [] => true
  | prev, s :: l => (!(Nat.beq s.cls 2) || prev.all fun p => ((bef[s.idx]?).getD 0).testBit p.idx || Nat.beq p.cls 0 || (Nat.beq p.cls 1 && p.keep && has s.locks p.idx)) && locksB bef (prev ++ [s]) l
def drawB (N : Nat) (ops : Array Oper) (l : List (Nat × Nat × Bool × List Nat)) : Bool :=
  let L := plan ops l
  Nat.beq l.length ops.size && l.all (fun x => planOk1 N ops x.1 && Nat.ble x.2.1 2) && pairsB ops L && topoB ops [] L && soleB ops L && locksB (befores ops ops.size) [] L && ops.all (fun o => match o.op with | .select .. => false | _ => true)

theorem befores_length (ops : Array Oper) : ∀ k, (befores ops k).length = k
  | 0 => rfl
  | k + 1 => by simp [befores, befores_length ops k]
theorem befores_get (ops : Array Oper) : ∀ k i, i < k → (befores ops k)[i]? = some ((deps ops i).foldl (fun m j => m ||| 2 ^ j ||| ((befores ops i)[j]?.getD 0)) 0)
  | 0, i, h => by omega
  | k + 1, i, h => by
    simp only [befores]
    by_cases hi : i < k
    · rw [List.getElem?_append_left (by rw [befores_length]; exact hi)]
      exact befores_get ops k i hi
    · obtain rfl : i = k := by omega
      rw [List.getElem?_append_right (by rw [befores_length]; omega)]
      simp [befores_length]
theorem fold_bit (f : Nat → Nat) (j : Nat) : ∀ (l : List Nat) (m : Nat), (l.foldl (fun m j => m ||| 2 ^ j ||| f j) m).testBit j = true → m.testBit j = true ∨ j ∈ l ∨ ∃ k ∈ l, (f k).testBit j = true
  | [], m, h => .inl h
  | k :: l, m, h => by
    rcases fold_bit f j l _ h with h | h | ⟨q, hq, h⟩
    · simp only [Nat.testBit_or, Bool.or_eq_true, Nat.testBit_two_pow, decide_eq_true_eq] at h
      rcases h with (h | h) | h
      · exact .inl h
      · exact .inr (.inl (by simp [h]))
      · exact .inr (.inr ⟨k, by simp, h⟩)
    · exact .inr (.inl (by simp [h]))
    · exact .inr (.inr ⟨q, by simp [hq], h⟩)
theorem befores_prefix (ops : Array Oper) {i k j : Nat} (h : i ≤ k) (hj : j < i) : (befores ops i)[j]? = (befores ops k)[j]? := by
  rw [befores_get ops i j hj, befores_get ops k j (by omega)]
/-- An ancestor of what is ready is done. -/
theorem anc_done {ops : Array Oper} {D : Nat → Prop} (hc : ∀ i, D i → ∀ j ∈ deps ops i, D j) : ∀ (n i j : Nat), i < n → (((befores ops n)[i]?).getD 0).testBit j = true → (∀ k ∈ deps ops i, D k) → D j := by
  intro n i
  induction i using Nat.strongRecOn with
  | _ i ih =>
    intro j hi hb hd
    rw [befores_get ops n i hi, Option.getD_some] at hb
    rcases fold_bit _ _ _ _ hb with h | h | ⟨k, hk, h⟩
    · simp at h
    · exact hd j h
    · by_cases hki : k < i
      · have e := befores_prefix ops (i := i) (k := n) (j := k) (by omega) hki
        rw [e] at h
        exact ih k hki j (by omega) h (hc k (hd k hk))
      · rw [List.getElem?_eq_none (by rw [befores_length]; omega)] at h
        simp at h

structure Rec where
  s : St
  v : Value
  ep : Env
  Lk : List HProp

def envR (l : List Rec) (e0 : Env) : Env := l.foldl (fun e x => updO e x.s.o.dst x.v) e0
theorem updO_ne {e : Env} {dst : Option Tmp} {v : Value} {t : Nat} (h : dst ≠ some t) : updO e dst v t = e t := by
  cases dst with
  | none => rfl
  | some d =>
    simp only [updO, upd]
    cases hb : Nat.beq t d with
    | true => exact absurd (by rw [Nat.eq_of_beq_eq_true hb]) h
    | false => rfl
theorem updO_eq {e : Env} {v : Value} {t : Nat} : updO e (some t) v t = v := by simp [updO, upd, Nat.beq_refl]
theorem envR_none {t : Nat} : ∀ (l : List Rec) (e : Env), (∀ x ∈ l, x.s.o.dst ≠ some t) → envR l e t = e t
  | [], e, _ => rfl
  | x :: l, e, h => by
    show envR l (updO e x.s.o.dst x.v) t = _
    rw [envR_none l _ (fun y hy => h y (by simp [hy])), updO_ne (h x (by simp))]
theorem envR_some {t : Nat} {v : Value} : ∀ (l : List Rec) (e : Env), (∃ x ∈ l, x.s.o.dst = some t) → (∀ x ∈ l, x.s.o.dst = some t → x.v = v) → envR l e t = v
  | [], e, h, _ => by obtain ⟨_, h, _⟩ := h; cases h
  | x :: l, e, h, hv => by
    show envR l (updO e x.s.o.dst x.v) t = _
    by_cases hl : ∃ y ∈ l, y.s.o.dst = some t
    · exact envR_some l _ hl (fun y hy => hv y (by simp [hy]))
    · rw [envR_none l _ (fun y hy he => hl ⟨y, hy, he⟩)]
      obtain ⟨y, hy, he⟩ := h
      rcases List.mem_cons.1 hy with rfl | hy
      · rw [he, updO_eq]; exact hv _ (by simp) he
      · exact absurd ⟨y, hy, he⟩ hl
theorem envR_append (l m : List Rec) (e : Env) : envR (l ++ m) e = envR m (envR l e) := by simp [envR]

/-- What the check says of a canonical order. -/
structure Draws (N : Nat) (ops : Array Oper) (L : List St) : Prop where
  fits : ∀ s ∈ L, s.fits N ops
  all : ∀ i, i < ops.size → ∃ s ∈ L, s.idx = i
  lt : ∀ s ∈ L, s.idx < ops.size
  topo : ∀ l1 s l2, L = l1 ++ s :: l2 → (∀ j ∈ deps ops s.idx, ∃ q ∈ l1, q.idx = j) ∧ ∀ q ∈ l1, q.idx ≠ s.idx
  apart : ∀ p ∈ L, ∀ q ∈ L, p.idx ≠ q.idx → ∀ d, q.o.dst = some d → (d ∈ looks p → q.idx ∈ deps ops p.idx ∨ p.idx ∈ deps ops q.idx) ∧ p.o.dst ≠ some d
  sole : ∀ l1 s l2, L = l1 ++ s :: l2 → s.cls = 2 → ∀ k ∈ l2, ∃ j ∈ deps ops k.idx, ∃ q ∈ s :: l2, q.idx = j
  locks : ∀ l1 s l2, L = l1 ++ s :: l2 → s.cls = 2 → ∀ p ∈ l1, (((befores ops ops.size)[s.idx]?).getD 0).testBit p.idx = true ∨ p.cls = 0 ∨ (p.cls = 1 ∧ p.keep = true ∧ p.idx ∈ s.locks)
  cls : ∀ s ∈ L, s.cls ≤ 2
  sel : ∀ s ∈ L, ∀ cs b, s.o.op ≠ .select cs b

variable {P : Program} {B : Base} {r : Option Nat} {n N : Nat} {ops : Array Oper} {L : List St} {e0 : Env} {Q : Env → List HProp → Prop}

def listedB (listed : Array Bool) (i : Nat) : Bool := listed.getD i true

structure Inv (P : Program) (B : Base) (r : Option Nat) (n : Nat) (ops : Array Oper) (L : List St) (e0 : Env) (listed : Array Bool) (rc : List Rec) (todo : List St) (pd : List (Nat × List HProp)) (e : Env) (S : List HProp) : Prop where
  hL : rc.map (·.s) ++ todo = L
  env : e = envR rc e0
  eps : ∀ l1 x l2, rc = l1 ++ x :: l2 → x.ep = envR l1 e0
  un : ∀ s ∈ todo, listedB listed s.idx = false
  ok : ∀ x ∈ rc, listedB listed x.s.idx = false → (wantedE x.ep x.s.g = false ∧ x.v = undef ∧ x.Lk = []) ∨ (wantedE x.ep x.s.g = true ∧ OpT P B r n x.s.o x.ep x.Lk (fun u L => u = x.v ∧ L = x.Lk))
  lk : ∀ x ∈ rc, listedB listed x.s.idx = false → ∃ R, Take S x.Lk R
  cls : ∀ x ∈ rc, listedB listed x.s.idx = false → x.s.cls ≠ 1 → x.Lk = []
  pd : ∀ j Lk, (j, Lk) ∈ pd → ∃ x ∈ rc, x.s.idx = j ∧ x.Lk = Lk
  closed : ∀ i, listedB listed i = true → ∀ j ∈ deps ops i, listedB listed j = true
  size : listed.size = ops.size

theorem split_mem {α : Type} {x : α} {l : List α} (h : x ∈ l) : ∃ l1 l2, l = l1 ++ x :: l2 := List.append_of_mem h

/-- Two with one number are one. -/
theorem Draws.inj (hd : Draws N ops L) {p q : St} (hp : p ∈ L) (hq : q ∈ L) (h : p.idx = q.idx) : p = q := by
  obtain ⟨l1, l2, e⟩ := split_mem hp
  have hq' := hq
  rw [e] at hq'
  rcases List.mem_append.1 hq' with h1 | h1
  · exact absurd h.symm ((hd.topo l1 p l2 e).2 q h1)
  · rcases List.mem_cons.1 h1 with rfl | h1
    · rfl
    · obtain ⟨m1, m2, e2⟩ := split_mem h1
      exact absurd h ((hd.topo (l1 ++ p :: m1) q m2 (by rw [e, e2]; simp)).2 p (by simp))

theorem agree (hd : Draws N ops L) {listed : Array Bool} {rc : List Rec} {todo : List St} {pd : List (Nat × List HProp)} {e : Env} {S : List HProp} (hi : Inv P B r n ops L e0 listed rc todo pd e S)
    {l1 l2 : List Rec} {p : St} {rest : List St} (hrc : rc = l1 ++ l2) (hp : L = l1.map (·.s) ++ p :: rest) (hun : listedB listed p.idx = false) (hready : ∀ j ∈ deps ops p.idx, listedB listed j = true) {t : Nat} (ht : t ∈ looks p) :
    envR (rc.filter fun x => listedB listed x.s.idx) e0 t = envR l1 e0 t := by
  have hpL : p ∈ L := by rw [hp]; simp
  have inL : ∀ x ∈ rc, x.s ∈ L := fun x hx => by rw [← hi.hL]; exact List.mem_append_left _ (List.mem_map_of_mem hx)
  by_cases hy : ∃ y ∈ rc, y.s.o.dst = some t
  · obtain ⟨y, hy, hyd⟩ := hy
    have uniq : ∀ z ∈ rc, z.s.o.dst = some t → z.s = y.s := fun z hz hzd => by
      by_cases e : z.s.idx = y.s.idx
      · exact hd.inj (inL z hz) (inL y hy) e
      · exact absurd hzd (hd.apart z.s (inL z hz) y.s (inL y hy) e t hyd).2
    have uniqv : ∀ z ∈ rc, z.s.o.dst = some t → z = y := fun z hz hzd => by
      have hs := uniq z hz hzd
      obtain ⟨m1, m2, e1⟩ := split_mem hy
      have hz' := hz
      rw [e1] at hz'
      rcases List.mem_append.1 hz' with h1 | h1
      · exfalso
        refine (hd.topo (m1.map (·.s)) y.s (m2.map (·.s) ++ todo) ?_).2 z.s (List.mem_map_of_mem h1) (by rw [hs])
        rw [← hi.hL, e1]; simp
      · rcases List.mem_cons.1 h1 with rfl | h1
        · rfl
        · exfalso
          obtain ⟨k1, k2, e2⟩ := split_mem h1
          refine (hd.topo ((m1 ++ y :: k1).map (·.s)) z.s (k2.map (·.s) ++ todo) ?_).2 y.s (by simp) (by rw [hs])
          rw [← hi.hL, e1, e2]; simp
    have both : (y ∈ l1 ↔ listedB listed y.s.idx = true) → envR (rc.filter fun x => listedB listed x.s.idx) e0 t = envR l1 e0 t := by
      intro hiff
      cases hl : listedB listed y.s.idx with
      | true =>
        have hy1 := hiff.2 hl
        rw [envR_some (v := y.v) (rc.filter _) e0 ⟨y, List.mem_filter.2 ⟨hy, hl⟩, hyd⟩ (fun z hz hzd => by rw [uniqv z (List.mem_filter.1 hz).1 hzd]),
          envR_some (v := y.v) l1 e0 ⟨y, hy1, hyd⟩ (fun z hz hzd => by rw [uniqv z (by rw [hrc]; exact List.mem_append_left _ hz) hzd])]
      | false =>
        have hy1 : y ∉ l1 := fun h => by rw [hiff.1 h] at hl; cases hl
        rw [envR_none (rc.filter _) e0 (fun z hz hzd => by
            obtain ⟨h1, h2⟩ := List.mem_filter.1 hz
            rw [uniqv z h1 hzd] at h2; rw [hl] at h2; cases h2),
          envR_none l1 e0 (fun z hz hzd => hy1 (uniqv z (by rw [hrc]; exact List.mem_append_left _ hz) hzd ▸ hz))]
    have notIn : ∀ x ∈ l1, x.s.idx ≠ p.idx := fun x hx => (hd.topo _ _ _ hp).2 x.s (List.mem_map_of_mem hx)
    by_cases e : y.s.idx = p.idx
    · refine both ⟨fun h => absurd e (notIn y h), fun h => by rw [e, hun] at h; cases h⟩
    · rcases (hd.apart p hpL y.s (inL y hy) (fun h => e h.symm) t hyd).1 ht with h | h
      · refine both ⟨fun _ => hready _ h, fun _ => ?_⟩
        obtain ⟨q, hq, hqi⟩ := (hd.topo _ _ _ hp).1 _ h
        obtain ⟨z, hz, rfl⟩ := List.mem_map.1 hq
        have hzrc : z ∈ rc := by rw [hrc]; exact List.mem_append_left _ hz
        have hzy : z.s = y.s := hd.inj (inL z hzrc) (inL y hy) hqi
        have : z = y := uniqv z hzrc (by rw [hzy]; exact hyd)
        exact this ▸ hz
      · refine both ⟨fun hy1 => ?_, fun hl => ?_⟩
        · exfalso
          obtain ⟨k1, k2, e2⟩ := split_mem hy1
          obtain ⟨q, hq, hqi⟩ := (hd.topo (k1.map (·.s)) y.s (k2.map (·.s) ++ p :: rest) (by rw [hp, e2]; simp)).1 _ h
          obtain ⟨z, hz, rfl⟩ := List.mem_map.1 hq
          exact notIn z (by rw [e2]; exact List.mem_append_left _ hz) hqi
        · exfalso
          have := hi.closed _ hl _ h
          rw [hun] at this; cases this
  · rw [envR_none (rc.filter _) e0 (fun z hz hzd => hy ⟨z, (List.mem_filter.1 hz).1, hzd⟩), envR_none l1 e0 (fun z hz hzd => hy ⟨z, by rw [hrc]; exact List.mem_append_left _ hz, hzd⟩)]

theorem listed_set {listed : Array Bool} {i j : Nat} : listedB (listed.setIfInBounds i true) j = (listedB listed j || decide (i = j ∧ i < listed.size)) := by
  unfold listedB
  simp only [Array.getD_eq_getD_getElem?, Array.getElem?_setIfInBounds]
  by_cases h : i = j
  · subst h
    by_cases hl : i < listed.size
    · simp [hl]
    · simp [hl]
  · simp [h]


theorem OpT_congr {o : Oper} {e e' : Env} {A : List HProp} {Bp : Value → List HProp → Prop} (h : OpT P B r n o e A Bp) (he : ∀ t, .tmp t ∈ o.op.operands → e' t = e t) : OpT P B r n o e' A Bp := by
  intro fr w hs a next Q ha hk
  refine h fr w hs a next Q (fun x hx => ?_) hk
  rw [ha x hx]
  cases x with
  | tmp t => exact he t hx
  | _ => rfl
theorem operand_looks {s : St} {t : Tmp} (h : .tmp t ∈ s.o.op.operands) : t ∈ looks s := by
  refine List.mem_append_left _ (List.mem_filterMap.2 ⟨.tmp t, by simpa using h, rfl⟩)
theorem wantedE_congr {s : St} {e e' : Env} (h : ∀ t ∈ looks s, e' t = e t) : wantedE e' s.g = wantedE e s.g := by
  cases hg : s.g with
  | none => rfl
  | some g =>
    obtain ⟨t, want⟩ := g
    have := h t (by simp [looks, hg])
    simp only [wantedE, this]

theorem Draws.depLt (hd : Draws N ops L) {i j : Nat} (h : j ∈ deps ops i) : j < ops.size := by
  by_cases hi : i < ops.size
  · obtain ⟨s, hs, rfl⟩ := hd.all i hi
    obtain ⟨l1, l2, e⟩ := split_mem hs
    obtain ⟨q, hq, rfl⟩ := (hd.topo l1 s l2 e).1 j h
    exact hd.lt q (by rw [e]; simp [hq])
  · have : ops[i]? = none := Array.getElem?_eq_none (by omega)
    simp [deps, this] at h

theorem ready_iff (hd : Draws N ops L) {listed : Array Bool} (hsz : listed.size = ops.size) {i : Nat} : i ∈ Region.ready .any ops listed ↔ i < ops.size ∧ listedB listed i = false ∧ ∀ j ∈ deps ops i, listedB listed j = true := by
  have hg : ∀ j, j < ops.size → (listed.getD j false = true ↔ listedB listed j = true) := fun j hj => by
    unfold listedB
    simp [Array.getD_eq_getD_getElem?, Array.getElem?_eq_getElem (show j < listed.size by omega)]
  rw [mem_ready]
  constructor
  · rintro ⟨h0, o, ho, h⟩
    refine ⟨(Array.getElem?_eq_some_iff.1 ho).1, h0, fun j hj => ?_⟩
    have hj' := hj
    simp only [deps, ho, List.mem_map, List.mem_filter] at hj
    obtain ⟨ed, ⟨hm, hb⟩, rfl⟩ := hj
    exact (hg _ (hd.depLt hj')).1 (h ed (by simpa using hm) hb)
  · rintro ⟨hi, h0, h⟩
    obtain ⟨o, ho⟩ : ∃ o, ops[i]? = some o := ⟨ops[i], Array.getElem?_eq_getElem hi⟩
    refine ⟨h0, o, ho, fun ed he hb => ?_⟩
    have hj : ed.on ∈ deps ops i := by
      simp only [deps, ho, List.mem_map, List.mem_filter]
      exact ⟨ed, ⟨by simpa using he, hb⟩, rfl⟩
    exact (hg _ (hd.depLt hj)).2 (h _ hj)

theorem count_set : ∀ (l : List Bool) (i : Nat), l[i]? = some false → (l.set i true).countP (fun b => !b) + 1 = l.countP (fun b => !b)
  | [], i, h => by simp at h
  | b :: l, 0, h => by simp at h; subst h; simp
  | b :: l, i + 1, h => by
    have := count_set l i (by simpa using h)
    simp only [List.set_cons_succ, List.countP_cons]
    omega
theorem unlisted_count {listed : Array Bool} {i : Nat} (h : listedB listed i = false) : (listed.setIfInBounds i true).toList.countP (fun b => !b) + 1 = listed.toList.countP (fun b => !b) := by
  have hi : listed.toList[i]? = some false := by
    unfold listedB at h
    rw [Array.getD_eq_getD_getElem?] at h
    cases hx : listed[i]? with
    | none => rw [hx] at h; cases h
    | some b => rw [hx] at h; simp at h; subst h; simpa using hx
  have := count_set _ _ hi
  simpa using this

theorem Take.app {F T R : List HProp} (h : Take F T R) : ∀ (L : List HProp), Take (L ++ F) T (L ++ R) := by
  have pk : ∀ {S R : List HProp} {A : HProp}, Pick S A R → ∀ L : List HProp, Pick (L ++ S) A (L ++ R) := by
    intro S R A p L
    induction L with
    | nil => exact p
    | cons x L ih => exact .there ih
  induction h with
  | nil => exact fun L => .nil
  | cons p _ ih => exact fun L => .cons (pk p L) (ih L)

section
variable {listed : Array Bool} {rc : List Rec} {todo : List St} {pd : List (Nat × List HProp)} {e : Env} {S : List HProp}

theorem Inv.inL (hi : Inv P B r n ops L e0 listed rc todo pd e S) {x : Rec} (hx : x ∈ rc) : x.s ∈ L := by rw [← hi.hL]; exact List.mem_append_left _ (List.mem_map_of_mem hx)
theorem Inv.inj (hd : Draws N ops L) (hi : Inv P B r n ops L e0 listed rc todo pd e S) {x y : Rec} (hx : x ∈ rc) (hy : y ∈ rc) (h : x.s.idx = y.s.idx) : x = y := by
  obtain ⟨m1, m2, e1⟩ := split_mem hy
  have hx' := hx
  rw [e1] at hx'
  rcases List.mem_append.1 hx' with h1 | h1
  · exfalso
    refine (hd.topo (m1.map (·.s)) y.s (m2.map (·.s) ++ todo) ?_).2 x.s (List.mem_map_of_mem h1) h
    rw [← hi.hL, e1]; simp
  · rcases List.mem_cons.1 h1 with rfl | h1
    · rfl
    · exfalso
      obtain ⟨k1, k2, e2⟩ := split_mem h1
      refine (hd.topo ((m1 ++ y :: k1).map (·.s)) x.s (k2.map (·.s) ++ todo) ?_).2 y.s (by simp) h.symm
      rw [← hi.hL, e1, e2]; simp
theorem Inv.dstInj (hd : Draws N ops L) (hi : Inv P B r n ops L e0 listed rc todo pd e S) {x y : Rec} (hx : x ∈ rc) (hy : y ∈ rc) {t : Nat} (h1 : x.s.o.dst = some t) (h2 : y.s.o.dst = some t) : x = y := by
  by_cases e : x.s.idx = y.s.idx
  · exact hi.inj hd hx hy e
  · exact absurd h1 (hd.apart x.s (hi.inL hx) y.s (hi.inL hy) e t h2).2

/-- What is not done yet has a first, which is ready. -/
theorem first_ready (hd : Draws N ops L) (hi : Inv P B r n ops L e0 listed rc todo pd e S) {l1 l2 : List St} (hl : L = l1 ++ l2) (h : ∃ s ∈ l1, listedB listed s.idx = false) : Region.ready .any ops listed ≠ [] := by
  have key : ∀ (m1 m2 : List St), L = m1 ++ m2 → (∃ s ∈ m1, listedB listed s.idx = false) → ∃ k1 s k2, L = k1 ++ s :: k2 ∧ listedB listed s.idx = false ∧ ∀ q ∈ k1, listedB listed q.idx = true := by
    intro m1
    induction hn : m1.length using Nat.strongRecOn generalizing m1 with
    | _ k ih =>
      intro m2 hm hs
      obtain ⟨s, hs, hu⟩ := hs
      obtain ⟨a1, a2, ea⟩ := split_mem hs
      by_cases hx : ∃ q ∈ a1, listedB listed q.idx = false
      · exact ih a1.length (by rw [← hn, ea]; simp) a1 rfl (s :: a2 ++ m2) (by rw [hm, ea]; simp) hx
      · refine ⟨a1, s, a2 ++ m2, by rw [hm, ea]; simp, hu, fun q hq => ?_⟩
        cases hq' : listedB listed q.idx with
        | true => rfl
        | false => exact absurd ⟨q, hq, hq'⟩ hx
  obtain ⟨k1, s, k2, e1, hu, hall⟩ := key l1 l2 hl h
  intro hnil
  have : s.idx ∈ Region.ready .any ops listed := (ready_iff hd hi.size).2 ⟨hd.lt s (by rw [e1]; simp), hu, fun j hj => by
    obtain ⟨q, hq, rfl⟩ := (hd.topo k1 s k2 e1).1 j hj
    exact hall q hq⟩
  rw [hnil] at this; cases this

theorem Inv.push {s : St} (hi : Inv P B r n ops L e0 listed rc (s :: todo) pd e S) (v : Value) (Lk : List HProp) {pd' : List (Nat × List HProp)} (hpd : ∀ j l, (j, l) ∈ pd' → (j, l) ∈ pd ∨ (j = s.idx ∧ l = Lk))
    (hok : (wantedE e s.g = false ∧ v = undef ∧ Lk = []) ∨ (wantedE e s.g = true ∧ OpT P B r n s.o e Lk (fun u L => u = v ∧ L = Lk))) (hlk : ∃ R, Take S Lk R) (hcls : s.cls ≠ 1 → Lk = []) :
    Inv P B r n ops L e0 listed (rc ++ [⟨s, v, e, Lk⟩]) todo pd' (updO e s.o.dst v) S := by
  refine ⟨by rw [← hi.hL]; simp, by rw [envR_append, ← hi.env]; rfl, ?_, fun q hq => hi.un q (by simp [hq]), ?_, ?_, ?_, ?_, hi.closed, hi.size⟩
  · intro l1 x l2 hx
    rcases List.append_eq_append_iff.1 hx with ⟨m, h1, h2⟩ | ⟨m, h1, h2⟩
    · cases m with
      | nil => simp at h1 h2; obtain ⟨rfl, rfl⟩ := h2; subst h1; simpa using hi.env
      | cons y m => simp at h2
    · cases m with
      | nil => simp at h1 h2; obtain ⟨rfl, rfl⟩ := h2; subst h1; simpa using hi.env
      | cons y m =>
        simp at h2; obtain ⟨rfl, rfl⟩ := h2
        exact hi.eps l1 x m (by simpa using h1)
  · intro x hx hu
    rcases List.mem_append.1 hx with hx | hx
    · exact hi.ok x hx hu
    · simp at hx; subst hx; exact hok
  · intro x hx hu
    rcases List.mem_append.1 hx with hx | hx
    · exact hi.lk x hx hu
    · simp at hx; subst hx; exact hlk
  · intro x hx hu hc
    rcases List.mem_append.1 hx with hx | hx
    · exact hi.cls x hx hu hc
    · simp at hx; subst hx; exact hcls hc
  · intro j l h
    rcases hpd j l h with h | ⟨rfl, rfl⟩
    · obtain ⟨x, hx, a, b⟩ := hi.pd j l h; exact ⟨x, by simp [hx], a, b⟩
    · exact ⟨⟨s, v, e, l⟩, by simp, rfl, rfl⟩

theorem pdAdd_mem {s : St} {Lk : List HProp} {pd : List (Nat × List HProp)} (j : Nat) (l : List HProp) (h : (j, l) ∈ pdAdd s Lk pd) : (j, l) ∈ pd ∨ (j = s.idx ∧ l = Lk) := by
  unfold pdAdd at h
  split at h
  · rcases List.mem_cons.1 h with h | h
    · simp at h; exact .inr h
    · exact .inl h
  · exact .inl h

theorem locksOk_mem {pd : List (Nat × List HProp)} {F : List HProp} {j : Nat} : ∀ {l : List Nat}, locksOk pd F l → j ∈ l → ∃ Lk R, (j, Lk) ∈ pd ∧ Take F Lk R
  | [], _, h => by cases h
  | k :: l, h, hj => by
    rcases List.mem_cons.1 hj with rfl | hj
    · exact h.1
    · exact locksOk_mem h.2 hj

end

theorem sim (hd : Draws N ops L) {K : Exit → Act → World → Prop} {ds : List Deferred} (hK : ∀ e' S' a' w', Q e' S' → Rel N a' e' → a'.defers = ds → Sat B w' S' → K .normal a' w') :
    ∀ (fuel : Nat) (listed : Array Bool) (a : Act) (w : World) (rc : List Rec) (todo : List St) (pd : List (Nat × List HProp)) (e : Env) (S : List HProp), Wk P B r n todo pd e S Q →
      Inv P B r n ops L e0 listed rc todo pd e S → Rel N a (envR (rc.filter fun x => listedB listed x.s.idx) e0) → a.defers = ds → Sat B w S → listed.toList.countP (fun b => !b) ≤ fuel →
      wpAnyIn (Fx r) n P .any ops K fuel listed a w := by
  intro fuel
  induction fuel with
  | zero =>
    intro listed a w rc todo pd e S hw
    induction hw generalizing rc with
    | @nil pd e S Q hq =>
      intro hi hr hds hs hcnt
      have hall : ∀ x ∈ rc, listedB listed x.s.idx = true := fun x hx => by
        cases hl : listedB listed x.s.idx with
        | true => rfl
        | false => have := unlisted_count hl; omega
      have hf : (rc.filter fun x => listedB listed x.s.idx) = rc := List.filter_eq_self.2 hall
      rw [hf, ← hi.env] at hr
      refine ⟨?_, hK _ _ _ _ hq hr hds hs⟩
      cases hrd : Region.ready .any ops listed with
      | nil => rfl
      | cons i l =>
        have : i ∈ Region.ready .any ops listed := by rw [hrd]; simp
        have := unlisted_count ((ready_iff hd hi.size).1 this).2.1
        omega
    | @skip s rest pd e S Q hg k ih =>
      intro hi hr hds hs hcnt
      have hu := hi.un s (by simp)
      have := unlisted_count hu; omega
    | @float s rest pd e S Q v Lk R hg hc hp ht ho k ih =>
      intro hi hr hds hs hcnt
      have hu := hi.un s (by simp)
      have := unlisted_count hu; omega
    | @anchor s rest pd e S Q A F Bp hg hc ht ho hl k ih =>
      intro hi hr hds hs hcnt
      have hu := hi.un s (by simp)
      have := unlisted_count hu; omega
  | succ fuel IH =>
    -- one of those that only read is carried out now
    have pend : ∀ (listed : Array Bool) (a : Act) (w : World) (rc : List Rec) (todo : List St) (pd : List (Nat × List HProp)) (e : Env) (S : List HProp), Wk P B r n todo pd e S Q →
        Inv P B r n ops L e0 listed rc todo pd e S → Rel N a (envR (rc.filter fun x => listedB listed x.s.idx) e0) → a.defers = ds → Sat B w S → listed.toList.countP (fun b => !b) ≤ fuel + 1 →
        ∀ x ∈ rc, x.s.idx ∈ Region.ready .any ops listed → wpOpIn (Fx r) n P ops K x.s.idx (wpAnyIn (Fx r) n P .any ops K fuel (listed.setIfInBounds x.s.idx true)) a w := by
      intro listed a w rc todo pd e S hw hi hr hds hs hcnt x hx hrd
      obtain ⟨hlt, hun, hdeps⟩ := (ready_iff hd hi.size).1 hrd
      have hxL := hi.inL hx
      have fs := hd.fits x.s hxL
      obtain ⟨l1, l2, erc⟩ := split_mem hx
      have hep := hi.eps l1 x l2 erc
      have hag : ∀ t ∈ looks x.s, envR (rc.filter fun x => listedB listed x.s.idx) e0 t = x.ep t := fun t ht => by
        rw [hep]
        exact agree hd hi (l1 := l1) (l2 := x :: l2) (p := x.s) (rest := l2.map (·.s) ++ todo) erc (by rw [← hi.hL, erc]; simp) hun hdeps ht
      have next : ∀ w', Sat B w' S → wpAnyIn (Fx r) n P .any ops K fuel (listed.setIfInBounds x.s.idx true) (a.put x.s.o.dst x.v) w' := by
        intro w' hs'
        refine IH _ _ _ rc todo pd e S hw ?_ ?_ (by cases x.s.o.dst <;> exact hds) hs' (by have := unlisted_count hun; omega)
        · refine ⟨hi.hL, hi.env, hi.eps, fun s hs => ?_, fun y hy hu => hi.ok y hy ?_, fun y hy hu => hi.lk y hy ?_, fun y hy hu => hi.cls y hy ?_, hi.pd, ?_, by simpa using hi.size⟩
          · rw [listed_set, hi.un s hs]
            have : x.s.idx ≠ s.idx := by
              obtain ⟨t1, t2, et⟩ := split_mem hs
              exact (hd.topo (rc.map (·.s) ++ t1) s t2 (by rw [← hi.hL, et]; simp)).2 x.s (by simp; exact .inl ⟨x, hx, rfl⟩)
            simp [this]
          · rw [listed_set] at hu; simp at hu; exact hu.1
          · rw [listed_set] at hu; simp at hu; exact hu.1
          · rw [listed_set] at hu; simp at hu; exact hu.1
          · intro i hl j hj
            rw [listed_set] at hl ⊢
            simp only [Bool.or_eq_true, decide_eq_true_eq] at hl ⊢
            rcases hl with hl | ⟨rfl, _⟩
            · exact .inl (hi.closed i hl j hj)
            · exact .inl (hdeps j hj)
        · have hput := hr.put fs.dst x.v
          refine ⟨hput.size, fun t => ?_⟩
          rw [hput.at_ t]
          have hfm : ∀ y, y ∈ (rc.filter fun x_1 => listedB (listed.setIfInBounds x.s.idx true) x_1.s.idx) ↔ y ∈ rc ∧ (listedB listed y.s.idx = true ∨ y = x) := by
            intro y
            rw [List.mem_filter, listed_set]
            simp only [Bool.or_eq_true, decide_eq_true_eq]
            constructor
            · rintro ⟨h1, h2 | ⟨h2, _⟩⟩
              · exact ⟨h1, .inl h2⟩
              · exact ⟨h1, .inr (hi.inj hd h1 hx h2.symm)⟩
            · rintro ⟨h1, h2 | rfl⟩
              · exact ⟨h1, .inl h2⟩
              · exact ⟨h1, .inr ⟨rfl, by rw [hi.size]; exact hlt⟩⟩
          by_cases htx : x.s.o.dst = some t
          · rw [htx, updO_eq, envR_some (v := x.v) _ _ ⟨x, (hfm x).2 ⟨hx, .inr rfl⟩, htx⟩ (fun y hy hyt => by rw [hi.dstInj hd ((hfm y).1 hy).1 hx hyt htx])]
          · rw [updO_ne htx]
            by_cases hy : ∃ y ∈ rc, listedB listed y.s.idx = true ∧ y.s.o.dst = some t
            · obtain ⟨y, hy, hyl, hyt⟩ := hy
              rw [envR_some (v := y.v) _ _ ⟨y, List.mem_filter.2 ⟨hy, hyl⟩, hyt⟩ (fun z hz hzt => by rw [hi.dstInj hd (List.mem_filter.1 hz).1 hy hzt hyt]),
                envR_some (v := y.v) _ _ ⟨y, (hfm y).2 ⟨hy, .inl hyl⟩, hyt⟩ (fun z hz hzt => by rw [hi.dstInj hd ((hfm z).1 hz).1 hy hzt hyt])]
            · rw [envR_none _ _ (fun z hz hzt => hy ⟨z, (List.mem_filter.1 hz).1, (List.mem_filter.1 hz).2, hzt⟩), envR_none _ _ (fun z hz hzt => by
                rcases ((hfm z).1 hz).2 with h | rfl
                · exact hy ⟨z, ((hfm z).1 hz).1, h, hzt⟩
                · exact htx hzt)]
      unfold wpOpIn
      simp only [fs.op, fs.wanted hr, wantedE_congr hag]
      rcases hi.ok x hx hun with ⟨hg, hv, hLk⟩ | ⟨hg, ho⟩
      · simp only [hg, Bool.false_eq_true, if_false]
        exact ⟨fun _ _ => trivial, hv ▸ next w hs⟩
      · simp only [hg, if_true]
        obtain ⟨R, ht⟩ := hi.lk x hx hun
        refine (OpT_congr ho (fun t ht => hag t (operand_looks ht))) R w (hs.take ht) a _ _ (fun y _ => by rw [hr.eval]) ?_
        rintro u Lu w' ⟨rfl, rfl⟩ hs'
        exact next w' (hs'.mono fun _ => ht.back)
    intro listed a w rc todo pd e S hw
    induction hw generalizing rc with
    | @nil pd e S Q hq =>
      intro hi hr hds hs hcnt
      have hL : L = rc.map (·.s) ++ [] := by rw [← hi.hL]
      refine ⟨fun hnil => ?_, fun i hrd => ?_⟩
      · have hall : ∀ x ∈ rc, listedB listed x.s.idx = true := fun x hx => by
          cases hl : listedB listed x.s.idx with
          | true => rfl
          | false => exact absurd hnil (first_ready hd hi hL ⟨x.s, List.mem_map_of_mem hx, hl⟩)
        have hf : (rc.filter fun x => listedB listed x.s.idx) = rc := List.filter_eq_self.2 hall
        rw [hf, ← hi.env] at hr
        exact hK _ _ _ _ hq hr hds hs
      · obtain ⟨hlt, _, _⟩ := (ready_iff hd hi.size).1 hrd
        obtain ⟨s, hsL, rfl⟩ := hd.all i hlt
        rw [hL] at hsL
        simp at hsL
        obtain ⟨x, hx, rfl⟩ := hsL
        exact pend listed a w rc [] pd e S (.nil hq) hi hr hds hs hcnt x hx hrd
    | @skip s rest pd e S Q hg k ih =>
      intro hi hr hds hs hcnt
      have hu := hi.un s (by simp)
      refine ih hK IH pend _ (hi.push undef [] pdAdd_mem (.inl ⟨hg, rfl, rfl⟩) ⟨_, .nil⟩ (fun _ => rfl)) ?_ hds hs hcnt
      rw [List.filter_append]; simpa [hu] using hr
    | @float s rest pd e S Q v Lk R hg hc hp ht ho k ih =>
      intro hi hr hds hs hcnt
      have hu := hi.un s (by simp)
      have hsL : s ∈ L := by rw [← hi.hL]; simp
      refine ih hK IH pend _ (hi.push v Lk pdAdd_mem (.inr ⟨hg, ho⟩) ⟨R, ht⟩ (fun h1 => hp ?_)) ?_ hds hs hcnt
      · have h2 := hd.cls s hsL
        have h3 : s.cls ≠ 2 := fun e => by rw [e] at hc; simp at hc
        omega
      · rw [List.filter_append]; simpa [hu] using hr
    | @anchor s rest pd e S Q A F Bp hg hc ht ho hl k ih =>
      intro hi hr hds hs hcnt
      have hu := hi.un s (by simp)
      have hL : L = rc.map (·.s) ++ s :: rest := by rw [← hi.hL]
      have hsL : s ∈ L := by rw [hL]; simp
      have hc2 : s.cls = 2 := by have := hd.cls s hsL; simp only [Nat.ble_eq] at hc; omega
      refine ⟨fun hnil => absurd hnil (first_ready hd hi (l1 := rc.map (·.s) ++ [s]) (l2 := rest) (by rw [hL]; simp) ⟨s, by simp, hu⟩), fun i hrd => ?_⟩
      obtain ⟨hlt, hun, hdeps⟩ := (ready_iff hd hi.size).1 hrd
      obtain ⟨q, hqL, rfl⟩ := hd.all i hlt
      have hq := hqL
      rw [hL] at hq
      rcases List.mem_append.1 hq with hq | hq
      · obtain ⟨x, hx, rfl⟩ := List.mem_map.1 hq
        exact pend listed a w rc _ pd e S (.anchor A F Bp hg hc ht ho hl k) hi hr hds hs hcnt x hx hrd
      · rcases List.mem_cons.1 hq with rfl | hq
        · have fs := hd.fits q hqL
          have hag : ∀ t ∈ looks q, envR (rc.filter fun x => listedB listed x.s.idx) e0 t = e t := fun t ht => by
            rw [hi.env]
            exact agree hd hi (l1 := rc) (l2 := []) (p := q) (rest := rest) (by simp) hL hun hdeps ht
          unfold wpOpIn
          simp only [fs.op, fs.wanted hr, wantedE_congr hag, hg, if_true]
          refine (OpT_congr ho (fun t ht => hag t (operand_looks ht))) F w (hs.take ht) a _ _ (fun y _ => by rw [hr.eval]) ?_
          intro v Lv w' hb hs'
          have hnot : ∀ y ∈ rc, y.s.idx ≠ q.idx := fun y hy => (hd.topo _ _ _ hL).2 y.s (List.mem_map_of_mem hy)
          refine IH _ _ _ (rc ++ [⟨q, v, e, []⟩]) rest pd _ _ (k v Lv hb) ?_ ?_ (by cases q.o.dst <;> exact hds) hs' (by have := unlisted_count hun; omega)
          · have unl : ∀ y ∈ rc ++ [(⟨q, v, e, []⟩ : Rec)], listedB (listed.setIfInBounds q.idx true) y.s.idx = false → y ∈ rc ∧ listedB listed y.s.idx = false := by
              intro y hy hu'
              rw [listed_set] at hu'; simp at hu'
              rcases List.mem_append.1 hy with hy | hy
              · exact ⟨hy, hu'.1⟩
              · simp at hy; subst hy; have := hu'.2 rfl; rw [hi.size] at this; omega
            refine ⟨by rw [hL]; simp, by rw [envR_append, ← hi.env]; rfl, ?_, fun z hz => ?_, fun y hy hu' => hi.ok y (unl y hy hu').1 (unl y hy hu').2, fun y hy hu' => ?_, fun y hy hu' => hi.cls y (unl y hy hu').1 (unl y hy hu').2, ?_, ?_, by simpa using hi.size⟩
            · intro l1 x l2 hx
              rcases List.append_eq_append_iff.1 hx with ⟨m, h1, h2⟩ | ⟨m, h1, h2⟩
              · cases m with
                | nil => simp at h1 h2; obtain ⟨rfl, rfl⟩ := h2; subst h1; simpa using hi.env
                | cons y m => simp at h2
              · cases m with
                | nil => simp at h1 h2; obtain ⟨rfl, rfl⟩ := h2; subst h1; simpa using hi.env
                | cons y m =>
                  simp at h2; obtain ⟨rfl, rfl⟩ := h2
                  exact hi.eps l1 x m (by simpa using h1)
            · rw [listed_set, hi.un z (by simp [hz])]
              have : q.idx ≠ z.idx := by
                obtain ⟨t1, t2, et⟩ := split_mem hz
                exact (hd.topo (rc.map (·.s) ++ q :: t1) z t2 (by rw [hL, et]; simp)).2 q (by simp)
              simp [this]
            · obtain ⟨hy', hu'⟩ := unl y hy hu'
              rcases hd.locks _ _ _ hL hc2 y.s (List.mem_map_of_mem hy') with h | h | ⟨h1, h2, h3⟩
              · exfalso
                have := anc_done (ops := ops) (D := fun i => listedB listed i = true) hi.closed ops.size q.idx y.s.idx hlt h hdeps
                rw [hu'] at this; cases this
              · rw [hi.cls y hy' hu' (by omega)]; exact ⟨_, .nil⟩
              · obtain ⟨Lk, R, hm, htk⟩ := locksOk_mem hl h3
                obtain ⟨x, hx, hxi, rfl⟩ := hi.pd _ _ hm
                rw [← hi.inj hd hx hy' hxi]
                exact ⟨_, htk.app _⟩
            · intro j l h; obtain ⟨x, hx, h1, h2⟩ := hi.pd j l h; exact ⟨x, by simp [hx], h1, h2⟩
            · intro i hl' j hj
              rw [listed_set] at hl' ⊢
              simp only [Bool.or_eq_true, decide_eq_true_eq] at hl' ⊢
              rcases hl' with hl' | ⟨rfl, _⟩
              · exact .inl (hi.closed i hl' j hj)
              · exact .inl (hdeps j hj)
          · have hput := hr.put fs.dst v
            have hf : ((rc ++ [(⟨q, v, e, []⟩ : Rec)]).filter fun x => listedB (listed.setIfInBounds q.idx true) x.s.idx) = (rc.filter fun x => listedB listed x.s.idx) ++ [⟨q, v, e, []⟩] := by
              rw [List.filter_append]
              congr 1
              · apply List.filter_congr
                intro y hy
                rw [listed_set]
                have := hnot y hy
                have hne : q.idx ≠ y.s.idx := fun h => this h.symm
                simp [hne]
              · simp [listed_set, hi.size, hlt]
            rw [hf, envR_append]
            exact hput
        · exfalso
          obtain ⟨j, hj, z, hz, hzj⟩ := hd.sole _ _ _ hL hc2 q hq
          have h1 := hdeps j hj
          rw [← hzj] at h1
          have h2 := hi.un z hz
          rw [h1] at h2; cases h2

theorem topoB_spec {L : List St} : ∀ (done : List Nat), topoB ops done L = true → ∀ l1 s l2, L = l1 ++ s :: l2 →
    (∀ j ∈ deps ops s.idx, j ∈ done ∨ ∃ q ∈ l1, q.idx = j) ∧ s.idx ∉ done ∧ ∀ q ∈ l1, q.idx ≠ s.idx := by
  induction L with
  | nil => intro done _ l1 s l2 h; simp at h
  | cons x L ih =>
    intro done h l1 s l2 hl
    simp only [topoB, Bool.and_eq_true, List.all_eq_true, Bool.not_eq_true'] at h
    obtain ⟨⟨h1, h2⟩, h3⟩ := h
    cases l1 with
    | nil =>
      simp at hl; obtain ⟨rfl, rfl⟩ := hl
      refine ⟨fun j hj => .inl (has_iff.1 (h1 j hj)), fun hm => ?_, fun q hq => by cases hq⟩
      rw [has_iff.2 hm] at h2; cases h2
    | cons y l1 =>
      simp at hl; obtain ⟨rfl, hl⟩ := hl
      obtain ⟨a, b, c⟩ := ih (x.idx :: done) h3 l1 s l2 hl
      refine ⟨fun j hj => ?_, fun hm => b (by simp [hm]), fun q hq => ?_⟩
      · rcases a j hj with h | ⟨q, hq, hqi⟩
        · rcases List.mem_cons.1 h with rfl | h
          · exact .inr ⟨x, by simp, rfl⟩
          · exact .inl h
        · exact .inr ⟨q, by simp [hq], hqi⟩
      · rcases List.mem_cons.1 hq with rfl | hq
        · exact fun e => b (by rw [e]; simp)
        · exact c q hq
theorem soleB_spec {L : List St} (h : soleB ops L = true) : ∀ l1 s l2, L = l1 ++ s :: l2 → s.cls = 2 → ∀ k ∈ l2, ∃ j ∈ deps ops k.idx, ∃ q ∈ s :: l2, q.idx = j := by
  induction L with
  | nil => intro l1 s l2 h; simp at h
  | cons x L ih =>
    intro l1 s l2 hl hc k hk
    simp only [soleB, Bool.and_eq_true] at h
    cases l1 with
    | nil =>
      simp at hl; obtain ⟨rfl, rfl⟩ := hl
      have h1 := h.1
      rw [hc] at h1
      simp only [Nat.beq_refl, Bool.not_true, Bool.false_or, List.all_eq_true, List.any_eq_true] at h1
      obtain ⟨j, hj, q, hq, e⟩ := h1 k hk
      exact ⟨j, hj, q, hq, Nat.eq_of_beq_eq_true e⟩
    | cons y l1 =>
      simp at hl; obtain ⟨rfl, hl⟩ := hl
      exact ih h.2 l1 s l2 hl hc k hk
theorem locksB_spec {bef : List Nat} {L : List St} : ∀ (prev : List St), locksB bef prev L = true → ∀ l1 s l2, L = l1 ++ s :: l2 → s.cls = 2 → ∀ p ∈ prev ++ l1,
    ((bef[s.idx]?).getD 0).testBit p.idx = true ∨ p.cls = 0 ∨ (p.cls = 1 ∧ p.keep = true ∧ p.idx ∈ s.locks) := by
  induction L with
  | nil => intro prev _ l1 s l2 h; simp at h
  | cons x L ih =>
    intro prev h l1 s l2 hl hc p hp
    simp only [locksB, Bool.and_eq_true] at h
    cases l1 with
    | nil =>
      simp at hl; obtain ⟨rfl, rfl⟩ := hl
      have h1 := h.1
      rw [hc] at h1
      simp only [Nat.beq_refl, Bool.not_true, Bool.false_or, List.all_eq_true, Bool.or_eq_true, Bool.and_eq_true] at h1
      rcases h1 p (by simpa using hp) with (h2 | h2) | h2
      · exact .inl h2
      · exact .inr (.inl (Nat.eq_of_beq_eq_true h2))
      · exact .inr (.inr ⟨Nat.eq_of_beq_eq_true h2.1.1, h2.1.2, has_iff.1 h2.2⟩)
    | cons y l1 =>
      simp at hl; obtain ⟨rfl, hl⟩ := hl
      exact ih (prev ++ [x]) h.2 l1 s l2 hl hc p (by simpa using hp)

theorem nodup_full {k : Nat} : ∀ (m : Nat) (l : List Nat), l.length = m → l.Nodup → (∀ i ∈ l, i < m) → ∀ i, i < m → i ∈ l := by
  intro m
  induction m with
  | zero => intro l _ _ _ i hi; omega
  | succ m ih =>
    intro l hl hn hb i hi
    by_cases hm : m ∈ l
    · by_cases e : i = m
      · exact e ▸ hm
      · have h1 : (l.erase m).length = m := by rw [List.length_erase_of_mem hm]; omega
        have h2 := ih (l.erase m) h1 (hn.erase m) (fun j hj => by
          have := (hn.mem_erase_iff.1 hj)
          have := hb j this.2
          have := (hn.mem_erase_iff.1 hj).1
          omega) i (by omega)
        exact (hn.mem_erase_iff.1 h2).2
    · -- m + 1 numbers below m
      exfalso
      have hb' : ∀ i ∈ l, i < m := fun j hj => by
        have := hb j hj
        have : j ≠ m := fun e => hm (e ▸ hj)
        omega
      cases l with
      | nil => simp at hl
      | cons x l =>
        have hx := hb' x (by simp)
        rw [List.nodup_cons] at hn
        exact hn.1 (ih l (by simpa using hl) hn.2 (fun j hj => hb' j (by simp [hj])) x hx)

theorem drawB_spec {l : List (Nat × Nat × Bool × List Nat)} (h : drawB N ops l = true) : Draws N ops (plan ops l) := by
  simp only [drawB, Bool.and_eq_true] at h
  obtain ⟨⟨⟨⟨⟨⟨h1, h2⟩, h3⟩, h4⟩, h5⟩, h6⟩, h7⟩ := h
  have hlen := Nat.eq_of_beq_eq_true h1
  simp only [List.all_eq_true, Bool.and_eq_true] at h2
  have hmem : ∀ s ∈ plan ops l, ∃ x ∈ l, s = plan1 x ops := fun s hs => by
    simp only [plan_map, List.mem_map] at hs
    obtain ⟨x, hx, rfl⟩ := hs; exact ⟨x, hx, rfl⟩
  have hfits : ∀ s ∈ plan ops l, s.fits N ops := fun s hs => by
    obtain ⟨x, hx, rfl⟩ := hmem s hs
    exact planOk1.fits (h2 x hx).1
  have hlt : ∀ s ∈ plan ops l, s.idx < ops.size := fun s hs => (Array.getElem?_eq_some_iff.1 (hfits s hs).op).1
  have htopo := topoB_spec [] h4
  have hnd : ((plan ops l).map (·.idx)).Nodup := by
    have key : ∀ (m : List St), (∀ l1 s l2, m = l1 ++ s :: l2 → ∀ q ∈ l1, q.idx ≠ s.idx) → (m.map (·.idx)).Nodup := by
      intro m
      induction m with
      | nil => intro _; exact List.nodup_nil
      | cons x m ih =>
        intro hx
        rw [List.map_cons, List.nodup_cons]
        refine ⟨fun hm => ?_, ih fun l1 s l2 e q hq => hx (x :: l1) s l2 (by rw [e]; rfl) q (by simp [hq])⟩
        obtain ⟨y, hy, e⟩ := List.mem_map.1 hm
        obtain ⟨a, b, ea⟩ := split_mem hy
        exact hx (x :: a) y b (by rw [ea]; rfl) x (by simp) e.symm
    exact key _ fun l1 s l2 e => (htopo l1 s l2 e).2.2
  refine ⟨hfits, fun i hi => ?_, hlt, fun l1 s l2 e => ⟨fun j hj => ?_, (htopo l1 s l2 e).2.2⟩, ?_, soleB_spec h5, fun l1 s l2 e hc p hp => locksB_spec [] h6 l1 s l2 e hc p (by simpa using hp), ?_, ?_⟩
  · have := nodup_full (k := 0) ops.size ((plan ops l).map (·.idx)) (by rw [List.length_map]; simp [plan_map, hlen]) hnd (fun j hj => by
      obtain ⟨s, hs, rfl⟩ := List.mem_map.1 hj; exact hlt s hs) i hi
    obtain ⟨s, hs, e⟩ := List.mem_map.1 this
    exact ⟨s, hs, e⟩
  · rcases (htopo l1 s l2 e).1 j hj with h | h
    · cases h
    · exact h
  · intro p hp q hq hne d hd
    simp only [pairsB, List.all_eq_true, Bool.or_eq_true] at h3
    rcases h3 p hp q hq with h | h
    · exact absurd (Nat.eq_of_beq_eq_true h) hne
    · unfold apartB at h
      rw [hd] at h
      simp only [Bool.and_eq_true, Bool.or_eq_true, Bool.not_eq_true'] at h
      obtain ⟨ha, hb⟩ := h
      refine ⟨fun hl => ?_, fun e => ?_⟩
      · rcases ha with (ha | ha) | ha
        · rw [has_iff.2 hl] at ha; cases ha
        · exact .inl (has_iff.1 ha)
        · exact .inr (has_iff.1 ha)
      · rw [e] at hb; simp [Nat.beq_refl] at hb
  · intro s hs
    obtain ⟨x, hx, rfl⟩ := hmem s hs
    have := (h2 x hx).2
    simpa [plan1, Nat.ble_eq] using this
  · intro s hs cs b e
    have hop := (hfits s hs).op
    have := (Array.all_eq_true'.1 h7) s.o (Array.mem_of_getElem? hop)
    rw [e] at this; cases this

theorem T_region_draw {ds : List Deferred} {S : List HProp} {e : Env} {Q : Post} {id : Nat} (l : List (Nat × Nat × Bool × List Nat)) (hm : P.follows .mixedOrders = true) (hok : drawB N ops l = true)
    (h : Wk P B r n (plan ops l) [] e S (fun e S => Q .normal e ds S)) : Tri P B r n N (.region id ops true) e ds S Q := fun a w hr hd hs => by
  have hD := drawB_spec hok
  refine wpIn_region_any hm ?_
  refine sim (e0 := e) (ds := ds) hD (K := lift N B Q) (fun e' S' a' w' hq hr' hd' hs' => ⟨e', S', hr', hs', hd' ▸ hq⟩) _ _ a _ [] (plan ops l) [] e S h ?_ hr hd (hs.drew) ?_
  · have unl : ∀ i, i < ops.size → listedB (Array.replicate ops.size false) i = false := fun i hi => by
      simp [listedB, Array.getD_eq_getD_getElem?, hi]
    refine ⟨rfl, rfl, (fun l1 x l2 hx => by simp at hx), (fun s hs => unl _ (hD.lt s hs)), (fun x hx => by cases hx), (fun x hx => by cases hx), (fun x hx => by cases hx), (fun j Lk hj => by cases hj), ?_, by simp⟩
    intro i hl j hj
    by_cases hi : i < ops.size
    · rw [unl i hi] at hl; cases hl
    · have : ops[i]? = none := Array.getElem?_eq_none (by omega)
      simp [deps, this] at hj
  · have := List.countP_le_length (p := fun b => !b) (l := (Array.replicate ops.size false).toList)
    simpa using this
end Go.Rz

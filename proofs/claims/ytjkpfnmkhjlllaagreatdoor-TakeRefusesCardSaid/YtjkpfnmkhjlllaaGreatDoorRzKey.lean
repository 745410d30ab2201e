/- key: what may be, where it lies, which is ahead. -/
import Derived.Test.YtjkpfnmkhjlllaaGreatDoorRzKinds
set_option linter.unusedVariables false
set_option linter.unusedSimpArgs false
open Go Go.Rz
set_option maxRecDepth 4000
namespace Go.Rz
/-- The errors. -/
noncomputable def keyErr (k : ByteArray) : Int := open Classical in if k.size = 0 ∨ 16 < k.size then 3 else 0
noncomputable def valErr (k : ByteArray) : Int := open Classical in if 16 < k.size then 4 else 0
theorem size_zero {k : ByteArray} : k = ByteArray.empty ↔ k.size = 0 := by
  constructor
  · rintro rfl; rfl
  · intro h; cases k; simp [ByteArray.size] at h; subst h; rfl
theorem sp_key_Right {B : Base} {k : ByteArray} : True → Fn PP B N.key_Right [.string k] [] (fun v L => v = .int .i64 (keyErr k) ∧ L = []) := by
  intro _
  refine Fn_of N.key_Right_f rfl rfl fun fr => ?_
  try dsimp only [List.append_eq, List.cons_append, List.nil_append]
  repeat' (first | refine T_seq ?_ | refine T_regionR Tt (by kernel_rfl) ?_ | refine W_go Tt rfl ?_ | refine W_nil ?_ | refine T_cond_true rfl ?_ | refine T_cond_false rfl ?_ | refine T_skip ?_ | refine T_ret ?_ | with_reducible refine R_then ?_ | with_reducible refine R_norm ?_ | refine A_cmpT Tt ?_ | refine A_cmpF Tt ?_ | (refine A_cmp Tt ?_ ?_ <;> intro hc) | refine A_skip Tt ?_ | fail)
  all_goals (try rw [show (⟨#[]⟩ : ByteArray) = ByteArray.empty from rfl, size_zero] at hc)
  · (change bodyQ PP _ [fr] _ _ _ _ _; refine ⟨rfl, _, _, _, (.tmp .nil), ⟨by rw [keyErr, if_pos (.inl hc)]; rfl, rfl⟩, takeS⟩)
  · rename_i h0
    (change bodyQ PP _ [fr] _ _ _ _ _; refine ⟨rfl, _, _, _, (.tmp .nil), ⟨by rw [keyErr, if_pos (.inr (by omega))]; rfl, rfl⟩, takeS⟩)
  · rename_i h0
    rw [show (⟨#[]⟩ : ByteArray) = ByteArray.empty from rfl, size_zero] at h0
    (change bodyQ PP _ [fr] _ _ _ _ _; refine ⟨rfl, _, _, _, (.tmp .nil), ⟨by rw [keyErr, if_neg (by omega)]; rfl, rfl⟩, takeS⟩)
theorem sp_key_Value {B : Base} {k : ByteArray} : True → Fn PP B N.key_Value [.string k] [] (fun v L => v = .int .i64 (valErr k) ∧ L = []) := by
  intro _
  refine Fn_of N.key_Value_f rfl rfl fun fr => ?_
  try dsimp only [List.append_eq, List.cons_append, List.nil_append]
  repeat' (first | refine T_seq ?_ | refine T_regionR Tt (by kernel_rfl) ?_ | refine W_go Tt rfl ?_ | refine W_nil ?_ | refine T_cond_true rfl ?_ | refine T_cond_false rfl ?_ | refine T_skip ?_ | refine T_ret ?_ | with_reducible refine R_then ?_ | with_reducible refine R_norm ?_ | refine A_cmpT Tt ?_ | refine A_cmpF Tt ?_ | (refine A_cmp Tt ?_ ?_ <;> intro hc) | fail)
  · (change bodyQ PP _ [fr] _ _ _ _ _; refine ⟨rfl, _, _, _, (.tmp .nil), ⟨by rw [valErr, if_pos (by omega)]; rfl, rfl⟩, takeS⟩)
  · (change bodyQ PP _ [fr] _ _ _ _ _; refine ⟨rfl, _, _, _, (.tmp .nil), ⟨by rw [valErr, if_neg (by omega)]; rfl, rfl⟩, takeS⟩)

/-! ### Addresses -/
def addrN (k : ByteArray) : Nat → Int
  | 0 => 0
  | i + 1 => addrN k i * 256 + (if i < k.size then byteAt k i else 0)
def addr (k : ByteArray) : Int := addrN k 8
theorem byteAt_lt (s : ByteArray) (n : Nat) : 0 ≤ byteAt s n ∧ byteAt s n < 256 := by
  unfold byteAt
  have := ((s.data[n]?).getD 0).toNat_lt
  omega
theorem addrN_lt (k : ByteArray) : ∀ i, 0 ≤ addrN k i ∧ addrN k i < 256 ^ i
  | 0 => by simp [addrN]
  | i + 1 => by
    have h := addrN_lt k i
    have hb := byteAt_lt k i
    simp only [addrN]
    rw [Int.pow_succ]
    split <;> constructor <;> omega
theorem addr_lt (k : ByteArray) : 0 ≤ addr k ∧ addr k < 18446744073709551616 := by
  have := addrN_lt k 8
  simpa [addr] using this
theorem orI_low {a b : Int} (ha : 0 ≤ a ∧ a < 72057594037927936) (hb : 0 ≤ b ∧ b < 256) : orI .u64 (a * 256) b = a * 256 + b := by
  obtain ⟨a, rfl⟩ := Int.eq_ofNat_of_zero_le ha.1
  obtain ⟨b, rfl⟩ := Int.eq_ofNat_of_zero_le hb.1
  have ha' : a < 72057594037927936 := by omega
  have hb' : b < 256 := by omega
  unfold orI
  have e1 : (BitVec.ofInt IntKind.u64.bits ((a : Int) * 256)).toNat = a * 256 := by
    show (BitVec.ofInt 64 ((a : Int) * 256)).toNat = a * 256
    rw [BitVec.toNat_ofInt]; omega
  have e2 : (BitVec.ofInt IntKind.u64.bits (b : Int)).toNat = b := by
    show (BitVec.ofInt 64 (b : Int)).toNat = b
    rw [BitVec.toNat_ofInt]; omega
  rw [BitVec.toNat_or, e1, e2]
  have e3 : a * 256 ||| b = a * 256 + b := by
    have := Nat.shiftLeft_add_eq_or_of_lt (show b < 2 ^ 8 by omega) a
    rw [Nat.shiftLeft_eq] at this
    simpa using this.symm
  rw [e3]
  show ((a * 256 + b : Nat) : Int) % 18446744073709551616 = _
  omega
theorem sp_key_Addr {B : Base} {k : ByteArray} : True → Fn PP B N.key_Addr [.string k] [] (fun v L => v = .int .u64 (addr k) ∧ L = []) := by
  intro _
  refine Fn_of N.key_Addr_f rfl rfl fun fr => ?_
  try dsimp only [List.append_eq, List.cons_append, List.nil_append]
  repeat' (first | refine T_seq ?_ | refine T_regionR Tt (by kernel_rfl) ?_ | refine W_go Tt rfl ?_ | refine W_nil ?_ | refine T_cond_true rfl ?_ | refine T_cond_false rfl ?_ | refine T_skip ?_ | refine T_ret ?_ | refine T_exit ?_ | refine T_block ?_ | with_reducible refine R_block ?_ | with_reducible refine R_then ?_ | with_reducible refine R_norm ?_ | with_reducible refine R_exitEq ?_ | refine R_exitNe ?_ | with_reducible refine R_thenX ?_ | with_reducible refine R_scopeX ?_ | with_reducible refine R_blockN ?_ | refine A_cmpT Tt ?_ | refine A_cmpF Tt ?_ | (refine A_cmp Tt ?_ ?_ <;> intro hc) | refine S_byte Tt ?_ | refine A_shl Tt ?_ | refine A_or Tt ?_ | refine A_conv Tt Kt ?_ | fail)
  refine T_loopE (X := Nat) (fun i => [(0, .string k), (3, .int .u64 (addrN k i)), (5, .int .i64 i)]) (fun i => [fr]) (fun i => 9 - i) (fun i => i ≤ 8) 0 (by omega) (by exact ⟨rfl, rfl, rfl, trivial⟩) takeS ?_
  rintro i d hi
  have hlt := addrN_lt k i
  have hbt := byteAt_lt k i
  by_cases h8 : i < 8
  · have hp : (256 : Int) ^ i ≤ 72057594037927936 := by
      have : (256 : Nat) ^ i ≤ 256 ^ 7 := Nat.pow_le_pow_right (by omega) (by omega)
      have h2 : ((256 ^ i : Nat) : Int) ≤ ((256 ^ 7 : Nat) : Int) := by omega
      simpa using h2
    have e1 : wr .u64 (addrN k i * 2 ^ min (8 : Int).toNat IntKind.u64.bits) = addrN k i * 256 := by
      show (addrN k i * 256) % 18446744073709551616 = _
      omega
    repeat' (first | refine T_seq ?_ | refine T_regionR Tt (by kernel_rfl) ?_ | refine W_go Tt rfl ?_ | refine W_nil ?_ | refine T_cond_true rfl ?_ | refine T_cond_false rfl ?_ | refine T_skip ?_ | refine T_ret ?_ | refine T_exit ?_ | refine T_block ?_ | with_reducible refine R_block ?_ | with_reducible refine R_then ?_ | with_reducible refine R_norm ?_ | with_reducible refine R_exitEq ?_ | refine R_exitNe ?_ | with_reducible refine R_thenX ?_ | with_reducible refine R_scopeX ?_ | with_reducible refine R_blockN ?_ | refine A_cmpT Tt ?_ | refine A_cmpF Tt ?_ | (refine A_cmp Tt ?_ ?_ <;> intro hc) | refine S_byte Tt ?_ | refine A_shl Tt ?_ | refine A_or Tt ?_ | refine A_conv Tt Kt ?_ | fail)
    · refine ⟨rfl, i + 1, by omega, by omega, ⟨rfl, ?_, inc_ok (by omega), trivial⟩, _, takeS⟩
      show Value.int .u64 (orI .u64 (wr .u64 (addrN k i * 2 ^ min (8 : Int).toNat IntKind.u64.bits)) (wr .u64 (byteAt k i))) = _
      rw [e1, show wr .u64 (byteAt k i) = byteAt k i from by show byteAt k i % 18446744073709551616 = _; omega, orI_low (by omega) hbt, addrN, if_pos (by omega)]
    · refine ⟨rfl, i + 1, by omega, by omega, ⟨rfl, ?_, inc_ok (by omega), trivial⟩, _, takeS⟩
      show Value.int .u64 (wr .u64 (addrN k i * 2 ^ min (8 : Int).toNat IntKind.u64.bits)) = _
      rw [e1, addrN, if_neg (by omega)]; simp
    · exact absurd hc (by omega)
  · repeat' (first | refine T_seq ?_ | refine T_regionR Tt (by kernel_rfl) ?_ | refine W_go Tt rfl ?_ | refine W_nil ?_ | refine T_cond_true rfl ?_ | refine T_cond_false rfl ?_ | refine T_skip ?_ | refine T_ret ?_ | refine T_exit ?_ | refine T_block ?_ | with_reducible refine R_block ?_ | with_reducible refine R_then ?_ | with_reducible refine R_norm ?_ | with_reducible refine R_exitEq ?_ | refine R_exitNe ?_ | with_reducible refine R_thenX ?_ | with_reducible refine R_scopeX ?_ | with_reducible refine R_blockN ?_ | refine A_cmpT Tt ?_ | refine A_cmpF Tt ?_ | (refine A_cmp Tt ?_ ?_ <;> intro hc) | refine S_byte Tt ?_ | refine A_shl Tt ?_ | refine A_or Tt ?_ | refine A_conv Tt Kt ?_ | fail)
    · exact absurd hc (by omega)
    · exact absurd hc (by omega)
    · have : i = 8 := by omega
      subst this
      (change bodyQ PP _ [fr] _ _ _ _ _; refine ⟨rfl, _, _, _, (.tmp .nil), ⟨rfl, rfl⟩, takeS⟩)

/-! ### Which is ahead -/
theorem bl_drop : ∀ {i : Nat} {a b : List UInt8}, (∀ j, j < i → a[j]? = b[j]?) → i ≤ a.length → i ≤ b.length → Op.bytesLess a b = Op.bytesLess (a.drop i) (b.drop i)
  | 0, a, b, _, _, _ => by simp
  | i + 1, [], b, h, ha, hb => by simp at ha
  | i + 1, x :: a, [], h, ha, hb => by simp at hb
  | i + 1, x :: a, y :: b, h, ha, hb => by
    have h0 : x = y := by have := h 0 (by omega); simpa using this
    subst h0
    have := bl_drop (i := i) (a := a) (b := b) (fun j hj => by have := h (j + 1) (by omega); simpa using this) (by simpa using ha) (by simpa using hb)
    simp [Op.bytesLess, this]
theorem toL (a : ByteArray) : a.toList = a.data.toList := by simp [ByteArray.toList_eq]
theorem byteAt_get {a : ByteArray} {i : Nat} (ha : i < a.size) (ha' : i < a.data.toList.length) : byteAt a i = ((a.data.toList[i]'ha').toNat : Int) := by
  unfold byteAt
  rw [Array.getElem?_eq_getElem (show i < a.data.size from ha), Option.getD_some, Array.getElem_toList]
theorem blt_at {a b : ByteArray} {i : Nat} (h : ∀ j, j < i → a.data[j]? = b.data[j]?) (ha : i < a.size) (hb : i < b.size) (hne : byteAt a i ≠ byteAt b i) : (blt a b ↔ byteAt a i < byteAt b i) := by
  have ha' : i < a.data.toList.length := by simpa using ha
  have hb' : i < b.data.toList.length := by simpa using hb
  have e := bl_drop (i := i) (a := a.data.toList) (b := b.data.toList) (fun j hj => by simpa using h j hj) (by omega) (by omega)
  unfold blt
  rw [toL, toL, e, List.drop_eq_getElem_cons ha', List.drop_eq_getElem_cons hb']
  have ea : byteAt a i = ((a.data.toList[i]'ha').toNat : Int) := byteAt_get ha ha'
  have eb : byteAt b i = ((b.data.toList[i]'hb').toNat : Int) := byteAt_get hb hb'
  rw [ea, eb] at hne ⊢
  have hne' : a.data.toList[i]'ha' ≠ b.data.toList[i]'hb' := fun x => hne (by rw [x])
  have hb2 : (a.data.toList[i]'ha' == b.data.toList[i]'hb') = false := by simpa using hne'
  simp only [Op.bytesLess, hb2, Bool.false_and, Bool.or_false, decide_eq_true_eq]
  rw [UInt8.lt_iff_toNat_lt]
  omega
theorem blt_end {a b : ByteArray} {i : Nat} (h : ∀ j, j < i → a.data[j]? = b.data[j]?) (hi : i = min a.size b.size) : (blt a b ↔ a.size < b.size) := by
  have sa : a.data.toList.length = a.size := Array.length_toList
  have sb : b.data.toList.length = b.size := Array.length_toList
  have e := bl_drop (i := i) (a := a.data.toList) (b := b.data.toList) (fun j hj => by simpa using h j hj) (by omega) (by omega)
  unfold blt
  rw [toL, toL, e]
  by_cases hlt : a.size < b.size
  · rw [List.drop_of_length_le (l := a.data.toList) (by omega)]
    cases hd : b.data.toList.drop i with
    | nil => have := congrArg List.length hd; simp at this; omega
    | cons x l => simp [Op.bytesLess, hlt]
  · rw [List.drop_of_length_le (l := b.data.toList) (by omega)]
    cases hd : a.data.toList.drop i <;> simp [Op.bytesLess, hlt]
theorem byte_eq {a b : ByteArray} {i : Nat} (ha : i < a.size) (hb : i < b.size) (h : byteAt a i = byteAt b i) : a.data[i]? = b.data[i]? := by
  unfold byteAt at h
  rw [Array.getElem?_eq_getElem (by simpa using ha), Array.getElem?_eq_getElem (by simpa using hb)] at h ⊢
  simp only [Option.getD_some, Int.natCast_inj] at h
  rw [UInt8.toNat_inj.1 h]
theorem sp_key_Less {B : Base} {a b : ByteArray} : (a.size < 4611686018427387904) → Fn PP B N.key_Less [.string a, .string b] [] (fun v L => ∃ q : Bool, v = .bool q ∧ (q = true ↔ blt a b) ∧ L = []) := by
  intro hsz
  refine Fn_of N.key_Less_f rfl rfl fun fr => ?_
  try dsimp only [List.append_eq, List.cons_append, List.nil_append]
  repeat' (first | refine T_seq ?_ | refine T_regionR Tt (by kernel_rfl) ?_ | refine T_drawR Tt N.key_Less_d mixed (by kernel_rfl) ?_ | refine W_go Tt rfl ?_ | refine W_nil ?_ | refine T_cond_true rfl ?_ | refine T_cond_false rfl ?_ | refine T_skip ?_ | refine T_ret ?_ | refine T_exit ?_ | refine T_block ?_ | refine T_scope ?_ | refine T_label ?_ | with_reducible refine R_block ?_ | with_reducible refine R_then ?_ | with_reducible refine R_norm ?_ | with_reducible refine R_scope ?_ | with_reducible refine R_exitEq ?_ | refine R_exitNe ?_ | with_reducible refine R_thenX ?_ | with_reducible refine R_scopeX ?_ | with_reducible refine R_blockN ?_ | with_reducible refine R_scopeN ?_ | refine A_cmpT Tt ?_ | refine A_cmpF Tt ?_ | (refine A_cmp Tt ?_ ?_ <;> intro hc) | refine A_min Tt ?_ | refine S_byte Tt ?_ | fail)
  all_goals
    refine T_loopE (X := Nat) (fun i => [(0, .string a), (1, .string b), (5, .bool (decide (a.size < b.size))), (16, .int .i64 (min (a.size : Int) b.size)), (17, .int .i64 i)]) (fun i => [fr]) (fun i => a.size + 1 - i) (fun i => (i : Int) ≤ min (a.size : Int) b.size ∧ ∀ j, j < i → a.data[j]? = b.data[j]?) 0 ⟨by omega, by omega⟩ (by refine ⟨rfl, rfl, ?_, rfl, rfl, trivial⟩; first | (rw [decide_eq_true (by omega)]; rfl) | (rw [decide_eq_false (by omega)]; rfl)) takeS ?_
    clear hc
    rintro i d ⟨hi, hp⟩
    by_cases h8 : (i : Int) < min (a.size : Int) b.size
    · have ha : i < a.size := by omega
      have hb : i < b.size := by omega
      repeat' (first | refine T_seq ?_ | refine T_regionR Tt (by kernel_rfl) ?_ | refine T_drawR Tt N.key_Less_d mixed (by kernel_rfl) ?_ | refine W_go Tt rfl ?_ | refine W_nil ?_ | refine T_cond_true rfl ?_ | refine T_cond_false rfl ?_ | refine T_skip ?_ | refine T_ret ?_ | refine T_exit ?_ | refine T_block ?_ | refine T_scope ?_ | refine T_label ?_ | with_reducible refine R_block ?_ | with_reducible refine R_then ?_ | with_reducible refine R_norm ?_ | with_reducible refine R_scope ?_ | with_reducible refine R_exitEq ?_ | refine R_exitNe ?_ | with_reducible refine R_thenX ?_ | with_reducible refine R_scopeX ?_ | with_reducible refine R_blockN ?_ | with_reducible refine R_scopeN ?_ | refine A_cmpT Tt ?_ | refine A_cmpF Tt ?_ | (refine A_cmp Tt ?_ ?_ <;> intro hc) | refine A_min Tt ?_ | refine S_byte Tt ?_ | fail)
      · simp only [Int.toNat_natCast] at hc
        (change bodyQ PP _ [fr] _ _ _ _ _; refine ⟨rfl, _, _, _, (.tmp .nil), ⟨true, rfl, ⟨fun _ => (blt_at hp ha hb (by omega)).2 hc, fun _ => rfl⟩, rfl⟩, takeS⟩)
      · rename_i h1
        simp only [Int.toNat_natCast] at hc h1
        (change bodyQ PP _ [fr] _ _ _ _ _; refine ⟨rfl, _, _, _, (.tmp .nil), ⟨false, rfl, ⟨fun h => (by cases h), fun h => absurd ((blt_at hp ha hb (by omega)).1 h) h1⟩, rfl⟩, takeS⟩)
      · rename_i h1
        simp only [Int.toNat_natCast] at hc h1
        refine ⟨rfl, i + 1, ⟨by omega, fun j hj => ?_⟩, by omega, ⟨rfl, rfl, rfl, rfl, inc_ok (by omega), trivial⟩, _, takeS⟩
        rcases Nat.lt_succ_iff_lt_or_eq.1 hj with h | rfl
        · exact hp j h
        · exact byte_eq ha hb (by omega)
      · exact absurd hc (by omega)
    · repeat' (first | refine T_seq ?_ | refine T_regionR Tt (by kernel_rfl) ?_ | refine T_drawR Tt N.key_Less_d mixed (by kernel_rfl) ?_ | refine W_go Tt rfl ?_ | refine W_nil ?_ | refine T_cond_true rfl ?_ | refine T_cond_false rfl ?_ | refine T_skip ?_ | refine T_ret ?_ | refine T_exit ?_ | refine T_block ?_ | refine T_scope ?_ | refine T_label ?_ | with_reducible refine R_block ?_ | with_reducible refine R_then ?_ | with_reducible refine R_norm ?_ | with_reducible refine R_scope ?_ | with_reducible refine R_exitEq ?_ | refine R_exitNe ?_ | with_reducible refine R_thenX ?_ | with_reducible refine R_scopeX ?_ | with_reducible refine R_blockN ?_ | with_reducible refine R_scopeN ?_ | refine A_cmpT Tt ?_ | refine A_cmpF Tt ?_ | (refine A_cmp Tt ?_ ?_ <;> intro hc) | refine A_min Tt ?_ | refine S_byte Tt ?_ | fail)
      · exact absurd hc (by omega)
      · exact absurd hc (by omega)
      · exact absurd hc (by omega)
      · (change bodyQ PP _ [fr] _ _ _ _ _; refine ⟨rfl, _, _, _, (.tmp .nil), ⟨decide (a.size < b.size), rfl, by rw [blt_end hp (by omega)]; simp, rfl⟩, takeS⟩)
end Go.Rz


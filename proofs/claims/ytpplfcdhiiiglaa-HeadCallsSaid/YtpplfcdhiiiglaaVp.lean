/- Variable byte integers: the program's answers are the reference's. Own work. -/
import Derived.Test.YtpplfcdhiiiglaaVs
namespace Go.Ev.Pl

theorem mayB_iff {n : Int} : mayB n = true ↔ 0 ≤ n ∧ n ≤ 268435455 := by simp [mayB]

theorem szL_lt {n size : Int} (h : n < 128) : szL n size = (n, size) := by rw [szL.eq_def, dif_neg (by omega)]
theorem szL_ge {n size : Int} (h : 128 ≤ n) : szL n size = szL (n / 128) (size + 1) := by rw [szL.eq_def, dif_pos h]

theorem vsize_rsize (n : Int) : vsize n = rsize n := by
  unfold vsize rsize
  cases hm : mayB n
  · rfl
  · have h := mayB_iff.1 hm
    simp only [if_true]
    by_cases h1 : n < 128
    · rw [szL_lt h1, if_pos h1]
    · rw [szL_ge (by omega), if_neg h1]
      by_cases h2 : n < 16384
      · rw [szL_lt (by omega), if_pos h2]; rfl
      · rw [szL_ge (by omega), if_neg h2]
        by_cases h3 : n < 2097152
        · rw [szL_lt (by omega), if_pos h3]; rfl
        · rw [szL_ge (by omega), szL_lt (by omega), if_neg h3]; rfl

theorem byL_lt' {n : Int} {out : List UInt8} (h : n < 128) : byL n out = (n, out) := by rw [byL.eq_def, dif_neg (by omega)]
theorem byL_ge {n : Int} {out : List UInt8} (h : 128 ≤ n) : byL n out = byL (n / 128) (out ++ [u8 (n % 128 + 128)]) := by rw [byL.eq_def, dif_pos h]
theorem rbL_stop {size n i : Int} {out : List UInt8} (h : ¬ i < size) : rbL size n i out = ⟨n, out⟩ := by rw [rbL.eq_def, dif_neg h]
theorem rbL_more {size n i : Int} {out : List UInt8} (h : i + 1 < size) : rbL size n i out = rbL size (n / 128) (i + 1) (out ++ [u8 (n % 128 + 128)]) := by rw [rbL.eq_def, dif_pos (by omega), if_pos h]
theorem rbL_last {size n i : Int} {out : List UInt8} (h : i + 1 = size) : rbL size n i out = ⟨n / 128, out ++ [u8 (n % 128)]⟩ := by
  rw [rbL.eq_def, dif_pos (by omega), if_neg (by omega), rbL_stop (by omega), Int.add_zero]

/-- A number's bytes. -/
theorem vbytes_eq {n : Int} (h0 : 0 ≤ n) (h1 : n ≤ 268435455) : vbytes n =
    if n < 128 then [u8 n] else if n < 16384 then [u8 (n % 128 + 128), u8 (n / 128)]
    else if n < 2097152 then [u8 (n % 128 + 128), u8 (n / 128 % 128 + 128), u8 (n / 128 / 128)]
    else [u8 (n % 128 + 128), u8 (n / 128 % 128 + 128), u8 (n / 128 / 128 % 128 + 128), u8 (n / 128 / 128 / 128)] := by
  unfold vbytes
  rw [mayB_iff.2 ⟨h0, h1⟩]
  simp only [if_true]
  by_cases k1 : n < 128
  · rw [byL_lt' k1, if_pos k1]; rfl
  · rw [byL_ge (by omega), if_neg k1]
    by_cases k2 : n < 16384
    · rw [byL_lt' (by omega), if_pos k2]; rfl
    · rw [byL_ge (by omega), if_neg k2]
      by_cases k3 : n < 2097152
      · rw [byL_lt' (by omega), if_pos k3]; rfl
      · rw [byL_ge (by omega), byL_lt' (by omega), if_neg k3]; rfl

theorem rbytes_eq {n : Int} (h0 : 0 ≤ n) (h1 : n ≤ 268435455) : rbytes n =
    if n < 128 then [u8 n] else if n < 16384 then [u8 (n % 128 + 128), u8 (n / 128)]
    else if n < 2097152 then [u8 (n % 128 + 128), u8 (n / 128 % 128 + 128), u8 (n / 128 / 128)]
    else [u8 (n % 128 + 128), u8 (n / 128 % 128 + 128), u8 (n / 128 / 128 % 128 + 128), u8 (n / 128 / 128 / 128)] := by
  unfold rbytes
  rw [mayB_iff.2 ⟨h0, h1⟩]
  simp only [if_true]
  unfold rsize
  rw [mayB_iff.2 ⟨h0, h1⟩]
  simp only [if_true]
  by_cases k1 : n < 128
  · rw [if_pos k1, if_pos k1, rbL_last (by omega)]
    have : n % 128 = n := by omega
    rw [this]; rfl
  · rw [if_neg k1, if_neg k1]
    by_cases k2 : n < 16384
    · rw [if_pos k2, if_pos k2, rbL_more (by omega), rbL_last (by omega)]
      have : n / 128 % 128 = n / 128 := by omega
      rw [this]; rfl
    · rw [if_neg k2, if_neg k2]
      by_cases k3 : n < 2097152
      · rw [if_pos k3, if_pos k3, rbL_more (by omega), rbL_more (by omega), rbL_last (by omega)]
        have : n / 128 / 128 % 128 = n / 128 / 128 := by omega
        rw [this]; rfl
      · rw [if_neg k3, if_neg k3, rbL_more (by omega), rbL_more (by omega), rbL_more (by omega), rbL_last (by omega)]
        have : n / 128 / 128 / 128 % 128 = n / 128 / 128 / 128 := by omega
        rw [this]; rfl

theorem vbytes_rbytes (n : Int) : vbytes n = rbytes n := by
  cases hm : mayB n
  · simp [vbytes, rbytes, hm]
  · have h := mayB_iff.1 hm
    rw [vbytes_eq h.1 h.2, rbytes_eq h.1 h.2]

def RrL.num (x : RrL) : Num := if x.ret then ⟨x.n, x.size, x.e⟩ else ⟨0, 0, 5⟩
def RdL.num (x : RdL) : Num := ⟨x.n, x.size, x.e⟩

theorem rd_rr (s : List UInt8) (k : Nat) : ∀ (n : Int) (i : Nat), i + k = 4 → 0 < k → (rrL s n (128 ^ i) i).num = (rdL (s.drop i) ⟨n, i, false, false⟩).num := by
  induction k with
  | zero => intro n i _ h; omega
  | succ k ih =>
    intro n i hi _
    rw [rrL.eq_def, dif_pos (by omega)]
    by_cases hl : i < s.length
    · rw [if_neg (by omega), drop_cons hl]
      have hat : at' s i = ((s.getD i 0).toNat : Nat) := by simp [at']
      rw [hat]
      generalize s.getD i 0 = b
      simp only [rdL]
      unfold push
      simp only [Bool.or_self, Bool.false_eq_true, if_false, Int.toNat_natCast]
      by_cases hc : (b.toNat : Int) < 128
      · have hc' : ¬ 128 ≤ (b.toNat : Int) := by omega
        rw [if_pos hc]
        simp only [hc', if_false]
        by_cases hz : 0 < (i : Int) ∧ (b.toNat : Int) = 0
        · have hz' : (b.toNat : Int) = 0 ∧ 1 < (i : Int) + 1 := ⟨hz.2, by omega⟩
          rw [if_pos hz, if_pos hz']
          simp [RrL.num, RdL.num]
        · have hz' : ¬ ((b.toNat : Int) = 0 ∧ 1 < (i : Int) + 1) := fun e => hz ⟨by omega, e.1⟩
          rw [if_neg hz, if_neg hz']
          simp [RrL.num, RdL.num]
      · have hc' : 128 ≤ (b.toNat : Int) := by omega
        rw [if_neg hc]
        simp only [hc', if_true]
        by_cases h3 : (i : Int) + 1 = 4
        · simp only [h3, if_true]
          have e4 : ((i : Int) + 1) = 4 := h3
          rw [rrL.eq_def, dif_neg (by omega)]
          simp [RrL.num, RdL.num]
        · simp only [h3, if_false]
          have := ih (n + (b.toNat : Int) % 128 * 128 ^ i) (i + 1) (by omega) (by omega)
          rw [Int.pow_succ] at this
          simpa using this
    · rw [if_pos (by omega), List.drop_eq_nil_of_le (by omega)]
      rfl

theorem vread_rread (s : List UInt8) : (vread s).n = (rread s).n ∧ (vread s).size = (rread s).size ∧ (vread s).e = (rread s).e := by
  have h := rd_rr s 4 0 0 (by omega) (by omega)
  have e : rread s = (rrL s 0 1 0).num := rfl
  have h2 : rread s = (vread s).num := by
    rw [e]
    simpa [vread] using h
  rw [h2]
  exact ⟨rfl, rfl, rfl⟩

theorem u8_toNat {x : Int} (h0 : 0 ≤ x) (h1 : x < 256) : ((u8 x).toNat : Int) = x := by
  have : (u8 x).toNat = x.toNat % 256 := by simp [u8]
  rw [this]; omega

theorem push_more {n i d : Int} (h0 : 0 ≤ d) (h1 : d < 128) (h3 : i ≤ 2) : push ⟨n, i, false, false⟩ (u8 (d + 128)).toNat = ⟨false, 0, ⟨n + d * 128 ^ i.toNat, i + 1, false, false⟩⟩ := by
  rw [u8_toNat (by omega) (by omega)]
  unfold push
  simp only [Bool.or_self, Bool.false_eq_true, if_false]
  rw [if_pos (by omega), if_neg (by omega)]
  have : (d + 128) % 128 = d := by omega
  rw [this]

theorem push_last {n i d : Int} (h0 : 0 ≤ d) (h1 : d < 128) (h3 : d ≠ 0 ∨ i = 0) : push ⟨n, i, false, false⟩ (u8 d).toNat = ⟨true, 0, ⟨n + d * 128 ^ i.toNat, i + 1, true, false⟩⟩ := by
  rw [u8_toNat (by omega) (by omega)]
  unfold push
  simp only [Bool.or_self, Bool.false_eq_true, if_false]
  rw [if_neg (by omega), if_neg (by omega)]
  have : d % 128 = d := by omega
  rw [this]

theorem push_zero {n i : Int} (hi : 0 < i) : push ⟨n, i, false, false⟩ (u8 0).toNat = ⟨false, 5, ⟨n + 0 % 128 * 128 ^ i.toNat, i + 1, false, true⟩⟩ := by
  rw [u8_toNat (by omega) (by omega)]
  unfold push
  simp only [Bool.or_self, Bool.false_eq_true, if_false]
  rw [if_neg (by omega), if_pos (by simp; omega)]

theorem rdL_more {n i d : Int} {s : List UInt8} (h0 : 0 ≤ d) (h1 : d < 128) (h3 : i ≤ 2) : rdL (u8 (d + 128) :: s) ⟨n, i, false, false⟩ = rdL s ⟨n + d * 128 ^ i.toNat, i + 1, false, false⟩ := by
  simp only [rdL, push_more h0 h1 h3]
  rfl

theorem rdL_last {n i d : Int} {s : List UInt8} (h0 : 0 ≤ d) (h1 : d < 128) (h3 : d ≠ 0 ∨ i = 0) : rdL (u8 d :: s) ⟨n, i, false, false⟩ = ⟨n + d * 128 ^ i.toNat, i + 1, 0, false, ⟨n + d * 128 ^ i.toNat, i + 1, true, false⟩⟩ := by
  simp only [rdL, push_last h0 h1 h3]
  rfl

/-- The four forms of a number's bytes. -/
theorem vform {n : Int} (h0 : 0 ≤ n) (h1 : n ≤ 268435455) :
    (n < 128 ∧ vbytes n = [u8 n]) ∨
    (128 ≤ n ∧ n < 16384 ∧ ∃ a b, 0 ≤ a ∧ a < 128 ∧ 0 < b ∧ b < 128 ∧ n = a + b * 128 ∧ vbytes n = [u8 (a + 128), u8 b]) ∨
    (16384 ≤ n ∧ n < 2097152 ∧ ∃ a b c, 0 ≤ a ∧ a < 128 ∧ 0 ≤ b ∧ b < 128 ∧ 0 < c ∧ c < 128 ∧ n = a + b * 128 + c * 16384 ∧ vbytes n = [u8 (a + 128), u8 (b + 128), u8 c]) ∨
    (2097152 ≤ n ∧ ∃ a b c d, 0 ≤ a ∧ a < 128 ∧ 0 ≤ b ∧ b < 128 ∧ 0 ≤ c ∧ c < 128 ∧ 0 < d ∧ d < 128 ∧ n = a + b * 128 + c * 16384 + d * 2097152 ∧ vbytes n = [u8 (a + 128), u8 (b + 128), u8 (c + 128), u8 d]) := by
  rw [vbytes_eq h0 h1]
  by_cases k1 : n < 128
  · exact .inl ⟨k1, by rw [if_pos k1]⟩
  · by_cases k2 : n < 16384
    · refine .inr (.inl ⟨by omega, k2, n % 128, n / 128, by omega, by omega, by omega, by omega, by omega, ?_⟩)
      rw [if_neg k1, if_pos k2]
    · by_cases k3 : n < 2097152
      · refine .inr (.inr (.inl ⟨by omega, k3, n % 128, n / 128 % 128, n / 128 / 128, by omega, by omega, by omega, by omega, by omega, by omega, by omega, ?_⟩))
        rw [if_neg k1, if_neg k2, if_pos k3]
      · refine .inr (.inr (.inr ⟨by omega, n % 128, n / 128 % 128, n / 128 / 128 % 128, n / 128 / 128 / 128, by omega, by omega, by omega, by omega, by omega, by omega, by omega, by omega, by omega, ?_⟩))
        rw [if_neg k1, if_neg k2, if_neg k3]

theorem vsize_len {n : Int} (h0 : 0 ≤ n) (h1 : n ≤ 268435455) : ((vbytes n).length : Int) = vsize n := by
  rw [vsize_rsize]
  unfold rsize
  rw [mayB_iff.2 ⟨h0, h1⟩]
  rcases vform h0 h1 with ⟨k, e⟩ | ⟨k, k', a, b, _, _, _, _, _, e⟩ | ⟨k, k', a, b, c, _, _, _, _, _, _, _, e⟩ | ⟨k, a, b, c, d, _, _, _, _, _, _, _, _, _, e⟩ <;> rw [e]
  · simp [k]
  · rw [if_pos rfl, if_neg (by omega), if_pos k']; rfl
  · rw [if_pos rfl, if_neg (by omega), if_neg (by omega), if_pos k']; rfl
  · rw [if_pos rfl, if_neg (by omega), if_neg (by omega), if_neg (by omega)]; rfl

/-- A number is read from its bytes, whatever follows. -/
theorem vread_back {n : Int} (h0 : 0 ≤ n) (h1 : n ≤ 268435455) (s : List UInt8) : vread (vbytes n ++ s) = ⟨n, vsize n, 0, false, ⟨n, vsize n, true, false⟩⟩ := by
  rw [← vsize_len h0 h1]
  unfold vread
  rcases vform h0 h1 with ⟨k, e⟩ | ⟨k, k', a, b, a0, a1, b0, b1, en, e⟩ | ⟨k, k', a, b, c, a0, a1, b0, b1, c0, c1, en, e⟩ | ⟨k, a, b, c, d, a0, a1, b0, b1, c0, c1, d0, d1, en, e⟩ <;> rw [e] <;> simp only [List.cons_append, List.nil_append, List.length_cons, List.length_nil]
  · rw [rdL_last h0 (by omega) (.inr rfl)]
    simp
  · rw [rdL_more a0 a1 (by omega), rdL_last (by omega) b1 (.inl (by omega))]
    simp [en]
  · rw [rdL_more a0 a1 (by omega), rdL_more b0 b1 (by omega), rdL_last (by omega) c1 (.inl (by omega))]
    simp [en]
  · rw [rdL_more a0 a1 (by omega), rdL_more b0 b1 (by omega), rdL_more c0 c1 (by omega), rdL_last (by omega) d1 (.inl (by omega))]
    simp [en]

theorem UInt8.u8_eq {b : UInt8} {x : Int} (h : x = b.toNat) : u8 x = b := by
  subst h
  simp [u8]

/-- What is read is written as the same. -/
theorem vread_written (s : List UInt8) (he : (vread s).e = 0) : 0 ≤ (vread s).n ∧ (vread s).n ≤ 268435455 ∧ (vread s).size ≤ s.length ∧ 0 ≤ (vread s).size ∧ vbytes (vread s).n = s.take (vread s).size.toNat := by
  unfold vread at he ⊢
  -- the digits, one by one
  have digit : ∀ (b : UInt8), (128 ≤ (b.toNat : Int) → ∃ d, 0 ≤ d ∧ d < 128 ∧ b = u8 (d + 128)) ∧ ((b.toNat : Int) < 128 → ∃ d, 0 ≤ d ∧ d < 128 ∧ b = u8 d) := by
    intro b
    have hb := b.toNat_lt
    exact ⟨fun h => ⟨(b.toNat : Int) - 128, by omega, by omega, (UInt8.u8_eq (by omega)).symm⟩, fun h => ⟨b.toNat, by omega, by omega, (UInt8.u8_eq rfl).symm⟩⟩
  have last0 : ∀ {n i : Int} {s : List UInt8}, 0 < i → (rdL (u8 0 :: s) ⟨n, i, false, false⟩).e = 5 := by
    intro n i s hi
    simp only [rdL, push_zero hi]
    rfl
  cases s with
  | nil => simp [rdL] at he
  | cons x s =>
  rcases Int.lt_or_le (x.toNat : Int) 128 with hx | hx
  · obtain ⟨a, a0, a1, rfl⟩ := (digit x).2 hx
    rw [rdL_last a0 a1 (.inr rfl)] at he ⊢
    simp only [Int.toNat_zero, Int.pow_zero, Int.mul_one, Int.zero_add] at he ⊢
    have e1 : ((1 : Int).toNat) = 1 := rfl
    rw [e1]
    refine ⟨a0, by omega, by simp; omega, by omega, ?_⟩
    rw [vbytes_eq a0 (by omega), if_pos a1]
    rfl
  · obtain ⟨a, a0, a1, rfl⟩ := (digit x).1 hx
    rw [rdL_more a0 a1 (by omega)] at he ⊢
    cases s with
    | nil => simp [rdL] at he
    | cons y s =>
    rcases Int.lt_or_le (y.toNat : Int) 128 with hy | hy
    · obtain ⟨b, b0, b1, rfl⟩ := (digit y).2 hy
      by_cases hb : b = 0
      · subst hb; rw [last0 (by omega)] at he; simp at he
      rw [rdL_last b0 b1 (.inl hb)] at he ⊢
      simp only [Int.toNat_zero, Int.pow_zero, Int.mul_one, Int.zero_add] at he ⊢
      have e1 : ((1 : Int).toNat) = 1 := rfl
      rw [e1]
      refine ⟨by omega, by omega, by simp; omega, by omega, ?_⟩
      rw [vbytes_eq (by omega) (by omega), if_neg (by omega), if_pos (by omega)]
      have f1 : (a + b * 128 ^ 1) % 128 = a := by omega
      have f2 : (a + b * 128 ^ 1) / 128 = b := by omega
      rw [f1, f2]
      rfl
    · obtain ⟨b, b0, b1, rfl⟩ := (digit y).1 hy
      rw [rdL_more b0 b1 (by omega)] at he ⊢
      cases s with
      | nil => simp [rdL] at he
      | cons z s =>
      rcases Int.lt_or_le (z.toNat : Int) 128 with hz | hz
      · obtain ⟨c, c0, c1, rfl⟩ := (digit z).2 hz
        by_cases hc : c = 0
        · subst hc; rw [last0 (by omega)] at he; simp at he
        rw [rdL_last c0 c1 (.inl hc)] at he ⊢
        simp only [Int.toNat_zero, Int.pow_zero, Int.mul_one, Int.zero_add] at he ⊢
        have e1 : ((1 : Int).toNat) = 1 := rfl
        have e2 : ((1 + 1 : Int).toNat) = 2 := rfl
        rw [e1, e2]
        refine ⟨by omega, by omega, by simp; omega, by omega, ?_⟩
        rw [vbytes_eq (by omega) (by omega), if_neg (by omega), if_neg (by omega), if_pos (by omega)]
        have f1 : (a + b * 128 ^ 1 + c * 128 ^ 2) % 128 = a := by omega
        have f2 : (a + b * 128 ^ 1 + c * 128 ^ 2) / 128 % 128 = b := by omega
        have f3 : (a + b * 128 ^ 1 + c * 128 ^ 2) / 128 / 128 = c := by omega
        rw [f1, f2, f3]
        rfl
      · obtain ⟨c, c0, c1, rfl⟩ := (digit z).1 hz
        rw [rdL_more c0 c1 (by omega)] at he ⊢
        cases s with
        | nil => simp [rdL] at he
        | cons w s =>
        rcases Int.lt_or_le (w.toNat : Int) 128 with hw | hw
        · obtain ⟨d, d0, d1, rfl⟩ := (digit w).2 hw
          by_cases hd : d = 0
          · subst hd; rw [last0 (by omega)] at he; simp at he
          rw [rdL_last d0 d1 (.inl hd)] at he ⊢
          simp only [Int.toNat_zero, Int.pow_zero, Int.mul_one, Int.zero_add] at he ⊢
          have e1 : ((1 : Int).toNat) = 1 := rfl
          have e2 : ((1 + 1 : Int).toNat) = 2 := rfl
          have e3 : ((1 + 1 + 1 : Int).toNat) = 3 := rfl
          rw [e1, e2, e3]
          refine ⟨by omega, by omega, by simp; omega, by omega, ?_⟩
          rw [vbytes_eq (by omega) (by omega), if_neg (by omega), if_neg (by omega), if_neg (by omega)]
          have f1 : (a + b * 128 ^ 1 + c * 128 ^ 2 + d * 128 ^ 3) % 128 = a := by omega
          have f2 : (a + b * 128 ^ 1 + c * 128 ^ 2 + d * 128 ^ 3) / 128 % 128 = b := by omega
          have f3 : (a + b * 128 ^ 1 + c * 128 ^ 2 + d * 128 ^ 3) / 128 / 128 % 128 = c := by omega
          have f4 : (a + b * 128 ^ 1 + c * 128 ^ 2 + d * 128 ^ 3) / 128 / 128 / 128 = d := by omega
          rw [f1, f2, f3, f4]
          rfl
        · exfalso
          obtain ⟨d, d0, d1, rfl⟩ := (digit w).1 hw
          have hp : ∀ n : Int, (push ⟨n, 0 + 1 + 1 + 1, false, false⟩ (u8 (d + 128)).toNat).e = 5 := by
            intro n
            rw [u8_toNat (by omega) (by omega)]
            unfold push
            simp only [Bool.or_self, Bool.false_eq_true, if_false]
            rw [if_pos (by omega), if_pos (by omega)]
          simp only [rdL, hp] at he
          simp at he

def limL (size limit i : Int) : Int := if _h : i < size then limL size (limit * 128) (i + 1) else limit
  termination_by (size - i).toNat
  decreasing_by omega

def invLim (size limit i : Int) : Bool := decide (0 ≤ i) && decide (i ≤ size) && decide (size ≤ 4) && decide (limit = 128 ^ i.toNat)
theorem invLim_iff {size limit i : Int} : invLim size limit i = true ↔ 0 ≤ i ∧ i ≤ size ∧ size ≤ 4 ∧ limit = 128 ^ i.toNat := by simp [invLim, and_assoc]

theorem limL_eq {size : Int} (h : 1 ≤ size ∧ size ≤ 4) : limL size 1 0 = 128 ^ size.toNat := by
  have hs : size = 1 ∨ size = 2 ∨ size = 3 ∨ size = 4 := by omega
  have go : ∀ {l i : Int}, i < size → limL size l i = limL size (l * 128) (i + 1) := fun h => by rw [limL.eq_def, dif_pos h]
  have st : ∀ {l i : Int}, ¬ i < size → limL size l i = l := fun h => by rw [limL.eq_def, dif_neg h]
  rcases hs with e | e | e | e
  · rw [go (by omega), st (by omega), e]; rfl
  · rw [go (by omega), go (by omega), st (by omega), e]; rfl
  · rw [go (by omega), go (by omega), go (by omega), st (by omega), e]; rfl
  · rw [go (by omega), go (by omega), go (by omega), go (by omega), st (by omega), e]; rfl

theorem lives02 : vbytes 127 = [127] ∧ vbytes 128 = [128, 1] := by
  constructor
  · rw [vbytes_eq (by omega) (by omega)]; decide
  · rw [vbytes_eq (by omega) (by omega)]; decide

/-- A reader's state behind the first bytes of a text. -/
def rdAt (a : List UInt8) (i : Nat) : Rdr := (a.take i).foldl (fun r b => (push r b.toNat).r) ⟨0, 0, false, false⟩

theorem rdAt_succ {a : List UInt8} {i : Nat} (h : i < a.length) : rdAt a (i + 1) = (push (rdAt a i) (a.getD i 0).toNat).r := by
  unfold rdAt
  rw [List.take_add_one, List.getElem?_eq_getElem h, List.foldl_append, List.getD_eq_getElem?_getD, List.getElem?_eq_getElem h]
  rfl

/-- Byte by byte: short, not done; each byte is taken, the last one ends it. -/
theorem vsteps {n : Int} (h0 : 0 ≤ n) (h1 : n ≤ 268435455) {i : Nat} (hi : i < (vbytes n).length) :
    (vread ((vbytes n).take i)).e = 3 ∧ (rdAt (vbytes n) i).done = false ∧ (rdAt (vbytes n) i).bad = false ∧ (rdAt (vbytes n) i).ok = true ∧
    push (rdAt (vbytes n) i) ((vbytes n).getD i 0).toNat = ⟨decide (i + 1 = (vbytes n).length), 0, (push (rdAt (vbytes n) i) ((vbytes n).getD i 0).toNat).r⟩ := by
  unfold vread rdAt
  rcases vform h0 h1 with ⟨k, e⟩ | ⟨k, k', a, b, a0, a1, b0, b1, en, e⟩ | ⟨k, k', a, b, c, a0, a1, b0, b1, c0, c1, en, e⟩ | ⟨k, a, b, c, d, a0, a1, b0, b1, c0, c1, d0, d1, en, e⟩ <;> rw [e] at hi ⊢ <;> simp only [List.length_cons, List.length_nil] at hi ⊢
  · obtain rfl : i = 0 := by omega
    simp only [List.take_zero, List.foldl_nil, rdL, List.getD_cons_zero, push_last h0 k (.inr rfl)]
    refine ⟨?_, ?_, ?_, ?_, ?_⟩ <;> first | trivial | rfl | (simp; done)
  · have hi' : i = 0 ∨ i = 1 := by omega
    rcases hi' with rfl | rfl
    · simp only [List.take_zero, List.foldl_nil, rdL, List.getD_cons_zero, push_more a0 a1 (show (0 : Int) ≤ 2 by omega)]
      refine ⟨?_, ?_, ?_, ?_, ?_⟩ <;> first | trivial | rfl | (simp; done)
    · simp only [List.take_succ_cons, List.take_zero, List.foldl_cons, List.foldl_nil, rdL_more a0 a1 (show (0 : Int) ≤ 2 by omega), push_more a0 a1 (show (0 : Int) ≤ 2 by omega), rdL, List.getD_cons_succ, List.getD_cons_zero, push_last (show 0 ≤ b by omega) b1 (.inl (by omega))]
      refine ⟨?_, ?_, ?_, ?_, ?_⟩ <;> first | trivial | rfl | (rw [Rdr.ok_iff rfl rfl]; simp; omega) | (simp; done)
  · have hi' : i = 0 ∨ i = 1 ∨ i = 2 := by omega
    rcases hi' with rfl | rfl | rfl
    · simp only [List.take_zero, List.foldl_nil, rdL, List.getD_cons_zero, push_more a0 a1 (show (0 : Int) ≤ 2 by omega)]
      refine ⟨?_, ?_, ?_, ?_, ?_⟩ <;> first | trivial | rfl | (simp; done)
    · simp only [List.take_succ_cons, List.take_zero, List.foldl_cons, List.foldl_nil, rdL_more a0 a1 (show (0 : Int) ≤ 2 by omega), push_more a0 a1 (show (0 : Int) ≤ 2 by omega), rdL, List.getD_cons_succ, List.getD_cons_zero, push_more b0 b1 (show (0 + 1 : Int) ≤ 2 by omega)]
      refine ⟨?_, ?_, ?_, ?_, ?_⟩ <;> first | trivial | rfl | (rw [Rdr.ok_iff rfl rfl]; simp; omega) | (simp; done)
    · simp only [List.take_succ_cons, List.take_zero, List.foldl_cons, List.foldl_nil, rdL_more a0 a1 (show (0 : Int) ≤ 2 by omega), push_more a0 a1 (show (0 : Int) ≤ 2 by omega), push_more b0 b1 (show (0 + 1 : Int) ≤ 2 by omega), rdL, List.getD_cons_succ, List.getD_cons_zero, push_last (show 0 ≤ c by omega) c1 (.inl (by omega))]
      refine ⟨?_, ?_, ?_, ?_, ?_⟩ <;> first | trivial | rfl | (rw [Rdr.ok_iff rfl rfl]; simp; omega) | (simp; done)
  · have hi' : i = 0 ∨ i = 1 ∨ i = 2 ∨ i = 3 := by omega
    rcases hi' with rfl | rfl | rfl | rfl
    · simp only [List.take_zero, List.foldl_nil, rdL, List.getD_cons_zero, push_more a0 a1 (show (0 : Int) ≤ 2 by omega)]
      refine ⟨?_, ?_, ?_, ?_, ?_⟩ <;> first | trivial | rfl | (simp; done)
    · simp only [List.take_succ_cons, List.take_zero, List.foldl_cons, List.foldl_nil, rdL_more a0 a1 (show (0 : Int) ≤ 2 by omega), push_more a0 a1 (show (0 : Int) ≤ 2 by omega), rdL, List.getD_cons_succ, List.getD_cons_zero, push_more b0 b1 (show (0 + 1 : Int) ≤ 2 by omega)]
      refine ⟨?_, ?_, ?_, ?_, ?_⟩ <;> first | trivial | rfl | (rw [Rdr.ok_iff rfl rfl]; simp; omega) | (simp; done)
    · simp only [List.take_succ_cons, List.take_zero, List.foldl_cons, List.foldl_nil, rdL_more a0 a1 (show (0 : Int) ≤ 2 by omega), push_more a0 a1 (show (0 : Int) ≤ 2 by omega), push_more b0 b1 (show (0 + 1 : Int) ≤ 2 by omega), rdL, List.getD_cons_succ, List.getD_cons_zero, push_more c0 c1 (show (0 + 1 + 1 : Int) ≤ 2 by omega)]
      refine ⟨?_, ?_, ?_, ?_, ?_⟩ <;> first | trivial | rfl | (rw [Rdr.ok_iff rfl rfl]; simp; omega) | (simp; done)
    · simp only [List.take_succ_cons, List.take_zero, List.foldl_cons, List.foldl_nil, rdL_more a0 a1 (show (0 : Int) ≤ 2 by omega), push_more a0 a1 (show (0 : Int) ≤ 2 by omega), push_more b0 b1 (show (0 + 1 : Int) ≤ 2 by omega), push_more c0 c1 (show (0 + 1 + 1 : Int) ≤ 2 by omega), rdL, List.getD_cons_succ, List.getD_cons_zero, push_last (show 0 ≤ d by omega) d1 (.inl (by omega))]
      refine ⟨?_, ?_, ?_, ?_, ?_⟩ <;> first | trivial | rfl | (rw [Rdr.ok_iff rfl rfl]; simp; omega) | (simp; done)

/-- Behind the last byte: the number. -/
theorem rdAt_end {n : Int} (h0 : 0 ≤ n) (h1 : n ≤ 268435455) : rdAt (vbytes n) (vbytes n).length = ⟨n, vsize n, true, false⟩ := by
  have key : ∀ (s : List UInt8) (r : Rdr), (∀ i, i < s.length → ((s.take i).foldl (fun r b => (push r b.toNat).r) r).done = false ∧ (push ((s.take i).foldl (fun r b => (push r b.toNat).r) r) (s.getD i 0).toNat).e = 0 ∧ (push ((s.take i).foldl (fun r b => (push r b.toNat).r) r) (s.getD i 0).toNat).is = decide (i + 1 = s.length)) →
      s ≠ [] → (s.foldl (fun r b => (push r b.toNat).r) r) = (rdL s r).r := by
    intro s
    induction s with
    | nil => intro r _ h; exact absurd rfl h
    | cons x s ih =>
      intro r h _
      have h2 := h 0 (by simp)
      simp only [List.take_zero, List.foldl_nil, List.getD_cons_zero, List.length_cons] at h2
      simp only [List.foldl_cons, rdL]
      rw [if_pos h2.2.1]
      by_cases hs : s = []
      · subst hs
        rw [if_pos (by rw [h2.2.2]; rfl)]
        rfl
      · rw [if_neg (by rw [h2.2.2]; simp; intro e; exact hs e)]
        refine ih _ (fun i hi => ?_) hs
        have := h (i + 1) (by simp; omega)
        simpa using this
  have hne : vbytes n ≠ [] := by
    intro e
    have := vsize_len h0 h1
    rw [e, vsize_rsize] at this
    unfold rsize at this
    rw [mayB_iff.2 ⟨h0, h1⟩] at this
    simp only [List.length_nil, if_true] at this
    split at this <;> (try split at this) <;> (try split at this) <;> simp at this
  have hb := vread_back h0 h1 []
  rw [List.append_nil] at hb
  unfold rdAt
  rw [List.take_length, key (vbytes n) ⟨0, 0, false, false⟩ (fun i hi => ?_) hne]
  · have : vread (vbytes n) = rdL (vbytes n) ⟨0, 0, false, false⟩ := rfl
    rw [← this, hb]
  · obtain ⟨_, k2, _, _, k5⟩ := vsteps h0 h1 hi
    unfold rdAt at k2 k5
    exact ⟨k2, by rw [k5], by rw [k5]⟩

def invFr (n : Int) (a : List UInt8) (i : Int) (r : Rdr) : Bool :=
  decide (0 ≤ n) && decide (n ≤ 268435455) && decide (a = vbytes n) && decide (0 ≤ i) && decide (i ≤ a.length) && decide (r.n = (rdAt a i.toNat).n) && decide (r.size = (rdAt a i.toNat).size) && (r.done == (rdAt a i.toNat).done) && (r.bad == (rdAt a i.toNat).bad)

theorem invFr_iff {n : Int} {a : List UInt8} {i : Int} {r : Rdr} : invFr n a i r = true ↔ 0 ≤ n ∧ n ≤ 268435455 ∧ a = vbytes n ∧ 0 ≤ i ∧ i ≤ a.length ∧ r = rdAt a i.toNat := by
  simp only [invFr, Bool.and_eq_true, decide_eq_true_eq, beq_iff_eq, and_assoc]
  constructor
  · rintro ⟨h1, h2, h3, h4, h5, h6, h7, h8, h9⟩
    refine ⟨h1, h2, h3, h4, h5, ?_⟩
    cases r
    cases e : rdAt a i.toNat
    rw [e] at h6 h7 h8 h9
    simp_all
  · rintro ⟨h1, h2, h3, h4, h5, rfl⟩
    exact ⟨h1, h2, h3, h4, h5, rfl, rfl, rfl, rfl⟩

theorem vbytes_len {n : Int} (h0 : 0 ≤ n) (h1 : n ≤ 268435455) : 1 ≤ vsize n ∧ vsize n ≤ 4 := by
  rw [vsize_rsize]
  unfold rsize
  rw [mayB_iff.2 ⟨h0, h1⟩]
  simp only [if_true]
  split <;> (try split) <;> (try split) <;> omega

theorem vsize_pow {n : Int} (h0 : 0 ≤ n) (h1 : n ≤ 268435455) : n < 128 ^ (vsize n).toNat ∧ (1 < vsize n → 128 ^ (vsize n).toNat / 128 ≤ n) := by
  rw [vsize_rsize]
  unfold rsize
  rw [mayB_iff.2 ⟨h0, h1⟩]
  simp only [if_true]
  split
  · simp; omega
  · split
    · simp; omega
    · split
      · simp; omega
      · simp; omega

theorem vread_errs : ∀ (s : List UInt8) (r : Rdr), r.done = false → r.bad = false → (rdL s r).e ≠ 0 → (rdL s r).n = 0 ∧ (rdL s r).size = 0 ∧ ((rdL s r).e = 3 ∨ (rdL s r).e = 5)
  | [], r, _, _, _ => ⟨rfl, rfl, .inl rfl⟩
  | b :: s, r, hd, hb, h => by
    simp only [rdL] at h ⊢
    have hp : (push r b.toNat).e = 0 ∨ (push r b.toNat).e = 5 := by
      unfold push
      simp only [hd, hb, Bool.or_self, Bool.false_eq_true, if_false]
      split <;> split <;> simp
    have hq : (push r b.toNat).e = 0 → (push r b.toNat).is = false → (push r b.toNat).r.done = false ∧ (push r b.toNat).r.bad = false := by
      unfold push
      simp only [hd, hb, Bool.or_self, Bool.false_eq_true, if_false]
      split <;> split <;> simp
    split at h
    · rename_i h1
      rw [if_pos h1]
      split at h
      · exact absurd rfl h
      · rename_i h2
        rw [if_neg h2]
        obtain ⟨q1, q2⟩ := hq h1 (by simpa using h2)
        exact vread_errs s _ q1 q2 h
    · rename_i h1
      rw [if_neg h1]
      exact ⟨rfl, rfl, .inr (hp.resolve_left h1)⟩
end Go.Ev.Pl

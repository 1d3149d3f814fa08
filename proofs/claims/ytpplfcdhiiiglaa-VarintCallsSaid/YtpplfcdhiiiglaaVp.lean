/- Variable byte integers: the program's answers are the reference's. Own work. -/
import Derived.Test.YtpplfcdhiiiglaaVs
namespace Go.Ev.Pl

theorem mayB_iff {n : Int} : mayB n = true ↔ 0 ≤ n ∧ n ≤ 268435455 := by simp [mayB]

theorem szL_lt {n size : Int} (h : n < 128) : szL n size = (n, size) := by rw [szL.eq_def, dif_neg (by omega)]
theorem szL_ge {n size : Int} (h : 128 ≤ n) : szL n size = szL (n / 128) (size + 1) := by rw [szL.eq_def, dif_pos h]

theorem vsize_rsize (n : Int) : vsize n = rsize n := by
  unfold vsize rsize
  cases hm : mayB n
  · rfl
  · have h := mayB_iff.1 hm
    simp only [if_true]
    by_cases h1 : n < 128
    · rw [szL_lt h1, if_pos h1]
    · rw [szL_ge (by omega), if_neg h1]
      by_cases h2 : n < 16384
      · rw [szL_lt (by omega), if_pos h2]; rfl
      · rw [szL_ge (by omega), if_neg h2]
        by_cases h3 : n < 2097152
        · rw [szL_lt (by omega), if_pos h3]; rfl
        · rw [szL_ge (by omega), szL_lt (by omega), if_neg h3]; rfl

theorem byL_lt' {n : Int} {out : List UInt8} (h : n < 128) : byL n out = (n, out) := by rw [byL.eq_def, dif_neg (by omega)]
theorem byL_ge {n : Int} {out : List UInt8} (h : 128 ≤ n) : byL n out = byL (n / 128) (out ++ [u8 (n % 128 + 128)]) := by rw [byL.eq_def, dif_pos h]
theorem rbL_stop {size n i : Int} {out : List UInt8} (h : ¬ i < size) : rbL size n i out = ⟨n, out⟩ := by rw [rbL.eq_def, dif_neg h]
theorem rbL_more {size n i : Int} {out : List UInt8} (h : i + 1 < size) : rbL size n i out = rbL size (n / 128) (i + 1) (out ++ [u8 (n % 128 + 128)]) := by rw [rbL.eq_def, dif_pos (by omega), if_pos h]
theorem rbL_last {size n i : Int} {out : List UInt8} (h : i + 1 = size) : rbL size n i out = ⟨n / 128, out ++ [u8 (n % 128)]⟩ := by
  rw [rbL.eq_def, dif_pos (by omega), if_neg (by omega), rbL_stop (by omega), Int.add_zero]

/-- A number's bytes. -/
theorem vbytes_eq {n : Int} (h0 : 0 ≤ n) (h1 : n ≤ 268435455) : vbytes n =
    if n < 128 then [u8 n] else if n < 16384 then [u8 (n % 128 + 128), u8 (n / 128)]
    else if n < 2097152 then [u8 (n % 128 + 128), u8 (n / 128 % 128 + 128), u8 (n / 128 / 128)]
    else [u8 (n % 128 + 128), u8 (n / 128 % 128 + 128), u8 (n / 128 / 128 % 128 + 128), u8 (n / 128 / 128 / 128)] := by
  unfold vbytes
  rw [mayB_iff.2 ⟨h0, h1⟩]
  simp only [if_true]
  by_cases k1 : n < 128
  · rw [byL_lt' k1, if_pos k1]; rfl
  · rw [byL_ge (by omega), if_neg k1]
    by_cases k2 : n < 16384
    · rw [byL_lt' (by omega), if_pos k2]; rfl
    · rw [byL_ge (by omega), if_neg k2]
      by_cases k3 : n < 2097152
      · rw [byL_lt' (by omega), if_pos k3]; rfl
      · rw [byL_ge (by omega), byL_lt' (by omega), if_neg k3]; rfl

theorem rbytes_eq {n : Int} (h0 : 0 ≤ n) (h1 : n ≤ 268435455) : rbytes n =
    if n < 128 then [u8 n] else if n < 16384 then [u8 (n % 128 + 128), u8 (n / 128)]
    else if n < 2097152 then [u8 (n % 128 + 128), u8 (n / 128 % 128 + 128), u8 (n / 128 / 128)]
    else [u8 (n % 128 + 128), u8 (n / 128 % 128 + 128), u8 (n / 128 / 128 % 128 + 128), u8 (n / 128 / 128 / 128)] := by
  unfold rbytes
  rw [mayB_iff.2 ⟨h0, h1⟩]
  simp only [if_true]
  unfold rsize
  rw [mayB_iff.2 ⟨h0, h1⟩]
  simp only [if_true]
  by_cases k1 : n < 128
  · rw [if_pos k1, if_pos k1, rbL_last (by omega)]
    have : n % 128 = n := by omega
    rw [this]; rfl
  · rw [if_neg k1, if_neg k1]
    by_cases k2 : n < 16384
    · rw [if_pos k2, if_pos k2, rbL_more (by omega), rbL_last (by omega)]
      have : n / 128 % 128 = n / 128 := by omega
      rw [this]; rfl
    · rw [if_neg k2, if_neg k2]
      by_cases k3 : n < 2097152
      · rw [if_pos k3, if_pos k3, rbL_more (by omega), rbL_more (by omega), rbL_last (by omega)]
        have : n / 128 / 128 % 128 = n / 128 / 128 := by omega
        rw [this]; rfl
      · rw [if_neg k3, if_neg k3, rbL_more (by omega), rbL_more (by omega), rbL_more (by omega), rbL_last (by omega)]
        have : n / 128 / 128 / 128 % 128 = n / 128 / 128 / 128 := by omega
        rw [this]; rfl

theorem vbytes_rbytes (n : Int) : vbytes n = rbytes n := by
  cases hm : mayB n
  · simp [vbytes, rbytes, hm]
  · have h := mayB_iff.1 hm
    rw [vbytes_eq h.1 h.2, rbytes_eq h.1 h.2]

def RrL.num (x : RrL) : Num := if x.ret then ⟨x.n, x.size, x.e⟩ else ⟨0, 0, 5⟩
def RdL.num (x : RdL) : Num := ⟨x.n, x.size, x.e⟩

theorem rd_rr (s : List UInt8) (k : Nat) : ∀ (n : Int) (i : Nat), i + k = 4 → 0 < k → (rrL s n (128 ^ i) i).num = (rdL (s.drop i) ⟨n, i, false, false⟩).num := by
  induction k with
  | zero => intro n i _ h; omega
  | succ k ih =>
    intro n i hi _
    rw [rrL.eq_def, dif_pos (by omega)]
    by_cases hl : i < s.length
    · rw [if_neg (by omega), drop_cons hl]
      have hat : at' s i = ((s.getD i 0).toNat : Nat) := by simp [at']
      rw [hat]
      generalize s.getD i 0 = b
      simp only [rdL]
      unfold push
      simp only [Bool.or_self, Bool.false_eq_true, if_false, Int.toNat_natCast]
      by_cases hc : (b.toNat : Int) < 128
      · have hc' : ¬ 128 ≤ (b.toNat : Int) := by omega
        rw [if_pos hc]
        simp only [hc', if_false]
        by_cases hz : 0 < (i : Int) ∧ (b.toNat : Int) = 0
        · have hz' : (b.toNat : Int) = 0 ∧ 1 < (i : Int) + 1 := ⟨hz.2, by omega⟩
          rw [if_pos hz, if_pos hz']
          simp [RrL.num, RdL.num]
        · have hz' : ¬ ((b.toNat : Int) = 0 ∧ 1 < (i : Int) + 1) := fun e => hz ⟨by omega, e.1⟩
          rw [if_neg hz, if_neg hz']
          simp [RrL.num, RdL.num]
      · have hc' : 128 ≤ (b.toNat : Int) := by omega
        rw [if_neg hc]
        simp only [hc', if_true]
        by_cases h3 : (i : Int) + 1 = 4
        · simp only [h3, if_true]
          have e4 : ((i : Int) + 1) = 4 := h3
          rw [rrL.eq_def, dif_neg (by omega)]
          simp [RrL.num, RdL.num]
        · simp only [h3, if_false]
          have := ih (n + (b.toNat : Int) % 128 * 128 ^ i) (i + 1) (by omega) (by omega)
          rw [Int.pow_succ] at this
          simpa using this
    · rw [if_pos (by omega), List.drop_eq_nil_of_le (by omega)]
      rfl

theorem vread_rread (s : List UInt8) : (vread s).n = (rread s).n ∧ (vread s).size = (rread s).size ∧ (vread s).e = (rread s).e := by
  have h := rd_rr s 4 0 0 (by omega) (by omega)
  have e : rread s = (rrL s 0 1 0).num := rfl
  have h2 : rread s = (vread s).num := by
    rw [e]
    simpa [vread] using h
  rw [h2]
  exact ⟨rfl, rfl, rfl⟩

theorem lives02 : vbytes 127 = [127] ∧ vbytes 128 = [128, 1] := by
  constructor
  · rw [vbytes_eq (by omega) (by omega)]; decide
  · rw [vbytes_eq (by omega) (by omega)]; decide
end Go.Ev.Pl

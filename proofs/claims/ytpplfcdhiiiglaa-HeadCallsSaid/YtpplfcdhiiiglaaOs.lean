/- Numbers as bytes: what the functions compute. Own work. -/
import Derived.Test.YtpplfcdhiiiglaaVp
namespace Go.Ev.Pl

def puL (n size i : Int) (s : List UInt8) : List UInt8 :=
  if _h : i < size then puL n size (i + 1) (if i < 8 then s.set (size - 1 - i).toNat (u8 (n / 256 ^ i.toNat % 256)) else s) else s
  termination_by (size - i).toNat
  decreasing_by omega

def invPut (n size i : Int) (s : List UInt8) : Bool := decide (0 ≤ n) && decide (n ≤ 18446744073709551615) && decide (0 ≤ i) && decide (i ≤ size) && decide (size ≤ 16) && decide (s.length = size)
theorem invPut_iff {n size i : Int} {s : List UInt8} : invPut n size i s = true ↔ 0 ≤ n ∧ n ≤ 18446744073709551615 ∧ 0 ≤ i ∧ i ≤ size ∧ size ≤ 16 ∧ s.length = size := by simp [invPut, and_assoc]

def putB (n size : Int) : List UInt8 := if size ≤ 0 then [] else puL n (if 16 < size then 16 else size) 0 (List.replicate (if 16 < size then 16 else size).toNat 0)

theorem puL_len (n size : Int) : ∀ (i : Int) (s : List UInt8), (puL n size i s).length = s.length := by
  intro i s
  induction i, s using puL.induct n size with
  | case1 i s h ih =>
    rw [puL.eq_def, dif_pos h]
    refine (show _ = _ from ih).trans ?_
    split <;> simp
  | case2 i s h => rw [puL.eq_def, dif_neg h]

theorem putB_one {n : Int} (h0 : 0 ≤ n) (h1 : n ≤ 255) : putB n 1 = [u8 n] := by
  unfold putB
  rw [if_neg (by omega), if_neg (by omega), puL.eq_def, dif_pos (by omega), puL.eq_def, dif_neg (by omega)]
  have : n % 256 = n := by omega
  simp [this]

def rpL (n i : Int) (out : List UInt8) : List UInt8 :=
  if _h : 0 ≤ i then rpL n (i - 1) (out ++ [if i < 8 then u8 (n / 256 ^ i.toNat % 256) else 0]) else out
  termination_by (i + 1).toNat
  decreasing_by omega

def invRp (n i : Int) (out : List UInt8) : Bool := decide (0 ≤ n) && decide (n ≤ 18446744073709551615) && decide (-1 ≤ i) && decide (i ≤ 15) && decide ((out.length : Int) ≤ 15 - i)
theorem invRp_iff {n i : Int} {out : List UInt8} : invRp n i out = true ↔ 0 ≤ n ∧ n ≤ 18446744073709551615 ∧ -1 ≤ i ∧ i ≤ 15 ∧ (out.length : Int) ≤ 15 - i := by simp [invRp, and_assoc]

/-- The greater of 0 and the lesser of a size and 16. -/
def clip (size : Int) : Int := if 0 < (if 16 < size then 16 else size) then (if 16 < size then 16 else size) else 0

def rputB (n size : Int) : List UInt8 := rpL n (clip size - 1) []

theorem rputB_one {n : Int} (h0 : 0 ≤ n) (h1 : n ≤ 255) : rputB n 1 = [u8 n] := by
  unfold rputB clip
  rw [if_neg (show ¬ (16 : Int) < 1 by omega), if_pos (by omega), rpL.eq_def, dif_pos (by omega), rpL.eq_def, dif_neg (by omega)]
  have : n % 256 = n := by omega
  simp [this]
end Go.Ev.Pl

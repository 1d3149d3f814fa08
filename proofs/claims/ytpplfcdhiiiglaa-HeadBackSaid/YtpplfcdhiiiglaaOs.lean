/- Numbers as bytes: what the functions compute. Own work. -/
import Derived.Test.YtpplfcdhiiiglaaVp
namespace Go.Ev.Pl

def puL (n size i : Int) (s : List UInt8) : List UInt8 :=
  if _h : i < size then puL n size (i + 1) (if i < 8 then s.set (size - 1 - i).toNat (u8 (n / 256 ^ i.toNat % 256)) else s) else s
  termination_by (size - i).toNat
  decreasing_by omega

def invPut (n size i : Int) (s : List UInt8) : Bool := decide (0 ≤ n) && decide (n ≤ 18446744073709551615) && decide (0 ≤ i) && decide (i ≤ size) && decide (size ≤ 16) && decide (s.length = size)
theorem invPut_iff {n size i : Int} {s : List UInt8} : invPut n size i s = true ↔ 0 ≤ n ∧ n ≤ 18446744073709551615 ∧ 0 ≤ i ∧ i ≤ size ∧ size ≤ 16 ∧ s.length = size := by simp [invPut, and_assoc]

def putB (n size : Int) : List UInt8 := if size ≤ 0 then [] else puL n (if 16 < size then 16 else size) 0 (List.replicate (if 16 < size then 16 else size).toNat 0)

theorem puL_len (n size : Int) : ∀ (i : Int) (s : List UInt8), (puL n size i s).length = s.length := by
  intro i s
  induction i, s using puL.induct n size with
  | case1 i s h ih =>
    rw [puL.eq_def, dif_pos h]
    refine (show _ = _ from ih).trans ?_
    split <;> simp
  | case2 i s h => rw [puL.eq_def, dif_neg h]

theorem putB_one {n : Int} (h0 : 0 ≤ n) (h1 : n ≤ 255) : putB n 1 = [u8 n] := by
  unfold putB
  rw [if_neg (by omega), if_neg (by omega), puL.eq_def, dif_pos (by omega), puL.eq_def, dif_neg (by omega)]
  have : n % 256 = n := by omega
  simp [this]
end Go.Ev.Pl

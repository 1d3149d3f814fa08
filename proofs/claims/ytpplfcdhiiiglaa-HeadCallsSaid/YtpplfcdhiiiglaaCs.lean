/- A cursor over bytes; numbers read: what the functions compute. Own work. -/
import Derived.Test.YtpplfcdhiiiglaaOs
namespace Go.Ev.Pl

def beL : List UInt8 → Int → Int
  | [], n => n
  | b :: t, n => beL t (n * 256 + b.toNat)
/-- The number that the last eight bytes are. -/
def getB (s : List UInt8) : Int := beL (s.drop (s.length - 8)) 0

def invGt (s : List UInt8) (n len i : Int) : Bool := decide (0 ≤ i) && decide (i ≤ s.length) && decide (len = s.length) && decide (s.length ≤ 8) && decide (0 ≤ n) && decide (n < 256 ^ i.toNat)
theorem invGt_iff {s : List UInt8} {n len i : Int} : invGt s n len i = true ↔ 0 ≤ i ∧ i ≤ s.length ∧ len = s.length ∧ s.length ≤ 8 ∧ 0 ≤ n ∧ n < 256 ^ i.toNat := by simp [invGt, and_assoc]

theorem beL_bound : ∀ (s : List UInt8) (n : Int), 0 ≤ n → 0 ≤ beL s n ∧ beL s n < (n + 1) * 256 ^ s.length
  | [], n, h => by simp [beL]; omega
  | b :: t, n, h => by
    have hb := b.toNat_lt
    obtain ⟨h1, h2⟩ := beL_bound t (n * 256 + b.toNat) (by omega)
    refine ⟨h1, Int.lt_of_lt_of_le h2 ?_⟩
    rw [List.length_cons, Int.pow_succ, show (n + 1) * (256 ^ t.length * 256) = ((n + 1) * 256) * 256 ^ t.length by rw [Int.mul_comm ((256 : Int) ^ t.length) 256, Int.mul_assoc]]
    exact Int.mul_le_mul_of_nonneg_right (by omega) (Int.le_of_lt (Int.pow_pos (by decide)))

theorem getB_bound (s : List UInt8) : 0 ≤ getB s ∧ getB s < 256 ^ (min s.length 8) := by
  have := beL_bound (s.drop (s.length - 8)) 0 (by omega)
  have e : (s.drop (s.length - 8)).length = min s.length 8 := by simp; omega
  rw [e] at this
  simpa [getB] using this

theorem getB_one {s : List UInt8} (h : s.length = 1) : getB s = (s.getD 0 0).toNat := by
  match s, h with
  | [b], _ => simp [getB, beL]
theorem getB_two {s : List UInt8} (h : s.length = 2) : getB s = (s.getD 0 0).toNat * 256 + (s.getD 1 0).toNat := by
  match s, h with
  | [a, b], _ => simp [getB, beL]
theorem getB_nil : getB [] = 0 := rfl

def curOk (s : List UInt8) (a : Int) : Bool := decide (0 ≤ a) && decide (a ≤ s.length) && decide (s.length ≤ 281474976710656)
theorem curOk_iff {s : List UInt8} {a : Int} : curOk s a = true ↔ 0 ≤ a ∧ a ≤ s.length ∧ s.length ≤ 281474976710656 := by simp [curOk, and_assoc]

/-- Are so many bytes left? -/
def hasB (s : List UInt8) (a n : Int) : Bool := decide (0 ≤ n) && decide (n ≤ s.length - a)
theorem hasB_iff {s : List UInt8} {a n : Int} : hasB s a n = true ↔ 0 ≤ n ∧ n ≤ s.length - a := by simp [hasB]
def okT (s : List UInt8) (a e n : Int) : Bool := decide (e = 0) && hasB s a n
theorem okT_iff {s : List UInt8} {a e n : Int} : okT s a e n = true ↔ e = 0 ∧ 0 ≤ n ∧ n ≤ s.length - a := by simp [okT, hasB]
/-- What is taken; the cursor's place, its error then. -/
def tkS (s : List UInt8) (a e n : Int) : List UInt8 := if okT s a e n then (s.drop a.toNat).take n.toNat else []
def tkA (s : List UInt8) (a e n : Int) : Int := if okT s a e n then a + n else a
def tkE (s : List UInt8) (a e n : Int) : Int := if e = 0 then (if hasB s a n then 0 else 3) else e
def flE (e e' : Int) : Int := if e = 0 then e' else e

theorem tk_cur {s : List UInt8} {a : Int} (h : curOk s a = true) (e n : Int) : curOk s (tkA s a e n) = true := by
  rw [curOk_iff] at *
  unfold tkA
  cases h2 : okT s a e n
  · simpa using h
  · rw [okT_iff] at h2
    simp; omega
theorem tkS_len (s : List UInt8) (a e n : Int) : ((tkS s a e n).length : Int) ≤ max n 0 := by
  unfold tkS
  split
  · simp; omega
  · simp; omega
theorem tkS_le (s : List UInt8) (a e n : Int) : (tkS s a e n).length ≤ s.length := by
  unfold tkS
  split
  · simp; omega
  · simp
end Go.Ev.Pl

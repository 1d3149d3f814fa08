/- Variable byte integers: what the functions compute. Own work. -/
import Derived.Test.YtpplfcdhiiiglaaEv4
namespace Go.Ev.Pl

def mayB (n : Int) : Bool := decide (0 ≤ n) && decide (n ≤ 268435455)

def szL (n size : Int) : Int × Int :=
  if _h : 128 ≤ n then szL (n / 128) (size + 1) else (n, size)
termination_by n.toNat
decreasing_by omega

def vsize (n : Int) : Int := if mayB n then (szL n 1).2 else 0

def u8 (n : Int) : UInt8 := UInt8.ofNat n.toNat

def byL (n : Int) (out : List UInt8) : Int × List UInt8 :=
  if _h : 128 ≤ n then byL (n / 128) (out ++ [u8 (n % 128 + 128)]) else (n, out)
termination_by n.toNat
decreasing_by omega

def vbytes (n : Int) : List UInt8 := if mayB n then (byL n []).2 ++ [u8 (byL n []).1] else []
def vbytesE (n : Int) : Int := if mayB n then 0 else 2

def invSz (n size : Int) : Bool := decide (0 ≤ n) && decide (0 ≤ size) && decide (n + size ≤ 1099511627776)
theorem invSz_iff {n size : Int} : invSz n size = true ↔ 0 ≤ n ∧ 0 ≤ size ∧ n + size ≤ 1099511627776 := by simp [invSz, and_assoc]

def invBy (n : Int) (out : List UInt8) : Bool := decide (0 ≤ n) && decide (n + out.length ≤ 2147483648)
theorem invBy_iff {n : Int} {out : List UInt8} : invBy n out = true ↔ 0 ≤ n ∧ n + out.length ≤ 2147483648 := by simp [invBy]

/-- A reader's state. -/
structure Rdr where
  n : Int
  size : Int
  done : Bool
  bad : Bool

def Rdr.ok (r : Rdr) : Bool := r.done || r.bad || (decide (0 ≤ r.size) && decide (r.size ≤ 3) && decide (0 ≤ r.n) && decide (r.n < 128 ^ r.size.toNat))

structure Pushed where
  is : Bool
  e : Int
  r : Rdr

def push (r : Rdr) (b : Int) : Pushed :=
  if r.done || r.bad then ⟨false, 13, r⟩
  else if 128 ≤ b then
    if r.size + 1 = 4 then ⟨false, 5, ⟨r.n + b % 128 * 128 ^ r.size.toNat, r.size + 1, false, true⟩⟩
    else ⟨false, 0, ⟨r.n + b % 128 * 128 ^ r.size.toNat, r.size + 1, false, false⟩⟩
  else if b = 0 ∧ 1 < r.size + 1 then ⟨false, 5, ⟨r.n + b % 128 * 128 ^ r.size.toNat, r.size + 1, false, true⟩⟩
  else ⟨true, 0, ⟨r.n + b % 128 * 128 ^ r.size.toNat, r.size + 1, true, false⟩⟩

structure RdL where
  n : Int
  size : Int
  e : Int
  all : Bool
  r : Rdr

/-- Bytes read one by one. -/
def rdL : List UInt8 → Rdr → RdL
  | [], r => ⟨0, 0, 3, true, r⟩
  | b :: s, r =>
    if (push r b.toNat).e = 0 then
      if (push r b.toNat).is then ⟨(push r b.toNat).r.n, (push r b.toNat).r.size, 0, false, (push r b.toNat).r⟩
      else rdL s (push r b.toNat).r
    else ⟨0, 0, (push r b.toNat).e, false, (push r b.toNat).r⟩

def invRd (s : List UInt8) (len i : Int) (r : Rdr) : Bool := decide (0 ≤ i) && decide (i ≤ s.length) && decide (len = s.length) && decide (s.length ≤ 281474976710656) && !r.done && !r.bad && r.ok
theorem invRd_iff {s : List UInt8} {len i : Int} {r : Rdr} : invRd s len i r = true ↔ 0 ≤ i ∧ i ≤ s.length ∧ len = s.length ∧ s.length ≤ 281474976710656 ∧ r.done = false ∧ r.bad = false ∧ r.ok = true := by simp [invRd, and_assoc]

def vread (s : List UInt8) : RdL := rdL s ⟨0, 0, false, false⟩

theorem byL_lt : ∀ (n : Int) (out : List UInt8), 0 ≤ n → 0 ≤ (byL n out).1 ∧ (byL n out).1 < 128 ∧ ((byL n out).2.length : Int) ≤ out.length + n := by
  intro n out
  induction n, out using byL.induct with
  | case1 n out h ih =>
    intro hn
    rw [byL.eq_def, dif_pos h]
    obtain ⟨h1, h2, h3⟩ := ih (by omega)
    simp only [List.length_append, List.length_cons, List.length_nil] at h3
    exact ⟨h1, h2, by omega⟩
  | case2 n out h =>
    intro hn
    rw [byL.eq_def, dif_neg h]
    exact ⟨hn, by dsimp only; omega, by dsimp only; omega⟩

theorem drop_cons {s : List UInt8} {i : Nat} (h : i < s.length) : s.drop i = s.getD i 0 :: s.drop (i + 1) := by
  rw [List.drop_eq_getElem_cons h, List.getD_eq_getElem?_getD, List.getElem?_eq_getElem h]
  rfl

theorem rdL_all : ∀ (s : List UInt8) (r : Rdr), (rdL s r).all = true → (rdL s r).n = 0 ∧ (rdL s r).size = 0 ∧ (rdL s r).e = 3
  | [], r, _ => ⟨rfl, rfl, rfl⟩
  | b :: s, r, h => by
    simp only [rdL] at h ⊢
    split at h
    · rename_i h1
      rw [if_pos h1]
      split at h
      · cases h
      · rename_i h2
        rw [if_neg h2]
        exact rdL_all s _ h
    · cases h

theorem Rdr.eta' : ∀ {r : Rdr}, r.done = false → r.bad = false → r = ⟨r.n, r.size, false, false⟩
  | ⟨_, _, _, _⟩, rfl, rfl => rfl

theorem Rdr.ok_iff {r : Rdr} (hd : r.done = false) (hb : r.bad = false) : r.ok = true ↔ 0 ≤ r.size ∧ r.size ≤ 3 ∧ 0 ≤ r.n ∧ r.n < 128 ^ r.size.toNat := by
  simp [Rdr.ok, hd, hb, and_assoc]

theorem push_ok {r : Rdr} {b : Int} (hd : r.done = false) (hb : r.bad = false) (hok : r.ok = true) (he : (push r b).e = 0) (hi : (push r b).is = false) :
    (push r b).r.done = false ∧ (push r b).r.bad = false ∧ (push r b).r.ok = true := by
  obtain ⟨k1, k2, k3, k4⟩ := (Rdr.ok_iff hd hb).1 hok
  unfold push at he hi ⊢
  simp only [hd, hb, Bool.or_self, Bool.false_eq_true, if_false] at he hi ⊢
  by_cases h2 : 128 ≤ b
  · simp only [h2, if_true] at he hi ⊢
    by_cases h3 : r.size + 1 = 4
    · simp [h3] at he
    · simp only [h3, if_false] at he hi ⊢
      refine ⟨trivial, trivial, ?_⟩
      rw [Rdr.ok_iff rfl rfl]
      dsimp only
      have hs : r.size = 0 ∨ r.size = 1 ∨ r.size = 2 := by omega
      rcases hs with e | e | e <;> rw [e] at k4 ⊢ <;> simp at k4 ⊢ <;> omega
  · simp only [h2, if_false] at he hi
    by_cases h3 : b = 0 ∧ 1 < r.size + 1
    · simp [h3] at he
    · simp [h3] at hi

/-! The reference -/
def rsize (n : Int) : Int :=
  if mayB n then if n < 128 then 1 else if n < 16384 then 2 else if n < 2097152 then 3 else 4 else 0

structure RbL where
  n : Int
  out : List UInt8

def rbL (size : Int) (n i : Int) (out : List UInt8) : RbL :=
  if _h : i < size then rbL size (n / 128) (i + 1) (out ++ [u8 (n % 128 + if i + 1 < size then 128 else 0)]) else ⟨n, out⟩
termination_by (size - i).toNat
decreasing_by omega

def invRb (n size i : Int) (out : List UInt8) : Bool := decide (0 ≤ n) && decide (0 ≤ i) && decide (i ≤ size) && decide (size ≤ 4) && decide (n ≤ 1099511627776) && decide (out.length ≤ i)
theorem invRb_iff {n size i : Int} {out : List UInt8} : invRb n size i out = true ↔ 0 ≤ n ∧ 0 ≤ i ∧ i ≤ size ∧ size ≤ 4 ∧ n ≤ 1099511627776 ∧ out.length ≤ i := by simp [invRb, and_assoc]

def rbytes (n : Int) : List UInt8 := if mayB n then (rbL (rsize n) n 0 []).out else []
def rbytesE (n : Int) : Int := if mayB n then 0 else 2

structure RrL where
  ret : Bool
  n : Int
  size : Int
  e : Int
  times : Int

def at' (s : List UInt8) (i : Int) : Int := (s.getD i.toNat 0).toNat

def rrL (s : List UInt8) (n times i : Int) : RrL :=
  if _h : i < 4 then
    if s.length ≤ i then ⟨true, 0, 0, 3, 0⟩
    else if at' s i < 128 then
      if 0 < i ∧ at' s i = 0 then ⟨true, 0, 0, 5, 0⟩ else ⟨true, n + at' s i % 128 * times, i + 1, 0, 0⟩
    else rrL s (n + at' s i % 128 * times) (times * 128) (i + 1)
  else ⟨false, n, 0, 0, times⟩
termination_by (4 - i).toNat
decreasing_by omega

def invRr (s : List UInt8) (n times i : Int) : Bool := decide (0 ≤ i) && decide (i ≤ 4) && decide (times = 128 ^ i.toNat) && decide (0 ≤ n) && decide (n < times) && decide (s.length ≤ 281474976710656)
theorem invRr_iff {s : List UInt8} {n times i : Int} : invRr s n times i = true ↔ 0 ≤ i ∧ i ≤ 4 ∧ times = 128 ^ i.toNat ∧ 0 ≤ n ∧ n < times ∧ s.length ≤ 281474976710656 := by simp [invRr, and_assoc]

structure Num where
  n : Int
  size : Int
  e : Int

def rread (s : List UInt8) : Num := if (rrL s 0 1 0).ret then ⟨(rrL s 0 1 0).n, (rrL s 0 1 0).size, (rrL s 0 1 0).e⟩ else ⟨0, 0, 5⟩

structure RRdr where
  s : List UInt8
  e : Int

structure RPushed where
  is : Bool
  e : Int
  r : RRdr

def rpush (r : RRdr) (b : Int) : RPushed :=
  if (rread r.s).e = 0 ∨ r.e ≠ 0 then ⟨false, 13, r⟩
  else if (rread (r.s ++ [u8 b])).e = 5 then ⟨false, 5, ⟨r.s ++ [u8 b], 5⟩⟩
  else ⟨decide ((rread (r.s ++ [u8 b])).e = 0), 0, ⟨r.s ++ [u8 b], r.e⟩⟩

def pickN (n m : Int) : Int := if m < 1 then 0 else n % m
end Go.Ev.Pl

/- Headers: what the functions compute. Own work. -/
import Derived.Test.YtpplfcdhiiiglaaVs
namespace Go.Ev.Pl

def known (v : Int) : Bool := decide (v = 4) || decide (v = 5)
def kinds (v k : Int) : Bool := decide (1 ≤ k) && decide (k ≤ if v = 5 then 15 else 14)
def fixed (k : Int) : Int := if k = 6 ∨ k = 8 ∨ k = 10 then 2 else 0
/-- The flags of a PUBLISH. -/
def pubFl (f : Int) : Bool := decide (0 ≤ f) && decide (f ≤ 15) && !decide (f / 2 % 4 = 3) && (!decide (f / 2 % 4 = 0) || decide (f < 8))
def flagged (k f : Int) : Bool := if k = 3 then pubFl f else decide (f = fixed k)

structure HeadV where
  kind : Int
  flags : Int
  length : Int

def hcheck (v : Int) (h : HeadV) : Int :=
  if known v then if kinds v h.kind then if flagged h.kind h.flags then if mayB h.length then 0 else 2 else 7 else 8 else 2

theorem pubFl_iff {f : Int} : pubFl f = true ↔ 0 ≤ f ∧ f ≤ 15 ∧ f / 2 % 4 ≠ 3 ∧ (f / 2 % 4 ≠ 0 ∨ f < 8) := by
  simp [pubFl, and_assoc]

def hflagsE (v kind qos : Int) (dup : Bool) : Int :=
  if known v then if kinds v kind then if kind = 3 then (if qos < 0 ∨ 2 < qos ∨ (qos = 0 ∧ dup = true) then 7 else 0) else 0 else 8 else 2
def hflagsN (v kind qos : Int) (dup retain : Bool) : Int :=
  if hflagsE v kind qos dup = 0 then if kind = 3 then qos * 2 + (if retain then 1 else 0) + (if dup then 8 else 0) else fixed kind else 0

def hbytes (v : Int) (h : HeadV) : List UInt8 := if hcheck v h = 0 then u8 (h.kind * 16 + h.flags) :: vbytes h.length else []

structure HRead where
  h : HeadV
  size : Int
  e : Int

def hread (v : Int) (s : List UInt8) : HRead :=
  if known v then
    match s with
    | [] => ⟨⟨0, 0, 0⟩, 0, 3⟩
    | b :: t =>
      if hcheck v ⟨(b.toNat : Int) / 16, (b.toNat : Int) % 16, 0⟩ = 0 then
        if (vread t).e = 0 then ⟨⟨(b.toNat : Int) / 16, (b.toNat : Int) % 16, (vread t).n⟩, (vread t).size + 1, 0⟩
        else ⟨⟨0, 0, 0⟩, 0, (vread t).e⟩
      else ⟨⟨0, 0, 0⟩, 0, hcheck v ⟨(b.toNat : Int) / 16, (b.toNat : Int) % 16, 0⟩⟩
  else ⟨⟨0, 0, 0⟩, 0, 2⟩

end Go.Ev.Pl

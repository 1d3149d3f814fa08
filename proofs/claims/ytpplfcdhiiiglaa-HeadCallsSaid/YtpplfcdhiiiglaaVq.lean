/- Byte by byte: the program's reader and the reference's. Own work. -/
import Derived.Test.YtpplfcdhiiiglaaVp
namespace Go.Ev.Pl

def rst (c : Bool) (r : Rdr) : Rdr := bif c then ⟨0, 0, false, false⟩ else r
def rrst (c : Bool) (o : RRdr) : RRdr := bif c then ⟨[], 0⟩ else o

def has (l : List Int) (k i : Int) : Bool := (l.drop k.toNat).any fun x => decide (x = i)

structure Two where
  r : Rdr
  o : RRdr

def finL (s : List UInt8) (l : List Int) (i : Int) (t : Two) : Two :=
  if _h : i < s.length then finL s l (i + 1) ⟨(push (rst (has l 0 i) t.r) (at' s i)).r, (rpush (rrst (has l 0 i) t.o) (at' s i)).r⟩ else t
  termination_by (s.length - i).toNat
  decreasing_by omega

def rel (r : Rdr) (o : RRdr) : Bool :=
  decide (r.n = (vread o.s).r.n) && decide (r.size = (vread o.s).r.size) && (r.done == (vread o.s).r.done) && (r.bad == (vread o.s).r.bad) && decide (o.e = if r.bad then 5 else 0) && decide (r.size = o.s.length) && r.ok

theorem rel_iff {r : Rdr} {o : RRdr} : rel r o = true ↔ r = (vread o.s).r ∧ o.e = (if r.bad then 5 else 0) ∧ r.size = o.s.length ∧ r.ok = true := by
  simp only [rel, Bool.and_eq_true, decide_eq_true_eq, beq_iff_eq, and_assoc]
  constructor
  · rintro ⟨h1, h2, h3, h4, h5, h6, h7⟩
    refine ⟨?_, h5, h6, h7⟩
    cases r
    cases e : (vread o.s).r
    rw [e] at h1 h2 h3 h4
    simp_all
  · rintro ⟨h1, h2, h3, h4⟩
    exact ⟨by rw [← h1], by rw [← h1], by rw [← h1], by rw [← h1], h2, h3, h4⟩

def invPu (s : List UInt8) (l : List Int) (i : Int) (r : Rdr) (o : RRdr) : Bool :=
  decide (0 ≤ i) && decide (i ≤ s.length) && decide (s.length ≤ 40) && decide (l.length ≤ 40) && decide (o.s.length ≤ i) && rel r o

theorem invPu_iff {s : List UInt8} {l : List Int} {i : Int} {r : Rdr} {o : RRdr} : invPu s l i r o = true ↔ 0 ≤ i ∧ i ≤ s.length ∧ s.length ≤ 40 ∧ l.length ≤ 40 ∧ o.s.length ≤ i ∧ rel r o = true := by simp [invPu, and_assoc]

def invIn (l : List Int) (k : Int) : Bool := decide (0 ≤ k) && decide (k ≤ l.length) && decide (l.length ≤ 40)
theorem invIn_iff {l : List Int} {k : Int} : invIn l k = true ↔ 0 ≤ k ∧ k ≤ l.length ∧ l.length ≤ 40 := by simp [invIn, and_assoc]

theorem rdL_app : ∀ (s t : List UInt8) (r : Rdr), rdL (s ++ t) r = if (rdL s r).all then rdL t (rdL s r).r else rdL s r
  | [], _, _ => rfl
  | b :: s, t, r => by
    simp only [List.cons_append, rdL]
    split
    · split
      · rfl
      · exact rdL_app s t _
    · rfl

/-- How reading ends: all read; done; bad. -/
theorem rdL_three : ∀ (s : List UInt8) (r : Rdr), r.done = false → r.bad = false →
    ((rdL s r).all = true ∧ (rdL s r).e = 3 ∧ (rdL s r).r.done = false ∧ (rdL s r).r.bad = false) ∨
    ((rdL s r).all = false ∧ (rdL s r).e = 0 ∧ (rdL s r).r.done = true ∧ (rdL s r).r.bad = false ∧ (rdL s r).n = (rdL s r).r.n) ∨
    ((rdL s r).all = false ∧ (rdL s r).e = 5 ∧ (rdL s r).r.done = false ∧ (rdL s r).r.bad = true)
  | [], r, hd, hb => .inl ⟨rfl, rfl, hd, hb⟩
  | b :: s, r, hd, hb => by
    simp only [rdL]
    have hp : ((push r b.toNat).e = 0 ∧ (push r b.toNat).is = true ∧ (push r b.toNat).r.done = true ∧ (push r b.toNat).r.bad = false) ∨ ((push r b.toNat).e = 0 ∧ (push r b.toNat).is = false ∧ (push r b.toNat).r.done = false ∧ (push r b.toNat).r.bad = false) ∨
        ((push r b.toNat).e = 5 ∧ (push r b.toNat).r.done = false ∧ (push r b.toNat).r.bad = true) := by
      unfold push
      simp only [hd, hb, Bool.or_self, Bool.false_eq_true, if_false]
      split <;> split <;> simp
    rcases hp with ⟨h1, h2, h3, h4⟩ | ⟨h1, h2, h3, h4⟩ | ⟨h1, h2, h3⟩
    · rw [if_pos h1, if_pos h2]
      exact .inr (.inl ⟨rfl, rfl, h3, h4, rfl⟩)
    · rw [if_pos h1, if_neg (by rw [h2]; simp)]
      exact rdL_three s _ h3 h4
    · rw [if_neg (by rw [h1]; simp)]
      exact .inr (.inr ⟨rfl, h1, h2, h3⟩)

theorem rel_new : rel ⟨0, 0, false, false⟩ ⟨[], 0⟩ = true := by decide

theorem push_done {r : Rdr} (b : Int) (hd : r.done = false) (hb : r.bad = false) : (push r b).r.size = r.size + 1 ∧ ((push r b).r.ok = true ∨ (push r b).r.done = false ∧ (push r b).r.bad = false) := by
  unfold push
  simp only [hd, hb, Bool.or_self, Bool.false_eq_true, if_false]
  split <;> split <;> simp [Rdr.ok]

/-- One byte more. -/
theorem rel_push {r : Rdr} {o : RRdr} {b : Int} (h : rel r o = true) (b0 : 0 ≤ b) (b1 : b ≤ 255) :
    (push r b).is = (rpush o b).is ∧ (push r b).e = (rpush o b).e ∧ rel (push r b).r (rpush o b).r = true ∧
    (push r b).r.done = decide ((rread (rpush o b).r.s).e = 0) ∧ ((push r b).r.done = true → (push r b).r.n = (rread (rpush o b).r.s).n) ∧ (rpush o b).r.s.length ≤ o.s.length + 1 := by
  obtain ⟨h1, h2, h3, h4⟩ := rel_iff.1 h
  have three := rdL_three o.s ⟨0, 0, false, false⟩ rfl rfl
  have ev : rdL o.s ⟨0, 0, false, false⟩ = vread o.s := rfl
  rw [ev, ← h1] at three
  obtain ⟨rn, _, re⟩ := vread_rread o.s
  rcases three with ⟨t1, t2, t3, t4⟩ | ⟨t1, t2, t3, t4, t5⟩ | ⟨t1, t2, t3, t4⟩
  · -- it goes on
    have e0 : o.e = 0 := by rw [h2, t4]; rfl
    have en : ¬ ((rread o.s).e = 0 ∨ o.e ≠ 0) := by rw [← re, t2, e0]; simp
    have bu : b = ((u8 b).toNat : Nat) := (u8_toNat b0 (by omega)).symm
    have hv : vread (o.s ++ [u8 b]) = rdL [u8 b] r := by
      show rdL (o.s ++ [u8 b]) ⟨0, 0, false, false⟩ = _
      rw [rdL_app, ev, if_pos t1, ← h1]
    obtain ⟨rn', _, re'⟩ := vread_rread (o.s ++ [u8 b])
    have hx : rdL [u8 b] r = if (push r b).e = 0 then (if (push r b).is then ⟨(push r b).r.n, (push r b).r.size, 0, false, (push r b).r⟩ else ⟨0, 0, 3, true, (push r b).r⟩) else ⟨0, 0, (push r b).e, false, (push r b).r⟩ := by
      simp only [rdL, ← bu]
    have hr : (vread (o.s ++ [u8 b])).r = (push r b).r := by
      rw [hv, hx]
      split
      · split <;> rfl
      · rfl
    obtain ⟨ps, po⟩ := push_done (r := r) b t3 t4
    have hok : (push r b).r.ok = true := by
      rcases po with po | ⟨p1, p2⟩
      · exact po
      · have three' := rdL_three [u8 b] r t3 t4
        rw [hx] at three'
        by_cases he : (push r b).e = 0
        · cases hi : (push r b).is
          · exact (push_ok t3 t4 h4 he hi).2.2
          · rw [if_pos he, if_pos hi] at three'
            simp [p1] at three'
        · rw [if_neg he] at three'
          rcases three' with ⟨q, _⟩ | ⟨_, q, _⟩ | ⟨_, _, _, q⟩
          · cases q
          · exact absurd q he
          · rw [p2] at q; cases q
    unfold rpush
    rw [if_neg en]
    by_cases h5 : (rread (o.s ++ [u8 b])).e = 5
    · rw [if_pos h5]
      have e5 := re'.trans h5
      rw [hv, hx] at e5
      have he : ¬ (push r b).e = 0 := by
        intro he
        rw [if_pos he] at e5
        split at e5 <;> simp at e5
      rw [if_neg he] at e5
      simp only at e5
      have three' := rdL_three [u8 b] r t3 t4
      rw [hx, if_neg he] at three'
      simp only [e5] at three'
      simp at three'
      refine ⟨?_, e5, ?_, ?_, ?_, by simp⟩
      · have : (push r b).e = 5 → (push r b).is = false := by
          unfold push
          simp only [t3, t4, Bool.or_self, Bool.false_eq_true, if_false]
          split <;> split <;> simp
        exact this e5
      · rw [rel_iff]
        refine ⟨hr.symm, by rw [three'.2]; rfl, by simp [ps, h3], hok⟩
      · rw [three'.1, h5]; rfl
      · rw [three'.1]; simp
    · rw [if_neg h5]
      have e5 : ¬ (vread (o.s ++ [u8 b])).e = 5 := fun e => h5 (re'.symm.trans e)
      have three' := rdL_three [u8 b] r t3 t4
      rw [hv] at e5
      have he : (push r b).e = 0 := by
        rcases three' with ⟨_, q, _⟩ | ⟨_, q, _⟩ | ⟨_, q, _⟩
        · rw [hx] at q
          by_cases he : (push r b).e = 0
          · exact he
          · rw [if_neg he] at q
            have : (push r b).e = 0 ∨ (push r b).e = 5 := by
              unfold push
              simp only [t3, t4, Bool.or_self, Bool.false_eq_true, if_false]
              split <;> split <;> simp
            simp only at q
            rcases this with e | e
            · exact e
            · rw [e] at q; simp at q
        · rw [hx] at q
          by_cases he : (push r b).e = 0
          · exact he
          · rw [if_neg he] at q; exact q
        · exact absurd q e5
      have ee : (rread (o.s ++ [u8 b])).e = if (push r b).is then 0 else 3 := by
        rw [← re', hv, hx, if_pos he]
        split <;> rfl
      rw [hx, if_pos he] at three'
      refine ⟨?_, he, ?_, ?_, ?_, by simp⟩
      · rw [ee]
        cases (push r b).is <;> simp
      · rw [rel_iff]
        refine ⟨hr.symm, ?_, by simp [ps, h3], hok⟩
        rw [e0]
        cases hi : (push r b).is <;> rw [hi] at three' <;> simp at three' <;> simp [three']
      · rw [ee]
        cases hi : (push r b).is <;> rw [hi] at three' <;> simp at three' <;> simp [three']
      · intro hd
        rw [← rn', hv, hx, if_pos he]
        cases hi : (push r b).is <;> rw [hi] at three' <;> simp at three'
        · rw [three'.1] at hd; cases hd
        · simp
  · -- done
    have hp : push r b = ⟨false, 13, r⟩ := by unfold push; simp [t3]
    have hq : rpush o b = ⟨false, 13, o⟩ := by unfold rpush; rw [if_pos (.inl (by rw [← re, t2]))]
    rw [hp, hq]
    refine ⟨rfl, rfl, h, ?_, fun _ => ?_, by simp⟩
    · rw [t3, ← re, t2]; rfl
    · rw [← rn, t5]
  · -- bad
    have hp : push r b = ⟨false, 13, r⟩ := by unfold push; simp [t4]
    have hq : rpush o b = ⟨false, 13, o⟩ := by unfold rpush; rw [if_pos (.inr (by rw [h2, t4]; simp))]
    rw [hp, hq]
    refine ⟨rfl, rfl, h, ?_, fun hd => ?_, by simp⟩
    · rw [t3, ← re, t2]; rfl
    · rw [t3] at hd; cases hd
end Go.Ev.Pl

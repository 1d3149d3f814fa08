/- Headers: what is written is read, and so on. Own work. -/
import Derived.Test.YtpplfcdhiiiglaaHs
import Derived.Test.YtpplfcdhiiiglaaVp
namespace Go.Ev.Pl

theorem hcheck_ok {v : Int} {h : HeadV} (e : hcheck v h = 0) : known v = true ∧ kinds v h.kind = true ∧ flagged h.kind h.flags = true ∧ mayB h.length = true := by
  unfold hcheck at e
  split at e
  · split at e
    · split at e
      · split at e
        · exact ⟨by assumption, by assumption, by assumption, by assumption⟩
        · cases e
      · cases e
    · cases e
  · cases e

theorem hcheck_range {v : Int} {h : HeadV} (e : hcheck v h = 0) : 1 ≤ h.kind ∧ h.kind ≤ 15 ∧ 0 ≤ h.flags ∧ h.flags ≤ 15 ∧ 0 ≤ h.length ∧ h.length ≤ 268435455 := by
  obtain ⟨h1, h2, h3, h4⟩ := hcheck_ok e
  have h5 := mayB_iff.1 h4
  have hk : 1 ≤ h.kind ∧ h.kind ≤ 15 := by
    simp only [kinds, Bool.and_eq_true, decide_eq_true_eq] at h2
    refine ⟨h2.1, ?_⟩
    have := h2.2
    split at this <;> omega
  have hf : 0 ≤ h.flags ∧ h.flags ≤ 15 := by
    unfold flagged at h3
    split at h3
    · have := pubFl_iff.1 h3; omega
    · have h3' := of_decide_eq_true h3
      unfold fixed at h3'
      split at h3' <;> omega
  exact ⟨hk.1, hk.2, hf.1, hf.2, h5.1, h5.2⟩

theorem hcheck_iff {v : Int} {h : HeadV} : hcheck v h = 0 ↔ known v = true ∧ kinds v h.kind = true ∧ flagged h.kind h.flags = true ∧ mayB h.length = true := by
  refine ⟨hcheck_ok, fun ⟨h1, h2, h3, h4⟩ => ?_⟩
  unfold hcheck
  rw [if_pos h1, if_pos h2, if_pos h3, if_pos h4]

theorem hcheck_zero {v : Int} {h : HeadV} (e : hcheck v h = 0) : hcheck v ⟨h.kind, h.flags, 0⟩ = 0 := by
  obtain ⟨h1, h2, h3, _⟩ := hcheck_iff.1 e
  exact hcheck_iff.2 ⟨h1, h2, h3, rfl⟩

/-- A header is read from its bytes, whatever follows. -/
theorem hread_back {v : Int} {h : HeadV} (e : hcheck v h = 0) (t : List UInt8) : hread v (hbytes v h ++ t) = ⟨h, (hbytes v h).length, 0⟩ := by
  obtain ⟨a1, a2, a3, a4, a5, a6⟩ := hcheck_range e
  have e0 := hcheck_zero e
  obtain ⟨hk, _⟩ := hcheck_iff.1 e
  unfold hbytes
  rw [if_pos e]
  simp only [List.cons_append, List.length_cons]
  unfold hread
  rw [if_pos hk]
  simp only [u8_toNat (show 0 ≤ h.kind * 16 + h.flags by omega) (by omega)]
  have e1 : (h.kind * 16 + h.flags) / 16 = h.kind := by omega
  have e2 : (h.kind * 16 + h.flags) % 16 = h.flags := by omega
  rw [e1, e2, if_pos e0, vread_back a5 a6]
  simp only [if_true]
  rw [← vsize_len a5 a6]
  rfl

/-- Truncated it is short. -/
theorem hread_short {v : Int} {h : HeadV} (e : hcheck v h = 0) {i : Nat} (hi : i < (hbytes v h).length) : (hread v ((hbytes v h).take i)).e = 3 := by
  obtain ⟨a1, a2, a3, a4, a5, a6⟩ := hcheck_range e
  have e0 := hcheck_zero e
  obtain ⟨hk, _⟩ := hcheck_iff.1 e
  unfold hbytes at hi ⊢
  rw [if_pos e] at hi ⊢
  unfold hread
  rw [if_pos hk]
  cases i with
  | zero => rfl
  | succ i =>
    simp only [List.take_succ_cons, u8_toNat (show 0 ≤ h.kind * 16 + h.flags by omega) (show h.kind * 16 + h.flags < 256 by omega)]
    have e1 : (h.kind * 16 + h.flags) / 16 = h.kind := by omega
    have e2 : (h.kind * 16 + h.flags) % 16 = h.flags := by omega
    rw [e1, e2, if_pos e0]
    have hs := (vsteps a5 a6 (i := i) (by simpa using hi)).1
    rw [if_neg (by rw [hs]; simp)]
    exact hs

/-- What is read is valid, and is written as the same. -/
theorem hread_written {v : Int} {s : List UInt8} (e : (hread v s).e = 0) : hcheck v (hread v s).h = 0 ∧ 0 ≤ (hread v s).size ∧ (hread v s).size ≤ s.length ∧ hbytes v (hread v s).h = s.take (hread v s).size.toNat := by
  unfold hread at e ⊢
  split at e
  · rename_i hk
    rw [if_pos hk]
    cases s with
    | nil => simp at e
    | cons b t =>
      simp only at e ⊢
      split at e
      · rename_i hc
        rw [if_pos hc]
        split at e
        · rename_i hv
          rw [if_pos hv]
          obtain ⟨w1, w2, w3, w4, w5⟩ := vread_written t hv
          have hb := b.toNat_lt
          obtain ⟨c1, c2, c3, _⟩ := hcheck_iff.1 hc
          have hc' : hcheck v ⟨(b.toNat : Int) / 16, (b.toNat : Int) % 16, (vread t).n⟩ = 0 := hcheck_iff.2 ⟨c1, c2, c3, mayB_iff.2 ⟨w1, w2⟩⟩
          refine ⟨hc', by dsimp only; omega, by simp; omega, ?_⟩
          unfold hbytes
          rw [if_pos hc']
          simp only
          have e1 : ((vread t).size + 1).toNat = (vread t).size.toNat + 1 := by omega
          rw [e1, List.take_succ_cons, w5]
          have e2 : (b.toNat : Int) / 16 * 16 + (b.toNat : Int) % 16 = b.toNat := by omega
          rw [e2]
          simp [u8]
        · rename_i hv
          exact absurd e hv
      · rename_i hc
        exact absurd e hc
  · cases e

theorem hread_err {v : Int} {s : List UInt8} (e : (hread v s).e ≠ 0) : (hread v s).h = ⟨0, 0, 0⟩ ∧ (hread v s).size = 0 := by
  unfold hread at e ⊢
  split at e
  · rename_i hk
    rw [if_pos hk]
    cases s with
    | nil => exact ⟨rfl, rfl⟩
    | cons b t =>
      simp only at e ⊢
      split at e
      · rename_i hc
        rw [if_pos hc]
        split at e
        · exact absurd rfl e
        · rename_i hv
          rw [if_neg hv]
          exact ⟨rfl, rfl⟩
      · rename_i hc
        rw [if_neg hc]
        exact ⟨rfl, rfl⟩
  · rename_i hk
    rw [if_neg hk]
    exact ⟨rfl, rfl⟩

theorem hbytes_len {v : Int} {h : HeadV} (e : hcheck v h = 0) : 2 ≤ (hbytes v h).length ∧ (hbytes v h).length ≤ 5 := by
  obtain ⟨_, _, _, _, a5, a6⟩ := hcheck_range e
  unfold hbytes
  rw [if_pos e]
  have h1 := vsize_len a5 a6
  have h2 := vbytes_len a5 a6
  simp
  omega

theorem kinds45 {k : Int} : kinds 4 k = true ↔ 1 ≤ k ∧ k ≤ 14 := by simp [kinds]
theorem kinds5 {k : Int} : kinds 5 k = true ↔ 1 ≤ k ∧ k ≤ 15 := by simp [kinds]

/-- 3.1.1 and 5. -/
theorem both_ok {h : HeadV} (e : hcheck 4 h = 0) : hcheck 5 h = 0 ∧ hbytes 4 h = hbytes 5 h := by
  obtain ⟨h1, h2, h3, h4⟩ := hcheck_iff.1 e
  have h5 : hcheck 5 h = 0 := hcheck_iff.2 ⟨rfl, kinds5.2 (by have := kinds45.1 h2; omega), h3, h4⟩
  exact ⟨h5, by unfold hbytes; rw [if_pos e, if_pos h5]⟩

theorem both_auth {h : HeadV} (e : hcheck 5 h = 0) (e4 : hcheck 4 h ≠ 0) : h.kind = 15 ∧ hcheck 4 h = 8 ∧ (hread 4 (hbytes 5 h)).e = 8 := by
  obtain ⟨h1, h2, h3, h4⟩ := hcheck_iff.1 e
  have hk := kinds5.1 h2
  have hn : kinds 4 h.kind = false := by
    rw [← Bool.not_eq_true]
    intro h5
    exact e4 (hcheck_iff.2 ⟨rfl, h5, h3, h4⟩)
  have h15 : h.kind = 15 := by
    rcases Int.lt_or_le h.kind 15 with h' | h'
    · have : kinds 4 h.kind = true := kinds45.2 ⟨hk.1, by omega⟩
      rw [this] at hn; cases hn
    · omega
  have h8 : ∀ f l, hcheck 4 ⟨h.kind, f, l⟩ = 8 := by
    intro f l
    unfold hcheck
    have k4 : known 4 = true := rfl
    rw [if_pos k4]
    simp only [hn, Bool.false_eq_true, if_false]
  refine ⟨h15, h8 h.flags h.length, ?_⟩
  obtain ⟨a1, a2, a3, a4, a5, a6⟩ := hcheck_range e
  unfold hbytes
  rw [if_pos e]
  unfold hread
  have k4 : known 4 = true := rfl
  rw [if_pos k4]
  simp only [u8_toNat (show 0 ≤ h.kind * 16 + h.flags by omega) (show h.kind * 16 + h.flags < 256 by omega)]
  have e1 : (h.kind * 16 + h.flags) / 16 = h.kind := by omega
  have e2 : (h.kind * 16 + h.flags) % 16 = h.flags := by omega
  rw [e1, e2, h8, if_neg (by simp)]

theorem both_bad {h : HeadV} : hcheck 4 h = hcheck 5 h ∨ h.kind = 15 := by
  by_cases hk : h.kind = 15
  · exact .inr hk
  · left
    have : kinds 4 h.kind = kinds 5 h.kind := by
      rw [Bool.eq_iff_iff, kinds45, kinds5]
      omega
    unfold hcheck
    rw [this]
    rfl

theorem hbytes_bad {v : Int} {h : HeadV} (e : hcheck v h ≠ 0) : hbytes v h = [] := by unfold hbytes; rw [if_neg e]

def allShort (v : Int) (a : List UInt8) : Bool := (List.range a.length).all fun i => decide ((hread v (a.take i)).e = 3)

def invHb (v : Int) (a : List UInt8) (i : Int) : Bool := decide (0 ≤ i) && decide (i ≤ a.length) && decide (a.length ≤ 5) && allShort v a
theorem invHb_iff {v : Int} {a : List UInt8} {i : Int} : invHb v a i = true ↔ 0 ≤ i ∧ i ≤ a.length ∧ a.length ≤ 5 ∧ ∀ j, j < a.length → (hread v (a.take j)).e = 3 := by
  simp [invHb, allShort, and_assoc]
end Go.Ev.Pl

/- The abstract machine and its proof, part 3: nothing here is a statement about the program. Own work. -/
import Derived.Test.YtpplfcdhiiiglaaEv2
import Derived.LoopN
import Derived.Scope
import Derived.Orders
/- Cleaning: what is forgotten, named anew, given up. Own work. -/
namespace Go.Ev
variable {El : Nat → Type}

/-- Rooms named anew: the world stays. -/
structure Fresh (C : Cx El) (base : Nat) (H : RO) (ρ : Nat → RE) (h : List (HE El)) (w : World) (ρ' : Nat → RE) (h' : List (HE El)) : Prop where
  ext : Ext H H ρ ρ'
  rw : Rw C base H ρ' h' w
  shrink : ∀ b o, Touch ρ' b o → Touch ρ b o
  len : h.length ≤ h'.length
  blk : ∀ (i : Nat) (cs : List (AV El)), h[i]? = some (.blk cs) → h'[i]? = some (.blk cs)

section
variable {C : Cx El} {base : Nat} {H : RO} {ρ : Nat → RE} {h : List (HE El)} {w : World}

theorem Fresh.refl (q : Rw C base H ρ h w) : Fresh C base H ρ h w ρ h := ⟨.refl _ _, q, fun _ _ t => t, Nat.le_refl _, fun _ _ e => e⟩

theorem Fresh.trans {ρ' ρ'' : Nat → RE} {h' h'' : List (HE El)} (s : Fresh C base H ρ h w ρ' h') (t : Fresh C base H ρ' h' w ρ'' h'') : Fresh C base H ρ h w ρ'' h'' :=
  ⟨s.ext.trans t.ext, t.rw, fun b o ht => s.shrink b o (t.shrink b o ht), Nat.le_trans s.len t.len, fun i cs e => t.blk i cs (s.blk i cs e)⟩

theorem isFree_end (h : List (HE El)) : isFree h h.length 1 = true := by
  simp [isFree, List.getD_eq_getElem?_getD]

theorem newAt_end (h : List (HE El)) (e : HE El) : newAt h h.length [e] = h ++ [e] := by simp [newAt]

/-- An empty room. -/
theorem fresh_empty (q : Rw C base H ρ h w) (b : Nat) : Fresh C base H ρ h w (upd ρ h.length (.tok b 0 0)) (h ++ [.tok]) := by
  have := step_grant q (Nat.le_refl _) (isFree_end h) b 0 0 (fun hl => absurd hl (by omega)) (fun hl => absurd hl (by omega)) (fun _ _ _ _ o _ h2 => absurd h2 (by omega)) (fun o _ _ _ h2 => absurd h2 (by omega))
  rw [newAt_end] at this
  refine ⟨this.1, this.2, fun b' o ht => ?_, by simp, fun i cs e => ?_⟩
  · rcases ht with ⟨i, n, h1⟩ | ⟨i, lo, hi, h1, h2, h3⟩
    · by_cases hi : i = h.length
      · subst hi; rw [upd_same] at h1; cases h1
      · rw [upd_other _ _ hi] at h1; exact .inl ⟨i, n, h1⟩
    · by_cases hi' : i = h.length
      · subst hi'; rw [upd_same] at h1; cases h1; omega
      · rw [upd_other _ _ hi'] at h1; exact .inr ⟨i, lo, hi, h1, h2, h3⟩
  · rw [List.getElem?_append_left]
    · exact e
    · rcases Nat.lt_or_ge i h.length with h' | h'
      · exact h'
      · rw [List.getElem?_eq_none h'] at e; cases e

/-- A room named anew. -/
theorem fresh_move (q : Rw C base H ρ h w) {g b lo hi : Nat} (hg : ρ g = .tok b lo hi) (he : h[g]? = some .tok) :
    Fresh C base H ρ h w (upd (upd ρ g .dead) h.length (.tok b lo hi)) (h.set g .dead ++ [.tok]) := by
  obtain ⟨x1, q1⟩ := rw_dead q hg
  have hgl : g < h.length := (List.getElem?_eq_some_iff.1 he).1
  have hlen : (h.set g HE.dead).length = h.length := List.length_set
  have hgn : ∀ {i : Nat}, i ≠ g → upd ρ g .dead i = ρ i := fun hi => upd_other _ _ hi
  have hother : ∀ {i b' lo' hi'}, upd ρ g .dead i = .tok b' lo' hi' → i ≠ g ∧ ρ i = .tok b' lo' hi' := by
    intro i b' lo' hi' e
    by_cases hi : i = g
    · subst hi; rw [upd_same] at e; cases e
    · rw [hgn hi] at e; exact ⟨hi, e⟩
  have := step_grant q1 (nb := h.length) (by omega) (by rw [← hlen]; exact isFree_end _) b lo hi (fun hl => q.room g b lo hi hg hl) (fun hl i n h1 => ?_) (fun i lo' hi' h1 o h2 h3 => ?_) (fun o v hv h2 h3 => ?_)
  · rw [← hlen, newAt_end, hlen] at this
    refine ⟨x1.trans this.1, this.2, fun b' o ht => ?_, by simp, fun i cs e => ?_⟩
    · rcases ht with ⟨i, n, h1⟩ | ⟨i, lo', hi', h1, h2, h3⟩
      · by_cases hi : i = h.length
        · subst hi; rw [upd_same] at h1; cases h1
        · rw [upd_other _ _ hi] at h1
          by_cases hi2 : i = g
          · subst hi2; rw [upd_same] at h1; cases h1
          · rw [upd_other _ _ hi2] at h1; exact .inl ⟨i, n, h1⟩
      · by_cases hi4 : i = h.length
        · subst hi4; rw [upd_same] at h1; cases h1; exact .inr ⟨g, lo, hi, hg, h2, h3⟩
        · rw [upd_other _ _ hi4] at h1; exact .inr ⟨i, lo', hi', (hother h1).2, h2, h3⟩
    · have hig : g ≠ i := by rintro rfl; rw [he] at e; cases e
      have hil : i < h.length := (List.getElem?_eq_some_iff.1 e).1
      rw [List.getElem?_append_left (by rw [hlen]; exact hil), List.getElem?_set_ne hig]
      exact e
  · by_cases hi2 : i = g
    · subst hi2; rw [upd_same] at h1; cases h1
    · rw [hgn hi2] at h1; exact q.roomBlk g i b lo hi n hg hl h1
  · obtain ⟨h4, h5⟩ := hother h1
    exact q.rooms g i b lo hi lo' hi' hg h5 (fun e => h4 e.symm) o h2 h3
  · exact q.roRoom b o v g lo hi hv hg h2 h3

theorem freshF_ok (q : Rw C base H ρ h w) (f : Fl) : ∃ ρ', Fresh C base H ρ h w ρ' (freshF f h).2 ∧ (FlNil ρ f → FlNil ρ' (freshF f h).1) ∧ ∀ b o len cap wd, FlOk ρ f b o len cap wd → FlOk ρ' (freshF f h).1 b o len cap wd := by
  have hnil : ∀ {ρ' : Nat → RE} {f : Fl}, f = .shr → (FlNil ρ' f ∧ ∀ b o len cap wd, FlOk ρ' f b o len cap wd) := by
    rintro ρ' f rfl
    exact ⟨trivial, fun _ _ _ _ _ => trivial⟩
  cases f with
  | nil =>
    refine ⟨_, fresh_empty q 0, fun _ => .inr ⟨0, 0, 0, upd_same _ _ _⟩, fun b o len cap wd hf => hf.elim⟩
  | full =>
    refine ⟨_, fresh_empty q 0, fun _ => .inr ⟨0, 0, 0, upd_same _ _ _⟩, fun b o len cap wd hf => .inr ⟨0, 0, 0, upd_same _ _ _, .inl hf⟩⟩
  | nn => exact ⟨ρ, .refl q, fun _ => (hnil rfl).1, fun _ _ _ _ _ _ => (hnil rfl).2 _ _ _ _ _⟩
  | shr => exact ⟨ρ, .refl q, fun _ => (hnil rfl).1, fun _ _ _ _ _ _ => (hnil rfl).2 _ _ _ _ _⟩
  | tok g =>
    simp only [freshF]
    split
    · rename_i e
      have he : h[g]? = some .tok := by
        rw [List.getD_eq_getElem?_getD] at e
        cases e' : h[g]? with
        | none => rw [e'] at e; cases e
        | some x => rw [e'] at e; simp only [Option.getD_some] at e; rw [e]
      obtain ⟨b, lo, hi, hg⟩ := q.ent g _ he
      refine ⟨_, fresh_move q hg he, fun _ => .inr ⟨b, lo, hi, upd_same _ _ _⟩, fun b' o len cap wd hf => ?_⟩
      rcases hf with hf | ⟨b1, lo1, hi1, h1, h2⟩
      · rw [hg] at hf; cases hf
      · rw [hg] at h1; cases h1
        exact .inr ⟨b, lo, hi, upd_same _ _ _, h2⟩
    · exact ⟨ρ, .refl q, fun _ => trivial, fun _ _ _ _ _ _ => trivial⟩

theorem fresh1_ok (q : Rw C base H ρ h w) {v : AV El} {u : Value} (hv : V C H ρ v u) : ∃ ρ', Fresh C base H ρ h w ρ' (fresh1 v h).2 ∧ V C H ρ' (fresh1 v h).1 u := by
  have hlow : ∀ v : AV El, V C H ρ v u → (fresh1 v h) = (v.lowD, h) → ∃ ρ', Fresh C base H ρ h w ρ' (fresh1 v h).2 ∧ V C H ρ' (fresh1 v h).1 u := by
    intro v hv e
    rw [e]
    exact ⟨ρ, .refl q, hv.low⟩
  cases v with
  | bytes f s =>
    obtain ⟨ρ', s1, s2, s3⟩ := freshF_ok (w := w) q f
    refine ⟨ρ', s1, ?_⟩
    simp only [fresh1]
    cases hv with
    | bytesN _ _ hn => exact .bytesN _ _ (s2 hn)
    | bytes _ _ _ b o cap hf hc hh => exact .bytes _ _ _ _ _ _ (s3 _ _ _ _ _ hf) hc hh
  | list f c l =>
    obtain ⟨ρ', s1, s2, s3⟩ := freshF_ok (w := w) q f
    refine ⟨ρ', s1, ?_⟩
    simp only [fresh1]
    cases hv with
    | listN _ _ _ hn => exact .listN _ _ _ (s2 hn)
    | list _ _ _ _ b o cap vs hf hc h1 h2 => exact .list _ _ _ _ _ _ _ vs (s3 _ _ _ _ _ hf) hc h1 h2
  | _ => exact hlow _ hv rfl

theorem freshL_ok : ∀ (vs : List (AV El)) {us : List Value} {ρ : Nat → RE} {h : List (HE El)}, Rw C base H ρ h w → VL C H ρ vs us → ∃ ρ', Fresh C base H ρ h w ρ' (freshL vs h).2 ∧ VL C H ρ' (freshL vs h).1 us
  | [], us, ρ, h, q, hv => ⟨ρ, .refl q, hv⟩
  | v :: vs, [], ρ, h, q, hv => by have := hv.1; simp at this
  | v :: vs, u :: us, ρ, h, q, hv => by
    obtain ⟨h1, h2⟩ := hv.uncons
    obtain ⟨ρ1, s1, v1⟩ := fresh1_ok q h1
    obtain ⟨ρ2, s2, v2⟩ := freshL_ok vs s1.rw (h2.ext s1.ext)
    exact ⟨ρ2, s1.trans s2, .cons (v1.ext s2.ext) v2⟩

/-- A slice without leave to append. -/
theorem V.shrB {f : Fl} {s : List UInt8} {v : Value} (h : V C H ρ (.bytes f s) v) : V C H ρ (.bytes .shr s) v := by
  cases h with
  | bytesN _ _ hn => exact .bytesN _ _ trivial
  | bytes _ _ _ b o cap hf hc hh => exact .bytes _ _ _ _ _ _ trivial hc hh

theorem V.shrL {f : Fl} {c : Nat} {l : List (El c)} {v : Value} (h : V C H ρ (.list f c l) v) : V C H ρ (.list .shr c l) v := by
  cases h with
  | listN _ _ _ hn => exact .listN _ _ _ trivial
  | list _ _ _ _ b o cap vs hf hc h1 h2 => exact .list _ _ _ _ _ _ _ vs trivial hc h1 h2

theorem V.shrD {v : AV El} {u : Value} (h : V C H ρ v u) : V C H ρ v.shrD u := by
  cases v with
  | bytes f s => exact h.shrB
  | list f c l => exact h.shrL
  | _ => exact h.low

theorem freshS_ok : ∀ (ms : List Nat) (vs : List (AV El)) {us : List Value} {ρ : Nat → RE} {h : List (HE El)}, Rw C base H ρ h w → VL C H ρ vs us → ∃ ρ', Fresh C base H ρ h w ρ' (freshS ms vs h).2 ∧ VL C H ρ' (freshS ms vs h).1 us
  | [], vs, us, ρ, h, q, hv => by
    refine ⟨ρ, ?_, ?_⟩
    · cases vs <;> exact .refl q
    · have : freshS ([] : List Nat) vs h = (vs.map fun _ => .junk, h) := by cases vs <;> rfl
      rw [this]
      refine ⟨by simp [hv.1], fun i x v hx hv' => ?_⟩
      rw [List.getElem?_map] at hx
      obtain ⟨y, _, rfl⟩ := Option.map_eq_some_iff.1 hx
      exact .junk _ _
  | m :: ms, [], us, ρ, h, q, hv => ⟨ρ, .refl q, hv⟩
  | m :: ms, v :: vs, [], ρ, h, q, hv => by have := hv.1; simp at this
  | m :: ms, v :: vs, u :: us, ρ, h, q, hv => by
    obtain ⟨h1, h2⟩ := hv.uncons
    rcases m with _ | _ | _ | m
    · obtain ⟨ρ2, s2, v2⟩ := freshS_ok ms vs q h2
      exact ⟨ρ2, s2, .cons (.junk _ _) v2⟩
    · obtain ⟨ρ2, s2, v2⟩ := freshS_ok ms vs q h2
      exact ⟨ρ2, s2, .cons (h1.low.ext s2.ext) v2⟩
    · obtain ⟨ρ1, s1, v1⟩ := fresh1_ok q h1
      obtain ⟨ρ2, s2, v2⟩ := freshS_ok ms vs s1.rw (h2.ext s1.ext)
      exact ⟨ρ2, s1.trans s2, .cons (v1.ext s2.ext) v2⟩
    · obtain ⟨ρ2, s2, v2⟩ := freshS_ok ms vs q h2
      exact ⟨ρ2, s2, .cons (h1.shrD.ext s2.ext) v2⟩

/-- A block's cells told otherwise. -/
theorem rw_cells (q : Rw C base H ρ h w) {i : Nat} {cs cs' : List (AV El)} (he : h[i]? = some (.blk cs)) (hl : cs'.length = cs.length)
    (hv : ∀ b arr ty fz, ρ i = .blk b cs.length → w.heap[b]? = some (.cells arr ty fz) → arr.size = cs.length → VL C H ρ cs' arr.toList) : Rw C base H ρ (h.set i (.blk cs')) w := by
  refine ⟨q.big, fun j hj => q.out j (by simpa using hj), fun j e hj => ?_, q.inj, q.lo, q.room, q.rooms, q.roomBlk, q.ro, q.roBlk, q.roRoom, q.robj⟩
  by_cases hij : i = j
  · subst hij
    have hlt := (List.getElem?_eq_some_iff.1 he).1
    rw [List.getElem?_set_self hlt] at hj
    cases hj
    obtain ⟨b, arr, ty, fz, h1, h2, h3, h4, _⟩ := q.ent i _ he
    have := hv b arr ty fz h1 h2 h3
    exact ⟨b, arr, ty, fz, by rw [h1, hl], h2, by rw [h3, hl], h4, fun j a v ha hv' => this.2 j a v ha (by simpa using hv')⟩
  · rw [List.getElem?_set_ne hij] at hj
    exact q.ent j e hj

/-- Entries that stay blocks, of whatever cells. -/
structure Fresh' (C : Cx El) (base : Nat) (H : RO) (ρ : Nat → RE) (h : List (HE El)) (w : World) (ρ' : Nat → RE) (h' : List (HE El)) : Prop where
  ext : Ext H H ρ ρ'
  rw : Rw C base H ρ' h' w
  shrink : ∀ b o, Touch ρ' b o → Touch ρ b o
  len : h.length ≤ h'.length

theorem Fresh.weak {ρ' : Nat → RE} {h' : List (HE El)} (s : Fresh C base H ρ h w ρ' h') : Fresh' C base H ρ h w ρ' h' := ⟨s.ext, s.rw, s.shrink, s.len⟩

theorem Fresh'.trans {ρ' ρ'' : Nat → RE} {h' h'' : List (HE El)} (s : Fresh' C base H ρ h w ρ' h') (t : Fresh' C base H ρ' h' w ρ'' h'') : Fresh' C base H ρ h w ρ'' h'' :=
  ⟨s.ext.trans t.ext, t.rw, fun b o ht => s.shrink b o (t.shrink b o ht), Nat.le_trans s.len t.len⟩

theorem freshL_length : ∀ (vs : List (AV El)) (h : List (HE El)), (freshL vs h).1.length = vs.length
  | [], _ => rfl
  | v :: vs, h => by simp [freshL, freshL_length vs]

theorem freshH_ok : ∀ (n i : Nat) {ρ : Nat → RE} {h : List (HE El)}, Rw C base H ρ h w → ∃ ρ', Fresh' C base H ρ h w ρ' (freshH n i h)
  | 0, _, ρ, h, q => ⟨ρ, (Fresh.refl q).weak⟩
  | n + 1, i, ρ, h, q => by
    simp only [freshH]
    split
    · rename_i cs e
      have he : h[i]? = some (.blk cs) := by
        rw [List.getD_eq_getElem?_getD] at e
        cases e' : h[i]? with
        | none => rw [e'] at e; cases e
        | some x => rw [e'] at e; simp only [Option.getD_some] at e; rw [e]
      obtain ⟨b, arr, ty, fz, h1, h2, h3, h4, h5⟩ := q.ent i _ he
      obtain ⟨ρ1, s1, v1⟩ := freshL_ok cs (us := arr.toList) q ⟨by simp [h3], fun j a v ha hv => h5 j a v ha (by simpa using hv)⟩
      have q2 := rw_cells s1.rw (cs' := (freshL cs h).1) (s1.blk i cs he) (freshL_length cs h) (fun b' arr' ty' fz' k1 k2 k3 => by
        have := s1.ext.blk h1
        rw [this] at k1
        cases k1
        rw [h2] at k2
        cases k2
        exact v1)
      obtain ⟨ρ2, s2⟩ := freshH_ok n (i + 1) q2
      exact ⟨ρ2, (⟨s1.ext, q2, s1.shrink, by simpa using s1.len⟩ : Fresh' C base H ρ h w ρ1 _).trans s2⟩
    · exact freshH_ok n (i + 1) q

/-- Fewer entries, by other places. -/
theorem Step.sub {H0 : RO} {r0 : Nat → RE} {w0 : World} {h0 : List (HE El)} (q0 : Rw C base H0 r0 h0 w0) (s : Step C base H0 r0 w0 H ρ h w) {keep : List Nat} (hn : keep.Nodup) (hk : ∀ i, i < h0.length → keep[i]? = some i) :
    Step C base H0 r0 w0 H (subρ ρ keep) (compactH keep h) w := by
  have q := s.rw.sub hn
  have e : renH (idx keep) (keep.map fun i => h.getD i .free) = compactH keep h := by
    have : ∀ (f : Nat → Option Nat) (l : List (HE El)), renH f l = l.map (HE.ren f) := by
      intro f l
      induction l with
      | nil => rfl
      | cons x l ih => simp [renH, ih]
    rw [this, List.map_map]
    rfl
  rw [e] at q
  have htouch : ∀ {b o}, Touch (subρ ρ keep) b o → Touch ρ b o := by
    intro b o ht
    obtain ⟨i, _, ⟨n, h1⟩ | ⟨lo, hi, h1, h2⟩⟩ := touch_sub ht
    · exact .inl ⟨i, n, h1⟩
    · exact .inr ⟨i, lo, hi, h1, h2⟩
  refine ⟨⟨s.ext.cell, s.ext.obj, fun i hi => ?_⟩, q, s.pres, fun b o hb ht => s.shrink b o hb (htouch ht), s.nro, s.nobj⟩
  have hlt : i < h0.length := by
    rcases Nat.lt_or_ge i h0.length with h' | h'
    · exact h'
    · exact absurd (q0.out i h') hi
  rw [subρ_at (hk i hlt)]
  exact s.ext.re i hi

theorem Step.fresh {H0 : RO} {r0 : Nat → RE} {w0 : World} {ρ' : Nat → RE} {h' : List (HE El)} (s : Step C base H0 r0 w0 H ρ h w) (f : Fresh' C base H ρ h w ρ' h') : Step C base H0 r0 w0 H ρ' h' w :=
  s.trans ⟨f.ext, f.rw, .refl _ _, fun b o _ ht => f.shrink b o ht, fun _ _ _ _ h => .inl h, fun _ _ _ h => .inl h⟩

theorem clean_ok {H0 : RO} {r0 : Nat → RE} {w0 : World} {h0 : List (HE El)} (q0 : Rw C base H0 r0 h0 w0) (s : Step C base H0 r0 w0 H ρ h w) {R : Type} {r : R} {k : List (AV El) → List (HE El) → Option R} {t : Hint} {sl : List (AV El)} {us : List Value}
    (hS : VL C H ρ sl us) (hp : clean h0.length t sl h k = some r) : ∃ sl' h' ρ', k sl' h' = some r ∧ Step C base H0 r0 w0 H ρ' h' w ∧ VL C H ρ' sl' us := by
  unfold clean at hp
  obtain ⟨ρ1, s1, v1⟩ := freshS_ok t.mask sl s.rw hS
  have : ∃ ρ2, Fresh' C base H ρ1 (freshS t.mask sl h).2 w ρ2 (if t.blocks = true then freshH (freshS t.mask sl h).2.length 0 (freshS t.mask sl h).2 else (freshS t.mask sl h).2) := by
    split
    · exact freshH_ok _ _ s1.rw
    · exact ⟨ρ1, (Fresh.refl s1.rw).weak⟩
  obtain ⟨ρ2, s2⟩ := this
  dsimp only at hp
  generalize (if t.blocks = true then freshH (freshS t.mask sl h).2.length 0 (freshS t.mask sl h).2 else (freshS t.mask sl h).2) = h2 at hp s2
  split at hp
  · rename_i hc
    refine ⟨_, _, _, hp, ((s.fresh s1.weak).fresh s2).sub q0 (noDup_nodup hc) (fun i hi => ?_), (v1.ext s2.ext).ren sub_idx⟩
    rw [List.getElem?_append_left (by rw [List.length_range]; omega), List.getElem?_range (by omega)]
  · cases hp
end
end Go.Ev

/- Code; whole functions. Own work. -/
namespace Go.Ev
variable {El : Nat → Type}

/-- One result. -/
def res1 (tmps : Array Value) : ResultVar → Sem Value
  | .tmp t => pure (tmps.getD t undef)
  | .cell a t => do loadVar t (← asAddr (tmps.getD a undef))

/-- Regions whose order is drawn do as they do in the order of their text. -/
def DrawOk (P : Program) (C : Cx El) (base : Nat) : Prop :=
  ∀ (R : Type) (r : R) (H0 : RO) (r0 : Nat → RE) (w0 : World) (id : Nat) (ops : Array Oper) (Q : Exit → Go.Act → World → Prop) (k : List (AV El) → List (HE El) → Option R) (sl : List (AV El)) (h : List (HE El)) (H : RO) (ρ : Nat → RE) (a : Go.Act) (w : World),
    Good C base H0 r0 w0 k r (Q .normal) → Step C base H0 r0 w0 H ρ h w → VL C H ρ sl a.tmps.toList → a.defers = [] → orderly ops.toList 0 = true →
    evOpsD C ops.toList ops.toList 0 h.length [] sl (h ++ List.replicate (total C ops.toList) .free) k = some r → (Code.region id ops true).wp P Q a w

section
variable {P : Program} {C : Cx El} {base : Nat} {H : RO} {ρ : Nat → RE} {h : List (HE El)} {w : World} {a : Go.Act} {R : Type} {r : R} {sl : List (AV El)}

/-- The loops' contracts hold. -/
def LpOk (C : Cx El) (m : Nat) (hs : Nat → Option Hint) (lp : Nat → Option (LP El)) (fuel : Nat) (c : Code) : Prop :=
  ∀ body ∈ loopsOf c, ∀ L, lp (firstId body) = some L → ∀ (R : Type) (kR : List (AV El) → List (HE El) → Option R) (kE : Nat → List (AV El) → List (HE El) → Option R) (sl : List (AV El)) (h : List (HE El)) (r : R),
    L.run kR kE sl h = some r → ∃ n, rounds (fun k sl h => evC C m hs lp fuel body (fun sl h => cleanAt m hs (firstId body + 1000000) sl h k) kR kE sl h) n sl h = some r

theorem evC_ok (hC : CxOk P C base) (hD : DrawOk P C base) {H0 : RO} {r0 : Nat → RE} {w0 : World} {h0 : List (HE El)} (q0 : Rw C base H0 r0 h0 w0) {hs : Nat → Option Hint} {lp : Nat → Option (LP El)} {fuel : Nat} (c : Code) : LpOk C h0.length hs lp fuel c →
    ∀ {Q : Exit → Go.Act → World → Prop} {kN kR : List (AV El) → List (HE El) → Option R} {kE : Nat → List (AV El) → List (HE El) → Option R},
    Good C base H0 r0 w0 kN r (Q .normal) → Good C base H0 r0 w0 kR r (Q .ret) → (∀ i, Good C base H0 r0 w0 (kE i) r (Q (.exit i))) →
    Good C base H0 r0 w0 (evC C h0.length hs lp fuel c kN kR kE) r (c.wp P Q) := by
  induction c with
  | skip => exact fun _ _ _ _ _ hN _ _ sl h H ρ a w hp s hS hd => wp_skip (hN sl h H ρ a w hp s hS hd)
  | region id ops draw =>
    intro hlp Q kN kR kE hN hR hE sl h H ρ a w hp s hS hd
    have hN' : Good C base H0 r0 w0 (fun sl h => cleanAt h0.length hs id sl h kN) r (Q .normal) := by
      intro sl h H ρ a w hp s hS hd
      unfold cleanAt at hp
      split at hp
      · exact hN sl h H ρ a w hp s hS hd
      · obtain ⟨sl', h', ρ', h1, h2, h3⟩ := clean_ok q0 s hS hp
        exact hN sl' h' H ρ' a w h1 h2 h3 hd
    simp only [evC] at hp
    cases draw with
    | true =>
      split at hp
      · split at hp
        · rename_i ho
          exact hD R r H0 r0 w0 id ops Q _ sl h H ρ a w hN' s hS hd ho hp
        · cases hp
      · rename_i hc; exact absurd rfl hc
    | false =>
      have := evOps_ok hC (ops := ops) (Q := Q) hN' ops.toList 0 sl h H ρ a w (by simp) s hS hd hp
      refine wp_region ?_
      rw [List.range_eq_range']
      simpa using this
  | seq x y ihx ihy =>
    intro hlp Q kN kR kE hN hR hE sl h H ρ a w hp s hS hd
    simp only [evC] at hp
    exact wp_seq (ihx (fun b hb => hlp b (List.mem_append_left _ hb)) (Q := Exit.then (y.wp P Q) Q) (ihy (fun b hb => hlp b (List.mem_append_right _ hb)) hN hR hE) hR hE sl h H ρ a w hp s hS hd)
  | cond c x y ihx ihy =>
    intro hlp Q kN kR kE hN hR hE sl h H ρ a w hp s hS hd
    have hv := opd_ok hS c
    simp only [evC] at hp
    split at hp
    · rename_i t e
      rw [e] at hv
      split at hp
      · rw [setB_eq e] at hp
        exact wp_cond_true hv.boolE (ihx (fun b hb => hlp b (List.mem_append_left _ hb)) hN hR hE sl h H ρ a w hp s hS hd)
      · rw [setB_eq e] at hp
        exact wp_cond_false hv.boolE (ihy (fun b hb => hlp b (List.mem_append_right _ hb)) hN hR hE sl h H ρ a w hp s hS hd)
    · cases hp
  | block id body ih =>
    intro hlp Q kN kR kE hN hR hE sl h H ρ a w hp s hS hd
    simp only [evC] at hp
    refine wp_block (ih hlp (Q := Exit.inBlock id Q) hN hR (fun i sl h H ρ a w hp s hS hd => ?_) sl h H ρ a w hp s hS hd)
    simp only [Exit.inBlock]
    split at hp
    · rename_i e; rw [if_pos e]; exact hN sl h H ρ a w hp s hS hd
    · rename_i e; rw [if_neg e]; exact hE i sl h H ρ a w hp s hS hd
  | loop body ih =>
    intro hlp Q kN kR kE hN hR hE
    have hcl : ∀ {Q' : Go.Act → World → Prop} {k : List (AV El) → List (HE El) → Option R}, Good C base H0 r0 w0 k r Q' → Good C base H0 r0 w0 (fun sl h => cleanAt h0.length hs (firstId body + 1000000) sl h k) r Q' := by
      intro Q' k hk sl h H ρ a w hp s hS hd
      unfold cleanAt at hp
      split at hp
      · exact hk sl h H ρ a w hp s hS hd
      · obtain ⟨sl', h', ρ', h1, h2, h3⟩ := clean_ok q0 s hS hp
        exact hk sl' h' H ρ' a w h1 h2 h3 hd
    have key : ∀ n, Good C base H0 r0 w0 (rounds (fun k sl h => evC C h0.length hs lp fuel body (fun sl h => cleanAt h0.length hs (firstId body + 1000000) sl h k) kR kE sl h) n) r (Code.rounds P body Q n) := by
      intro n
      induction n with
      | zero => exact fun sl h H ρ a w hp => by simp [rounds] at hp
      | succ n ihn =>
        intro sl h H ρ a w hp s hS hd
        simp only [rounds] at hp
        rw [rounds_succ]
        exact ih (fun b hb => hlp b (List.mem_cons_of_mem _ hb)) (Q := Exit.then (Code.rounds P body Q n) Q) (hcl ihn) hR hE sl h H ρ a w hp s hS hd
    simp only [evC]
    refine hcl fun sl h H ρ a w hp s hS hd => ?_
    split at hp
    · rename_i L hL
      obtain ⟨n, hn⟩ := hlp body (by simp [loopsOf]) L hL R kR kE sl h r hp
      exact wp_loop_rounds n (key n sl h H ρ a w hn s hS hd)
    · exact wp_loop_rounds fuel (key fuel sl h H ρ a w hp s hS hd)
  | exit id =>
    intro hlp Q kN kR kE hN hR hE sl h H ρ a w hp s hS hd
    simp only [evC] at hp
    exact wp_exit (hE id sl h H ρ a w hp s hS hd)
  | ret =>
    intro hlp Q kN kR kE hN hR hE sl h H ρ a w hp s hS hd
    simp only [evC] at hp
    exact wp_ret (hR sl h H ρ a w hp s hS hd)
  | label l =>
    intro hlp Q kN kR kE hN hR hE sl h H ρ a w hp s hS hd
    simp only [evC] at hp
    exact wp_label (hN sl h H ρ a w hp s hS hd)
  | scope body ih =>
    intro hlp Q kN kR kE hN hR hE sl h H ρ a w hp s hS hd
    simp only [evC] at hp
    exact wp_scope_straight (ih hlp (Q := Exit.noGoto Q) hN hR hE sl h H ρ a w hp s hS hd)
  | _ => intro _ Q kN kR kE hN hR hE sl h H ρ a w hp; simp [evC] at hp

theorem resA_ok (hT : TTOk P C) (q : Rw C base H ρ h w) {tmps : Array Value} (hS : VL C H ρ sl tmps.toList) : ∀ (rs : List ResultVar) (vs : List (AV El)), resA C sl h rs = some vs →
    ∃ us : List Value, (rs.mapM (res1 tmps)).run P w = .ok us w ∧ VL C H ρ vs us
  | [], vs, hp => by
    simp [resA] at hp
    subst hp
    exact ⟨[], by simp, rfl, fun i x v hx => by simp at hx⟩
  | x :: rs, vs, hp => by
    simp only [resA] at hp
    split at hp
    · rename_i v vs' h1 h2
      cases hp
      obtain ⟨us, k1, k2⟩ := resA_ok hT q hS rs vs' h2
      have : ∃ u, (res1 tmps x).run P w = .ok u w ∧ V C H ρ v u := by
        cases x with
        | tmp t =>
          simp only [Option.some.injEq] at h1
          subst h1
          exact ⟨_, by simp [res1], hS.at t⟩
        | cell ad t =>
          simp only at h1
          split at h1
          · rename_i ti id off e1 e2
            split at h1
            · rename_i cs e3
              split at h1
              · rename_i hlen
                cases h1
                have ht := hT _ _ e1
                have hv := hS.at ad
                rw [e2] at hv
                generalize hx : tmps.getD ad undef = vx at hv
                cases hv
                rename_i b n hb
                obtain ⟨b', arr, ty, fz, k3, k4, k5, k6, k7⟩ := q.cells e3
                rw [hb] at k3
                cases k3
                have hg := run_loadVar (P := P) (w := w) ht.size ht.agg ht.und b 0 off arr.toList (by simp; omega) ht.pos (fun j v hv => by simpa [World.cell?, k4] using hv)
                rw [Nat.zero_add] at hg
                refine ⟨_, ?_, part_ok k7 hlen ht.pos⟩
                simp only [res1, Sem.run_bind, hx, asAddr, Sem.run_pure, Result.andThen_ok]
                exact hg
              · cases h1
            · cases h1
          · cases h1
      obtain ⟨u, k3, k4⟩ := this
      refine ⟨u :: us, ?_, .cons k4 k2⟩
      simp only [List.mapM_cons, Sem.run_bind, k3, k1, Result.andThen_ok, Sem.run_pure]
    · cases hp
end
end Go.Ev

/- Whole functions. Own work. -/
namespace Go.Ev
variable {El : Nat → Type}

section
variable {P : Program} {C : Cx El} {base : Nat} {H : RO} {ρ : Nat → RE} {h : List (HE El)} {w : World} {R : Type} {r : R}

theorem fin_ok {H0 : RO} {r0 : Nat → RE} {w0 : World} {h0 : List (HE El)} (q0 : Rw C base H0 r0 h0 w0) (s : Step C base H0 r0 w0 H ρ h w) {L : Leave} {v : AV El} {u : Value} (hv : V C H ρ v u) {k : AV El → List (HE El) → Option R}
    (hp : fin L h0.length v h k = some r) : ∃ v' h' ρ', k v' h' = some r ∧ Step C base H0 r0 w0 H ρ' h' w ∧ V C H ρ' v' u := by
  unfold fin at hp
  have : ∃ ρ1, Fresh C base H ρ h w ρ1 (if L.rooms = true then fresh1 v h else (v.lowD, h)).2 ∧ V C H ρ1 (if L.rooms = true then fresh1 v h else (v.lowD, h)).1 u := by
    split
    · exact fresh1_ok s.rw hv
    · exact ⟨ρ, .refl s.rw, hv.low⟩
  obtain ⟨ρ1, s1, v1⟩ := this
  dsimp only at hp
  generalize (if L.rooms = true then fresh1 v h else (v.lowD, h)) = p at hp s1 v1
  have : ∃ ρ2, Fresh' C base H ρ1 p.2 w ρ2 (if L.blocks = true then freshH p.2.length 0 p.2 else p.2) := by
    split
    · exact freshH_ok _ _ s1.rw
    · exact ⟨ρ1, (Fresh.refl s1.rw).weak⟩
  obtain ⟨ρ2, s2⟩ := this
  generalize (if L.blocks = true then freshH p.2.length 0 p.2 else p.2) = h2 at hp s2
  split at hp
  · rename_i hc
    simp only [Bool.and_eq_true] at hc
    refine ⟨_, _, _, hp, ((s.fresh s1.weak).fresh s2).sub q0 (noDup_nodup hc.1) (fun i hi => ?_), (v1.ext s2.ext).ren sub_idx⟩
    rw [List.getElem?_append_left (by rw [List.length_range]; omega), List.getElem?_range hi]
  · cases hp

theorem one_ok {vs : List (AV El)} {us : List Value} (hv : VL C H ρ vs us) : V C H ρ (one vs) (if h : us.toArray.size = 1 then us.toArray[0] else .tuple us.toArray) := by
  have hl := hv.1
  match vs, us, hl with
  | [v], [u], _ => exact hv.2 0 v u rfl rfl
  | [], [], _ => exact VL.tup (by simpa using hv)
  | _ :: _ :: _, u1 :: u2 :: us, _ =>
    rw [dif_neg (by simp)]
    exact VL.tup (by simpa using hv)

theorem results_run (fn : Func) (tmps : Array Value) : results fn tmps = (do
    let vs ← fn.results.mapM (res1 tmps)
    pure (if h : vs.size = 1 then vs[0] else .tuple vs)) := by
  unfold results
  congr 1

/-- What a function owes: its text, and its evaluation. -/
theorem evF_sound (hC : CxOk P C base) (hD : DrawOk P C base) {f : FuncId} {fn : Func} {c : Code} (hf : P.funcs[f]? = some fn) (hb : fn.body = some c) (hnum : (fn.name == "runtime.NumGoroutine") = false) (hs : Nat → Option Hint) (lp : Nat → Option (LP El)) (L : Leave) (fuel : Nat) {H : RO} {ρ : Nat → RE} {h : List (HE El)} {w : World} {args : List (AV El)} {vals : Array Value} {R : Type} {k : AV El → List (HE El) → Option R} {r : R}
    (hlp : LpOk C h.length hs lp fuel c) (q : Rw C base H ρ h w) (hv : VL C H ρ args vals.toList) (hp : evF C hs lp L fuel fn.ntmps fn.results.toList c args h k = some r) :
    Enters P f ∧ Calls P f vals w (Ret fun u w' => ∃ v h' H' ρ', k v h' = some r ∧ Step C base H ρ w H' ρ' h' w' ∧ V C H' ρ' v u) := by
  refine ⟨⟨fn, hf, hnum, by rw [hb]; rfl⟩, ?_⟩
  simp only [evF] at hp
  have hret : Good C base H ρ w (fun sl h' => match resA C sl h' fn.results.toList with
      | some vs => fin L h.length (one vs) h' k
      | none => none) r (fun a w' => a.defers = [] ∧ ∃ v, (results fn a.tmps).run P w' = .ok v w' ∧ Ret (fun u w' => ∃ v h' H' ρ', k v h' = some r ∧ Step C base H ρ w H' ρ' h' w' ∧ V C H' ρ' v u) (.returned v) w') := by
    intro sl h' H' ρ' a w' hp s hS hd
    refine ⟨hd, ?_⟩
    simp only at hp
    split at hp
    · rename_i vs hvs
      obtain ⟨us, hr, hus⟩ := resA_ok hC.tt s.rw hS fn.results.toList vs hvs
      obtain ⟨v', h'', ρ'', k1, k2, k3⟩ := fin_ok q s (one_ok hus) hp
      refine ⟨_, ?_, _, rfl, v', h'', H', ρ'', k1, k2, k3⟩
      rw [results_run]
      simp only [Sem.run_bind, Array.mapM_eq_mapM_toList, map_eq_pure_bind, hr, Result.andThen_ok, Sem.run_pure]
    · cases hp
  refine calls_of_wp hf hb (evC_ok hC hD q c hlp (Q := bodyPost P fn (Ret fun u w' => ∃ v h' H' ρ', k v h' = some r ∧ Step C base H ρ w H' ρ' h' w' ∧ V C H' ρ' v u)) hret hret (fun i sl h H ρ a w hp => by cases hp) _ h H ρ _ w hp (.refl q) ?_ rfl)
  have h1 := hv.1
  simp only [Array.length_toList] at h1
  rw [Array.toList_append, Array.toList_replicate, h1]
  refine hv.app ⟨by simp, fun i x v hx hv' => ?_⟩
  rw [List.getElem?_replicate] at hx hv'
  split at hx
  · rename_i hi
    rw [if_pos hi] at hv'
    cases hx; cases hv'
    exact undef_ok
  · cases hx
end
end Go.Ev

/- What goes on may be split off. Own work. -/
namespace Go.Ev
variable {El : Nat → Type}

inductive NatA {R R' : Type} (m : R' → Option R) : Act El R → Act El R' → Prop
  | bad : NatA m .bad .bad
  | val (v) : NatA m (.val v) (.val v)
  | chk (b v) : NatA m (.chk b v) (.chk b v)
  | ldc (id off n g) : NatA m (.ldc id off n g) (.ldc id off n g)
  | stc (id off vs) : NatA m (.stc id off vs) (.stc id off vs)
  | multi (ro ids n) (f : Nat → List (HE El) → (AV El → List (HE El) → Option R) → Option R) (f' : Nat → List (HE El) → (AV El → List (HE El) → Option R') → Option R')
      (hf : ∀ nb es k, f nb es (fun v es' => (k v es').bind m) = (f' nb es k).bind m) : NatA m (.multi ro ids n f) (.multi ro ids n f')

def NatF (fs : FS El) : Prop := ∀ (R R' : Type) (m : R' → Option R) (args : List (AV El)) (h : List (HE El)) (k : AV El → List (HE El) → Option R'),
  fs.run args h (fun v h' => (k v h').bind m) = (fs.run args h k).bind m

section
variable {R R' : Type} {m : R' → Option R} {C : Cx El} {h : List (HE El)} {sl : List (AV El)} {o : Oper}

theorem nat_perform {act : Act El R} {act' : Act El R'} (hn : NatA m act act') (h : List (HE El)) (nb : Nat) (k : AV El → List (HE El) → Option R') :
    perform act h nb (fun v h' => (k v h').bind m) = (perform act' h nb k).bind m := by
  cases hn with
  | bad => rfl
  | val v => rfl
  | chk b v => cases b <;> rfl
  | ldc id off n g =>
    simp only [bif_ble, bif_blt, perform]
    split
    · split <;> rfl
    · rfl
  | stc id off vs =>
    simp only [bif_ble, bif_blt, perform]
    split
    · split <;> rfl
    · rfl
  | multi ro ids n f f' hf =>
    simp only [bif_ble, bif_blt, perform]
    split
    · rw [← hf]
      congr 1
      funext v es
      cases ro
      · simp only [Bool.false_eq_true, if_false]
        split <;> rfl
      · simp only [if_true]
        split <;> rfl
    · rfl

theorem nat_new1 (e : HE El) (mk : Nat → AV El) : NatA m (new1 e mk) (new1 e mk) := .multi _ _ _ _ _ fun _ _ _ => rfl
theorem nat_ofChk (x : Option (Bool × AV El)) : NatA m (ofChk x) (ofChk x) := by cases x <;> constructor
theorem nat_ofVal (x : Option (AV El)) : NatA m (ofVal x) (ofVal x) := by cases x <;> constructor

theorem nat_appA (f : Fl) (b : Bool) (mk : Fl → AV El) : NatA m (appA f b mk) (appA f b mk) := by
  unfold appA
  generalize tokOf f = x
  cases x
  · exact .bad
  · refine .multi _ _ _ _ _ fun nb es k => ?_
    dsimp only
    split
    · cases b <;> rfl
    · rfl

theorem nat_appendA (t t2 : Nat) (a b : AV El) : NatA m (appendA C t t2 a b) (appendA C t t2 a b) := by
  unfold appendA
  generalize C.tt t = x; generalize C.tt t2 = y
  cases x <;> cases y <;> try exact .bad
  rename_i ti t2i
  generalize co C t a = a; generalize co C t2 b = b'
  dsimp only
  generalize ti.ty = ty; generalize t2i.ty = ty2
  cases ty <;> try exact .bad
  · cases a <;> try exact .bad
    cases ty2 <;> try exact .bad
    · cases b <;> try exact .bad
      exact nat_appA _ _ _
    · cases b' <;> try exact .bad
      exact nat_appA _ _ _
  · cases a <;> try exact .bad
    dsimp only
    split
    · cases ty2 <;> try exact .bad
      cases b' <;> try exact .bad
      dsimp only
      split
      · split
        · exact nat_appA _ _ _
        · exact .bad
      · exact .bad
    · exact .bad

theorem nat_callA (hF : ∀ f fs, C.fn f = some fs → NatF fs) (f : Nat) (args : List (AV El)) : NatA m (callA C h f args) (callA C h f args) := by
  unfold callA
  cases e : C.fn f with
  | none => exact .bad
  | some fs =>
    simp only [callIds]
    split
    · exact .multi _ _ _ _ _ fun nb es k => hF f fs e _ _ _ _ _ _
    · exact .bad

theorem nat_loadArr (id off : Nat) : NatA m (loadArr (El := El) id off) (loadArr id off) := by
  refine .multi _ _ _ _ _ fun nb es k => ?_
  rcases es with _ | ⟨e, _ | ⟨e2, es⟩⟩ <;> first
    | rfl
    | (cases e <;> first | rfl | (simp only [bif_ble, bif_blt]; split <;> rfl))

theorem nat_storeArr (id off : Nat) (vs : List (AV El)) : NatA m (storeArr id off vs) (storeArr id off vs) := by
  unfold storeArr
  split
  · refine .multi _ _ _ _ _ fun nb es k => ?_
    rcases es with _ | ⟨e, _ | ⟨e2, es⟩⟩ <;> first
      | rfl
      | (cases e <;> first | rfl | (simp only [bif_ble, bif_blt]; split <;> first | rfl | (split <;> rfl)))
  · exact .bad

theorem nat_loadA (h : List (HE El)) (t : Nat) (a : AV El) : NatA m (loadA C h t a) (loadA C h t a) := by
  unfold loadA
  generalize C.tt t = x
  cases x <;> try exact .bad
  cases a <;> first
    | exact .bad
    | (rename_i ti id off
       dsimp only
       cases isArr (h.getD id .free)
       · exact .ldc _ _ _ _
       · dsimp only [cond_true]
         cases Nat.beq ti.size 1 && !ti.ty.agg
         · exact .bad
         · exact nat_loadArr _ _)
    | (dsimp only; split <;> first | exact .val _ | exact .bad)
    | (rename_i ti id i
       dsimp only
       generalize ti.ty = ty
       cases ty <;> try exact .bad
       rename_i kk
       cases kk <;> try exact .bad
       refine .multi _ _ _ _ _ fun nb es k => ?_
       rcases es with _ | ⟨e, _ | ⟨e2, es⟩⟩ <;> first
         | rfl
         | (cases e <;> rfl))

theorem nat_storeA (h : List (HE El)) (t : Nat) (a v : AV El) : NatA m (storeA C h t a v) (storeA C h t a v) := by
  unfold storeA
  generalize C.tt t = x
  cases x <;> try exact .bad
  cases a <;> try exact .bad
  · dsimp only
    split
    · cases isArr _
      · exact .stc _ _ _
      · exact nat_storeArr _ _ _
    · exact .bad
  · cases v <;> try exact .bad
    rename_i kk n
    cases kk <;> try exact .bad
    dsimp only
    split
    · refine .multi _ _ _ _ _ fun nb es k => ?_
      rcases es with _ | ⟨e, _ | ⟨e2, es⟩⟩ <;> first
        | rfl
        | (cases e <;> rfl)
    · exact .bad

theorem nat_indexAddrA (t : Nat) (a i : AV El) : NatA m (indexAddrA C t a i) (indexAddrA C t a i) := by
  unfold indexAddrA
  cases i <;> try exact .bad
  generalize C.tt t = x
  cases a <;> try exact .bad
  all_goals (cases x <;> try exact .bad)
  all_goals (rename_i ti; dsimp only; generalize ti.ty = ty; cases ty <;> try exact .bad)
  all_goals (dsimp only)
  · exact .chk _ _
  · split
    · exact .chk _ _
    · exact .bad
  · rename_i c
    generalize C.tt c = y
    cases y
    · exact .bad
    · exact .chk _ _
  · refine .multi _ _ _ _ _ fun nb es k => ?_
    rcases es with _ | ⟨e, _ | ⟨e2, es⟩⟩ <;> first
      | rfl
      | (cases e <;> first | rfl | (dsimp only; generalize inl _ _ = b; cases b <;> rfl))

theorem nat_indexA (t : Nat) (a i : AV El) : NatA m (indexA C t a i) (indexA C t a i) := by
  unfold indexA
  cases i <;> try exact .bad
  generalize C.tt t = x
  cases a <;> try exact .bad
  all_goals (cases x <;> try exact .bad)
  all_goals (rename_i ti; dsimp only; generalize ti.ty = ty; cases ty <;> try exact .bad)
  all_goals (dsimp only)
  all_goals first | exact .chk _ _ | (split <;> first | exact .chk _ _ | exact .bad)

theorem nat_fieldAddrA (t : Nat) (a : AV El) (f : Nat) : NatA m (fieldAddrA C t a f) (fieldAddrA C t a f) := by
  unfold fieldAddrA
  generalize C.tt t = x
  cases x <;> try exact .bad
  rename_i ti; dsimp only; generalize ti.ty = ty; cases ty <;> try exact .bad
  rename_i fs; dsimp only
  generalize fs[f]? = y
  cases y <;> cases a <;> try exact .bad
  all_goals (dsimp only; split <;> first | exact .val _ | exact .bad)

theorem nat_fieldA (t : Nat) (a : AV El) (f : Nat) : NatA m (fieldA C t a f) (fieldA C t a f) := by
  unfold fieldA
  generalize C.tt t = x
  cases x <;> try exact .bad
  rename_i ti; dsimp only; generalize ti.ty = ty; cases ty <;> try exact .bad
  rename_i fs; dsimp only
  generalize fs[f]? = y
  cases y <;> cases a <;> try exact .bad
  all_goals (dsimp only; split <;> first | exact .val _ | exact .bad)

theorem nat_convA (s t : Nat) (x : AV El) : NatA m (convA C s t x) (convA C s t x) := by
  unfold convA
  generalize C.tt t = y
  cases y <;> try exact .bad
  rename_i ti; dsimp only
  split
  · exact .bad
  · generalize ti.ty = ty
    cases ty <;> cases x <;> try exact .bad
    all_goals first
      | exact .val _
      | (dsimp only; split <;> first | exact .val _ | exact .bad | (
           refine .multi _ _ _ _ _ fun nb es k => ?_
           rcases es with _ | ⟨e, _ | ⟨e2, es⟩⟩ <;> first
             | rfl
             | (cases e <;> first | rfl | (simp only [bif_ble, bif_blt]; split <;> rfl))))
      | (refine .multi _ _ _ _ _ fun nb es k => ?_
         simp only [bif_ble, bif_blt]; split <;> rfl)

theorem nat_buildA (t : Nat) (ps : List (Nat × AV El)) : NatA m (buildA C t ps) (buildA C t ps) := by
  unfold buildA
  generalize C.tt t = y
  cases y <;> try exact .bad
  dsimp only
  split
  · generalize fillA C _ _ ps = z
    cases z
    · exact .bad
    · exact .val _
  · exact .bad

theorem nat_buildSliceA (t n : Nat) (ps : List (Nat × AV El)) : NatA m (buildSliceA C t n ps) (buildSliceA C t n ps) := by
  unfold buildSliceA
  generalize C.tt t = y
  cases y <;> try exact .bad
  rename_i ti
  dsimp only
  split
  · exact .bad
  · generalize ti.ty = ty
    cases ty <;> try exact .bad
    · dsimp only
      split
      · generalize bytesA ps 0 = z
        cases z
        · exact .bad
        · exact .val _
      · exact .bad
    · rename_i c
      dsimp only
      split
      · generalize elemsA C c ps 0 = z
        cases z
        · dsimp only
          generalize C.tt c = u
          cases u
          · exact .bad
          · dsimp only
            generalize fillA C _ _ ps = z
            cases z
            · exact .bad
            · exact nat_new1 _ _
        · exact .val _
      · exact .bad

theorem nat_makeSliceA (t : Nat) (n l : AV El) : NatA m (makeSliceA C t n l) (makeSliceA C t n l) := by
  unfold makeSliceA
  generalize C.tt t = y
  cases y <;> try exact .bad
  rename_i ti
  dsimp only
  generalize ti.ty = ty
  cases ty <;> cases n <;> cases l <;> try exact .bad
  refine .multi _ _ _ _ _ fun nb es k => ?_
  dsimp only
  generalize inside _ _ _ _ = b
  cases b <;> rfl

theorem nat_nextA (id : Nat) : NatA m (nextA (El := El) id) (nextA id) := by
  refine .multi _ _ _ _ _ fun nb es k => ?_
  rcases es with _ | ⟨e, _ | ⟨e2, es⟩⟩ <;> first
    | rfl
    | (cases e <;> first | rfl | (simp only [bif_ble, bif_blt]; split <;> rfl))

theorem nat_findA (key zero : AV El) (kf : AV El → Bool → Option R') : ∀ l : List (AV El × AV El), findA key zero (fun v b => (kf v b).bind m) l = (findA key zero kf l).bind m
  | [] => rfl
  | (x, v) :: r => by
    simp only [findA]
    cases eq1 key x with
    | none => rfl
    | some b =>
      cases b
      · exact nat_findA key zero kf r
      · rfl

theorem nat_lookA (t : Nat) (x key : AV El) (ok : Bool) : NatA m (lookA C t x key ok) (lookA C t x key ok) := by
  unfold lookA
  generalize C.tt t = y
  cases y <;> try exact .bad
  rename_i ti; dsimp only; generalize ti.ty = ty; cases ty <;> try exact .bad
  rename_i e; dsimp only
  generalize C.tt e = z
  cases z <;> try exact .bad
  dsimp only
  cases x <;> try exact .bad
  · cases key <;> try exact .bad
    refine .multi _ _ _ _ _ fun nb es k => ?_
    rcases es with _ | ⟨e, _ | ⟨e2, es⟩⟩ <;> first
      | rfl
      | (cases e <;> first | rfl | exact nat_findA _ _ _ _)
  · cases key <;> try exact .bad
    rename_i kk n
    cases kk <;> try exact .bad
    dsimp only
    split
    · exact .val _
    · exact .bad

theorem nat_insertA (t : Nat) (x key v : AV El) : NatA m (insertA C t x key v) (insertA C t x key v) := by
  unfold insertA
  generalize C.tt t = y
  cases y <;> try exact .bad
  rename_i ti; dsimp only; generalize ti.ty = ty; cases ty <;> try exact .bad
  dsimp only
  cases x <;> try exact .bad
  cases key <;> try exact .bad
  refine .multi _ _ _ _ _ fun nb es k => ?_
  rcases es with _ | ⟨e, _ | ⟨e2, es⟩⟩ <;> first
    | rfl
    | (cases e <;> first | rfl | (dsimp only; rw [← nat_findA]; congr 1; funext v b; cases b <;> rfl))

theorem nat_exec (hF : ∀ f fs, C.fn f = some fs → NatF fs) : NatA m (execA C h sl o) (execA C h sl o) := by
  unfold execA
  cases o.op with
  | move x => exact .val _
  | assign x => exact .val _
  | pick c x y =>
    dsimp only
    generalize opd sl c = z
    cases z <;> try exact .bad
    rename_i b
    cases b <;> exact .val _
  | alloc t =>
    dsimp only
    generalize C.tt t = z
    cases z
    · exact .bad
    · exact nat_new1 _ _
  | box t x =>
    dsimp only
    generalize C.tt t = z
    cases z
    · exact .bad
    · dsimp only
      split
      · exact nat_new1 _ _
      · exact .bad
  | build t ps => exact nat_buildA _ _
  | buildSlice t n ps => exact nat_buildSliceA _ _ _
  | load t x => exact nat_loadA _ _ _
  | store t x y => exact nat_storeA _ _ _ _
  | nilCheck x =>
    dsimp only
    generalize opd sl x = z
    cases z <;> try exact .bad
    · exact .val _
    · exact .val _
    · rename_i f as bs
      cases f <;> first | exact .bad | exact .val _
  | binOp op t x y yt => exact nat_ofChk _
  | unOp op t x => exact nat_ofVal _
  | convert s d x => exact nat_convA _ _ _
  | makeFunc f x y => exact .val _
  | makeSlice t x y => exact nat_makeSliceA _ _ _
  | slice t x lo hi mx =>
    dsimp only
    generalize C.tt t = z
    cases z
    · exact .bad
    · exact nat_ofChk _
  | fieldAddr t x f => exact nat_fieldAddrA _ _ _
  | field t x f => exact nat_fieldA _ _ _
  | indexAddr t x i => exact nat_indexAddrA _ _ _
  | index t x i => exact nat_indexA _ _ _
  | range t x =>
    dsimp only
    generalize C.tt t = z
    cases z
    · exact .bad
    · rename_i ti
      dsimp only
      generalize ti.ty = ty
      cases ty <;> try exact .bad
      generalize opd sl x = z
      cases z <;> try exact .bad
      exact nat_new1 _ _
  | next it s =>
    cases s with
    | true =>
      dsimp only
      generalize opd sl it = z
      cases z <;> try exact .bad
      exact nat_nextA _
    | false => exact .bad
  | makeMap t n =>
    cases n with
    | none => exact nat_new1 _ _
    | some n => exact .bad
  | lookup t x i ok => exact nat_lookA _ _ _ _
  | insert t x i v => exact nat_insertA _ _ _ _
  | extract x i =>
    dsimp only
    generalize opd sl x = z
    cases z <;> try exact .bad
    rename_i vs
    dsimp only
    generalize vs[i]? = y
    cases y
    · exact .bad
    · exact .val _
  | call c =>
    obtain ⟨callee, args, ts⟩ := c
    dsimp only
    cases callee with
    | value f =>
      dsimp only
      generalize opd sl f = z
      cases z <;> try exact .bad
      rename_i f as bs
      cases f <;> try exact .bad
      exact nat_callA hF _ _
    | invoke x n => exact .bad
    | builtin b =>
      cases b with
      | len =>
        dsimp only
        split
        · rename_i t x _ _
          generalize C.tt t = z
          cases z
          · exact .bad
          · rename_i ti
            dsimp only
            generalize lenA ti.ty (opd sl x) = y
            cases y
            · exact .bad
            · exact .val _
        · exact .bad
      | append =>
        dsimp only
        split
        · exact nat_appendA _ _ _ _
        · exact .bad
      | min =>
        dsimp only
        split
        · exact nat_ofVal _
        · exact .bad
      | max =>
        dsimp only
        split
        · exact nat_ofVal _
        · exact .bad
      | _ => exact .bad
  | _ => exact .bad
end
end Go.Ev

/- What goes on may be split off: code, functions. Own work. -/
namespace Go.Ev
variable {El : Nat → Type}
section
variable {R R' : Type} {m : R' → Option R} {C : Cx El}

theorem nat_foot {act : Act El R} {act' : Act El R'} (hn : NatA m act act') (nb : Nat) : act.foot nb = act'.foot nb := by cases hn <;> rfl
theorem nat_news {act : Act El R} {act' : Act El R'} (hn : NatA m act act') : act.news = act'.news := by cases hn <;> rfl

theorem nat_guarded (ops : List Oper) (o : Oper) (sl : List (AV El)) (yes no : List (AV El) → Option R') :
    guarded ops o sl (fun sl => (yes sl).bind m) (fun sl => (no sl).bind m) = (guarded ops o sl yes no).bind m := by
  unfold guarded
  generalize o.guard = g
  cases g with
  | none => rfl
  | some g =>
    obtain ⟨j, want⟩ := g
    dsimp only
    generalize ops[j]? = x
    cases x with
    | none => rfl
    | some p =>
      dsimp only
      generalize p.dst = y
      cases y with
      | none => rfl
      | some d =>
        dsimp only
        generalize sl.getD d undefA = z
        cases z <;> try rfl
        · rename_i b
          cases b <;> cases want <;> rfl
        · rename_i vs
          cases vs <;> rfl

theorem nat_evOps (hF : ∀ f fs, C.fn f = some fs → NatF fs) (ops : List Oper) : ∀ (rest : List Oper) (sl : List (AV El)) (h : List (HE El)) (k : List (AV El) → List (HE El) → Option R'),
    evOps C ops rest sl h (fun sl h => (k sl h).bind m) = (evOps C ops rest sl h k).bind m
  | [], sl, h, k => rfl
  | o :: rest, sl, h, k => by
    simp only [evOps]
    rw [← nat_guarded]
    congr 1
    · funext sl
      rw [← nat_perform (nat_exec hF)]
      congr 1
      funext v h'
      exact nat_evOps hF ops rest _ _ _
    · funext sl
      exact nat_evOps hF ops rest _ _ _

theorem nat_evOpsD (hF : ∀ f fs, C.fn f = some fs → NatF fs) (ops : List Oper) : ∀ (rest : List Oper) (j nb : Nat) (log : List (Nat × Foot)) (sl : List (AV El)) (h : List (HE El)) (k : List (AV El) → List (HE El) → Option R'),
    evOpsD C ops rest j nb log sl h (fun sl h => (k sl h).bind m) = (evOpsD C ops rest j nb log sl h k).bind m
  | [], j, nb, log, sl, h, k => rfl
  | o :: rest, j, nb, log, sl, h, k => by
    simp only [evOpsD]
    rw [← nat_guarded]
    congr 1
    · funext sl
      rw [nat_foot (nat_exec (m := m) hF), nat_news (nat_exec (m := m) hF)]
      split
      · rw [← nat_perform (nat_exec hF)]
        congr 1
        funext v h'
        exact nat_evOpsD hF ops rest _ _ _ _ _ _
      · rfl
    · funext sl
      split
      · exact nat_evOpsD hF ops rest _ _ _ _ _ _
      · rfl

theorem nat_cleanAt (m0 : Nat) (hs : Nat → Option Hint) (id : Nat) (sl : List (AV El)) (h : List (HE El)) (k : List (AV El) → List (HE El) → Option R') :
    cleanAt m0 hs id sl h (fun sl h => (k sl h).bind m) = (cleanAt m0 hs id sl h k).bind m := by
  unfold cleanAt
  generalize hs id = x
  cases x with
  | none => rfl
  | some t =>
    dsimp only
    unfold clean
    dsimp only
    generalize (if t.blocks = true then freshH (freshS t.mask sl h).2.length 0 (freshS t.mask sl h).2 else (freshS t.mask sl h).2) = h2
    split <;> rfl

def NatL (L : LP El) : Prop := ∀ (R R' : Type) (m : R' → Option R) (kR : List (AV El) → List (HE El) → Option R') (kE : Nat → List (AV El) → List (HE El) → Option R') (sl : List (AV El)) (h : List (HE El)),
  L.run (fun sl h => (kR sl h).bind m) (fun i sl h => (kE i sl h).bind m) sl h = (L.run kR kE sl h).bind m

theorem nat_evC (hF : ∀ f fs, C.fn f = some fs → NatF fs) (m0 : Nat) (hs : Nat → Option Hint) (lp : Nat → Option (LP El)) (hl : ∀ i L, lp i = some L → NatL L) (fuel : Nat) (c : Code) : ∀ (kN kR : List (AV El) → List (HE El) → Option R') (kE : Nat → List (AV El) → List (HE El) → Option R') (sl : List (AV El)) (h : List (HE El)),
    evC C m0 hs lp fuel c (fun sl h => (kN sl h).bind m) (fun sl h => (kR sl h).bind m) (fun i sl h => (kE i sl h).bind m) sl h = (evC C m0 hs lp fuel c kN kR kE sl h).bind m := by
  induction c with
  | skip => intros; rfl
  | region id ops draw =>
    intro kN kR kE sl h
    simp only [evC]
    simp only [nat_cleanAt]
    cases draw with
    | true =>
      simp only [if_true]
      split
      · exact nat_evOpsD hF _ _ _ _ _ _ _ _
      · rfl
    | false => exact nat_evOps hF _ _ _ _ _
  | seq x y ihx ihy =>
    intro kN kR kE sl h
    simp only [evC]
    rw [← ihx]
    congr 1
    funext sl h
    exact ihy _ _ _ _ _
  | cond c x y ihx ihy =>
    intro kN kR kE sl h
    simp only [evC]
    generalize opd sl c = z
    cases z <;> try rfl
    rename_i b
    cases b
    · exact ihy _ _ _ _ _
    · exact ihx _ _ _ _ _
  | block id body ih =>
    intro kN kR kE sl h
    simp only [evC]
    rw [← ih]
    congr 1
    funext i sl h
    split <;> rfl
  | loop body ih =>
    intro kN kR kE sl h
    simp only [evC]
    have : ∀ n sl h, rounds (fun k sl h => evC C m0 hs lp fuel body (fun sl h => cleanAt m0 hs (firstId body + 1000000) sl h k) (fun sl h => (kR sl h).bind m) (fun i sl h => (kE i sl h).bind m) sl h) n sl h = (rounds (fun k sl h => evC C m0 hs lp fuel body (fun sl h => cleanAt m0 hs (firstId body + 1000000) sl h k) kR kE sl h) n sl h).bind m := by
      intro n
      induction n with
      | zero => intros; rfl
      | succ n ihn =>
        intro sl h
        simp only [rounds]
        rw [← ih]
        congr 1
        funext sl h
        rw [← nat_cleanAt]
        congr 1
        funext sl h
        exact ihn sl h
    rw [← nat_cleanAt]
    congr 1
    funext sl h
    split
    · rename_i L hL
      exact hl _ L hL _ _ _ _ _ _ _
    · exact this _ _ _
  | exit id => intros; rfl
  | ret => intros; rfl
  | scope body ih =>
    intro kN kR kE sl h
    simp only [evC]
    exact ih _ _ _ _ _
  | _ => intros; rfl

theorem nat_fin (L : Leave) (m0 : Nat) (v : AV El) (h : List (HE El)) (k : AV El → List (HE El) → Option R') : fin L m0 v h (fun v h => (k v h).bind m) = (fin L m0 v h k).bind m := by
  unfold fin
  dsimp only
  generalize (if L.rooms = true then fresh1 v h else (v.lowD, h)) = p
  generalize (if L.blocks = true then freshH p.2.length 0 p.2 else p.2) = h2
  split <;> rfl
end

theorem nat_evF {C : Cx El} (hF : ∀ f fs, C.fn f = some fs → NatF fs) (hs : Nat → Option Hint) (lp : Nat → Option (LP El)) (hl : ∀ i L, lp i = some L → NatL L) (L : Leave) (fuel n : Nat) (rs : List ResultVar) (c : Code) : NatF ⟨L.news, fun {R} args h k => evF (R := R) C hs lp L fuel n rs c args h k⟩ := by
  intro R R' m args h k
  simp only [evF]
  rw [← nat_evC hF _ _ _ hl]
  congr 1
  · funext sl h'
    generalize resA C sl h' rs = x
    cases x
    · rfl
    · exact nat_fin _ _ _ _ _
  · funext sl h'
    generalize resA C sl h' rs = x
    cases x
    · rfl
    · exact nat_fin _ _ _ _ _
end Go.Ev

/- What an action reads and writes. Own work. -/
namespace Go.Ev
variable {El : Nat → Type}

inductive Wr (El : Nat → Type) where
  | ent (e : HE El)
  | cells (off : Nat) (vs : List (AV El))

def apply1 (h : List (HE El)) (u : Nat × Wr El) : List (HE El) :=
  match u.2 with
  | .ent e => h.set u.1 e
  | .cells off vs => match h[u.1]? with
    | some (.blk cs) => if off + vs.length ≤ cs.length then h.set u.1 (.blk (setL cs off vs)) else h
    | _ => h

def Wr.ft (u : Nat × Wr El) : Nat × Option (Nat × Nat) × Bool :=
  match u.2 with
  | .ent _ => (u.1, none, true)
  | .cells off vs => (u.1, some (off, vs.length), true)

def applyU (us : List (Nat × Wr El)) (h : List (HE El)) : List (HE El) := us.foldl apply1 h

def AgreeAt (p : Nat × Option (Nat × Nat) × Bool) (h g : List (HE El)) : Prop :=
  h[p.1]? = g[p.1]? ∨ ∃ a n cs cs', p.2.1 = some (a, n) ∧ h[p.1]? = some (.blk cs) ∧ g[p.1]? = some (.blk cs') ∧ cs.length = cs'.length ∧ ∀ i, a ≤ i → i < a + n → cs[i]? = cs'[i]?

def Agree (F : Foot) (h g : List (HE El)) : Prop := ∀ p ∈ F, AgreeAt p h g

theorem Agree.refl (F : Foot) (h : List (HE El)) : Agree F h h := fun _ _ => .inl rfl
theorem Agree.symm {F : Foot} {h g : List (HE El)} (x : Agree F h g) : Agree F g h := by
  intro p hp
  rcases x p hp with e | ⟨a, n, cs, cs', h1, h2, h3, h4, h5⟩
  · exact .inl e.symm
  · exact .inr ⟨a, n, cs', cs, h1, h3, h2, h4.symm, fun i h6 h7 => (h5 i h6 h7).symm⟩

theorem AgreeAt.trans {p : Nat × Option (Nat × Nat) × Bool} {h g f : List (HE El)} (x : AgreeAt p h g) (y : AgreeAt p g f) : AgreeAt p h f := by
  rcases x with e | ⟨a, n, cs, cs', h1, h2, h3, h4, h5⟩
  · rcases y with e' | ⟨a, n, cs, cs', h1, h2, h3, h4, h5⟩
    · exact .inl (e.trans e')
    · exact .inr ⟨a, n, cs, cs', h1, e.trans h2, h3, h4, h5⟩
  · rcases y with e' | ⟨a', n', ds, ds', k1, k2, k3, k4, k5⟩
    · exact .inr ⟨a, n, cs, cs', h1, h2, e'.symm.trans h3, h4, h5⟩
    · rw [h1] at k1
      cases k1
      rw [h3] at k2
      cases k2
      exact .inr ⟨a, n, cs, ds', h1, h2, k3, h4.trans k4, fun i h6 h7 => (h5 i h6 h7).trans (k5 i h6 h7)⟩

theorem Agree.trans {F : Foot} {h g f : List (HE El)} (x : Agree F h g) (y : Agree F g f) : Agree F h f := fun p hp => (x p hp).trans (y p hp)

theorem length_apply1 (h : List (HE El)) (u : Nat × Wr El) : (apply1 h u).length = h.length := by
  unfold apply1
  split
  · simp
  · split
    · split <;> simp
    · rfl

theorem length_applyU : ∀ (us : List (Nat × Wr El)) (h : List (HE El)), (applyU us h).length = h.length
  | [], _ => rfl
  | u :: us, h => by
    have := length_applyU us (apply1 h u)
    simp only [applyU, List.foldl_cons] at this ⊢
    rw [this, length_apply1]

theorem apply1_other (h : List (HE El)) (u : Nat × Wr El) {i : Nat} (hi : u.1 ≠ i) : (apply1 h u)[i]? = h[i]? := by
  unfold apply1
  split
  · rw [List.getElem?_set_ne hi]
  · split
    · split
      · rw [List.getElem?_set_ne hi]
      · rfl
    · rfl

theorem lt_of_some {α : Type} {l : List α} {i : Nat} {x : α} (h : l[i]? = some x) : i < l.length := (List.getElem?_eq_some_iff.1 h).1

theorem apply1_agree {h : List (HE El)} {u : Nat × Wr El} {p : Nat × Option (Nat × Nat) × Bool} (hc : clash1 (Wr.ft u) p = false) : AgreeAt p h (apply1 h u) := by
  by_cases hi : u.1 = p.1
  · obtain ⟨id, wr⟩ := u
    obtain ⟨pid, rng, wb⟩ := p
    simp only at hi
    subst hi
    cases wr with
    | ent e => simp [clash1, Wr.ft, meets] at hc
    | cells off vs =>
      cases rng with
      | none => simp [clash1, Wr.ft, meets] at hc
      | some an =>
        obtain ⟨a, n⟩ := an
        have hc' : ¬ (off < a + n ∧ a < off + vs.length) := by
          intro hx
          simp [clash1, Wr.ft, meets, hx.1, hx.2] at hc
        unfold apply1
        simp only
        split
        · rename_i cs e
          split
          · rename_i hl
            refine .inr ⟨a, n, cs, setL cs off vs, rfl, e, ?_, (length_setL _ _ _).symm, fun i h1 h2 => ?_⟩
            · rw [List.getElem?_set_self (lt_of_some e)]
            · rw [getElem?_setL _ _ _ _ hl, if_neg (by omega)]
          · exact .inl rfl
        · exact .inl rfl
  · exact .inl (apply1_other h u hi).symm

theorem applyU_agree {F : Foot} : ∀ (us : List (Nat × Wr El)) (h : List (HE El)), (∀ u ∈ us, ∀ p ∈ F, clash1 (Wr.ft u) p = false) → Agree F h (applyU us h)
  | [], h, _ => .refl _ _
  | u :: us, h, hc => by
    have h1 : Agree F h (apply1 h u) := fun p hp => apply1_agree (hc u (by simp) p hp)
    exact h1.trans (applyU_agree us (apply1 h u) fun x hx => hc x (by simp [hx]))

theorem set_comm' {α : Type} (l : List α) {i j : Nat} (x y : α) (h : i ≠ j) : (l.set i x).set j y = (l.set j y).set i x := List.set_comm x y h

theorem setL_comm {cs : List (AV El)} {o1 o2 : Nat} {v1 v2 : List (AV El)} (h1 : o1 + v1.length ≤ cs.length) (h2 : o2 + v2.length ≤ cs.length) (hc : ¬ (o1 < o2 + v2.length ∧ o2 < o1 + v1.length)) :
    setL (setL cs o1 v1) o2 v2 = setL (setL cs o2 v2) o1 v1 := by
  apply List.ext_getElem?
  intro i
  rw [getElem?_setL _ _ _ _ (by rw [length_setL]; exact h2), getElem?_setL _ _ _ _ h1, getElem?_setL _ _ _ _ (by rw [length_setL]; exact h1), getElem?_setL _ _ _ _ h2]
  by_cases a : o2 ≤ i ∧ i < o2 + v2.length
  · rw [if_pos a, if_neg (by omega), if_pos a]
  · by_cases b : o1 ≤ i ∧ i < o1 + v1.length
    · rw [if_neg a, if_pos b, if_pos b]
    · rw [if_neg a, if_neg b, if_neg b, if_neg a]

theorem apply1_comm (h : List (HE El)) {u v : Nat × Wr El} (hc : clash1 (Wr.ft u) (Wr.ft v) = false) : apply1 (apply1 h u) v = apply1 (apply1 h v) u := by
  obtain ⟨i, x⟩ := u
  obtain ⟨j, y⟩ := v
  by_cases hij : i = j
  · subst hij
    cases x with
    | ent e => cases y <;> simp [clash1, Wr.ft, meets] at hc
    | cells o1 v1 =>
      cases y with
      | ent e => simp [clash1, Wr.ft, meets] at hc
      | cells o2 v2 =>
        have hc' : ¬ (o1 < o2 + v2.length ∧ o2 < o1 + v1.length) := by
          intro hx
          simp [clash1, Wr.ft, meets, hx.1, hx.2] at hc
        simp only [apply1]
        cases e : h[i]? with
        | none => simp [e]
        | some z =>
          have hl := lt_of_some e
          cases z <;> try simp [e]
          rename_i cs
          obtain ⟨hl', e'⟩ := List.getElem?_eq_some_iff.1 e
          by_cases a1 : o1 + v1.length ≤ cs.length <;> by_cases a2 : o2 + v2.length ≤ cs.length <;> simp [a1, a2, e', hl, length_setL]
          rw [setL_comm a1 a2 hc']
  · have hj : ∀ (g : List (HE El)) (u : Nat × Wr El), u.1 ≠ j → (apply1 g u)[j]? = g[j]? := fun g u hu => apply1_other g u hu
    cases x with
    | ent e =>
      cases y with
      | ent e' => exact List.set_comm _ _ hij
      | cells o2 v2 =>
        simp only [apply1, List.getElem?_set_ne hij]
        split
        · split
          · exact List.set_comm _ _ hij
          · rfl
        · rfl
    | cells o1 v1 =>
      cases y with
      | ent e' =>
        simp only [apply1, List.getElem?_set_ne (Ne.symm hij)]
        split
        · split
          · exact List.set_comm _ _ hij
          · rfl
        · rfl
      | cells o2 v2 =>
        have h1 : (apply1 h (i, .cells o1 v1))[j]? = h[j]? := apply1_other h _ hij
        have h2 : (apply1 h (j, .cells o2 v2))[i]? = h[i]? := apply1_other h _ (Ne.symm hij)
        have e1 : apply1 (apply1 h (i, .cells o1 v1)) (j, .cells o2 v2) = match h[j]? with
          | some (.blk cs) => if o2 + v2.length ≤ cs.length then (apply1 h (i, .cells o1 v1)).set j (.blk (setL cs o2 v2)) else apply1 h (i, .cells o1 v1)
          | _ => apply1 h (i, .cells o1 v1) := by
          rw [← h1]; rfl
        have e2 : apply1 (apply1 h (j, .cells o2 v2)) (i, .cells o1 v1) = match h[i]? with
          | some (.blk cs) => if o1 + v1.length ≤ cs.length then (apply1 h (j, .cells o2 v2)).set i (.blk (setL cs o1 v1)) else apply1 h (j, .cells o2 v2)
          | _ => apply1 h (j, .cells o2 v2) := by
          rw [← h2]; rfl
        rw [e1, e2]
        simp only [apply1]
        cases h[i]? with
        | none => rfl
        | some z =>
          cases h[j]? with
          | none => cases z <;> rfl
          | some z' =>
            cases z <;> cases z' <;> try rfl
            rename_i cs cs'
            by_cases a1 : o1 + v1.length ≤ cs.length <;> by_cases a2 : o2 + v2.length ≤ cs'.length <;> simp [a1, a2]
            exact List.set_comm _ _ hij

theorem applyU_1 (v : Nat × Wr El) : ∀ (us : List (Nat × Wr El)) (h : List (HE El)), (∀ u ∈ us, clash1 (Wr.ft u) (Wr.ft v) = false) → apply1 (applyU us h) v = applyU us (apply1 h v)
  | [], h, _ => rfl
  | u :: us, h, hc => by
    simp only [applyU, List.foldl_cons]
    have := applyU_1 v us (apply1 h u) fun x hx => hc x (by simp [hx])
    simp only [applyU] at this
    rw [this, apply1_comm h (hc u (by simp))]

theorem applyU_comm (us : List (Nat × Wr El)) : ∀ (vs : List (Nat × Wr El)) (h : List (HE El)), (∀ u ∈ us, ∀ v ∈ vs, clash1 (Wr.ft u) (Wr.ft v) = false) → applyU vs (applyU us h) = applyU us (applyU vs h)
  | [], h, _ => rfl
  | v :: vs, h, hc => by
    have h1 := applyU_1 v us h fun u hu => hc u hu v (by simp)
    have h2 := applyU_comm us vs (apply1 h v) fun u hu x hx => hc u hu x (by simp [hx])
    show applyU vs (apply1 (applyU us h) v) = applyU us (applyU vs (apply1 h v))
    rw [h1, h2]

/-! An action's reads and writes -/
theorem putAt_applyU : ∀ (ids : List Nat) (es h : List (HE El)), putAt h ids es = applyU ((ids.zip es).map fun p => (p.1, .ent p.2)) h
  | [], es, h => by cases es <;> rfl
  | i :: ids, [], h => rfl
  | i :: ids, e :: es, h => by
    simp only [putAt, List.zip_cons_cons, List.map_cons, applyU, List.foldl_cons]
    exact putAt_applyU ids es (h.set i e)

theorem newAt_applyU : ∀ (es h : List (HE El)) (nb : Nat), nb + es.length ≤ h.length → newAt h nb es = applyU (((List.range' nb es.length).zip es).map fun p => (p.1, .ent p.2)) h
  | [], h, nb, _ => rfl
  | e :: es, h, nb, hl => by
    simp only [List.length_cons] at hl
    simp only [newAt, List.length_cons, List.range'_succ, List.zip_cons_cons, List.map_cons, applyU, List.foldl_cons]
    rw [if_pos (by omega)]
    exact newAt_applyU es (h.set nb e) (nb + 1) (by simp; omega)

theorem applyU_append (us vs : List (Nat × Wr El)) (h : List (HE El)) : applyU (us ++ vs) h = applyU vs (applyU us h) := by simp [applyU]

theorem isFree_agree {h g : List (HE El)} : ∀ (n nb : Nat), (∀ i, nb ≤ i → i < nb + n → h[i]? = g[i]?) → isFree g nb n = isFree h nb n
  | 0, _, _ => rfl
  | n + 1, nb, hh => by
    simp only [isFree, List.getD_eq_getElem?_getD, hh nb (Nat.le_refl _) (by omega)]
    rw [isFree_agree n (nb + 1) fun i h1 h2 => hh i (by omega) (by omega)]

abbrev R0 (El : Nat → Type) := AV El × List (HE El)
def some0 (v : AV El) (h : List (HE El)) : Option (R0 El) := some (v, h)

theorem perform_local {a : Act El (R0 El)} (hn : ∀ m : R0 El → Option (R0 El), NatA m a a) {h : List (HE El)} {nb : Nat} {v : AV El} {h' : List (HE El)} (hp : perform a h nb some0 = some (v, h')) (hl : nb + a.news ≤ h.length) :
    ∃ us : List (Nat × Wr El), (∀ u ∈ us, Wr.ft u ∈ a.foot nb) ∧ ∀ g, g.length = h.length → Agree (a.foot nb) h g → perform a g nb some0 = some (v, applyU us g) := by
  cases a with
  | bad => cases hp
  | val x =>
    simp only [bif_ble, bif_blt, perform, some0, Option.some.injEq, Prod.mk.injEq] at hp
    exact ⟨[], by simp, fun g _ _ => by simp [perform, some0, hp.1, applyU]⟩
  | chk b x =>
    cases b
    · cases hp
    · simp only [bif_ble, bif_blt, perform, some0, cond_true, Option.some.injEq, Prod.mk.injEq] at hp
      exact ⟨[], by simp, fun g _ _ => by simp [perform, some0, hp.1, applyU]⟩
  | ldc id off n ag =>
    simp only [bif_ble, bif_blt, perform] at hp
    split at hp
    · rename_i cs e
      split at hp
      · rename_i hle
        simp only [some0, Option.some.injEq, Prod.mk.injEq, partX_eq hle] at hp
        refine ⟨[], by simp, fun g hg ha => ?_⟩
        have he : h[id]? = some (.blk cs) := by
          rw [List.getD_eq_getElem?_getD] at e
          cases e' : h[id]? with
          | none => rw [e'] at e; cases e
          | some x => rw [e'] at e; simp only [Option.getD_some] at e; rw [e]
        have := ha (id, some (off, if n = 0 then 1 else n), false) (by simp [Act.foot])
        have hcs : ∃ cs', g[id]? = some (.blk cs') ∧ cs'.length = cs.length ∧ part cs' off n ag = part cs off n ag := by
          rcases this with e1 | ⟨a', n', ds, ds', k1, k2, k3, k4, k5⟩
          · exact ⟨cs, e1 ▸ he, rfl, rfl⟩
          · simp only [Option.some.injEq, Prod.mk.injEq] at k1
            obtain ⟨rfl, rfl⟩ := k1
            simp only at k2 k3
            rw [he] at k2
            cases k2
            refine ⟨ds', k3, k4.symm, ?_⟩
            unfold part
            split
            · congr 1
              apply List.ext_getElem?
              intro i
              rw [List.getElem?_take, List.getElem?_take]
              split
              · rename_i hi
                rw [List.getElem?_drop, List.getElem?_drop]
                refine (k5 (off + i) (by omega) ?_).symm
                split <;> omega
              · rfl
            · rw [List.getD_eq_getElem?_getD, List.getD_eq_getElem?_getD, k5 off (by omega) (by split <;> omega)]
        obtain ⟨cs', k1, k2, k3⟩ := hcs
        have e2 : g.getD id .free = .blk cs' := by rw [List.getD_eq_getElem?_getD, k1]; rfl
        simp only [bif_ble, bif_blt, perform, e2]
        rw [if_pos (by omega), partX_eq (by omega), k3, hp.1]
        rfl
      · cases hp
    · cases hp
  | stc id off vs =>
    simp only [bif_ble, bif_blt, perform] at hp
    split at hp
    · rename_i cs e
      split at hp
      · rename_i hle
        simp only [some0, Option.some.injEq, Prod.mk.injEq] at hp
        refine ⟨[(id, .cells off vs)], by simp [Act.foot, Wr.ft], fun g hg ha => ?_⟩
        have he : h[id]? = some (.blk cs) := by
          rw [List.getD_eq_getElem?_getD] at e
          cases e' : h[id]? with
          | none => rw [e'] at e; cases e
          | some x => rw [e'] at e; simp only [Option.getD_some] at e; rw [e]
        have := ha (id, some (off, vs.length), true) (by simp [Act.foot])
        have hcs : ∃ cs', g[id]? = some (.blk cs') ∧ cs'.length = cs.length := by
          rcases this with e1 | ⟨a', n', ds, ds', k1, k2, k3, k4, k5⟩
          · exact ⟨cs, e1 ▸ he, rfl⟩
          · simp only at k2 k3
            rw [he] at k2
            cases k2
            exact ⟨ds', k3, k4.symm⟩
        obtain ⟨cs', k1, k2⟩ := hcs
        have e2 : g.getD id .free = .blk cs' := by rw [List.getD_eq_getElem?_getD, k1]; rfl
        simp only [bif_ble, bif_blt, perform, e2]
        rw [if_pos (by omega)]
        simp only [applyU, List.foldl_cons, List.foldl_nil, apply1, k1]
        rw [if_pos (by omega)]
        simp only [some0, hp.1]
      · cases hp
    · cases hp
  | multi ro ids n f =>
    have hf : ∀ (m : R0 El → Option (R0 El)) nb es k, f nb es (fun v es' => (k v es').bind m) = (f nb es k).bind m := by
      intro m
      have := hn m
      cases this with
      | multi _ _ _ _ _ hf => exact hf
    simp only [Act.news] at hl
    simp only [bif_ble, bif_blt, perform] at hp
    split at hp
    · rename_i hfree
      have h1 : ∀ g : List (HE El), (f nb (ids.map fun i => h.getD i .free) fun v es => if ro = true then (if n = 0 then some0 v g else none) else if es.length = ids.length + n then some0 v (newAt (putAt g ids es) nb (es.drop ids.length)) else none) =
          (f nb (ids.map fun i => h.getD i .free) some0).bind fun p => if ro = true then (if n = 0 then some0 p.1 g else none) else if p.2.length = ids.length + n then some0 p.1 (newAt (putAt g ids p.2) nb (p.2.drop ids.length)) else none := fun g => by
        rw [← hf]
        rfl
      rw [h1] at hp
      obtain ⟨⟨x, es⟩, e1, e2⟩ := Option.bind_eq_some_iff.1 hp
      dsimp only at e2
      have hg : ∀ g : List (HE El), Agree ((ids.map fun i => (i, none, !ro)) ++ (List.range' nb n).map fun i => (i, none, true)) h g → isFree g nb n = true ∧ (ids.map fun i => g.getD i .free) = ids.map fun i => h.getD i .free := by
        intro g ha
        have hat : ∀ i b, (i, none, b) ∈ ((ids.map fun i => (i, (none : Option (Nat × Nat)), !ro)) ++ (List.range' nb n).map fun i => (i, none, true)) → h[i]? = g[i]? := by
          intro i b hm
          rcases ha _ hm with e | ⟨a', n', ds, ds', k1, _⟩
          · exact e
          · cases k1
        refine ⟨?_, List.map_congr_left fun i hi => ?_⟩
        · rw [isFree_agree n nb fun i h2 h3 => hat i true (List.mem_append_right _ (List.mem_map.2 ⟨i, List.mem_range'_1.2 ⟨h2, h3⟩, rfl⟩))]
          exact hfree
        · rw [List.getD_eq_getElem?_getD, List.getD_eq_getElem?_getD, hat i (!ro) (List.mem_append_left _ (List.mem_map.2 ⟨i, hi, rfl⟩))]
      cases ro with
      | true =>
        simp only [if_true] at e2
        split at e2
        · rename_i hn0
          simp only [some0, Option.some.injEq, Prod.mk.injEq] at e2
          refine ⟨[], by simp, fun g hgl ha => ?_⟩
          obtain ⟨g1, g2⟩ := hg g ha
          unfold perform
          dsimp only
          rw [if_pos g1, g2, h1, e1]
          simp [some0, e2.1, applyU, hn0]
        · cases e2
      | false =>
        simp only [Bool.false_eq_true, if_false] at e2
        split at e2
        · rename_i hle
          simp only [some0, Option.some.injEq, Prod.mk.injEq] at e2
          refine ⟨((ids.zip es).map fun p => (p.1, .ent p.2)) ++ (((List.range' nb n).zip (es.drop ids.length)).map fun p => (p.1, .ent p.2)), fun u hu => ?_, fun g hgl ha => ?_⟩
          · simp only [Act.foot, Bool.not_false]
            rcases List.mem_append.1 hu with hu | hu
            · obtain ⟨⟨i, e⟩, hm, rfl⟩ := List.mem_map.1 hu
              exact List.mem_append_left _ (List.mem_map.2 ⟨i, (List.of_mem_zip hm).1, rfl⟩)
            · obtain ⟨⟨i, e⟩, hm, rfl⟩ := List.mem_map.1 hu
              exact List.mem_append_right _ (List.mem_map.2 ⟨i, (List.of_mem_zip hm).1, rfl⟩)
          · obtain ⟨g1, g2⟩ := hg g ha
            unfold perform
            dsimp only
            rw [if_pos g1, g2, h1, e1]
            have hd : (es.drop ids.length).length = n := by rw [List.length_drop]; omega
            have hnew := newAt_applyU (es.drop ids.length) (putAt g ids es) nb (by rw [hd, length_putAt]; omega)
            rw [hd, putAt_applyU] at hnew
            simp only [Option.bind_some, Bool.false_eq_true, if_false, if_pos hle, some0]
            rw [applyU_append, e2.1, putAt_applyU, hnew]
        · cases e2
    · cases hp
end Go.Ev

/- What an operation's action looks at. Own work. -/
namespace Go.Ev
variable {El : Nat → Type}
section
variable {R : Type} {C : Cx El} {h g : List (HE El)} {sl sl' : List (AV El)} {o : Oper}

theorem reach_done {h : List (HE El)} : ∀ (n : Nat) (todo done : List Nat) (i : Nat), i ∈ done → i ∈ reach h n todo done
  | 0, _, done, i, hi => by simpa [reach] using hi
  | _ + 1, [], done, i, hi => by simpa [reach] using hi
  | n + 1, x :: todo, done, i, hi => by
    simp only [reach]
    split
    · exact reach_done n todo done i hi
    · exact reach_done n _ _ i (List.mem_cons_of_mem _ hi)

theorem reach_agree {h g : List (HE El)} : ∀ (n : Nat) (todo done : List Nat), (∀ i ∈ reach h n todo done, h[i]? = g[i]?) → reach g n todo done = reach h n todo done
  | 0, _, done, _ => rfl
  | _ + 1, [], done, _ => rfl
  | n + 1, x :: todo, done, ha => by
    simp only [reach] at ha ⊢
    split
    · rename_i hx
      rw [if_pos hx] at ha
      exact reach_agree n todo done ha
    · rename_i hx
      rw [if_neg hx] at ha
      have hxe := ha x (reach_done _ _ _ _ (by simp))
      have : g.getD x .free = h.getD x .free := by rw [List.getD_eq_getElem?_getD, List.getD_eq_getElem?_getD, hxe]
      rw [this]
      exact reach_agree n _ _ ha

theorem thereB_agree : ∀ (ids : List Nat), (∀ i ∈ ids, h[i]? = g[i]?) → thereB g ids = thereB h ids
  | [], _ => rfl
  | i :: ids, ha => by
    simp only [thereB, ha i (by simp), thereB_agree ids fun j hj => ha j (by simp [hj])]

theorem callA_agree {f : Nat} {args : List (AV El)} (hne : callA (R := R) C h f args ≠ .bad) {nb : Nat} (ha : Agree ((callA (R := R) C h f args).foot nb) h g) : callA (R := R) C g f args = callA C h f args := by
  unfold callA at *
  cases e : C.fn f with
  | none => rfl
  | some fs =>
    rw [e] at hne ha
    simp only [callIds] at *
    split at hne
    · rename_i hc
      rw [if_pos hc] at ha
      have hat : ∀ i ∈ reach h 64 (idsL (lowL args)) [], h[i]? = g[i]? := by
        intro i hi
        have := ha (i, none, true) (by simp only [Act.foot]; exact List.mem_append_left _ (List.mem_map.2 ⟨i, hi, rfl⟩))
        rcases this with e | ⟨_, _, _, _, k1, _⟩
        · exact e
        · cases k1
      rw [reach_agree _ _ _ hat, thereB_agree _ hat]
    · exact absurd rfl hne

theorem isArr_agree {F : Foot} (ha : Agree F h g) {id : Nat} {x : Option (Nat × Nat) × Bool} (hm : (id, x) ∈ F) : isArr (g.getD id .free) = isArr (h.getD id .free) := by
  rcases ha _ hm with e | ⟨_, _, cs, cs', _, h2, h3, _⟩
  · rw [List.getD_eq_getElem?_getD, List.getD_eq_getElem?_getD, e]
  · simp only at h2 h3
    rw [List.getD_eq_getElem?_getD, List.getD_eq_getElem?_getD, h2, h3]
    rfl

theorem loadA_agree {t : Nat} {a : AV El} {nb : Nat} (hne : loadA (R := R) C h t a ≠ .bad) (ha : Agree ((loadA (R := R) C h t a).foot nb) h g) : loadA (R := R) C g t a = loadA C h t a := by
  unfold loadA at *
  cases e : C.tt t with
  | none => rfl
  | some ti =>
    rw [e] at hne ha
    cases a <;> try rfl
    rename_i id off
    dsimp only at hne ha ⊢
    cases hi : isArr (h.getD id .free) with
    | false =>
      rw [hi] at ha
      rw [isArr_agree ha (id := id) (x := _) (by simp only [cond_false, Act.foot]; exact List.mem_singleton.2 rfl), hi]
    | true =>
      rw [hi] at ha hne
      simp only [cond_true] at ha hne
      cases hb : Nat.beq ti.size 1 && !ti.ty.agg with
      | false => rw [hb] at hne; exact absurd rfl hne
      | true =>
        rw [hb] at ha
        rw [isArr_agree ha (id := id) (x := (none, false)) (by simp [loadArr, Act.foot]), hi]

theorem storeA_agree {t : Nat} {a v : AV El} {nb : Nat} (hne : storeA (R := R) C h t a v ≠ .bad) (ha : Agree ((storeA (R := R) C h t a v).foot nb) h g) : storeA (R := R) C g t a v = storeA C h t a v := by
  unfold storeA at *
  cases e : C.tt t with
  | none => rfl
  | some ti =>
    rw [e] at hne ha
    cases a <;> try rfl
    rename_i id off
    dsimp only at hne ha ⊢
    split
    · rename_i hc
      rw [if_pos hc] at hne ha
      cases hi : isArr (h.getD id .free) with
      | false =>
        rw [hi] at ha
        rw [isArr_agree ha (id := id) (x := _) (by simp only [cond_false, Act.foot]; exact List.mem_singleton.2 rfl), hi]
      | true =>
        rw [hi] at ha hne
        simp only [cond_true] at ha hne
        have hm : (id, (none : Option (Nat × Nat)), true) ∈ (storeArr (R := R) id off (co C t v).cells).foot nb := by
          unfold storeArr at hne ⊢
          split at hne
          · simp [Act.foot]
          · exact absurd rfl hne
        rw [isArr_agree ha hm, hi]
    · rfl

theorem exec_agree {nb : Nat} (hne : execA (R := R) C h sl o ≠ .bad) (ha : Agree ((execA (R := R) C h sl o).foot nb) h g) : execA (R := R) C g sl o = execA C h sl o := by
  unfold execA at *
  cases ho : o.op with
  | call c =>
    obtain ⟨callee, args, ts⟩ := c
    rw [ho] at hne ha
    cases callee with
    | value f =>
      dsimp only at hne ha ⊢
      cases e : opd sl f with
      | fn f' as bs =>
        rw [e] at hne ha
        cases f' with
        | func g' => exact callA_agree hne ha
        | _ => rfl
      | _ => rfl
    | invoke x n => rfl
    | builtin b => cases b <;> rfl
  | load t x => rw [ho] at hne ha; exact loadA_agree hne ha
  | store t x y => rw [ho] at hne ha; exact storeA_agree hne ha
  | makeMap t n => cases n <;> rfl
  | next x s => cases s <;> rfl
  | _ => rfl

theorem exec_congr (hx : ∀ x ∈ o.op.operands, opd sl x = opd sl' x) : execA (R := R) C h sl o = execA C h sl' o := by
  have pairs : ∀ ps : Array (Nat × Operand), (∀ x ∈ ps.toList.map (·.2), opd sl x = opd sl' x) → (ps.toList.map fun p => (p.1, opd sl p.2)) = (ps.toList.map fun p => (p.1, opd sl' p.2)) := fun ps hp =>
    List.map_congr_left fun p hm => by rw [hp p.2 (List.mem_map.2 ⟨p, hm, rfl⟩)]
  unfold execA
  cases ho : o.op with
  | build t ps =>
    rw [ho] at hx
    dsimp only
    rw [pairs ps fun x hm => hx x (by simpa [Op.operands] using hm)]
  | buildSlice t n ps =>
    rw [ho] at hx
    dsimp only
    rw [pairs ps fun x hm => hx x (by simpa [Op.operands] using hm)]
  | makeFunc f as bs =>
    rw [ho] at hx
    dsimp only
    rw [List.map_congr_left (l := as.toList) fun x hm => hx x (by simp [Op.operands]; exact .inl (by simpa using hm)), List.map_congr_left (l := bs.toList) fun x hm => hx x (by simp [Op.operands]; exact .inr (by simpa using hm))]
  | call c =>
    obtain ⟨callee, args, ts⟩ := c
    rw [ho] at hx
    have hargs : args.toList.map (opd sl) = args.toList.map (opd sl') := List.map_congr_left fun x hm => hx x (by simp [Op.operands, Call.operands]; exact .inr (by simpa using hm))
    have harg : ∀ x ∈ args.toList, opd sl x = opd sl' x := fun x hm => hx x (by simp [Op.operands, Call.operands]; exact .inr (by simpa using hm))
    cases callee with
    | value f =>
      dsimp only
      rw [hx f (by simp [Op.operands, Call.operands]), hargs]
    | invoke x n => rfl
    | builtin b =>
      cases b <;> try rfl
      all_goals
        dsimp only
        generalize ts.toList = tl
        clear hargs hx ho
        generalize args.toList = al at harg ⊢
        rcases tl with _ | ⟨t, _ | ⟨t2, _ | ⟨t3, tl⟩⟩⟩ <;> rcases al with _ | ⟨x, _ | ⟨y, _ | ⟨z, al⟩⟩⟩ <;> first
          | rfl
          | (have h1 := harg x (by simp)
             have h2 := harg y (by simp)
             simp only [h1, h2])
          | (have h1 := harg x (by simp)
             simp only [h1])
  | slice t x lo hi mx =>
    rw [ho] at hx
    have h1 := hx x (by simp [Op.operands])
    have ho' : ∀ y : Option Operand, (∀ z, y = some z → opd sl z = opd sl' z) → y.map (opd sl) = y.map (opd sl') := by
      intro y hy
      cases y with
      | none => rfl
      | some z => simp [hy z rfl]
    dsimp only
    rw [h1, ho' lo fun z hz => hx z (by simp [Op.operands, hz]), ho' hi fun z hz => hx z (by simp [Op.operands, hz]), ho' mx fun z hz => hx z (by simp [Op.operands, hz])]
  | makeMap t n => cases n <;> rfl
  | next x s =>
    rw [ho] at hx
    cases s with
    | true => dsimp only; rw [hx x (by simp [Op.operands])]
    | false => rfl
  | pick c x y =>
    rw [ho] at hx
    dsimp only
    rw [hx c (by simp [Op.operands]), hx x (by simp [Op.operands]), hx y (by simp [Op.operands])]
  | move x => rw [ho] at hx; dsimp only; rw [hx x (by simp [Op.operands])]
  | assign x => rw [ho] at hx; dsimp only; rw [hx x (by simp [Op.operands])]
  | box t x => rw [ho] at hx; dsimp only; rw [hx x (by simp [Op.operands])]
  | load t x => rw [ho] at hx; dsimp only; rw [hx x (by simp [Op.operands])]
  | nilCheck x => rw [ho] at hx; dsimp only; rw [hx x (by simp [Op.operands])]
  | unOp op t x => rw [ho] at hx; dsimp only; rw [hx x (by simp [Op.operands])]
  | convert s d x => rw [ho] at hx; dsimp only; rw [hx x (by simp [Op.operands])]
  | fieldAddr t x f => rw [ho] at hx; dsimp only; rw [hx x (by simp [Op.operands])]
  | field t x f => rw [ho] at hx; dsimp only; rw [hx x (by simp [Op.operands])]
  | range t x => rw [ho] at hx; dsimp only; rw [hx x (by simp [Op.operands])]
  | extract x i => rw [ho] at hx; dsimp only; rw [hx x (by simp [Op.operands])]
  | store t x y => rw [ho] at hx; dsimp only; rw [hx x (by simp [Op.operands]), hx y (by simp [Op.operands])]
  | binOp op t x y yt => rw [ho] at hx; dsimp only; rw [hx x (by simp [Op.operands]), hx y (by simp [Op.operands])]
  | makeSlice t x y => rw [ho] at hx; dsimp only; rw [hx x (by simp [Op.operands]), hx y (by simp [Op.operands])]
  | lookup t x y ok => rw [ho] at hx; dsimp only; rw [hx x (by simp [Op.operands]), hx y (by simp [Op.operands])]
  | insert t x y z => rw [ho] at hx; dsimp only; rw [hx x (by simp [Op.operands]), hx y (by simp [Op.operands]), hx z (by simp [Op.operands])]
  | indexAddr t x y => rw [ho] at hx; dsimp only; rw [hx x (by simp [Op.operands]), hx y (by simp [Op.operands])]
  | index t x y => rw [ho] at hx; dsimp only; rw [hx x (by simp [Op.operands]), hx y (by simp [Op.operands])]
  | _ => rfl
end
end Go.Ev

/- Operations in another order. Own work. -/
namespace Go.Ev
variable {El : Nat → Type}

def wantA (ops : List Oper) (o : Oper) (sl : List (AV El)) : Option Bool := guarded ops o sl (fun _ => some true) fun _ => some false

theorem set_self {sl : List (AV El)} {d : Nat} {x : AV El} (e : sl.getD d undefA = x) : sl.set d x = sl := by
  by_cases hd : d < sl.length
  · rw [List.getD_eq_getElem?_getD, List.getElem?_eq_getElem hd] at e
    simp only [Option.getD_some] at e
    subst e
    exact List.set_getElem_self hd
  · exact List.set_eq_of_length_le (by omega)

theorem guarded_want {R : Type} {ops : List Oper} {o : Oper} {sl : List (AV El)} {yes no : List (AV El) → Option R} {r : R} (hp : guarded ops o sl yes no = some r) :
    (wantA ops o sl = some true ∧ yes sl = some r) ∨ (wantA ops o sl = some false ∧ no sl = some r) := by
  unfold wantA
  unfold guarded at *
  generalize o.guard = g at *
  cases g with
  | none => exact .inl ⟨rfl, hp⟩
  | some g =>
    obtain ⟨j, want⟩ := g
    dsimp only at *
    generalize ops[j]? = x at *
    cases x with
    | none => exact .inr ⟨rfl, hp⟩
    | some p =>
      dsimp only at *
      generalize p.dst = y at *
      cases y with
      | none => exact .inr ⟨rfl, hp⟩
      | some d =>
        dsimp only at *
        cases e : sl.getD d undefA with
        | bool b =>
          have hs := set_self e
          rw [e] at hp
          cases b <;> cases want <;> dsimp only at hp ⊢ <;> rw [hs] at hp <;> simp_all
        | tup vs =>
          rw [e] at hp
          cases vs with
          | nil => exact .inr ⟨rfl, hp⟩
          | cons v vs => cases hp
        | _ => rw [e] at hp; cases hp

/-- An operation of a region, done: its place in the text, its own entries, what it read and wrote, what came. -/
structure It (El : Nat → Type) where
  j : Nat
  o : Oper
  nb : Nat
  ft : Foot
  v : AV El

def Step1 (C : Cx El) (ops : List Oper) (it : It El) (sl : List (AV El)) (h h' : List (HE El)) : Prop :=
  (wantA ops it.o sl = some true ∧ (execA (R := R0 El) C h sl it.o).foot it.nb = it.ft ∧ it.nb + (execA (R := R0 El) C h sl it.o).news ≤ h.length ∧ perform (execA C h sl it.o) h it.nb some0 = some (it.v, h')) ∨
  (wantA ops it.o sl = some false ∧ it.ft = [] ∧ it.v = undefA ∧ h' = h)

inductive Runs (C : Cx El) (ops : List Oper) : List (It El) → List (AV El) → List (HE El) → List (AV El) → List (HE El) → Prop
  | nil (sl h) : Runs C ops [] sl h sl h
  | cons {it rest sl h h1 slf hf} (s : Step1 C ops it sl h h1) (t : Runs C ops rest (putS sl it.o.dst it.v) h1 slf hf) : Runs C ops (it :: rest) sl h slf hf

def Apart (ops : List Oper) (x y : It El) : Prop := clash x.ft y.ft = false ∧ free2 ops x.o y.o = true

theorem opd_put {sl : List (AV El)} {d : Option Nat} {v : AV El} {x : Operand} (h : ∀ t, d = some t → x ≠ .tmp t) : opd (putS sl d v) x = opd sl x := by
  cases d with
  | none => rfl
  | some d =>
    cases x with
    | tmp t =>
      have hne : d ≠ t := fun e => h d rfl (e ▸ rfl)
      simp only [opd, putS, List.getD_eq_getElem?_getD, List.getElem?_set_ne hne]
    | _ => rfl

theorem looks_op {ops : List Oper} {o : Oper} {d : Option Nat} (h : ∀ t, d = some t → t ∉ looks ops o) : ∀ x ∈ o.op.operands, ∀ t, d = some t → x ≠ .tmp t := by
  rintro x hx t ht rfl
  refine h t ht (List.mem_append_left _ (List.mem_filterMap.2 ⟨.tmp t, by simpa using hx, rfl⟩))

theorem want_put {ops : List Oper} {o : Oper} {sl : List (AV El)} {d : Option Nat} {v : AV El} (h : ∀ t, d = some t → t ∉ looks ops o) : wantA ops o (putS sl d v) = wantA ops o sl := by
  cases d with
  | none => rfl
  | some d =>
    unfold wantA guarded
    cases hg : o.guard with
    | none => rfl
    | some g =>
      obtain ⟨j, want⟩ := g
      dsimp only
      cases hj : ops[j]? with
      | none => rfl
      | some p =>
        dsimp only
        cases hd : p.dst with
        | none => rfl
        | some t =>
          have hne : d ≠ t := by
            rintro rfl
            refine h d rfl (List.mem_append_right _ ?_)
            simp [hg, hj, hd]
          dsimp only
          have : (putS sl (some d) v).getD t undefA = sl.getD t undefA := by
            simp only [putS, List.getD_eq_getElem?_getD, List.getElem?_set_ne hne]
          rw [this]

theorem putS_comm {sl : List (AV El)} {d e : Option Nat} {u v : AV El} (h : ∀ t, d = some t → e ≠ some t) : putS (putS sl d u) e v = putS (putS sl e v) d u := by
  cases d with
  | none => rfl
  | some d =>
    cases e with
    | none => rfl
    | some e =>
      have hne : d ≠ e := fun x => h d rfl (x ▸ rfl)
      exact List.set_comm _ _ hne

theorem free2_spec {ops : List Oper} {x y : Oper} (h : free2 ops x y = true) :
    (∀ d, x.dst = some d → d ∉ looks ops y) ∧ (∀ d, x.dst = some d → y.dst ≠ some d) ∧ (∀ d, y.dst = some d → d ∉ looks ops x) := by
  refine ⟨fun d hd => ?_, fun d hd => ?_, fun d hd => ?_⟩ <;> simp [free2, hd] at h
  · exact h.1.1
  · exact h.1.2
  · exact h.2

theorem clash_spec {f g : Foot} (h : clash f g = false) : ∀ x ∈ f, ∀ y ∈ g, clash1 x y = false := by
  intro x hx y hy
  cases e : clash1 x y with
  | false => rfl
  | true =>
    have : clash f g = true := List.any_eq_true.2 ⟨x, hx, List.any_eq_true.2 ⟨y, hy, e⟩⟩
    rw [this] at h; cases h

theorem meets_symm (a b : Option (Nat × Nat)) : meets a b = meets b a := by
  cases a <;> cases b <;> try rfl
  rename_i a b
  obtain ⟨a, n⟩ := a
  obtain ⟨b, m⟩ := b
  simp only [meets]
  exact Bool.and_comm _ _

theorem clash1_symm (x y : Nat × Option (Nat × Nat) × Bool) : clash1 x y = clash1 y x := by
  unfold clash1
  rw [meets_symm, Bool.or_comm x.2.2, Bool.beq_comm]

section
variable {C : Cx El} {ops : List Oper} {sl : List (AV El)} {h h' : List (HE El)}

/-- A step, by what it writes. -/
theorem Step1.upd (hF : ∀ f fs, C.fn f = some fs → NatF fs) {it : It El} (s : Step1 C ops it sl h h') : ∃ us : List (Nat × Wr El), (∀ u ∈ us, Wr.ft u ∈ it.ft) ∧ h' = applyU us h ∧
    ∀ (g : List (HE El)) (sl' : List (AV El)), g.length = h.length → Agree it.ft h g → wantA ops it.o sl' = wantA ops it.o sl → (∀ x ∈ it.o.op.operands, opd sl' x = opd sl x) → Step1 C ops it sl' g (applyU us g) := by
  rcases s with ⟨s1, s2, s3, s4⟩ | ⟨s1, s2, s3, s4⟩
  · obtain ⟨us, h1, h2⟩ := perform_local (fun m => nat_exec hF) s4 s3
    rw [s2] at h1 h2
    have h3 := h2 h rfl (.refl _ _)
    rw [s4] at h3
    have h4 : h' = applyU us h := by
      simp only [Option.some.injEq, Prod.mk.injEq, true_and] at h3
      exact h3
    refine ⟨us, h1, h4, fun g sl' hg ha hw hx => .inl ⟨hw.trans s1, ?_⟩⟩
    have hne : execA (R := R0 El) C h sl it.o ≠ .bad := by
      intro e
      rw [e] at s4
      cases s4
    have e1 : execA (R := R0 El) C g sl' it.o = execA C h sl it.o := by
      rw [exec_congr hx]
      exact exec_agree hne (by rw [s2]; exact ha)
    rw [e1]
    exact ⟨s2, by rw [hg]; exact s3, h2 g hg ha⟩
  · exact ⟨[], by simp, s4, fun g sl' hg ha hw hx => .inr ⟨hw.trans s1, s2, s3, rfl⟩⟩

theorem swap (hF : ∀ f fs, C.fn f = some fs → NatF fs) {x y : It El} {rest : List (It El)} {slf : List (AV El)} {hf : List (HE El)} (hr : Runs C ops (x :: y :: rest) sl h slf hf) (ha : Apart ops x y) : Runs C ops (y :: x :: rest) sl h slf hf := by
  cases hr with
  | cons s t =>
    cases t with
    | cons s' t' =>
      rename_i h1 h2
      obtain ⟨f1, f2, f3⟩ := free2_spec ha.2
      have hc := clash_spec ha.1
      obtain ⟨us, u1, u2, u3⟩ := s.upd hF
      obtain ⟨vs, v1, v2, v3⟩ := s'.upd hF
      subst u2
      subst v2
      have hag : Agree y.ft (applyU us h) h := (applyU_agree us h fun u hu p hp => hc _ (u1 u hu) p hp).symm
      have sy := v3 h sl (length_applyU _ _).symm hag (want_put f1).symm (fun o ho => (opd_put (looks_op f1 o ho)).symm)
      have hag2 : Agree x.ft h (applyU vs h) := applyU_agree vs h fun u hu p hp => by
        rw [clash1_symm]
        exact hc p hp _ (v1 u hu)
      have sx := u3 (applyU vs h) (putS sl y.o.dst y.v) (length_applyU _ _) hag2 (want_put f3) (fun o ho => opd_put (looks_op f3 o ho))
      refine .cons sy (.cons sx ?_)
      rw [← applyU_comm us vs h fun u hu v hv => hc _ (u1 u hu) _ (v1 v hv), ← putS_comm f2]
      exact t'

theorem front (hF : ∀ f fs, C.fn f = some fs → NatF fs) {it : It El} {post : List (It El)} {slf : List (AV El)} {hf : List (HE El)} : ∀ (pre : List (It El)) {sl : List (AV El)} {h : List (HE El)}, Runs C ops (pre ++ it :: post) sl h slf hf → (∀ x ∈ pre, Apart ops x it) → Runs C ops (it :: (pre ++ post)) sl h slf hf
  | [], _, _, hr, _ => hr
  | x :: pre, sl, h, hr, ha => by
    refine swap hF ?_ (ha x (by simp))
    cases hr with
    | cons s t => exact .cons s (front hF pre t fun z hz => ha z (by simp [hz]))
end
end Go.Ev

/- Regions whose order is drawn. Own work. -/
namespace Go.Ev
variable {El : Nat → Type}

def Beside (ops : List Oper) (x y : It El) : Prop := ahead ops ops.length x.j y.j = true ∨ Apart ops x y

theorem evOpsD_runs {C : Cx El} (hF : ∀ f fs, C.fn f = some fs → NatF fs) {ops : List Oper} {R : Type} {r : R} {k : List (AV El) → List (HE El) → Option R} :
    ∀ (rest : List Oper) (j nb : Nat) (log : List (Nat × Foot)) (sl : List (AV El)) (h : List (HE El)), ops.drop j = rest → evOpsD C ops rest j nb log sl h k = some r →
    ∃ items slf hf, Runs C ops items sl h slf hf ∧ k slf hf = some r ∧ items.map (·.j) = List.range' j rest.length ∧ (∀ it ∈ items, ops[it.j]? = some it.o) ∧ items.Pairwise (Beside ops) ∧
      ∀ x ∈ log, ∀ it ∈ items, ahead ops ops.length x.1 it.j = true ∨ (clash x.2 it.ft = false ∧ ∃ p, ops[x.1]? = some p ∧ free2 ops p it.o = true)
  | [], j, nb, log, sl, h, _, hp => ⟨[], sl, h, .nil _ _, hp, rfl, by simp, .nil, by simp⟩
  | o :: rest, j, nb, log, sl, h, hr, hp => by
    have hj : ops[j]? = some o := by
      have : (ops.drop j)[0]? = some o := by rw [hr]; rfl
      simpa using this
    have hr' : ops.drop (j + 1) = rest := by rw [← List.tail_drop, hr]; rfl
    have hlog : ∀ {f : Foot}, besides ops log j o f = true → ∀ x ∈ log, ahead ops ops.length x.1 j = true ∨ (clash x.2 f = false ∧ ∃ p, ops[x.1]? = some p ∧ free2 ops p o = true) := by
      intro f hb x hx
      have := List.all_eq_true.1 hb x hx
      simp only [Bool.or_eq_true, Bool.and_eq_true, Bool.not_eq_true'] at this
      refine this.imp id fun h1 => ⟨h1.1, ?_⟩
      cases e : ops[x.1]? with
      | none => rw [e] at h1; cases h1.2
      | some p => rw [e] at h1; exact ⟨p, rfl, h1.2⟩
    -- what is so with the operation's item ahead
    have fin : ∀ (it : It El) (h1 : List (HE El)) (nb' : Nat), it.j = j → it.o = o → besides ops log j o it.ft = true → Step1 C ops it sl h h1 → evOpsD C ops rest (j + 1) nb' ((j, it.ft) :: log) (putS sl o.dst it.v) h1 k = some r →
        ∃ items slf hf, Runs C ops items sl h slf hf ∧ k slf hf = some r ∧ items.map (·.j) = List.range' j (o :: rest).length ∧ (∀ it ∈ items, ops[it.j]? = some it.o) ∧ items.Pairwise (Beside ops) ∧
          ∀ x ∈ log, ∀ it ∈ items, ahead ops ops.length x.1 it.j = true ∨ (clash x.2 it.ft = false ∧ ∃ p, ops[x.1]? = some p ∧ free2 ops p it.o = true) := by
      rintro it h1 nb' rfl rfl hb s hk
      obtain ⟨items, slf, hf, i1, i2, i3, i4, i5, i6⟩ := evOpsD_runs hF rest _ _ _ _ _ hr' hk
      refine ⟨it :: items, slf, hf, .cons s i1, i2, by simp [i3, List.range'_succ], ?_, .cons (fun y hy => ?_) i5, fun x hx y hy => ?_⟩
      · intro y hy
        rcases List.mem_cons.1 hy with rfl | hy
        · exact hj
        · exact i4 y hy
      · rcases i6 (it.j, it.ft) (by simp) y hy with h2 | ⟨h2, p, h3, h4⟩
        · exact .inl h2
        · simp only at h3
          rw [hj] at h3
          cases h3
          exact .inr ⟨h2, h4⟩
      · rcases List.mem_cons.1 hy with rfl | hy
        · exact hlog hb x hx
        · exact i6 x (List.mem_cons_of_mem _ hx) y hy
    simp only [evOpsD] at hp
    rcases guarded_want hp with ⟨hw, h1⟩ | ⟨hw, h1⟩
    · split at h1
      · rename_i hc
        simp only [Bool.and_eq_true, decide_eq_true_eq] at hc
        have hn := nat_exec (R := R) (R' := R0 El) (m := fun p => evOpsD C ops rest (j + 1) (nb + newsOf C o) ((j, (execA (R := R) C h sl o).foot nb) :: log) (putS sl o.dst p.1) p.2 k) (C := C) (h := h) (sl := sl) (o := o) hF
        have hpf := nat_perform hn h nb some0
        have h2 : (perform (execA (R := R0 El) C h sl o) h nb some0).bind (fun p => evOpsD C ops rest (j + 1) (nb + newsOf C o) ((j, (execA (R := R) C h sl o).foot nb) :: log) (putS sl o.dst p.1) p.2 k) = some r := hpf.symm.trans h1
        obtain ⟨⟨v, h'⟩, e1, e2⟩ := Option.bind_eq_some_iff.1 h2
        have hft := nat_foot hn nb
        have hnw := nat_news hn
        exact fin ⟨j, o, nb, (execA (R := R) C h sl o).foot nb, v⟩ h' _ rfl rfl hc.1 (.inl ⟨hw, hft.symm, hnw ▸ hc.2, e1⟩) e2
      · cases h1
    · split at h1
      · rename_i hb
        exact fin ⟨j, o, nb, [], undefA⟩ h _ rfl rfl hb (.inr ⟨hw, rfl, rfl, rfl⟩) h1
      · cases h1

theorem orderly_spec : ∀ (ops : List Oper) (j : Nat), orderly ops j = true → ∀ i o, ops[i]? = some o → ∀ e ∈ o.after, Region.binds .any e = true → e.on < j + i
  | [], _, _, i, o, ho, _, _, _ => by simp at ho
  | x :: ops, j, h, i, o, ho, e, he, hb => by
    simp only [orderly, Bool.and_eq_true] at h
    cases i with
    | zero =>
      simp only [List.getElem?_cons_zero, Option.some.injEq] at ho
      subst ho
      have := List.all_eq_true.1 h.1 e (by simpa using he)
      simpa [hb] using this
    | succ i =>
      have := orderly_spec ops (j + 1) h.2 i o (by simpa using ho) e he hb
      omega

theorem ahead_listed {ops : Array Oper} {listed : Array Bool} (hcl : ∀ (j : Nat) o, ops[j]? = some o → listed.getD j false = true → ∀ e ∈ o.after, Region.binds .any e = true → listed.getD e.on false = true) {x : Nat} :
    ∀ (n y : Nat) (o : Oper), ops[y]? = some o → (∀ e ∈ o.after, Region.binds .any e = true → listed.getD e.on false = true) → ahead ops.toList n x y = true → listed.getD x false = true
  | 0, _, _, _, _, h => by simp [ahead] at h
  | n + 1, y, o, ho, ha, h => by
    have ho' : ops.toList[y]? = some o := by simpa using ho
    simp only [ahead, ho', List.any_eq_true, Bool.and_eq_true, Bool.or_eq_true, beq_iff_eq] at h
    obtain ⟨e, he, hb, h1⟩ := h
    have hl := ha e (by simpa using he) hb
    rcases h1 with rfl | h1
    · exact hl
    · cases e2 : ops[e.on]? with
      | none =>
        have : ops.toList[e.on]? = none := by simpa using e2
        cases n <;> simp [ahead, this] at h1
      | some o2 => exact ahead_listed hcl n e.on o2 e2 (hcl e.on o2 e2 hl) h1

section
variable {P : Program} {C : Cx El} {base : Nat} {R : Type} {r : R}

theorem any_ok (hC : CxOk P C base) (hF : ∀ f fs, C.fn f = some fs → NatF fs) {H0 : RO} {r0 : Nat → RE} {w0 : World} {ops : Array Oper} (hord : orderly ops.toList 0 = true) {Q : Exit → Go.Act → World → Prop} {k : List (AV El) → List (HE El) → Option R}
    (hQ : Good C base H0 r0 w0 k r (Q .normal)) :
    ∀ (fuel : Nat) (items : List (It El)) (listed : Array Bool) (sl : List (AV El)) (h : List (HE El)) (slf : List (AV El)) (hf : List (HE El)) (H : RO) (ρ : Nat → RE) (a : Go.Act) (w : World),
      items.length ≤ fuel → listed.size = ops.size → (∀ j, (∃ it ∈ items, it.j = j) ↔ j < ops.size ∧ listed.getD j true = false) → items.Pairwise (fun x y => x.j < y.j) → (∀ it ∈ items, ops[it.j]? = some it.o) → items.Pairwise (Beside ops.toList) →
      (∀ (j : Nat) o, ops[j]? = some o → listed.getD j false = true → ∀ e ∈ o.after, Region.binds .any e = true → listed.getD e.on false = true) →
      Runs C ops.toList items sl h slf hf → k slf hf = some r → Step C base H0 r0 w0 H ρ h w → VL C H ρ sl a.tmps.toList → a.defers = [] → wpAny P .any ops Q fuel listed a w := by
  have hnone : ∀ {listed : Array Bool}, (∀ j, (∃ it ∈ ([] : List (It El)), it.j = j) ↔ j < ops.size ∧ listed.getD j true = false) → Region.ready .any ops listed = [] := by
    intro listed hl
    cases e : Region.ready .any ops listed with
    | nil => rfl
    | cons i rs =>
      have hi : i ∈ Region.ready .any ops listed := by rw [e]; simp
      obtain ⟨h1, o, h2, _⟩ := mem_ready.1 hi
      obtain ⟨it, hit, _⟩ := (hl i).2 ⟨(Array.getElem?_eq_some_iff.1 h2).1, h1⟩
      cases hit
  intro fuel
  induction fuel with
  | zero =>
    intro items listed sl h slf hf H ρ a w hlen hsz hitems hsort hops hpair hcl hr hk s hS hd
    have : items = [] := List.length_eq_zero_iff.1 (by omega)
    subst this
    cases hr
    exact ⟨hnone hitems, hQ _ _ H ρ a w hk s hS hd⟩
  | succ fuel ih =>
    intro items listed sl h slf hf H ρ a w hlen hsz hitems hsort hops hpair hcl hr hk s hS hd
    have hgetD : ∀ {j : Nat}, j < ops.size → listed.getD j true = listed.getD j false := by
      intro j hj
      rw [← hsz] at hj
      simp [hj]
    refine ⟨fun hready => ?_, fun i hi => ?_⟩
    · cases items with
      | nil => cases hr; exact hQ _ _ H ρ a w hk s hS hd
      | cons it rest =>
        exfalso
        have hit := hops it (by simp)
        have hlt : it.j < ops.size := (Array.getElem?_eq_some_iff.1 hit).1
        have : it.j ∈ Region.ready .any ops listed := mem_ready.2 ⟨((hitems it.j).1 ⟨it, by simp, rfl⟩).2, it.o, hit, fun e he hb => by
          have hlt2 : e.on < it.j := by
            have := orderly_spec ops.toList 0 hord it.j it.o (by simpa using hit) e he hb
            omega
          have hlt3 : e.on < ops.size := by omega
          rw [← hgetD hlt3]
          cases e3 : listed.getD e.on true with
          | true => rfl
          | false =>
            obtain ⟨y, hy, hy2⟩ := (hitems e.on).2 ⟨hlt3, e3⟩
            rcases List.mem_cons.1 hy with rfl | hy
            · omega
            · have := (List.pairwise_cons.1 hsort).1 y hy
              omega⟩
        rw [hready] at this
        cases this
    · obtain ⟨hun, o, ho, hall⟩ := mem_ready.1 hi
      have hlt : i < ops.size := (Array.getElem?_eq_some_iff.1 ho).1
      obtain ⟨it, hit, rfl⟩ := (hitems i).2 ⟨hlt, hun⟩
      obtain ⟨pre, post, rfl⟩ := List.append_of_mem hit
      have hio : it.o = o := by
        have := hops it (by simp)
        rw [ho] at this
        cases this; rfl
      subst hio
      -- all of what stands ahead in the text is apart from it
      have hap : ∀ x ∈ pre, Apart ops.toList x it := by
        intro x hx
        have hb := (List.pairwise_append.1 hpair).2.2 x hx it (by simp)
        rcases hb with hb | hb
        · exfalso
          have h1 := ahead_listed hcl _ _ it.o ho hall hb
          obtain ⟨h2, h3⟩ := (hitems x.j).1 ⟨x, by simp [hx], rfl⟩
          rw [hgetD h2, h1] at h3
          cases h3
        · exact hb
      have hr' := front hF pre hr hap
      cases hr' with
      | cons s1 t =>
        rename_i h1
        -- how the rest goes on
        have hgo : ∀ (v : AV El) (u : Value) (H' : RO) (ρ' : Nat → RE) (w' : World), v = it.v → Step C base H ρ w H' ρ' h1 w' → V C H' ρ' v u → wpAny P .any ops Q fuel (listed.setIfInBounds it.j true) (a.put it.o.dst u) w' := by
          rintro v u H' ρ' w' rfl s' hv
          have hlt' : it.j < listed.size := by omega
          have hset : ∀ (j : Nat) (d : Bool), j ≠ it.j → (listed.setIfInBounds it.j true).getD j d = listed.getD j d := fun j d hne => getD_set_ne d (Ne.symm hne)
          have hself : ∀ d, (listed.setIfInBounds it.j true).getD it.j d = true := fun d => by simp [hlt']
          have hsub : (pre ++ post).Sublist (pre ++ it :: post) := (List.Sublist.refl pre).append (List.sublist_cons_self it post)
          refine ih (pre ++ post) _ _ h1 slf hf H' ρ' _ w' (by simp at hlen ⊢; omega) (by simp [hsz]) (fun j => ?_) (hsort.sublist hsub) (fun x hx => hops x (hsub.subset hx)) (hpair.sublist hsub) (fun j o' ho' hl e he hb => ?_) t hk (s.trans s') (put_ok (a := a) (VL.ext s'.ext hS) hv _) (by rw [put_defers]; exact hd)
          · by_cases hj : j = it.j
            · subst hj
              constructor
              · rintro ⟨x, hx, hxj⟩
                exfalso
                have hp := List.pairwise_append.1 hsort
                rcases List.mem_append.1 hx with hx | hx
                · have := hp.2.2 x hx it (by simp); omega
                · have := (List.pairwise_cons.1 hp.2.1).1 x hx; omega
              · intro hh
                rw [hself] at hh
                cases hh.2
            · rw [hset j true hj, ← hitems j]
              constructor
              · rintro ⟨x, hx, hxj⟩
                exact ⟨x, hsub.subset hx, hxj⟩
              · rintro ⟨x, hx, hxj⟩
                refine ⟨x, ?_, hxj⟩
                rcases List.mem_append.1 hx with hx | hx
                · exact List.mem_append_left _ hx
                · rcases List.mem_cons.1 hx with rfl | hx
                  · exact absurd hxj.symm hj
                  · exact List.mem_append_right _ hx
          · by_cases hj : j = it.j
            · subst hj
              rw [ho] at ho'
              cases ho'
              exact getD_set_true (hall e he hb)
            · rw [hset j false hj] at hl
              exact getD_set_true (hcl j o' ho' hl e he hb)
        unfold wpOp
        simp only [ho]
        have hwant : ∀ {b : Bool}, wantA ops.toList it.o sl = some b → Region.wanted it.o (yielded ops a.tmps) = b := by
          intro b hb
          rcases wanted_guard hS hb with ⟨h2, h3⟩ | ⟨h2, h3⟩
          · cases h3; exact h2
          · cases h3; exact h2
        rcases s1 with ⟨k1, k2, k3, k4⟩ | ⟨k1, k2, k3, k4⟩
        · rw [if_pos (hwant k1)]
          refine .inl (exec_ok hC hS s.rw (by omega) k4 _ _ fun u w' hpost => ?_)
          obtain ⟨v, h', H', ρ', hk', s', hv⟩ := hpost
          simp only [some0, Option.some.injEq, Prod.mk.injEq] at hk'
          obtain ⟨rfl, rfl⟩ := hk'
          exact hgo _ u H' ρ' w' rfl s' hv
        · rw [if_neg (by rw [hwant k1]; exact Bool.false_ne_true)]
          subst k4
          exact hgo _ _ H ρ w rfl (.refl s.rw) (k3 ▸ undef_ok)
theorem Step.drawn {H0 : RO} {r0 : Nat → RE} {w0 : World} {H : RO} {ρ : Nat → RE} {h : List (HE El)} {w : World} (s : Step C base H0 r0 w0 H ρ h w) (n : Nat) : Step C base H0 r0 w0 H ρ h { w with drawn := n } :=
  ⟨s.ext, ⟨s.rw.big, s.rw.out, s.rw.ent, s.rw.inj, s.rw.lo, s.rw.room, s.rw.rooms, s.rw.roomBlk, s.rw.ro, s.rw.roBlk, s.rw.roRoom, s.rw.robj⟩,
   ⟨s.pres.os, s.pres.tape, s.pres.output, s.pres.size, s.pres.same, s.pres.part⟩, s.shrink, s.nro, s.nobj⟩

theorem Rw.free {H : RO} {ρ : Nat → RE} {h : List (HE El)} {w : World} (q : Rw C base H ρ h w) (n : Nat) : Rw C base H ρ (h ++ List.replicate n .free) w := by
  refine ⟨q.big, fun i hi => q.out i (by simp at hi; omega), fun i e he => ?_, q.inj, q.lo, q.room, q.rooms, q.roomBlk, q.ro, q.roBlk, q.roRoom, q.robj⟩
  by_cases hi : i < h.length
  · rw [List.getElem?_append_left hi] at he
    exact q.ent i e he
  · rw [List.getElem?_append_right (by omega), List.getElem?_replicate] at he
    split at he
    · cases he
      exact q.out i (by omega)
    · cases he

theorem draw_ok (hC : CxOk P C base) (hF : ∀ f fs, C.fn f = some fs → NatF fs) (hm : P.follows .mixedOrders = true) : DrawOk P C base := by
  intro R r H0 r0 w0 id ops Q k sl h H ρ a w hQ s hS hd hord hp
  obtain ⟨items, slf, hf, i1, i2, i3, i4, i5, _⟩ := evOpsD_runs hF ops.toList 0 h.length [] sl _ (by simp) hp
  refine wp_region_any hm (any_ok hC hF hord hQ ops.size items _ sl (h ++ List.replicate (total C ops.toList) .free) slf hf H ρ a _ ?_ (by simp) (fun j => ?_) ?_ (fun it hit => by simpa using i4 it hit) i5 (fun j o ho hl => ?_) i1 i2
    ((⟨s.ext, s.rw.free _, s.pres, s.shrink, s.nro, s.nobj⟩ : Step C base H0 r0 w0 H ρ _ w).drawn _) hS hd)
  · have := congrArg List.length i3
    simp at this
    omega
  · have h1 : (∃ it ∈ items, it.j = j) ↔ j ∈ items.map (·.j) := by simp
    rw [h1, i3]
    simp only [List.mem_range'_1, Array.length_toList]
    constructor
    · rintro ⟨_, h2⟩
      have h3 : j < ops.size := by omega
      exact ⟨h3, by simp [h3]⟩
    · rintro ⟨h2, _⟩
      omega
  · have : (items.map (·.j)).Pairwise (· < ·) := by rw [i3]; exact List.pairwise_lt_range'
    exact List.pairwise_map.1 this
  · exfalso
    have h3 : j < ops.size := (Array.getElem?_eq_some_iff.1 ho).1
    simp [h3] at hl
end
end Go.Ev

/- A table of types, checked. Own work. -/
namespace Go.Ev
variable {El : Nat → Type}

/-- A zero cell, and what is known of it. -/
def zcell (a : AV El) (v : Value) : Bool :=
  match a, v with
  | .junk, _ => true
  | .bytes .nil [], .slice none 0 0 => true
  | .list .nil _ [], .slice none 0 0 => true
  | .nilptr, .pointer none => true
  | .nilfn, .nilFunc => true
  | .int k n, .int k' n' => decide (k = k') && decide (n = n') && inR k n
  | .bool b, .bool b' => b == b'
  | .str [], .string s => decide (s.data = #[])
  | _, _ => false

theorem zcell_ok {C : Cx El} {H : RO} {ρ : Nat → RE} {a : AV El} {v : Value} (h : zcell a v = true) : V C H ρ a v := by
  unfold zcell at h
  split at h
  · exact .junk _ _
  · exact .bytesN _ _ trivial
  · exact .listN _ _ _ trivial
  · exact .nilptr _
  · exact .nilfn _
  · simp only [Bool.and_eq_true, decide_eq_true_eq] at h
    obtain ⟨⟨rfl, rfl⟩, h3⟩ := h
    exact .int _ _ _ h3
  · have := eq_of_beq h
    subst this
    exact .bool _ _
  · rename_i s
    simp only [decide_eq_true_eq] at h
    have e : V C H ρ (.str s.data.toList) (.string s) := .str _ _ (by rw [h]; simp)
    rw [h] at e
    exact e
  · cases h

def zcells : List (AV El) → List Value → Bool
  | [], [] => true
  | a :: as, v :: vs => zcell a v && zcells as vs
  | _, _ => false

theorem zcells_ok {C : Cx El} {H : RO} {ρ : Nat → RE} : ∀ {as : List (AV El)} {vs : List Value}, zcells as vs = true → VL C H ρ as vs
  | [], [], _ => ⟨rfl, fun i x v h => by simp at h⟩
  | a :: as, v :: vs, h => by
    simp only [zcells, Bool.and_eq_true] at h
    exact .cons (zcell_ok h.1) (zcells_ok h.2)
  | [], _ :: _, h => by simp [zcells] at h
  | _ :: _, [], h => by simp [zcells] at h

def isAggV : Value → Bool
  | .agg _ => true
  | _ => false

/-- The fields of a struct. -/
def fieldsOk (P : Program) : List Field → List (Nat × Nat × Bool) → Bool
  | [], [] => true
  | f :: fs, x :: xs => decide (f.offset = x.1) && decide (sizeP P f.type = some x.2.1) && (aggP P f.type == x.2.2) && (P.underlying f.type).isSome && (x.2.2 || decide (x.2.1 = 1)) && fieldsOk P fs xs
  | _, _ => false

theorem fieldsOk_at {P : Program} : ∀ {fs : List Field} {xs : List (Nat × Nat × Bool)}, fieldsOk P fs xs = true → fs.length = xs.length ∧ ∀ (i : Nat) f x, fs[i]? = some f → xs[i]? = some x →
    f.offset = x.1 ∧ sizeP P f.type = some x.2.1 ∧ aggP P f.type = x.2.2 ∧ (P.underlying f.type).isSome = true ∧ (x.2.2 = false → x.2.1 = 1)
  | [], [], _ => ⟨rfl, fun i f x h => by simp at h⟩
  | f :: fs, x :: xs, h => by
    simp only [fieldsOk, Bool.and_eq_true, decide_eq_true_eq, beq_iff_eq, Bool.or_eq_true] at h
    obtain ⟨⟨⟨⟨⟨h1, h2⟩, h3⟩, h4⟩, h5⟩, h6⟩ := h
    obtain ⟨k1, k2⟩ := fieldsOk_at h6
    refine ⟨by simp [k1], fun i f' x' hf hx => ?_⟩
    cases i with
    | zero =>
      simp only [List.getElem?_cons_zero, Option.some.injEq] at hf hx
      subst hf; subst hx
      exact ⟨h1, h2, h3, h4, fun e => h5.resolve_left (by simp [e])⟩
    | succ i => exact k2 i f' x' (by simpa using hf) (by simpa using hx)
  | [], _ :: _, h => by simp [fieldsOk] at h
  | _ :: _, [], h => by simp [fieldsOk] at h

/-- A type's shape. -/
def tyOk (P : Program) (w : Nat → Nat) (d : TypeDesc) : Ty → Bool
  | .int k => match d with
    | .int k' => decide (k' = k)
    | _ => false
  | .bool => match d with
    | .bool => true
    | _ => false
  | .str => match d with
    | .string => true
    | _ => false
  | .ptr => match d with
    | .pointer _ => true
    | _ => false
  | .bslice => match d with
    | .slice e => (match P.underlying e, P.info? e with
      | some (.int .u8), some ie => decide (ie.size = 1) && decide (ie.bytes = 1) && (match ie.zero with
        | some (.int .u8 0) => true
        | _ => false)
      | _, _ => false)
    | _ => false
  | .slice c => match d with
    | .slice e => decide (e = c) && (match P.info? c with
      | some ie => decide (ie.size = w c) && decide (0 < ie.size) && decide (ie.bytes ≤ 4096) && (P.underlying c).isSome && (match ie.zero with
        | some z => decide (z.cells.size = ie.size)
        | none => false)
      | none => false)
    | _ => false
  | .struct fs => match d with
    | .struct fields => fieldsOk P fields.toList fs
    | _ => false
  | .arr n w g => match d with
    | .array n' e => decide (n' = n) && decide (sizeP P e = some w) && (aggP P e == g) && (P.underlying e).isSome && (g || decide (w = 1))
    | _ => false
  | .map e => match d with
    | .map k e' => decide (e' = e) && (match P.underlying k with
      | some (.int _) => true
      | _ => false)
    | _ => false
  | .fn => match d with
    | .func _ _ _ => true
    | _ => false
  | .other => true

theorem tyOk_ok {P : Program} {C : Cx El} {t : TypeId} {d : TypeDesc} (hd : P.underlying t = some d) {ty : Ty} (h : tyOk P C.lay.w d ty = true) : TyU P C t ty := by
  cases ty with
  | int k =>
    cases d <;> simp only [tyOk] at h <;> try (cases h)
    simp only [decide_eq_true_eq] at h
    subst h; exact hd
  | bool => cases d <;> simp only [tyOk] at h <;> first | exact hd | cases h
  | str => cases d <;> simp only [tyOk] at h <;> first | exact hd | cases h
  | ptr => cases d <;> simp only [tyOk] at h <;> first | exact ⟨_, hd⟩ | cases h
  | bslice =>
    cases d <;> simp only [tyOk] at h <;> try (cases h)
    rename_i e
    split at h
    · rename_i ie h1 h2
      simp only [Bool.and_eq_true, decide_eq_true_eq] at h
      obtain ⟨⟨h3, h4⟩, h5⟩ := h
      split at h5
      · rename_i h6
        exact ⟨e, ie, hd, h1, h2, h3, h4, h6⟩
      · cases h5
    · cases h
  | slice c =>
    cases d <;> simp only [tyOk] at h <;> try (cases h)
    rename_i e
    simp only [Bool.and_eq_true, decide_eq_true_eq] at h
    obtain ⟨rfl, h⟩ := h
    split at h
    · rename_i ie h1
      simp only [Bool.and_eq_true, decide_eq_true_eq] at h
      obtain ⟨⟨⟨⟨h2, h3⟩, h4⟩, h5⟩, h6⟩ := h
      split at h6
      · rename_i z h7
        simp only [decide_eq_true_eq] at h6
        exact ⟨hd, ie, z, h1, h2, h3, h4, h7, h6, h5⟩
      · cases h6
    · cases h
  | struct fs =>
    cases d <;> simp only [tyOk] at h <;> try (cases h)
    rename_i fields
    obtain ⟨k1, k2⟩ := fieldsOk_at h
    exact ⟨fields, hd, by simpa using k1, fun i f x hf hx => k2 i f x (by simpa using hf) hx⟩
  | arr n w g =>
    cases d <;> simp only [tyOk] at h <;> try (cases h)
    rename_i n' e
    simp only [Bool.and_eq_true, decide_eq_true_eq, beq_iff_eq, Bool.or_eq_true] at h
    obtain ⟨⟨⟨⟨rfl, h2⟩, h3⟩, h4⟩, h5⟩ := h
    exact ⟨e, hd, h2, h3, h4, fun eg => h5.resolve_left (by simp [eg])⟩
  | map e =>
    cases d <;> simp only [tyOk] at h <;> try (cases h)
    simp only [Bool.and_eq_true, decide_eq_true_eq] at h
    obtain ⟨rfl, h⟩ := h
    split at h
    · rename_i kk hk
      exact ⟨_, kk, hd, hk⟩
    · cases h
  | fn => cases d <;> simp only [tyOk] at h <;> first | exact ⟨_, _, _, hd⟩ | cases h
  | other => simp only [TyU]; rw [hd]; rfl

def tiOk (P : Program) (w : Nat → Nat) (t : Nat) (ti : TI El) : Bool :=
  match P.info? t, P.underlying t with
  | some i, some d => decide (i.size = ti.size) && decide (ti.zero.length = ti.size) && (match i.zero with
      | some z => zcells ti.zero z.cells.toList && (isAggV z == ti.ty.agg)
      | none => false) && (aggP P t == ti.ty.agg) && tyOk P w d ti.ty
  | _, _ => false

theorem tiOk_ok {P : Program} {C : Cx El} {t : Nat} {ti : TI El} (h : tiOk P C.lay.w t ti = true) : TOk P C t ti := by
  unfold tiOk at h
  split at h
  · rename_i i d h1 h2
    simp only [Bool.and_eq_true, decide_eq_true_eq, beq_iff_eq] at h
    obtain ⟨⟨⟨⟨h3, h4⟩, h5⟩, h6⟩, h7⟩ := h
    split at h5
    · rename_i z h8
      simp only [Bool.and_eq_true, beq_iff_eq] at h5
      refine ⟨by simp [sizeP, h1, h3], ⟨i, z, h1, h8, fun H ρ => zcells_ok h5.1, fun hg => ?_, fun hg => ?_⟩, h4, h6, by rw [h2]; rfl, tyOk_ok h2 h7⟩
      · have := h5.2
        rw [hg] at this
        cases z <;> simp [isAggV] at this
        exact ⟨_, rfl⟩
      · have := h5.2
        rw [hg] at this
        cases z <;> first | rfl | (simp [isAggV] at this)
    · cases h5
  · cases h

/-- A table of types, by their numbers. -/
def ttL (l : List (Nat × TI El)) (t : Nat) : Option (TI El) :=
  match l with
  | [] => none
  | (n, ti) :: r => if n = t then some ti else ttL r t

def ttLOk (P : Program) (w : Nat → Nat) : List (Nat × TI El) → Bool
  | [] => true
  | (n, ti) :: r => tiOk P w n ti && ttLOk P w r

theorem ttL_ok {P : Program} {C : Cx El} : ∀ {l : List (Nat × TI El)}, ttLOk P C.lay.w l = true → ∀ t ti, ttL l t = some ti → TOk P C t ti
  | [], _, t, ti, h => by simp [ttL] at h
  | (n, x) :: r, hl, t, ti, h => by
    simp only [ttLOk, Bool.and_eq_true] at hl
    simp only [ttL] at h
    split at h
    · rename_i e
      subst e
      cases h
      exact tiOk_ok hl.1
    · exact ttL_ok hl.2 t ti h
end Go.Ev

/- Contexts that differ in their functions alone; contracts told otherwise. Own work. -/
namespace Go.Ev
variable {El : Nat → Type}

abbrev Cx.withFn (C : Cx El) (g : Nat → Option (FS El)) : Cx El := { C with fn := g }

theorem V.fnc {C : Cx El} {H : RO} {ρ : Nat → RE} {a : AV El} {v : Value} (h : V C H ρ a v) (g : Nat → Option (FS El)) : V (C.withFn g) H ρ a v := by
  induction h with
  | junk ρ v => exact .junk _ _
  | bool ρ b => exact .bool _ _
  | int ρ k n h => exact .int _ _ _ h
  | str ρ b hb => exact .str _ _ hb
  | nilptr ρ => exact .nilptr _
  | nilsl ρ => exact .nilsl _
  | nilfn ρ => exact .nilfn _
  | ptr ρ id off b n h => exact .ptr _ _ _ _ _ h
  | rptr ρ c x off b o vs h1 h2 ih => exact .rptr _ _ _ _ _ _ vs h1 ih
  | mbp ρ id i b n h hi => exact .mbp _ _ _ _ _ h hi
  | bytesN ρ f h => exact .bytesN _ _ h
  | bytes ρ f s b o cap hf hc h => exact .bytes _ _ _ _ _ _ hf hc h
  | listN ρ f c h => exact .listN _ _ _ h
  | list ρ f c l b o cap vs hf hc h1 h2 ih => exact .list _ _ _ _ _ _ _ vs hf hc h1 ih
  | hsl ρ id off len b n cap h hc => exact .hsl _ _ _ _ _ _ _ h hc
  | mbs ρ id b n cap h hc => exact .mbs _ _ _ _ _ h hc
  | iter ρ id b n h => exact .iter _ _ _ _ h
  | map ρ id b n h => exact .map _ _ _ _ h
  | fmap ρ c g' m b es ck vs us hH h1 h0 h3 h2 ih => exact .fmap _ _ _ _ _ _ _ vs us hH h1 h0 h3 ih
  | fn ρ f as bs us vs h1 h2 h3 h4 i3 i4 => exact .fn _ _ _ _ _ _ h1 h2 i3 i4
  | agg ρ cs vs h1 h2 ih => exact .agg _ _ _ h1 ih
  | tup ρ cs vs h1 h2 ih => exact .tup _ _ _ h1 ih

section
variable {C : Cx El} {base : Nat} {H : RO} {ρ : Nat → RE} {h : List (HE El)} {w : World}

theorem VL.fnc {as : List (AV El)} {vs : List Value} (hv : VL C H ρ as vs) (g : Nat → Option (FS El)) : VL (C.withFn g) H ρ as vs :=
  ⟨hv.1, fun i a v ha hv' => (hv.2 i a v ha hv').fnc g⟩

theorem EntOk.fnc {e : HE El} {r : RE} (he : EntOk C H ρ w e r) (g : Nat → Option (FS El)) : EntOk (C.withFn g) H ρ w e r := by
  cases e with
  | blk cs =>
    obtain ⟨b, arr, ty, fz, h1, h2, h3, h4, h5⟩ := he
    exact ⟨b, arr, ty, fz, h1, h2, h3, h4, fun i a v ha hv => (h5 i a v ha hv).fnc g⟩
  | map es =>
    obtain ⟨b, arr, ck, h1, h2, h3, h4⟩ := he
    exact ⟨b, arr, ck, h1, h2, h3, fun i k a e ha hv => ⟨((h4 i k a e ha hv).1).fnc g, ((h4 i k a e ha hv).2).fnc g⟩⟩
  | _ => exact he

theorem Rw.fnc (q : Rw C base H ρ h w) (g : Nat → Option (FS El)) : Rw (C.withFn g) base H ρ h w :=
  ⟨q.big, q.out, fun i e he => (q.ent i e he).fnc g, q.inj, q.lo, q.room, q.rooms, q.roomBlk, q.ro, q.roBlk, q.roRoom, q.robj⟩

theorem Step.fnc {H' : RO} {ρ' : Nat → RE} {h' : List (HE El)} {w' : World} (s : Step C base H ρ w H' ρ' h' w') (g : Nat → Option (FS El)) : Step (C.withFn g) base H ρ w H' ρ' h' w' :=
  ⟨s.ext, s.rw.fnc g, s.pres, s.shrink, s.nro, s.nobj⟩

theorem SoundF.fnc {P : Program} {f : FuncId} {fs : FS El} (s : SoundF P C base f fs) (g : Nat → Option (FS El)) : SoundF P (C.withFn g) base f fs := by
  refine ⟨s.1, fun H ρ h w args vals R k r q hv hp => ?_⟩
  have := s.2 H ρ h w args vals R k r (q.fnc C.fn) (hv.fnc C.fn) hp
  refine this.mono fun e w' hR => ?_
  obtain ⟨u, he, v, h', H', ρ', hk, st, hu⟩ := hR
  exact ⟨u, he, v, h', H', ρ', hk, st.fnc g, hu.fnc g⟩

/-- A contract, by another one that goes as far at these arguments. -/
theorem SoundF.of {P : Program} {f : FuncId} {fs' : FS El} (he : Enters P f)
    (hr : ∀ (H : RO) (ρ : Nat → RE) (h : List (HE El)) (w : World) (args : List (AV El)) (vals : List Value) (R : Type) (k : AV El → List (HE El) → Option R) (r : R), Rw C base H ρ h w → VL C H ρ args vals → fs'.run args h k = some r →
      ∃ fs args', SoundF P C base f fs ∧ VL C H ρ args' vals ∧ fs.run args' h k = some r) : SoundF P C base f fs' := by
  refine ⟨he, fun H ρ h w args vals R k r q hv hp => ?_⟩
  obtain ⟨fs, args', h1, h2, h3⟩ := hr H ρ h w args vals.toList R k r q hv hp
  exact h1.2 H ρ h w args' vals R k r q h2 h3

/-- A contract, by the function's text in a context of the callees' contracts. -/
theorem SoundF.ofEv {P : Program} {f : FuncId} {fn : Func} {c : Code} (hf : P.funcs[f]? = some fn) (hb : fn.body = some c) (hnum : (fn.name == "runtime.NumGoroutine") = false) {g : Nat → Option (FS El)} (hC : CxOk P (C.withFn g) base) (hD : DrawOk P (C.withFn g) base) {fs : FS El}
    (hr : ∀ (H : RO) (ρ : Nat → RE) (h : List (HE El)) (args : List (AV El)) (vals : List Value) (R : Type) (k : AV El → List (HE El) → Option R) (r : R), VL C H ρ args vals → fs.run args h k = some r →
      ∃ args' hs lp L fuel, VL C H ρ args' vals ∧ LpOk (C.withFn g) h.length hs lp fuel c ∧ evF (C.withFn g) hs lp L fuel fn.ntmps fn.results.toList c args' h k = some r) : SoundF P C base f fs := by
  refine ⟨⟨fn, hf, hnum, by rw [hb]; rfl⟩, fun H ρ h w args vals R k r q hv hp => ?_⟩
  obtain ⟨args', hs, lp, L, fuel, h1, h2, h3⟩ := hr H ρ h args vals.toList R k r hv hp
  refine (evF_sound hC hD hf hb hnum hs lp L fuel h2 (q.fnc g) (h1.fnc g) h3).2.mono fun e w' hR => ?_
  obtain ⟨u, he, v, h', H', ρ', hk, st, hu⟩ := hR
  exact ⟨u, he, v, h', H', ρ', hk, st.fnc C.fn, hu.fnc C.fn⟩

end
end Go.Ev

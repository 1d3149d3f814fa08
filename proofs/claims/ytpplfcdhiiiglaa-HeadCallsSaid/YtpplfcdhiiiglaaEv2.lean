/- The abstract machine and its proof, part 2: nothing here is a statement about the program. Own work. -/
import Derived.Test.YtpplfcdhiiiglaaEv1
import Derived.Laws.AppendOwn
import Derived.Laws.RangeAny
/- Conversions, parts of texts and slices. Own work. -/
namespace Go.Ev
variable {El : Nat → Type}

section
variable {P : Program} {C : Cx El} {base : Nat} {H : RO} {ρ : Nat → RE} {h : List (HE El)} {w : World} {a : Go.Act} {o : Oper} {R : Type} {k : AV El → List (HE El) → Option R} {r : R} {nb : Nat} {sl : List (AV El)}

theorem step_dead (q : Rw C base H ρ h w) {g b lo hi : Nat} (hg : ρ g = .tok b lo hi) : Step C base H ρ w H (upd ρ g .dead) (h.set g .dead) w := by
  obtain ⟨x, q'⟩ := rw_dead q hg
  refine ⟨x, q', .refl _ _, fun b' o' _ ht => ?_, fun _ _ _ _ h => .inl h, fun _ _ _ h => .inl h⟩
  rcases ht with ⟨i, n, h1⟩ | ⟨i, lo', hi', h1, h2⟩
  · by_cases hi : i = g
    · subst hi; rw [upd_same] at h1; cases h1
    · rw [upd_other _ _ hi] at h1; exact .inl ⟨i, n, h1⟩
  · by_cases hi : i = g
    · subst hi; rw [upd_same] at h1; cases h1
    · rw [upd_other _ _ hi] at h1; exact .inr ⟨i, lo', hi', h1, h2⟩

/-- A new row, the first cells of which are never written again, with a token for the room behind them. -/
theorem step_rowTok (q : Rw C base H ρ h w) (hnb : nb ≤ h.length) (hf : isFree h nb 1 = true) (arr : Array Value) (ty : TypeId) (fz : Nat × Nat) (vs : List Value)
    (hvs : ∀ (j : Nat) v, vs[j]? = some v → arr[j]? = some v) (hfz : ∀ o, vs.length ≤ o → o < arr.size → ¬ (fz.1 ≤ o ∧ o < fz.2)) :
    Step C base H ρ w (H.add w.heap.size 0 vs) (upd ρ nb (.tok w.heap.size vs.length arr.size)) (newAt h nb [.tok]) (w.alloc (.cells arr ty fz)) := by
  have s := step_row q arr ty fz vs hvs
  have hnew : (w.alloc (.cells arr ty fz)).heap[w.heap.size]? = some (.cells arr ty fz) := by
    show (w.heap.push _)[w.heap.size]? = _
    simp
  obtain ⟨x, q'⟩ := step_grant s.rw hnb hf w.heap.size vs.length arr.size (fun _ => ⟨q.big, arr, ty, fz, hnew, Nat.le_refl _, hfz⟩) (fun _ i n hc => absurd (q.blk_lt hc) (by omega))
    (fun i lo hi hc o h1 h2 h3 h4 => by
      obtain ⟨_, _, _, _, a2, _⟩ := q.room i _ lo hi hc (by omega)
      exact absurd (Array.getElem?_eq_some_iff.1 a2).1 (by omega))
    (fun o v hv h1 h2 => by
      rcases RO.add_cases hv with ⟨_, j, hj, rfl, _⟩ | hv
      · omega
      · exact absurd (q.ro_lt hv) (by omega))
  refine ⟨s.ext.trans x, q', s.pres, fun b o hb ht => ?_, s.nro, s.nobj⟩
  rcases ht with ⟨i, n, h1⟩ | ⟨i, lo', hi', h1, h2⟩
  · by_cases hi : i = nb
    · subst hi; rw [upd_same] at h1; cases h1
    · rw [upd_other _ _ hi] at h1; exact .inl ⟨i, n, h1⟩
  · by_cases hi : i = nb
    · subst hi; rw [upd_same] at h1; cases h1; omega
    · rw [upd_other _ _ hi] at h1; exact .inr ⟨i, lo', hi', h1, h2⟩

/-- A token of no room. -/
theorem step_noRoom (q : Rw C base H ρ h w) (hnb : nb ≤ h.length) (hf : isFree h nb 1 = true) (b o : Nat) : Step C base H ρ w H (upd ρ nb (.tok b o o)) (newAt h nb [.tok]) w := by
  obtain ⟨x, q'⟩ := step_grant q hnb hf b o o (fun h => by omega) (fun h => by omega) (fun _ _ _ _ _ h1 h2 => by omega) (fun _ _ _ h1 h2 => by omega)
  refine ⟨x, q', .refl _ _, fun b' o' hb ht => ?_, fun _ _ _ _ h => .inl h, fun _ _ _ h => .inl h⟩
  rcases ht with ⟨i, n, h1⟩ | ⟨i, lo', hi', h1, h2⟩
  · by_cases hi : i = nb
    · subst hi; rw [upd_same] at h1; cases h1
    · rw [upd_other _ _ hi] at h1; exact .inl ⟨i, n, h1⟩
  · by_cases hi : i = nb
    · subst hi; rw [upd_same] at h1; cases h1; omega
    · rw [upd_other _ _ hi] at h1; exact .inr ⟨i, lo', hi', h1, h2⟩

theorem V.strOf {b : ByteArray} {s : List UInt8} (e : b.data.toList = s) (hb : s.length ≤ maxCat) : V C H ρ (.str s) (.string b) := by
  subst e; exact .str _ _ hb

theorem foldl_push (bs : List UInt8) : ∀ s : ByteArray, ((bs.map fun x => (x.toNat : Int)).foldl (fun r n => r.push (UInt8.ofNat n.toNat)) s).data.toList = s.data.toList ++ bs := by
  induction bs with
  | nil => intro s; simp
  | cons x bs ih =>
    intro s
    simp only [List.map_cons, List.foldl_cons]
    rw [ih]
    simp

theorem run_bytesToStr (bs : List UInt8) (b o : Nat) (cap : Nat) (hc : ∀ (i : Nat) x, bs[i]? = some x → w.cell? ⟨b, o + i, none⟩ = some (.int .u8 x.toNat)) :
    ∃ s : ByteArray, (Conv.bytesToString (.slice (some ⟨b, o, none⟩) bs.length cap)).run P w = .ok (.string s) w ∧ s.data.toList = bs := by
  have hl : (loadCells ⟨b, o, none⟩ bs.length).run P w = .ok ((bs.map fun x => (x.toNat : Int)).map (Value.int .u8)).toArray w := by
    have := run_loadCells_list (P := P) w ⟨b, o, none⟩ ((bs.map fun x => (x.toNat : Int)).map (Value.int .u8)) (fun j v hv => by
      simp only [List.getElem?_map, Option.map_map] at hv
      cases e : bs[j]? with
      | none => rw [e] at hv; cases hv
      | some x =>
        rw [e] at hv
        simp only [Option.map_some, Option.some.injEq] at hv
        subst hv
        rw [addr_add]
        exact hc j x e)
    simpa using this
  exact ⟨_, run_bytesToString (P := P) w _ _ _ _ hl, by rw [foldl_push]; simp⟩

theorem freeze_alloc (w : World) (arr : Array Value) (e : TypeId) (n : Nat) : (w.alloc (.cells arr e (0, 0))).freeze ⟨w.heap.size, n, none⟩ 1 = w.alloc (.cells arr e (n, n + 1)) := by
  unfold World.freeze
  rw [if_neg (by omega)]
  unfold World.alloc
  congr 1
  apply Array.ext_getElem?
  intro i
  simp only
  rw [Array.getElem?_modify, Array.getElem?_push, Array.getElem?_push]
  by_cases hi : w.heap.size = i
  · subst hi; simp
  · rw [if_neg hi, if_neg (fun e => hi e.symm), if_neg (fun e => hi e.symm)]

theorem go_conv (hT : TTOk P C) (hS : VL C H ρ sl a.tmps.toList) (q : Rw C base H ρ h w) (hnb : nb ≤ h.length) {src dst : TypeId} {x : Operand} (ho : o.op = .convert src dst x) (hp : perform (execA C h sl o) h nb k = some r) : Goes P o a w (Post C base H ρ w k r) := by
  simp only [execA, ho, convA] at hp
  have hx := opd_ok hS x
  split at hp
  · simp [perform] at hp
  rename_i ti hti
  have ht := hT _ _ hti
  have hty := ht.ty
  split at hp
  · simp [perform] at hp
  rename_i hsrc
  obtain ⟨si, hsi⟩ : ∃ si, C.tt src = some si := by
    cases e : C.tt src with
    | none => simp [e] at hsrc
    | some si => exact ⟨si, rfl⟩
  have hs := hT _ _ hsi
  obtain ⟨ds, hds⟩ := Option.isSome_iff_exists.1 hs.und
  have hby : byteAddr C src = true → ∃ e, P.underlying src = some (.slice e) ∧ P.underlying e = some (.int .u8) := by
    intro hb
    simp only [byteAddr, hsi] at hb
    have hsty := hs.ty
    split at hb
    · rename_i e
      rw [e] at hsty
      obtain ⟨e', ie, h1, h2, _⟩ := hsty
      exact ⟨e', h1, h2⟩
    · cases hb
  split at hp
  · rename_i kd _ n hk hxo
    rw [hxo] at hx
    rw [hk] at hty
    have hu : P.underlying dst = some (.int kd) := hty
    simp only [bif_ble, bif_blt, perform] at hp
    obtain ⟨he, _⟩ := hx.intE
    refine goes_value (w' := w) (u := .int kd (kd.wrap n)) ?_ (.now q hp (.int _ _ _ (inR_wrap _ _)))
    simp [execOp, ho, convert, run_underlying hds, run_underlying hu, he, Conv.intToInt]
  · rename_i s hk hxo
    rw [hxo] at hx
    rw [hk] at hty
    have hu : P.underlying dst = some .string := hty
    simp only [bif_ble, bif_blt, perform] at hp
    generalize hv : a.eval x = vx at hx
    cases hx with
    | str _ b hb =>
      refine goes_value (w' := w) ?_ (.now q hp (.str _ b hb))
      simp [execOp, ho, convert, run_underlying hds, run_underlying hu, hv]
  · rename_i kn n hk hxo
    rw [hxo] at hx
    rw [hk] at hty
    have hu : P.underlying dst = some .string := hty
    simp only [bif_ble, bif_blt, perform] at hp
    obtain ⟨he, _⟩ := hx.intE
    refine goes_value (w' := w) (u := .string (Utf8.encode n)) ?_ (.now q hp (.str _ _ ?_))
    · simp [execOp, ho, convert, run_underlying hds, run_underlying hu, he, Conv.intToString]
    · have : (Utf8.encode n).data.toList.length ≤ 4 := by
        unfold Utf8.encode
        dsimp only
        generalize (if Utf8.valid n = true then n.toNat else Utf8.runeError) = c
        by_cases c1 : c < 128
        · simp [c1]
        by_cases c2 : c < 2048
        · simp [c1, c2]
        by_cases c3 : c < 65536
        · simp [c1, c2, c3]
        · simp [c1, c2, c3]
      unfold maxCat
      omega
  · rename_i f s hk hxo
    rw [hxo] at hx
    rw [hk] at hty
    have hu : P.underlying dst = some .string := hty
    split at hp
    case isFalse => simp [perform] at hp
    rename_i hb
    obtain ⟨e, h1, h2⟩ := hby hb
    simp only [bif_ble, bif_blt, perform] at hp
    generalize hv : a.eval x = vx at hx
    cases hx with
    | bytesN _ _ hf =>
      refine goes_value (w' := w) (u := .string .empty) ?_ (.now q hp (V.strOf rfl (by simp [maxCat])))
      simp [execOp, ho, hv, run_convert_bytes_string w src dst e _ _ _ h1 h2 hu, Conv.bytesToString]
    | bytes _ _ _ b o' cap hf hc hcell =>
      obtain ⟨bs, e1, e2⟩ := run_bytesToStr (P := P) (w := w) s b o' cap (fun i y hy => q.ro _ _ _ (hcell i y hy))
      refine goes_value (w' := w) (u := .string bs) ?_ (.now q hp (V.strOf e2 hc.2))
      simp [execOp, ho, hv, run_convert_bytes_string w src dst e _ _ _ h1 h2 hu, e1]
  · rename_i id hk hxo
    rw [hxo] at hx
    rw [hk] at hty
    have hu : P.underlying dst = some .string := hty
    split at hp
    case isFalse => simp [perform] at hp
    rename_i hb
    obtain ⟨e, h1, h2⟩ := hby hb
    simp only [bif_ble, bif_blt, perform, isFree, if_true] at hp
    split at hp
    case h_2 => cases hp
    rename_i s hes
    simp only [List.map_cons, List.map_nil, List.cons.injEq, and_true] at hes
    obtain ⟨b, arr, ty, fz, k1, k2, k3, k4, k5⟩ := q.bytes hes
    generalize hv : a.eval x = vx at hx
    cases hx with
    | mbs _ _ b' n' cap hb' hc =>
      rw [k1] at hb'; cases hb'
      split at hp
      case isFalse => cases hp
      rename_i hcat
      obtain ⟨bs, e1, e2⟩ := run_bytesToStr (P := P) (w := w) s b 0 cap (fun i y hy => by simp [World.cell?, k2, k5 i y hy])
      refine goes_value (w' := w) (u := .string bs) ?_ (.now q hp (V.strOf e2 hcat))
      simp [execOp, ho, hv, run_convert_bytes_string w src dst e _ _ _ h1 h2 hu, e1]
  · rename_i hk hxo
    rw [hxo] at hx
    rw [hk] at hty
    have hu : P.underlying dst = some .string := hty
    split at hp
    case isFalse => simp [perform] at hp
    rename_i hb
    obtain ⟨e, h1, h2⟩ := hby hb
    simp only [bif_ble, bif_blt, perform] at hp
    generalize hv : a.eval x = vx at hx
    cases hx
    refine goes_value (w' := w) (u := .string .empty) ?_ (.now q hp (V.strOf rfl (by simp [maxCat])))
    simp [execOp, ho, hv, run_convert_bytes_string w src dst e _ _ _ h1 h2 hu, Conv.bytesToString]
  · rename_i s hk hxo
    rw [hxo] at hx
    rw [hk] at hty
    obtain ⟨e, ie, hu, he8, _⟩ := hty
    simp only [bif_ble, bif_blt, perform] at hp
    split at hp
    case isFalse => cases hp
    rename_i hf
    split at hp
    case isFalse => cases hp
    rename_i hlen
    simp [putAt] at hp
    generalize hv : a.eval x = vx at hx
    cases hx with
    | str _ b hb =>
      have hsz : b.size = b.data.toList.length := rfl
      generalize hcap : (Question.appendCap b.size 0 e).cut (w.tape w.drawn (.appendCap b.size 0 e)) = cap at *
      have hge : b.size ≤ cap := by rw [← hcap]; simp [Question.cut]
      generalize harr : (b.data.map fun x => Value.int .u8 x.toNat) ++ Array.replicate (cap - b.size) (.int .u8 0) = arr
      have harl : arr.size = cap := by
        rw [← harr]
        have : b.data.size = b.size := rfl
        simp; omega
      have hat : ∀ (j : Nat) v, (b.data.toList.map fun x => Value.int .u8 x.toNat)[j]? = some v → arr[j]? = some v := by
        intro j v hv'
        rw [← harr, Array.getElem?_append_left]
        · simpa using hv'
        · have : j < (b.data.toList.map fun x => Value.int .u8 (x.toNat : Int)).length := by
            rcases Nat.lt_or_ge j (b.data.toList.map fun x => Value.int .u8 (x.toNat : Int)).length with h' | h'
            · exact h'
            · rw [List.getElem?_eq_none h'] at hv'; cases hv'
          simpa using this
      have hrun : (execOp a.eval o).run P w = .ok (.value (.slice (some ⟨w.heap.size, 0, none⟩) b.size cap)) (w.drew.alloc (.cells arr e (cap, cap + 1))) := by
        have hfr := freeze_alloc w.drew arr e cap
        have hshape : (w.drew.alloc (.cells arr e (0, 0))).shape? w.heap.size = some (e, cap) := by
          unfold World.shape?
          have : (w.drew.alloc (.cells arr e (0, 0))).heap[w.heap.size]? = some (.cells arr e (0, 0)) := by
            show (w.heap.push _)[w.heap.size]? = _
            simp
          rw [this]; simp only [harl]
        simp only [World.size_drew] at hfr
        simp [execOp, ho, hv, convert, run_underlying hds, run_underlying hu, run_underlying he8, Conv.stringToBytes, Question.forced, hcap, harr, newRow, markStringish, hshape, hfr]
      have s1 := Step.drew q
      have s2 := step_rowTok (w := w.drew) s1.rw hnb hf arr e (cap, cap + 1) (b.data.toList.map fun x => Value.int .u8 x.toNat) hat (fun o' h1 h2 => by simp only; omega)
      refine goes_value hrun ⟨_, _, _, _, hp, s1.trans s2, ?_⟩
      have hlen2 : b.data.toList.length ≤ maxCat := hb
      refine .bytes _ _ _ _ _ _ (.inr ⟨_, _, _, upd_same _ _ _, .inr ⟨rfl, by simp, by simp [harl]⟩⟩) ⟨hge, hb⟩ fun i y hy => ?_
      have hi : i < (b.data.toList.map fun x => Value.int .u8 (x.toNat : Int)).length := by
        rcases Nat.lt_or_ge i b.data.toList.length with h' | h'
        · simpa using h'
        · rw [List.getElem?_eq_none h'] at hy; cases hy
      have := RO.add_at H w.drew.heap.size 0 (b.data.toList.map fun x => Value.int .u8 (x.toNat : Int)) i hi
      simp only [World.size_drew] at this ⊢
      rw [this]
      have hi' : i < b.data.toList.length := by simpa using hi
      rw [List.getElem?_eq_getElem hi'] at hy
      cases hy
      simp
  · simp [perform] at hp
end
end Go.Ev

/- Parts of texts and slices; structs and arrays built. Own work. -/
namespace Go.Ev
variable {El : Nat → Type}

section
variable {P : Program} {C : Cx El} {base : Nat} {H : RO} {ρ : Nat → RE} {h : List (HE El)} {w : World} {a : Go.Act} {o : Oper} {R : Type} {k : AV El → List (HE El) → Option R} {r : R} {nb : Nat} {sl : List (AV El)}

theorem run_sliceBound (kk : IntKind) (n y : Nat) (code : BoundsCode) (hn : n ≤ y) : (Instr.sliceBound (.int kk n) y code).run P w = .ok n w := by
  simp [Instr.sliceBound, asIntOf, hn]

theorem run_sliceBounds (isSlice : Bool) (len cap : Nat) (lo hi mx : Option Value) (x y m : Nat) (hlo : lo = none ∧ x = 0 ∨ ∃ kk, lo = some (.int kk x)) (hhi : hi = none ∧ y = len ∨ ∃ kk, hi = some (.int kk y))
    (hmx : mx = none ∧ m = cap ∨ (∃ kk, mx = some (.int kk m)) ∧ hi.isSome = true) (h1 : x ≤ y) (h2 : y ≤ m) (h3 : m ≤ cap) :
    (Instr.sliceBounds isSlice len cap lo hi mx).run P w = .ok (x, y, m) w := by
  rcases hmx with ⟨rfl, rfl⟩ | ⟨⟨km, rfl⟩, hh⟩
  · rcases hhi with ⟨rfl, rfl⟩ | ⟨kh, rfl⟩
    · rcases hlo with ⟨rfl, rfl⟩ | ⟨kl, rfl⟩
      · simp [Instr.sliceBounds]
      · simp [Instr.sliceBounds, run_sliceBound _ _ _ _ h1]
    · rcases hlo with ⟨rfl, rfl⟩ | ⟨kl, rfl⟩
      · simp [Instr.sliceBounds, run_sliceBound _ _ _ _ h2]
      · simp [Instr.sliceBounds, run_sliceBound _ _ _ _ h2, run_sliceBound _ _ _ _ h1]
  · rcases hhi with ⟨rfl, rfl⟩ | ⟨kh, rfl⟩
    · simp at hh
    · rcases hlo with ⟨rfl, rfl⟩ | ⟨kl, rfl⟩
      · simp [Instr.sliceBounds, run_sliceBound _ _ _ _ h2, run_sliceBound _ _ _ _ h3]
      · simp [Instr.sliceBounds, run_sliceBound _ _ _ _ h2, run_sliceBound _ _ _ _ h1, run_sliceBound _ _ _ _ h3]

/-- An operand that may be lacking. -/
theorem boundA_ok {x : Option Operand} (hS : VL C H ρ sl a.tmps.toList) {d n : Int} (e : boundA (x.map (opd sl)) d = some n) :
    (x.map a.eval = none ∧ x = none ∧ n = d) ∨ ∃ kk, x.map a.eval = some (.int kk n) ∧ x.isSome = true := by
  cases x with
  | none => simp [boundA] at e; exact .inl ⟨rfl, rfl, e.symm⟩
  | some x =>
    have hx := opd_ok hS x
    simp only [Option.map_some] at e
    generalize opd sl x = v at e hx
    cases v <;> simp [boundA] at e
    subst e
    exact .inr ⟨_, by simp only [Option.map_some, hx.intE.1]; rfl, rfl⟩

theorem inside_iff {x y m n : Int} : inside x y m n = true ↔ 0 ≤ x ∧ x ≤ y ∧ y ≤ n ∧ y = m := by simp [inside, and_assoc]

theorem FlOk.cut {f : Fl} {b o len cap w x : Nat} (hf : FlOk ρ f b o len cap w) (hx : x ≤ len) (hc : len ≤ cap) : FlOk ρ f b (if cap = x then o else o + x * w) (len - x) (cap - x) w := by
  cases f with
  | nil => exact hf
  | full => simp only [FlOk] at *; omega
  | nn => trivial
  | shr => trivial
  | tok g =>
    rcases hf with hf | ⟨b', lo, hi, h1, h2⟩
    · exact .inl hf
    · refine .inr ⟨b', lo, hi, h1, ?_⟩
      rcases h2 with h2 | ⟨h2, h3, h4⟩
      · exact .inl (by omega)
      · by_cases hcx : cap = x
        · exact .inl (by omega)
        · rw [if_neg hcx]
          refine .inr ⟨h2, ?_, ?_⟩
          · rw [h3, Nat.add_assoc, ← Nat.add_mul]; congr 2; omega
          · rw [h4, Nat.add_assoc, ← Nat.add_mul]; congr 2; omega

theorem getElem?_cut {α : Type} (l : List α) (x y i : Nat) : ((l.take y).drop x)[i]? = if x + i < y then l[x + i]? else none := by
  rw [List.getElem?_drop, List.getElem?_take]

theorem run_slice_row {t e : TypeId} {sz : Nat} (hu : P.underlying t = some (.slice e)) (hs : sizeP P e = some sz) (p : Option Addr) (len cap : Nat) (lo hi mx : Option Value) (x y m : Nat)
    (hb : (Instr.sliceBounds true len cap lo hi mx).run P w = .ok (x, y, m) w) :
    (Instr.sliceAt t (.slice p len cap) lo hi mx).run P w = .ok (.slice (if m = x then p else p.map (·.add (x * sz))) (y - x) (m - x)) w := by
  simp [Instr.sliceAt, Instr.slice, run_underlying hu, hb, run_sizeOf hs]

theorem boundM_ok {hi mx : Option Operand} (hS : VL C H ρ sl a.tmps.toList) {d n : Int} (e : boundM (hi.map (opd sl)) (mx.map (opd sl)) d = some n) :
    (mx = none ∧ n = d) ∨ ∃ kk, mx.map a.eval = some (.int kk n) ∧ mx.isSome = true ∧ hi.isSome = true := by
  cases mx with
  | none => simp [boundM] at e; exact .inl ⟨rfl, e.symm⟩
  | some x =>
    have hx := opd_ok hS x
    simp only [Option.map_some] at e
    generalize opd sl x = v at e hx
    cases v <;> simp [boundM] at e
    obtain ⟨e1, rfl⟩ := e
    exact .inr ⟨_, by simp only [Option.map_some, hx.intE.1]; rfl, rfl, e1⟩

/-- The bounds of a part of a slice, whose whole has a room behind it, or none. -/
theorem bounds_row {lo hi mx : Option Operand} (hS : VL C H ρ sl a.tmps.toList) {len cap x y : Nat} {d : Int} (hd : d = (len : Int)) (hc : len ≤ cap) (e1 : boundA (lo.map (opd sl)) 0 = some (x : Int)) (e2 : boundA (hi.map (opd sl)) d = some (y : Int))
    (e3 : boundM (hi.map (opd sl)) (mx.map (opd sl)) (y : Int) = some (y : Int)) (h1 : x ≤ y) (h2 : y ≤ len) :
    (Instr.sliceBounds true len cap (lo.map a.eval) (hi.map a.eval) (mx.map a.eval)).run P w = .ok (x, y, if mx.isSome then y else cap) w := by
  refine run_sliceBounds true len cap _ _ _ x y _ ?_ ?_ ?_ h1 ?_ ?_
  · rcases boundA_ok hS e1 with ⟨h1, _, h2⟩ | ⟨kk, h1, _⟩
    · exact .inl ⟨h1, by omega⟩
    · exact .inr ⟨kk, h1⟩
  · rcases boundA_ok hS e2 with ⟨h1, _, h2⟩ | ⟨kk, h1, _⟩
    · exact .inl ⟨h1, by omega⟩
    · exact .inr ⟨kk, h1⟩
  · rcases boundM_ok hS e3 with ⟨h3, _⟩ | ⟨kk, h1, h3, h4⟩
    · subst h3; exact .inl ⟨rfl, rfl⟩
    · rw [if_pos h3]
      exact .inr ⟨⟨kk, h1⟩, by simpa using h4⟩
  · split <;> omega
  · split <;> omega

theorem cut_flag {f : Fl} {hi mx : Option Operand} {b o' len cap wd x y : Nat} (hf : FlOk ρ f b o' len cap wd) (h1 : x ≤ y) (h2 : y ≤ len) (hc : len ≤ cap) (hhi : hi = none → y = len) :
    FlOk ρ (cutF f (hi.map (opd sl)) (mx.map (opd sl))) b (if (if mx.isSome then y else cap) = x then o' else o' + x * wd) (y - x) ((if mx.isSome then y else cap) - x) wd := by
  cases mx with
  | some m => simp [cutF, FlOk]
  | none =>
    cases hi with
    | some _ => simp [cutF, FlOk]
    | none =>
      have := hhi rfl
      subst this
      simp only [cutF, Option.map_none, Option.isSome_none, Bool.false_eq_true, if_false]
      exact hf.cut h1 hc

theorem cut_nil {f : Fl} {hi mx : Option Operand} (hf : FlNil ρ f) : FlNil ρ (cutF f (hi.map (opd sl)) (mx.map (opd sl))) := by
  cases mx with
  | some m => simp [cutF, FlNil]
  | none =>
    cases hi with
    | some _ => simp [cutF, FlNil]
    | none => exact hf

theorem V.cutBytes {f : Fl} {s : List UInt8} {p : Option Addr} {len cap x y : Nat} {hi mx : Option Operand} (hx : V C H ρ (.bytes f s) (.slice p len cap)) (h1 : x ≤ y) (h2 : y ≤ s.length) (hhi : hi = none → y = s.length) :
    V C H ρ (.bytes (cutF f (hi.map (opd sl)) (mx.map (opd sl))) ((s.take y).drop x)) (.slice (if (if mx.isSome then y else cap) = x then p else p.map (·.add (x * 1))) (y - x) ((if mx.isSome then y else cap) - x)) := by
  cases hx with
  | bytesN _ _ hf =>
    have hy0 : y = 0 := by simpa using h2
    have hx0 : x = 0 := by omega
    subst hy0; subst hx0
    simp
    exact .bytesN _ _ (cut_nil hf)
  | bytes _ _ _ b o' _ hf hc hcell =>
    have hl : ((s.take y).drop x).length = y - x := by simp; omega
    have hle : (if mx.isSome then y else cap) ≤ cap ∧ y ≤ (if mx.isSome then y else cap) := by split <;> omega
    have hv := V.bytes (C := C) (H := H) ρ (cutF f (hi.map (opd sl)) (mx.map (opd sl))) ((s.take y).drop x) b (if (if mx.isSome then y else cap) = x then o' else o' + x * 1) ((if mx.isSome then y else cap) - x)
      (by rw [hl]; exact cut_flag hf h1 h2 hc.1 hhi) (by rw [hl]; omega) (fun i z hz => by
        rw [getElem?_cut] at hz
        split at hz
        · rename_i hi
          rw [if_neg (by omega)]
          have := hcell (x + i) z hz
          rwa [show o' + x * 1 + i = o' + (x + i) by omega]
        · cases hz)
    rw [hl] at hv
    have e : (if (if mx.isSome then y else cap) = x then some (⟨b, o', none⟩ : Addr) else (some (⟨b, o', none⟩ : Addr)).map (·.add (x * 1))) = some ⟨b, if (if mx.isSome then y else cap) = x then o' else o' + x * 1, none⟩ := by
      by_cases hq : (if mx.isSome = true then y else cap) = x
      · rw [if_pos hq, if_pos hq]
      · rw [if_neg hq, if_neg hq]; simp only [Option.map_some, addr_add]
    rw [e]
    exact hv

theorem V.cutList {f : Fl} {c : Nat} {s : List (El c)} {p : Option Addr} {len cap x y : Nat} {hi mx : Option Operand} (hx : V C H ρ (.list f c s) (.slice p len cap)) (h1 : x ≤ y) (h2 : y ≤ s.length) (hhi : hi = none → y = s.length) :
    V C H ρ (.list (cutF f (hi.map (opd sl)) (mx.map (opd sl))) c ((s.take y).drop x)) (.slice (if (if mx.isSome then y else cap) = x then p else p.map (·.add (x * C.lay.w c))) (y - x) ((if mx.isSome then y else cap) - x)) := by
  cases hx with
  | listN _ _ _ hf =>
    have hy0 : y = 0 := by simpa using h2
    have hx0 : x = 0 := by omega
    subst hy0; subst hx0
    simp
    exact .listN _ _ _ (cut_nil hf)
  | list _ _ _ _ b o' _ vs hf hc hc1 hc2 =>
    have hl : ((s.take y).drop x).length = y - x := by simp; omega
    have hle : (if mx.isSome then y else cap) ≤ cap ∧ y ≤ (if mx.isSome then y else cap) := by split <;> omega
    have hv := V.list (C := C) (H := H) ρ (cutF f (hi.map (opd sl)) (mx.map (opd sl))) c ((s.take y).drop x) b (if (if mx.isSome then y else cap) = x then o' else o' + x * C.lay.w c) ((if mx.isSome then y else cap) - x) (fun i => vs (x + i))
      (by rw [hl]; exact cut_flag hf h1 h2 hc.1 hhi) (by rw [hl]; omega) (fun i z j u hz hu => by
        rw [getElem?_cut] at hz
        split at hz
        · rename_i hi
          rw [if_neg (by omega)]
          have := hc1 (x + i) z j u hz hu
          rwa [show o' + x * C.lay.w c + i * C.lay.w c + j = o' + (x + i) * C.lay.w c + j by rw [Nat.add_mul]; omega]
        · cases hz) (fun i z j u hz hu => by
        rw [getElem?_cut] at hz
        split at hz
        · exact hc2 (x + i) z j u hz hu
        · cases hz)
    rw [hl] at hv
    have e : (if (if mx.isSome then y else cap) = x then some (⟨b, o', none⟩ : Addr) else (some (⟨b, o', none⟩ : Addr)).map (·.add (x * C.lay.w c))) = some ⟨b, if (if mx.isSome then y else cap) = x then o' else o' + x * C.lay.w c, none⟩ := by
      by_cases hq : (if mx.isSome = true then y else cap) = x
      · rw [if_pos hq, if_pos hq]
      · rw [if_neg hq, if_neg hq]; simp only [Option.map_some, addr_add]
    rw [e]
    exact hv

theorem go_slice (hT : TTOk P C) (hS : VL C H ρ sl a.tmps.toList) (q : Rw C base H ρ h w) {t : TypeId} {x : Operand} {lo hi mx : Option Operand} (ho : o.op = .slice t x lo hi mx) (hp : perform (execA C h sl o) h nb k = some r) : Goes P o a w (Post C base H ρ w k r) := by
  simp only [execA, ho] at hp
  have hx := opd_ok hS x
  split at hp
  · simp [perform] at hp
  rename_i ti hti
  have ht := hT _ _ hti
  have hty := ht.ty
  generalize ti.ty = ty at hp hty
  cases ty with
  | str =>
    have hu : P.underlying t = some .string := hty
    simp only [sliceA] at hp
    split at hp
    case h_2 => simp [ofChk, perform] at hp
    rename_i s hxo
    rw [hxo] at hx
    split at hp
    case h_2 => simp [ofChk, perform] at hp
    rename_i n1 n2 e1 e2 e3
    obtain ⟨hin, hk⟩ := perform_chk hp
    rw [inside_iff] at hin
    obtain ⟨x1, rfl⟩ : ∃ m : Nat, n1 = m := ⟨n1.toNat, by omega⟩
    obtain ⟨y1, rfl⟩ : ∃ m : Nat, n2 = m := ⟨n2.toNat, by omega⟩
    have hmx : mx = none := by cases mx <;> simp at e3 ⊢
    subst hmx
    generalize hv : a.eval x = vx at hx
    cases hx with
    | str _ b hb =>
      have hsz : b.size = b.data.toList.length := rfl
      have hr := run_sliceBounds (P := P) (w := w) false b.size b.size (lo.map a.eval) (hi.map a.eval) none x1 y1 b.size
        (by rcases boundA_ok hS e1 with ⟨h1, _, h2⟩ | ⟨kk, h1, _⟩
            · exact .inl ⟨h1, by omega⟩
            · exact .inr ⟨kk, h1⟩)
        (by rcases boundA_ok hS e2 with ⟨h1, _, h2⟩ | ⟨kk, h1, _⟩
            · exact .inl ⟨h1, by omega⟩
            · exact .inr ⟨kk, h1⟩) (.inl ⟨rfl, rfl⟩) (by omega) (by omega) (Nat.le_refl _)
      have hext : (b.extract x1 y1).data.toList = (b.data.toList.take y1).drop x1 := by
        rw [ByteArray.data_extract, Array.toList_extract]
        simp [List.drop_take]
      refine goes_value (w' := w) (u := .string (b.extract x1 y1)) ?_ (.now q hk ?_)
      · simp [execOp, ho, Instr.sliceAt, Instr.slice, run_underlying hu, hv, hr]
      · simp only [Int.toNat_natCast]
        exact V.strOf hext (by simp; omega)
  | bslice =>
    obtain ⟨e, ie, hu, _, hi1, hi2, _⟩ := hty
    simp only [sliceA] at hp
    split at hp
    case h_2 => simp [ofChk, perform] at hp
    rename_i f s hxo
    rw [hxo] at hx
    split at hp
    case h_2 => simp [ofChk, perform] at hp
    rename_i n1 n2 e1 e2
    split at hp
    case h_2 => simp [ofChk, perform] at hp
    rename_i n3 e3
    obtain ⟨hin, hk⟩ := perform_chk hp
    rw [inside_iff] at hin
    obtain ⟨x1, rfl⟩ : ∃ m : Nat, n1 = m := ⟨n1.toNat, by omega⟩
    obtain ⟨y1, rfl⟩ : ∃ m : Nat, n2 = m := ⟨n2.toNat, by omega⟩
    have hm : n3 = y1 := by omega
    subst hm
    simp only [Int.toNat_natCast] at hk
    obtain ⟨p, cap, hv, hcap⟩ : ∃ p cap, a.eval x = .slice p s.length cap ∧ s.length ≤ cap := by
      generalize a.eval x = vx at hx
      cases hx with
      | bytesN _ _ hf => exact ⟨_, _, rfl, Nat.le_refl _⟩
      | bytes _ _ _ b o' cap hf hc hcell => exact ⟨_, _, rfl, hc.1⟩
    rw [hv] at hx
    have hy := hin.2.2.1
    have hxy := hin.2.1
    have hb := bounds_row (P := P) (w := w) hS (len := s.length) (cap := cap) (x := x1) (y := y1) rfl hcap e1 e2 e3 (by omega) (by omega)
    have hr := run_slice_row (w := w) hu (by simp [sizeP, hi1]; exact hi2) p s.length cap _ _ _ _ _ _ hb
    refine goes_value (w' := w) ?_ (.now q hk (V.cutBytes hx (by omega) (by omega) fun h => ?_))
    · simp [execOp, ho, hv, hr]
    · subst h
      rcases boundA_ok hS e2 with ⟨_, _, h2⟩ | ⟨_, h1, _⟩
      · omega
      · cases h1
  | slice c0 =>
    obtain ⟨hu, ie, z, hi1, hi2, _⟩ := hty
    simp only [sliceA] at hp
    split at hp
    case h_2 => simp [ofChk, perform] at hp
    rename_i f c s hxo
    rw [hxo] at hx
    split at hp
    case isFalse => simp [ofChk, perform] at hp
    rename_i hcc
    subst hcc
    split at hp
    case h_2 => simp [ofChk, perform] at hp
    rename_i n1 n2 e1 e2
    split at hp
    case h_2 => simp [ofChk, perform] at hp
    rename_i n3 e3
    obtain ⟨hin, hk⟩ := perform_chk hp
    rw [inside_iff] at hin
    obtain ⟨x1, rfl⟩ : ∃ m : Nat, n1 = m := ⟨n1.toNat, by omega⟩
    obtain ⟨y1, rfl⟩ : ∃ m : Nat, n2 = m := ⟨n2.toNat, by omega⟩
    have hm : n3 = y1 := by omega
    subst hm
    simp only [Int.toNat_natCast] at hk
    obtain ⟨p, cap, hv, hcap⟩ : ∃ p cap, a.eval x = .slice p s.length cap ∧ s.length ≤ cap := by
      generalize a.eval x = vx at hx
      cases hx with
      | listN _ _ _ hf => exact ⟨_, _, rfl, Nat.le_refl _⟩
      | list _ _ _ _ b o' cap vs hf hc hc1 hc2 => exact ⟨_, _, rfl, hc.1⟩
    rw [hv] at hx
    have hy := hin.2.2.1
    have hxy := hin.2.1
    have hb := bounds_row (P := P) (w := w) hS (len := s.length) (cap := cap) (x := x1) (y := y1) rfl hcap e1 e2 e3 (by omega) (by omega)
    have hr := run_slice_row (w := w) hu (by simp [sizeP, hi1]; exact hi2) p s.length cap _ _ _ _ _ _ hb
    refine goes_value (w' := w) ?_ (.now q hk (V.cutList hx (by omega) (by omega) fun h => ?_))
    · simp [execOp, ho, hv, hr]
    · subst h
      rcases boundA_ok hS e2 with ⟨_, _, h2⟩ | ⟨_, h1, _⟩
      · omega
      · cases h1
  | _ => simp [sliceA, ofChk, perform] at hp
end
end Go.Ev

/- append. Own work. -/
namespace Go.Ev
variable {El : Nat → Type}

section
variable {P : Program} {C : Cx El} {base : Nat} {H : RO} {ρ : Nat → RE} {h : List (HE El)} {w : World} {a : Go.Act} {o : Oper} {R : Type} {k : AV El → List (HE El) → Option R} {r : R} {nb : Nat} {sl : List (AV El)}

/-- What is appended: so many elements, these cells. -/
structure AppArg (P : Program) (w : World) (t2 : TypeId) (x : Value) (n : Nat) (vs : List Value) (wd : Nat) : Prop where
  ty : P.underlying t2 = some .string ∨ ∃ e, P.underlying t2 = some (.slice e)
  len : ∀ w', (Builtin.lenOf x).run P w' = .ok n w'
  cells : (Builtin.firstCells wd n x).run P w = .ok vs.toArray w
  cells' : (Builtin.firstCells wd n x).run P w.drew = .ok vs.toArray w.drew
  length : vs.length = n * wd

theorem run_append_in {t t2 e ty : TypeId} {ie : TypeInfo} (hu : P.underlying t = some (.slice e)) (hi : P.info? e = some ie) {x : Value} {n : Nat} {vs : List Value} (hx : AppArg P w t2 x n vs ie.size) (h1 : ∀ v ∈ vs, v.oneCell' = true)
    (b off sLen cap : Nat) (hle : sLen + n ≤ cap) (hc : ∀ j, j < vs.length → (w.cell? ⟨b, off + sLen * ie.size + j, none⟩).isSome = true) (hf : ∀ j, j < vs.length → w.frozen? ⟨b, off + sLen * ie.size + j, none⟩ = false) :
    (Builtin.append_ #[t, t2] ty #[.slice (some ⟨b, off, none⟩) sLen cap, x]).run P w = .ok (.slice (some ⟨b, off, none⟩) (sLen + n) cap) (w.setCells b (off + sLen * ie.size) vs) := by
  have hst := run_storeCells_cells (P := P) b (off + sLen * ie.size) vs 0 w (by simpa using hc) (by simpa using hf) h1
  have hadd : (⟨b, off, none⟩ : Addr).add (sLen * ie.size) = ⟨b, off + sLen * ie.size, none⟩ := addr_add _ _ _
  rcases hx.ty with hd | ⟨e2, hd⟩ <;> simp [Builtin.append_, run_underlying hu, run_underlying hd, sizeOf, typeInfo, hi, hx.len, hle, hx.cells, hadd, hst]

theorem run_append_none {t t2 e ty : TypeId} {ie : TypeInfo} (hu : P.underlying t = some (.slice e)) (hi : P.info? e = some ie) {x : Value} {vs : List Value} (hx : AppArg P w t2 x 0 vs ie.size) :
    (Builtin.append_ #[t, t2] ty #[.slice none 0 0, x]).run P w = .ok (.slice none 0 0) w := by
  rcases hx.ty with hd | ⟨e2, hd⟩ <;> simp [Builtin.append_, run_underlying hu, run_underlying hd, sizeOf, typeInfo, hi, hx.len, hx.cells]

theorem run_append_more {t t2 e ty : TypeId} {ie : TypeInfo} {z : Value} (hu : P.underlying t = some (.slice e)) (hi : P.info? e = some ie) (hz : ie.zero = some z) (hby : ie.bytes ≤ 4096) {x : Value} {n : Nat} {vs : List Value} (hx : AppArg P w t2 x n vs ie.size)
    (p : Option Addr) (sLen cap : Nat) (olds : List Value) (hold : (Builtin.firstCells ie.size sLen (.slice p sLen cap)).run P w.drew = .ok olds.toArray w.drew) (hgt : cap < sLen + n) (hmax : sLen + n ≤ maxLen') :
    ∃ c', sLen + n ≤ c' ∧ (Builtin.append_ #[t, t2] ty #[.slice p sLen cap, x]).run P w =
      .ok (.slice (some ⟨w.heap.size, 0, none⟩) (sLen + n) c') (w.drew.alloc (.cells (olds.toArray ++ vs.toArray ++ Builtin.zeroCells z.cells (c' - (sLen + n))) e)) := by
  unfold maxLen' at hmax
  refine ⟨grownCap w (sLen + n) cap e, grownCap_ge _ _ _ _, ?_⟩
  have hn : ¬ (sLen + n ≤ cap) := by omega
  have h63' : ¬ (9223372036854775807 < ((sLen : Int) + (n : Int))) := by omega
  have hfit := growslice_fits (bytes := ie.bytes) hgt (by
    have : (sLen + n) * ie.bytes ≤ 4294967296 * 4096 := Nat.mul_le_mul hmax hby
    omega)
  have h48' : ¬ (281474976710656 < Builtin.nextslicecap (sLen + n) cap * ie.bytes) := by omega
  have hc' := hx.cells'
  rcases hx.ty with hd | ⟨e2, hd⟩ <;>
    (simp [Builtin.append_, run_underlying hu, run_underlying hd, sizeOf, typeInfo, zeroValue, hi, hz, hx.len, hn, h63', h48', Question.forced, hc', hold, newRow, grownCap]
     congr 2
     apply Array.ext'
     simp [List.append_assoc])

theorem tok_of_alive (q : Rw C base H ρ h w) {g : Nat} (hal : alive [h.getD g .free] = true) : ∃ b lo hi, ρ g = .tok b lo hi := by
  cases e : h.getD g .free with
  | tok => exact q.ent g _ (q.entry e (by intro hc; cases hc))
  | _ => rw [e] at hal; simp [alive] at hal

theorem append_core (q : Rw C base H ρ h w) (hnb : nb ≤ h.length) (hf : isFree h nb 1 = true) {f : Fl} {ids : List Nat} (ht : tokOf f = some ids) (hal : alive (ids.map fun i => h.getD i .free) = true)
    {t t2 e ty : TypeId} {ie : TypeInfo} {z : Value} (hu : P.underlying t = some (.slice e)) (hi : P.info? e = some ie) (hwd : 0 < ie.size) (hby : ie.bytes ≤ 4096) (hz : ie.zero = some z) (hzs : z.cells.size = ie.size)
    {va x : Value} {n : Nat} {vs : List Value} (hx : AppArg P w t2 x n vs ie.size) (h1 : ∀ v ∈ vs, v.oneCell' = true) {sLen : Nat} {olds : List Value} (hlo : olds.length = sLen * ie.size)
    (hva : (va = .slice none 0 0 ∧ sLen = 0) ∨ ∃ b off cap, va = .slice (some ⟨b, off, none⟩) sLen cap ∧ sLen ≤ cap ∧ FlOk ρ f b off sLen cap ie.size ∧ ∀ (p : Nat) v, olds[p]? = some v → H.cell b (off + p) = some v) (hmax : sLen + n ≤ maxLen') :
    ∃ u w' H' ρ', (Builtin.append_ #[t, t2] ty #[va, x]).run P w = .ok u w' ∧ Step C base H ρ w H' ρ' (newAt (putAt h ids (deads (ids.map fun i => h.getD i .free))) nb [.tok]) w' ∧
      ((u = .slice none 0 0 ∧ sLen + n = 0 ∧ FlNil ρ' (.tok nb)) ∨ ∃ b off cap, u = .slice (some ⟨b, off, none⟩) (sLen + n) cap ∧ sLen + n ≤ cap ∧ FlOk ρ' (.tok nb) b off (sLen + n) cap ie.size ∧
        ∀ (p : Nat) v, (olds ++ vs)[p]? = some v → H'.cell b (off + p) = some v) := by
  -- the token given up first
  have hdead : ∃ ρ1, Step C base H ρ w H ρ1 (putAt h ids (deads (ids.map fun i => h.getD i .free))) w ∧ isFree (putAt h ids (deads (ids.map fun i => h.getD i .free))) nb 1 = true ∧ nb ≤ (putAt h ids (deads (ids.map fun i => h.getD i .free))).length := by
    cases f with
    | nil => cases ht; exact ⟨ρ, .refl q, hf, hnb⟩
    | full => cases ht; exact ⟨ρ, .refl q, hf, hnb⟩
    | nn => cases ht
    | shr => cases ht
    | tok g =>
      cases ht
      obtain ⟨b, lo, hi', hg⟩ := tok_of_alive q hal
      have hne : nb ≠ g := by intro e; subst e; rw [isFree_none q hf] at hg; cases hg
      refine ⟨_, step_dead q hg, ?_, by simpa [putAt, deads] using hnb⟩
      simp only [isFree, Bool.and_true] at hf ⊢
      simp only [List.map_cons, List.map_nil, deads, putAt]
      rw [List.getD_eq_getElem?_getD, List.getElem?_set_ne (fun e => hne e.symm), ← List.getD_eq_getElem?_getD]; exact hf
  obtain ⟨ρ1, s1, hf1, hnb1⟩ := hdead
  -- a new row for all
  have more : ∀ p cap, va = .slice p sLen cap → (Builtin.firstCells ie.size sLen (.slice p sLen cap)).run P w.drew = .ok olds.toArray w.drew → cap < sLen + n →
      ∃ u w' H' ρ', (Builtin.append_ #[t, t2] ty #[va, x]).run P w = .ok u w' ∧ Step C base H ρ w H' ρ' (newAt (putAt h ids (deads (ids.map fun i => h.getD i .free))) nb [.tok]) w' ∧
      ((u = .slice none 0 0 ∧ sLen + n = 0 ∧ FlNil ρ' (.tok nb)) ∨ ∃ b off cap, u = .slice (some ⟨b, off, none⟩) (sLen + n) cap ∧ sLen + n ≤ cap ∧ FlOk ρ' (.tok nb) b off (sLen + n) cap ie.size ∧
        ∀ (p : Nat) v, (olds ++ vs)[p]? = some v → H'.cell b (off + p) = some v) := by
    intro p cap e1 e2 e3
    subst e1
    obtain ⟨c', hc1, hc2⟩ := run_append_more (w := w) (ty := ty) hu hi hz hby hx p sLen cap olds e2 e3 hmax
    have s2 := Step.drew s1.rw
    have hsz : (olds.toArray ++ vs.toArray ++ Builtin.zeroCells z.cells (c' - (sLen + n))).size = c' * ie.size := by
      simp only [Array.size_append, List.size_toArray, size_zeroCells, hzs, hlo, hx.length, ← Nat.add_mul]
      congr 1
      omega
    have s3 := step_rowTok s2.rw hnb1 hf1 (olds.toArray ++ vs.toArray ++ Builtin.zeroCells z.cells (c' - (sLen + n))) e (0, 0) (olds ++ vs) (fun j v hv => by
        have hj : j < (olds ++ vs).length := by
          rcases Nat.lt_or_ge j (olds ++ vs).length with h' | h'
          · exact h'
          · rw [List.getElem?_eq_none h'] at hv; cases hv
        rw [Array.getElem?_append_left (by simpa using hj), ← hv]
        simp) (fun o' _ _ => by simp only; omega)
    refine ⟨_, _, _, _, hc2, s1.trans (s2.trans s3), .inr ⟨_, _, _, rfl, hc1, .inr ⟨_, _, _, upd_same _ _ _, .inr ⟨by simp, ?_, ?_⟩⟩, fun p v hv => ?_⟩⟩
    · simp only [List.length_append, hlo, hx.length, Nat.zero_add, Nat.add_mul]
    · rw [hsz, Nat.zero_add]
    · have hj : p < (olds ++ vs).length := by
        rcases Nat.lt_or_ge p (olds ++ vs).length with h' | h'
        · exact h'
        · rw [List.getElem?_eq_none h'] at hv; cases hv
      rw [List.getElem?_eq_getElem hj] at hv
      cases hv
      exact RO.add_at H w.drew.heap.size 0 (olds ++ vs) p hj
  rcases hva with ⟨rfl, rfl⟩ | ⟨b, off, cap, rfl, hle, hfl, hcell⟩
  · have ho : olds = [] := List.eq_nil_of_length_eq_zero (by simpa using hlo)
    subst ho
    by_cases hn : n = 0
    · subst hn
      have s2 := step_noRoom s1.rw hnb1 hf1 0 0
      have hv0 : vs = [] := List.eq_nil_of_length_eq_zero (by simpa using hx.length)
      exact ⟨_, _, _, _, run_append_none (ty := ty) hu hi hx, s1.trans s2, .inl ⟨rfl, rfl, .inr ⟨_, _, _, upd_same _ _ _⟩⟩⟩
    · exact more none 0 rfl (by simp [Builtin.firstCells]) (by omega)
  · have hfirst : (Builtin.firstCells ie.size sLen (.slice (some ⟨b, off, none⟩) sLen cap)).run P w.drew = .ok olds.toArray w.drew :=
      run_firstCells_some w.drew ie.size sLen ⟨b, off, none⟩ sLen cap olds hlo (fun j v hv => by rw [addr_add]; exact q.ro _ _ _ (hcell j v hv))
    by_cases hfit : sLen + n ≤ cap
    case neg => exact more (some ⟨b, off, none⟩) cap rfl hfirst (by omega)
    by_cases hn : n = 0
    · -- nothing more
      subst hn
      have hv0 : vs = [] := List.eq_nil_of_length_eq_zero (by simpa using hx.length)
      have hrun := run_append_in (w := w) (ty := ty) hu hi hx h1 b off sLen cap (by omega) (by rw [hv0]; intro j hj; simp at hj) (by rw [hv0]; intro j hj; simp at hj)
      rw [hv0] at hrun ⊢
      simp only [World.setCells, Nat.add_zero, List.append_nil] at hrun ⊢
      by_cases hcl : cap = sLen
      · have s2 := step_noRoom s1.rw hnb1 hf1 0 0
        exact ⟨_, _, _, _, hrun, s1.trans s2, .inr ⟨b, off, cap, rfl, hle, .inr ⟨_, _, _, upd_same _ _ _, .inl hcl⟩, fun p v hv => hcell p v hv⟩⟩
      · cases f with
        | nil => exact hfl.elim
        | full => exact absurd hfl hcl
        | nn => cases ht
        | shr => cases ht
        | tok g =>
          cases ht
          obtain ⟨b0, lo0, hi0, hg⟩ := tok_of_alive q hal
          rcases hfl with hd | ⟨b1, lo, hi1, hg', hm⟩
          · rw [hd] at hg; cases hg
          rcases hm with hm | ⟨rfl, rfl, rfl⟩
          · exact absurd hm hcl
          have hlt : off + sLen * ie.size < off + cap * ie.size := by
            have : (sLen + 1) * ie.size ≤ cap * ie.size := Nat.mul_le_mul_right _ (by omega)
            rw [Nat.add_mul] at this; omega
          have s2 := step_room q hnb hf hg' [] (by simp; omega) hlt
          simp only [World.setCells, List.length_nil, Nat.add_zero] at s2
          exact ⟨_, _, _, _, hrun, s2, .inr ⟨b1, off, cap, rfl, hle, .inr ⟨_, _, _, upd_same _ _ _, .inr ⟨rfl, rfl, rfl⟩⟩, fun p v hv => s2.ext.cell _ _ _ (hcell p v hv)⟩⟩
    · -- into the room
      cases f with
      | nil => exact hfl.elim
      | full => simp only [FlOk] at hfl; omega
      | nn => cases ht
      | shr => cases ht
      | tok g =>
        cases ht
        obtain ⟨b0, lo0, hi0, hg⟩ := tok_of_alive q hal
        rcases hfl with hd | ⟨b1, lo, hi1, hg', hm⟩
        · rw [hd] at hg; cases hg
        rcases hm with hm | ⟨rfl, rfl, rfl⟩
        · omega
        have hlen : off + sLen * ie.size + vs.length ≤ off + cap * ie.size := by
          have : (sLen + n) * ie.size ≤ cap * ie.size := Nat.mul_le_mul_right _ hfit
          rw [Nat.add_mul] at this
          rw [hx.length]; omega
        have hlt : off + sLen * ie.size < off + cap * ie.size := by
          have : (sLen + 1) * ie.size ≤ cap * ie.size := Nat.mul_le_mul_right _ (by omega)
          rw [Nat.add_mul] at this; omega
        obtain ⟨_, arr, ty', fz, k2, k3, k4⟩ := q.room g b1 _ _ hg' hlt
        have hrun := run_append_in (w := w) (ty := ty) hu hi hx h1 b1 off sLen cap hfit
          (fun j hj => by simp only [World.cell?, k2]; rw [Array.getElem?_eq_getElem (by omega)]; rfl)
          (fun j hj => by
            have := k4 (off + sLen * ie.size + j) (by omega) (by omega)
            simpa [World.frozen?, k2] using this)
        have s2 := step_room q hnb hf hg' vs hlen hlt
        refine ⟨_, _, _, _, hrun, s2, .inr ⟨b1, off, cap, rfl, hfit, .inr ⟨_, _, _, upd_same _ _ _, .inr ⟨rfl, ?_, rfl⟩⟩, fun p v hv => ?_⟩⟩
        · rw [hx.length, Nat.add_mul]; omega
        · by_cases hp : p < olds.length
          · rw [List.getElem?_append_left hp] at hv
            exact s2.ext.cell _ _ _ (hcell p v hv)
          · rw [List.getElem?_append_right (by omega)] at hv
            have hj : p - olds.length < vs.length := by
              rcases Nat.lt_or_ge (p - olds.length) vs.length with h' | h'
              · exact h'
              · rw [List.getElem?_eq_none h'] at hv; cases hv
            rw [List.getElem?_eq_getElem hj] at hv
            cases hv
            have := RO.add_at H b1 (off + sLen * ie.size) vs (p - olds.length) hj
            rwa [show off + sLen * ie.size + (p - olds.length) = off + p by omega] at this

/-- What a slice or a text holds that is appended. -/
theorem V.bytesCells {f : Fl} {s : List UInt8} {v : Value} (hv : V C H ρ (.bytes f s) v) : ∃ p cap, v = .slice p s.length cap ∧ s.length ≤ cap ∧ s.length ≤ maxCat ∧
    ((p = none ∧ s = [] ∧ cap = 0) ∨ ∃ b off, p = some ⟨b, off, none⟩ ∧ FlOk ρ f b off s.length cap 1 ∧ ∀ (j : Nat) u, (s.map fun x => Value.int .u8 x.toNat)[j]? = some u → H.cell b (off + j) = some u) := by
  cases hv with
  | bytesN _ _ _ => exact ⟨none, 0, rfl, Nat.le_refl _, by simp [maxCat], .inl ⟨rfl, rfl, rfl⟩⟩
  | bytes _ _ _ b off cap hf hc h =>
    refine ⟨_, cap, rfl, hc.1, hc.2, .inr ⟨b, off, rfl, hf, fun j u hu => ?_⟩⟩
    rw [List.getElem?_map] at hu
    cases e : s[j]? with
    | none => rw [e] at hu; cases hu
    | some x => rw [e] at hu; cases hu; exact h j x e

theorem arg_bytes {t2 e : TypeId} {f : Fl} {s : List UInt8} {v : Value} (q : Rw C base H ρ h w) (hu : P.underlying t2 = some (.slice e)) (hv : V C H ρ (.bytes f s) v) : AppArg P w t2 v s.length (s.map fun x => Value.int .u8 x.toNat) 1 := by
  obtain ⟨p, cap, rfl, h1, h2, h3⟩ := hv.bytesCells
  refine ⟨.inr ⟨e, hu⟩, fun _ => by simp [Builtin.lenOf], ?_, ?_, by simp⟩
  · rcases h3 with ⟨rfl, rfl, rfl⟩ | ⟨b, off, rfl, _, hc⟩
    · simp [Builtin.firstCells]
    · exact run_firstCells_some w 1 s.length ⟨b, off, none⟩ _ cap _ (by simp) fun j u hu => by rw [addr_add]; exact q.ro _ _ _ (hc j u hu)
  · rcases h3 with ⟨rfl, rfl, rfl⟩ | ⟨b, off, rfl, _, hc⟩
    · simp [Builtin.firstCells]
    · exact run_firstCells_some w.drew 1 s.length ⟨b, off, none⟩ _ cap _ (by simp) fun j u hu => by rw [addr_add]; exact q.ro _ _ _ (hc j u hu)

theorem arg_str {t2 : TypeId} {s : List UInt8} {v : Value} (hu : P.underlying t2 = some .string) (hv : V C H ρ (.str s) v) : AppArg P w t2 v s.length (s.map fun x => Value.int .u8 x.toNat) 1 := by
  cases hv with
  | str _ b hb =>
    have hsz : b.size = b.data.toList.length := rfl
    have hx : ((b.extract 0 b.data.toList.length).data.map fun x : UInt8 => Value.int .u8 x.toNat) = (b.data.toList.map fun x : UInt8 => Value.int .u8 x.toNat).toArray := by
      apply Array.ext'
      rw [Array.toList_map, ByteArray.data_extract, Array.toList_extract]
      simp
      exact List.take_of_length_le (by rw [List.length_map, hsz]; exact Nat.le_refl _)
    have hle : ∀ w', (Builtin.lenOf (.string b)).run P w' = .ok b.data.toList.length w' := fun _ => by simp only [Builtin.lenOf, Sem.run_pure]; rfl
    exact ⟨.inl hu, hle, by simp only [Builtin.firstCells, hx, Sem.run_pure], by simp only [Builtin.firstCells, hx, Sem.run_pure], by simp⟩

theorem oneCell_bytes (s : List UInt8) : ∀ v ∈ s.map (fun x => Value.int .u8 x.toNat), v.oneCell' = true := by
  intro v hv
  obtain ⟨x, _, rfl⟩ := List.mem_map.1 hv
  rfl

theorem V.ofBytes {u : Value} {f : Fl} {s : List UInt8} (hs : s.length ≤ maxCat)
    (hu : (u = .slice none 0 0 ∧ s.length = 0 ∧ FlNil ρ f) ∨ ∃ b off cap, u = .slice (some ⟨b, off, none⟩) s.length cap ∧ s.length ≤ cap ∧ FlOk ρ f b off s.length cap 1 ∧ ∀ (p : Nat) v, (s.map fun x => Value.int .u8 x.toNat)[p]? = some v → H.cell b (off + p) = some v) :
    V C H ρ (.bytes f s) u := by
  rcases hu with ⟨rfl, h1, h2⟩ | ⟨b, off, cap, rfl, h1, h2, h3⟩
  · obtain rfl := List.eq_nil_of_length_eq_zero h1
    exact .bytesN _ _ h2
  · refine .bytes _ _ _ _ _ _ h2 ⟨h1, hs⟩ fun i x hx => h3 i _ (by rw [List.getElem?_map, hx]; rfl)

theorem appA_perf {f : Fl} {ok : Bool} {mk : Fl → AV El} (hp : perform (appA f ok mk : Act El R) h nb k = some r) : ∃ ids, tokOf f = some ids ∧ isFree h nb 1 = true ∧ alive (ids.map fun i => h.getD i .free) = true ∧ ok = true ∧
    k (mk (.tok nb)) (newAt (putAt h ids (deads (ids.map fun i => h.getD i .free))) nb [.tok]) = some r := by
  unfold appA at hp
  split at hp
  · simp [perform] at hp
  · rename_i ids hids
    simp only [bif_ble, bif_blt, perform] at hp
    split at hp
    case isFalse => cases hp
    rename_i hf
    split at hp
    case isFalse => cases hp
    rename_i hal
    obtain ⟨hok, hp⟩ := cond_some hp
    refine ⟨ids, hids, hf, hal, hok, ?_⟩
    have hd : ∀ l : List (HE El), (deads l).length = l.length := by
      intro l; induction l with
      | nil => rfl
      | cons x l ih => simp [deads, ih]
    have hpa : ∀ (is : List Nat) (es : List (HE El)) (h : List (HE El)) (y : List (HE El)), es.length = is.length → putAt h is (es ++ y) = putAt h is es := by
      intro is
      induction is with
      | nil => intro es h y he; cases es with
        | nil => cases y <;> simp [putAt]
        | cons _ _ => simp at he
      | cons i is ih => intro es h y he; cases es with
        | nil => simp at he
        | cons e es => simp only [List.cons_append, putAt]; exact ih es _ y (by simpa using he)
    simp only [Bool.false_eq_true, if_false, List.length_append, hd, List.length_map, List.length_cons, List.length_nil, if_true] at hp
    rw [hpa _ _ _ _ (by simp [hd]), List.drop_append_of_le_length (by simp [hd]), List.drop_eq_nil_of_le (by simp [hd]), List.nil_append] at hp
    exact hp
end
end Go.Ev

/- append, of elements; slices and structs written out. Own work. -/
namespace Go.Ev
variable {El : Nat → Type}

section
variable {P : Program} {C : Cx El} {base : Nat} {H : RO} {ρ : Nat → RE} {h : List (HE El)} {w : World} {a : Go.Act} {o : Oper} {R : Type} {k : AV El → List (HE El) → Option R} {r : R} {nb : Nat} {sl : List (AV El)}

/-- The cells of a slice's elements, one behind the other. -/
def RowOf (C : Cx El) (H : RO) {c : Nat} (l : List (El c)) (vs : List Value) : Prop :=
  vs.length = l.length * C.lay.w c ∧ ∀ (i : Nat) x, l[i]? = some x → VL C H ρ0 (C.lay.cells c x) ((vs.drop (i * C.lay.w c)).take (C.lay.w c))

theorem RowOf.at {c : Nat} {l : List (El c)} {vs : List Value} (hr : RowOf C H l vs) (hL : LOk C) {i j : Nat} {x : El c} {u : AV El} (hx : l[i]? = some x) (hu : (C.lay.cells c x)[j]? = some u) :
    ∃ v, vs[i * C.lay.w c + j]? = some v ∧ V C H ρ0 u v := by
  have h1 := hr.2 i x hx
  have hj : j < C.lay.w c := by
    rw [← hL.len c x]
    rcases Nat.lt_or_ge j (C.lay.cells c x).length with h' | h'
    · exact h'
    · rw [List.getElem?_eq_none h'] at hu; cases hu
  have hj2 : j < ((vs.drop (i * C.lay.w c)).take (C.lay.w c)).length := by rw [← h1.1, hL.len]; exact hj
  have h2 := h1.2 j u _ hu (List.getElem?_eq_getElem hj2)
  refine ⟨_, ?_, h2⟩
  rw [← List.getElem?_eq_getElem hj2, List.getElem?_take, if_pos hj, List.getElem?_drop]

theorem RowOf.one {c : Nat} {l : List (El c)} {vs : List Value} (hr : RowOf C H l vs) (hL : LOk C) : ∀ v ∈ vs, v.oneCell' = true := by
  intro v hv
  obtain ⟨p, hp, rfl⟩ := List.getElem_of_mem hv
  have hw : 0 < C.lay.w c := by
    rcases Nat.eq_zero_or_pos (C.lay.w c) with h' | h'
    · rw [hr.1, h'] at hp; omega
    · exact h'
  have hi : p / C.lay.w c < l.length := by
    rw [Nat.div_lt_iff_lt_mul hw, ← hr.1]; exact hp
  have hm := Nat.mod_lt p hw
  have hc : p % C.lay.w c < (C.lay.cells c l[p / C.lay.w c]).length := by rw [hL.len]; exact hm
  obtain ⟨u, hu, hv'⟩ := hr.at hL (List.getElem?_eq_getElem hi) (List.getElem?_eq_getElem hc)
  have e : p / C.lay.w c * C.lay.w c + p % C.lay.w c = p := by rw [Nat.mul_comm]; exact Nat.div_add_mod p _
  rw [e, List.getElem?_eq_getElem hp] at hu
  cases hu
  exact hv'.oneCell (allOk_at (hL.ok c _) (List.getElem?_eq_getElem hc))

theorem RowOf.append {c : Nat} {l m : List (El c)} {vs us : List Value} (h1 : RowOf C H l vs) (h2 : RowOf C H m us) : RowOf C H (l ++ m) (vs ++ us) := by
  refine ⟨by simp [h1.1, h2.1, Nat.add_mul], fun i x hx => ?_⟩
  by_cases hi : i < l.length
  · rw [List.getElem?_append_left hi] at hx
    have : (i + 1) * C.lay.w c ≤ l.length * C.lay.w c := Nat.mul_le_mul_right _ hi
    rw [Nat.add_mul, Nat.one_mul, ← h1.1] at this
    rw [List.drop_append_of_le_length (by omega), List.take_append_of_le_length (by simp; omega)]
    exact h1.2 i x hx
  · rw [List.getElem?_append_right (by omega)] at hx
    have e : i * C.lay.w c = vs.length + (i - l.length) * C.lay.w c := by rw [h1.1, ← Nat.add_mul]; congr 1; omega
    rw [e, List.drop_length_add_append]
    exact h2.2 _ x hx

theorem RowOf.ext {H' : RO} {c : Nat} {l : List (El c)} {vs : List Value} {ρ' : Nat → RE} (h1 : RowOf C H l vs) (x : Ext H H' ρ ρ') : RowOf C H' l vs :=
  ⟨h1.1, fun i y hy => (h1.2 i y hy).ext ⟨x.cell, x.obj, fun _ _ => .inl rfl⟩⟩

theorem V.listCells (hL : LOk C) {f : Fl} {c : Nat} {l : List (El c)} {v : Value} (hv : V C H ρ (.list f c l) v) : ∃ p cap vs, v = .slice p l.length cap ∧ l.length ≤ cap ∧ l.length ≤ maxCat ∧ RowOf C H l vs ∧
    ((p = none ∧ l = [] ∧ cap = 0) ∨ ∃ b off, p = some ⟨b, off, none⟩ ∧ FlOk ρ f b off l.length cap (C.lay.w c) ∧ ∀ (j : Nat) u, vs[j]? = some u → H.cell b (off + j) = some u) := by
  cases hv with
  | listN _ _ _ _ => exact ⟨none, 0, [], rfl, Nat.le_refl _, by simp [maxCat], ⟨by simp, fun i x hx => by simp at hx⟩, .inl ⟨rfl, rfl, rfl⟩⟩
  | list _ _ _ _ b off cap vs hf hc h1 h2 =>
    have hlen : ∀ (i : Nat) x, l[i]? = some x → ∀ j, j < C.lay.w c → ∃ a, (C.lay.cells c x)[j]? = some a := fun i x _ j hj => ⟨_, List.getElem?_eq_getElem (by rw [hL.len]; exact hj)⟩
    refine ⟨_, cap, (List.range (l.length * C.lay.w c)).map fun p => vs (p / C.lay.w c) (p % C.lay.w c), rfl, hc.1, hc.2, ⟨by simp, fun i x hx => ?_⟩, .inr ⟨b, off, rfl, hf, fun j u hu => ?_⟩⟩
    · have hi : i < l.length := by
        rcases Nat.lt_or_ge i l.length with h' | h'
        · exact h'
        · rw [List.getElem?_eq_none h'] at hx; cases hx
      have hle : (i + 1) * C.lay.w c ≤ l.length * C.lay.w c := Nat.mul_le_mul_right _ hi
      rw [Nat.add_mul, Nat.one_mul] at hle
      refine ⟨by rw [hL.len]; simp; omega, fun j a v ha hv' => ?_⟩
      rw [List.getElem?_take] at hv'
      split at hv'
      · rename_i hj
        rw [List.getElem?_drop, List.getElem?_map, List.getElem?_range (by omega)] at hv'
        simp only [Option.map_some, Option.some.injEq] at hv'
        subst hv'
        have e1 : (i * C.lay.w c + j) / C.lay.w c = i := by
          rw [Nat.mul_comm, Nat.mul_add_div (by omega), Nat.div_eq_of_lt hj, Nat.add_zero]
        have e2 : (i * C.lay.w c + j) % C.lay.w c = j := by
          rw [Nat.mul_comm, Nat.mul_add_mod, Nat.mod_eq_of_lt hj]
        rw [e1, e2]
        exact h2 i x j a hx ha
      · cases hv'
    · have hj : j < l.length * C.lay.w c := by
        rcases Nat.lt_or_ge j (l.length * C.lay.w c) with h' | h'
        · exact h'
        · rw [List.getElem?_eq_none (by simpa using h')] at hu; cases hu
      rw [List.getElem?_map, List.getElem?_range hj] at hu
      simp only [Option.map_some, Option.some.injEq] at hu
      subst hu
      have hw : 0 < C.lay.w c := by
        rcases Nat.eq_zero_or_pos (C.lay.w c) with h' | h'
        · rw [h'] at hj; omega
        · exact h'
      have hi : j / C.lay.w c < l.length := by rw [Nat.div_lt_iff_lt_mul hw]; exact hj
      have hm := Nat.mod_lt j hw
      have hc' : j % C.lay.w c < (C.lay.cells c l[j / C.lay.w c]).length := by rw [hL.len]; exact hm
      have := h1 (j / C.lay.w c) _ (j % C.lay.w c) _ (List.getElem?_eq_getElem hi) (List.getElem?_eq_getElem hc')
      have e : j / C.lay.w c * C.lay.w c + j % C.lay.w c = j := by rw [Nat.mul_comm]; exact Nat.div_add_mod j _
      rwa [show off + j / C.lay.w c * C.lay.w c + j % C.lay.w c = off + j by omega] at this

theorem V.ofList (hL : LOk C) {u : Value} {f : Fl} {c : Nat} {l : List (El c)} {vs : List Value} (hs : l.length ≤ maxCat) (hr : RowOf C H l vs)
    (hu : (u = .slice none 0 0 ∧ l.length = 0 ∧ FlNil ρ f) ∨ ∃ b off cap, u = .slice (some ⟨b, off, none⟩) l.length cap ∧ l.length ≤ cap ∧ FlOk ρ f b off l.length cap (C.lay.w c) ∧ ∀ (p : Nat) v, vs[p]? = some v → H.cell b (off + p) = some v) :
    V C H ρ (.list f c l) u := by
  rcases hu with ⟨rfl, h1, h2⟩ | ⟨b, off, cap, rfl, h1, h2, h3⟩
  · obtain rfl := List.eq_nil_of_length_eq_zero h1
    exact .listN _ _ _ h2
  · refine .list _ _ _ _ _ _ _ (fun i j => vs.getD (i * C.lay.w c + j) undef) h2 ⟨h1, hs⟩ (fun i x j a hx ha => ?_) fun i x j a hx ha => ?_
    · obtain ⟨v, hv, _⟩ := hr.at hL hx ha
      rw [List.getD_eq_getElem?_getD, hv]
      have := h3 _ v hv
      rwa [show off + (i * C.lay.w c + j) = off + i * C.lay.w c + j by omega] at this
    · obtain ⟨v, hv, hvv⟩ := hr.at hL hx ha
      rw [List.getD_eq_getElem?_getD, hv]
      exact hvv

theorem arg_list {t2 : TypeId} {f : Fl} {c : Nat} {l : List (El c)} {v : Value} {vs : List Value} (q : Rw C base H ρ h w) (hu : P.underlying t2 = some (.slice c)) {p : Option Addr} {cap : Nat} (hv : v = .slice p l.length cap) (hr : RowOf C H l vs)
    (h3 : (p = none ∧ l = [] ∧ cap = 0) ∨ ∃ b off, p = some ⟨b, off, none⟩ ∧ FlOk ρ f b off l.length cap (C.lay.w c) ∧ ∀ (j : Nat) u, vs[j]? = some u → H.cell b (off + j) = some u) : AppArg P w t2 v l.length vs (C.lay.w c) := by
  subst hv
  refine ⟨.inr ⟨c, hu⟩, fun _ => by simp [Builtin.lenOf], ?_, ?_, hr.1⟩
  · rcases h3 with ⟨rfl, rfl, rfl⟩ | ⟨b, off, rfl, _, hc⟩
    · have : vs = [] := List.eq_nil_of_length_eq_zero (by simpa using hr.1)
      subst this; simp [Builtin.firstCells]
    · exact run_firstCells_some w _ l.length ⟨b, off, none⟩ _ cap _ hr.1 fun j u hu => by rw [addr_add]; exact q.ro _ _ _ (hc j u hu)
  · rcases h3 with ⟨rfl, rfl, rfl⟩ | ⟨b, off, rfl, _, hc⟩
    · have : vs = [] := List.eq_nil_of_length_eq_zero (by simpa using hr.1)
      subst this; simp [Builtin.firstCells]
    · exact run_firstCells_some w.drew _ l.length ⟨b, off, none⟩ _ cap _ hr.1 fun j u hu => by rw [addr_add]; exact q.ro _ _ _ (hc j u hu)

theorem run_append_op {args : Array Operand} {ts : Array TypeId} {t t2 : TypeId} {x y : Operand} (ho : o.op = .call ⟨.builtin .append, args, ts⟩) (ha : args.toList = [x, y]) (ht : ts.toList = [t, t2]) {u : Value} {w' : World}
    (hr : (Builtin.append_ #[t, t2] o.type #[a.eval x, a.eval y]).run P w = .ok u w') : (execOp a.eval o).run P w = .ok (.value u) w' := by
  obtain rfl : args = #[x, y] := by apply Array.ext'; simpa using ha
  obtain rfl : ts = #[t, t2] := by apply Array.ext'; simpa using ht
  simp [execOp, ho, resolve, invoke, builtin, hr]

theorem go_append (hT : TTOk P C) (hL : LOk C) (hS : VL C H ρ sl a.tmps.toList) (q : Rw C base H ρ h w) (hnb : nb ≤ h.length) {args : Array Operand} {ts : Array TypeId} (ho : o.op = .call ⟨.builtin .append, args, ts⟩) (hp : perform (execA C h sl o) h nb k = some r) :
    Goes P o a w (Post C base H ρ w k r) := by
  simp only [execA, ho] at hp
  split at hp
  case h_2 => simp [perform] at hp
  rename_i t t2 x y hts hargs
  have hx : V C H ρ (co C t (opd sl x)) (a.eval x) := co_ok (opd_ok hS x)
  have hy := opd_ok hS y
  have hy' : V C H ρ (co C t2 (opd sl y)) (a.eval y) := co_ok (opd_ok hS y)
  unfold appendA at hp
  split at hp
  case h_2 => simp [perform] at hp
  rename_i ti t2i hti ht2i
  have hty := (hT _ _ hti).ty
  have hty2 := (hT _ _ ht2i).ty
  split at hp
  · rename_i hb
    rw [hb] at hty
    obtain ⟨e, ie, hu, _, hi, hsz, hby, hz⟩ := hty
    split at hp
    case h_2 => simp [perform] at hp
    rename_i f s hs
    rw [hs] at hx
    obtain ⟨p, cap, hvx, hc1, hc2, hc3⟩ := hx.bytesCells
    have fin : ∀ (x2 : List UInt8), AppArg P w t2 (a.eval y) x2.length (x2.map fun z => Value.int .u8 z.toNat) 1 → perform (appA f (decide (s.length + x2.length ≤ maxLen')) (fun g => .bytes g (s ++ x2)) : Act El R) h nb k = some r → Goes P o a w (Post C base H ρ w k r) := by
      intro x2 harg hp
      obtain ⟨ids, e1, e2, e3, e4, e5⟩ := appA_perf hp
      have hmax : s.length + x2.length ≤ maxLen' := by simpa using e4
      obtain ⟨u, w', H', ρ', r1, r2, r3⟩ := append_core (ty := o.type) (z := .int .u8 0) q hnb e2 e1 e3 hu hi (by omega) (by omega) hz (by rw [hsz]; rfl) (by rw [hsz]; exact harg) (oneCell_bytes x2) (sLen := s.length) (olds := s.map fun z => Value.int .u8 z.toNat) (by rw [hsz]; simp)
        (va := a.eval x) (by
          rcases hc3 with ⟨rfl, rfl, rfl⟩ | ⟨b, off, rfl, hf, hcell⟩
          · exact .inl ⟨hvx, rfl⟩
          · exact .inr ⟨b, off, cap, hvx, hc1, by rw [hsz]; exact hf, hcell⟩) hmax
      refine goes_value (run_append_op ho hargs hts r1) ⟨_, _, H', ρ', e5, r2, V.ofBytes (by simp only [List.length_append]; unfold maxLen' at hmax; unfold maxCat; omega) ?_⟩
      simp only [List.length_append, List.map_append]
      rw [hsz] at r3
      exact r3
    split at hp
    · rename_i hb2
      rw [hb2] at hty2
      split at hp
      case h_2 => simp [perform] at hp
      rename_i x2 hx2
      rw [hx2] at hy
      exact fin x2 (arg_str hty2 hy) hp
    · rename_i hb2
      rw [hb2] at hty2
      obtain ⟨e2, _, hu2, _⟩ := hty2
      split at hp
      case h_2 => simp [perform] at hp
      rename_i f2 x2 hx2
      rw [hx2] at hy'
      exact fin x2 (arg_bytes q hu2 hy') hp
    · simp [perform] at hp
  · rename_i c0 hb
    rw [hb] at hty
    obtain ⟨hu, ie, z, hi, hsz, hpos, hby, hz, hzs, _⟩ := hty
    split at hp
    case h_2 => simp [perform] at hp
    rename_i f c l hs
    rw [hs] at hx
    split at hp
    case isFalse => simp [perform] at hp
    rename_i hcc
    subst hcc
    split at hp
    case h_2 => simp [perform] at hp
    rename_i c1 hb2
    rw [hb2] at hty2
    obtain ⟨hu2, _⟩ := hty2
    split at hp
    case h_2 => simp [perform] at hp
    rename_i f2 c2 m hm
    split at hp
    case isFalse => simp [perform] at hp
    rename_i hc1
    subst hc1
    split at hp
    case isFalse => simp [perform] at hp
    rename_i hc2
    subst hc2
    rw [hm] at hy'
    obtain ⟨p, cap, vs, hvx, hk1, hk2, hk3, hk4⟩ := hx.listCells hL
    obtain ⟨p2, cap2, us, hvy, hj1, hj2, hj3, hj4⟩ := hy'.listCells hL
    obtain ⟨ids, e1, e2, e3, e4, e5⟩ := appA_perf hp
    have hmax : l.length + m.length ≤ maxLen' := by simpa using e4
    obtain ⟨u, w', H', ρ', r1, r2, r3⟩ := append_core (ty := o.type) (z := z) q hnb e2 e1 e3 hu hi hpos hby hz hzs (by rw [hsz]; exact arg_list q hu2 hvy hj3 hj4) (hj3.one hL) (sLen := l.length) (olds := vs) (by rw [hsz]; exact hk3.1)
      (va := a.eval x) (by
        rcases hk4 with ⟨rfl, rfl, rfl⟩ | ⟨b, off, rfl, hf, hcell⟩
        · exact .inl ⟨hvx, rfl⟩
        · exact .inr ⟨b, off, cap, hvx, hk1, by rw [hsz]; exact hf, hcell⟩) hmax
    refine goes_value (run_append_op ho hargs hts r1) ⟨_, _, H', ρ', e5, r2, V.ofList hL (by simp only [List.length_append]; unfold maxLen' at hmax; unfold maxCat; omega) ((hk3.append hj3).ext r2.ext) ?_⟩
    simp only [List.length_append]
    rw [hsz] at r3
    exact r3
  · simp [perform] at hp
end
end Go.Ev

/- Structs, arrays, slices written out; made. Own work. -/
namespace Go.Ev
variable {El : Nat → Type}

section
variable {P : Program} {C : Cx El} {base : Nat} {H : RO} {ρ : Nat → RE} {h : List (HE El)} {w : World} {a : Go.Act} {o : Oper} {R : Type} {k : AV El → List (HE El) → Option R} {r : R} {nb : Nat} {sl : List (AV El)}

theorem run_mapM {α β : Type} (g : α → Sem β) (g' : α → β) (w : World) : ∀ l : List α, (∀ x ∈ l, (g x).run P w = .ok (g' x) w) → (l.mapM g).run P w = .ok (l.map g') w
  | [], _ => by simp
  | x :: l, hx => by
    have ih := run_mapM g g' w l (fun y hy => hx y (by simp [hy]))
    simp only [List.mapM_cons, Sem.run_bind, hx x (by simp), Result.andThen_ok, ih, Sem.run_pure, List.map_cons]

theorem run_mapMA {α β : Type} (g : α → Sem β) (g' : α → β) (w : World) (xs : Array α) (hx : ∀ x ∈ xs.toList, (g x).run P w = .ok (g' x) w) : (xs.mapM g).run P w = .ok (xs.map g') w := by
  rw [Array.mapM_eq_mapM_toList]
  simp only [Sem.run_map, run_mapM g g' w xs.toList hx, Result.andThen_ok]
  congr 1
  apply Array.ext'
  simp

theorem foldl_sets : ∀ (vs : List Value) (n off : Nat) (arr : Array Value), off + n + vs.length ≤ arr.size →
    ((vs.zipIdx n).foldl (fun cs (p : Value × Nat) => cs.setIfInBounds (off + p.2) p.1) arr).size = arr.size ∧
    ∀ i, ((vs.zipIdx n).foldl (fun cs (p : Value × Nat) => cs.setIfInBounds (off + p.2) p.1) arr)[i]? = if off + n ≤ i ∧ i < off + n + vs.length then vs[i - (off + n)]? else arr[i]?
  | [], n, off, arr, _ => ⟨rfl, fun i => by
    simp only [List.zipIdx_nil, List.foldl_nil, List.length_nil, Nat.add_zero]
    rw [if_neg (by omega)]⟩
  | v :: vs, n, off, arr, hl => by
    simp only [List.length_cons] at hl
    simp only [List.zipIdx_cons, List.foldl_cons, List.length_cons]
    obtain ⟨h1, h2⟩ := foldl_sets vs (n + 1) off (arr.setIfInBounds (off + n) v) (by simp; omega)
    refine ⟨by rw [h1]; simp, fun i => ?_⟩
    rw [h2 i]
    by_cases hi : i = off + n
    · subst hi
      rw [if_neg (by omega), if_pos (by omega), Array.getElem?_setIfInBounds_self_of_lt (by omega)]
      simp
    · by_cases hi2 : off + (n + 1) ≤ i ∧ i < off + (n + 1) + vs.length
      · rw [if_pos hi2, if_pos (by omega), show i - (off + n) = (i - (off + (n + 1))) + 1 by omega]
        simp
      · rw [if_neg hi2, if_neg (by omega), Array.getElem?_setIfInBounds_ne (fun e => hi e.symm)]

theorem allOk_coL : ∀ (zs vs : List (AV El)), allOk (coL zs vs) = true → allOk vs = true
  | [], vs, h => by cases vs <;> simpa [coL] using h
  | z :: zs, [], h => by simp [allOk]
  | z :: zs, v :: vs, h => by
    simp only [coL, allOk, Bool.and_eq_true] at h ⊢
    refine ⟨?_, allOk_coL zs vs h.2⟩
    have := h.1
    unfold co1 at this
    split at this
    · rfl
    · exact this

/-- Parts, with what they stand for. -/
def PL (C : Cx El) (H : RO) (ρ : Nat → RE) : List (Nat × AV El) → List (Nat × Value) → Prop
  | [], [] => True
  | (i, x) :: xs, (j, v) :: vs => i = j ∧ V C H ρ x v ∧ PL C H ρ xs vs
  | _, _ => False

theorem PL.of (hS : VL C H ρ sl a.tmps.toList) : ∀ ps : List (Nat × Operand), PL C H ρ (ps.map fun p => (p.1, opd sl p.2)) (ps.map fun p => (p.1, a.eval p.2))
  | [] => trivial
  | (_, _) :: ps => ⟨rfl, opd_ok hS _, PL.of hS ps⟩

theorem fillA_ok (place : Nat → Option (Nat × Nat)) (ty : Ty) (hpl : ∀ i off size g, ty.place i = some (off, size, g) → place i = some (off, size)) : ∀ (ps : List (Nat × AV El)) (qs : List (Nat × Value)) (cs cs' : List (AV El)) (arr : Array Value),
    PL C H ρ ps qs → VL C H ρ cs arr.toList → fillA C ty cs ps = some cs' → ∃ arr', Instr.fill place arr qs = some arr' ∧ VL C H ρ cs' arr'.toList ∧ cs'.length = cs.length
  | [], [], cs, cs', arr, _, hv, hf => by
    simp only [fillA, Option.some.injEq] at hf; subst hf
    exact ⟨arr, rfl, hv, rfl⟩
  | (i, x) :: ps, (_, v) :: qs, cs, cs', arr, hp, hv, hf => by
    obtain ⟨rfl, hx, hp'⟩ := hp
    simp only [fillA] at hf
    split at hf
    · cases hf
    · rename_i off size g hpi
      split at hf
      case isFalse => cases hf
      rename_i hc
      obtain ⟨hc1, hc2, hc3⟩ := hc
      have hcl := coL_ok ((cs.drop off).take size) x.cells _ (hx.cellsL (allOk_coL _ _ hc3))
      have hsz : v.cells.size = size := by rw [← hc1, ← length_coL ((cs.drop off).take size) x.cells, hcl.1]; simp
      have hasz : cs.length = arr.size := by simpa using hv.1
      obtain ⟨e1, e2⟩ := foldl_sets v.cells.toList 0 off arr (by simp; omega)
      have hv' : VL C H ρ (setL cs off (coL ((cs.drop off).take size) x.cells)) ((v.cells.toList.zipIdx 0).foldl (fun cs (p : Value × Nat) => cs.setIfInBounds (off + p.2) p.1) arr).toList := by
        refine ⟨by rw [length_setL]; exact hasz.trans (e1.symm.trans (by simp)), fun m y u hy hu => ?_⟩
        rw [Array.getElem?_toList, e2 m] at hu
        rw [getElem?_setL _ _ _ _ (by rw [length_coL]; omega), length_coL] at hy
        simp only [Nat.add_zero, Array.length_toList] at hu
        by_cases hm : off ≤ m ∧ m < off + size
        · rw [if_pos (by omega)] at hy
          rw [if_pos (by omega)] at hu
          exact hcl.2 _ y u hy hu
        · rw [if_neg (by omega)] at hy
          rw [if_neg (by omega)] at hu
          exact hv.2 m y u hy (by simpa using hu)
      obtain ⟨arr', f1, f2, f3⟩ := fillA_ok place ty hpl ps qs _ cs' _ hp' hv' hf
      refine ⟨arr', ?_, f2, by rw [f3, length_setL]⟩
      simp only [Instr.fill, hpl i off size g hpi]
      rw [if_neg (by simp; omega)]
      have e3 : v.cells.zipIdx.foldl (fun cs (p : Value × Nat) => cs.setIfInBounds (off + p.2) p.1) arr = (v.cells.toList.zipIdx 0).foldl (fun cs (p : Value × Nat) => cs.setIfInBounds (off + p.2) p.1) arr := by
        rw [← Array.foldl_toList]; simp
      rw [← f1]
      congr 1
  | [], _ :: _, _, _, _, hp, _, _ => hp.elim
  | _ :: _, [], _, _, _, hp, _, _ => hp.elim

theorem go_build (hT : TTOk P C) (hS : VL C H ρ sl a.tmps.toList) (q : Rw C base H ρ h w) {t : TypeId} {ps : Array (Nat × Operand)} (ho : o.op = .build t ps) (hp : perform (execA C h sl o) h nb k = some r) : Goes P o a w (Post C base H ρ w k r) := by
  simp only [execA, ho, buildA] at hp
  split at hp
  · simp [perform] at hp
  rename_i ti hti
  split at hp
  case isFalse => simp [perform] at hp
  rename_i hag
  split at hp
  case h_2 => simp [perform] at hp
  rename_i cs hcs
  simp only [bif_ble, bif_blt, perform] at hp
  have ht := hT _ _ hti
  obtain ⟨i, z, hi, hz, hv, _⟩ := ht.zero
  have hps := PL.of hS ps.toList
  have hty := ht.ty
  have hmap : (ps.map fun (p : Nat × Operand) => (p.1, a.eval p.2)).toList = ps.toList.map fun p => (p.1, a.eval p.2) := by simp
  generalize ti.ty = ty at hcs hty hag
  cases ty with
  | struct fs =>
    obtain ⟨fields, hu, hsz, hf⟩ := hty
    have hplaces : (fields.mapM fun f => (do pure (f.offset, ← sizeOf f.type) : Sem (Nat × Nat))).run P w = .ok (fields.map fun f => (f.offset, (sizeP P f.type).getD 0)) w := by
      refine run_mapMA _ _ w fields fun f hfm => ?_
      obtain ⟨m, hm, rfl⟩ := List.getElem_of_mem hfm
      have hm' : m < fs.length := by rw [← hsz]; simpa using hm
      obtain ⟨_, e2, _⟩ := hf m _ _ (by simpa using Array.getElem?_eq_getElem (by simpa using hm)) (List.getElem?_eq_getElem hm')
      rw [Array.getElem_toList] at *
      simp only [Sem.run_bind, run_sizeOf e2, Result.andThen_ok, Sem.run_pure, e2, Option.getD_some]
    obtain ⟨arr', f1, f2, f3⟩ := fillA_ok (fun i => (fields.map fun f => (f.offset, (sizeP P f.type).getD 0))[i]?) (.struct fs) (fun i off size g hpi => by
      simp only [Ty.place] at hpi
      have hm' : i < fs.length := by
        rcases Nat.lt_or_ge i fs.length with h' | h'
        · exact h'
        · rw [List.getElem?_eq_none h'] at hpi; cases hpi
      have hm : i < fields.size := by omega
      obtain ⟨e1, e2, _⟩ := hf i _ _ (Array.getElem?_eq_getElem hm) hpi
      simp only at e1 e2
      simp [Array.getElem?_eq_getElem hm, e1, e2]) _ _ _ _ _ hps (hv H ρ) hcs
    refine goes_value (w' := w) (u := .agg arr') ?_ (.now q hp f2.agg)
    simp only [execOp, ho, Instr.build, zeroValue, typeInfo, Sem.run_bind, run_program, Result.andThen_ok, hi, Sem.run_pure, hz, run_underlying hu, hplaces]
    rw [show (ps.map fun (x : Nat × Operand) => match x with | (i, x) => (i, a.eval x)).toList = ps.toList.map fun p => (p.1, a.eval p.2) by simp]
    rw [f1]
    rfl
  | arr n wd g =>
    obtain ⟨e, hu, hes, _⟩ := hty
    obtain ⟨arr', f1, f2, f3⟩ := fillA_ok (fun i => some (i * wd, wd)) (.arr n wd g) (fun i off size g' hpi => by
      simp only [Ty.place, Option.some.injEq, Prod.mk.injEq] at hpi
      obtain ⟨rfl, rfl, _⟩ := hpi; rfl) _ _ _ _ _ hps (hv H ρ) hcs
    refine goes_value (w' := w) (u := .agg arr') ?_ (.now q hp f2.agg)
    simp only [execOp, ho, Instr.build, zeroValue, typeInfo, Sem.run_bind, run_program, Result.andThen_ok, hi, Sem.run_pure, hz, run_underlying hu, run_sizeOf hes]
    rw [show (ps.map fun (x : Nat × Operand) => match x with | (i, x) => (i, a.eval x)).toList = ps.toList.map fun p => (p.1, a.eval p.2) by simp]
    rw [f1]
    rfl
  | _ => simp [Ty.agg] at hag

/-- Parts in order, from n on. -/
def InOrder : List (Nat × AV El) → Nat → Prop
  | [], _ => True
  | (i, _) :: ps, n => i = n ∧ InOrder ps (n + 1)

theorem fill_flat (size : Nat) : ∀ (qs : List (Nat × Value)) (n : Nat) (arr : Array Value), (∀ (m : Nat) p, qs[m]? = some p → p.1 = n + m ∧ p.2.cells.size = size) → arr.size = (n + qs.length) * size →
    ∃ arr', Instr.fill (fun i => some (i * size, size)) arr qs = some arr' ∧ arr'.toList = arr.toList.take (n * size) ++ (qs.map fun p => p.2.cells.toList).flatten
  | [], n, arr, _, hs => ⟨arr, rfl, by
    simp only [List.map_nil, List.flatten_nil, List.append_nil]
    rw [List.take_of_length_le (by simpa using Nat.le_of_eq hs)]⟩
  | (i, v) :: qs, n, arr, hq, hs => by
    obtain ⟨h1, h2⟩ := hq 0 (i, v) rfl
    simp only [Nat.add_zero] at h1 h2
    subst h1
    simp only [List.length_cons] at hs
    have hlen : i * size + size ≤ arr.size := by
      rw [hs, show i + (qs.length + 1) = (i + 1) + qs.length by omega, Nat.add_mul (i + 1), Nat.add_mul i, Nat.one_mul]; omega
    obtain ⟨e1, e2⟩ := foldl_sets v.cells.toList 0 (i * size) arr (by simp; omega)
    obtain ⟨arr', f1, f2⟩ := fill_flat size qs (i + 1) ((v.cells.toList.zipIdx 0).foldl (fun cs (p : Value × Nat) => cs.setIfInBounds (i * size + p.2) p.1) arr) (fun m p hp => by
      have := hq (m + 1) p (by simpa using hp)
      exact ⟨by omega, this.2⟩) (by rw [e1, hs]; congr 1; omega)
    refine ⟨arr', ?_, ?_⟩
    · simp only [Instr.fill]
      rw [if_neg (by simp; omega)]
      have e3 : v.cells.zipIdx.foldl (fun cs (p : Value × Nat) => cs.setIfInBounds (i * size + p.2) p.1) arr = (v.cells.toList.zipIdx 0).foldl (fun cs (p : Value × Nat) => cs.setIfInBounds (i * size + p.2) p.1) arr := by
        rw [← Array.foldl_toList]; simp
      rw [← f1]
      congr 1
    · rw [f2]
      simp only [List.map_cons, List.flatten_cons]
      rw [← List.append_assoc]
      congr 1
      apply List.ext_getElem?
      intro m
      rw [List.getElem?_take, Array.getElem?_toList, e2 m]
      simp only [Nat.add_zero, Array.length_toList, h2]
      rw [Nat.add_mul, Nat.one_mul]
      have hl : (arr.toList.take (i * size)).length = i * size := by simp; omega
      by_cases hm : m < i * size
      · rw [if_pos (by omega), if_neg (by omega), List.getElem?_append_left (by omega), List.getElem?_take, if_pos hm]
        simp
      · rw [List.getElem?_append_right (by omega), hl]
        by_cases hm2 : m < i * size + size
        · rw [if_pos hm2, if_pos (by omega)]
        · rw [if_neg hm2]
          rw [List.getElem?_eq_none (by simp; omega)]

theorem PL.at : ∀ {ps : List (Nat × AV El)} {qs : List (Nat × Value)}, PL C H ρ ps qs → ∀ (m : Nat) p, ps[m]? = some p → ∃ p', qs[m]? = some p' ∧ p.1 = p'.1 ∧ V C H ρ p.2 p'.2
  | (i, x) :: ps, (_, v) :: qs, hp, 0, p, h => by
    simp only [List.getElem?_cons_zero, Option.some.injEq] at h; subst h
    exact ⟨_, rfl, hp.1, hp.2.1⟩
  | (i, x) :: ps, (_, v) :: qs, hp, m + 1, p, h => by
    simp only [List.getElem?_cons_succ] at h ⊢
    exact PL.at hp.2.2 m p h
  | [], [], _, m, p, h => by simp at h
  | [], _ :: _, hp, _, _, _ => hp.elim
  | _ :: _, [], hp, _, _, _ => hp.elim

theorem PL.length : ∀ {ps : List (Nat × AV El)} {qs : List (Nat × Value)}, PL C H ρ ps qs → ps.length = qs.length
  | [], [], _ => rfl
  | _ :: _, _ :: _, hp => by simp [PL.length hp.2.2]
  | [], _ :: _, hp => hp.elim
  | _ :: _, [], hp => hp.elim

theorem elemsA_ok (hL : LOk C) {c : Nat} : ∀ (ps : List (Nat × AV El)) (qs : List (Nat × Value)) (n : Nat) (l : List (El c)), PL C H ρ ps qs → (∀ ti, C.tt c = some ti → ti.size = C.lay.w c) → (∀ cs x, C.lay.ofCells c cs = some x → allOk cs = true) → elemsA C c ps n = some l →
    l.length = ps.length ∧ (∀ (m : Nat) p, qs[m]? = some p → p.1 = n + m ∧ p.2.cells.size = C.lay.w c) ∧ RowOf C H l (qs.map fun p => p.2.cells.toList).flatten
  | [], [], n, l, _, _, _, h => by
    simp only [elemsA, Option.some.injEq] at h; subst h
    exact ⟨rfl, fun m p hp => by simp at hp, ⟨by simp, fun i x hx => by simp at hx⟩⟩
  | (i, x) :: ps, (_, v) :: qs, n, l, hp, hw, hok, h => by
    obtain ⟨rfl, hx, hp'⟩ := hp
    simp only [elemsA] at h
    split at h
    case isFalse => cases h
    rename_i hin
    subst hin
    split at h
    case h_2 => cases h
    rename_i ti hti
    split at h
    case h_2 => cases h
    rename_i y ys e1 e2
    cases h
    have ha : allOk (coL ti.zero x.cells) = true := hok _ _ e1
    have hcl := coL_ok ti.zero x.cells _ (hx.cellsL (allOk_coL _ _ ha))
    have hof := hL.of _ _ _ e1 H ρ _ hcl
    obtain ⟨g1, g2, g3⟩ := elemsA_ok hL ps qs (i + 1) ys hp' hw hok e2
    have hsz : v.cells.size = C.lay.w c := by have := hof.1; rw [hL.len] at this; simpa using this.symm
    refine ⟨by simp [g1], fun m p hp => ?_, ?_⟩
    · cases m with
      | zero => simp only [List.getElem?_cons_zero, Option.some.injEq] at hp; subst hp; exact ⟨rfl, hsz⟩
      | succ m => have := g2 m p (by simpa using hp); exact ⟨by omega, this.2⟩
    · have h1 : RowOf C H [y] v.cells.toList := ⟨by simp [hsz], fun m z hz => by
        cases m with
        | zero =>
          simp only [List.getElem?_cons_zero, Option.some.injEq] at hz; subst hz
          rw [Nat.zero_mul, List.drop_zero, List.take_of_length_le (by simp; omega)]
          exact hof
        | succ m => simp at hz⟩
      exact h1.append g3
  | [], _ :: _, _, _, hp, _, _, _ => hp.elim
  | _ :: _, [], _, _, hp, _, _, _ => hp.elim
end
end Go.Ev

/- Slices written out, made; iterators; maps. Own work. -/
namespace Go.Ev
variable {El : Nat → Type}

section
variable {P : Program} {C : Cx El} {base : Nat} {H : RO} {ρ : Nat → RE} {h : List (HE El)} {w : World} {a : Go.Act} {o : Oper} {R : Type} {k : AV El → List (HE El) → Option R} {r : R} {nb : Nat} {sl : List (AV El)}

theorem bytesA_ok : ∀ (ps : List (Nat × AV El)) (qs : List (Nat × Value)) (n : Nat) (s : List UInt8), PL C H ρ ps qs → bytesA ps n = some s →
    s.length = ps.length ∧ (∀ (m : Nat) p, qs[m]? = some p → p.1 = n + m ∧ p.2.cells.size = 1) ∧ (qs.map fun p => p.2.cells.toList).flatten = s.map fun x => Value.int .u8 x.toNat
  | [], [], n, l, _, h => by
    simp only [bytesA, Option.some.injEq] at h; subst h
    exact ⟨rfl, fun m p hp => by simp at hp, rfl⟩
  | (i, x) :: ps, (_, v) :: qs, n, l, hp, h => by
    obtain ⟨rfl, hx, hp'⟩ := hp
    simp only [bytesA] at h
    split at h
    case isFalse => cases h
    rename_i hin
    subst hin
    split at h
    case h_2 => cases h
    rename_i b bs e2
    cases h
    obtain ⟨rfl, hr⟩ := hx.intE
    obtain ⟨g1, g2, g3⟩ := bytesA_ok ps qs (i + 1) bs hp' e2
    have hb : 0 ≤ b ∧ b ≤ 255 := by
      rw [inR_iff] at hr
      simp [IntKind.min, IntKind.max, IntKind.bits, IntKind.signed] at hr
      omega
    refine ⟨by simp [g1], fun m p hp => ?_, ?_⟩
    · cases m with
      | zero => simp only [List.getElem?_cons_zero, Option.some.injEq] at hp; subst hp; exact ⟨rfl, rfl⟩
      | succ m => have := g2 m p (by simpa using hp); exact ⟨by omega, this.2⟩
    · simp only [List.map_cons, List.flatten_cons, g3]
      have : (UInt8.ofNat b.toNat).toNat = b.toNat := by rw [UInt8.toNat_ofNat']; omega
      rw [this, Int.toNat_of_nonneg hb.1]
      simp [Value.cells]
  | [], _ :: _, _, _, hp, _ => hp.elim
  | _ :: _, [], _, _, hp, _ => hp.elim

theorem run_buildSlice {t e : TypeId} {n sz : Nat} {z : Value} {ie : TypeInfo} (hu : P.underlying t = some (.slice e)) (hi : P.info? e = some ie) (hsz : ie.size = sz) (hz : ie.zero = some z) (hn : n ≤ 4096) (hs : sz ≤ 4096) {qs : Array (Nat × Value)} {arr : Array Value}
    (hf : Instr.fill (fun i => some (i * sz, sz)) ((Array.range (n * sz)).map ((if n * sz = 0 then #[] else z.cells)[· % (if n * sz = 0 then #[] else z.cells).size]!)) qs.toList = some arr) :
    (Instr.buildSlice t n qs).run P w = .ok (.slice (some ⟨w.heap.size, 0, none⟩) n n) (w.alloc (.cells arr e (0, 0))) := by
  have hle : ¬ (n * sz > 2 ^ 24) := by
    have : n * sz ≤ 4096 * 4096 := Nat.mul_le_mul hn hs
    omega
  subst hsz
  simp only [Instr.buildSlice, Sem.run_bind, run_underlying hu, Result.andThen_ok, sizeOf, typeInfo, run_program, hi, Sem.run_pure, if_neg hle, zeroValue]
  by_cases h0 : n * ie.size = 0
  · simp only [h0, if_true] at hf ⊢
    simp only [Sem.run_pure, Result.andThen_ok, hf, newRow, Sem.run_bind, run_newObj]
    rfl
  · simp only [h0, if_false] at hf ⊢
    simp only [Sem.run_pure, Result.andThen_ok, hf, newRow, Sem.run_bind, run_newObj, hi, hz, run_program]
    rfl

theorem zeros_ok {zs : List (AV El)} {z : Value} {sz : Nat} (hv : VL C H ρ zs z.cells.toList) (hsz : zs.length = sz) (n : Nat) :
    VL C H ρ (List.replicate n zs).flatten ((Array.range (n * sz)).map ((if n * sz = 0 then #[] else z.cells)[· % (if n * sz = 0 then #[] else z.cells).size]!)).toList := by
  have hz : z.cells.size = sz := by rw [← hsz]; simpa using hv.1.symm
  refine ⟨by simp [hsz], fun i x v hx hv' => ?_⟩
  have hi : i < n * sz := by
    have : i < ((List.replicate n zs).flatten).length := by
      rcases Nat.lt_or_ge i ((List.replicate n zs).flatten).length with h' | h'
      · exact h'
      · rw [List.getElem?_eq_none h'] at hx; cases hx
    simpa [hsz] using this
  have hpos : 0 < sz := by
    rcases Nat.eq_zero_or_pos sz with h' | h'
    · rw [h'] at hi; omega
    · exact h'
  have h0 : ¬ (n * sz = 0) := by omega
  rw [if_neg h0] at hv'
  simp only [Array.toList_map, List.getElem?_map, Array.getElem?_toList] at hv'
  rw [show (Array.range (n * sz))[i]? = some i by simp [hi]] at hv'
  simp only [Option.map_some, Option.some.injEq] at hv'
  subst hv'
  have hm := Nat.mod_lt i hpos
  have key : ∀ n i, i < n * sz → (List.replicate n zs).flatten[i]? = zs[i % sz]? := by
    intro n
    induction n with
    | zero => intro i hi; omega
    | succ n ih =>
      intro i hi
      rw [List.replicate_succ, List.flatten_cons]
      by_cases hlt : i < sz
      · rw [List.getElem?_append_left (by omega), Nat.mod_eq_of_lt hlt]
      · rw [List.getElem?_append_right (by omega), hsz, ih (i - sz) (by rw [Nat.add_mul] at hi; omega)]
        congr 1
        rw [← Nat.mod_eq_sub_mod (by omega)]
  rw [key n i hi] at hx
  refine hv.2 (i % sz) x _ hx ?_
  rw [Array.getElem?_toList, hz, getElem!_pos _ _ (by rw [hz]; exact hm), Array.getElem?_eq_getElem (by rw [hz]; exact hm)]

theorem go_buildSlice (hT : TTOk P C) (hL : LOk C) (hS : VL C H ρ sl a.tmps.toList) (q : Rw C base H ρ h w) (hnb : nb ≤ h.length) {t : TypeId} {n : Nat} {ps : Array (Nat × Operand)} (ho : o.op = .buildSlice t n ps) (hp : perform (execA C h sl o) h nb k = some r) :
    Goes P o a w (Post C base H ρ w k r) := by
  simp only [execA, ho, buildSliceA] at hp
  split at hp
  · simp [perform] at hp
  rename_i ti hti
  split at hp
  · simp [perform] at hp
  rename_i hn
  have hps := PL.of hS ps.toList
  have hpl := hps.length
  have hty := (hT _ _ hti).ty
  have hrun : ∀ {u w'}, (Instr.buildSlice t n (ps.map fun (p : Nat × Operand) => (p.1, a.eval p.2))).run P w = .ok u w' → (execOp a.eval o).run P w = .ok (.value u) w' := by
    intro u w' hr
    simp only [execOp, ho]
    rw [show (ps.map fun (x : Nat × Operand) => match x with | (i, x) => (i, a.eval x)) = ps.map fun p => (p.1, a.eval p.2) by congr 1]
    simp only [Sem.run_bind, hr, Result.andThen_ok, Sem.run_pure]
  split at hp
  · rename_i hb
    rw [hb] at hty
    obtain ⟨e, ie, hu, _, hi, hsz, hby, hz⟩ := hty
    split at hp
    case isFalse => simp [perform] at hp
    rename_i hlen
    split at hp
    case h_2 => simp [perform] at hp
    rename_i s hs
    simp only [bif_ble, bif_blt, perform] at hp
    obtain ⟨g1, g2, g3⟩ := bytesA_ok _ _ 0 s hps hs
    obtain ⟨arr, f1, f2⟩ := fill_flat 1 (ps.toList.map fun p => (p.1, a.eval p.2)) 0 ((Array.range (n * 1)).map ((if n * 1 = 0 then #[] else (Value.int .u8 0).cells)[· % (if n * 1 = 0 then #[] else (Value.int .u8 0).cells).size]!)) (by simpa using g2) (by rw [← hpl, hlen]; simp)
    have hr := run_buildSlice (w := w) (n := n) hu hi hsz hz (by omega) (by omega) (qs := ps.map fun (p : Nat × Operand) => (p.1, a.eval p.2)) (arr := arr) (by simpa using f1)
    rw [g3, Nat.zero_mul, List.take_zero, List.nil_append] at f2
    have hsl : s.length = n := by rw [g1, hlen]
    have s1 := step_row q arr e (0, 0) (s.map fun x => Value.int .u8 x.toNat) (fun j v hv => by rw [← f2] at hv; simpa using hv)
    refine goes_value (hrun hr) ⟨_, _, _, _, hp, s1, V.ofBytes (by unfold maxCat; omega) (.inr ⟨w.heap.size, 0, n, by rw [hsl], by omega, by rw [hsl]; rfl, fun p v hv => ?_⟩)⟩
    have hj : p < (s.map fun x => Value.int .u8 (x.toNat : Int)).length := by
      rcases Nat.lt_or_ge p (s.map fun x => Value.int .u8 (x.toNat : Int)).length with h' | h'
      · exact h'
      · rw [List.getElem?_eq_none h'] at hv; cases hv
    rw [List.getElem?_eq_getElem hj] at hv
    cases hv
    exact RO.add_at H w.heap.size 0 _ p hj
  · rename_i c hb
    rw [hb] at hty
    obtain ⟨hu, ie, z, hi, hsz, hpos, hby, hz, hzs, _⟩ := hty
    split at hp
    case isFalse => simp [perform] at hp
    rename_i hlen
    obtain ⟨hlen, hw4⟩ := hlen
    split at hp
    · rename_i l hl
      simp only [bif_ble, bif_blt, perform] at hp
      obtain ⟨g1, g2, g3⟩ := elemsA_ok hL _ _ 0 l hps (fun ti hti => by
        have := (hT _ _ hti).size
        simp only [sizeP, hi, Option.map_some, Option.some.injEq] at this
        omega) (hL.ofOk c) hl
      obtain ⟨arr, f1, f2⟩ := fill_flat (C.lay.w c) (ps.toList.map fun p => (p.1, a.eval p.2)) 0 ((Array.range (n * C.lay.w c)).map ((if n * C.lay.w c = 0 then #[] else z.cells)[· % (if n * C.lay.w c = 0 then #[] else z.cells).size]!)) (by simpa using g2) (by rw [← hpl, hlen]; simp)
      have hr := run_buildSlice (w := w) (n := n) hu hi hsz hz (by omega) hw4 (qs := ps.map fun (p : Nat × Operand) => (p.1, a.eval p.2)) (arr := arr) (by simpa using f1)
      rw [Nat.zero_mul, List.take_zero, List.nil_append] at f2
      have hsl : l.length = n := by rw [g1, hlen]
      rw [← f2] at g3
      have s1 := step_row q arr c (0, 0) arr.toList (fun j v hv => by simpa using hv)
      refine goes_value (hrun hr) ⟨_, _, _, _, hp, s1, V.ofList hL (by unfold maxCat; omega) (g3.ext s1.ext) (.inr ⟨w.heap.size, 0, n, by rw [hsl], by omega, by rw [hsl]; rfl, fun p v hv => ?_⟩)⟩
      have hj : p < arr.toList.length := by
        rcases Nat.lt_or_ge p arr.toList.length with h' | h'
        · exact h'
        · rw [List.getElem?_eq_none h'] at hv; cases hv
      rw [List.getElem?_eq_getElem hj] at hv
      cases hv
      exact RO.add_at H w.heap.size 0 _ p hj
    · split at hp
      case h_2 => simp [perform] at hp
      rename_i ei hei
      split at hp
      case h_2 => simp [perform] at hp
      rename_i cs hcs
      obtain ⟨hf, hk⟩ := perform_new1 hp
      have hes := hT _ _ hei
      obtain ⟨i', z', hi', hz', hvz, _⟩ := hes.zero
      rw [hi] at hi'; cases hi'
      rw [hz] at hz'; cases hz'
      have hesz : ei.size = C.lay.w c := by
        have := hes.size
        simp only [sizeP, hi, Option.map_some, Option.some.injEq] at this
        omega
      obtain ⟨arr, f1, f2, f3⟩ := fillA_ok (fun i => some (i * C.lay.w c, C.lay.w c)) (.arr n ei.size ei.ty.agg) (fun i off size g' hpi => by
        simp only [Ty.place, Option.some.injEq, Prod.mk.injEq] at hpi
        obtain ⟨rfl, rfl, _⟩ := hpi; rw [hesz]) _ _ _ _ _ hps (zeros_ok (n := n) (hvz H ρ) (by rw [hes.len, hesz])) hcs
      have hr := run_buildSlice (w := w) (n := n) hu hi hsz hz (by omega) hw4 (qs := ps.map fun (p : Nat × Operand) => (p.1, a.eval p.2)) (arr := arr) (by simpa using f1)
      have hx : Ext H H ρ (upd ρ nb (.blk w.heap.size cs.length)) := Ext.upd (fun _ _ _ h => h) (fun _ _ h => h) (isFree_none q hf)
      have hasz : arr.size = cs.length := by simpa using f2.1.symm
      refine goes_value (hrun hr) ⟨_, _, H, _, hk, step_new q hnb hf (.blk cs) (.cells arr c (0, 0)) cs.length ⟨_, arr, c, (0, 0), rfl, ?_, hasz, fun o _ hc => by omega, fun i x y hx' hy => (f2.2 i x y hx' (by simpa using hy)).ext hx⟩, .hsl _ _ _ _ _ _ _ (upd_same _ _ _) ⟨Nat.le_refl _, by unfold maxCat; omega⟩⟩
      show (w.heap.push _)[w.heap.size]? = _
      simp
  · simp [perform] at hp
end
end Go.Ev

/- Slices made; iterators; maps. Own work. -/
namespace Go.Ev
variable {El : Nat → Type}

section
variable {P : Program} {C : Cx El} {base : Nat} {H : RO} {ρ : Nat → RE} {h : List (HE El)} {w : World} {a : Go.Act} {o : Oper} {R : Type} {k : AV El → List (HE El) → Option R} {r : R} {nb : Nat} {sl : List (AV El)}

theorem alloc_at (w : World) (x : Obj) : (w.alloc x).heap[w.heap.size]? = some x := by
  show (w.heap.push _)[w.heap.size]? = _
  simp

theorem go_makeSlice (hT : TTOk P C) (hS : VL C H ρ sl a.tmps.toList) (q : Rw C base H ρ h w) (hnb : nb ≤ h.length) {t : TypeId} {x y : Operand} (ho : o.op = .makeSlice t x y) (hp : perform (execA C h sl o) h nb k = some r) : Goes P o a w (Post C base H ρ w k r) := by
  simp only [execA, ho, makeSliceA] at hp
  have hx := opd_ok hS x
  have hy := opd_ok hS y
  split at hp
  · simp [perform] at hp
  rename_i ti hti
  have hty := (hT _ _ hti).ty
  split at hp
  case h_2 => simp [perform] at hp
  rename_i k1 n k2 m hb hxo hyo
  rw [hb] at hty
  rw [hxo] at hx
  rw [hyo] at hy
  obtain ⟨e, ie, hu, _, hi, hsz, hby, hz⟩ := hty
  obtain ⟨hex, hrx⟩ := hx.intE
  obtain ⟨hey, hry⟩ := hy.intE
  simp only [bif_ble, bif_blt, perform] at hp
  split at hp
  case isFalse => cases hp
  rename_i hf
  obtain ⟨hin, hp⟩ := cond_some hp
  have hin0 := hin
  rw [inside_iff] at hin
  obtain ⟨_, h0, h1, h2⟩ := hin
  subst h2
  obtain ⟨n, rfl⟩ : ∃ n' : Nat, n = n' := ⟨n.toNat, by omega⟩
  rw [hin0, cond_true] at hp
  simp [putAt] at hp
  have hn : n ≤ 4294967296 := by unfold maxLen' at h1; omega
  have hwr : IntKind.i64.wrap (n : Int) = n := by simp [IntKind.wrap, IntKind.bits, IntKind.signed]; omega
  have harr : (Array.range n).map (fun i => #[Value.int .u8 0][i % #[Value.int .u8 0].size]!) = Array.replicate n (Value.int .u8 0) := by
    apply Array.ext
    · simp
    · intro i hi1 hi2
      simp [Nat.mod_one]
  have hrun : (execOp a.eval o).run P w = .ok (.value (.slice (some ⟨w.heap.size, 0, none⟩) n n)) (w.alloc (.cells (Array.replicate n (.int .u8 0)) e (0, 0))) := by
    have hbig : ¬ (281474976710656 < (n : Int)) := by omega
    simp only [execOp, ho, hex, hey, Instr.makeSlice, Sem.run_bind, run_underlying hu, Result.andThen_ok, asInt, asIntOf, Sem.run_pure, typeInfo, run_program, hi, hby, hwr]
    rw [if_neg (by simp; omega)]
    simp only [Int.toNat_natCast, Sem.run_bind, run_askRoom, Result.andThen_ok, sizeOf, typeInfo, run_program, hi, Sem.run_pure, hsz, Nat.mul_one, Sem.run_ite]
    by_cases hn0 : n = 0
    · subst hn0
      have h0' : (0 : Nat) = 0 := rfl
      simp [newRow, Array.range_zero']
    · simp only [hn0, if_false, zeroValue, typeInfo, Sem.run_bind, run_program, hi, hz, Sem.run_pure, Result.andThen_ok, Value.cells, harr, newRow, run_newObj, World.alloc_eq]
  have hx : Ext H H ρ (upd ρ nb (.blk w.heap.size n)) := Ext.upd (fun _ _ _ h => h) (fun _ _ h => h) (isFree_none q hf)
  refine goes_value hrun ⟨_, _, H, _, hp, step_new q hnb hf (.mb (List.replicate n 0)) _ n ⟨_, _, e, (0, 0), by simp, alloc_at _ _, by simp, fun o _ hc => by omega, fun i x hx' => ?_⟩, .mbs _ _ _ _ _ (upd_same _ _ _) (Nat.le_refl _)⟩
  have hi' : i < n := by
    rcases Nat.lt_or_ge i n with h' | h'
    · exact h'
    · rw [List.getElem?_eq_none (by simpa using h')] at hx'; cases hx'
  rw [List.getElem?_replicate, if_pos hi'] at hx'
  cases hx'
  simp [hi']

theorem go_range (hT : TTOk P C) (hS : VL C H ρ sl a.tmps.toList) (q : Rw C base H ρ h w) (hnb : nb ≤ h.length) {t : TypeId} {x : Operand} (ho : o.op = .range t x) (hp : perform (execA C h sl o) h nb k = some r) : Goes P o a w (Post C base H ρ w k r) := by
  simp only [execA, ho] at hp
  have hx := opd_ok hS x
  split at hp
  case h_2 => simp [perform] at hp
  rename_i ti hti
  split at hp
  case h_2 => simp [perform] at hp
  rename_i hty
  have hu : P.underlying t = some .string := by have := (hT _ _ hti).ty; rw [hty] at this; exact this
  split at hp
  case h_2 => simp [perform] at hp
  rename_i s hs
  rw [hs] at hx
  obtain ⟨hf, hk⟩ := perform_new1 hp
  generalize hv : a.eval x = vx at hx
  cases hx with
  | str _ b hb =>
    have hrun : (execOp a.eval o).run P w = .ok (.value (.pointer (some ⟨w.heap.size, 0, none⟩))) (w.alloc (.stringIter b 0)) := by
      simp [execOp, ho, hv, Instr.range, run_underlying hu]
    exact goes_value hrun ⟨_, _, H, _, hk, step_new q hnb hf (.iter b.data.toList 0) (.stringIter b 0) 0 ⟨_, b, rfl, alloc_at _ _, rfl, hb⟩, .iter _ _ _ _ (upd_same _ _ _)⟩

theorem go_makeMap (hT : TTOk P C) (q : Rw C base H ρ h w) (hnb : nb ≤ h.length) {t : TypeId} (ho : o.op = .makeMap t none) (hp : perform (execA C h sl o) h nb k = some r) : Goes P o a w (Post C base H ρ w k r) := by
  have hT := hT
  simp only [execA, ho] at hp
  obtain ⟨hf, hk⟩ := perform_new1 hp
  have hrun : (execOp a.eval o).run P w = .ok (.value (.map (some w.heap.size))) (w.alloc (.map #[] 0)) := by
    simp [execOp, ho, Instr.makeMap]
  exact goes_value hrun ⟨_, _, H, _, hk, step_new q hnb hf (.map []) (.map #[] 0) 0 ⟨_, #[], 0, rfl, alloc_at _ _, rfl, fun i k a e he => by simp at he⟩, .map _ _ _ _ (upd_same _ _ _)⟩

theorem go_next (hS : VL C H ρ sl a.tmps.toList) (q : Rw C base H ρ h w) {x : Operand} (ho : o.op = .next x true) (hp : perform (execA C h sl o) h nb k = some r) : Goes P o a w (Post C base H ρ w k r) := by
  simp only [execA, ho] at hp
  have hx := opd_ok hS x
  split at hp
  case h_2 => simp [perform] at hp
  rename_i id hid
  rw [hid] at hx
  simp only [nextA, perform, isFree, if_true] at hp
  split at hp
  case h_2 => cases hp
  rename_i s pos hes
  simp only [List.map_cons, List.map_nil, List.cons.injEq, and_true] at hes
  have hent : ∃ b bs, ρ id = .blk b 0 ∧ w.heap[b]? = some (.stringIter bs pos) ∧ bs.data.toList = s ∧ s.length ≤ maxCat := q.ent id _ (q.entry hes (by intro hc; cases hc))
  obtain ⟨b, bs, h1, h2, rfl, hcat⟩ := hent
  obtain ⟨b', n', hb', he⟩ : ∃ b' n', ρ id = .blk b' n' ∧ a.eval x = .pointer (some ⟨b', 0, none⟩) := by
    generalize a.eval x = vx at hx
    cases hx with
    | iter _ _ b' n' hb' => exact ⟨b', n', hb', rfl⟩
  rw [h1] at hb'; cases hb'
  have hbs : (⟨bs.data.toList.toArray⟩ : ByteArray) = bs := by
    cases bs; simp
  have hsz : bs.size = bs.data.toList.length := rfl
  have hget : (getObj b).run P w = .ok (.stringIter bs pos) w := by
    simp [getObj, Sem.run, h2]
  by_cases hlt : pos < bs.data.toList.length
  · rw [bif_blt, if_pos hlt] at hp
    simp only [Bool.false_eq_true, if_false, List.length_cons, List.length_nil, Nat.add_zero, if_true, putAt, List.drop, newAt] at hp
    rw [hbs] at hp
    have hset : (setObj b (.stringIter bs (pos + (Utf8.decode bs pos).2))).run P w = .ok () { w with heap := w.heap.setIfInBounds b (.stringIter bs (pos + (Utf8.decode bs pos).2)) } := by
      simp [setObj, Sem.run, h2]
    have hrun : (execOp a.eval o).run P w = .ok (.value (.tuple #[.bool true, goInt pos, .int .i32 (Utf8.decode bs pos).1])) { w with heap := w.heap.setIfInBounds b (.stringIter bs (pos + (Utf8.decode bs pos).2)) } := by
      simp only [execOp, ho, he, Instr.next, Sem.run_bind, hget, Result.andThen_ok, if_pos (show pos < bs.size from hlt), hset, Sem.run_pure]
    have hb : b < w.heap.size := (Array.getElem?_eq_some_iff.1 h2).1
    refine goes_value hrun ⟨_, _, H, ρ, hp, step_mod q h1 (.iter bs.data.toList (pos + (Utf8.decode bs pos).2)) rfl rfl rfl (by simp) (fun k hk => by simp [Array.getElem?_setIfInBounds_ne (fun e => hk e.symm)]) (fun arr ty fz ha => by rw [h2] at ha; cases ha)
      ⟨b, bs, rfl, by simp [hb], rfl, hcat⟩, ?_⟩
    refine .tup _ _ _ rfl fun i u v hu hv => ?_
    rcases i with _ | _ | _ | i
    · simp at hu hv; subst hu; subst hv; exact .bool _ _
    · simp at hu hv; subst hu; subst hv
      refine .int _ _ _ ?_
      rw [inR_iff]
      unfold maxCat at hcat
      simp [IntKind.min, IntKind.max, IntKind.bits, IntKind.signed]
      omega
    · simp at hu hv; subst hu; subst hv
      refine .int _ _ _ ?_
      rw [inR_iff]
      have := decode_le bs pos
      simp [IntKind.min, IntKind.max, IntKind.bits, IntKind.signed]
      omega
    · simp at hu
  · rw [bif_blt, if_neg hlt] at hp
    simp only [Bool.false_eq_true, if_false, List.length_cons, List.length_nil, Nat.add_zero, if_true, putAt, List.drop, newAt] at hp
    have hrun : (execOp a.eval o).run P w = .ok (.value (.tuple #[.bool false])) w := by
      simp only [execOp, ho, he, Instr.next, Sem.run_bind, hget, Result.andThen_ok, if_neg (show ¬ pos < bs.size from hlt), Sem.run_pure]
    have hself : h.set id (h.getD id .free) = h := by
      apply List.ext_getElem?
      intro j
      rw [List.getElem?_set]
      split
      · rename_i e; subst e
        split
        · rename_i hl; rw [List.getD_eq_getElem?_getD, List.getElem?_eq_getElem hl]; rfl
        · rename_i hl; rw [List.getElem?_eq_none (by omega)]
      · rfl
    rw [hes] at hself
    rw [hself] at hp
    refine goes_value hrun (.now q hp ?_)
    refine .tup _ _ _ rfl fun i u v hu hv => ?_
    rcases i with _ | i
    · simp at hu hv; subst hu; subst hv; exact .bool _ _
    · simp at hu
end
end Go.Ev

/- Calls: a function's own memory within the caller's. Own work. -/
namespace Go.Ev
variable {El : Nat → Type}

/-- The world may be entered at a function. -/
def Enters (P : Program) (f : FuncId) : Prop := ∃ fn, P.funcs[f]? = some fn ∧ (fn.name == "runtime.NumGoroutine") = false ∧ fn.body.isNone = false

/-- What a call ends in. -/
def Ret (Φ : Value → World → Prop) : Ending → World → Prop := fun e w' => ∃ u, e = .returned u ∧ Φ u w'

/-- A function does what is told of it. -/
def SoundF (P : Program) (C : Cx El) (base : Nat) (f : FuncId) (fs : FS El) : Prop :=
  Enters P f ∧ ∀ (H : RO) (ρ : Nat → RE) (h : List (HE El)) (w : World) (args : List (AV El)) (vals : Array Value) (R : Type) (k : AV El → List (HE El) → Option R) (r : R),
    Rw C base H ρ h w → VL C H ρ args vals.toList → fs.run args h k = some r →
    Calls P f vals w (Ret fun u w' => ∃ v h' H' ρ', k v h' = some r ∧ Step C base H ρ w H' ρ' h' w' ∧ V C H' ρ' v u)

section
variable {P : Program} {C : Cx El} {base : Nat} {H : RO} {ρ : Nat → RE} {h : List (HE El)} {w : World} {a : Go.Act} {o : Oper} {R : Type} {k : AV El → List (HE El) → Option R} {r : R} {nb : Nat} {sl : List (AV El)}

theorem goes_enter {Φ : Value → World → Prop} {f : FuncId} {args : Array Value} {w' : World} (hr : (execOp a.eval o).run P w = .ok (.enter f args) w') (hc : Calls P f args w' (Ret Φ)) : Goes P o a w Φ := by
  intro K Q hK
  unfold Oper.wp
  rw [hr]
  refine hc.mono fun e w'' ⟨u, he, hΦ⟩ => ?_
  subst he
  exact hK _ _ hΦ

theorem idx_some {ids : List Nat} {i j : Nat} (e : idx ids i = some j) : ids[j]? = some i := by
  unfold idx at e
  have := List.findIdx?_eq_some_iff_getElem.1 e
  obtain ⟨hj, h1, _⟩ := this
  rw [List.getElem?_eq_getElem hj]
  simpa using h1

theorem idx_none {ids : List Nat} {i : Nat} (e : idx ids i = none) : i ∉ ids := by
  unfold idx at e
  rw [List.findIdx?_eq_none_iff] at e
  intro hi
  have := e i hi
  simp at this

theorem noDup_nodup : ∀ {ids : List Nat}, noDup ids = true → ids.Nodup
  | [], _ => List.nodup_nil
  | x :: xs, h => by
    simp only [noDup, Bool.and_eq_true, Bool.not_eq_true'] at h
    exact List.nodup_cons.2 ⟨by simpa using h.1, noDup_nodup h.2⟩

theorem nodup_idx {ids : List Nat} (hn : ids.Nodup) {i j : Nat} (e : ids[j]? = some i) : idx ids i = some j := by
  cases e' : idx ids i with
  | none => exact absurd (List.mem_of_getElem? e) (idx_none e')
  | some j' =>
    have h1 := idx_some e'
    have := (List.getElem?_inj (by
      rcases Nat.lt_or_ge j ids.length with h' | h'
      · exact h'
      · rw [List.getElem?_eq_none h'] at e; cases e) hn).1 (e.trans h1.symm)
    rw [this]

theorem thereB_ok : ∀ {ids : List Nat}, thereB h ids = true → ∀ i ∈ ids, ∃ e, h[i]? = some e ∧ e ≠ .free
  | [], _, i, hi => by simp at hi
  | x :: xs, ht, i, hi => by
    simp only [thereB, Bool.and_eq_true] at ht
    rcases List.mem_cons.1 hi with rfl | hi
    · cases e : h[i]? with
      | none => rw [e] at ht; simp at ht
      | some y =>
        refine ⟨y, rfl, ?_⟩
        rintro rfl
        rw [e] at ht; simp at ht
    · exact thereB_ok ht.2 i hi

theorem length_renH (f : Nat → Option Nat) : ∀ l : List (HE El), (renH f l).length = l.length
  | [] => rfl
  | _ :: l => by simp [renH, length_renH f l]

theorem getElem?_renH (f : Nat → Option Nat) : ∀ (l : List (HE El)) (i : Nat), (renH f l)[i]? = (l[i]?).map (HE.ren f)
  | [], i => by simp [renH]
  | _ :: l, 0 => by simp [renH]
  | _ :: l, i + 1 => by simp [renH, getElem?_renH f l i]

theorem getElem?_renE (f : Nat → Option Nat) : ∀ (l : List (AV El × AV El)) (i : Nat), (renE f l)[i]? = (l[i]?).map fun p => (p.1.ren f, p.2.ren f)
  | [], i => by simp [renE]
  | _ :: l, 0 => by simp [renE]
  | _ :: l, i + 1 => by simp [renE, getElem?_renE f l i]

theorem length_renE (f : Nat → Option Nat) : ∀ l : List (AV El × AV El), (renE f l).length = l.length
  | [] => rfl
  | _ :: l => by simp [renE, length_renE f l]

theorem EntOk.ren {ρ' : Nat → RE} {f : Nat → Option Nat} {e : HE El} {re : RE} (hf : ∀ i j, f i = some j → ρ' j = ρ i) (he : EntOk C H ρ w e re) : EntOk C H ρ' w (e.ren f) re := by
  cases e with
  | free => exact he
  | dead => exact he
  | tok => exact he
  | blk cs =>
    obtain ⟨b, arr, ty, fz, h1, h2, h3, h4, h5⟩ := he
    refine ⟨b, arr, ty, fz, by rw [length_renL]; exact h1, h2, by rw [length_renL]; exact h3, h4, fun i x v hx hv => ?_⟩
    rw [getElem?_renL] at hx
    obtain ⟨x', hx', rfl⟩ := Option.map_eq_some_iff.1 hx
    exact (h5 i x' v hx' hv).ren hf
  | mb s => exact he
  | iter s pos => exact he
  | arr k l => exact he
  | map es =>
    obtain ⟨b, arr, ck, h1, h2, h3, h4⟩ := he
    refine ⟨b, arr, ck, h1, h2, by rw [length_renE]; exact h3, fun i kk x e hx hv => ?_⟩
    rw [getElem?_renE] at hx
    obtain ⟨⟨k', x'⟩, hx', e'⟩ := Option.map_eq_some_iff.1 hx
    cases e'
    have := h4 i k' x' e hx' hv
    exact ⟨this.1.ren hf, this.2.ren hf⟩

theorem VL.ren {ρ' : Nat → RE} {f : Nat → Option Nat} {as : List (AV El)} {vs : List Value} (hf : ∀ i j, f i = Option.some j → ρ' j = ρ i) (hv : VL C H ρ as vs) : VL C H ρ' (renL f as) vs := by
  refine ⟨by rw [length_renL]; exact hv.1, fun i x v hx hv' => ?_⟩
  rw [getElem?_renL] at hx
  obtain ⟨x', hx', rfl⟩ := Option.map_eq_some_iff.1 hx
  exact (hv.2 i x' v hx' hv').ren hf

theorem VL.low {as : List (AV El)} {vs : List Value} (hv : VL C H ρ as vs) : VL C H ρ (lowL as) vs := by
  refine ⟨by rw [length_lowL]; exact hv.1, fun i x v hx hv' => ?_⟩
  rw [getElem?_lowL] at hx
  obtain ⟨x', hx', rfl⟩ := Option.map_eq_some_iff.1 hx
  exact (hv.2 i x' v hx' hv').low

/-- The callee's own view. -/
def subρ (ρ : Nat → RE) (ids : List Nat) : Nat → RE := fun j => match ids[j]? with
  | some i => ρ i
  | none => .none

theorem subρ_at {ids : List Nat} {i j : Nat} (e : ids[j]? = some i) : subρ ρ ids j = ρ i := by simp [subρ, e]

theorem subρ_ne {ids : List Nat} {j : Nat} (e : subρ ρ ids j ≠ .none) : ∃ i, ids[j]? = some i ∧ subρ ρ ids j = ρ i := by
  cases e' : ids[j]? with
  | none => simp [subρ, e'] at e
  | some i => exact ⟨i, rfl, subρ_at e'⟩

theorem sub_idx {ids : List Nat} : ∀ i j, idx ids i = some j → subρ ρ ids j = ρ i := fun _ _ e => subρ_at (idx_some e)

theorem Rw.sub (q : Rw C base H ρ h w) {ids : List Nat} (hn : ids.Nodup) : Rw C base H (subρ ρ ids) (renH (idx ids) (ids.map fun i => h.getD i .free)) w := by
  have hb : ∀ {j b n}, subρ ρ ids j = .blk b n → ∃ i, ids[j]? = some i ∧ ρ i = .blk b n := by
    intro j b n e
    obtain ⟨i, h1, h2⟩ := subρ_ne (ρ := ρ) (ids := ids) (j := j) (by rw [e]; intro hc; cases hc)
    exact ⟨i, h1, h2 ▸ e⟩
  have ht : ∀ {j b lo hi}, subρ ρ ids j = .tok b lo hi → ∃ i, ids[j]? = some i ∧ ρ i = .tok b lo hi := by
    intro j b lo hi e
    obtain ⟨i, h1, h2⟩ := subρ_ne (ρ := ρ) (ids := ids) (j := j) (by rw [e]; intro hc; cases hc)
    exact ⟨i, h1, h2 ▸ e⟩
  have hlt : ∀ {j i}, ids[j]? = some i → j < ids.length := by
    intro j i e
    rcases Nat.lt_or_ge j ids.length with h' | h'
    · exact h'
    · rw [List.getElem?_eq_none h'] at e; cases e
  refine ⟨q.big, fun j hj => ?_, fun j e he => ?_, fun i j b n n' h1 h2 => ?_, fun j b n h1 => ?_, fun j b lo hi h1 h2 => ?_, fun i j b lo hi lo' hi' h1 h2 hne => ?_, fun i j b lo hi n h1 h2 h3 => ?_, q.ro, fun b o v j n hv h1 => ?_, fun b o v j lo hi hv h1 => ?_,
    fun b es ck hb' => ⟨(q.robj b es ck hb').1, fun j n h1 => ?_⟩⟩
  · rw [length_renH, List.length_map] at hj
    simp [subρ, List.getElem?_eq_none hj]
  · rw [getElem?_renH, List.getElem?_map] at he
    cases e1 : ids[j]? with
    | none => rw [e1] at he; cases he
    | some i =>
      rw [e1] at he
      simp only [Option.map_some, Option.some.injEq] at he
      subst he
      rw [subρ_at e1]
      cases e2 : h[i]? with
      | none =>
        rw [List.getD_eq_getElem?_getD, e2]
        exact q.out i (by simpa using e2)
      | some x =>
        rw [List.getD_eq_getElem?_getD, e2]
        exact (q.ent i x e2).ren sub_idx
  · obtain ⟨i', e1, h1⟩ := hb h1
    obtain ⟨j', e2, h2⟩ := hb h2
    have := q.inj i' j' b n n' h1 h2
    subst this
    exact (List.getElem?_inj (hlt e1) hn).1 (e1.trans e2.symm)
  · obtain ⟨i, _, h1⟩ := hb h1; exact q.lo i b n h1
  · obtain ⟨i, _, h1⟩ := ht h1; exact q.room i b lo hi h1 h2
  · obtain ⟨i', e1, h1⟩ := ht h1
    obtain ⟨j', e2, h2⟩ := ht h2
    refine q.rooms i' j' b lo hi lo' hi' h1 h2 fun e => hne ?_
    subst e
    exact (List.getElem?_inj (hlt e1) hn).1 (e1.trans e2.symm)
  · obtain ⟨i', _, h1⟩ := ht h1
    obtain ⟨j', _, h3⟩ := hb h3
    exact q.roomBlk i' j' b lo hi n h1 h2 h3
  · obtain ⟨i, _, h1⟩ := hb h1; exact q.roBlk b o v i n hv h1
  · obtain ⟨i, _, h1⟩ := ht h1; exact q.roRoom b o v i lo hi hv h1
  · obtain ⟨i, _, h1⟩ := hb h1; exact (q.robj b es ck hb').2 i n h1

theorem touch_sub {ids : List Nat} {b o : Nat} (ht : Touch (subρ ρ ids) b o) : ∃ i ∈ ids, (∃ n, ρ i = .blk b n) ∨ ∃ lo hi, ρ i = .tok b lo hi ∧ lo ≤ o ∧ o < hi := by
  rcases ht with ⟨j, n, h1⟩ | ⟨j, lo, hi, h1, h2⟩
  · obtain ⟨i, e1, e2⟩ := subρ_ne (ρ := ρ) (ids := ids) (j := j) (by rw [h1]; intro hc; cases hc)
    exact ⟨i, List.mem_of_getElem? e1, .inl ⟨n, e2 ▸ h1⟩⟩
  · obtain ⟨i, e1, e2⟩ := subρ_ne (ρ := ρ) (ids := ids) (j := j) (by rw [h1]; intro hc; cases hc)
    exact ⟨i, List.mem_of_getElem? e1, .inr ⟨lo, hi, e2 ▸ h1, h2⟩⟩

/-! The lists -/
theorem length_putAt : ∀ (ids : List Nat) (es h : List (HE El)), (putAt h ids es).length = h.length
  | [], es, h => by cases es <;> simp [putAt]
  | i :: ids, [], h => by simp [putAt]
  | i :: ids, e :: es, h => by simp [putAt, length_putAt ids es]

theorem getElem?_putAt : ∀ (ids : List Nat) (es h : List (HE El)) (i : Nat), ids.Nodup → ids.length ≤ es.length → (∀ j ∈ ids, j < h.length) → (putAt h ids es)[i]? = match idx ids i with
    | some j => es[j]?
    | none => h[i]?
  | [], es, h, i, _, _, _ => by cases es <;> simp [putAt, idx]
  | x :: ids, [], h, i, _, hl, _ => by simp at hl
  | x :: ids, e :: es, h, i, hn, hl, hlt => by
    simp only [List.nodup_cons] at hn
    simp only [List.length_cons, Nat.add_le_add_iff_right] at hl
    simp only [putAt]
    rw [getElem?_putAt ids es (h.set x e) i hn.2 hl (fun j hj => by simpa using hlt j (by simp [hj]))]
    by_cases hx : x = i
    · subst hx
      have h1 : idx ids x = none := by
        cases e' : idx ids x with
        | none => rfl
        | some j => exact absurd (List.mem_of_getElem? (idx_some e')) hn.1
      have h2 : idx (x :: ids) x = some 0 := by simp [idx, List.findIdx?_cons]
      rw [h1, h2]
      simp [hlt x (by simp)]
    · have h2 : idx (x :: ids) i = (idx ids i).map (· + 1) := by
        simp [idx, List.findIdx?_cons, hx]
      rw [h2]
      cases e' : idx ids i with
      | none => simp only [Option.map_none]; rw [List.getElem?_set_ne hx]
      | some j => simp

theorem newAt_many : ∀ (es h : List (HE El)) (nb : Nat), nb ≤ h.length → h.length ≤ (newAt h nb es).length ∧ nb + es.length ≤ (newAt h nb es).length ∧ (newAt h nb es).length ≤ max h.length (nb + es.length) ∧
    ∀ i, (newAt h nb es)[i]? = if nb ≤ i ∧ i < nb + es.length then es[i - nb]? else h[i]?
  | [], h, nb, hl => ⟨Nat.le_refl _, hl, by simp [newAt]; omega, fun i => by
    simp only [newAt, List.length_nil, Nat.add_zero]
    rw [if_neg (by omega)]⟩
  | e :: es, h, nb, hl => by
    have h5 := getElem?_newAt h nb e hl
    have hlen : (newAt h nb [e]).length = max h.length (nb + 1) := by
      simp only [newAt]
      split
      · simp; omega
      · simp; omega
    have e1 : newAt h nb (e :: es) = newAt (newAt h nb [e]) (nb + 1) es := by simp only [newAt]
    rw [e1]
    generalize newAt h nb [e] = h' at *
    obtain ⟨h1, h2, h3, h4⟩ := newAt_many es h' (nb + 1) (by omega)
    simp only [List.length_cons]
    refine ⟨by omega, by omega, by omega, fun i => ?_⟩
    rw [h4 i]
    by_cases hi : i = nb
    · subst hi
      rw [if_neg (by omega), h5, if_pos rfl, if_pos (by omega)]
      simp
    · by_cases hi2 : nb + 1 ≤ i ∧ i < nb + 1 + es.length
      · rw [if_pos hi2, if_pos (by omega), show i - nb = (i - (nb + 1)) + 1 by omega]
        simp
      · rw [if_neg hi2, if_neg (by omega), h5, if_neg hi]

theorem isFree_all : ∀ (n nb : Nat), isFree h nb n = true → ∀ i, nb ≤ i → i < nb + n → h.getD i .free = .free
  | 0, nb, _, i, h1, h2 => by omega
  | n + 1, nb, hf, i, h1, h2 => by
    simp only [isFree, Bool.and_eq_true] at hf
    by_cases hi : i = nb
    · subst hi
      have := hf.1
      split at this
      · assumption
      · cases this
    · exact isFree_all n (nb + 1) hf.2 i (by omega) (by omega)

theorem isFree_ρ (q : Rw C base H ρ h w) {n : Nat} (hf : isFree h nb n = true) {i : Nat} (h1 : nb ≤ i) (h2 : i < nb + n) : ρ i = .none := by
  have := isFree_all n nb hf i h1 h2
  cases e : h[i]? with
  | none => exact q.out i (by simpa using e)
  | some x =>
    rw [List.getD_eq_getElem?_getD, e] at this
    simp only [Option.getD_some] at this
    subst this
    exact q.ent i _ e

/-- The caller's view behind a call. -/
def backρ (ρ ρs : Nat → RE) (ids : List Nat) (nb news : Nat) : Nat → RE := fun i => match idx ids i with
  | some j => ρs j
  | none => if nb ≤ i ∧ i < nb + news then ρs (ids.length + (i - nb)) else ρ i

theorem call_step (q : Rw C base H ρ h w) (hnb : nb ≤ h.length) {ids : List Nat} {news : Nat} (hn : ids.Nodup) (hth : ∀ i ∈ ids, ∃ e, h[i]? = some e ∧ e ≠ .free) (hf : isFree h nb news = true) {H' : RO} {ρs' : Nat → RE} {es : List (HE El)} {w' : World}
    (s : Step C base H (subρ ρ ids) w H' ρs' es w') (hl : es.length = ids.length + news) :
    (∀ i j, backIdx ids nb news i = some j → backρ ρ ρs' ids nb news j = ρs' i) ∧
    Step C base H ρ w H' (backρ ρ ρs' ids nb news) (newAt (putAt h ids (renH (backIdx ids nb news) es)) nb ((renH (backIdx ids nb news) es).drop ids.length)) w' := by
  have hids : ∀ i ∈ ids, i < h.length ∧ ¬ (nb ≤ i ∧ i < nb + news) := by
    intro i hi
    obtain ⟨e, h1, h2⟩ := hth i hi
    refine ⟨?_, fun h3 => h2 ?_⟩
    · rcases Nat.lt_or_ge i h.length with h' | h'
      · exact h'
      · rw [List.getElem?_eq_none h'] at h1; cases h1
    · have := isFree_all news nb hf i h3.1 h3.2
      rw [List.getD_eq_getElem?_getD, h1] at this
      exact this
  have hback : ∀ i j, backIdx ids nb news i = some j → backρ ρ ρs' ids nb news j = ρs' i := by
    intro i j e
    unfold backIdx at e
    split at e
    · simp only [backρ, nodup_idx hn e]
    · split at e
      · rename_i h1 h2
        cases e
        have h3 : idx ids (nb + (i - ids.length)) = none := by
          cases e' : idx ids (nb + (i - ids.length)) with
          | none => rfl
          | some j => exact absurd ⟨by omega, by omega⟩ (hids _ (List.mem_of_getElem? (idx_some e'))).2
        simp only [backρ, h3]
        rw [if_pos (by omega)]
        congr 1
        omega
      · cases e
  refine ⟨hback, ?_⟩
  -- which way an entry's meaning comes
  have hcase : ∀ i, (∃ j, ids[j]? = some i ∧ backρ ρ ρs' ids nb news i = ρs' j) ∨ (i ∉ ids ∧ nb ≤ i ∧ i < nb + news ∧ backρ ρ ρs' ids nb news i = ρs' (ids.length + (i - nb))) ∨ (i ∉ ids ∧ ¬ (nb ≤ i ∧ i < nb + news) ∧ backρ ρ ρs' ids nb news i = ρ i) := by
    intro i
    cases e : idx ids i with
    | some j => exact .inl ⟨j, idx_some e, by simp only [backρ, e]⟩
    | none =>
      by_cases h1 : nb ≤ i ∧ i < nb + news
      · exact .inr (.inl ⟨idx_none e, h1.1, h1.2, by simp only [backρ, e]; rw [if_pos h1]⟩)
      · exact .inr (.inr ⟨idx_none e, h1, by simp only [backρ, e]; rw [if_neg h1]⟩)
  have hsub : ∀ i, (∃ j, backρ ρ ρs' ids nb news i = ρs' j ∧ (i ∈ ids ∨ nb ≤ i ∧ i < nb + news) ∧ backIdx ids nb news j = some i) ∨ (i ∉ ids ∧ ¬ (nb ≤ i ∧ i < nb + news) ∧ backρ ρ ρs' ids nb news i = ρ i) := by
    intro i
    rcases hcase i with ⟨j, h1, h2⟩ | ⟨h1, h2, h3, h4⟩ | h1
    · refine .inl ⟨j, h2, .inl (List.mem_of_getElem? h1), ?_⟩
      have hj : j < ids.length := by
        rcases Nat.lt_or_ge j ids.length with h' | h'
        · exact h'
        · rw [List.getElem?_eq_none h'] at h1; cases h1
      simp only [backIdx, if_pos hj, h1]
    · refine .inl ⟨_, h4, .inr ⟨h2, h3⟩, ?_⟩
      simp only [backIdx]
      rw [if_neg (by omega), if_pos (by omega)]
      congr 1
      omega
    · exact .inr h1
  have hbi : ∀ {i i' j}, backIdx ids nb news j = some i → backIdx ids nb news j = some i' → i = i' := fun e1 e2 => Option.some.inj (e1.symm.trans e2)
  have htouch : ∀ {b o}, Touch (subρ ρ ids) b o → Touch ρ b o := by
    intro b o ht
    obtain ⟨i, _, ⟨n, h1⟩ | ⟨lo, hi, h1, h2⟩⟩ := touch_sub ht
    · exact .inl ⟨i, n, h1⟩
    · exact .inr ⟨i, lo, hi, h1, h2⟩
  -- an entry of the caller's alone is not touched
  have hapart : ∀ {i b n o}, i ∉ ids → ρ i = .blk b n → ¬ Touch (subρ ρ ids) b o := by
    intro i b n o hi hb ht
    obtain ⟨j, hj, ⟨n', h1⟩ | ⟨lo, hi', h1, h2⟩⟩ := touch_sub ht
    · exact hi (q.inj j i b n' n h1 hb ▸ hj)
    · exact q.roomBlk j i b lo hi' n h1 (by omega) hb
  have hapart2 : ∀ {i b lo hi o}, i ∉ ids → ρ i = .tok b lo hi → lo ≤ o → o < hi → ¬ Touch (subρ ρ ids) b o := by
    intro i b lo hi o hni hb h1 h2 ht
    obtain ⟨j, hj, ⟨n', h3⟩ | ⟨lo', hi', h3, h4⟩⟩ := touch_sub ht
    · exact q.roomBlk i j b lo hi n' hb (by omega) h3
    · exact q.rooms i j b lo hi lo' hi' hb h3 (fun e => hni (e ▸ hj)) o h1 h2 h4.1 h4.2
  have hx : Ext H H' ρ (backρ ρ ρs' ids nb news) := by
    refine ⟨s.ext.cell, s.ext.obj, fun i hi => ?_⟩
    rcases hcase i with ⟨j, h1, h2⟩ | ⟨h1, h2, h3, h4⟩ | ⟨_, _, h1⟩
    · have h3 := subρ_at (ρ := ρ) h1
      rw [h2, ← h3]
      exact s.ext.re j (by rw [h3]; exact hi)
    · exact absurd (isFree_ρ q hf h2 h3) hi
    · exact .inl h1
  have hsame : ∀ {i b n}, i ∉ ids → ρ i = .blk b n → w'.heap[b]? = w.heap[b]? := fun hi hb => s.pres.same _ (q.blk_lt hb) fun o => hapart hi hb
  have hpl : (putAt h ids (renH (backIdx ids nb news) es)).length = h.length := length_putAt _ _ _
  have hdl : ((renH (backIdx ids nb news) es).drop ids.length).length = news := by rw [List.length_drop, length_renH, hl]; omega
  obtain ⟨g1, g2, g3, g4⟩ := newAt_many ((renH (backIdx ids nb news) es).drop ids.length) (putAt h ids (renH (backIdx ids nb news) es)) nb (by rw [hpl]; exact hnb)
  rw [hdl] at g2 g3 g4
  rw [hpl] at g1 g3
  refine ⟨hx, ⟨s.rw.big, fun i hi => ?_, fun i e he => ?_, fun i j b n n' h1 h2 => ?_, fun i b n h1 => ?_, fun i b lo hi h1 h2 => ?_, fun i j b lo hi lo' hi' h1 h2 hne o h3 h4 h5 h6 => ?_, fun i j b lo hi n h1 h2 h3 => ?_, s.rw.ro, fun b o v i n hv h1 => ?_,
    fun b o v i lo hi hv h1 h2 h3 => ?_, fun b es' ck hb => ⟨(s.rw.robj b es' ck hb).1, fun i n h1 => ?_⟩⟩, s.pres.mono fun b o => htouch, fun b o hb ht => ?_, fun b o v hb hv => (s.nro b o v hb hv).imp id htouch, fun b x hb hv => (s.nobj b x hb hv).imp id htouch⟩
  · rcases hsub i with ⟨j, h1, h2, h3⟩ | ⟨h1, h2, h3⟩
    · rcases h2 with h2 | h2
      · exact absurd (hids i h2).1 (by omega)
      · omega
    · rw [h3]; exact q.out i (by omega)
  · rw [g4] at he
    rcases hcase i with ⟨j, h1, h2⟩ | ⟨h1, h2, h3, h4⟩ | ⟨h1, h2, h3⟩
    · have hi := hids i (List.mem_of_getElem? h1)
      rw [if_neg hi.2, getElem?_putAt ids _ h i hn (by rw [length_renH]; omega) (fun j hj => (hids j hj).1), nodup_idx hn h1] at he
      simp only at he
      rw [getElem?_renH] at he
      obtain ⟨e', he', rfl⟩ := Option.map_eq_some_iff.1 he
      rw [h2]
      exact (s.rw.ent j e' he').ren hback
    · rw [if_pos ⟨h2, h3⟩, List.getElem?_drop, getElem?_renH] at he
      obtain ⟨e', he', rfl⟩ := Option.map_eq_some_iff.1 he
      rw [h4]
      exact (s.rw.ent _ e' he').ren hback
    · have hix : idx ids i = none := by
        cases e' : idx ids i with
        | none => rfl
        | some j => exact absurd (List.mem_of_getElem? (idx_some e')) h1
      rw [if_neg h2, getElem?_putAt ids _ h i hn (by rw [length_renH]; omega) (fun j hj => (hids j hj).1), hix] at he
      simp only at he
      rw [h3]
      exact (q.ent i e he).keep hx fun b n hb => hsame h1 hb
  · rcases hsub i with ⟨i1, e1, a1, b1⟩ | ⟨a1, a2, e1⟩ <;> rcases hsub j with ⟨j1, e2, c1, d1⟩ | ⟨c1, c2, e2⟩
    · rw [e1] at h1; rw [e2] at h2
      have := s.rw.inj i1 j1 b n n' h1 h2
      subst this
      exact hbi b1 d1
    · rw [e1] at h1; rw [e2] at h2
      exact absurd (s.shrink b 0 (q.blk_lt h2) (.inl ⟨i1, n, h1⟩)) (hapart c1 h2)
    · rw [e1] at h1; rw [e2] at h2
      exact absurd (s.shrink b 0 (q.blk_lt h1) (.inl ⟨j1, n', h2⟩)) (hapart a1 h1)
    · rw [e1] at h1; rw [e2] at h2
      exact q.inj i j b n n' h1 h2
  · rcases hsub i with ⟨i1, e1, _⟩ | ⟨_, _, e1⟩
    · rw [e1] at h1; exact s.rw.lo i1 b n h1
    · rw [e1] at h1; exact q.lo i b n h1
  · rcases hsub i with ⟨i1, e1, _⟩ | ⟨_, _, e1⟩
    · rw [e1] at h1; exact s.rw.room i1 b lo hi h1 h2
    · rw [e1] at h1
      obtain ⟨a1, arr, ty, fz, a2, a3, a4⟩ := q.room i b lo hi h1 h2
      obtain ⟨arr', k1, k2, _⟩ := s.pres.part b arr ty fz a2
      exact ⟨a1, arr', ty, fz, k1, by omega, a4⟩
  · have hroomlt : ∀ {i lo hi}, ρ i = .tok b lo hi → lo ≤ o → o < hi → b < w.heap.size := by
      intro i lo hi h1 h2 h3
      obtain ⟨_, _, _, _, a2, _⟩ := q.room i b lo hi h1 (by omega)
      exact (Array.getElem?_eq_some_iff.1 a2).1
    rcases hsub i with ⟨i1, e1, a1, b1⟩ | ⟨a1, a2, e1⟩ <;> rcases hsub j with ⟨j1, e2, c1, d1⟩ | ⟨c1, c2, e2⟩
    · rw [e1] at h1; rw [e2] at h2
      refine s.rw.rooms i1 j1 b lo hi lo' hi' h1 h2 (fun e => hne ?_) o h3 h4 h5 h6
      subst e
      exact hbi b1 d1
    · rw [e1] at h1; rw [e2] at h2
      exact hapart2 c1 h2 h5 h6 (s.shrink b o (hroomlt h2 h5 h6) (.inr ⟨i1, lo, hi, h1, h3, h4⟩))
    · rw [e1] at h1; rw [e2] at h2
      exact hapart2 a1 h1 h3 h4 (s.shrink b o (hroomlt h1 h3 h4) (.inr ⟨j1, lo', hi', h2, h5, h6⟩))
    · rw [e1] at h1; rw [e2] at h2
      exact q.rooms i j b lo hi lo' hi' h1 h2 hne o h3 h4 h5 h6
  · rcases hsub i with ⟨i1, e1, a1, b1⟩ | ⟨a1, a2, e1⟩ <;> rcases hsub j with ⟨j1, e2, c1, d1⟩ | ⟨c1, c2, e2⟩
    · rw [e1] at h1; rw [e2] at h3
      exact s.rw.roomBlk i1 j1 b lo hi n h1 h2 h3
    · rw [e1] at h1; rw [e2] at h3
      exact hapart c1 h3 (s.shrink b lo (q.blk_lt h3) (.inr ⟨i1, lo, hi, h1, Nat.le_refl _, h2⟩))
    · rw [e1] at h1; rw [e2] at h3
      obtain ⟨_, _, _, _, k2, _⟩ := q.room i b lo hi h1 h2
      exact hapart2 a1 h1 (Nat.le_refl _) h2 (s.shrink b lo (Array.getElem?_eq_some_iff.1 k2).1 (.inl ⟨j1, n, h3⟩))
    · rw [e1] at h1; rw [e2] at h3
      exact q.roomBlk i j b lo hi n h1 h2 h3
  · rcases hsub i with ⟨i1, e1, _⟩ | ⟨a1, _, e1⟩
    · rw [e1] at h1; exact s.rw.roBlk b o v i1 n hv h1
    · rw [e1] at h1
      rcases s.nro b o v (q.blk_lt h1) hv with hv' | ht
      · exact q.roBlk b o v i n hv' h1
      · exact hapart a1 h1 ht
  · rcases hsub i with ⟨i1, e1, _⟩ | ⟨a1, _, e1⟩
    · rw [e1] at h1; exact s.rw.roRoom b o v i1 lo hi hv h1 h2 h3
    · rw [e1] at h1
      obtain ⟨_, _, _, _, k2, _⟩ := q.room i b lo hi h1 (by omega)
      rcases s.nro b o v (Array.getElem?_eq_some_iff.1 k2).1 hv with hv' | ht
      · exact q.roRoom b o v i lo hi hv' h1 h2 h3
      · exact hapart2 a1 h1 h2 h3 ht
  · rcases hsub i with ⟨i1, e1, _⟩ | ⟨a1, _, e1⟩
    · rw [e1] at h1; exact (s.rw.robj b es' ck hb).2 i1 n h1
    · rw [e1] at h1
      rcases s.nobj b _ (q.blk_lt h1) hb with hv' | ht
      · exact (q.robj b es' ck hv').2 i n h1
      · exact hapart a1 h1 ht
  · rcases ht with ⟨i, n, h1⟩ | ⟨i, lo, hi, h1, h2⟩
    · rcases hsub i with ⟨i1, e1, _⟩ | ⟨_, _, e1⟩
      · rw [e1] at h1; exact htouch (s.shrink b o hb (.inl ⟨i1, n, h1⟩))
      · rw [e1] at h1; exact .inl ⟨i, n, h1⟩
    · rcases hsub i with ⟨i1, e1, _⟩ | ⟨_, _, e1⟩
      · rw [e1] at h1; exact htouch (s.shrink b o hb (.inr ⟨i1, lo, hi, h1, h2⟩))
      · rw [e1] at h1; exact .inr ⟨i, lo, hi, h1, h2⟩
end
end Go.Ev

/- Calls. Own work. -/
namespace Go.Ev
variable {El : Nat → Type}

section
variable {P : Program} {C : Cx El} {base : Nat} {H : RO} {ρ : Nat → RE} {h : List (HE El)} {w : World} {a : Go.Act} {o : Oper} {R : Type} {k : AV El → List (HE El) → Option R} {r : R} {nb : Nat} {sl : List (AV El)}

theorem VL.app {as bs : List (AV El)} {us vs : List Value} (h1 : VL C H ρ as us) (h2 : VL C H ρ bs vs) : VL C H ρ (as ++ bs) (us ++ vs) := by
  refine ⟨by simp [h1.1, h2.1], fun i x v hx hv => ?_⟩
  by_cases hi : i < as.length
  · rw [List.getElem?_append_left hi] at hx
    rw [List.getElem?_append_left (h1.1 ▸ hi)] at hv
    exact h1.2 i x v hx hv
  · have hi' : as.length ≤ i := by omega
    rw [List.getElem?_append_right hi'] at hx
    rw [List.getElem?_append_right (h1.1 ▸ hi')] at hv
    exact h2.2 (i - as.length) x v hx (by rw [h1.1]; exact hv)

theorem VL.cons {x : AV El} {as : List (AV El)} {u : Value} {us : List Value} (h1 : V C H ρ x u) (h2 : VL C H ρ as us) : VL C H ρ (x :: as) (u :: us) := by
  refine ⟨by simp [h2.1], fun i x v hx hv => ?_⟩
  cases i with
  | zero => simp at hx hv; subst hx; subst hv; exact h1
  | succ i => exact h2.2 i x v (by simpa using hx) (by simpa using hv)

theorem VL.uncons {x : AV El} {as : List (AV El)} {u : Value} {us : List Value} (h : VL C H ρ (x :: as) (u :: us)) : V C H ρ x u ∧ VL C H ρ as us :=
  ⟨h.2 0 x u rfl rfl, by have := h.1; simp at this; exact this, fun i x v hx hv => h.2 (i + 1) x v (by simpa using hx) (by simpa using hv)⟩

theorem coArgs_ok : ∀ (ts : List Nat) {as : List (AV El)} {vs : List Value}, VL C H ρ as vs → VL C H ρ (coArgs C ts as) vs
  | [], as, vs, hv => by cases as <;> exact hv
  | t :: ts, [], vs, hv => hv
  | t :: ts, x :: as, vs, hv => by
    cases vs with
    | nil => have := hv.1; simp at this
    | cons v vs =>
      obtain ⟨h1, h2⟩ := hv.uncons
      exact .cons (co_ok h1) (coArgs_ok ts h2)

theorem opds_ok (hS : VL C H ρ sl a.tmps.toList) : ∀ xs : List Operand, VL C H ρ (xs.map (opd sl)) (xs.map a.eval)
  | [] => ⟨rfl, fun i x v hx => by simp at hx⟩
  | x :: xs => .cons (opd_ok hS x) (opds_ok hS xs)

theorem callIds_ok {f : FuncId} {fs : FS El} (hF : SoundF P C base f fs) (q : Rw C base H ρ h w) (hnb : nb ≤ h.length) {ids : List Nat} {args : List (AV El)} {vals : Array Value} (hv : VL C H ρ args vals.toList)
    (hp : perform (callIds fs ids h args) h nb k = some r) : Calls P f vals w (Ret (Post C base H ρ w k r)) := by
  unfold callIds at hp
  split at hp
  · rename_i hc
    simp only [Bool.and_eq_true] at hc
    have hn := noDup_nodup hc.1
    have hth := thereB_ok hc.2
    simp only [bif_ble, bif_blt, perform] at hp
    split at hp
    · rename_i hf
      have := hF.2 H (subρ ρ ids) (renH (idx ids) (ids.map fun i => h.getD i .free)) w (renL (idx ids) args) vals R _ r (q.sub hn) (hv.ren sub_idx) hp
      refine this.mono fun e w' hR => ?_
      obtain ⟨u, he, v, es, H', ρs', hk, s, hu⟩ := hR
      refine ⟨u, he, ?_⟩
      simp only [Bool.false_eq_true, if_false] at hk
      split at hk
      · rename_i hl
        rw [length_renH] at hl
        obtain ⟨hb, hs⟩ := call_step q hnb hn hth hf s hl
        exact ⟨_, _, H', _, hk, hs, hu.ren hb⟩
      · cases hk
    · cases hp
  · simp [perform] at hp

theorem callFunc_enter {f : FuncId} (he : Enters P f) (vals : Array Value) : (callFunc f vals).run P w = .ok (.enter f vals) w := by
  obtain ⟨fn, h1, h2, h3⟩ := he
  have hp : program.run P w = .ok P w := by simp
  simp only [callFunc, Sem.run_bind, hp, Result.andThen_ok, h1, h2, h3, Bool.false_eq_true, if_false, Sem.run_pure]

theorem go_call (hF : ∀ f fs, C.fn f = some fs → SoundF P C base f fs) (hS : VL C H ρ sl a.tmps.toList) (q : Rw C base H ρ h w) (hnb : nb ≤ h.length) {c : Call} {f : Operand} (ho : o.op = .call c) (hc : c.callee = .value f)
    (hp : perform (execA C h sl o) h nb k = some r) : Goes P o a w (Post C base H ρ w k r) := by
  have hf := opd_ok hS f
  simp only [execA, ho, hc] at hp
  split at hp
  · rename_i g as bs e
    rw [e] at hf
    generalize hv : a.eval f = vf at hf
    cases hf
    rename_i us vs h1 h3 h2 h4
    unfold callA at hp
    split at hp
    · simp [perform] at hp
    · rename_i fs hfs
      have hs := hF g fs hfs
      refine goes_enter (w' := w) (f := g) (args := us ++ c.args.map a.eval ++ vs) ?_ ?_
      · simp only [execOp, ho, resolve, hc, hv, Deferred.ofValue, Sem.run_bind, Sem.run_pure, Result.andThen_ok, invoke]
        exact callFunc_enter hs.1 _
      · refine callIds_ok hs q hnb (VL.low ?_) hp
        simp only [Array.toList_append, Array.toList_map]
        exact ((VL.app ⟨by simpa using h1, fun i x v hx hv => h3 i x v hx (by simpa using hv)⟩ (coArgs_ok _ (opds_ok hS _))).app ⟨by simpa using h2, fun i x v hx hv => h4 i x v hx (by simpa using hv)⟩)
  · simp [perform] at hp
end
end Go.Ev

/- Maps: looking up, laying in. Own work. -/
namespace Go.Ev
variable {El : Nat → Type}

section
variable {P : Program} {C : Cx El} {base : Nat} {H : RO} {ρ : Nat → RE} {h : List (HE El)} {w : World} {a : Go.Act} {o : Oper} {R : Type} {k : AV El → List (HE El) → Option R} {r : R} {nb : Nat} {sl : List (AV El)}

theorem findA_ok {kk kt : IntKind} {n : Int} {zero : AV El} {kf : AV El → Bool → Option R} : ∀ {es : List (AV El × AV El)} {ents : List MapEntry} (i : Nat), es.length = ents.length →
    (∀ (j : Nat) x a e, es[j]? = some (x, a) → ents[j]? = some e → V C H ρ x e.key ∧ V C H ρ a e.val) → findA (.int kk n) zero kf es = some r →
    (∃ i' u v, Instr.findNow (.int kt) (.int kk n) ents i = some (some (i', u)) ∧ V C H ρ v u ∧ kf v true = some r) ∨ (Instr.findNow (.int kt) (.int kk n) ents i = some none ∧ kf zero false = some r)
  | [], ents, i, hl, hv, hp => by
    cases ents with
    | nil => exact .inr ⟨rfl, hp⟩
    | cons e es => simp at hl
  | (x, v) :: es, ents, i, hl, hv, hp => by
    cases ents with
    | nil => simp at hl
    | cons e ents =>
      obtain ⟨h1, h2⟩ := hv 0 x v e rfl rfl
      simp only [findA] at hp
      split at hp
      · rename_i b hb
        cases x with
        | int k2 m =>
          simp only [eq1] at hb
          split at hb
          · rename_i hk
            subst hk
            cases hb
            obtain ⟨hkey, _⟩ := h1.intE
            have hs : Instr.sameNow (.int kt) (.int kk n) e.key = some (n == m) := by rw [hkey]; simp [Instr.sameNow]
            cases hd : decide (n = m)
            case true =>
              have hnm : n = m := of_decide_eq_true hd
              rw [hd] at hp
              refine .inl ⟨i, e.val, v, ?_, h2, hp⟩
              rw [Instr.findNow, hs]
              simp [hnm]
            case false =>
              have hnm : ¬ n = m := of_decide_eq_false hd
              rw [hd] at hp
              have ih := findA_ok (kt := kt) (es := es) (ents := ents) (i + 1) (by simpa using hl) (fun j x a e' hx he => hv (j + 1) x a e' (by simpa using hx) (by simpa using he)) hp
              have hf : Instr.findNow (.int kt) (.int kk n) (e :: ents) i = Instr.findNow (.int kt) (.int kk n) ents (i + 1) := by
                have hb' : (n == m) = false := by simpa using hnm
                rw [Instr.findNow, hs, hb']
              rw [hf]
              exact ih
          · cases hb
        | _ => simp [eq1] at hb
      · cases hp

theorem run_findKey {kt : TypeId} {ik kk : IntKind} {n : Int} {es : List MapEntry} {x : Option (Nat × Value)} (hk : P.underlying kt = some (.int ik)) (hf : Instr.findNow (.int ik) (.int kk n) es 0 = some x) : (Instr.findKey kt (.int kk n) es).run P w = .ok x w := by
  simp [Instr.findKey, run_underlying hk, hf]

theorem run_checkKey {kt : TypeId} {ik kk : IntKind} {n : Int} {b : Bool} (hk : P.underlying kt = some (.int ik)) : (Instr.checkKey b 10000 kt (.int kk n)).run P w = .ok () w := by
  show (Instr.checkKey b (9999 + 1) kt (.int kk n)).run P w = .ok () w
  rw [Instr.checkKey]
  simp [run_underlying hk]

theorem findNow_kind (k1 k2 kk : IntKind) (n : Int) : ∀ (es : List MapEntry) (i : Nat), Instr.findNow (.int k1) (.int kk n) es i = Instr.findNow (.int k2) (.int kk n) es i
  | [], i => rfl
  | e :: es, i => by
    have hs : Instr.sameNow (.int k1) (.int kk n) e.key = Instr.sameNow (.int k2) (.int kk n) e.key := by
      cases e.key <;> rfl
    rw [Instr.findNow, Instr.findNow, hs, findNow_kind k1 k2 kk n es (i + 1)]

theorem zeroValue_run {t : TypeId} {ti : TI El} (ht : TOk P C t ti) (H : RO) (ρ : Nat → RE) : ∃ z, (zeroValue t).run P w = .ok z w ∧ V C H ρ (part ti.zero 0 ti.size ti.ty.agg) z := by
  obtain ⟨i, z, h1, h2, h3, h4, h5⟩ := ht.zero
  refine ⟨z, by simp [zeroValue, typeInfo, h1, h2], ?_⟩
  have hp := ht.pos
  have := part_ok (h3 H ρ) (off := 0) (n := ti.size) (g := ti.ty.agg) (by rw [ht.len]; omega) hp
  cases hg : ti.ty.agg with
  | true =>
    rw [hg] at this
    obtain ⟨cs, rfl⟩ := h4 hg
    have e := (h3 H ρ).1
    have e' : ti.zero.length = cs.size := by simpa [Value.cells] using e
    have e3 := ht.len
    have e2 : (List.take ti.size (List.drop 0 cs.toList)).toArray = cs := by
      rw [List.drop_zero, List.take_of_length_le (by simp; omega)]

    simp only [if_true] at this
    show V C H ρ (part ti.zero 0 ti.size true) (.agg cs)
    rw [← e2]
    exact this
  | false =>
    rw [hg] at this
    have e := h5 hg
    simpa [e] using this

theorem V.to {c : AV El} {u : Value} (h : V C H ρ0 c u) : V C H ρ c u := h.ext ⟨fun _ _ _ h => h, fun _ _ h => h, fun i hi => absurd rfl hi⟩

theorem go_lookup (hT : TTOk P C) (hL : LOk C) (hS : VL C H ρ sl a.tmps.toList) (q : Rw C base H ρ h w) {t : TypeId} {x y : Operand} {ok : Bool} (ho : o.op = .lookup t x y ok) (hp : perform (execA C h sl o) h nb k = some r) : Goes P o a w (Post C base H ρ w k r) := by
  simp only [execA, ho, lookA] at hp
  have hx := opd_ok hS x
  have hy := opd_ok hS y
  split at hp
  · simp [perform] at hp
  rename_i ti hti
  have hty := (hT _ _ hti).ty
  split at hp
  case h_2 => simp [perform] at hp
  rename_i e he
  rw [he] at hty
  obtain ⟨kt, ik, hu, hk⟩ := hty
  split at hp
  · simp [perform] at hp
  rename_i ei hei
  have hte := hT _ _ hei
  split at hp
  · -- a map of the call's own
    rename_i id hid
    rw [hid] at hx
    split at hp
    case h_2 => simp [perform] at hp
    rename_i kk n hn
    rw [hn] at hy
    obtain ⟨hey, hry⟩ := hy.intE
    simp only [perform, isFree, if_true] at hp
    split at hp
    case h_2 => cases hp
    rename_i l hes
    simp only [List.map_cons, List.map_nil, List.cons.injEq, and_true] at hes
    obtain ⟨b, arr, ck, h1, h2, h3, h4⟩ : EntOk C H ρ w (.map l) (ρ id) := q.ent id _ (q.entry hes (by intro hc; cases hc))
    obtain ⟨b', n', hb', hex⟩ : ∃ b' n', ρ id = .blk b' n' ∧ a.eval x = .map (some b') := by
      generalize a.eval x = vx at hx
      cases hx with
      | map _ _ b' n' hb' => exact ⟨b', n', hb', rfl⟩
    rw [h1] at hb'; cases hb'
    have hget : (getObj b).run P w = .ok (.map arr ck) w := by simp [getObj, Sem.run, h2]
    obtain ⟨z, hz, hzv⟩ := zeroValue_run (w := w) hte H ρ
    have hpp := findA_ok (C := C) (H := H) (ρ := ρ) (kt := ik) (es := l) (ents := arr.toList) 0 (by simpa using h3) (fun j x a e' hx he' => h4 j x a e' hx (by simpa using he')) hp
    have hrun : ∀ v b' , (match Instr.findNow (.int ik) (.int kk n) arr.toList 0 with | some (some (_, u)) => (v, b') = (u, true) | some none => (v, b') = (z, false) | none => False) →
        (execOp a.eval o).run P w = .ok (.value (if ok then .tuple #[v, .bool b'] else v)) w := by
      intro v b' hm
      simp only [execOp, ho, Instr.lookup, Sem.run_bind, run_underlying hu, Result.andThen_ok, hex, hget, Sem.run_pure, hey, run_checkKey hk]
      cases hf : Instr.findNow (.int ik) (.int kk n) arr.toList 0 with
      | none => rw [hf] at hm; exact hm.elim
      | some x =>
        rw [hf] at hm
        simp only [run_findKey (w := w) hk hf, Result.andThen_ok]
        cases x with
        | none => cases hm; simp [hz]
        | some p => obtain ⟨i, u⟩ := p; cases hm; simp
    rcases hpp with ⟨i', u, v, hf, hvu, hk'⟩ | ⟨hf, hk'⟩
    · refine goes_value (hrun u true (by rw [hf])) (.now q hk' ?_)
      cases ok
      · exact hvu
      · exact VL.tup (vs := #[u, .bool true]) (.cons hvu (.cons (.bool _ _) ⟨rfl, fun i a v h => by simp at h⟩))
    · refine goes_value (hrun z false (by rw [hf])) (.now q hk' ?_)
      cases ok
      · exact hzv
      · exact VL.tup (vs := #[z, .bool false]) (.cons hzv (.cons (.bool _ _) ⟨rfl, fun i a v h => by simp at h⟩))
  · -- a map that is not written again
    rename_i c g f hf
    rw [hf] at hx
    split at hp
    case h_2 => simp [perform] at hp
    rename_i n hn
    rw [hn] at hy
    obtain ⟨hey, hry⟩ := hy.intE
    split at hp
    case isFalse => simp [perform] at hp
    rename_i hc
    obtain ⟨rfl, hg, hsz, hzq⟩ := hc
    simp only [perform] at hp
    generalize hvx : a.eval x = vx at hx
    cases hx with
    | fmap _ _ _ _ b es ck vs us hH h1 h0 h3 h2 =>
    obtain ⟨hw, _⟩ := q.robj _ _ _ hH
    have hget : (getObj b).run P w = .ok (.map es ck) w := by simp [getObj, Sem.run, hw]
    obtain ⟨z, hz, hzv⟩ := zeroValue_run (w := w) hte H ρ
    have key : ∃ u b', (execOp a.eval o).run P w = .ok (.value (if ok then .tuple #[u, .bool b'] else u)) w ∧ b' = (f n).isSome ∧ V C H ρ (part (C.lay.cells c ((f n).getD (C.lay.dflt c))) 0 ei.size g) u := by
      cases hm : f n with
      | none =>
        have hf0 := h0 n hry hm
        refine ⟨z, false, ?_, rfl, ?_⟩
        · simp only [execOp, ho, Instr.lookup, Sem.run_bind, run_underlying hu, Result.andThen_ok, hvx, hget, Sem.run_pure, hey, run_checkKey hk]
          have hfk : Instr.findNow (.int ik) (.int .i64 n) es.toList 0 = some none := by
            rw [← hf0]; exact findNow_kind _ _ _ _ _ _
          simp [run_findKey (w := w) hk hfk, hz]
        · rw [Option.getD_none, ← zeroEq_eq hzq, hg]
          exact hzv
      | some y =>
        obtain ⟨i, hf1⟩ := h1 n y hry hm
        refine ⟨vs n, true, ?_, rfl, ?_⟩
        · simp only [execOp, ho, Instr.lookup, Sem.run_bind, run_underlying hu, Result.andThen_ok, hvx, hget, Sem.run_pure, hey, run_checkKey hk]
          have hfk : Instr.findNow (.int ik) (.int .i64 n) es.toList 0 = some (some (i, vs n)) := by
            rw [← hf1]; exact findNow_kind _ _ _ _ _ _
          simp [run_findKey (w := w) hk hfk]
        · rw [Option.getD_some, h3 n y hm]
          have hl := hL.len c y
          have hcl : VL C H ρ (C.lay.cells c y) ((List.range (C.lay.w c)).map (us n)) := by
            refine ⟨by simp [hl], fun j x' v' hx' hv' => ?_⟩
            rw [List.getElem?_map] at hv'
            obtain ⟨j', hj', rfl⟩ := Option.map_eq_some_iff.1 hv'
            obtain ⟨hlt, hj2⟩ := List.getElem?_eq_some_iff.1 hj'
            rw [List.getElem_range] at hj2
            subst hj2
            exact (h2 n y j x' hm hx').to
          have hpt := part_ok hcl (off := 0) (n := ei.size) (g := g) (by rw [hl, hsz]; omega) (by rw [hg]; exact hte.pos)
          cases g with
          | true =>
            simp only [if_true] at hpt ⊢
            have e2 : List.take ei.size (List.drop 0 ((List.range (C.lay.w c)).map (us n))) = (List.range (C.lay.w c)).map (us n) := by
              rw [List.drop_zero, List.take_of_length_le (by simp [hsz])]
            rw [e2] at hpt
            exact hpt
          | false =>
            simp only [Bool.false_eq_true, if_false] at hpt ⊢
            have hpos : 0 < C.lay.w c := by rw [← hsz]; exact hte.pos (by rw [← hg])
            have e2 : ((List.range (C.lay.w c)).map (us n)).getD 0 undef = us n 0 := by
              rw [List.getD_eq_getElem?_getD, List.getElem?_map, List.getElem?_range hpos]; rfl
            rw [e2] at hpt
            exact hpt
    obtain ⟨u, b', hrun, rfl, hv⟩ := key
    refine goes_value hrun (.now q hp ?_)
    cases ok
    · exact hv
    · exact VL.tup (vs := #[u, .bool (f n).isSome]) (.cons hv (.cons (.bool _ _) ⟨rfl, fun i a v h => by simp at h⟩))
  · simp [perform] at hp

theorem go_insert (hT : TTOk P C) (hS : VL C H ρ sl a.tmps.toList) (q : Rw C base H ρ h w) {t : TypeId} {x y z : Operand} (ho : o.op = .insert t x y z) (hp : perform (execA C h sl o) h nb k = some r) : Goes P o a w (Post C base H ρ w k r) := by
  simp only [execA, ho, insertA] at hp
  have hx := opd_ok hS x
  have hy := opd_ok hS y
  have hz := opd_ok hS z
  split at hp
  · simp [perform] at hp
  rename_i ti hti
  have hty := (hT _ _ hti).ty
  split at hp
  case h_2 => simp [perform] at hp
  rename_i e he
  rw [he] at hty
  obtain ⟨kt, ik, hu, hk⟩ := hty
  split at hp
  case h_2 => simp [perform] at hp
  rename_i id hid
  rw [hid] at hx
  split at hp
  case h_2 => simp [perform] at hp
  rename_i kk n hn
  rw [hn] at hy
  obtain ⟨hey, hry⟩ := hy.intE
  simp only [perform, isFree, if_true] at hp
  split at hp
  case h_2 => cases hp
  rename_i l hes
  simp only [List.map_cons, List.map_nil, List.cons.injEq, and_true] at hes
  obtain ⟨b, arr, ck, h1, h2, h3, h4⟩ : EntOk C H ρ w (.map l) (ρ id) := q.ent id _ (q.entry hes (by intro hc; cases hc))
  obtain ⟨b', n', hb', hex⟩ : ∃ b' n', ρ id = .blk b' n' ∧ a.eval x = .map (some b') := by
    generalize a.eval x = vx at hx
    cases hx with
    | map _ _ b' n' hb' => exact ⟨b', n', hb', rfl⟩
  rw [h1] at hb'; cases hb'
  have hget : (getObj b).run P w = .ok (.map arr ck) w := by simp [getObj, Sem.run, h2]
  have hpp := findA_ok (C := C) (H := H) (ρ := ρ) (kt := ik) (es := l) (ents := arr.toList) 0 (by simpa using h3) (fun j x a e' hx he' => h4 j x a e' hx (by simpa using he')) hp
  rcases hpp with ⟨i', u, v, hf, hvu, hk'⟩ | ⟨hf, hk'⟩
  · cases hk'
  · simp only [cond_false, Bool.false_eq_true, if_false, List.length_cons, List.length_nil, Nat.add_zero, if_true, putAt, List.drop, newAt] at hk'
    have hset : (setObj b (.map (arr.push ⟨.int kk n, a.eval z, ck⟩) (ck + 1))).run P w = .ok () { w with heap := w.heap.setIfInBounds b (.map (arr.push ⟨.int kk n, a.eval z, ck⟩) (ck + 1)) } := by
      simp [setObj, Sem.run, h2]
    have hrun : (execOp a.eval o).run P w = .ok .skip { w with heap := w.heap.setIfInBounds b (.map (arr.push ⟨.int kk n, a.eval z, ck⟩) (ck + 1)) } := by
      simp only [execOp, ho, Instr.mapUpdate, Sem.run_bind, run_underlying hu, Result.andThen_ok, hex, hget, hey, run_checkKey hk, run_findKey (w := w) hk hf, hset, Sem.run_pure]
    have hb : b < w.heap.size := (Array.getElem?_eq_some_iff.1 h2).1
    refine goes_skip hrun ⟨_, _, H, ρ, hk', step_mod (w' := { w with heap := w.heap.setIfInBounds b (.map (arr.push ⟨.int kk n, a.eval z, ck⟩) (ck + 1)) }) q h1 (.map (l ++ [(.int kk n, co C e (opd sl z))])) rfl rfl rfl (by simp) (fun k hk => by simp [Array.getElem?_setIfInBounds_ne (fun e => hk e.symm)]) (fun arr ty fz ha => by rw [h2] at ha; cases ha)
      ⟨b, arr.push ⟨.int kk n, a.eval z, ck⟩, ck + 1, rfl, by simp [hb], by simp [h3], fun i kx ax ex hx' he' => ?_⟩, undefA_ok _ _ _⟩
    have hsz : l.length = arr.size := h3
    by_cases hi : i < l.length
    · rw [List.getElem?_append_left hi] at hx'
      rw [Array.getElem?_push_lt (by omega)] at he'
      exact h4 i kx ax ex hx' (by rw [Array.getElem?_eq_getElem (by omega)]; exact he')
    · have hi2 : i = l.length := by
        have := (List.getElem?_eq_some_iff.1 hx').1
        simp at this
        omega
      subst hi2
      rw [List.getElem?_append_right (Nat.le_refl _)] at hx'
      simp only [Nat.sub_self, List.getElem?_cons_zero, Option.some.injEq, Prod.mk.injEq] at hx'
      obtain ⟨rfl, rfl⟩ := hx'
      rw [hsz] at he'
      simp only [Array.getElem?_push_size, Option.some.injEq] at he'
      subst he'
      exact ⟨.int _ _ _ hry, co_ok hz⟩
end
end Go.Ev

/- Every operation. Own work. -/
namespace Go.Ev
variable {El : Nat → Type}

/-- What a context owes. -/
structure CxOk (P : Program) (C : Cx El) (base : Nat) : Prop where
  tt : TTOk P C
  lay : LOk C
  cmp : ∀ t ts, C.cmp t = some ts → CmpOk P t ts
  fn : ∀ f fs, C.fn f = some fs → SoundF P C base f fs

section
variable {P : Program} {C : Cx El} {base : Nat} {H : RO} {ρ : Nat → RE} {h : List (HE El)} {w : World} {a : Go.Act} {o : Oper} {R : Type} {k : AV El → List (HE El) → Option R} {r : R} {nb : Nat} {sl : List (AV El)}

theorem exec_ok (hC : CxOk P C base) (hS : VL C H ρ sl a.tmps.toList) (q : Rw C base H ρ h w) (hnb : nb ≤ h.length) (hp : perform (execA C h sl o) h nb k = some r) : Goes P o a w (Post C base H ρ w k r) := by
  cases ho : o.op with
  | move x => exact go_move hS q (.inl ho) hp
  | assign x => exact go_move hS q (.inr ho) hp
  | pick c x y => exact go_pick hS q ho hp
  | alloc t => exact go_alloc hC.tt q hnb ho hp
  | box t x => exact go_box hS q hnb ho hp
  | build t ps => exact go_build hC.tt hS q ho hp
  | buildSlice t n ps => exact go_buildSlice hC.tt hC.lay hS q hnb ho hp
  | load t x => exact go_load hC.tt hS q ho hp
  | store t x y => exact go_store hC.tt hS q ho hp
  | nilCheck x => exact go_nilCheck hS q ho hp
  | binOp op t x y yt => exact go_binOp hC.tt hC.cmp hS q ho hp
  | unOp op t x => exact go_unOp hS q ho hp
  | convert s d x => exact go_conv hC.tt hS q hnb ho hp
  | makeFunc f x y => exact go_makeFunc hS q ho hp
  | makeSlice t x y => exact go_makeSlice hC.tt hS q hnb ho hp
  | slice t x lo hi mx => exact go_slice hC.tt hS q ho hp
  | fieldAddr t x f => exact go_fieldAddr hC.tt hS q ho hp
  | field t x f => exact go_field hC.tt hS q ho hp
  | indexAddr t x i => exact go_indexAddr hC.tt hS q ho hp
  | index t x i => exact go_index hC.tt hS q ho hp
  | range t x => exact go_range hC.tt hS q hnb ho hp
  | next it s =>
    cases s with
    | true => exact go_next hS q ho hp
    | false => simp [execA, ho, perform] at hp
  | makeMap t n =>
    cases n with
    | none => exact go_makeMap hC.tt q hnb ho hp
    | some n => simp [execA, ho, perform] at hp
  | extract x i => exact go_extract hS q ho hp
  | lookup t x i ok => exact go_lookup hC.tt hC.lay hS q ho hp
  | insert t x i v => exact go_insert hC.tt hS q ho hp
  | call c =>
    obtain ⟨callee, args, ts⟩ := c
    cases callee with
    | value f => exact go_call hC.fn hS q hnb ho rfl hp
    | invoke x n => simp [execA, ho, perform] at hp
    | builtin b =>
      cases b with
      | len => exact go_len hC.tt hS q ho hp
      | append => exact go_append hC.tt hC.lay hS q hnb ho hp
      | min => exact go_min hS q ho hp
      | max => exact go_max hS q ho hp
      | _ => simp [execA, ho, perform] at hp
  | _ => simp [execA, ho, perform] at hp
end
end Go.Ev

/- Regions in the order of their text. Own work. -/
namespace Go.Ev
variable {El : Nat → Type}

theorem guarded_cases {R : Type} {ops : List Oper} {o : Oper} {sl : List (AV El)} {yes no : List (AV El) → Option R} {r : R} (hp : guarded ops o sl yes no = some r) :
    (o.guard = none ∧ yes sl = some r) ∨ ∃ j want, o.guard = some (j, want) ∧
      ((∃ p d b, ops[j]? = some p ∧ p.dst = some d ∧ sl.getD d undefA = .bool b ∧ (if b = want then yes sl = some r else no sl = some r)) ∨
       (((ops[j]?).bind (·.dst) = none ∨ ∃ p d, ops[j]? = some p ∧ p.dst = some d ∧ sl.getD d undefA = undefA) ∧ no sl = some r)) := by
  have hset : ∀ (d : Nat) (x : AV El), sl.getD d undefA = x → sl.set d x = sl := by
    intro d x e
    by_cases hd : d < sl.length
    · rw [List.getD_eq_getElem?_getD, List.getElem?_eq_getElem hd] at e
      simp only [Option.getD_some] at e
      subst e
      exact List.set_getElem_self hd
    · exact List.set_eq_of_length_le (by omega)
  unfold guarded at hp
  split at hp
  · rename_i e
    exact .inl ⟨e, hp⟩
  · rename_i j want e
    refine .inr ⟨j, want, e, ?_⟩
    split at hp
    · rename_i e1
      exact .inr ⟨.inl (by simp [e1]), hp⟩
    · rename_i p e1
      split at hp
      · rename_i e2
        exact .inr ⟨.inl (by simp [e1, e2]), hp⟩
      · rename_i d e2
        split at hp
        · rename_i b e3
          refine .inl ⟨p, d, b, e1, e2, e3, ?_⟩
          have hs := hset d _ e3
          cases b <;> cases want <;> simp_all
        · rename_i e3
          exact .inr ⟨.inr ⟨p, d, e1, e2, e3⟩, hp⟩
        · cases hp

section
variable {P : Program} {C : Cx El} {base : Nat} {H : RO} {ρ : Nat → RE} {h : List (HE El)} {w : World} {a : Go.Act} {R : Type} {r : R} {sl : List (AV El)}

theorem put_ok (hS : VL C H ρ sl a.tmps.toList) {x : AV El} {v : Value} (hv : V C H ρ x v) (d : Option Nat) : VL C H ρ (putS sl d x) (a.put d v).tmps.toList := by
  cases d with
  | none => exact hS
  | some d =>
    have hl := hS.1
    refine ⟨by simp [putS, Act.put, hl], fun i y u hy hu => ?_⟩
    simp only [putS] at hy
    simp only [Act.put, Array.toList_setIfInBounds] at hu
    by_cases hi : d = i
    · subst hi
      rw [List.getElem?_set] at hy hu
      simp only [if_true] at hy hu
      split at hy
      · split at hu
        · cases hy; cases hu; exact hv
        · cases hu
      · cases hy
    · rw [List.getElem?_set_ne hi] at hy hu
      exact hS.2 i y u hy hu

theorem put_defers (a : Go.Act) (d : Option Nat) (v : Value) : (a.put d v).defers = a.defers := by cases d <;> rfl

theorem undef_ok : V C H ρ undefA undef := .tup ρ [] #[] rfl (fun i a v h => by simp at h)

/-- Which operations are wanted. -/
theorem wanted_guard (hS : VL C H ρ sl a.tmps.toList) {ops : Array Oper} {o : Oper} {yes no : List (AV El) → Option R} (hp : guarded ops.toList o sl yes no = some r) :
    (Region.wanted o (yielded ops a.tmps) = true ∧ yes sl = some r) ∨ (Region.wanted o (yielded ops a.tmps) = false ∧ no sl = some r) := by
  rcases guarded_cases hp with ⟨e, h1⟩ | ⟨j, want, e, ⟨p, d, b, h1, h2, h3, h4⟩ | ⟨h1, h2⟩⟩
  · exact .inl ⟨by simp [Region.wanted, e], h1⟩
  · have h1' : ops[j]? = some p := by simpa using h1
    have hd : a.tmps[d]? = some (.bool b) := by
      have hv := hS.at d
      rw [h3] at hv
      have := hv.boolE
      by_cases hlt : d < a.tmps.size
      · simpa [hlt] using this
      · simp [hlt, undef] at this
    have hy : yielded ops a.tmps j = some b := by simp [yielded, h1', h2, hd]
    by_cases hb : b = want
    · rw [if_pos hb] at h4
      exact .inl ⟨by simp [Region.wanted, e, hy, hb], h4⟩
    · rw [if_neg hb] at h4
      exact .inr ⟨by simp [Region.wanted, e, hy, hb], h4⟩
  · refine .inr ⟨?_, h2⟩
    have hy : yielded ops a.tmps j = none := by
      rcases h1 with h1 | ⟨p, d, h1, h3, h4⟩
      · have : (ops[j]?).bind (·.dst) = none := by simpa using h1
        simp [yielded, this]
      · have h1' : ops[j]? = some p := by simpa using h1
        have hv := hS.at d
        rw [h4] at hv
        generalize hx : a.tmps.getD d undef = x at hv
        cases hv
        rename_i vs hl _
        simp only [yielded, h1', h3, Option.bind_some]
        split
        · rename_i b e5
          rw [Array.getD_eq_getD_getElem?, e5] at hx
          simp at hx
        · rfl
    simp [Region.wanted, e, hy]

/-- How the rest goes on. -/
def Good (C : Cx El) (base : Nat) (H0 : RO) (r0 : Nat → RE) (w0 : World) (k : List (AV El) → List (HE El) → Option R) (r : R) (K : Go.Act → World → Prop) : Prop :=
  ∀ sl h H ρ a w, k sl h = some r → Step C base H0 r0 w0 H ρ h w → VL C H ρ sl a.tmps.toList → a.defers = [] → K a w

theorem evOps_ok (hC : CxOk P C base) {H0 : RO} {r0 : Nat → RE} {w0 : World} {ops : Array Oper} {Q : Exit → Go.Act → World → Prop} {k : List (AV El) → List (HE El) → Option R} (hQ : Good C base H0 r0 w0 k r (Q .normal)) :
    ∀ (rest : List Oper) (i : Nat) (sl : List (AV El)) (h : List (HE El)) (H : RO) (ρ : Nat → RE) (a : Go.Act) (w : World), ops.toList.drop i = rest → Step C base H0 r0 w0 H ρ h w → VL C H ρ sl a.tmps.toList → a.defers = [] →
      evOps C ops.toList rest sl h k = some r → wpOps P ops Q (List.range' i rest.length) a w
  | [], i, sl, h, H, ρ, a, w, _, s, hS, hd, hp => hQ sl h H ρ a w hp s hS hd
  | o :: rest, i, sl, h, H, ρ, a, w, hr, s, hS, hd, hp => by
    have hi : ops[i]? = some o := by
      have : (ops.toList.drop i)[0]? = some o := by rw [hr]; rfl
      simpa using this
    have hr' : ops.toList.drop (i + 1) = rest := by
      rw [← List.tail_drop, hr]; rfl
    simp only [List.length_cons, List.range'_succ, wpOps, hi]
    simp only [evOps] at hp
    rcases wanted_guard hS hp with ⟨hw, h1⟩ | ⟨hw, h1⟩
    · rw [if_pos hw]
      refine .inl (exec_ok hC hS s.rw (Nat.le_refl _) h1 _ _ fun u w' hpost => ?_)
      obtain ⟨v, h', H', ρ', hk, s', hv⟩ := hpost
      exact evOps_ok hC hQ rest (i + 1) _ h' H' ρ' _ w' hr' (s.trans s') (put_ok (a := a) (VL.ext s'.ext hS) hv o.dst) (by rw [put_defers]; exact hd) hk
    · rw [if_neg (by rw [hw]; exact Bool.false_ne_true)]
      exact evOps_ok hC hQ rest (i + 1) _ h H ρ _ w hr' s (put_ok (a := a) hS undef_ok o.dst) (by rw [put_defers]; exact hd) h1
end
end Go.Ev

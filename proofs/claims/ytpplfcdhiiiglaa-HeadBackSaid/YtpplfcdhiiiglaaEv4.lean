/- The abstract machine and its proof, part 4: nothing here is a statement about the program. Own work. -/
import Derived.Test.YtpplfcdhiiiglaaEv3
import Derived.WalkKit
import Derived.ProofKit
import Derived.OpenShut
import Derived.ShutString
import Derived.ChangeOld
import Derived.Below
import Derived.SizedLaws
/- Contracts: what a function does, told on abstract values; loops by their measure. Own work. -/
namespace Go.Ev
variable {El : Nat → Type}

/-- What comes of a call: a value and the memory; by a condition. -/
inductive Rs (El : Nat → Type) where
  | ret (v : AV El) (h : List (HE El))
  | br (b : Bool) (x y : Rs El)
  | bad

abbrev Rs.pre (b : Bool) (x : Rs El) : Rs El := .br b x .bad

def Rs.go {R : Type} (k : AV El → List (HE El) → Option R) : Rs El → Option R
  | .ret v h => k v h
  | .br b x y => bif b then x.go k else y.go k
  | .bad => none

def Rs.leads (v : AV El) (h : List (HE El)) : Rs El → Prop
  | .ret v' h' => v' = v ∧ h' = h
  | .br b x y => (b = true ∧ x.leads v h) ∨ (b = false ∧ y.leads v h)
  | .bad => False

theorem Rs.go_leads {R : Type} {k : AV El → List (HE El) → Option R} {r : R} : ∀ {x : Rs El}, x.go k = some r → ∃ v h, x.leads v h ∧ k v h = some r
  | .ret v h, e => ⟨v, h, ⟨rfl, rfl⟩, e⟩
  | .br b x y, e => by
    cases b
    · obtain ⟨v, h, h1, h2⟩ := Rs.go_leads (x := y) e
      exact ⟨v, h, .inr ⟨rfl, h1⟩, h2⟩
    · obtain ⟨v, h, h1, h2⟩ := Rs.go_leads (x := x) e
      exact ⟨v, h, .inl ⟨rfl, h1⟩, h2⟩
  | .bad, e => by cases e

theorem Rs.leads_go {R : Type} {k : AV El → List (HE El) → Option R} {v : AV El} {h : List (HE El)} : ∀ {x : Rs El}, x.leads v h → x.go k = k v h
  | .ret _ _, ⟨rfl, rfl⟩ => rfl
  | .br b x y, e => by
    have ix := @Rs.leads_go R k v h x
    have iy := @Rs.leads_go R k v h y
    rcases e with ⟨rfl, e⟩ | ⟨rfl, e⟩
    · exact ix e
    · exact iy e

theorem Rs.leads_pre {v : AV El} {h : List (HE El)} {b : Bool} {x : Rs El} (e : (Rs.pre b x).leads v h) : b = true ∧ x.leads v h :=
  e.elim id fun e => e.2.elim

/-- What a function does, told without what goes on. -/
abbrev Sem1 (El : Nat → Type) := List (AV El) → List (HE El) → Rs El

def fsOf (news : Nat) (sem : Sem1 El) : FS El := ⟨news, fun {_} args h k => (sem args h).go k⟩

theorem Rs.nat {R R' : Type} (m : R' → Option R) (k : AV El → List (HE El) → Option R') : ∀ x : Rs El, x.go (fun v h' => (k v h').bind m) = (x.go k).bind m
  | .ret _ _ => rfl
  | .br b x y => by
    have ix := Rs.nat m k x
    have iy := Rs.nat m k y
    cases b
    · exact iy
    · exact ix
  | .bad => rfl

theorem natF_fsOf (news : Nat) (sem : Sem1 El) : NatF (fsOf news sem) := fun _ _ m args h k => Rs.nat m k (sem args h)

def fnL (l : List (Nat × FS El)) (t : Nat) : Option (FS El) :=
  match l with
  | [] => none
  | (n, x) :: r => if n = t then some x else fnL r t

/-- A contract, in a context of types alone. -/
def Ct (P : Program) (C : Cx El) (f : FuncId) (fs : FS El) : Prop := NatF fs ∧ ∀ base, SoundF P C base f fs

def Cts (P : Program) (C : Cx El) : List (Nat × FS El) → Prop
  | [] => True
  | p :: r => Ct P C p.1 p.2 ∧ Cts P C r

theorem Cts.at {P : Program} {C : Cx El} : ∀ {l : List (Nat × FS El)}, Cts P C l → ∀ f fs, fnL l f = some fs → Ct P C f fs
  | [], _, f, fs, h => by simp [fnL] at h
  | (n, x) :: r, hl, f, fs, h => by
    simp only [fnL] at h
    split at h
    · rename_i e
      subst e
      cases h
      exact hl.1
    · exact Cts.at hl.2 f fs h

/-- What a context of types owes. -/
structure BaseOk (P : Program) (C : Cx El) : Prop where
  tt : ∀ g, TTOk P (C.withFn g)
  lay : ∀ g, LOk (C.withFn g)
  cmp : ∀ t ts, C.cmp t = some ts → CmpOk P t ts
  orders : P.follows .mixedOrders = true

variable {P : Program} {C : Cx El}

theorem BaseOk.cx (hB : BaseOk P C) {l : List (Nat × FS El)} (hl : Cts P C l) (base : Nat) : CxOk P (C.withFn (fnL l)) base :=
  ⟨hB.tt _, hB.lay _, hB.cmp, fun f fs h => ((hl.at f fs h).2 base).fnc _⟩

theorem BaseOk.draw (hB : BaseOk P C) {l : List (Nat × FS El)} (hl : Cts P C l) (base : Nat) : DrawOk P (C.withFn (fnL l)) base :=
  draw_ok (hB.cx hl base) (fun f fs h => (hl.at f fs h).1) hB.orders

/-- What an evaluation owes for a contract, at given arguments. -/
def EvOk (C : Cx El) (l : List (Nat × FS El)) (fn : Func) (args : List (AV El)) (h : List (HE El)) (v : AV El) (h' : List (HE El)) : Prop :=
  ∃ hs lp L fuel, LpOk (C.withFn (fnL l)) h.length hs lp fuel (fn.body.getD .skip) ∧
    ∀ (R : Type) (k : AV El → List (HE El) → Option R), evF (C.withFn (fnL l)) hs lp L fuel fn.ntmps fn.results.toList (fn.body.getD .skip) args h k = k v h'

def noLp : Nat → Option (LP El) := fun _ => none
theorem lpOk_none {m : Nat} {hs : Nat → Option Hint} {fuel : Nat} {c : Code} : LpOk C m hs noLp fuel c := by
  intro body _ L h
  cases h

/-- An evaluation without loops. -/
theorem EvOk.plain {l : List (Nat × FS El)} {fn : Func} {args : List (AV El)} {h : List (HE El)} {v : AV El} {h' : List (HE El)} (L : Leave)
    (e : ∀ (R : Type) (k : AV El → List (HE El) → Option R), evF (C.withFn (fnL l)) (fun _ => none) noLp L 0 fn.ntmps fn.results.toList (fn.body.getD .skip) args h k = k v h') : EvOk C l fn args h v h' :=
  ⟨_, _, _, _, lpOk_none, e⟩

/-- A contract, by the function's text. -/
theorem Ct.of (hB : BaseOk P C) {f : FuncId} {fn : Func} (hf : P.funcs[f]? = some fn) (hb : fn.body.isNone = false) (hnum : (fn.name == "runtime.NumGoroutine") = false) {l : List (Nat × FS El)} (hl : Cts P C l) {news : Nat} {sem : Sem1 El}
    (hr : ∀ (H : RO) (ρ : Nat → RE) (args : List (AV El)) (vals : List Value) (h : List (HE El)) (v : AV El) (h' : List (HE El)), VL C H ρ args vals → (sem args h).leads v h' →
      ∃ args', VL C H ρ args' vals ∧ EvOk C l fn args' h v h') : Ct P C f (fsOf news sem) := by
  refine ⟨natF_fsOf _ _, fun base => ?_⟩
  have hb' : fn.body = some (fn.body.getD .skip) := by
    cases e : fn.body with
    | none => rw [e] at hb; cases hb
    | some c => rfl
  refine SoundF.ofEv hf hb' hnum (hB.cx hl base) (hB.draw hl base) fun H ρ h args vals R k r hv hp => ?_
  obtain ⟨v, h', e1, e2⟩ := Rs.go_leads (x := sem args h) hp
  obtain ⟨args', h1, hs', lp, L, fuel, h2, h3⟩ := hr H ρ args vals h v h' hv e1
  exact ⟨args', hs', lp, L, fuel, h1, h2, (h3 R k).trans e2⟩

/-- A loop by its measure: where what goes on is right at all lesser states, the body is right. -/
theorem rounds_inv {R S : Type} {body : (List (AV El) → List (HE El) → Option R) → List (AV El) → List (HE El) → Option R} (sl : S → List (AV El)) (h : S → List (HE El)) (out : S → Option R) (μ : S → Nat) (inv : S → Prop)
    (step : ∀ s, inv s → ∀ K : List (AV El) → List (HE El) → Option R, (∀ s', inv s' → μ s' < μ s → K (sl s') (h s') = out s') → body K (sl s) (h s) = out s) :
    ∀ s, inv s → ∃ n, rounds body n (sl s) (h s) = out s := by
  suffices H : ∀ n s, inv s → μ s < n → rounds body n (sl s) (h s) = out s from fun s h1 => ⟨_, H (μ s + 1) s h1 (Nat.lt_succ_self _)⟩
  intro n
  induction n with
  | zero => intro s _ hn; omega
  | succ n ih =>
    intro s h1 hn
    exact step s h1 _ fun s' h2 h3 => ih s' h2 (by omega)
end Go.Ev

/- Loops' contracts, told by their live slots. Own work. -/
namespace Go.Ev
variable {El : Nat → Type}

/-- How a loop is left. -/
inductive Ex (El : Nat → Type) where
  | ret (sl : List (AV El)) (h : List (HE El))
  | exit (i : Nat) (sl : List (AV El)) (h : List (HE El))
  | br (b : Bool) (x y : Ex El)
  | bad

abbrev Ex.pre (b : Bool) (x : Ex El) : Ex El := .br b x .bad

def Ex.out {R : Type} (kR : List (AV El) → List (HE El) → Option R) (kE : Nat → List (AV El) → List (HE El) → Option R) : Ex El → Option R
  | .ret sl h => kR sl h
  | .exit i sl h => kE i sl h
  | .br b x y => bif b then x.out kR kE else y.out kR kE
  | .bad => none

theorem Ex.nat {R R' : Type} (m : R' → Option R) (kR : List (AV El) → List (HE El) → Option R') (kE : Nat → List (AV El) → List (HE El) → Option R') :
    ∀ x : Ex El, x.out (fun sl h => (kR sl h).bind m) (fun i sl h => (kE i sl h).bind m) = (x.out kR kE).bind m
  | .ret _ _ => rfl
  | .exit _ _ _ => rfl
  | .br b x y => by
    have ix := Ex.nat m kR kE x
    have iy := Ex.nat m kR kE y
    cases b
    · exact iy
    · exact ix
  | .bad => rfl

theorem Ex.pre_out {R : Type} {kR : List (AV El) → List (HE El) → Option R} {kE : Nat → List (AV El) → List (HE El) → Option R} {b : Bool} {x : Ex El} {r : R} (h : (Ex.pre b x).out kR kE = some r) : b = true ∧ x.out kR kE = some r := by
  cases b
  · cases h
  · exact ⟨rfl, h⟩

/-- Slots from i on, n of them: those that are named, by rising places; others forgotten. -/
def mkS : Nat → Nat → List Nat → List (AV El) → List (AV El)
  | 0, _, _, _ => []
  | n + 1, i, p :: ps, v :: vs => if p = i then v :: mkS n (i + 1) ps vs else .junk :: mkS n (i + 1) (p :: ps) (v :: vs)
  | n + 1, i, _, _ => .junk :: mkS n (i + 1) [] []

def isJunk : AV El → Bool
  | .junk => true
  | _ => false

theorem isJunk_eq : ∀ {v : AV El}, isJunk v = true → v = .junk
  | .junk, _ => rfl

/-- The named slots, where all others are forgotten. -/
def getS : Nat → Nat → List Nat → List (AV El) → Option (List (AV El))
  | 0, _, [], [] => some []
  | n + 1, i, p :: ps, v :: sl => if p = i then (getS n (i + 1) ps sl).map (v :: ·) else if isJunk v then getS n (i + 1) (p :: ps) sl else none
  | n + 1, i, [], v :: sl => if isJunk v then getS n (i + 1) [] sl else none
  | _, _, _, _ => none

theorem getS_ok : ∀ (n i : Nat) (ps : List Nat) (sl vs : List (AV El)), getS n i ps sl = some vs → sl = mkS n i ps vs ∧ vs.length = ps.length
  | 0, i, [], [], vs, h => by simp only [getS, Option.some.injEq] at h; subst h; exact ⟨rfl, rfl⟩
  | 0, i, [], _ :: _, vs, h => by simp [getS] at h
  | 0, i, _ :: _, _, vs, h => by simp [getS] at h
  | n + 1, i, p :: ps, v :: sl, vs, h => by
    simp only [getS] at h
    split at h
    · rename_i e
      obtain ⟨ws, h1, rfl⟩ := Option.map_eq_some_iff.1 h
      obtain ⟨h2, h3⟩ := getS_ok n (i + 1) ps sl ws h1
      simp only [mkS, if_pos e]
      exact ⟨by rw [← h2], by simp [h3]⟩
    · rename_i e
      split at h
      · rename_i hj
        obtain ⟨h2, h3⟩ := getS_ok n (i + 1) (p :: ps) sl vs h
        cases vs with
        | nil => simp at h3
        | cons w ws =>
          simp only [mkS, if_neg e]
          cases isJunk_eq hj; exact ⟨by rw [← h2], h3⟩
      · cases h
  | n + 1, i, [], v :: sl, vs, h => by
    simp only [getS] at h
    split at h
    · rename_i hj
      obtain ⟨h2, h3⟩ := getS_ok n (i + 1) [] sl vs h
      cases vs with
      | nil =>
        simp only [mkS]
        cases isJunk_eq hj; exact ⟨by rw [← h2], h3⟩
      | cons w ws => simp at h3
    · cases h
  | n + 1, i, [], [], vs, h => by simp [getS] at h
  | n + 1, i, _ :: _, [], vs, h => by simp [getS] at h

/-- A loop's contract: how many slots there are, which live at its head, what it does. -/
structure LPd (El : Nat → Type) where
  n : Nat
  ps : List Nat
  spec : List (AV El) → List (HE El) → Ex El

def LPd.lp (d : LPd El) : LP El := ⟨fun {_} kR kE sl h => match getS d.n 0 d.ps sl with
  | none => none
  | some vs => (d.spec vs h).out kR kE⟩

theorem natL_lp (d : LPd El) : NatL d.lp := by
  intro R R' m kR kE sl h
  simp only [LPd.lp]
  cases getS d.n 0 d.ps sl with
  | none => rfl
  | some vs =>
    exact Ex.nat m kR kE _

def lpT (l : List (Nat × LPd El)) (t : Nat) : Option (LP El) :=
  match l with
  | [] => none
  | (n, x) :: r => if n = t then some x.lp else lpT r t

theorem lpT_mem : ∀ {l : List (Nat × LPd El)} {t : Nat} {L : LP El}, lpT l t = some L → ∃ d, (t, d) ∈ l ∧ L = d.lp
  | [], t, L, h => by simp [lpT] at h
  | (n, x) :: r, t, L, h => by
    simp only [lpT] at h
    split at h
    · rename_i e
      cases h
      exact ⟨x, by simp [e], rfl⟩
    · obtain ⟨d, h1, h2⟩ := lpT_mem h
      exact ⟨d, List.mem_cons_of_mem _ h1, h2⟩

/-- A loop's body, by its number. -/
def loopBody (c : Code) (key : Nat) : Code := ((loopsOf c).find? fun b => firstId b == key).getD .skip

theorem find_key : ∀ {l : List Code} {b : Code}, (l.map firstId).Nodup → b ∈ l → l.find? (fun x => firstId x == firstId b) = some b
  | [], _, _, h => by simp at h
  | x :: l, b, hn, h => by
    simp only [List.map_cons, List.nodup_cons] at hn
    simp only [List.find?_cons]
    rcases List.mem_cons.1 h with rfl | h'
    · simp
    · have : (firstId x == firstId b) = false := by
        simp only [beq_eq_false_iff_ne, ne_eq]
        intro e
        exact hn.1 (e ▸ List.mem_map_of_mem h')
      rw [this]
      exact find_key hn.2 h'

/-- What a loop's contract owes. -/
def LoopOk (C : Cx El) (m : Nat) (hs : Nat → Option Hint) (lp : Nat → Option (LP El)) (fuel : Nat) (body : Code) (d : LPd El) : Prop :=
  ∀ (R : Type) (kR : List (AV El) → List (HE El) → Option R) (kE : Nat → List (AV El) → List (HE El) → Option R) (vs : List (AV El)) (h : List (HE El)) (r : R),
    (d.spec vs h).out kR kE = some r → ∃ n, rounds (fun k sl h => evC C m hs lp fuel body k kR kE sl h) n (mkS d.n 0 d.ps vs) h = some r

theorem lpOk_list {C : Cx El} {m : Nat} {hs : Nat → Option Hint} {fuel : Nat} {c : Code} {l : List (Nat × LPd El)} (hk : noDup ((loopsOf c).map firstId) = true)
    (h : ∀ p ∈ l, LoopOk C m hs (lpT l) fuel (loopBody c p.1) p.2) : LpOk C m hs (lpT l) fuel c := by
  intro body hb L hL R kR kE sl hp r hr
  obtain ⟨d, h1, rfl⟩ := lpT_mem hL
  have hbody : loopBody c (firstId body) = body := by
    unfold loopBody
    rw [find_key (noDup_nodup hk) hb]
    rfl
  have := h _ h1
  simp only [hbody] at this
  simp only [LPd.lp] at hr
  split at hr
  · cases hr
  · rename_i vs hvs
    obtain ⟨e1, _⟩ := getS_ok _ _ _ _ _ hvs
    rw [e1]
    exact this R kR kE vs hp r hr

/-- An evaluation with loops. -/
theorem EvOk.loops {C : Cx El} {l : List (Nat × FS El)} {fn : Func} {args : List (AV El)} {h : List (HE El)} {v : AV El} {h' : List (HE El)} (hs : Nat → Option Hint) (tbl : List (Nat × LPd El)) (L : Leave)
    (hk : noDup ((loopsOf (fn.body.getD .skip)).map firstId) = true)
    (hl : ∀ p ∈ tbl, LoopOk (C.withFn (fnL l)) h.length hs (lpT tbl) 0 (loopBody (fn.body.getD .skip) p.1) p.2)
    (e : ∀ (R : Type) (k : AV El → List (HE El) → Option R), evF (C.withFn (fnL l)) hs (lpT tbl) L 0 fn.ntmps fn.results.toList (fn.body.getD .skip) args h k = k v h') : EvOk C l fn args h v h' :=
  ⟨hs, lpT tbl, L, 0, lpOk_list hk hl, e⟩
end Go.Ev

/- Elements of slices, by their kinds; structs that may be compared, checked. Own work. -/
namespace Go.Ev

structure PropV where
  id : Int
  n : Int
  text : List UInt8
  value : List UInt8

structure FilterV where
  topic : List UInt8
  qos : Int
  noLocal : Bool
  asPub : Bool
  handling : Int

structure WillV where
  topic : List UInt8
  payload : List UInt8
  qos : Int
  retain : Bool
  props : List PropV

structure PacketV where
  kind : Int
  dup : Bool
  retain : Bool
  qos : Int
  id : Int
  topic : List UInt8
  payload : List UInt8
  clean : Bool
  alive : Int
  client : List UInt8
  hasUser : Bool
  user : List UInt8
  hasPass : Bool
  pass : List UInt8
  hasWill : Bool
  will : WillV
  session : Bool
  code : Int
  codes : List Int
  filters : List FilterV
  props : List PropV

def FilterV.none : FilterV := ⟨[], 0, false, false, 0⟩
def PropV.none : PropV := ⟨0, 0, [], []⟩
def WillV.none : WillV := ⟨[], [], 0, false, []⟩
def PacketV.none : PacketV := ⟨0, false, false, 0, 0, [], [], false, 0, [], false, [], false, [], false, .none, false, 0, [], [], []⟩

inductive EC where
  | unit
  | int
  | str
  | prop
  | filter
  | packet

def ElE : EC → Type
  | .unit => Unit
  | .int => Int
  | .str => List UInt8
  | .prop => PropV
  | .filter => FilterV
  | .packet => PacketV

def dfltE : (e : EC) → ElE e
  | .unit => ()
  | .int => (0 : Int)
  | .str => ([] : List UInt8)
  | .prop => PropV.none
  | .filter => FilterV.none
  | .packet => PacketV.none

variable {El : Nat → Type}

/-- A value as it may stand in memory that is not written any more. -/
def AV.roD : AV El → AV El
  | .bool b => .bool b
  | .int k n => .int k n
  | .str s => .str s
  | .nilptr => .nilptr
  | .nilfn => .nilfn
  | .bytes _ s => .bytes .shr s
  | .list _ c l => .list .shr c l
  | _ => .junk

theorem V.roD {C : Cx El} {H : RO} {ρ : Nat → RE} {a : AV El} {v : Value} (h : V C H ρ a v) : V C H ρ0 a.roD v := by
  cases h with
  | bool _ b => exact .bool _ _
  | int _ k n h => exact .int _ _ _ h
  | str _ b hb => exact .str _ _ hb
  | nilptr _ => exact .nilptr _
  | nilfn _ => exact .nilfn _
  | bytesN _ f hn => exact .bytesN _ _ trivial
  | bytes _ f s b o cap hf hc hh => exact .bytes _ _ _ _ _ _ trivial hc hh
  | listN _ f c hn => exact .listN _ _ _ trivial
  | list _ f c l b o cap vs hf hc h1 h2 => exact .list _ _ _ _ _ _ _ vs trivial hc h1 h2
  | _ => exact .junk _ _

theorem VL.roD {C : Cx El} {H : RO} {ρ : Nat → RE} {as : List (AV El)} {vs : List Value} (h : VL C H ρ as vs) : VL C H ρ0 (as.map AV.roD) vs := by
  refine ⟨by simp [h.1], fun i a v ha hv => ?_⟩
  rw [List.getElem?_map] at ha
  obtain ⟨b, hb, rfl⟩ := Option.map_eq_some_iff.1 ha
  exact (h.2 i b v hb hv).roD

/-! Structs that may be compared -/
def kindB (P : Program) (t : TypeId) : Ty → Bool
  | .int k => match P.underlying t with
    | some (.int k') => decide (k' = k)
    | _ => false
  | .bool => match P.underlying t with
    | some .bool => true
    | _ => false
  | .str => match P.underlying t with
    | some .string => true
    | _ => false
  | _ => false

theorem kindB_ok {P : Program} {t : TypeId} {x : Ty} (h : kindB P t x = true) : KindOk P t x := by
  cases x <;> simp only [kindB] at h <;> try (cases h)
  · split at h
    · rename_i e
      simp only [decide_eq_true_eq] at h
      subst h
      exact e
    · cases h
  · split at h
    · rename_i e; exact e
    · cases h
  · split at h
    · rename_i e; exact e
    · cases h

def cmpFields (P : Program) : Nat → List Field → List Ty → Bool
  | _, [], [] => true
  | i, f :: fs, x :: xs => !(f.name == "_") && decide (f.offset = i) && kindB P f.type x && cmpFields P (i + 1) fs xs
  | _, _, _ => false

theorem cmpFields_ok {P : Program} : ∀ {fs : List Field} {xs : List Ty} {j : Nat}, cmpFields P j fs xs = true → fs.length = xs.length ∧ ∀ (i : Nat) f x, fs[i]? = some f → xs[i]? = some x → f.name ≠ "_" ∧ f.offset = j + i ∧ KindOk P f.type x
  | [], [], _, _ => ⟨rfl, fun i f x h => by simp at h⟩
  | f :: fs, x :: xs, j, h => by
    simp only [cmpFields, Bool.and_eq_true, decide_eq_true_eq, Bool.not_eq_true', beq_eq_false_iff_ne, ne_eq] at h
    obtain ⟨⟨⟨h1, h2⟩, h3⟩, h4⟩ := h
    obtain ⟨k1, k2⟩ := cmpFields_ok h4
    refine ⟨by simp [k1], fun i f' x' hf hx => ?_⟩
    cases i with
    | zero =>
      simp only [List.getElem?_cons_zero, Option.some.injEq] at hf hx
      subst hf; subst hx
      exact ⟨h1, by omega, kindB_ok h3⟩
    | succ i =>
      obtain ⟨a, b, c⟩ := k2 i f' x' (by simpa using hf) (by simpa using hx)
      exact ⟨a, by omega, c⟩
  | [], _ :: _, _, h => by simp [cmpFields] at h
  | _ :: _, [], _, h => by simp [cmpFields] at h

def cmpB (P : Program) (t : TypeId) (ts : List Ty) : Bool :=
  match P.underlying t with
  | some (.struct fields) => !P.stoodInHeld t && !P.eqGuardType P.depth t && cmpFields P 0 fields.toList ts
  | _ => false

theorem cmpB_ok {P : Program} {t : TypeId} {ts : List Ty} (h : cmpB P t ts = true) : CmpOk P t ts := by
  unfold cmpB at h
  split at h
  · rename_i fields e
    simp only [Bool.and_eq_true, Bool.not_eq_true'] at h
    obtain ⟨⟨h1, h2⟩, h3⟩ := h
    obtain ⟨k1, k2⟩ := cmpFields_ok h3
    refine ⟨fields, e, h1, h2, by simpa using k1, fun i f x hf hx => ?_⟩
    obtain ⟨a, b, c⟩ := k2 i f x (by simpa using hf) hx
    exact ⟨a, by omega, c⟩
  · cases h

def cmpL (l : List (Nat × List Ty)) (t : Nat) : Option (List Ty) :=
  match l with
  | [] => none
  | (n, x) :: r => if n = t then some x else cmpL r t

def cmpLOk (P : Program) : List (Nat × List Ty) → Bool
  | [] => true
  | (n, x) :: r => cmpB P n x && cmpLOk P r

theorem cmpL_ok {P : Program} : ∀ {l : List (Nat × List Ty)}, cmpLOk P l = true → ∀ t ts, cmpL l t = some ts → CmpOk P t ts
  | [], _, t, ti, h => by simp [cmpL] at h
  | (n, x) :: r, hl, t, ti, h => by
    simp only [cmpLOk, Bool.and_eq_true] at hl
    simp only [cmpL] at h
    split at h
    · rename_i e
      subst e
      cases h
      exact cmpB_ok hl.1
    · exact cmpL_ok hl.2 t ti h
end Go.Ev

/- Whole numbers, as the machine reckons them. Own work. -/
namespace Go.Ev

theorem wrap_i64 {x : Int} (h1 : -9223372036854775808 ≤ x) (h2 : x ≤ 9223372036854775807) : IntKind.i64.wrap x = x := by
  have e1 : (2 : Int) ^ 64 = 18446744073709551616 := by decide
  have e2 : (2 : Int) ^ (64 - 1) = 9223372036854775808 := by decide
  simp only [IntKind.wrap, IntKind.bits, IntKind.signed, Bool.true_and, e1, e2, ge_iff_le, decide_eq_true_eq]
  split <;> omega

theorem wrap_u8 (x : Int) : IntKind.u8.wrap x = x % 256 := by
  simp [IntKind.wrap, IntKind.bits, IntKind.signed]

theorem wrap_u16 (x : Int) : IntKind.u16.wrap x = x % 65536 := by
  simp [IntKind.wrap, IntKind.bits, IntKind.signed]

theorem wrap_u32 (x : Int) : IntKind.u32.wrap x = x % 4294967296 := by
  simp [IntKind.wrap, IntKind.bits, IntKind.signed]

theorem wrap_u64 (x : Int) : IntKind.u64.wrap x = x % 18446744073709551616 := by
  simp [IntKind.wrap, IntKind.bits, IntKind.signed]

theorem inR_i64' {n : Int} : inR .i64 n = true ↔ -9223372036854775808 ≤ n ∧ n ≤ 9223372036854775807 := by
  rw [inR_iff]; simp [IntKind.min, IntKind.max, IntKind.bits, IntKind.signed]
theorem inR_u8' {n : Int} : inR .u8 n = true ↔ 0 ≤ n ∧ n ≤ 255 := by
  rw [inR_iff]; simp [IntKind.min, IntKind.max, IntKind.bits, IntKind.signed]
theorem inR_u32' {n : Int} : inR .u32 n = true ↔ 0 ≤ n ∧ n ≤ 4294967295 := by
  rw [inR_iff]; simp [IntKind.min, IntKind.max, IntKind.bits, IntKind.signed]
theorem inR_u64' {n : Int} : inR .u64 n = true ↔ 0 ≤ n ∧ n ≤ 18446744073709551615 := by
  rw [inR_iff]; simp [IntKind.min, IntKind.max, IntKind.bits, IntKind.signed]

theorem tdiv_nn {a b : Int} (h : 0 ≤ a) : a.tdiv b = a / b := Int.tdiv_eq_ediv_of_nonneg h
theorem tmod_nn {a b : Int} (h : 0 ≤ a) : a.tmod b = a % b := Int.tmod_eq_emod_of_nonneg h
theorem fdiv_nn {a b : Int} (h : 0 ≤ b) : a.fdiv b = a / b := Int.fdiv_eq_ediv_of_nonneg a h

/-- Facts on bytes are looked up. -/
theorem byte_all {p : Int → Bool} (h : (List.range 256).all (fun n => p n) = true) {b : Int} (h0 : 0 ≤ b) (h1 : b ≤ 255) : p b = true := by
  have := List.all_eq_true.1 h b.toNat (List.mem_range.2 (by omega))
  have e : ((b.toNat : Nat) : Int) = b := by omega
  rw [e] at this
  exact this

theorem and127 {b : Int} (h0 : 0 ≤ b) (h1 : b ≤ 255) : IntKind.u8.wrap ↑(BitVec.ofInt IntKind.u8.bits b &&& BitVec.ofInt IntKind.u8.bits 127).toNat = b % 128 := by
  have := byte_all (p := fun b => decide (IntKind.u8.wrap ↑(BitVec.ofInt IntKind.u8.bits b &&& BitVec.ofInt IntKind.u8.bits 127).toNat = b % 128)) (by decide +kernel) h0 h1
  simpa using this

theorem and128 {b : Int} (h0 : 0 ≤ b) (h1 : b ≤ 255) : IntKind.u8.wrap ↑(BitVec.ofInt IntKind.u8.bits b &&& BitVec.ofInt IntKind.u8.bits 128).toNat = if 128 ≤ b then 128 else 0 := by
  have := byte_all (p := fun b => decide (IntKind.u8.wrap ↑(BitVec.ofInt IntKind.u8.bits b &&& BitVec.ofInt IntKind.u8.bits 128).toNat = if 128 ≤ b then 128 else 0)) (by decide +kernel) h0 h1
  simpa using this

theorem or128 {b : Int} (h0 : 0 ≤ b) (h1 : b ≤ 127) : IntKind.u8.wrap ↑(BitVec.ofInt IntKind.u8.bits b ||| BitVec.ofInt IntKind.u8.bits 128).toNat = b + 128 := by
  have := byte_all (p := fun b => !decide (b ≤ 127) || decide (IntKind.u8.wrap ↑(BitVec.ofInt IntKind.u8.bits b ||| BitVec.ofInt IntKind.u8.bits 128).toNat = b + 128)) (by decide +kernel) h0 (by omega)
  simpa [h1] using this

/-- Facts on numbers below a bound are looked up. -/
theorem below_all {N : Nat} {p : Int → Bool} (h : (List.range N).all (fun n => p n) = true) {b : Int} (h0 : 0 ≤ b) (h1 : b < N) : p b = true := by
  have := List.all_eq_true.1 h b.toNat (List.mem_range.2 (by omega))
  have e : ((b.toNat : Nat) : Int) = b := by omega
  rw [e] at this
  exact this

theorem and6 {f : Int} (h0 : 0 ≤ f) (h1 : f < 16) : IntKind.i64.wrap ↑(BitVec.ofInt IntKind.i64.bits f &&& BitVec.ofInt IntKind.i64.bits 6).toNat = f / 2 % 4 * 2 := by
  have := below_all (N := 16) (p := fun f => decide (IntKind.i64.wrap ↑(BitVec.ofInt IntKind.i64.bits f &&& BitVec.ofInt IntKind.i64.bits 6).toNat = f / 2 % 4 * 2)) (by decide +kernel) h0 h1
  simpa using this

theorem and8 {f : Int} (h0 : 0 ≤ f) (h1 : f < 16) : IntKind.i64.wrap ↑(BitVec.ofInt IntKind.i64.bits f &&& BitVec.ofInt IntKind.i64.bits 8).toNat = f / 8 * 8 := by
  have := below_all (N := 16) (p := fun f => decide (IntKind.i64.wrap ↑(BitVec.ofInt IntKind.i64.bits f &&& BitVec.ofInt IntKind.i64.bits 8).toNat = f / 8 * 8)) (by decide +kernel) h0 h1
  simpa using this

theorem or1 {f : Int} (h0 : 0 ≤ f) (h1 : f < 16) : IntKind.i64.wrap ↑(BitVec.ofInt IntKind.i64.bits f ||| BitVec.ofInt IntKind.i64.bits 1).toNat = f + 1 - f % 2 := by
  have := below_all (N := 16) (p := fun f => decide (IntKind.i64.wrap ↑(BitVec.ofInt IntKind.i64.bits f ||| BitVec.ofInt IntKind.i64.bits 1).toNat = f + 1 - f % 2)) (by decide +kernel) h0 h1
  simpa using this

theorem or8 {f : Int} (h0 : 0 ≤ f) (h1 : f < 8) : IntKind.i64.wrap ↑(BitVec.ofInt IntKind.i64.bits f ||| BitVec.ofInt IntKind.i64.bits 8).toNat = f + 8 := by
  have := below_all (N := 8) (p := fun f => decide (IntKind.i64.wrap ↑(BitVec.ofInt IntKind.i64.bits f ||| BitVec.ofInt IntKind.i64.bits 8).toNat = f + 8)) (by decide +kernel) h0 h1
  simpa using this

/-- A kind and its flags in one byte. -/
theorem orHead {k f : Int} (k0 : 0 ≤ k) (k1 : k < 16) (h0 : 0 ≤ f) (h1 : f < 16) : IntKind.i64.wrap ↑(BitVec.ofInt IntKind.i64.bits (k * 16) ||| BitVec.ofInt IntKind.i64.bits f).toNat = k * 16 + f := by
  have := below_all (N := 256) (p := fun x => decide (IntKind.i64.wrap ↑(BitVec.ofInt IntKind.i64.bits (x / 16 * 16) ||| BitVec.ofInt IntKind.i64.bits (x % 16)).toNat = x / 16 * 16 + x % 16)) (by decide +kernel) (b := k * 16 + f) (by omega) (by omega)
  have e1 : (k * 16 + f) / 16 = k := by omega
  have e2 : (k * 16 + f) % 16 = f := by omega
  simp only [e1, e2, decide_eq_true_eq] at this
  exact this

theorem and15 {b : Int} (h0 : 0 ≤ b) (h1 : b ≤ 255) : IntKind.u8.wrap ↑(BitVec.ofInt IntKind.u8.bits b &&& BitVec.ofInt IntKind.u8.bits 15).toNat = b % 16 := by
  have := byte_all (p := fun b => decide (IntKind.u8.wrap ↑(BitVec.ofInt IntKind.u8.bits b &&& BitVec.ofInt IntKind.u8.bits 15).toNat = b % 16)) (by decide +kernel) h0 h1
  simpa using this

/-- Arguments' ranges. -/
theorem VL.at_int {El : Nat → Type} {C : Cx El} {H : RO} {ρ : Nat → RE} {xs : List (AV El)} {vals : List Value} (h : VL C H ρ xs vals) {i : Nat} {k : IntKind} {n : Int} (ha : xs[i]? = Option.some (AV.int k n)) : inR k n = true := by
  have hl : i < vals.length := by
    rw [← h.1]
    exact (List.getElem?_eq_some_iff.1 ha).1
  have := h.2 i _ vals[i] ha (List.getElem?_eq_getElem hl)
  generalize vals[i] = u at this
  cases this
  assumption

theorem VL.at_str {El : Nat → Type} {C : Cx El} {H : RO} {ρ : Nat → RE} {xs : List (AV El)} {vals : List Value} (h : VL C H ρ xs vals) {i : Nat} {s : List UInt8} (ha : xs[i]? = Option.some (AV.str s)) : s.length ≤ 4611686018427387904 := by
  have hl : i < vals.length := by
    rw [← h.1]
    exact (List.getElem?_eq_some_iff.1 ha).1
  have := h.2 i _ vals[i] ha (List.getElem?_eq_getElem hl)
  generalize vals[i] = u at this
  cases this
  assumption

theorem VL.at_agg {El : Nat → Type} {C : Cx El} {H : RO} {ρ : Nat → RE} {xs cs : List (AV El)} {vals : List Value} (h : VL C H ρ xs vals) {i : Nat} (ha : xs[i]? = Option.some (AV.agg cs)) : ∃ vs, VL C H ρ cs vs := by
  have hl : i < vals.length := by
    rw [← h.1]
    exact (List.getElem?_eq_some_iff.1 ha).1
  have := h.2 i _ vals[i] ha (List.getElem?_eq_getElem hl)
  generalize vals[i] = u at this
  cases this
  rename_i vs h1 h2
  exact ⟨vs.toList, by simpa using h1, fun i a v ha hv => h2 i a v ha (by simpa using hv)⟩

/-- Arguments of which a slice's flag is not known. -/
def AV.shrX {El : Nat → Type} (v : AV El) : AV El :=
  match v with
  | .agg cs => .agg (cs.map AV.shrD)
  | v => v.shrD

theorem VL.shrD {El : Nat → Type} {C : Cx El} {H : RO} {ρ : Nat → RE} {xs : List (AV El)} {vals : List Value} (h : VL C H ρ xs vals) : VL C H ρ (xs.map AV.shrD) vals := by
  refine ⟨by simp [h.1], fun i a v ha hv => ?_⟩
  rw [List.getElem?_map] at ha
  obtain ⟨b, hb, rfl⟩ := Option.map_eq_some_iff.1 ha
  exact (h.2 i b v hb hv).shrD

theorem V.shrX {El : Nat → Type} {C : Cx El} {H : RO} {ρ : Nat → RE} {a : AV El} {v : Value} (h : V C H ρ a v) : V C H ρ a.shrX v := by
  cases h with
  | agg _ cs vs h1 h2 =>
    have : VL C H ρ (cs.map AV.shrD) vs.toList := VL.shrD ⟨by simpa using h1, fun i a v ha hv => h2 i a v ha (by simpa using hv)⟩
    exact .agg _ _ _ (by simpa using this.1) fun i a v ha hv => this.2 i a v ha (by simpa using hv)
  | junk => exact (V.junk _ _).shrD
  | bool => exact (V.bool _ _).shrD
  | int _ k n h => exact (V.int _ _ _ h).shrD
  | str _ b hb => exact (V.str _ _ hb).shrD
  | nilptr => exact (V.nilptr _).shrD
  | nilsl => exact (V.nilsl _).shrD
  | nilfn => exact (V.nilfn _).shrD
  | ptr _ id off b n h => exact (V.ptr _ _ _ _ _ h).shrD
  | rptr _ c x off b o vs h1 h2 => exact (V.rptr _ _ _ _ _ _ vs h1 h2).shrD
  | mbp _ id i b n h hi => exact (V.mbp _ _ _ _ _ h hi).shrD
  | bytesN _ f h => exact (V.bytesN _ _ h).shrD
  | bytes _ f s b o cap hf hc h => exact (V.bytes _ _ _ _ _ _ hf hc h).shrD
  | listN _ f c h => exact (V.listN _ _ _ h).shrD
  | list _ f c l b o cap vs hf hc h1 h2 => exact (V.list _ _ _ _ _ _ _ vs hf hc h1 h2).shrD
  | hsl _ id off len b n cap h hc => exact (V.hsl _ _ _ _ _ _ _ h hc).shrD
  | mbs _ id b n cap h hc => exact (V.mbs _ _ _ _ _ h hc).shrD
  | iter _ id b n h => exact (V.iter _ _ _ _ h).shrD
  | map _ id b n h => exact (V.map _ _ _ _ h).shrD
  | fmap _ c m b es ck g vs us hH h1 h0 h3 h2 => exact (V.fmap _ _ _ _ es ck g vs us hH h1 h0 h3 h2).shrD
  | fn _ f as bs us vs h1 h2 h3 h4 => exact (V.fn _ _ _ _ _ _ h1 h2 h3 h4).shrD
  | tup _ cs vs h1 h2 => exact (V.tup _ _ _ h1 h2).shrD

theorem VL.shrX {El : Nat → Type} {C : Cx El} {H : RO} {ρ : Nat → RE} {xs : List (AV El)} {vals : List Value} (h : VL C H ρ xs vals) : VL C H ρ (xs.map AV.shrX) vals := by
  refine ⟨by simp [h.1], fun i a v ha hv => ?_⟩
  rw [List.getElem?_map] at ha
  obtain ⟨b, hb, rfl⟩ := Option.map_eq_some_iff.1 ha
  exact (h.2 i b v hb hv).shrX

theorem VL.at_list {El : Nat → Type} {C : Cx El} {H : RO} {ρ : Nat → RE} {xs : List (AV El)} {vals : List Value} (h : VL C H ρ xs vals) {i : Nat} {f : Fl} {c : Nat} {l : List (El c)} (ha : xs[i]? = Option.some (AV.list f c l)) : l.length ≤ 4611686018427387904 := by
  have hl : i < vals.length := by
    rw [← h.1]
    exact (List.getElem?_eq_some_iff.1 ha).1
  have := h.2 i _ vals[i] ha (List.getElem?_eq_getElem hl)
  generalize vals[i] = u at this
  cases this with
  | listN => simp
  | list _ _ _ _ b o cap vs hf hc h1 h2 => exact hc.2
end Go.Ev

/- A law's arguments, as they are read; a law by its contract. Own work. -/
namespace Go.Ev
open Go.ChangeShapes Go.WideShapes Go.ChangeAt Go.RowKit
variable {El : Nat → Type}

/-- What a cell of a type is. -/
inductive Sh where
  | int (k : IntKind)
  | bool
  | str
  | bytes
  | list (c : Nat)

def Sh.fits : Sh → AV El → Prop
  | .int k, .int k' n => k' = k ∧ inR k n = true
  | .bool, .bool _ => True
  | .str, .str s => s.length ≤ 140737488351232
  | .bytes, .bytes f _ => f = .shr
  | .list c, .list f c' l => f = .shr ∧ c' = c ∧ l.length ≤ 140737488351232
  | _, _ => False

def fitsL : List Sh → List (AV El) → Prop
  | [], [] => True
  | s :: ss, a :: as => s.fits a ∧ fitsL ss as
  | _, _ => False

theorem fits_int {k : IntKind} {a : AV El} (h : (Sh.int k).fits a) : ∃ n, a = .int k n ∧ inR k n = true := by
  cases a <;> simp only [Sh.fits] at h
  obtain ⟨rfl, h⟩ := h
  exact ⟨_, rfl, h⟩
theorem fits_bool {a : AV El} (h : Sh.bool.fits a) : ∃ b, a = .bool b := by
  cases a <;> simp only [Sh.fits] at h
  exact ⟨_, rfl⟩
theorem fits_str {a : AV El} (h : Sh.str.fits a) : ∃ s, a = .str s ∧ s.length ≤ 140737488351232 := by
  cases a <;> simp only [Sh.fits] at h
  exact ⟨_, rfl, h⟩
theorem fits_list {c : Nat} {a : AV El} (h : (Sh.list c).fits a) : ∃ l : List (El c), a = .list .shr c l ∧ l.length ≤ 140737488351232 := by
  cases a <;> simp only [Sh.fits] at h
  obtain ⟨rfl, rfl, h⟩ := h
  exact ⟨_, rfl, h⟩

theorem fitsL_app : ∀ {ss ts : List Sh} {as bs : List (AV El)}, fitsL ss as → fitsL ts bs → fitsL (ss ++ ts) (as ++ bs)
  | [], _, [], _, _, h => h
  | _ :: _, _, _ :: _, _, h1, h2 => ⟨h1.1, fitsL_app h1.2 h2⟩
  | [], _, _ :: _, _, h, _ => h.elim
  | _ :: _, _, [], _, h, _ => h.elim

/-- Fields lie one behind the other. -/
def contig (P : Program) : Nat → List Field → Option Nat
  | off, [] => some off
  | off, f :: fs => if f.offset = off then contig P (off + P.cellsOf f.type) fs else none

/-- What a type's cells are. -/
def openT (P : Program) (els : List Nat) : Nat → TypeId → Option (List Sh)
  | 0, _ => none
  | n + 1, t => match P.underlying t with
    | some (.int k) => some [.int k]
    | some .bool => some [.bool]
    | some .string => some [.str]
    | some (.slice e) => if els.contains e then some [.list e] else none
    | some (.struct fs) => if contig P 0 fs.toList = some (P.cellsOf t) then (fs.toList.mapM fun f => openT P els n f.type).map List.flatten else none
    | _ => none

def roOf (w : World) : RO := ⟨fun b o => w.cell? ⟨b, o, none⟩, fun _ => none⟩

/-- What is owed of the element types. -/
structure ElOk (P : Program) (C : Cx El) (els : List Nat) (e : Nat) : Prop where
  size : P.cellsOf e = C.lay.w e
  bytes : 0 < P.bytesOf e
  sh : ∃ m ss, openT P els m e = some ss ∧ ∀ as, fitsL ss as → ∃ x, C.lay.cells e x = as
  flat : ∃ m ss, openT P els m e = some ss ∧ ∀ s ∈ ss, ∀ c, s ≠ .list c

/-- Slices whose place is a cell. -/
def plainS (cs : List Value) : Prop := ∀ c ∈ cs, ∀ a len cap, c = .slice (some a) len cap → a.spot = none

section
variable {H : Type} {enc : TypeId × Value → H} {P : Program} {C : Cx El} {W : World}

theorem mem_weightsAll {e : TypeId} {n : Nat} : ∀ {l : List (DataW H)} {d : DataW H}, d ∈ l → n ∈ DataW.weights P e d → n ∈ DataW.weightsAll P e l
  | x :: l, d, h, hn => by
    simp only [DataW.weightsAll, List.mem_append]
    rcases List.mem_cons.1 h with rfl | h
    · exact .inl hn
    · exact .inr (mem_weightsAll h hn)
  | [], _, h, _ => by simp at h

theorem trod_open_flat {els : List Nat} (n : Nat) : ∀ (fuel : Nat) (t : TypeId) (ss : List Sh) (cs : List Value) (x : DataW H × List MemPlace) {sp : Nat → Bool}, openT P els n t = some ss → (∀ s ∈ ss, ∀ c, s ≠ .list c) →
    DataW.trod enc P W 0 sp true fuel t cs = some x → plainS cs := by
  induction n with
  | zero => intro fuel t ss cs x sp h; simp [openT] at h
  | succ n ih =>
    intro fuel t ss cs x sp h hf hx
    simp only [openT] at h
    split at h
    · rename_i k hu
      obtain ⟨m, rfl, _⟩ := DataW.trod_int hu hx
      intro c hc a len cap e; simp at hc; subst hc; cases e
    · rename_i hu
      obtain ⟨m, rfl, _⟩ := DataW.trod_bool hu hx
      intro c hc a len cap e; simp at hc; subst hc; cases e
    · rename_i hu
      obtain ⟨m, rfl, _⟩ := DataW.trod_string hu hx
      intro c hc a len cap e; simp at hc; subst hc; cases e
    · split at h
      · rename_i e _ _
        cases h
        exact absurd rfl (hf (.list e) (by simp) e)
      · cases h
    · rename_i fs hu
      split at h
      · rename_i hcon
        obtain ⟨sss, hss, rfl⟩ := Option.map_eq_some_iff.1 h
        obtain ⟨xs, m, rfl, _, hlen, hxl, hx'⟩ := DataW.trod_struct hu hx
        have hall : ∀ f ∈ fs.toList, ∃ y, DataW.trod enc P W 0 sp true m f.type ((cs.drop f.offset).take (P.cellsOf f.type)) = some y := by
          intro f hf'
          obtain ⟨i, hi⟩ := List.mem_iff_getElem?.1 hf'
          have hi' : fs[i]? = some f := by simpa using hi
          have hlt : i < xs.length := by
            rw [hxl]
            exact (Array.getElem?_eq_some_iff.1 hi').1
          exact ⟨xs[i], by rw [hx' i f hi', List.getElem?_eq_getElem hlt]⟩
        have key : ∀ (fl : List Field) (off : Nat) (sss : List (List Sh)), contig P off fl = some (P.cellsOf t) → (fl.mapM fun f => openT P els n f.type) = some sss → (∀ s ∈ sss.flatten, ∀ c, s ≠ .list c) →
            (∀ f ∈ fl, ∃ y, DataW.trod enc P W 0 sp true m f.type ((cs.drop f.offset).take (P.cellsOf f.type)) = some y) → plainS (cs.drop off) := by
          intro fl
          induction fl with
          | nil =>
            intro off sss h1 _ _ _
            simp only [contig, Option.some.injEq] at h1
            subst h1
            rw [List.drop_eq_nil_of_le (by omega)]
            intro c hc; simp at hc
          | cons f fl ih2 =>
            intro off sss h1 h2 h3 h4
            simp only [contig] at h1
            split at h1
            · rename_i ho
              subst ho
              simp only [List.mapM_cons, Option.bind_eq_bind, Option.bind_eq_some_iff] at h2
              obtain ⟨s1, e1, s2, e2, e3⟩ := h2
              cases e3
              obtain ⟨y, hy⟩ := h4 f (by simp)
              have p1 := ih m f.type s1 _ y e1 (fun s hs => h3 s (by simp [hs])) hy
              have p2 := ih2 _ s2 h1 e2 (fun s hs => h3 s (by simp only [List.flatten_cons, List.mem_append]; exact .inr hs)) fun g hg => h4 g (List.mem_cons_of_mem _ hg)
              intro c hc
              rw [← List.take_append_drop (P.cellsOf f.type) (cs.drop f.offset), List.mem_append, List.drop_drop] at hc
              rcases hc with hc | hc
              · exact p1 c hc
              · exact p2 c hc
            · cases h1
        have := key fs.toList 0 sss hcon hss (by simpa using hf) hall
        simpa using this
      · cases h
    · cases h

theorem trod_open {els : List Nat} (hE : ∀ e ∈ els, ElOk P C els e) : ∀ (fuel n : Nat) (t : TypeId) (ss : List Sh) (cs : List Value) (x : DataW H × List MemPlace) {sp : Nat → Bool}, openT P els n t = some ss → plainS cs →
    DataW.trod enc P W 0 sp true fuel t cs = some x → (∀ n ∈ DataW.weights P t x.1, n ≤ reachBytes) → ∃ as, VL C (roOf W) ρ0 as cs ∧ fitsL ss as := by
  intro fuel
  induction fuel with
  | zero => intro n t ss cs x sp _ _ hx; simp [DataW.trod] at hx
  | succ fuel ih =>
    intro n
    cases n with
    | zero => intro t ss cs x sp h; simp [openT] at h
    | succ n =>
    intro t ss cs x sp h hp hx hwt
    simp only [openT] at h
    split at h
    · rename_i k hu
      obtain ⟨m, rfl, _, hw⟩ := DataW.trod_int hu hx
      cases h
      have hr : inR k m = true := by simpa [Lit.wf, inR] using hw
      exact ⟨[.int k m], .cons (.int _ _ _ hr) ⟨rfl, fun i a v h => by simp at h⟩, ⟨rfl, hr⟩, trivial⟩
    · rename_i hu
      obtain ⟨m, rfl, _⟩ := DataW.trod_bool hu hx
      cases h
      exact ⟨[.bool m], .cons (.bool _ _) ⟨rfl, fun i a v h => by simp at h⟩, trivial, trivial⟩
    · rename_i hu
      obtain ⟨m, rfl, rfl, hs⟩ := DataW.trod_string hu hx
      cases h
      have hb : m.data.toList.length ≤ 140737488351232 := by
        have := hwt m.data.toList.length (by simp [DataW.weights])
        simpa [reachBytes] using this
      exact ⟨[.str m.data.toList], .cons (.str _ _ (Nat.le_trans hb (by decide))) ⟨rfl, fun i a v h => by simp at h⟩, hb, trivial⟩
    · rename_i e hu
      split at h
      · rename_i hin
        cases h
        have he := hE e (by simpa using hin)
        rcases DataW.trod_slice hu hx with ⟨rfl, _⟩ | ⟨a, len, cap, elems, rest, m, hm, rfl, rfl, _, hlc, hcm, hel, hall, _⟩
        · exact ⟨[.list .shr e []], .cons (.listN _ _ _ trivial) ⟨rfl, fun i a v h => by simp at h⟩, ⟨rfl, rfl, by simp⟩, trivial⟩
        · cases hm
          have hlen2 : len ≤ 140737488351232 := by
            have := hwt ((elems.length + rest.length) * P.bytesOf e) (by simp [DataW.weights, hu])
            have hb := he.bytes
            have h2 : elems.length + rest.length ≤ (elems.length + rest.length) * P.bytesOf e := Nat.le_mul_of_pos_right _ hb
            have h3 : reachBytes = 140737488351232 := rfl
            omega
          have hsp := hp _ (by simp) a len cap rfl
          obtain ⟨b, o, s⟩ := a
          simp only at hsp
          subst hsp
          obtain ⟨m', ss, hs1, hs2⟩ := he.sh
          obtain ⟨m2, ss2, hf1, hf2⟩ := he.flat
          have each : ∀ i, i < len → ∃ (x : El e) (ci : List Value), W.cells? 0 (Addr.add ⟨b, o, none⟩ (i * P.cellsOf e)) (P.cellsOf e) = some ci ∧ VL C (roOf W) ρ0 (C.lay.cells e x) ci := by
            intro i hi
            have h1 := hall i hi
            have hlt : i < elems.length := by omega
            rw [List.getElem?_eq_getElem hlt, Option.bind_eq_some_iff] at h1
            obtain ⟨ci, h2, h3⟩ := h1
            obtain ⟨as, h4, h5⟩ := ih m' e ss ci _ hs1 (trod_open_flat m2 _ _ _ _ _ hf1 hf2 h3) h3 (by
              intro n hn
              refine hwt n ?_
              simp only [DataW.weights, hu, List.mem_cons, List.mem_append]
              refine .inr (.inl (mem_weightsAll (List.mem_map_of_mem (List.getElem_mem hlt)) hn)))
            obtain ⟨x, rfl⟩ := hs2 as h5
            exact ⟨x, ci, h2, h4⟩
          let xs : List (El e) := (List.range len).map fun i => if hi : i < len then (each i hi).choose else C.lay.dflt e
          let cis : Nat → List Value := fun i => if hi : i < len then (each i hi).choose_spec.choose else []
          have hxs : ∀ i x, xs[i]? = some x → i < len ∧ W.cells? 0 (Addr.add ⟨b, o, none⟩ (i * P.cellsOf e)) (P.cellsOf e) = some (cis i) ∧ VL C (roOf W) ρ0 (C.lay.cells e x) (cis i) := by
            intro i x hx'
            simp only [xs, List.getElem?_map] at hx'
            obtain ⟨j, hj, hx2⟩ := Option.map_eq_some_iff.1 hx'
            obtain ⟨hlt, hj2⟩ := List.getElem?_eq_some_iff.1 hj
            simp only [List.length_range] at hlt
            rw [List.getElem_range] at hj2
            subst hj2
            rw [dif_pos hlt] at hx2
            subst hx2
            have := (each i hlt).choose_spec.choose_spec
            simp only [cis, dif_pos hlt]
            exact ⟨hlt, this⟩
          have hxl : xs.length = len := by simp [xs]
          refine ⟨[.list .shr e xs], .cons ?_ ⟨rfl, fun i a v h => by simp at h⟩, ⟨rfl, rfl, by omega⟩, trivial⟩
          rw [← hxl]
          refine .list _ _ _ _ b o cap (fun i j => (cis i).getD j undef) trivial ⟨by omega, ?_⟩ (fun i x j a hi ha => ?_) fun i x j a hi ha => ?_
          · have : 140737488351232 ≤ maxCat := by decide
            omega
          · obtain ⟨hlt, h1, h2⟩ := hxs i x hi
            obtain ⟨_, hl, h3⟩ := World.cells?_some h1
            have hj : j < P.cellsOf e := by
              rw [he.size]
              have := (List.getElem?_eq_some_iff.1 ha).1
              have e2 := h2.1
              rw [hl, he.size] at e2
              omega
            have h4 := h3 j hj
            have hjl : j < (cis i).length := by omega
            rw [List.getElem?_eq_getElem hjl] at h4
            simp only [roOf, List.getD_eq_getElem?_getD, List.getElem?_eq_getElem hjl, Option.getD_some]
            rw [← h4, he.size]
            congr 1
            simp only [Addr.add]
            by_cases hi0 : i * C.lay.w e = 0 <;> by_cases hj0 : j = 0 <;> simp [hi0, hj0]
          · obtain ⟨hlt, h1, h2⟩ := hxs i x hi
            have hjl : j < (cis i).length := by
              rw [← h2.1]
              exact (List.getElem?_eq_some_iff.1 ha).1
            exact h2.2 j a _ ha (by rw [List.getD_eq_getElem?_getD, List.getElem?_eq_getElem hjl]; rfl)
      · cases h
    · rename_i fs hu
      split at h
      · rename_i hcon
        obtain ⟨sss, hss, rfl⟩ := Option.map_eq_some_iff.1 h
        obtain ⟨xs, m, hm, rfl, hlen, hxl, hx'⟩ := DataW.trod_struct hu hx
        cases hm
        have hall : ∀ f ∈ fs.toList, ∃ y, DataW.trod enc P W 0 sp true fuel f.type ((cs.drop f.offset).take (P.cellsOf f.type)) = some y ∧ ∀ n ∈ DataW.weights P f.type y.1, n ≤ reachBytes := by
          intro f hf'
          obtain ⟨i, hi⟩ := List.mem_iff_getElem?.1 hf'
          have hi' : fs[i]? = some f := by simpa using hi
          have hlt : i < xs.length := by
            rw [hxl]
            exact (Array.getElem?_eq_some_iff.1 hi').1
          refine ⟨xs[i], by rw [hx' i f hi', List.getElem?_eq_getElem hlt], fun n hn => hwt n ?_⟩
          simp only [DataW.weights, hu]
          exact DataW.weights_mem_each (j := i) (t := f.type) (by rw [List.getElem?_map, hi]; rfl) (by rw [List.getElem?_map, List.getElem?_eq_getElem hlt]; rfl) n hn
        have key : ∀ (fl : List Field) (off : Nat) (sss : List (List Sh)), contig P off fl = some (P.cellsOf t) → (fl.mapM fun f => openT P els n f.type) = some sss →
            (∀ f ∈ fl, ∃ y, DataW.trod enc P W 0 sp true fuel f.type ((cs.drop f.offset).take (P.cellsOf f.type)) = some y ∧ ∀ n ∈ DataW.weights P f.type y.1, n ≤ reachBytes) → ∃ as, VL C (roOf W) ρ0 as (cs.drop off) ∧ fitsL sss.flatten as := by
          intro fl
          induction fl with
          | nil =>
            intro off sss h1 h2 _
            simp only [contig, Option.some.injEq] at h1
            subst h1
            rw [List.drop_eq_nil_of_le (by omega)]
            simp only [List.mapM_nil, Option.pure_def, Option.some.injEq] at h2
            subst h2
            exact ⟨[], ⟨rfl, fun i a v h => by simp at h⟩, trivial⟩
          | cons f fl ih2 =>
            intro off sss h1 h2 h4
            simp only [contig] at h1
            split at h1
            · rename_i ho
              subst ho
              simp only [List.mapM_cons, Option.bind_eq_bind, Option.bind_eq_some_iff] at h2
              obtain ⟨s1, e1, s2, e2, e3⟩ := h2
              cases e3
              obtain ⟨y, hy, hyw⟩ := h4 f (by simp)
              obtain ⟨a1, v1, f1⟩ := ih n f.type s1 _ y e1 (fun c hc => hp c (List.mem_of_mem_drop (List.mem_of_mem_take hc))) hy hyw
              obtain ⟨a2, v2, f2⟩ := ih2 _ s2 h1 e2 fun g hg => h4 g (List.mem_cons_of_mem _ hg)
              refine ⟨a1 ++ a2, ?_, by simpa using fitsL_app f1 f2⟩
              rw [← List.take_append_drop (P.cellsOf f.type) (cs.drop f.offset), List.drop_drop]
              exact v1.app v2
            · cases h1
        have := key fs.toList 0 sss hcon hss hall
        simpa using this
      · cases h
    · cases h

def argFits (p : Bool × List Sh) (a : AV El) : Prop :=
  match p.1 with
  | true => ∃ cs, a = .agg cs ∧ fitsL p.2 cs
  | false => fitsL p.2 [a]

def argsFit : List (Bool × List Sh) → List (AV El) → Prop
  | [], [] => True
  | p :: ps, a :: as => argFits p a ∧ argsFit ps as
  | _, _ => False

def openArgs (P : Program) (els : List Nat) (ts : List TypeId) : Option (List (Bool × List Sh)) :=
  ts.mapM fun t => (openT P els 8 t).map fun ss => (aggP P t, ss)

theorem spot_of {r : Reach} {b0 : Nat} {t : TypeId} {a : Addr} {len cap : Nat} (h : Cell.okWide P W r b0 t (.slice (some a) len cap)) : a.spot = none := by
  unfold Cell.okWide at h
  split at h <;> try (simp_all; done)
  unfold Cell.ok at h
  split at h <;> simp_all
  exact h.2.2.2.1

theorem arg_open {els : List Nat} (hE : ∀ e ∈ els, ElOk P C els e) {r : Reach} {b0 : Nat} {t : TypeId} {v : Value} {d : DataW H} {p : List MemPlace} {ss : List Sh} {sp : Nat → Bool} (hs : openT P els 8 t = some ss) (hv : Value.okWide P W r b0 t v)
    (ht : DataW.Trod enc P W 0 sp true t v d p) (hw : ∀ n ∈ DataW.weights P t d, n ≤ reachBytes) : ∃ a, V C (roOf W) ρ0 a v ∧ argFits (aggP P t, ss) a := by
  obtain ⟨fuel, hf⟩ := ht
  by_cases hg : aggP P t = true
  · have hu : ∃ fs, P.underlying t = some (.struct fs) := by
      have hs' := hs
      simp only [openT] at hs'
      clear hs
      split at hs'
      · rename_i k hu
        simp [aggP, hu] at hg
      · rename_i hu
        simp [aggP, hu] at hg
      · rename_i hu
        simp [aggP, hu] at hg
      · rename_i e hu
        simp [aggP, hu] at hg
      · rename_i fs hu
        exact ⟨fs, hu⟩
      · cases hs'
    obtain ⟨fs, hu⟩ := hu
    unfold Value.okWide at hv
    rw [hu] at hv
    obtain ⟨cs, rfl, _, hrow⟩ := hv
    have hpl : plainS cs.toList := by
      intro c hc a len cap e
      obtain ⟨i, hi⟩ := List.mem_iff_getElem?.1 hc
      obtain ⟨ts, _, _, hcell⟩ := hrow
      obtain ⟨u, _, hok⟩ := hcell i c (by simpa using hi)
      subst e
      exact spot_of hok
    obtain ⟨as, h1, h2⟩ := trod_open hE fuel 8 t ss _ _ hs hpl hf hw
    refine ⟨.agg as, .agg _ _ _ (by simpa using h1.1) (fun i a v ha hv => h1.2 i a v ha (by simpa using hv)), ?_⟩
    unfold argFits
    rw [hg]
    exact ⟨as, rfl, h2⟩
  · have hg' : aggP P t = false := by simpa using hg
    have hc : v.cells = #[v] ∧ Cell.okWide P W r b0 t v := by
      have hs' := hs
      simp only [openT] at hs'
      split at hs'
      · rename_i k hu
        simp only [Value.okWide, hu] at hv
        refine ⟨?_, hv⟩
        cases v <;> first | rfl | (simp only [Cell.okWide, hu, Cell.ok] at hv)
      · rename_i hu
        simp only [Value.okWide, hu] at hv
        refine ⟨?_, hv⟩
        cases v <;> first | rfl | (simp only [Cell.okWide, hu, Cell.ok] at hv)
      · rename_i hu
        simp only [Value.okWide, hu] at hv
        refine ⟨?_, hv⟩
        cases v <;> first | rfl | (simp only [Cell.okWide, hu, Cell.ok] at hv)
      · rename_i e hu
        simp only [Value.okWide, hu] at hv
        refine ⟨?_, hv⟩
        cases v <;> first | rfl | (simp only [Cell.okWide, hu, Cell.ok] at hv)
      · rename_i fs hu
        simp [aggP, hu] at hg'
      · cases hs'
    rw [hc.1] at hf
    have hpl : plainS [v] := by
      intro c hc' a len cap e
      simp only [List.mem_singleton] at hc'
      subst hc'
      subst e
      exact spot_of hc.2
    obtain ⟨as, h1, h2⟩ := trod_open hE fuel 8 t ss _ _ hs hpl hf hw
    have hl := h1.1
    match as, hl with
    | [a], _ =>
      refine ⟨a, h1.2 0 a v rfl rfl, ?_⟩
      unfold argFits
      rw [hg']
      exact h2

theorem args_open {els : List Nat} (hE : ∀ e ∈ els, ElOk P C els e) {r : Reach} {b0 : Nat} {sp : Nat → Bool} : ∀ {ts : List TypeId} {vals : List Value} {ds : List (DataW H)} {p : List MemPlace} {shs : List (Bool × List Sh)}, openArgs P els ts = some shs →
    (∀ (j : Nat) t v, ts[j]? = some t → vals[j]? = some v → Value.okWide P W r b0 t v) → DataW.TrodAll enc P W 0 sp true ts vals ds p → (∀ n ∈ DataW.weightsEach P ts ds, n ≤ reachBytes) →
    ∃ as, VL C (roOf W) ρ0 as vals ∧ argsFit shs as
  | [], vals, ds, p, shs, hs, hv, ht, hw => by
    simp only [openArgs, List.mapM_nil, Option.pure_def, Option.some.injEq] at hs
    subst hs
    cases vals <;> cases ds <;> simp [DataW.TrodAll] at ht
    exact ⟨[], ⟨rfl, fun i a v h => by simp at h⟩, trivial⟩
  | t :: ts, vals, ds, p, shs, hs, hv, ht, hw => by
    obtain ⟨v, vs, d, ds', p1, q1, rfl, rfl, rfl, h1, h2⟩ := trodAll_cons ht
    simp only [openArgs, List.mapM_cons, Option.bind_eq_bind, Option.bind_eq_some_iff] at hs
    obtain ⟨x, e1, xs, e2, e3⟩ := hs
    cases e3
    obtain ⟨ss, e4, rfl⟩ := Option.map_eq_some_iff.1 e1
    obtain ⟨a, v1, f1⟩ := arg_open hE e4 (hv 0 t v rfl rfl) h1 (fun n hn => hw n (by simp only [DataW.weightsEach, List.mem_append]; exact .inl hn))
    obtain ⟨as, v2, f2⟩ := args_open hE e2 (fun j t v ht hv' => hv (j + 1) t v (by simpa using ht) (by simpa using hv')) h2 (fun n hn => hw n (by simp only [DataW.weightsEach, List.mem_append]; exact .inr hn))
    exact ⟨a :: as, .cons v1 v2, f1, f2⟩

/-- The world as it is entered: all is only read. -/
theorem rw_enter (W : World) : Rw C W.heap.size (roOf W) ρ0 [] W where
  big := Nat.le_refl _
  out := fun _ _ => rfl
  ent := fun i e h => by simp at h
  inj := fun i j b n n' h => by cases h
  lo := fun i b n h => by cases h
  room := fun i b lo hi h => by cases h
  rooms := fun i j b lo hi lo' hi' h => by cases h
  roomBlk := fun i j b lo hi n h => by cases h
  ro := fun b o v h => h
  roBlk := fun b o v i n _ h => by cases h
  roRoom := fun b o v i lo hi _ h => by cases h
  robj := fun b es ck h => by cases h

/-- A law by its contract. -/
theorem Ct.law {f : FuncId} {news : Nat} {sem : Sem1 El} (hct : Ct P C f (fsOf news sem)) {as : List (AV El)} {vals : Array Value} (hv : VL C (roOf W) ρ0 as vals.toList) {h' : List (HE El)} (hl : (sem as []).leads (.bool true) h') :
    Calls P f vals W fun e W' => e = .returned (.bool true) ∧ Below W.heap.size W W' := by
  refine ((hct.2 W.heap.size).2 (roOf W) ρ0 [] W as vals (AV El × List (HE El)) (fun v h => some (v, h)) _ (rw_enter W) hv (Rs.leads_go hl)).mono fun e W' hR => ?_
  obtain ⟨u, rfl, v, h2, H2, ρ2, hk, st, hu⟩ := hR
  cases hk
  cases hu
  refine ⟨rfl, st.pres.os, st.pres.tape, st.pres.output, st.pres.size, fun k hk => st.pres.same k hk fun o ho => ?_⟩
  rcases ho with ⟨i, n, hi⟩ | ⟨i, lo, hi, h1, _⟩
  · cases hi
  · cases h1

theorem trodAll_back {H : Type} {enc : TypeId × Value → H} {P : Program} (hl : laidOutB P = true) {W W' : World} (hb : Below W.heap.size W W') : ∀ {ts : List TypeId} {vals : List Value} {ds : List (DataW H)} {p : List MemPlace}, (∀ t ∈ ts, P.readableRec t = true ∧ t < P.types.size) →
    DataW.TrodAll enc P W 0 (fun _ => true) true ts vals ds p → DataW.TrodAll enc P W' 0 (fun b => decide (b < W.heap.size)) true ts vals ds p
  | [], vals, ds, p, _, ht => by
    cases vals <;> cases ds <;> simp [DataW.TrodAll] at ht ⊢
    exact ht
  | t :: ts, vals, ds, p, hr, ht => by
    obtain ⟨v, vs, d, ds', p1, q1, rfl, rfl, rfl, h1, h2⟩ := trodAll_cons ht
    have h1' := h1
    obtain ⟨fuel, hf⟩ := h1'
    exact ⟨p1, q1, Below.trod hl (hr t (by simp)).1 (hr t (by simp)).2 h1 hb (DataW.trod_lt fuel _ _ _ hf), trodAll_back hl hb (fun t ht => hr t (List.mem_cons_of_mem _ ht)) h2, rfl⟩
end
end Go.Ev

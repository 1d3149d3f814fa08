/- The abstract machine and its proof, part 4: nothing here is a statement about the program. Own work. -/
import Derived.Test.YtpplfcdhiiiglaaEv3
import Derived.WalkKit
import Derived.ProofKit
import Derived.OpenShut
import Derived.ShutString
import Derived.ChangeOld
import Derived.Below
import Derived.SizedLaws
/- Contracts: what a function does, told on abstract values; loops by their measure. Own work. -/
namespace Go.Ev
variable {El : Nat → Type}

/-- What comes of a call: a value and the memory; by a condition. -/
inductive Rs (El : Nat → Type) where
  | ret (v : AV El) (h : List (HE El))
  | br (b : Bool) (x y : Rs El)
  | bad

abbrev Rs.pre (b : Bool) (x : Rs El) : Rs El := .br b x .bad

def Rs.go {R : Type} (k : AV El → List (HE El) → Option R) : Rs El → Option R
  | .ret v h => k v h
  | .br b x y => bif b then x.go k else y.go k
  | .bad => none

def Rs.leads (v : AV El) (h : List (HE El)) : Rs El → Prop
  | .ret v' h' => v' = v ∧ h' = h
  | .br b x y => (b = true ∧ x.leads v h) ∨ (b = false ∧ y.leads v h)
  | .bad => False

theorem Rs.go_leads {R : Type} {k : AV El → List (HE El) → Option R} {r : R} : ∀ {x : Rs El}, x.go k = some r → ∃ v h, x.leads v h ∧ k v h = some r
  | .ret v h, e => ⟨v, h, ⟨rfl, rfl⟩, e⟩
  | .br b x y, e => by
    cases b
    · obtain ⟨v, h, h1, h2⟩ := Rs.go_leads (x := y) e
      exact ⟨v, h, .inr ⟨rfl, h1⟩, h2⟩
    · obtain ⟨v, h, h1, h2⟩ := Rs.go_leads (x := x) e
      exact ⟨v, h, .inl ⟨rfl, h1⟩, h2⟩
  | .bad, e => by cases e

theorem Rs.leads_go {R : Type} {k : AV El → List (HE El) → Option R} {v : AV El} {h : List (HE El)} : ∀ {x : Rs El}, x.leads v h → x.go k = k v h
  | .ret _ _, ⟨rfl, rfl⟩ => rfl
  | .br b x y, e => by
    have ix := @Rs.leads_go R k v h x
    have iy := @Rs.leads_go R k v h y
    rcases e with ⟨rfl, e⟩ | ⟨rfl, e⟩
    · exact ix e
    · exact iy e

theorem Rs.leads_pre {v : AV El} {h : List (HE El)} {b : Bool} {x : Rs El} (e : (Rs.pre b x).leads v h) : b = true ∧ x.leads v h :=
  e.elim id fun e => e.2.elim

/-- What a function does, told without what goes on. -/
abbrev Sem1 (El : Nat → Type) := List (AV El) → List (HE El) → Rs El

def fsOf (news : Nat) (sem : Sem1 El) : FS El := ⟨news, fun {_} args h k => (sem args h).go k⟩

theorem Rs.nat {R R' : Type} (m : R' → Option R) (k : AV El → List (HE El) → Option R') : ∀ x : Rs El, x.go (fun v h' => (k v h').bind m) = (x.go k).bind m
  | .ret _ _ => rfl
  | .br b x y => by
    have ix := Rs.nat m k x
    have iy := Rs.nat m k y
    cases b
    · exact iy
    · exact ix
  | .bad => rfl

theorem natF_fsOf (news : Nat) (sem : Sem1 El) : NatF (fsOf news sem) := fun _ _ m args h k => Rs.nat m k (sem args h)

def fnL (l : List (Nat × FS El)) (t : Nat) : Option (FS El) :=
  match l with
  | [] => none
  | (n, x) :: r => if n = t then some x else fnL r t

/-- A contract, in a context of types alone. -/
def Ct (P : Program) (C : Cx El) (f : FuncId) (fs : FS El) : Prop := NatF fs ∧ ∀ base, SoundF P C base f fs

def Cts (P : Program) (C : Cx El) : List (Nat × FS El) → Prop
  | [] => True
  | p :: r => Ct P C p.1 p.2 ∧ Cts P C r

theorem Cts.at {P : Program} {C : Cx El} : ∀ {l : List (Nat × FS El)}, Cts P C l → ∀ f fs, fnL l f = some fs → Ct P C f fs
  | [], _, f, fs, h => by simp [fnL] at h
  | (n, x) :: r, hl, f, fs, h => by
    simp only [fnL] at h
    split at h
    · rename_i e
      subst e
      cases h
      exact hl.1
    · exact Cts.at hl.2 f fs h

/-- What a context of types owes. -/
structure BaseOk (P : Program) (C : Cx El) : Prop where
  tt : ∀ g, TTOk P (C.withFn g)
  lay : ∀ g, LOk (C.withFn g)
  cmp : ∀ t ts, C.cmp t = some ts → CmpOk P t ts
  orders : P.follows .mixedOrders = true

variable {P : Program} {C : Cx El}

theorem BaseOk.cx (hB : BaseOk P C) {l : List (Nat × FS El)} (hl : Cts P C l) (base : Nat) : CxOk P (C.withFn (fnL l)) base :=
  ⟨hB.tt _, hB.lay _, hB.cmp, fun f fs h => ((hl.at f fs h).2 base).fnc _⟩

theorem BaseOk.draw (hB : BaseOk P C) {l : List (Nat × FS El)} (hl : Cts P C l) (base : Nat) : DrawOk P (C.withFn (fnL l)) base :=
  draw_ok (hB.cx hl base) (fun f fs h => (hl.at f fs h).1) hB.orders

/-- What an evaluation owes for a contract, at given arguments. -/
def EvOk (C : Cx El) (l : List (Nat × FS El)) (fn : Func) (args : List (AV El)) (h : List (HE El)) (v : AV El) (h' : List (HE El)) : Prop :=
  ∃ hs lp L fuel, LpOk (C.withFn (fnL l)) h.length hs lp fuel (fn.body.getD .skip) ∧
    ∀ (R : Type) (k : AV El → List (HE El) → Option R), evF (C.withFn (fnL l)) hs lp L fuel fn.ntmps fn.results.toList (fn.body.getD .skip) args h k = k v h'

def noLp : Nat → Option (LP El) := fun _ => none
theorem lpOk_none {m : Nat} {hs : Nat → Option Hint} {fuel : Nat} {c : Code} : LpOk C m hs noLp fuel c := by
  intro body _ L h
  cases h

/-- An evaluation without loops. -/
theorem EvOk.plain {l : List (Nat × FS El)} {fn : Func} {args : List (AV El)} {h : List (HE El)} {v : AV El} {h' : List (HE El)} (L : Leave)
    (e : ∀ (R : Type) (k : AV El → List (HE El) → Option R), evF (C.withFn (fnL l)) (fun _ => none) noLp L 0 fn.ntmps fn.results.toList (fn.body.getD .skip) args h k = k v h') : EvOk C l fn args h v h' :=
  ⟨_, _, _, _, lpOk_none, e⟩

/-- A contract, by the function's text. -/
theorem Ct.of (hB : BaseOk P C) {f : FuncId} {fn : Func} (hf : P.funcs[f]? = some fn) (hb : fn.body.isNone = false) (hnum : (fn.name == "runtime.NumGoroutine") = false) {l : List (Nat × FS El)} (hl : Cts P C l) {news : Nat} {sem : Sem1 El}
    (hr : ∀ (H : RO) (ρ : Nat → RE) (args : List (AV El)) (vals : List Value) (h : List (HE El)) (v : AV El) (h' : List (HE El)), VL C H ρ args vals → (sem args h).leads v h' →
      ∃ args', VL C H ρ args' vals ∧ EvOk C l fn args' h v h') : Ct P C f (fsOf news sem) := by
  refine ⟨natF_fsOf _ _, fun base => ?_⟩
  have hb' : fn.body = some (fn.body.getD .skip) := by
    cases e : fn.body with
    | none => rw [e] at hb; cases hb
    | some c => rfl
  refine SoundF.ofEv hf hb' hnum (hB.cx hl base) (hB.draw hl base) fun H ρ h args vals R k r hv hp => ?_
  obtain ⟨v, h', e1, e2⟩ := Rs.go_leads (x := sem args h) hp
  obtain ⟨args', h1, hs', lp, L, fuel, h2, h3⟩ := hr H ρ args vals h v h' hv e1
  exact ⟨args', hs', lp, L, fuel, h1, h2, (h3 R k).trans e2⟩

/-- A loop by its measure: where what goes on is right at all lesser states, the body is right. -/
theorem rounds_inv {R S : Type} {body : (List (AV El) → List (HE El) → Option R) → List (AV El) → List (HE El) → Option R} (sl : S → List (AV El)) (h : S → List (HE El)) (out : S → Option R) (μ : S → Nat) (inv : S → Prop)
    (step : ∀ s, inv s → ∀ K : List (AV El) → List (HE El) → Option R, (∀ s', inv s' → μ s' < μ s → K (sl s') (h s') = out s') → body K (sl s) (h s) = out s) :
    ∀ s, inv s → ∃ n, rounds body n (sl s) (h s) = out s := by
  suffices H : ∀ n s, inv s → μ s < n → rounds body n (sl s) (h s) = out s from fun s h1 => ⟨_, H (μ s + 1) s h1 (Nat.lt_succ_self _)⟩
  intro n
  induction n with
  | zero => intro s _ hn; omega
  | succ n ih =>
    intro s h1 hn
    exact step s h1 _ fun s' h2 h3 => ih s' h2 (by omega)
end Go.Ev

/- Loops' contracts, told by their live slots. Own work. -/
namespace Go.Ev
variable {El : Nat → Type}

/-- How a loop is left. -/
inductive Ex (El : Nat → Type) where
  | ret (sl : List (AV El)) (h : List (HE El))
  | exit (i : Nat) (sl : List (AV El)) (h : List (HE El))
  | br (b : Bool) (x y : Ex El)
  | bad

abbrev Ex.pre (b : Bool) (x : Ex El) : Ex El := .br b x .bad

def Ex.out {R : Type} (kR : List (AV El) → List (HE El) → Option R) (kE : Nat → List (AV El) → List (HE El) → Option R) : Ex El → Option R
  | .ret sl h => kR sl h
  | .exit i sl h => kE i sl h
  | .br b x y => bif b then x.out kR kE else y.out kR kE
  | .bad => none

theorem Ex.nat {R R' : Type} (m : R' → Option R) (kR : List (AV El) → List (HE El) → Option R') (kE : Nat → List (AV El) → List (HE El) → Option R') :
    ∀ x : Ex El, x.out (fun sl h => (kR sl h).bind m) (fun i sl h => (kE i sl h).bind m) = (x.out kR kE).bind m
  | .ret _ _ => rfl
  | .exit _ _ _ => rfl
  | .br b x y => by
    have ix := Ex.nat m kR kE x
    have iy := Ex.nat m kR kE y
    cases b
    · exact iy
    · exact ix
  | .bad => rfl

theorem Ex.pre_out {R : Type} {kR : List (AV El) → List (HE El) → Option R} {kE : Nat → List (AV El) → List (HE El) → Option R} {b : Bool} {x : Ex El} {r : R} (h : (Ex.pre b x).out kR kE = some r) : b = true ∧ x.out kR kE = some r := by
  cases b
  · cases h
  · exact ⟨rfl, h⟩

/-- Slots from i on, n of them: those that are named, by rising places; others forgotten. -/
def mkS : Nat → Nat → List Nat → List (AV El) → List (AV El)
  | 0, _, _, _ => []
  | n + 1, i, p :: ps, v :: vs => if p = i then v :: mkS n (i + 1) ps vs else .junk :: mkS n (i + 1) (p :: ps) (v :: vs)
  | n + 1, i, _, _ => .junk :: mkS n (i + 1) [] []

def isJunk : AV El → Bool
  | .junk => true
  | _ => false

theorem isJunk_eq : ∀ {v : AV El}, isJunk v = true → v = .junk
  | .junk, _ => rfl

/-- The named slots, where all others are forgotten. -/
def getS : Nat → Nat → List Nat → List (AV El) → Option (List (AV El))
  | 0, _, [], [] => some []
  | n + 1, i, p :: ps, v :: sl => if p = i then (getS n (i + 1) ps sl).map (v :: ·) else if isJunk v then getS n (i + 1) (p :: ps) sl else none
  | n + 1, i, [], v :: sl => if isJunk v then getS n (i + 1) [] sl else none
  | _, _, _, _ => none

theorem getS_ok : ∀ (n i : Nat) (ps : List Nat) (sl vs : List (AV El)), getS n i ps sl = some vs → sl = mkS n i ps vs ∧ vs.length = ps.length
  | 0, i, [], [], vs, h => by simp only [getS, Option.some.injEq] at h; subst h; exact ⟨rfl, rfl⟩
  | 0, i, [], _ :: _, vs, h => by simp [getS] at h
  | 0, i, _ :: _, _, vs, h => by simp [getS] at h
  | n + 1, i, p :: ps, v :: sl, vs, h => by
    simp only [getS] at h
    split at h
    · rename_i e
      obtain ⟨ws, h1, rfl⟩ := Option.map_eq_some_iff.1 h
      obtain ⟨h2, h3⟩ := getS_ok n (i + 1) ps sl ws h1
      simp only [mkS, if_pos e]
      exact ⟨by rw [← h2], by simp [h3]⟩
    · rename_i e
      split at h
      · rename_i hj
        obtain ⟨h2, h3⟩ := getS_ok n (i + 1) (p :: ps) sl vs h
        cases vs with
        | nil => simp at h3
        | cons w ws =>
          simp only [mkS, if_neg e]
          cases isJunk_eq hj; exact ⟨by rw [← h2], h3⟩
      · cases h
  | n + 1, i, [], v :: sl, vs, h => by
    simp only [getS] at h
    split at h
    · rename_i hj
      obtain ⟨h2, h3⟩ := getS_ok n (i + 1) [] sl vs h
      cases vs with
      | nil =>
        simp only [mkS]
        cases isJunk_eq hj; exact ⟨by rw [← h2], h3⟩
      | cons w ws => simp at h3
    · cases h
  | n + 1, i, [], [], vs, h => by simp [getS] at h
  | n + 1, i, _ :: _, [], vs, h => by simp [getS] at h

/-- A loop's contract: how many slots there are, which live at its head, what it does. -/
structure LPd (El : Nat → Type) where
  n : Nat
  ps : List Nat
  spec : List (AV El) → List (HE El) → Ex El

def LPd.lp (d : LPd El) : LP El := ⟨fun {_} kR kE sl h => match getS d.n 0 d.ps sl with
  | none => none
  | some vs => (d.spec vs h).out kR kE⟩

theorem natL_lp (d : LPd El) : NatL d.lp := by
  intro R R' m kR kE sl h
  simp only [LPd.lp]
  cases getS d.n 0 d.ps sl with
  | none => rfl
  | some vs =>
    exact Ex.nat m kR kE _

def lpT (l : List (Nat × LPd El)) (t : Nat) : Option (LP El) :=
  match l with
  | [] => none
  | (n, x) :: r => if n = t then some x.lp else lpT r t

theorem lpT_mem : ∀ {l : List (Nat × LPd El)} {t : Nat} {L : LP El}, lpT l t = some L → ∃ d, (t, d) ∈ l ∧ L = d.lp
  | [], t, L, h => by simp [lpT] at h
  | (n, x) :: r, t, L, h => by
    simp only [lpT] at h
    split at h
    · rename_i e
      cases h
      exact ⟨x, by simp [e], rfl⟩
    · obtain ⟨d, h1, h2⟩ := lpT_mem h
      exact ⟨d, List.mem_cons_of_mem _ h1, h2⟩

/-- A loop's body, by its number. -/
def loopBody (c : Code) (key : Nat) : Code := ((loopsOf c).find? fun b => firstId b == key).getD .skip

theorem find_key : ∀ {l : List Code} {b : Code}, (l.map firstId).Nodup → b ∈ l → l.find? (fun x => firstId x == firstId b) = some b
  | [], _, _, h => by simp at h
  | x :: l, b, hn, h => by
    simp only [List.map_cons, List.nodup_cons] at hn
    simp only [List.find?_cons]
    rcases List.mem_cons.1 h with rfl | h'
    · simp
    · have : (firstId x == firstId b) = false := by
        simp only [beq_eq_false_iff_ne, ne_eq]
        intro e
        exact hn.1 (e ▸ List.mem_map_of_mem h')
      rw [this]
      exact find_key hn.2 h'

/-- What a loop's contract owes. -/
def LoopOk (C : Cx El) (m : Nat) (hs : Nat → Option Hint) (lp : Nat → Option (LP El)) (fuel : Nat) (body : Code) (d : LPd El) : Prop :=
  ∀ (R : Type) (kR : List (AV El) → List (HE El) → Option R) (kE : Nat → List (AV El) → List (HE El) → Option R) (vs : List (AV El)) (h : List (HE El)) (r : R),
    (d.spec vs h).out kR kE = some r → ∃ n, rounds (fun k sl h => evC C m hs lp fuel body (fun sl h => cleanAt m hs (firstId body + 1000000) sl h k) kR kE sl h) n (mkS d.n 0 d.ps vs) h = some r

theorem lpOk_list {C : Cx El} {m : Nat} {hs : Nat → Option Hint} {fuel : Nat} {c : Code} {l : List (Nat × LPd El)} (hk : noDup ((loopsOf c).map firstId) = true)
    (h : ∀ p ∈ l, LoopOk C m hs (lpT l) fuel (loopBody c p.1) p.2) : LpOk C m hs (lpT l) fuel c := by
  intro body hb L hL R kR kE sl hp r hr
  obtain ⟨d, h1, rfl⟩ := lpT_mem hL
  have hbody : loopBody c (firstId body) = body := by
    unfold loopBody
    rw [find_key (noDup_nodup hk) hb]
    rfl
  have := h _ h1
  simp only [hbody] at this
  simp only [LPd.lp] at hr
  split at hr
  · cases hr
  · rename_i vs hvs
    obtain ⟨e1, _⟩ := getS_ok _ _ _ _ _ hvs
    rw [e1]
    exact this R kR kE vs hp r hr

/-- An evaluation with loops. -/
theorem EvOk.loops {C : Cx El} {l : List (Nat × FS El)} {fn : Func} {args : List (AV El)} {h : List (HE El)} {v : AV El} {h' : List (HE El)} (hs : Nat → Option Hint) (tbl : List (Nat × LPd El)) (L : Leave)
    (hk : noDup ((loopsOf (fn.body.getD .skip)).map firstId) = true)
    (hl : ∀ p ∈ tbl, LoopOk (C.withFn (fnL l)) h.length hs (lpT tbl) 0 (loopBody (fn.body.getD .skip) p.1) p.2)
    (e : ∀ (R : Type) (k : AV El → List (HE El) → Option R), evF (C.withFn (fnL l)) hs (lpT tbl) L 0 fn.ntmps fn.results.toList (fn.body.getD .skip) args h k = k v h') : EvOk C l fn args h v h' :=
  ⟨hs, lpT tbl, L, 0, lpOk_list hk hl, e⟩
end Go.Ev

/- Elements of slices, by their kinds; structs that may be compared, checked. Own work. -/
namespace Go.Ev

structure PropV where
  id : Int
  n : Int
  text : List UInt8
  value : List UInt8

structure RuleV where
  shape : Int
  kinds : Int
  least : Int
  most : Int

structure FilterV where
  topic : List UInt8
  qos : Int
  noLocal : Bool
  asPub : Bool
  handling : Int

structure WillV where
  topic : List UInt8
  payload : List UInt8
  qos : Int
  retain : Bool
  props : List PropV

structure PacketV where
  kind : Int
  dup : Bool
  retain : Bool
  qos : Int
  id : Int
  topic : List UInt8
  payload : List UInt8
  clean : Bool
  alive : Int
  client : List UInt8
  hasUser : Bool
  user : List UInt8
  hasPass : Bool
  pass : List UInt8
  hasWill : Bool
  will : WillV
  session : Bool
  code : Int
  codes : List Int
  filters : List FilterV
  props : List PropV

def FilterV.none : FilterV := ⟨[], 0, false, false, 0⟩
def RuleV.none : RuleV := ⟨0, 0, 0, 0⟩
def PropV.none : PropV := ⟨0, 0, [], []⟩
def WillV.none : WillV := ⟨[], [], 0, false, []⟩
def PacketV.none : PacketV := ⟨0, false, false, 0, 0, [], [], false, 0, [], false, [], false, [], false, .none, false, 0, [], [], []⟩

inductive EC where
  | unit
  | int
  | str
  | prop
  | filter
  | packet
  | rule

def ElE : EC → Type
  | .unit => Unit
  | .int => Int
  | .str => List UInt8
  | .prop => PropV
  | .filter => FilterV
  | .packet => PacketV
  | .rule => RuleV

def dfltE : (e : EC) → ElE e
  | .unit => ()
  | .int => (0 : Int)
  | .str => ([] : List UInt8)
  | .prop => PropV.none
  | .filter => FilterV.none
  | .packet => PacketV.none
  | .rule => RuleV.none

variable {El : Nat → Type}

/-- A value as it may stand in memory that is not written any more. -/
def AV.roD : AV El → AV El
  | .bool b => .bool b
  | .int k n => .int k n
  | .str s => .str s
  | .nilptr => .nilptr
  | .nilfn => .nilfn
  | .bytes _ s => .bytes .shr s
  | .list _ c l => .list .shr c l
  | _ => .junk

theorem V.roD {C : Cx El} {H : RO} {ρ : Nat → RE} {a : AV El} {v : Value} (h : V C H ρ a v) : V C H ρ0 a.roD v := by
  cases h with
  | bool _ b => exact .bool _ _
  | int _ k n h => exact .int _ _ _ h
  | str _ b hb => exact .str _ _ hb
  | nilptr _ => exact .nilptr _
  | nilfn _ => exact .nilfn _
  | bytesN _ f hn => exact .bytesN _ _ trivial
  | bytes _ f s b o cap hf hc hh => exact .bytes _ _ _ _ _ _ trivial hc hh
  | listN _ f c hn => exact .listN _ _ _ trivial
  | list _ f c l b o cap vs hf hc h1 h2 => exact .list _ _ _ _ _ _ _ vs trivial hc h1 h2
  | _ => exact .junk _ _

theorem VL.roD {C : Cx El} {H : RO} {ρ : Nat → RE} {as : List (AV El)} {vs : List Value} (h : VL C H ρ as vs) : VL C H ρ0 (as.map AV.roD) vs := by
  refine ⟨by simp [h.1], fun i a v ha hv => ?_⟩
  rw [List.getElem?_map] at ha
  obtain ⟨b, hb, rfl⟩ := Option.map_eq_some_iff.1 ha
  exact (h.2 i b v hb hv).roD

/-! Structs that may be compared -/
def kindB (P : Program) (t : TypeId) : Ty → Bool
  | .int k => match P.underlying t with
    | some (.int k') => decide (k' = k)
    | _ => false
  | .bool => match P.underlying t with
    | some .bool => true
    | _ => false
  | .str => match P.underlying t with
    | some .string => true
    | _ => false
  | _ => false

theorem kindB_ok {P : Program} {t : TypeId} {x : Ty} (h : kindB P t x = true) : KindOk P t x := by
  cases x <;> simp only [kindB] at h <;> try (cases h)
  · split at h
    · rename_i e
      simp only [decide_eq_true_eq] at h
      subst h
      exact e
    · cases h
  · split at h
    · rename_i e; exact e
    · cases h
  · split at h
    · rename_i e; exact e
    · cases h

def cmpFields (P : Program) : Nat → List Field → List Ty → Bool
  | _, [], [] => true
  | i, f :: fs, x :: xs => !(f.name == "_") && decide (f.offset = i) && kindB P f.type x && cmpFields P (i + 1) fs xs
  | _, _, _ => false

theorem cmpFields_ok {P : Program} : ∀ {fs : List Field} {xs : List Ty} {j : Nat}, cmpFields P j fs xs = true → fs.length = xs.length ∧ ∀ (i : Nat) f x, fs[i]? = some f → xs[i]? = some x → f.name ≠ "_" ∧ f.offset = j + i ∧ KindOk P f.type x
  | [], [], _, _ => ⟨rfl, fun i f x h => by simp at h⟩
  | f :: fs, x :: xs, j, h => by
    simp only [cmpFields, Bool.and_eq_true, decide_eq_true_eq, Bool.not_eq_true', beq_eq_false_iff_ne, ne_eq] at h
    obtain ⟨⟨⟨h1, h2⟩, h3⟩, h4⟩ := h
    obtain ⟨k1, k2⟩ := cmpFields_ok h4
    refine ⟨by simp [k1], fun i f' x' hf hx => ?_⟩
    cases i with
    | zero =>
      simp only [List.getElem?_cons_zero, Option.some.injEq] at hf hx
      subst hf; subst hx
      exact ⟨h1, by omega, kindB_ok h3⟩
    | succ i =>
      obtain ⟨a, b, c⟩ := k2 i f' x' (by simpa using hf) (by simpa using hx)
      exact ⟨a, by omega, c⟩
  | [], _ :: _, _, h => by simp [cmpFields] at h
  | _ :: _, [], _, h => by simp [cmpFields] at h

def cmpB (P : Program) (t : TypeId) (ts : List Ty) : Bool :=
  match P.underlying t with
  | some (.struct fields) => !P.stoodInHeld t && !P.eqGuardType P.depth t && cmpFields P 0 fields.toList ts
  | _ => false

theorem cmpB_ok {P : Program} {t : TypeId} {ts : List Ty} (h : cmpB P t ts = true) : CmpOk P t ts := by
  unfold cmpB at h
  split at h
  · rename_i fields e
    simp only [Bool.and_eq_true, Bool.not_eq_true'] at h
    obtain ⟨⟨h1, h2⟩, h3⟩ := h
    obtain ⟨k1, k2⟩ := cmpFields_ok h3
    refine ⟨fields, e, h1, h2, by simpa using k1, fun i f x hf hx => ?_⟩
    obtain ⟨a, b, c⟩ := k2 i f x (by simpa using hf) hx
    exact ⟨a, by omega, c⟩
  · cases h

def cmpL (l : List (Nat × List Ty)) (t : Nat) : Option (List Ty) :=
  match l with
  | [] => none
  | (n, x) :: r => if n = t then some x else cmpL r t

def cmpLOk (P : Program) : List (Nat × List Ty) → Bool
  | [] => true
  | (n, x) :: r => cmpB P n x && cmpLOk P r

theorem cmpL_ok {P : Program} : ∀ {l : List (Nat × List Ty)}, cmpLOk P l = true → ∀ t ts, cmpL l t = some ts → CmpOk P t ts
  | [], _, t, ti, h => by simp [cmpL] at h
  | (n, x) :: r, hl, t, ti, h => by
    simp only [cmpLOk, Bool.and_eq_true] at hl
    simp only [cmpL] at h
    split at h
    · rename_i e
      subst e
      cases h
      exact cmpB_ok hl.1
    · exact cmpL_ok hl.2 t ti h
end Go.Ev

/- Whole numbers, as the machine reckons them. Own work. -/
namespace Go.Ev

theorem wrap_i64 {x : Int} (h1 : -9223372036854775808 ≤ x) (h2 : x ≤ 9223372036854775807) : IntKind.i64.wrap x = x := by
  have e1 : (2 : Int) ^ 64 = 18446744073709551616 := by decide
  have e2 : (2 : Int) ^ (64 - 1) = 9223372036854775808 := by decide
  simp only [IntKind.wrap, IntKind.bits, IntKind.signed, Bool.true_and, e1, e2, ge_iff_le, decide_eq_true_eq]
  split <;> omega

theorem wrap_u8 (x : Int) : IntKind.u8.wrap x = x % 256 := by
  simp [IntKind.wrap, IntKind.bits, IntKind.signed]

theorem wrap_u16 (x : Int) : IntKind.u16.wrap x = x % 65536 := by
  simp [IntKind.wrap, IntKind.bits, IntKind.signed]

theorem wrap_u32 (x : Int) : IntKind.u32.wrap x = x % 4294967296 := by
  simp [IntKind.wrap, IntKind.bits, IntKind.signed]

theorem wrap_u64 (x : Int) : IntKind.u64.wrap x = x % 18446744073709551616 := by
  simp [IntKind.wrap, IntKind.bits, IntKind.signed]

theorem inR_i64' {n : Int} : inR .i64 n = true ↔ -9223372036854775808 ≤ n ∧ n ≤ 9223372036854775807 := by
  rw [inR_iff]; simp [IntKind.min, IntKind.max, IntKind.bits, IntKind.signed]
theorem inR_u8' {n : Int} : inR .u8 n = true ↔ 0 ≤ n ∧ n ≤ 255 := by
  rw [inR_iff]; simp [IntKind.min, IntKind.max, IntKind.bits, IntKind.signed]
theorem inR_u32' {n : Int} : inR .u32 n = true ↔ 0 ≤ n ∧ n ≤ 4294967295 := by
  rw [inR_iff]; simp [IntKind.min, IntKind.max, IntKind.bits, IntKind.signed]
theorem inR_u64' {n : Int} : inR .u64 n = true ↔ 0 ≤ n ∧ n ≤ 18446744073709551615 := by
  rw [inR_iff]; simp [IntKind.min, IntKind.max, IntKind.bits, IntKind.signed]

theorem tdiv_nn {a b : Int} (h : 0 ≤ a) : a.tdiv b = a / b := Int.tdiv_eq_ediv_of_nonneg h
theorem tmod_nn {a b : Int} (h : 0 ≤ a) : a.tmod b = a % b := Int.tmod_eq_emod_of_nonneg h
theorem fdiv_nn {a b : Int} (h : 0 ≤ b) : a.fdiv b = a / b := Int.fdiv_eq_ediv_of_nonneg a h

/-- Facts on bytes are looked up. -/
theorem byte_all {p : Int → Bool} (h : (List.range 256).all (fun n => p n) = true) {b : Int} (h0 : 0 ≤ b) (h1 : b ≤ 255) : p b = true := by
  have := List.all_eq_true.1 h b.toNat (List.mem_range.2 (by omega))
  have e : ((b.toNat : Nat) : Int) = b := by omega
  rw [e] at this
  exact this

theorem and127 {b : Int} (h0 : 0 ≤ b) (h1 : b ≤ 255) : IntKind.u8.wrap ↑(BitVec.ofInt IntKind.u8.bits b &&& BitVec.ofInt IntKind.u8.bits 127).toNat = b % 128 := by
  have := byte_all (p := fun b => decide (IntKind.u8.wrap ↑(BitVec.ofInt IntKind.u8.bits b &&& BitVec.ofInt IntKind.u8.bits 127).toNat = b % 128)) (by decide +kernel) h0 h1
  simpa using this

theorem and128 {b : Int} (h0 : 0 ≤ b) (h1 : b ≤ 255) : IntKind.u8.wrap ↑(BitVec.ofInt IntKind.u8.bits b &&& BitVec.ofInt IntKind.u8.bits 128).toNat = if 128 ≤ b then 128 else 0 := by
  have := byte_all (p := fun b => decide (IntKind.u8.wrap ↑(BitVec.ofInt IntKind.u8.bits b &&& BitVec.ofInt IntKind.u8.bits 128).toNat = if 128 ≤ b then 128 else 0)) (by decide +kernel) h0 h1
  simpa using this

theorem or128 {b : Int} (h0 : 0 ≤ b) (h1 : b ≤ 127) : IntKind.u8.wrap ↑(BitVec.ofInt IntKind.u8.bits b ||| BitVec.ofInt IntKind.u8.bits 128).toNat = b + 128 := by
  have := byte_all (p := fun b => !decide (b ≤ 127) || decide (IntKind.u8.wrap ↑(BitVec.ofInt IntKind.u8.bits b ||| BitVec.ofInt IntKind.u8.bits 128).toNat = b + 128)) (by decide +kernel) h0 (by omega)
  simpa [h1] using this

/-- Facts on numbers below a bound are looked up. -/
theorem below_all {N : Nat} {p : Int → Bool} (h : (List.range N).all (fun n => p n) = true) {b : Int} (h0 : 0 ≤ b) (h1 : b < N) : p b = true := by
  have := List.all_eq_true.1 h b.toNat (List.mem_range.2 (by omega))
  have e : ((b.toNat : Nat) : Int) = b := by omega
  rw [e] at this
  exact this

theorem and6 {f : Int} (h0 : 0 ≤ f) (h1 : f < 16) : IntKind.i64.wrap ↑(BitVec.ofInt IntKind.i64.bits f &&& BitVec.ofInt IntKind.i64.bits 6).toNat = f / 2 % 4 * 2 := by
  have := below_all (N := 16) (p := fun f => decide (IntKind.i64.wrap ↑(BitVec.ofInt IntKind.i64.bits f &&& BitVec.ofInt IntKind.i64.bits 6).toNat = f / 2 % 4 * 2)) (by decide +kernel) h0 h1
  simpa using this

theorem and8 {f : Int} (h0 : 0 ≤ f) (h1 : f < 16) : IntKind.i64.wrap ↑(BitVec.ofInt IntKind.i64.bits f &&& BitVec.ofInt IntKind.i64.bits 8).toNat = f / 8 * 8 := by
  have := below_all (N := 16) (p := fun f => decide (IntKind.i64.wrap ↑(BitVec.ofInt IntKind.i64.bits f &&& BitVec.ofInt IntKind.i64.bits 8).toNat = f / 8 * 8)) (by decide +kernel) h0 h1
  simpa using this

theorem or1 {f : Int} (h0 : 0 ≤ f) (h1 : f < 16) : IntKind.i64.wrap ↑(BitVec.ofInt IntKind.i64.bits f ||| BitVec.ofInt IntKind.i64.bits 1).toNat = f + 1 - f % 2 := by
  have := below_all (N := 16) (p := fun f => decide (IntKind.i64.wrap ↑(BitVec.ofInt IntKind.i64.bits f ||| BitVec.ofInt IntKind.i64.bits 1).toNat = f + 1 - f % 2)) (by decide +kernel) h0 h1
  simpa using this

theorem or8 {f : Int} (h0 : 0 ≤ f) (h1 : f < 8) : IntKind.i64.wrap ↑(BitVec.ofInt IntKind.i64.bits f ||| BitVec.ofInt IntKind.i64.bits 8).toNat = f + 8 := by
  have := below_all (N := 8) (p := fun f => decide (IntKind.i64.wrap ↑(BitVec.ofInt IntKind.i64.bits f ||| BitVec.ofInt IntKind.i64.bits 8).toNat = f + 8)) (by decide +kernel) h0 h1
  simpa using this

/-- A kind and its flags in one byte. -/
theorem orHead {k f : Int} (k0 : 0 ≤ k) (k1 : k < 16) (h0 : 0 ≤ f) (h1 : f < 16) : IntKind.i64.wrap ↑(BitVec.ofInt IntKind.i64.bits (k * 16) ||| BitVec.ofInt IntKind.i64.bits f).toNat = k * 16 + f := by
  have := below_all (N := 256) (p := fun x => decide (IntKind.i64.wrap ↑(BitVec.ofInt IntKind.i64.bits (x / 16 * 16) ||| BitVec.ofInt IntKind.i64.bits (x % 16)).toNat = x / 16 * 16 + x % 16)) (by decide +kernel) (b := k * 16 + f) (by omega) (by omega)
  have e1 : (k * 16 + f) / 16 = k := by omega
  have e2 : (k * 16 + f) % 16 = f := by omega
  simp only [e1, e2, decide_eq_true_eq] at this
  exact this

theorem and15 {b : Int} (h0 : 0 ≤ b) (h1 : b ≤ 255) : IntKind.u8.wrap ↑(BitVec.ofInt IntKind.u8.bits b &&& BitVec.ofInt IntKind.u8.bits 15).toNat = b % 16 := by
  have := byte_all (p := fun b => decide (IntKind.u8.wrap ↑(BitVec.ofInt IntKind.u8.bits b &&& BitVec.ofInt IntKind.u8.bits 15).toNat = b % 16)) (by decide +kernel) h0 h1
  simpa using this

/-- Arguments' ranges. -/
theorem VL.at_int {El : Nat → Type} {C : Cx El} {H : RO} {ρ : Nat → RE} {xs : List (AV El)} {vals : List Value} (h : VL C H ρ xs vals) {i : Nat} {k : IntKind} {n : Int} (ha : xs[i]? = Option.some (AV.int k n)) : inR k n = true := by
  have hl : i < vals.length := by
    rw [← h.1]
    exact (List.getElem?_eq_some_iff.1 ha).1
  have := h.2 i _ vals[i] ha (List.getElem?_eq_getElem hl)
  generalize vals[i] = u at this
  cases this
  assumption

theorem VL.at_str {El : Nat → Type} {C : Cx El} {H : RO} {ρ : Nat → RE} {xs : List (AV El)} {vals : List Value} (h : VL C H ρ xs vals) {i : Nat} {s : List UInt8} (ha : xs[i]? = Option.some (AV.str s)) : s.length ≤ 281474976710656 := by
  have hl : i < vals.length := by
    rw [← h.1]
    exact (List.getElem?_eq_some_iff.1 ha).1
  have := h.2 i _ vals[i] ha (List.getElem?_eq_getElem hl)
  generalize vals[i] = u at this
  cases this
  assumption

theorem VL.at_agg {El : Nat → Type} {C : Cx El} {H : RO} {ρ : Nat → RE} {xs cs : List (AV El)} {vals : List Value} (h : VL C H ρ xs vals) {i : Nat} (ha : xs[i]? = Option.some (AV.agg cs)) : ∃ vs, VL C H ρ cs vs := by
  have hl : i < vals.length := by
    rw [← h.1]
    exact (List.getElem?_eq_some_iff.1 ha).1
  have := h.2 i _ vals[i] ha (List.getElem?_eq_getElem hl)
  generalize vals[i] = u at this
  cases this
  rename_i vs h1 h2
  exact ⟨vs.toList, by simpa using h1, fun i a v ha hv => h2 i a v ha (by simpa using hv)⟩

/-- Arguments of which a slice's flag is not known. -/
def AV.shrX {El : Nat → Type} (v : AV El) : AV El :=
  match v with
  | .agg cs => .agg (cs.map AV.shrD)
  | v => v.shrD

theorem VL.shrD {El : Nat → Type} {C : Cx El} {H : RO} {ρ : Nat → RE} {xs : List (AV El)} {vals : List Value} (h : VL C H ρ xs vals) : VL C H ρ (xs.map AV.shrD) vals := by
  refine ⟨by simp [h.1], fun i a v ha hv => ?_⟩
  rw [List.getElem?_map] at ha
  obtain ⟨b, hb, rfl⟩ := Option.map_eq_some_iff.1 ha
  exact (h.2 i b v hb hv).shrD

theorem V.shrX {El : Nat → Type} {C : Cx El} {H : RO} {ρ : Nat → RE} {a : AV El} {v : Value} (h : V C H ρ a v) : V C H ρ a.shrX v := by
  cases h with
  | agg _ cs vs h1 h2 =>
    have : VL C H ρ (cs.map AV.shrD) vs.toList := VL.shrD ⟨by simpa using h1, fun i a v ha hv => h2 i a v ha (by simpa using hv)⟩
    exact .agg _ _ _ (by simpa using this.1) fun i a v ha hv => this.2 i a v ha (by simpa using hv)
  | junk => exact (V.junk _ _).shrD
  | bool => exact (V.bool _ _).shrD
  | int _ k n h => exact (V.int _ _ _ h).shrD
  | str _ b hb => exact (V.str _ _ hb).shrD
  | nilptr => exact (V.nilptr _).shrD
  | nilsl => exact (V.nilsl _).shrD
  | nilfn => exact (V.nilfn _).shrD
  | ptr _ id off b n h => exact (V.ptr _ _ _ _ _ h).shrD
  | rptr _ c x off b o vs h1 h2 => exact (V.rptr _ _ _ _ _ _ vs h1 h2).shrD
  | mbp _ id i b n h hi => exact (V.mbp _ _ _ _ _ h hi).shrD
  | bytesN _ f h => exact (V.bytesN _ _ h).shrD
  | bytes _ f s b o cap hf hc h => exact (V.bytes _ _ _ _ _ _ hf hc h).shrD
  | listN _ f c h => exact (V.listN _ _ _ h).shrD
  | list _ f c l b o cap vs hf hc h1 h2 => exact (V.list _ _ _ _ _ _ _ vs hf hc h1 h2).shrD
  | hsl _ id off len b n cap h hc => exact (V.hsl _ _ _ _ _ _ _ h hc).shrD
  | mbs _ id b n cap h hc => exact (V.mbs _ _ _ _ _ h hc).shrD
  | iter _ id b n h => exact (V.iter _ _ _ _ h).shrD
  | map _ id b n h => exact (V.map _ _ _ _ h).shrD
  | fmap _ c g m b es ck vs us hH h1 h0 h3 h2 => exact (V.fmap _ _ _ _ _ es ck vs us hH h1 h0 h3 h2).shrD
  | fn _ f as bs us vs h1 h2 h3 h4 => exact (V.fn _ _ _ _ _ _ h1 h2 h3 h4).shrD
  | tup _ cs vs h1 h2 => exact (V.tup _ _ _ h1 h2).shrD

theorem VL.shrX {El : Nat → Type} {C : Cx El} {H : RO} {ρ : Nat → RE} {xs : List (AV El)} {vals : List Value} (h : VL C H ρ xs vals) : VL C H ρ (xs.map AV.shrX) vals := by
  refine ⟨by simp [h.1], fun i a v ha hv => ?_⟩
  rw [List.getElem?_map] at ha
  obtain ⟨b, hb, rfl⟩ := Option.map_eq_some_iff.1 ha
  exact (h.2 i b v hb hv).shrX

theorem VL.at_list {El : Nat → Type} {C : Cx El} {H : RO} {ρ : Nat → RE} {xs : List (AV El)} {vals : List Value} (h : VL C H ρ xs vals) {i : Nat} {f : Fl} {c : Nat} {l : List (El c)} (ha : xs[i]? = Option.some (AV.list f c l)) : l.length ≤ 281474976710656 := by
  have hl : i < vals.length := by
    rw [← h.1]
    exact (List.getElem?_eq_some_iff.1 ha).1
  have := h.2 i _ vals[i] ha (List.getElem?_eq_getElem hl)
  generalize vals[i] = u at this
  cases this with
  | listN => simp
  | list _ _ _ _ b o cap vs hf hc h1 h2 => exact hc.2

/-- A slice is nil, or it is not. -/
theorem V.nilOr {El : Nat → Type} {C : Cx El} {H : RO} {ρ : Nat → RE} {f : Fl} {c : Nat} {l : List (El c)} {v : Value} (h : V C H ρ (.list f c l) v) :
    (l = [] ∧ V C H ρ (.list .nil c []) v) ∨ V C H ρ (.list .nn c l) v := by
  cases h with
  | listN _ _ _ hn => exact .inl ⟨rfl, .listN _ _ _ trivial⟩
  | list _ _ _ _ b o cap vs hf hc h1 h2 => exact .inr (.list _ _ _ _ _ _ _ vs trivial hc h1 h2)

theorem VL.one {El : Nat → Type} {C : Cx El} {H : RO} {ρ : Nat → RE} {a : AV El} {vals : List Value} (h : VL C H ρ [a] vals) : ∃ v, vals = [v] ∧ V C H ρ a v := by
  match vals, h with
  | [v], h => exact ⟨v, rfl, h.2 0 a v rfl rfl⟩
  | [], h => have := h.1; simp at this
  | _ :: _ :: _, h => have := h.1; simp at this

theorem VL.mk1 {El : Nat → Type} {C : Cx El} {H : RO} {ρ : Nat → RE} {a : AV El} {v : Value} (h : V C H ρ a v) : VL C H ρ [a] [v] := .cons h ⟨rfl, fun i a v h => by simp at h⟩
end Go.Ev

/- A law's arguments, as they are read; a law by its contract. Own work. -/
namespace Go.Ev
open Go.ChangeShapes Go.WideShapes Go.ChangeAt Go.RowKit
variable {El : Nat → Type}

/-- What a cell of a type is. -/
inductive Sh where
  | int (k : IntKind)
  | bool
  | str
  | bytes
  | list (c : Nat)

def Sh.fits : Sh → AV El → Prop
  | .int k, .int k' n => k' = k ∧ inR k n = true
  | .bool, .bool _ => True
  | .str, .str s => s.length ≤ 140737488351232
  | .bytes, .bytes f _ => f = .shr
  | .list c, .list f c' l => f = .shr ∧ c' = c ∧ l.length ≤ 140737488351232
  | _, _ => False

def fitsL : List Sh → List (AV El) → Prop
  | [], [] => True
  | s :: ss, a :: as => s.fits a ∧ fitsL ss as
  | _, _ => False

theorem fits_int {k : IntKind} {a : AV El} (h : (Sh.int k).fits a) : ∃ n, a = .int k n ∧ inR k n = true := by
  cases a <;> simp only [Sh.fits] at h
  obtain ⟨rfl, h⟩ := h
  exact ⟨_, rfl, h⟩
theorem fits_bool {a : AV El} (h : Sh.bool.fits a) : ∃ b, a = .bool b := by
  cases a <;> simp only [Sh.fits] at h
  exact ⟨_, rfl⟩
theorem fits_str {a : AV El} (h : Sh.str.fits a) : ∃ s, a = .str s ∧ s.length ≤ 140737488351232 := by
  cases a <;> simp only [Sh.fits] at h
  exact ⟨_, rfl, h⟩
theorem fits_list {c : Nat} {a : AV El} (h : (Sh.list c).fits a) : ∃ l : List (El c), a = .list .shr c l ∧ l.length ≤ 140737488351232 := by
  cases a <;> simp only [Sh.fits] at h
  obtain ⟨rfl, rfl, h⟩ := h
  exact ⟨_, rfl, h⟩

theorem fitsL_app : ∀ {ss ts : List Sh} {as bs : List (AV El)}, fitsL ss as → fitsL ts bs → fitsL (ss ++ ts) (as ++ bs)
  | [], _, [], _, _, h => h
  | _ :: _, _, _ :: _, _, h1, h2 => ⟨h1.1, fitsL_app h1.2 h2⟩
  | [], _, _ :: _, _, h, _ => h.elim
  | _ :: _, _, [], _, h, _ => h.elim

/-- Fields lie one behind the other. -/
def contig (P : Program) : Nat → List Field → Option Nat
  | off, [] => some off
  | off, f :: fs => if f.offset = off then contig P (off + P.cellsOf f.type) fs else none

/-- What a type's cells are. -/
def openT (P : Program) (els : List Nat) : Nat → TypeId → Option (List Sh)
  | 0, _ => none
  | n + 1, t => match P.underlying t with
    | some (.int k) => some [.int k]
    | some .bool => some [.bool]
    | some .string => some [.str]
    | some (.slice e) => if els.contains e then some [.list e] else none
    | some (.struct fs) => if contig P 0 fs.toList = some (P.cellsOf t) then (fs.toList.mapM fun f => openT P els n f.type).map List.flatten else none
    | _ => none

def roOf (w : World) : RO := ⟨fun b o => w.cell? ⟨b, o, none⟩, fun _ => none⟩

/-- What is owed of the element types. -/
structure ElOk (P : Program) (C : Cx El) (els : List Nat) (e : Nat) : Prop where
  size : P.cellsOf e = C.lay.w e
  bytes : 0 < P.bytesOf e
  sh : ∃ m ss, openT P els m e = some ss ∧ ∀ as, fitsL ss as → ∃ x, C.lay.cells e x = as
  flat : ∃ m ss, openT P els m e = some ss ∧ ∀ s ∈ ss, ∀ c, s ≠ .list c

/-- Slices whose place is a cell. -/
def plainS (cs : List Value) : Prop := ∀ c ∈ cs, ∀ a len cap, c = .slice (some a) len cap → a.spot = none

section
variable {H : Type} {enc : TypeId × Value → H} {P : Program} {C : Cx El} {W : World}

theorem mem_weightsAll {e : TypeId} {n : Nat} : ∀ {l : List (DataW H)} {d : DataW H}, d ∈ l → n ∈ DataW.weights P e d → n ∈ DataW.weightsAll P e l
  | x :: l, d, h, hn => by
    simp only [DataW.weightsAll, List.mem_append]
    rcases List.mem_cons.1 h with rfl | h
    · exact .inl hn
    · exact .inr (mem_weightsAll h hn)
  | [], _, h, _ => by simp at h

theorem trod_open_flat {els : List Nat} (n : Nat) : ∀ (fuel : Nat) (t : TypeId) (ss : List Sh) (cs : List Value) (x : DataW H × List MemPlace) {sp : Nat → Bool}, openT P els n t = some ss → (∀ s ∈ ss, ∀ c, s ≠ .list c) →
    DataW.trod enc P W 0 sp true fuel t cs = some x → plainS cs := by
  induction n with
  | zero => intro fuel t ss cs x sp h; simp [openT] at h
  | succ n ih =>
    intro fuel t ss cs x sp h hf hx
    simp only [openT] at h
    split at h
    · rename_i k hu
      obtain ⟨m, rfl, _⟩ := DataW.trod_int hu hx
      intro c hc a len cap e; simp at hc; subst hc; cases e
    · rename_i hu
      obtain ⟨m, rfl, _⟩ := DataW.trod_bool hu hx
      intro c hc a len cap e; simp at hc; subst hc; cases e
    · rename_i hu
      obtain ⟨m, rfl, _⟩ := DataW.trod_string hu hx
      intro c hc a len cap e; simp at hc; subst hc; cases e
    · split at h
      · rename_i e _ _
        cases h
        exact absurd rfl (hf (.list e) (by simp) e)
      · cases h
    · rename_i fs hu
      split at h
      · rename_i hcon
        obtain ⟨sss, hss, rfl⟩ := Option.map_eq_some_iff.1 h
        obtain ⟨xs, m, rfl, _, hlen, hxl, hx'⟩ := DataW.trod_struct hu hx
        have hall : ∀ f ∈ fs.toList, ∃ y, DataW.trod enc P W 0 sp true m f.type ((cs.drop f.offset).take (P.cellsOf f.type)) = some y := by
          intro f hf'
          obtain ⟨i, hi⟩ := List.mem_iff_getElem?.1 hf'
          have hi' : fs[i]? = some f := by simpa using hi
          have hlt : i < xs.length := by
            rw [hxl]
            exact (Array.getElem?_eq_some_iff.1 hi').1
          exact ⟨xs[i], by rw [hx' i f hi', List.getElem?_eq_getElem hlt]⟩
        have key : ∀ (fl : List Field) (off : Nat) (sss : List (List Sh)), contig P off fl = some (P.cellsOf t) → (fl.mapM fun f => openT P els n f.type) = some sss → (∀ s ∈ sss.flatten, ∀ c, s ≠ .list c) →
            (∀ f ∈ fl, ∃ y, DataW.trod enc P W 0 sp true m f.type ((cs.drop f.offset).take (P.cellsOf f.type)) = some y) → plainS (cs.drop off) := by
          intro fl
          induction fl with
          | nil =>
            intro off sss h1 _ _ _
            simp only [contig, Option.some.injEq] at h1
            subst h1
            rw [List.drop_eq_nil_of_le (by omega)]
            intro c hc; simp at hc
          | cons f fl ih2 =>
            intro off sss h1 h2 h3 h4
            simp only [contig] at h1
            split at h1
            · rename_i ho
              subst ho
              simp only [List.mapM_cons, Option.bind_eq_bind, Option.bind_eq_some_iff] at h2
              obtain ⟨s1, e1, s2, e2, e3⟩ := h2
              cases e3
              obtain ⟨y, hy⟩ := h4 f (by simp)
              have p1 := ih m f.type s1 _ y e1 (fun s hs => h3 s (by simp [hs])) hy
              have p2 := ih2 _ s2 h1 e2 (fun s hs => h3 s (by simp only [List.flatten_cons, List.mem_append]; exact .inr hs)) fun g hg => h4 g (List.mem_cons_of_mem _ hg)
              intro c hc
              rw [← List.take_append_drop (P.cellsOf f.type) (cs.drop f.offset), List.mem_append, List.drop_drop] at hc
              rcases hc with hc | hc
              · exact p1 c hc
              · exact p2 c hc
            · cases h1
        have := key fs.toList 0 sss hcon hss (by simpa using hf) hall
        simpa using this
      · cases h
    · cases h

theorem trod_open {els : List Nat} (hE : ∀ e ∈ els, ElOk P C els e) : ∀ (fuel n : Nat) (t : TypeId) (ss : List Sh) (cs : List Value) (x : DataW H × List MemPlace) {sp : Nat → Bool}, openT P els n t = some ss → plainS cs →
    DataW.trod enc P W 0 sp true fuel t cs = some x → (∀ n ∈ DataW.weights P t x.1, n ≤ reachBytes) → ∃ as, VL C (roOf W) ρ0 as cs ∧ fitsL ss as := by
  intro fuel
  induction fuel with
  | zero => intro n t ss cs x sp _ _ hx; simp [DataW.trod] at hx
  | succ fuel ih =>
    intro n
    cases n with
    | zero => intro t ss cs x sp h; simp [openT] at h
    | succ n =>
    intro t ss cs x sp h hp hx hwt
    simp only [openT] at h
    split at h
    · rename_i k hu
      obtain ⟨m, rfl, _, hw⟩ := DataW.trod_int hu hx
      cases h
      have hr : inR k m = true := by simpa [Lit.wf, inR] using hw
      exact ⟨[.int k m], .cons (.int _ _ _ hr) ⟨rfl, fun i a v h => by simp at h⟩, ⟨rfl, hr⟩, trivial⟩
    · rename_i hu
      obtain ⟨m, rfl, _⟩ := DataW.trod_bool hu hx
      cases h
      exact ⟨[.bool m], .cons (.bool _ _) ⟨rfl, fun i a v h => by simp at h⟩, trivial, trivial⟩
    · rename_i hu
      obtain ⟨m, rfl, rfl, hs⟩ := DataW.trod_string hu hx
      cases h
      have hb : m.data.toList.length ≤ 140737488351232 := by
        have := hwt m.data.toList.length (by simp [DataW.weights])
        simpa [reachBytes] using this
      exact ⟨[.str m.data.toList], .cons (.str _ _ (Nat.le_trans hb (by decide))) ⟨rfl, fun i a v h => by simp at h⟩, hb, trivial⟩
    · rename_i e hu
      split at h
      · rename_i hin
        cases h
        have he := hE e (by simpa using hin)
        rcases DataW.trod_slice hu hx with ⟨rfl, _⟩ | ⟨a, len, cap, elems, rest, m, hm, rfl, rfl, _, hlc, hcm, hel, hall, _⟩
        · exact ⟨[.list .shr e []], .cons (.listN _ _ _ trivial) ⟨rfl, fun i a v h => by simp at h⟩, ⟨rfl, rfl, by simp⟩, trivial⟩
        · cases hm
          have hlen2 : len ≤ 140737488351232 := by
            have := hwt ((elems.length + rest.length) * P.bytesOf e) (by simp [DataW.weights, hu])
            have hb := he.bytes
            have h2 : elems.length + rest.length ≤ (elems.length + rest.length) * P.bytesOf e := Nat.le_mul_of_pos_right _ hb
            have h3 : reachBytes = 140737488351232 := rfl
            omega
          have hsp := hp _ (by simp) a len cap rfl
          obtain ⟨b, o, s⟩ := a
          simp only at hsp
          subst hsp
          obtain ⟨m', ss, hs1, hs2⟩ := he.sh
          obtain ⟨m2, ss2, hf1, hf2⟩ := he.flat
          have each : ∀ i, i < len → ∃ (x : El e) (ci : List Value), W.cells? 0 (Addr.add ⟨b, o, none⟩ (i * P.cellsOf e)) (P.cellsOf e) = some ci ∧ VL C (roOf W) ρ0 (C.lay.cells e x) ci := by
            intro i hi
            have h1 := hall i hi
            have hlt : i < elems.length := by omega
            rw [List.getElem?_eq_getElem hlt, Option.bind_eq_some_iff] at h1
            obtain ⟨ci, h2, h3⟩ := h1
            obtain ⟨as, h4, h5⟩ := ih m' e ss ci _ hs1 (trod_open_flat m2 _ _ _ _ _ hf1 hf2 h3) h3 (by
              intro n hn
              refine hwt n ?_
              simp only [DataW.weights, hu, List.mem_cons, List.mem_append]
              refine .inr (.inl (mem_weightsAll (List.mem_map_of_mem (List.getElem_mem hlt)) hn)))
            obtain ⟨x, rfl⟩ := hs2 as h5
            exact ⟨x, ci, h2, h4⟩
          let xs : List (El e) := (List.range len).map fun i => if hi : i < len then (each i hi).choose else C.lay.dflt e
          let cis : Nat → List Value := fun i => if hi : i < len then (each i hi).choose_spec.choose else []
          have hxs : ∀ i x, xs[i]? = some x → i < len ∧ W.cells? 0 (Addr.add ⟨b, o, none⟩ (i * P.cellsOf e)) (P.cellsOf e) = some (cis i) ∧ VL C (roOf W) ρ0 (C.lay.cells e x) (cis i) := by
            intro i x hx'
            simp only [xs, List.getElem?_map] at hx'
            obtain ⟨j, hj, hx2⟩ := Option.map_eq_some_iff.1 hx'
            obtain ⟨hlt, hj2⟩ := List.getElem?_eq_some_iff.1 hj
            simp only [List.length_range] at hlt
            rw [List.getElem_range] at hj2
            subst hj2
            rw [dif_pos hlt] at hx2
            subst hx2
            have := (each i hlt).choose_spec.choose_spec
            simp only [cis, dif_pos hlt]
            exact ⟨hlt, this⟩
          have hxl : xs.length = len := by simp [xs]
          refine ⟨[.list .shr e xs], .cons ?_ ⟨rfl, fun i a v h => by simp at h⟩, ⟨rfl, rfl, by omega⟩, trivial⟩
          rw [← hxl]
          refine .list _ _ _ _ b o cap (fun i j => (cis i).getD j undef) trivial ⟨by omega, ?_⟩ (fun i x j a hi ha => ?_) fun i x j a hi ha => ?_
          · have : 140737488351232 ≤ maxCat := by decide
            omega
          · obtain ⟨hlt, h1, h2⟩ := hxs i x hi
            obtain ⟨_, hl, h3⟩ := World.cells?_some h1
            have hj : j < P.cellsOf e := by
              rw [he.size]
              have := (List.getElem?_eq_some_iff.1 ha).1
              have e2 := h2.1
              rw [hl, he.size] at e2
              omega
            have h4 := h3 j hj
            have hjl : j < (cis i).length := by omega
            rw [List.getElem?_eq_getElem hjl] at h4
            simp only [roOf, List.getD_eq_getElem?_getD, List.getElem?_eq_getElem hjl, Option.getD_some]
            rw [← h4, he.size]
            congr 1
            simp only [Addr.add]
            by_cases hi0 : i * C.lay.w e = 0 <;> by_cases hj0 : j = 0 <;> simp [hi0, hj0]
          · obtain ⟨hlt, h1, h2⟩ := hxs i x hi
            have hjl : j < (cis i).length := by
              rw [← h2.1]
              exact (List.getElem?_eq_some_iff.1 ha).1
            exact h2.2 j a _ ha (by rw [List.getD_eq_getElem?_getD, List.getElem?_eq_getElem hjl]; rfl)
      · cases h
    · rename_i fs hu
      split at h
      · rename_i hcon
        obtain ⟨sss, hss, rfl⟩ := Option.map_eq_some_iff.1 h
        obtain ⟨xs, m, hm, rfl, hlen, hxl, hx'⟩ := DataW.trod_struct hu hx
        cases hm
        have hall : ∀ f ∈ fs.toList, ∃ y, DataW.trod enc P W 0 sp true fuel f.type ((cs.drop f.offset).take (P.cellsOf f.type)) = some y ∧ ∀ n ∈ DataW.weights P f.type y.1, n ≤ reachBytes := by
          intro f hf'
          obtain ⟨i, hi⟩ := List.mem_iff_getElem?.1 hf'
          have hi' : fs[i]? = some f := by simpa using hi
          have hlt : i < xs.length := by
            rw [hxl]
            exact (Array.getElem?_eq_some_iff.1 hi').1
          refine ⟨xs[i], by rw [hx' i f hi', List.getElem?_eq_getElem hlt], fun n hn => hwt n ?_⟩
          simp only [DataW.weights, hu]
          exact DataW.weights_mem_each (j := i) (t := f.type) (by rw [List.getElem?_map, hi]; rfl) (by rw [List.getElem?_map, List.getElem?_eq_getElem hlt]; rfl) n hn
        have key : ∀ (fl : List Field) (off : Nat) (sss : List (List Sh)), contig P off fl = some (P.cellsOf t) → (fl.mapM fun f => openT P els n f.type) = some sss →
            (∀ f ∈ fl, ∃ y, DataW.trod enc P W 0 sp true fuel f.type ((cs.drop f.offset).take (P.cellsOf f.type)) = some y ∧ ∀ n ∈ DataW.weights P f.type y.1, n ≤ reachBytes) → ∃ as, VL C (roOf W) ρ0 as (cs.drop off) ∧ fitsL sss.flatten as := by
          intro fl
          induction fl with
          | nil =>
            intro off sss h1 h2 _
            simp only [contig, Option.some.injEq] at h1
            subst h1
            rw [List.drop_eq_nil_of_le (by omega)]
            simp only [List.mapM_nil, Option.pure_def, Option.some.injEq] at h2
            subst h2
            exact ⟨[], ⟨rfl, fun i a v h => by simp at h⟩, trivial⟩
          | cons f fl ih2 =>
            intro off sss h1 h2 h4
            simp only [contig] at h1
            split at h1
            · rename_i ho
              subst ho
              simp only [List.mapM_cons, Option.bind_eq_bind, Option.bind_eq_some_iff] at h2
              obtain ⟨s1, e1, s2, e2, e3⟩ := h2
              cases e3
              obtain ⟨y, hy, hyw⟩ := h4 f (by simp)
              obtain ⟨a1, v1, f1⟩ := ih n f.type s1 _ y e1 (fun c hc => hp c (List.mem_of_mem_drop (List.mem_of_mem_take hc))) hy hyw
              obtain ⟨a2, v2, f2⟩ := ih2 _ s2 h1 e2 fun g hg => h4 g (List.mem_cons_of_mem _ hg)
              refine ⟨a1 ++ a2, ?_, by simpa using fitsL_app f1 f2⟩
              rw [← List.take_append_drop (P.cellsOf f.type) (cs.drop f.offset), List.drop_drop]
              exact v1.app v2
            · cases h1
        have := key fs.toList 0 sss hcon hss hall
        simpa using this
      · cases h
    · cases h

def argFits (p : Bool × List Sh) (a : AV El) : Prop :=
  match p.1 with
  | true => ∃ cs, a = .agg cs ∧ fitsL p.2 cs
  | false => fitsL p.2 [a]

def argsFit : List (Bool × List Sh) → List (AV El) → Prop
  | [], [] => True
  | p :: ps, a :: as => argFits p a ∧ argsFit ps as
  | _, _ => False

def openArgs (P : Program) (els : List Nat) (ts : List TypeId) : Option (List (Bool × List Sh)) :=
  ts.mapM fun t => (openT P els 8 t).map fun ss => (aggP P t, ss)

theorem spot_of {r : Reach} {b0 : Nat} {t : TypeId} {a : Addr} {len cap : Nat} (h : Cell.okWide P W r b0 t (.slice (some a) len cap)) : a.spot = none := by
  unfold Cell.okWide at h
  split at h <;> try (simp_all; done)
  unfold Cell.ok at h
  split at h <;> simp_all
  exact h.2.2.2.1

theorem arg_open {els : List Nat} (hE : ∀ e ∈ els, ElOk P C els e) {r : Reach} {b0 : Nat} {t : TypeId} {v : Value} {d : DataW H} {p : List MemPlace} {ss : List Sh} {sp : Nat → Bool} (hs : openT P els 8 t = some ss) (hv : Value.okWide P W r b0 t v)
    (ht : DataW.Trod enc P W 0 sp true t v d p) (hw : ∀ n ∈ DataW.weights P t d, n ≤ reachBytes) : ∃ a, V C (roOf W) ρ0 a v ∧ argFits (aggP P t, ss) a := by
  obtain ⟨fuel, hf⟩ := ht
  by_cases hg : aggP P t = true
  · have hu : ∃ fs, P.underlying t = some (.struct fs) := by
      have hs' := hs
      simp only [openT] at hs'
      clear hs
      split at hs'
      · rename_i k hu
        simp [aggP, hu] at hg
      · rename_i hu
        simp [aggP, hu] at hg
      · rename_i hu
        simp [aggP, hu] at hg
      · rename_i e hu
        simp [aggP, hu] at hg
      · rename_i fs hu
        exact ⟨fs, hu⟩
      · cases hs'
    obtain ⟨fs, hu⟩ := hu
    unfold Value.okWide at hv
    rw [hu] at hv
    obtain ⟨cs, rfl, _, hrow⟩ := hv
    have hpl : plainS cs.toList := by
      intro c hc a len cap e
      obtain ⟨i, hi⟩ := List.mem_iff_getElem?.1 hc
      obtain ⟨ts, _, _, hcell⟩ := hrow
      obtain ⟨u, _, hok⟩ := hcell i c (by simpa using hi)
      subst e
      exact spot_of hok
    obtain ⟨as, h1, h2⟩ := trod_open hE fuel 8 t ss _ _ hs hpl hf hw
    refine ⟨.agg as, .agg _ _ _ (by simpa using h1.1) (fun i a v ha hv => h1.2 i a v ha (by simpa using hv)), ?_⟩
    unfold argFits
    rw [hg]
    exact ⟨as, rfl, h2⟩
  · have hg' : aggP P t = false := by simpa using hg
    have hc : v.cells = #[v] ∧ Cell.okWide P W r b0 t v := by
      have hs' := hs
      simp only [openT] at hs'
      split at hs'
      · rename_i k hu
        simp only [Value.okWide, hu] at hv
        refine ⟨?_, hv⟩
        cases v <;> first | rfl | (simp only [Cell.okWide, hu, Cell.ok] at hv)
      · rename_i hu
        simp only [Value.okWide, hu] at hv
        refine ⟨?_, hv⟩
        cases v <;> first | rfl | (simp only [Cell.okWide, hu, Cell.ok] at hv)
      · rename_i hu
        simp only [Value.okWide, hu] at hv
        refine ⟨?_, hv⟩
        cases v <;> first | rfl | (simp only [Cell.okWide, hu, Cell.ok] at hv)
      · rename_i e hu
        simp only [Value.okWide, hu] at hv
        refine ⟨?_, hv⟩
        cases v <;> first | rfl | (simp only [Cell.okWide, hu, Cell.ok] at hv)
      · rename_i fs hu
        simp [aggP, hu] at hg'
      · cases hs'
    rw [hc.1] at hf
    have hpl : plainS [v] := by
      intro c hc' a len cap e
      simp only [List.mem_singleton] at hc'
      subst hc'
      subst e
      exact spot_of hc.2
    obtain ⟨as, h1, h2⟩ := trod_open hE fuel 8 t ss _ _ hs hpl hf hw
    have hl := h1.1
    match as, hl with
    | [a], _ =>
      refine ⟨a, h1.2 0 a v rfl rfl, ?_⟩
      unfold argFits
      rw [hg']
      exact h2

theorem args_open {els : List Nat} (hE : ∀ e ∈ els, ElOk P C els e) {r : Reach} {b0 : Nat} {sp : Nat → Bool} : ∀ {ts : List TypeId} {vals : List Value} {ds : List (DataW H)} {p : List MemPlace} {shs : List (Bool × List Sh)}, openArgs P els ts = some shs →
    (∀ (j : Nat) t v, ts[j]? = some t → vals[j]? = some v → Value.okWide P W r b0 t v) → DataW.TrodAll enc P W 0 sp true ts vals ds p → (∀ n ∈ DataW.weightsEach P ts ds, n ≤ reachBytes) →
    ∃ as, VL C (roOf W) ρ0 as vals ∧ argsFit shs as
  | [], vals, ds, p, shs, hs, hv, ht, hw => by
    simp only [openArgs, List.mapM_nil, Option.pure_def, Option.some.injEq] at hs
    subst hs
    cases vals <;> cases ds <;> simp [DataW.TrodAll] at ht
    exact ⟨[], ⟨rfl, fun i a v h => by simp at h⟩, trivial⟩
  | t :: ts, vals, ds, p, shs, hs, hv, ht, hw => by
    obtain ⟨v, vs, d, ds', p1, q1, rfl, rfl, rfl, h1, h2⟩ := trodAll_cons ht
    simp only [openArgs, List.mapM_cons, Option.bind_eq_bind, Option.bind_eq_some_iff] at hs
    obtain ⟨x, e1, xs, e2, e3⟩ := hs
    cases e3
    obtain ⟨ss, e4, rfl⟩ := Option.map_eq_some_iff.1 e1
    obtain ⟨a, v1, f1⟩ := arg_open hE e4 (hv 0 t v rfl rfl) h1 (fun n hn => hw n (by simp only [DataW.weightsEach, List.mem_append]; exact .inl hn))
    obtain ⟨as, v2, f2⟩ := args_open hE e2 (fun j t v ht hv' => hv (j + 1) t v (by simpa using ht) (by simpa using hv')) h2 (fun n hn => hw n (by simp only [DataW.weightsEach, List.mem_append]; exact .inr hn))
    exact ⟨a :: as, .cons v1 v2, f1, f2⟩

/-- The world as it is entered: all is only read. -/
theorem rw_enter (W : World) : Rw C W.heap.size (roOf W) ρ0 [] W where
  big := Nat.le_refl _
  out := fun _ _ => rfl
  ent := fun i e h => by simp at h
  inj := fun i j b n n' h => by cases h
  lo := fun i b n h => by cases h
  room := fun i b lo hi h => by cases h
  rooms := fun i j b lo hi lo' hi' h => by cases h
  roomBlk := fun i j b lo hi n h => by cases h
  ro := fun b o v h => h
  roBlk := fun b o v i n _ h => by cases h
  roRoom := fun b o v i lo hi _ h => by cases h
  robj := fun b es ck h => by cases h

/-- A law by its contract. -/
theorem Ct.law {f : FuncId} {news : Nat} {sem : Sem1 El} (hct : Ct P C f (fsOf news sem)) {as : List (AV El)} {vals : Array Value} (hv : VL C (roOf W) ρ0 as vals.toList) {h' : List (HE El)} (hl : (sem as []).leads (.bool true) h') :
    Calls P f vals W fun e W' => e = .returned (.bool true) ∧ Below W.heap.size W W' := by
  refine ((hct.2 W.heap.size).2 (roOf W) ρ0 [] W as vals (AV El × List (HE El)) (fun v h => some (v, h)) _ (rw_enter W) hv (Rs.leads_go hl)).mono fun e W' hR => ?_
  obtain ⟨u, rfl, v, h2, H2, ρ2, hk, st, hu⟩ := hR
  cases hk
  cases hu
  refine ⟨rfl, st.pres.os, st.pres.tape, st.pres.output, st.pres.size, fun k hk => st.pres.same k hk fun o ho => ?_⟩
  rcases ho with ⟨i, n, hi⟩ | ⟨i, lo, hi, h1, _⟩
  · cases hi
  · cases h1

theorem trodAll_back {H : Type} {enc : TypeId × Value → H} {P : Program} (hl : laidOutB P = true) {W W' : World} (hb : Below W.heap.size W W') : ∀ {ts : List TypeId} {vals : List Value} {ds : List (DataW H)} {p : List MemPlace}, (∀ t ∈ ts, P.readableRec t = true ∧ t < P.types.size) →
    DataW.TrodAll enc P W 0 (fun _ => true) true ts vals ds p → DataW.TrodAll enc P W' 0 (fun b => decide (b < W.heap.size)) true ts vals ds p
  | [], vals, ds, p, _, ht => by
    cases vals <;> cases ds <;> simp [DataW.TrodAll] at ht ⊢
    exact ht
  | t :: ts, vals, ds, p, hr, ht => by
    obtain ⟨v, vs, d, ds', p1, q1, rfl, rfl, rfl, h1, h2⟩ := trodAll_cons ht
    have h1' := h1
    obtain ⟨fuel, hf⟩ := h1'
    exact ⟨p1, q1, Below.trod hl (hr t (by simp)).1 (hr t (by simp)).2 h1 hb (DataW.trod_lt fuel _ _ _ hf), trodAll_back hl hb (fun t ht => hr t (List.mem_cons_of_mem _ ht)) h2, rfl⟩
end
end Go.Ev

/- Contracts by trees: a printed tree, all of whose ways lead to what is said. Own work. -/
namespace Go.Ev
variable {El : Nat → Type}

/-- All ways of a tree lead there. -/
def Rs.all (v : AV El) (h : List (HE El)) : Rs El → Prop
  | .ret v' h' => v' = v ∧ h' = h
  | .br b x y => (b = true → x.all v h) ∧ (b = false → y.all v h)
  | .bad => False

theorem Rs.all_go {R : Type} {k : AV El → List (HE El) → Option R} {v : AV El} {h : List (HE El)} : ∀ {x : Rs El}, x.all v h → x.go k = k v h
  | .ret _ _, ⟨rfl, rfl⟩ => rfl
  | .br b x y, e => by
    have ix := @Rs.all_go R k v h x
    have iy := @Rs.all_go R k v h y
    cases b
    · exact iy (e.2 rfl)
    · exact ix (e.1 rfl)
  | .bad, e => e.elim

/-- A loop's body: on with a state, out of the loop. -/
inductive Bx (X : Type) (El : Nat → Type) where
  | next (x : X)
  | ret (sl : List (AV El)) (h : List (HE El))
  | exit (i : Nat) (sl : List (AV El)) (h : List (HE El))
  | br (b : Bool) (x y : Bx X El)
  | bad

abbrev Bx.pre {X : Type} (b : Bool) (x : Bx X El) : Bx X El := .br b x .bad

def Bx.go {X R : Type} (st : X → List (AV El)) (hp : X → List (HE El)) (K kR : List (AV El) → List (HE El) → Option R) (kE : Nat → List (AV El) → List (HE El) → Option R) : Bx X El → Option R
  | .next x => K (st x) (hp x)
  | .ret sl h => kR sl h
  | .exit i sl h => kE i sl h
  | .br b x y => bif b then x.go st hp K kR kE else y.go st hp K kR kE
  | .bad => none

/-- One round does what is said: it goes on with less, or leaves as is said. -/
def Bx.sat {X : Type} (inv : X → Prop) (μ : X → Nat) (out : X → Ex El) (x0 : X) : Bx X El → Prop
  | .next x => inv x ∧ μ x < μ x0 ∧ ∀ (R : Type) (kR : List (AV El) → List (HE El) → Option R) (kE : Nat → List (AV El) → List (HE El) → Option R), (out x).out kR kE = (out x0).out kR kE
  | .ret sl h => ∀ (R : Type) (kR : List (AV El) → List (HE El) → Option R) (kE : Nat → List (AV El) → List (HE El) → Option R), (out x0).out kR kE = kR sl h
  | .exit i sl h => ∀ (R : Type) (kR : List (AV El) → List (HE El) → Option R) (kE : Nat → List (AV El) → List (HE El) → Option R), (out x0).out kR kE = kE i sl h
  | .br b x y => (b = true → x.sat inv μ out x0) ∧ (b = false → y.sat inv μ out x0)
  | .bad => False

theorem Bx.sat_go {X R : Type} {st : X → List (AV El)} {hp : X → List (HE El)} {inv : X → Prop} {μ : X → Nat} {out : X → Ex El} {x0 : X} {K kR : List (AV El) → List (HE El) → Option R} {kE : Nat → List (AV El) → List (HE El) → Option R}
    (hK : ∀ x, inv x → μ x < μ x0 → K (st x) (hp x) = (out x).out kR kE) : ∀ {b : Bx X El}, b.sat inv μ out x0 → b.go st hp K kR kE = (out x0).out kR kE
  | .next x, ⟨h1, h2, h3⟩ => (hK x h1 h2).trans (h3 R kR kE)
  | .ret _ _, e => (e R kR kE).symm
  | .exit _ _ _, e => (e R kR kE).symm
  | .br b x y, e => by
    have ix := @Bx.sat_go X R st hp inv μ out x0 K kR kE hK x
    have iy := @Bx.sat_go X R st hp inv μ out x0 K kR kE hK y
    cases b
    · exact iy (e.2 rfl)
    · exact ix (e.1 rfl)
  | .bad, e => e.elim

/-- A loop's contract by its body's tree. -/
theorem LoopOk.tree {C : Cx El} {m : Nat} {hs : Nat → Option Hint} {lp : Nat → Option (LP El)} {fuel : Nat} {body : Code} {d : LPd El} {X : Type} (st : X → List (AV El)) (hp : X → List (HE El)) (inv : X → Prop) (out : X → Ex El) (μ : X → Nat) (tr : X → Bx X El)
    (hd : ∀ (R : Type) (kR : List (AV El) → List (HE El) → Option R) (kE : Nat → List (AV El) → List (HE El) → Option R) (vs : List (AV El)) (h : List (HE El)) (r : R), (d.spec vs h).out kR kE = some r →
      ∃ x, inv x ∧ mkS d.n 0 d.ps vs = st x ∧ h = hp x ∧ (out x).out kR kE = some r)
    (step : ∀ x, inv x → ∀ (R : Type) (K kR : List (AV El) → List (HE El) → Option R) (kE : Nat → List (AV El) → List (HE El) → Option R), evC C m hs lp fuel body (fun sl h => cleanAt m hs (firstId body + 1000000) sl h K) kR kE (st x) (hp x) = (tr x).go st hp K kR kE)
    (sat : ∀ x, inv x → (tr x).sat inv μ out x) : LoopOk C m hs lp fuel body d := by
  intro R kR kE vs h r hr
  obtain ⟨x, h1, h2, rfl, h4⟩ := hd R kR kE vs h r hr
  rw [h2, ← h4]
  refine rounds_inv (S := X) st hp (fun x => (out x).out kR kE) μ inv ?_ x h1
  intro s hs' K hK
  exact (step s hs' R K kR kE).trans (Bx.sat_go hK (sat s hs'))

/-- An evaluation by its tree. -/
theorem EvOk.tree {C : Cx El} {l : List (Nat × FS El)} {fn : Func} {args : List (AV El)} {h : List (HE El)} {v : AV El} {h' : List (HE El)} {hs : Nat → Option Hint} {L : Leave} {fuel : Nat} {t : Rs El}
    (e : ∀ (R : Type) (k : AV El → List (HE El) → Option R), evF (C.withFn (fnL l)) hs (lpT []) L fuel fn.ntmps fn.results.toList (fn.body.getD .skip) args h k = t.go k) (ht : t.all v h') : EvOk C l fn args h v h' :=
  ⟨hs, lpT [], L, fuel, fun _ _ _ h => by simp [lpT] at h, fun R k => (e R k).trans (Rs.all_go ht)⟩

theorem EvOk.treeL {C : Cx El} {l : List (Nat × FS El)} {fn : Func} {args : List (AV El)} {h : List (HE El)} {v : AV El} {h' : List (HE El)} {hs : Nat → Option Hint} {tbl : List (Nat × LPd El)} {L : Leave} {fuel : Nat} {t : Rs El}
    (e : ∀ (R : Type) (k : AV El → List (HE El) → Option R), evF (C.withFn (fnL l)) hs (lpT tbl) L fuel fn.ntmps fn.results.toList (fn.body.getD .skip) args h k = t.go k)
    (hk : noDup ((loopsOf (fn.body.getD .skip)).map firstId) = true)
    (hl : ∀ p ∈ tbl, LoopOk (C.withFn (fnL l)) h.length hs (lpT tbl) fuel (loopBody (fn.body.getD .skip) p.1) p.2) (ht : t.all v h') : EvOk C l fn args h v h' :=
  ⟨hs, lpT tbl, L, fuel, lpOk_list hk hl, fun R k => (e R k).trans (Rs.all_go ht)⟩

/-- A function by its own evaluation. -/
def fsI (C : Cx El) (l : List (Nat × FS El)) (fn : Func) (hs : Nat → Option Hint) (L : Leave) (fuel : Nat) : FS El :=
  ⟨L.news, fun {R} args h k => evF (R := R) (C.withFn (fnL l)) hs (lpT []) L fuel fn.ntmps fn.results.toList (fn.body.getD .skip) args h k⟩

theorem Ct.inl {P : Program} {C : Cx El} (hB : BaseOk P C) {f : FuncId} {fn : Func} (hf : P.funcs[f]? = some fn) (hb : fn.body.isNone = false) (hnum : (fn.name == "runtime.NumGoroutine") = false) {l : List (Nat × FS El)} (hl : Cts P C l) (hs : Nat → Option Hint) (L : Leave) (fuel : Nat) : Ct P C f (fsI C l fn hs L fuel) := by
  refine ⟨nat_evF (fun f fs h => (hl.at f fs h).1) _ _ (fun i L h => by simp [lpT] at h) _ _ _ _ _, fun base => ?_⟩
  have hb' : fn.body = some (fn.body.getD .skip) := by
    cases e : fn.body with
    | none => rw [e] at hb; cases hb
    | some c => rfl
  exact SoundF.ofEv hf hb' hnum (hB.cx hl base) (hB.draw hl base) fun H ρ h args vals R k r hv hp => ⟨args, hs, lpT [], L, fuel, hv, fun _ _ _ h => by simp [lpT] at h, hp⟩

/-! What is known of arguments -/
mutual
def AV.ok : AV El → Prop
  | .int k n => k.min ≤ n ∧ n ≤ k.max
  | .str s => s.length ≤ 281474976710656
  | .bytes _ s => s.length ≤ 281474976710656
  | .list _ _ l => l.length ≤ 281474976710656
  | .agg cs => okL cs
  | .tup cs => okL cs
  | _ => True
def okL : List (AV El) → Prop
  | [] => True
  | v :: vs => v.ok ∧ okL vs
end

theorem okL_of : ∀ {cs : List (AV El)}, (∀ (i : Nat) a, cs[i]? = some a → a.ok) → okL cs
  | [], _ => trivial
  | c :: cs, h => ⟨h 0 c rfl, okL_of fun i a ha => h (i + 1) a ha⟩

theorem V.ok {C : Cx El} {H : RO} {ρ : Nat → RE} {a : AV El} {v : Value} (h : V C H ρ a v) : a.ok := by
  induction h with
  | int ρ k n h =>
    simp only [AV.ok]
    simpa [inR] using h
  | str ρ b hb => simp only [AV.ok]; exact hb
  | bytesN ρ f h => simp [AV.ok]
  | bytes ρ f s b o cap hf hc h => simp only [AV.ok]; exact hc.2
  | listN ρ f c h => simp [AV.ok]
  | list ρ f c l b o cap vs hf hc h1 h2 ih => simp only [AV.ok]; exact hc.2
  | agg ρ cs vs h1 h2 ih =>
    simp only [AV.ok]
    refine okL_of fun i a ha => ?_
    have hi : i < vs.size := by rw [← h1]; exact (List.getElem?_eq_some_iff.1 ha).1
    exact ih i a vs[i] ha (Array.getElem?_eq_getElem hi)
  | tup ρ cs vs h1 h2 ih =>
    simp only [AV.ok]
    refine okL_of fun i a ha => ?_
    have hi : i < vs.size := by rw [← h1]; exact (List.getElem?_eq_some_iff.1 ha).1
    exact ih i a vs[i] ha (Array.getElem?_eq_getElem hi)
  | _ => simp only [AV.ok]

theorem VL.ok {C : Cx El} {H : RO} {ρ : Nat → RE} {as : List (AV El)} {vs : List Value} (h : VL C H ρ as vs) : okL as := by
  refine okL_of fun i a ha => ?_
  have hi : i < vs.length := by rw [← h.1]; exact (List.getElem?_eq_some_iff.1 ha).1
  exact (h.2 i a vs[i] ha (List.getElem?_eq_getElem hi)).ok

/-! Words of printed trees -/
def iand (k : IntKind) (a b : Int) : Int := k.wrap (BitVec.ofInt k.bits a &&& BitVec.ofInt k.bits b).toNat
def ior (k : IntKind) (a b : Int) : Int := k.wrap (BitVec.ofInt k.bits a ||| BitVec.ofInt k.bits b).toNat
def ixor (k : IntKind) (a b : Int) : Int := k.wrap (BitVec.ofInt k.bits a ^^^ BitVec.ofInt k.bits b).toNat
def iandn (k : IntKind) (a b : Int) : Int := k.wrap (BitVec.ofInt k.bits a &&& ~~~BitVec.ofInt k.bits b).toNat
def cutB {α : Type} (s : List α) (a b : Int) : List α := (s.take b.toNat).drop a.toNat

theorem cutB_all {α : Type} (s : List α) : cutB s 0 (s.length : Int) = s := by simp [cutB]
theorem cutB_to {α : Type} (s : List α) (b : Int) : cutB s 0 b = s.take b.toNat := by simp [cutB]
theorem cutB_from {α : Type} (s : List α) (a : Int) : cutB s a (s.length : Int) = s.drop a.toNat := by simp [cutB]
theorem inl_not {i : Int} {n : Nat} : inl i n = false ↔ ¬ (0 ≤ i ∧ i < n) := by rw [← inl_iff, Bool.not_eq_true]
theorem inside_not {a b m n : Int} : inside a b m n = false ↔ ¬ (0 ≤ a ∧ a ≤ b ∧ b ≤ n ∧ b = m) := by rw [← inside_iff, Bool.not_eq_true]
theorem nble_iff {a b : Nat} : Nat.ble a b = true ↔ a ≤ b := ⟨Nat.le_of_ble_eq_true, Nat.ble_eq_true_of_le⟩
theorem nble_not {a b : Nat} : Nat.ble a b = false ↔ ¬ a ≤ b := by rw [← nble_iff, Bool.not_eq_true]
theorem nblt_iff {a b : Nat} : Nat.blt a b = true ↔ a < b := nble_iff
theorem nblt_not {a b : Nat} : Nat.blt a b = false ↔ ¬ a < b := nble_not
end Go.Ev
namespace Go.Ev
/-- What a printed tree's conditions mean, in one word for simp. -/
theorem std0 : (∀ (p : Prop) [Decidable p], (decide p = true) = p) ∧ (∀ (p : Prop) [Decidable p], (decide p = false) = ¬p) ∧ (∀ (i : Int) (n : Nat), (inl i n = true) = (0 ≤ i ∧ i < n)) ∧ (∀ (i : Int) (n : Nat), (inl i n = false) = ¬(0 ≤ i ∧ i < n)) ∧
    (∀ a b m n : Int, (inside a b m n = true) = (0 ≤ a ∧ a ≤ b ∧ b ≤ n ∧ b = m)) ∧ (∀ a b m n : Int, (inside a b m n = false) = ¬(0 ≤ a ∧ a ≤ b ∧ b ≤ n ∧ b = m)) ∧
    (∀ a b : Nat, (Nat.ble a b = true) = (a ≤ b)) ∧ (∀ a b : Nat, (Nat.ble a b = false) = ¬(a ≤ b)) ∧ (∀ a b : Nat, (Nat.blt a b = true) = (a < b)) ∧ (∀ a b : Nat, (Nat.blt a b = false) = ¬(a < b)) ∧
    (∀ a b : Bool, ((a && b) = true) = (a = true ∧ b = true)) ∧ (∀ a b : Bool, ((a || b) = true) = (a = true ∨ b = true)) ∧ (∀ a b : Bool, ((a && b) = false) = (a = true → b = false)) ∧ (∀ a b : Bool, ((a || b) = false) = (a = false ∧ b = false)) ∧
    (∀ a : Bool, ((!a) = true) = (a = false)) ∧ (∀ a : Bool, ((!a) = false) = (a = true)) ∧ (∀ p : Prop, (p ∧ True) = p) ∧ (∀ p : Prop, (True ∧ p) = p) := by
  refine ⟨?_, ?_, ?_, ?_, ?_, ?_, ?_, ?_, ?_, ?_, ?_, ?_, ?_, ?_, ?_, ?_, ?_, ?_⟩
  all_goals intros
  all_goals first
    | (simp; done)
    | (simp only [inl_iff]; done)
    | (simp only [inl_not]; done)
    | (simp only [inside_iff]; done)
    | (simp only [inside_not]; done)
    | (simp only [nble_iff, nble_not, nblt_iff, nblt_not]; done)

theorem stdA {El : Nat → Type} : (∀ (k k' : IntKind) (a b : Int), ((AV.int k a : AV El) = .int k' b) = (k = k' ∧ a = b)) ∧ (∀ a b : Bool, ((AV.bool a : AV El) = .bool b) = (a = b)) ∧ (∀ a b : List UInt8, ((AV.str a : AV El) = .str b) = (a = b)) ∧ (∀ a b : List (AV El), (AV.tup a = .tup b) = (a = b)) ∧ (∀ a b : List (AV El), (AV.agg a = .agg b) = (a = b)) ∧
    (∀ (x y : AV El) (a b : List (AV El)), (x :: a = y :: b) = (x = y ∧ a = b)) ∧ (∀ (x y : HE El) (a b : List (HE El)), (x :: a = y :: b) = (x = y ∧ a = b)) ∧ (∀ a b : List (AV El), (HE.blk a = .blk b) = (a = b)) ∧ (∀ (f g : Fl) (a b : List UInt8), ((AV.bytes f a : AV El) = .bytes g b) = (f = g ∧ a = b)) := by
  refine ⟨?_, ?_, ?_, ?_, ?_, ?_, ?_, ?_, ?_⟩ <;> intros <;> simp
end Go.Ev

/- A map that a call makes, and that nobody writes again. Own work. -/
namespace Go.Ev
variable {El : Nat → Type} {P : Program} {C : Cx El}

/-- The first of a key. -/
def kvGet {α : Type} : List (Int × α) → Int → Option α
  | [], _ => none
  | (k, x) :: r, n => if n = k then some x else kvGet r n

def kvE (C : Cx El) (c : Nat) (kv : List (Int × El c)) : List (AV El × AV El) := kv.map fun p => (.int .i64 p.1, .agg (C.lay.cells c p.2))

theorem findA_kv {c : Nat} (n : Int) : ∀ kv : List (Int × El c), findA (.int .i64 n) .junk (fun v b => some (v, b)) (kvE C c kv) = some (match kvGet kv n with
    | some x => (.agg (C.lay.cells c x), true)
    | none => (.junk, false))
  | [] => rfl
  | (k, x) :: r => by
    have ih := findA_kv n r
    simp only [kvE] at ih
    simp only [kvE, List.map_cons, findA, eq1, if_true]
    by_cases h : n = k
    · simp [kvGet, h]
    · simp only [h, decide_false, kvGet, if_false]
      exact ih

theorem Ct.freeze {c : Nat} (hof : ∀ x, C.lay.ofCells c (C.lay.cells c x) = some x) (hlen : ∀ x, (C.lay.cells c x).length = C.lay.w c) (hL : LOk C) (kv : List (Int × El c)) {f : FuncId} {sem : Sem1 El} (hc : Ct P C f (fsOf 1 sem)) (hs : sem [] [] = .ret (.map 0) [.map (kvE C c kv)]) :
    Ct P C f (fsOf 0 (fun args h => match args, h with
      | [], [] => .ret (.fmap c true (kvGet kv)) []
      | _, _ => .bad)) := by
  refine ⟨natF_fsOf _ _, fun base => ⟨(hc.2 base).1, fun H ρ h w args vals R k r q hv hp => ?_⟩⟩
  simp only [fsOf] at hp
  split at hp
  case h_2 => cases hp
  simp only [Rs.go] at hp
  have := (hc.2 base).2 H ρ [] w [] vals (AV El × List (HE El)) (fun v h => some (v, h)) (AV.map 0, [HE.map (kvE C c kv)]) q hv (by simp only [fsOf, hs, Rs.go])
  refine this.mono fun e w' hR => ?_
  obtain ⟨u, he, v, h', H', ρ', hk, s, hu⟩ := hR
  cases hk
  cases hu with
  | map _ _ b n hb =>
    have hent : EntOk C H' ρ' w' (.map (kvE C c kv)) (ρ' 0) := s.rw.ent 0 _ rfl
    obtain ⟨b', arr, ck, h1, h2, h3, h4⟩ := hent
    rw [hb] at h1
    cases h1
    have hnone : ∀ i, ρ i = .none := fun i => q.out i (by simp)
    have hnew : w.heap.size ≤ b := by
      rcases Nat.lt_or_ge b w.heap.size with hlt | hge
      · rcases s.shrink b 0 hlt (.inl ⟨0, 0, hb⟩) with ⟨i, n, hi⟩ | ⟨i, lo, hi, h5, _⟩
        · rw [hnone i] at hi; cases hi
        · rw [hnone i] at h5; cases h5
      · exact hge
    let H2 : RO := { H' with obj := fun b' => if b' = b then some (arr, ck) else H'.obj b' }
    have hob : ∀ b' x, H'.obj b' = some x → H2.obj b' = some x := by
      intro b' x hx
      have hne : b' ≠ b := by
        rintro rfl
        obtain ⟨es, ck'⟩ := x
        exact (s.rw.robj b' es ck' hx).2 0 0 hb
      simp only [H2, if_neg hne]
      exact hx
    have hx2 : Ext H H2 ρ ρ0 := ⟨s.ext.cell, fun b' x hx => hob _ _ (s.ext.obj _ _ hx), fun i hi => absurd (hnone i) hi⟩
    have hrw : Rw C base H2 ρ0 [] w' := {
      big := s.rw.big
      out := fun _ _ => rfl
      ent := fun i e h => by simp at h
      inj := fun i j b n n' h => by cases h
      lo := fun i b n h => by cases h
      room := fun i b lo hi h => by cases h
      rooms := fun i j b lo hi lo' hi' h => by cases h
      roomBlk := fun i j b lo hi n h => by cases h
      ro := fun b o v h => s.rw.ro b o v h
      roBlk := fun b o v i n _ h => by cases h
      roRoom := fun b o v i lo hi _ h => by cases h
      robj := fun b' es ck' hb' => by
        refine ⟨?_, fun i n h => by cases h⟩
        simp only [H2] at hb'
        split at hb'
        · rename_i e; subst e; cases hb'; exact h2
        · exact (s.rw.robj b' es ck' hb').1 }
    refine ⟨_, he, _, _, H2, ρ0, hp, ⟨hx2, hrw, s.pres, fun b' o _ ht => ?_, fun b' o v hb' hv' => s.nro b' o v hb' hv', fun b' x hb' hx => ?_⟩, ?_⟩
    · rcases ht with ⟨i, n, hi⟩ | ⟨i, lo, hi, h5, _⟩
      · cases hi
      · cases h5
    · simp only [H2] at hx
      split at hx
      · rename_i e; subst e; omega
      · exact s.nobj b' x hb' hx
    · have hfind : ∀ n : Int, (∃ x i u, kvGet kv n = some x ∧ Instr.findNow (.int .i64) (.int .i64 n) arr.toList 0 = some (some (i, u)) ∧ V C H' ρ' (.agg (C.lay.cells c x)) u) ∨
          (kvGet kv n = Option.none ∧ Instr.findNow (.int .i64) (.int .i64 n) arr.toList 0 = some Option.none) := by
        intro n
        have hp2 := findA_ok (C := C) (H := H') (ρ := ρ') (kk := .i64) (kt := .i64) (n := n) (zero := .junk) (kf := fun v b => some (v, b)) (es := kvE C c kv) (ents := arr.toList) 0 (by simpa using h3) (fun j x a e hx he => h4 j x a e hx (by simpa using he)) (findA_kv n kv)
        cases hg : kvGet kv n with
        | none =>
          rw [hg] at hp2
          rcases hp2 with ⟨i, u, v, _, _, e⟩ | ⟨e, _⟩
          · cases e
          · exact .inr ⟨rfl, e⟩
        | some x =>
          rw [hg] at hp2
          rcases hp2 with ⟨i, u, v, e1, e2, e3⟩ | ⟨_, e⟩
          · cases e3; exact .inl ⟨x, i, u, rfl, e1, e2⟩
          · cases e
      let vs : Int → Value := fun n => match Instr.findNow (.int .i64) (.int .i64 n) arr.toList 0 with
        | some (some (_, v)) => v
        | _ => undef
      have hvs : ∀ n x, kvGet kv n = some x → ∃ (i : Nat) (us : Array Value), Instr.findNow (.int .i64) (.int .i64 n) arr.toList 0 = some (some (i, .agg us)) ∧ vs n = .agg us ∧ us.size = C.lay.w c ∧ ∀ (j : Nat) a, (C.lay.cells c x)[j]? = some a → V C H2 ρ0 a (us.getD j undef) := by
        intro n x hx
        rcases hfind n with ⟨x', i, u, e1, e2, e3⟩ | ⟨e1, _⟩
        · rw [hx] at e1
          cases e1
          cases e3 with
          | agg _ _ us hl hcs =>
            refine ⟨i, us, e2, by simp only [vs, e2], by rw [← hl]; exact hlen x, fun j a ha => ?_⟩
            have hVL : VL C H2 ρ' (C.lay.cells c x) us.toList := ⟨by simpa using hl, fun j a v ha hv => (hcs j a v ha (by simpa using hv)).ext ⟨fun _ _ _ h => h, hob, fun i _ => .inl rfl⟩⟩
            have h5 := hL.of c _ x (hof x) H2 ρ' us.toList hVL
            have hj : j < us.size := by rw [← hl]; exact (List.getElem?_eq_some_iff.1 ha).1
            refine h5.2 j a _ ha ?_
            rw [Array.getElem?_toList, Array.getElem?_eq_getElem hj, Array.getD_eq_getD_getElem?, Array.getElem?_eq_getElem hj]
            rfl
        · rw [hx] at e1; cases e1
      refine .fmap _ _ _ _ b arr ck vs (fun n j => (match vs n with | .agg us => us.getD j undef | _ => undef)) (by simp [H2]) (fun n x _ hx => ?_) (fun n _ hx => ?_) (fun n x hx => ?_) fun n x j a hx ha => ?_
      · obtain ⟨i, us, e1, e2, _⟩ := hvs n x hx
        exact ⟨i, by rw [e2]; exact e1⟩
      · rcases hfind n with ⟨x', i, u, e1, _⟩ | ⟨_, e2⟩
        · rw [hx] at e1; cases e1
        · exact e2
      · obtain ⟨i, us, e1, e2, e3, _⟩ := hvs n x hx
        simp only [e2, if_true]
        congr 1
        apply Array.ext
        · simp [e3]
        · intro j h1 h2
          simp [Array.getD_eq_getD_getElem?, Array.getElem?_eq_getElem h1]
      · obtain ⟨i, us, e1, e2, _, e4⟩ := hvs n x hx
        simp only [e2]
        exact e4 j a ha
end Go.Ev

/- Bits of whole numbers that are not negative. Own work. -/
namespace Go.Ev

theorem ofInt_toNat {w : Nat} {a : Int} (h0 : 0 ≤ a) (h1 : a < 2 ^ w) : (BitVec.ofInt w a).toNat = a.toNat := by
  rw [BitVec.toNat_ofInt]
  have : a % ((2 ^ w : Nat) : Int) = a := Int.emod_eq_of_lt h0 (by simpa using h1)
  rw [this]

theorem wrap_u64_nat {n : Nat} (h : n < 2 ^ 64) : IntKind.u64.wrap (n : Int) = n := by rw [wrap_u64]; omega
theorem wrap_u8_nat {n : Nat} (h : n < 2 ^ 8) : IntKind.u8.wrap (n : Int) = n := by rw [wrap_u8]; omega
theorem wrap_i64_nat {n : Nat} (h : n < 2 ^ 63) : IntKind.i64.wrap (n : Int) = n := wrap_i64 (by omega) (by omega)

theorem ior_u64 {a b : Int} (ha : 0 ≤ a) (ha' : a < 18446744073709551616) (hb : 0 ≤ b) (hb' : b < 18446744073709551616) : ior .u64 a b = ((a.toNat ||| b.toNat : Nat) : Int) := by
  unfold ior
  show IntKind.u64.wrap ((BitVec.ofInt 64 a ||| BitVec.ofInt 64 b).toNat : Int) = _
  rw [BitVec.toNat_or, ofInt_toNat ha (by omega), ofInt_toNat hb (by omega)]
  exact wrap_u64_nat (Nat.or_lt_two_pow (by omega) (by omega))

theorem iand_u64 {a b : Int} (ha : 0 ≤ a) (ha' : a < 18446744073709551616) (hb : 0 ≤ b) (hb' : b < 18446744073709551616) : iand .u64 a b = ((a.toNat &&& b.toNat : Nat) : Int) := by
  unfold iand
  show IntKind.u64.wrap ((BitVec.ofInt 64 a &&& BitVec.ofInt 64 b).toNat : Int) = _
  rw [BitVec.toNat_and, ofInt_toNat ha (by omega), ofInt_toNat hb (by omega)]
  exact wrap_u64_nat (Nat.and_lt_two_pow _ (by omega))

theorem ior_i64 {a b : Int} (ha : 0 ≤ a) (ha' : a < 9223372036854775808) (hb : 0 ≤ b) (hb' : b < 9223372036854775808) : ior .i64 a b = ((a.toNat ||| b.toNat : Nat) : Int) := by
  unfold ior
  show IntKind.i64.wrap ((BitVec.ofInt 64 a ||| BitVec.ofInt 64 b).toNat : Int) = _
  rw [BitVec.toNat_or, ofInt_toNat ha (by omega), ofInt_toNat hb (by omega)]
  exact wrap_i64_nat (Nat.or_lt_two_pow (by omega) (by omega))

theorem iand_i64 {a b : Int} (ha : 0 ≤ a) (ha' : a < 9223372036854775808) (hb : 0 ≤ b) (hb' : b < 9223372036854775808) : iand .i64 a b = ((a.toNat &&& b.toNat : Nat) : Int) := by
  unfold iand
  show IntKind.i64.wrap ((BitVec.ofInt 64 a &&& BitVec.ofInt 64 b).toNat : Int) = _
  rw [BitVec.toNat_and, ofInt_toNat ha (by omega), ofInt_toNat hb (by omega)]
  exact wrap_i64_nat (Nat.and_lt_two_pow _ (by omega))

/-- A byte laid behind. -/
theorem ior_byte {a b : Int} (ha : 0 ≤ a) (ha' : a < 72057594037927936) (hb : 0 ≤ b) (hb' : b < 256) : ior .u64 (a * 256) b = a * 256 + b := by
  rw [ior_u64 (by omega) (by omega) hb (by omega)]
  have e : (a * 256).toNat = 2 ^ 8 * a.toNat := by omega
  have := Nat.two_pow_add_eq_or_of_lt (i := 8) (b := b.toNat) (by omega) a.toNat
  rw [e, ← this]
  omega

theorem iand_mask {a : Int} (k : Nat) (ha : 0 ≤ a) (ha' : a < 9223372036854775808) (hk : k < 63) : iand .i64 a (2 ^ k - 1) = a % 2 ^ k := by
  have h2 : (0 : Int) < 2 ^ k := Int.pow_pos (by decide)
  have h3 : (2 : Int) ^ k < 9223372036854775808 := by
    have : (2 : Int) ^ k < 2 ^ 63 := Int.pow_lt_pow_of_lt (by decide) hk
    omega
  rw [iand_i64 ha ha' (by omega) (by omega)]
  have e : ((2 : Int) ^ k - 1).toNat = 2 ^ k - 1 := by
    have : ((2 ^ k : Nat) : Int) = (2 : Int) ^ k := by simp
    omega
  rw [e, Nat.and_two_pow_sub_one_eq_mod]
  rw [Int.natCast_emod, Int.toNat_of_nonneg ha]
  simp
end Go.Ev
namespace Go.Ev
theorem cutB_add {α : Type} {s : List α} {a n : Int} (h0 : 0 ≤ a) (h1 : 0 ≤ n) : cutB s a (a + n) = (s.drop a.toNat).take n.toNat := by
  unfold cutB
  rw [List.drop_take]
  congr 1
  omega
end Go.Ev

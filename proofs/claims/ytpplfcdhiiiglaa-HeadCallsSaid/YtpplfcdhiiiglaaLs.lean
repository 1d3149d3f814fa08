/- Lists compared; packets. Own work. -/
import Derived.Test.YtpplfcdhiiiglaaHp
namespace Go.Ev.Pl

def intEq (x y : Int) : Bool := decide (x = y)
def propEq (x y : PropV) : Bool := decide (x.id = y.id) && (decide (x.n = y.n) && (decide (x.text = y.text) && (decide (x.value = y.value) && true)))
def filterEq (x y : FilterV) : Bool := decide (x.topic = y.topic) && (decide (x.qos = y.qos) && ((x.noLocal == y.noLocal) && ((x.asPub == y.asPub) && (decide (x.handling = y.handling) && true))))

theorem propEq_iff {x y : PropV} : propEq x y = true ↔ x = y := by
  cases x; cases y; simp [propEq]
theorem filterEq_iff {x y : FilterV} : filterEq x y = true ↔ x = y := by
  cases x; cases y; simp [filterEq]

/-- Element by element. -/
def restEq {α : Type} (eq : α → α → Bool) : List α → List α → Bool
  | x :: a, y :: b => eq x y && restEq eq a b
  | _, _ => true

def listEq {α : Type} (eq : α → α → Bool) (a b : List α) : Bool := decide ((a.length : Int) = b.length) && restEq eq a b

theorem restEq_step {α : Type} {eq : α → α → Bool} {a b : List α} {i : Nat} {d : α} (ha : i < a.length) (hb : i < b.length) : restEq eq (a.drop i) (b.drop i) = (eq (a.getD i d) (b.getD i d) && restEq eq (a.drop (i + 1)) (b.drop (i + 1))) := by
  rw [List.drop_eq_getElem_cons ha, List.drop_eq_getElem_cons hb, List.getD_eq_getElem?_getD, List.getD_eq_getElem?_getD, List.getElem?_eq_getElem ha, List.getElem?_eq_getElem hb]
  rfl

theorem restEq_end {α : Type} {eq : α → α → Bool} {a b : List α} {i : Nat} (ha : a.length ≤ i) : restEq eq (a.drop i) (b.drop i) = true := by
  rw [List.drop_eq_nil_of_le ha]
  rfl

theorem listEq_iff {α : Type} {eq : α → α → Bool} (h : ∀ x y, eq x y = true ↔ x = y) : ∀ {a b : List α}, listEq eq a b = true ↔ a = b := by
  have key : ∀ {a b : List α}, a.length = b.length → (restEq eq a b = true ↔ a = b) := by
    intro a
    induction a with
    | nil => intro b hl; cases b with
      | nil => simp [restEq]
      | cons _ _ => simp at hl
    | cons x a ih => intro b hl; cases b with
      | nil => simp at hl
      | cons y b =>
        simp only [restEq, Bool.and_eq_true, h, List.cons.injEq]
        rw [ih (by simpa using hl)]
  intro a b
  simp only [listEq, Bool.and_eq_true, decide_eq_true_eq]
  constructor
  · rintro ⟨h1, h2⟩
    exact (key (by omega)).1 h2
  · rintro rfl
    exact ⟨rfl, (key rfl).2 rfl⟩

def invEq {α : Type} (a b : List α) (i : Int) : Bool := decide (0 ≤ i) && decide (i ≤ a.length) && decide (a.length = b.length) && decide (a.length ≤ 281474976710656)
theorem invEq_iff {α : Type} {a b : List α} {i : Int} : invEq a b i = true ↔ 0 ≤ i ∧ i ≤ a.length ∧ a.length = b.length ∧ a.length ≤ 281474976710656 := by simp [invEq, and_assoc]

def intsEq (a b : List Int) : Bool := listEq intEq a b
def propsEq (a b : List PropV) : Bool := listEq propEq a b
def filtersEq (a b : List FilterV) : Bool := listEq filterEq a b
def restI (a b : List Int) (i : Int) : Bool := restEq intEq (a.drop i.toNat) (b.drop i.toNat)
def restP (a b : List PropV) (i : Int) : Bool := restEq propEq (a.drop i.toNat) (b.drop i.toNat)
def restF (a b : List FilterV) (i : Int) : Bool := restEq filterEq (a.drop i.toNat) (b.drop i.toNat)

def willEq (x y : WillV) : Bool := decide (x.topic = y.topic) && decide (x.payload = y.payload) && decide (x.qos = y.qos) && (x.retain == y.retain) && propsEq x.props y.props

theorem willEq_iff {x y : WillV} : willEq x y = true ↔ x = y := by
  cases x; cases y
  simp [willEq, propsEq, listEq_iff (fun _ _ => propEq_iff), and_assoc]

theorem intsEq_iff {a b : List Int} : intsEq a b = true ↔ a = b := listEq_iff (fun _ _ => by simp [intEq])
theorem propsEq_iff {a b : List PropV} : propsEq a b = true ↔ a = b := listEq_iff (fun _ _ => propEq_iff)
theorem filtersEq_iff {a b : List FilterV} : filtersEq a b = true ↔ a = b := listEq_iff (fun _ _ => filterEq_iff)

/-- Are packets the same? -/
noncomputable def pktEq (x y : PacketV) : Bool := @decide (x = y) (Classical.propDecidable _)
theorem pktEq_iff {x y : PacketV} : pktEq x y = true ↔ x = y := by simp [pktEq]
theorem eq_willEq {b : Bool} {x y : WillV} : (b = willEq x y) ↔ (b = true ↔ x = y) := by rw [Bool.eq_iff_iff, willEq_iff]
theorem eq_pktEq {b : Bool} {x y : PacketV} : (b = pktEq x y) ↔ (b = true ↔ x = y) := by rw [Bool.eq_iff_iff, pktEq_iff]
theorem eq_propEq {b : Bool} {x y : PropV} : (b = propEq x y) ↔ (b = true ↔ x = y) := by rw [Bool.eq_iff_iff, propEq_iff]
end Go.Ev.Pl

/- What is light. Own work. -/
import Derived.Test.YtpplfcdhiiiglaaLs
namespace Go.Ev.Pl

def wtOk (l : List PropV) : Bool := l.all fun x => decide (x.text.length ≤ 281474976710656) && decide (x.value.length ≤ 281474976710656)

theorem wtOk_iff {l : List PropV} : wtOk l = true ↔ ∀ x ∈ l, x.text.length ≤ 281474976710656 ∧ x.value.length ≤ 281474976710656 := by simp [wtOk]

def weightP : List PropV → Int
  | [] => 0
  | x :: l => x.text.length + x.value.length + weightP l

def invWt (l : List PropV) (n i : Int) : Bool := decide (0 ≤ i) && decide (i ≤ l.length) && decide (l.length ≤ 1010) && decide (0 ≤ n) && decide (n ≤ i * 562949953421312) && wtOk l
theorem invWt_iff {l : List PropV} {n i : Int} : invWt l n i = true ↔ 0 ≤ i ∧ i ≤ l.length ∧ l.length ≤ 1010 ∧ 0 ≤ n ∧ n ≤ i * 562949953421312 ∧ wtOk l = true := by simp [invWt, and_assoc]

theorem weightP_drop {l : List PropV} {i : Nat} (h : i < l.length) : weightP (l.drop i) = (l.getD i .none).text.length + (l.getD i .none).value.length + weightP (l.drop (i + 1)) := by
  rw [List.drop_eq_getElem_cons h, List.getD_eq_getElem?_getD, List.getElem?_eq_getElem h]
  rfl

def lightProps (l : List PropV) : Bool := decide ((l.length : Int) ≤ 1010) && decide (weightP l ≤ 140000)

def topicsF : List FilterV → Int
  | [] => 0
  | x :: l => x.topic.length + topicsF l

theorem topicsF_drop {l : List FilterV} {i : Nat} (h : i < l.length) : topicsF (l.drop i) = (l.getD i .none).topic.length + topicsF (l.drop (i + 1)) := by
  rw [List.drop_eq_getElem_cons h, List.getD_eq_getElem?_getD, List.getElem?_eq_getElem h]
  rfl

def ftOk (l : List FilterV) : Bool := l.all fun x => decide (x.topic.length ≤ 281474976710656)
theorem ftOk_iff {l : List FilterV} : ftOk l = true ↔ ∀ x ∈ l, x.topic.length ≤ 281474976710656 := by simp [ftOk]

def invLp (l : List FilterV) (n i : Int) : Bool := decide (0 ≤ i) && decide (i ≤ l.length) && decide (l.length ≤ 60) && decide (0 ≤ n) && decide (n ≤ (i + 8) * 562949953421312) && ftOk l
theorem invLp_iff {l : List FilterV} {n i : Int} : invLp l n i = true ↔ 0 ≤ i ∧ i ≤ l.length ∧ l.length ≤ 60 ∧ 0 ≤ n ∧ n ≤ (i + 8) * 562949953421312 ∧ ftOk l = true := by simp [invLp, and_assoc]

def textsP (p : PacketV) : Int := p.topic.length + p.payload.length + p.client.length + p.user.length + p.pass.length + p.will.topic.length + p.will.payload.length

def lightPkt (p : PacketV) : Bool :=
  lightProps p.props && lightProps p.will.props && decide ((p.codes.length : Int) ≤ 60) && decide ((p.filters.length : Int) ≤ 60) && decide (textsP p + topicsF p.filters ≤ 140000)
end Go.Ev.Pl

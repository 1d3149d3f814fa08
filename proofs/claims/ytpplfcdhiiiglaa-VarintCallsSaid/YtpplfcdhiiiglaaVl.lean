/- The varint statements: the laws' functions, walked. Own work. -/
import Derived.Test.YtpplfcdhiiiglaaVr
import Derived.Test.YtpplfcdhiiiglaaVp
namespace Go.Ev.A
open Go.Proofs Go.Ev.Pl

set_option maxRecDepth 100000

def sem_true : Sem1 El := fun args h => match args, h with
  | [], [] => .ret (.bool true) []
  | _, _ => .bad

abbrev fs_lives02 := fsOf 0 sem_true

theorem T_lives02 (R : Type)  (k : AV El → List (HE El) → Option R) : ev [(24, fs_bytes)] Try.f13 (fun _ => none) [] L0 [] [] R k =
  k (AV.bool true) [] := by kernel_rfl

theorem c_lives02 : CT 13 fs_lives02 := by
  refine Ct.of base_ok Try.func13 rfl rfl (l := [(24, fs_bytes)]) ⟨c_bytes, trivial⟩ fun H ρ args vals h v h' hv hs => ?_
  unfold sem_true at hs
  split at hs
  · obtain ⟨rfl, rfl⟩ := hs
    exact ⟨_, hv, .plain _ fun R k => T_lives02 R k⟩
  · cases hs

/-! VarintCalls -/

def varintCalls_shs : List (Bool × List Sh) := [(false, [.int .i64]), (false, [.str])]

def sem_calls : Sem1 El := fun args h => match args, h with
  | [.int .i64 _, .str _], [] => .ret (.bool true) []
  | _, _ => .bad

abbrev l_calls : List (Nat × FS El) := [(13, fs_lives02), (24, fs_bytes), (26, fs_read), (28, fs_size), (25, fs_rbytes), (27, fs_rread), (29, fs_rsize)]

theorem T_calls (R : Type) (n : Int) (s : List UInt8) (k : AV El → List (HE El) → Option R) : ev l_calls Try.f4 (fun _ => none) [] L0 [.int .i64 n, .str s] [] R k =
  bif decide (60 < (↑s.length : Int)) then k (AV.bool true) []
  else
    bif decide (vbytes n = rbytes n) then
      bif decide (vbytesE n = rbytesE n) then
        bif decide ((vread s).n = (rread s).n) then
          bif decide ((vread s).size = (rread s).size) then
            bif decide ((vread s).e = (rread s).e) then k (AV.bool (decide (vsize n = rsize n))) []
            else k (AV.bool false) []
          else k (AV.bool false) []
        else k (AV.bool false) []
      else k (AV.bool false) []
    else k (AV.bool false) [] := by kernel_rfl

theorem c_calls : CT 4 (fsOf 0 sem_calls) := by
  refine Ct.of base_ok Try.func4 rfl rfl (l := l_calls) ⟨c_lives02, c_bytes, c_read, c_size, c_rbytes, c_rread, c_rsize, trivial⟩ fun H ρ args vals h v h' hv hs => ?_
  unfold sem_calls at hs
  split at hs
  · rename_i n s
    obtain ⟨rfl, rfl⟩ := hs
    refine ⟨_, hv, .plain _ fun R k => (T_calls R n s k).trans ?_⟩
    obtain ⟨e1, e2, e3⟩ := vread_rread s
    rw [vbytes_rbytes, vsize_rsize, e1, e2, e3]
    have e4 : vbytesE n = rbytesE n := rfl
    rw [e4]
    simp only [decide_true, cond_true]
    cases decide (60 < (s.length : Int)) <;> rfl
  · cases hs

theorem varintCalls_leads : ∀ xs : List (AV El), argsFit varintCalls_shs xs → ∃ h', (sem_calls xs []).leads (.bool true) h' := by
  intro xs h
  match xs, h with
  | [a, b], ⟨h1, h2, _⟩ =>
    obtain ⟨n, rfl, _⟩ := fits_int h1.1
    obtain ⟨s, rfl, _⟩ := fits_str h2.1
    exact ⟨[], rfl, rfl⟩

end Go.Ev.A

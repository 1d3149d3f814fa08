/- Lists compared, copied: the program's functions. Printed by genlists.py. Own work. -/
import Derived.Test.YtpplfcdhiiiglaaA2Cx
import Derived.Test.YtpplfcdhiiiglaaLs
import Derived.Test.YtpplfcdhiiiglaaA2Va
namespace Go.Ev.A
open Go.Proofs Go.Ev.Pl
set_option maxRecDepth 100000
set_option linter.unusedSimpArgs false
set_option linter.unusedVariables false

noncomputable def s_sameI : Sem1 El := fun args h => match args, h with
  | [.list _ 3 a, .list _ 3 b], [] => .ret (.bool (intsEq a b)) []
  | _, _ => .bad

noncomputable abbrev l_sameI : List (Nat × FS El) := []

def hs_sameI : Nat → Option Hint
  | 3 => some ⟨[1, 1, 0, 0, 0, 1], false⟩
  | 4 => some ⟨[1, 1, 0, 0, 0, 1, 0, 0, 0, 0, 0, 0, 0, 0, 1], false⟩
  | 5 => some ⟨[1, 1, 0, 0, 0, 1], false⟩
  | 6 => some ⟨[1, 1, 0, 0, 0, 1, 0, 0, 0, 0, 0, 0, 0, 0, 0, 0, 0, 0, 0, 0, 0, 0, 0, 0, 0, 1], false⟩
  | 7 => some ⟨[0, 0, 0, 0, 1], false⟩
  | 1000004 => some ⟨[1, 1, 0, 0, 0, 1], false⟩
  | _ => none

noncomputable def lp_sameI_4 : LPd El := ⟨26, [0, 1, 5], fun vs h => match vs, h with
  | [.list .shr 3 a, .list .shr 3 b, .int .i64 i], [] => .pre (invEq a b i) (.br (restI a b i) (.exit 0 (mkS 26 0 [0, 1, 5, 14] [.list .shr 3 a, .list .shr 3 b, .int .i64 (List.length a), .bool false]) []) (.ret (mkS 26 0 [4] [.bool false]) []))
  | _, _ => .bad⟩

abbrev st_sameI_4 (x : List Int × List Int × Int) : List (AV El) := mkS 26 0 [0, 1, 5] [.list .shr 3 x.1, .list .shr 3 x.2.1, .int .i64 x.2.2]
abbrev hp_sameI_4 (x : List Int × List Int × Int) : List (HE El) := []

noncomputable def b_sameI_4 (a b : List Int) (i : Int) : Bx (List Int × List Int × Int) El :=
  .br (decide (i < (a.length : Int)))
  (.pre (inl i a.length)
   (.pre (inl i b.length)
    (.br (!(decide ((a.getD i.toNat (0 : Int)) = (b.getD i.toNat (0 : Int)))))
     (.ret (mkS 26 0 [4] [.bool false]) [])
     (.next (a, b, IntKind.i64.wrap (i + 1))))))
  (.exit 0 (mkS 26 0 [0, 1, 5, 14] [.list .shr 3 a, .list .shr 3 b, .int .i64 i, .bool false]) [])

theorem B_sameI_4 (a b : List Int) (i : Int) (R : Type) (K kR : List (AV El) → List (HE El) → Option R) (kE : Nat → List (AV El) → List (HE El) → Option R) : lb l_sameI Try.f70 hs_sameI [(4, lp_sameI_4)] 4 0 (st_sameI_4 (a, b, i)) (hp_sameI_4 (a, b, i)) R K kR kE = (b_sameI_4 a b i).go st_sameI_4 hp_sameI_4 K kR kE := by kernel_rfl

theorem k_sameI_4 : LoopOk (C0.withFn (fnL l_sameI)) 0 hs_sameI (lpT [(4, lp_sameI_4)]) 0 (loopBody (Try.f70.body.getD .skip) 4) lp_sameI_4 := by
  refine LoopOk.tree st_sameI_4 hp_sameI_4 (fun x => (invEq x.1 x.2.1 x.2.2) = true) (fun x => .br (restI x.1 x.2.1 x.2.2) (.exit 0 (mkS 26 0 [0, 1, 5, 14] [.list .shr 3 x.1, .list .shr 3 x.2.1, .int .i64 (List.length x.1), .bool false]) []) (.ret (mkS 26 0 [4] [.bool false]) [])) (fun x => (x.1.length - x.2.2).toNat) (fun x => b_sameI_4 x.1 x.2.1 x.2.2) ?_ (fun x _ R K kR kE => B_sameI_4 x.1 x.2.1 x.2.2 R K kR kE) ?_
  · intro R kR kE vs h r hr
    unfold lp_sameI_4 at hr
    dsimp only at hr
    split at hr
    · rename_i a b i
      revert hr; revert a; intro (a : List Int) hr
      revert hr; revert b; intro (b : List Int) hr
      obtain ⟨hc, hr⟩ := Ex.pre_out hr
      exact ⟨(a, b, i), hc, rfl, rfl, hr⟩
    · cases hr
  · intro x hx
    obtain ⟨a, b, i⟩ := x
    dsimp only at hx ⊢
    simp only [b_sameI_4, Bx.sat, Ex.out, std0, stdA]
    obtain ⟨h1, h2, h3, h4⟩ := invEq_iff.1 hx
    have hst : i < (a.length : Int) → restI a b i = (intEq (a.getD i.toNat (0 : Int)) (b.getD i.toNat (0 : Int)) && restI a b (i + 1)) := fun h => by
      unfold restI
      rw [restEq_step (d := (0 : Int)) (by omega) (by omega), show (i + 1).toNat = i.toNat + 1 by omega]
    refine ⟨fun h => ⟨fun _ => ⟨fun _ => ⟨fun h5 => ?_, fun h5 => ?_⟩, fun hc => hc ⟨by omega, by omega⟩⟩, fun hc => hc ⟨by omega, by omega⟩⟩, fun h => ?_⟩
    · intro R kR kE
      have : intEq (a.getD i.toNat (0 : Int)) (b.getD i.toNat (0 : Int)) = false := by simpa [intEq] using h5
      rw [hst h, this]
      rfl
    · have : intEq (a.getD i.toNat (0 : Int)) (b.getD i.toNat (0 : Int)) = true := by simpa [intEq] using h5
      rw [wrap_i64 (by omega) (by omega)]
      refine ⟨(invEq_iff.2 ⟨by omega, by omega, h3, h4⟩), by omega, fun R kR kE => ?_⟩
      rw [hst h, this]
      rfl
    · intro R kR kE
      have he : i = a.length := by omega
      subst he
      have : restI a b (a.length : Int) = true := by unfold restI; exact restEq_end (by omega)
      rw [this]
      simp

noncomputable def t_sameI (a b : List Int) : Rs El :=
  .br (!(decide ((a.length : Int) = (b.length : Int))))
  (.ret (.bool false) [])
  (.pre (invEq a b (0 : Int))
   (.br (restI a b (0 : Int))
    (.ret (.bool true) [])
    (.ret (.bool false) [])))

theorem T_sameI (a b : List Int) (R : Type) (kk : AV El → List (HE El) → Option R) : evf 0 l_sameI Try.f70 hs_sameI [(4, lp_sameI_4)] ⟨0, false, false⟩ [.list .shr 3 a, .list .shr 3 b] [] R kk = (t_sameI a b).go kk := by kernel_rfl

theorem c_sameI : CT 70 (fsOf 0 s_sameI) := by
  refine Ct.of base_ok Try.func70 rfl rfl (l := l_sameI) trivial fun H ρ args vals h v h' hv hs => ?_
  unfold s_sameI at hs
  split at hs
  · rename_i _ a _ b
    revert hs hv; revert a; intro (a : List Int) hv hs
    revert hs hv; revert b; intro (b : List Int) hv hs
    obtain ⟨rfl, rfl⟩ := hs
    have hv := hv.shrX
    rw [show ([.list _ 3 a, .list _ 3 b] : List (AV El)).map AV.shrX = [.list .shr 3 a, .list .shr 3 b] from by rfl] at hv
    have hok := hv.ok
    refine ⟨_, hv, .treeL (T_sameI a b) (by kernel_rfl) (by simp only [List.mem_cons, List.not_mem_nil, or_false]; rintro p rfl; exact k_sameI_4) ?_⟩
    simp only [okL, AV.ok, and_true, true_and] at hok
    simp only [t_sameI, Rs.all, std0, stdA]
    refine ⟨fun h => ?_, fun h => ?_⟩
    · have : ¬ (a.length : Int) = b.length := h
      simp [intsEq, listEq, this]
    · have h' : (a.length : Int) = b.length := h
      have hi : invEq a b 0 = true := invEq_iff.2 ⟨by omega, by omega, by omega, hok.1⟩
      refine ⟨fun _ => ⟨fun h2 => ?_, fun h2 => ?_⟩, fun hc => by rw [hi] at hc; cases hc⟩ <;> (simp only [restI, Int.toNat_zero, List.drop_zero] at h2; simp [intsEq, listEq, h', h2])
  · cases hs

noncomputable def s_equalI : Sem1 El := fun args h => match args, h with
  | [.int .i64 x, .int .i64 y], [] => .ret (.bool (intEq x y)) []
  | _, _ => .bad

noncomputable abbrev l_equalI : List (Nat × FS El) := []

noncomputable def t_equalI (x y : Int) : Rs El :=
  .ret (.bool (decide (x = y))) []

theorem T_equalI (x y : Int) (R : Type) (kk : AV El → List (HE El) → Option R) : evf 0 l_equalI Try.f74 (fun _ => none) [] ⟨0, false, false⟩ [.int .i64 x, .int .i64 y] [] R kk = (t_equalI x y).go kk := by kernel_rfl

theorem c_equalI : CT 74 (fsOf 0 s_equalI) := by
  refine Ct.of base_ok Try.func74 rfl rfl (l := l_equalI) trivial fun H ρ args vals h v h' hv hs => ?_
  unfold s_equalI at hs
  split at hs
  · rename_i x y
    obtain ⟨rfl, rfl⟩ := hs
    have hok := hv.ok
    refine ⟨_, hv, .tree (T_equalI x y) ?_⟩
    simp only [okL, AV.ok, and_true, true_and] at hok
    simp only [t_equalI, Rs.all, std0, stdA]
    all_goals first | trivial | simp [intEq]
  · cases hs

noncomputable def s_efuncI : Sem1 El := fun args h => match args, h with
  | [.list _ 3 a, .list _ 3 b, .fn (.func 74) [] []], [] => .ret (.bool (intsEq a b)) []
  | _, _ => .bad

noncomputable abbrev l_efuncI : List (Nat × FS El) := [(74, fsOf 0 s_equalI)]

def hs_efuncI : Nat → Option Hint
  | 3 => some ⟨[0, 1, 1, 0, 0, 0, 0, 0, 0, 0, 0, 0, 0, 0, 0, 1, 1, 1], false⟩
  | 4 => some ⟨[0, 1, 1, 0, 0, 0, 0, 0, 0, 0, 0, 0, 0, 0, 0, 1, 1, 1, 1], false⟩
  | 5 => some ⟨[0, 1, 1, 0, 0, 0, 0, 1, 1, 0, 0, 0, 0, 0, 0, 1, 1, 1], false⟩
  | 6 => some ⟨[0, 1, 1, 0, 0, 0, 0, 0, 1, 1, 0, 0, 0, 0, 0, 1, 1, 1], false⟩
  | 7 => some ⟨[0, 1, 1, 0, 0, 0, 0, 0, 0, 0, 0, 0, 0, 0, 0, 1, 1, 1, 0, 0, 0, 0, 0, 0, 0, 0, 0, 0, 0, 0, 1], false⟩
  | 8 => some ⟨[0, 0, 0, 0, 0, 0, 1], false⟩
  | 9 => some ⟨[0, 1, 1, 0, 0, 0, 0, 0, 0, 0, 0, 0, 0, 0, 0, 1, 1, 1], false⟩
  | 1000004 => some ⟨[0, 1, 1, 0, 0, 0, 0, 0, 0, 0, 0, 0, 0, 0, 0, 1, 1, 1], false⟩
  | _ => none

noncomputable def lp_efuncI_4 : LPd El := ⟨32, [1, 2, 15, 16, 17], fun vs h => match vs, h with
  | [.list .shr 3 b, .fn (.func 74) [] [], .list .shr 3 a, .int .i64 len, .int .i64 i], [] => .pre (decide (len = a.length) && invEq a b i) (.br (restI a b i) (.exit 0 (mkS 32 0 [1, 2, 15, 16, 17, 18] [.list .shr 3 b, .fn (.func 74) [] [], .list .shr 3 a, .int .i64 len, .int .i64 len, .bool false]) []) (.ret (mkS 32 0 [6] [.bool false]) []))
  | _, _ => .bad⟩

abbrev st_efuncI_4 (x : List Int × List Int × Int × Int) : List (AV El) := mkS 32 0 [1, 2, 15, 16, 17] [.list .shr 3 x.1, .fn (.func 74) [] [], .list .shr 3 x.2.1, .int .i64 x.2.2.1, .int .i64 x.2.2.2]
abbrev hp_efuncI_4 (x : List Int × List Int × Int × Int) : List (HE El) := []

noncomputable def b_efuncI_4 (b a : List Int) (len i : Int) : Bx (List Int × List Int × Int × Int) El :=
  .br (decide (i < len))
  (.pre (inl i a.length)
   (.pre (inl i b.length)
    (.br (!(intEq (a.getD i.toNat (0 : Int)) (b.getD i.toNat (0 : Int))))
     (.ret (mkS 32 0 [6] [.bool false]) [])
     (.next (b, a, len, IntKind.i64.wrap (i + 1))))))
  (.exit 0 (mkS 32 0 [1, 2, 15, 16, 17, 18] [.list .shr 3 b, .fn (.func 74) [] [], .list .shr 3 a, .int .i64 len, .int .i64 i, .bool false]) [])

theorem B_efuncI_4 (b a : List Int) (len i : Int) (R : Type) (K kR : List (AV El) → List (HE El) → Option R) (kE : Nat → List (AV El) → List (HE El) → Option R) : lb l_efuncI Try.f73 hs_efuncI [(4, lp_efuncI_4)] 4 0 (st_efuncI_4 (b, a, len, i)) (hp_efuncI_4 (b, a, len, i)) R K kR kE = (b_efuncI_4 b a len i).go st_efuncI_4 hp_efuncI_4 K kR kE := by kernel_rfl

theorem k_efuncI_4 : LoopOk (C0.withFn (fnL l_efuncI)) 0 hs_efuncI (lpT [(4, lp_efuncI_4)]) 0 (loopBody (Try.f73.body.getD .skip) 4) lp_efuncI_4 := by
  refine LoopOk.tree st_efuncI_4 hp_efuncI_4 (fun x => (decide (x.2.2.1 = x.2.1.length) && invEq x.2.1 x.1 x.2.2.2) = true) (fun x => .br (restI x.2.1 x.1 x.2.2.2) (.exit 0 (mkS 32 0 [1, 2, 15, 16, 17, 18] [.list .shr 3 x.1, .fn (.func 74) [] [], .list .shr 3 x.2.1, .int .i64 x.2.2.1, .int .i64 x.2.2.1, .bool false]) []) (.ret (mkS 32 0 [6] [.bool false]) [])) (fun x => (x.2.1.length - x.2.2.2).toNat) (fun x => b_efuncI_4 x.1 x.2.1 x.2.2.1 x.2.2.2) ?_ (fun x _ R K kR kE => B_efuncI_4 x.1 x.2.1 x.2.2.1 x.2.2.2 R K kR kE) ?_
  · intro R kR kE vs h r hr
    unfold lp_efuncI_4 at hr
    dsimp only at hr
    split at hr
    · rename_i b a len i
      revert hr; revert b; intro (b : List Int) hr
      revert hr; revert a; intro (a : List Int) hr
      obtain ⟨hc, hr⟩ := Ex.pre_out hr
      exact ⟨(b, a, len, i), hc, rfl, rfl, hr⟩
    · cases hr
  · intro x hx
    obtain ⟨b, a, len, i⟩ := x
    dsimp only at hx ⊢
    simp only [b_efuncI_4, Bx.sat, Ex.out, std0, stdA]
    simp only [std0] at hx
    obtain ⟨rfl, hx⟩ := hx
    obtain ⟨h1, h2, h3, h4⟩ := invEq_iff.1 hx
    have hst : i < (a.length : Int) → restI a b i = (intEq (a.getD i.toNat (0 : Int)) (b.getD i.toNat (0 : Int)) && restI a b (i + 1)) := fun h => by
      unfold restI
      rw [restEq_step (d := (0 : Int)) (by omega) (by omega), show (i + 1).toNat = i.toNat + 1 by omega]
    refine ⟨fun h => ⟨fun _ => ⟨fun _ => ⟨fun h5 => ?_, fun h5 => ?_⟩, fun hc => hc ⟨by omega, by omega⟩⟩, fun hc => hc ⟨by omega, by omega⟩⟩, fun h => ?_⟩
    · intro R kR kE
      have : intEq (a.getD i.toNat (0 : Int)) (b.getD i.toNat (0 : Int)) = false := by exact h5
      rw [hst h, this]
      rfl
    · have : intEq (a.getD i.toNat (0 : Int)) (b.getD i.toNat (0 : Int)) = true := by exact h5
      rw [wrap_i64 (by omega) (by omega)]
      refine ⟨(⟨rfl, invEq_iff.2 ⟨by omega, by omega, h3, h4⟩⟩), by omega, fun R kR kE => ?_⟩
      rw [hst h, this]
      rfl
    · intro R kR kE
      have he : i = a.length := by omega
      subst he
      have : restI a b (a.length : Int) = true := by unfold restI; exact restEq_end (by omega)
      rw [this]
      simp

noncomputable def t_efuncI (a b : List Int) : Rs El :=
  .br (!(decide ((a.length : Int) = (b.length : Int))))
  (.ret (.bool false) [])
  (.pre (decide ((a.length : Int) = a.length) && invEq a b (0 : Int))
   (.br (restI a b (0 : Int))
    (.ret (.bool true) [])
    (.ret (.bool false) [])))

theorem T_efuncI (a b : List Int) (R : Type) (kk : AV El → List (HE El) → Option R) : evf 0 l_efuncI Try.f73 hs_efuncI [(4, lp_efuncI_4)] ⟨0, false, false⟩ [.list .shr 3 a, .list .shr 3 b, .fn (.func 74) [] []] [] R kk = (t_efuncI a b).go kk := by kernel_rfl

theorem c_efuncI : CT 73 (fsOf 0 s_efuncI) := by
  refine Ct.of base_ok Try.func73 rfl rfl (l := l_efuncI) ⟨c_equalI, trivial⟩ fun H ρ args vals h v h' hv hs => ?_
  unfold s_efuncI at hs
  split at hs
  · rename_i _ a _ b
    revert hs hv; revert a; intro (a : List Int) hv hs
    revert hs hv; revert b; intro (b : List Int) hv hs
    obtain ⟨rfl, rfl⟩ := hs
    have hv := hv.shrX
    rw [show ([.list _ 3 a, .list _ 3 b, .fn (.func 74) [] []] : List (AV El)).map AV.shrX = [.list .shr 3 a, .list .shr 3 b, .fn (.func 74) [] []] from by rfl] at hv
    have hok := hv.ok
    refine ⟨_, hv, .treeL (T_efuncI a b) (by kernel_rfl) (by simp only [List.mem_cons, List.not_mem_nil, or_false]; rintro p rfl; exact k_efuncI_4) ?_⟩
    simp only [okL, AV.ok, and_true, true_and] at hok
    simp only [t_efuncI, Rs.all, std0, stdA]
    refine ⟨fun h => ?_, fun h => ?_⟩
    · have : ¬ (a.length : Int) = b.length := h
      simp [intsEq, listEq, this]
    · have h' : (a.length : Int) = b.length := h
      have hi : invEq a b 0 = true := invEq_iff.2 ⟨by omega, by omega, by omega, hok.1⟩
      refine ⟨fun _ => ⟨fun h2 => ?_, fun h2 => ?_⟩, fun hc => ?_⟩
      · simp only [restI, Int.toNat_zero, List.drop_zero] at h2; simp [intsEq, listEq, h', h2]
      · simp only [restI, Int.toNat_zero, List.drop_zero] at h2; simp [intsEq, listEq, h', h2]
      · rw [hi] at hc; simp at hc
  · cases hs

noncomputable def s_listI : Sem1 El := fun args h => match args, h with
  | [.list _ 3 a, .list _ 3 b], [] => .ret (.bool (intsEq a b)) []
  | _, _ => .bad

noncomputable abbrev l_listI : List (Nat × FS El) := [(73, fsOf 0 s_efuncI), (74, fsOf 0 s_equalI)]

noncomputable def t_listI (a b : List Int) : Rs El :=
  .ret (.bool (intsEq a b)) []

theorem T_listI (a b : List Int) (R : Type) (kk : AV El → List (HE El) → Option R) : evf 0 l_listI Try.f58 (fun _ => none) [] ⟨0, false, false⟩ [.list .shr 3 a, .list .shr 3 b] [] R kk = (t_listI a b).go kk := by kernel_rfl

theorem c_listI : CT 58 (fsOf 0 s_listI) := by
  refine Ct.of base_ok Try.func58 rfl rfl (l := l_listI) ⟨c_efuncI, c_equalI, trivial⟩ fun H ρ args vals h v h' hv hs => ?_
  unfold s_listI at hs
  split at hs
  · rename_i _ a _ b
    revert hs hv; revert a; intro (a : List Int) hv hs
    revert hs hv; revert b; intro (b : List Int) hv hs
    obtain ⟨rfl, rfl⟩ := hs
    have hv := hv.shrX
    rw [show ([.list _ 3 a, .list _ 3 b] : List (AV El)).map AV.shrX = [.list .shr 3 a, .list .shr 3 b] from by rfl] at hv
    have hok := hv.ok
    refine ⟨_, hv, .tree (T_listI a b) ?_⟩
    simp only [okL, AV.ok, and_true, true_and] at hok
    simp only [t_listI, Rs.all, std0, stdA]
    all_goals trivial
  · cases hs

-- not in this seat: polyglotkit.Own[int]

noncomputable def s_sameF : Sem1 El := fun args h => match args, h with
  | [.list _ 81 a, .list _ 81 b], [] => .ret (.bool (filtersEq a b)) []
  | _, _ => .bad

noncomputable abbrev l_sameF : List (Nat × FS El) := []

def hs_sameF : Nat → Option Hint
  | 3 => some ⟨[1, 1, 0, 0, 0, 1], false⟩
  | 4 => some ⟨[1, 1, 0, 0, 0, 1, 0, 0, 0, 0, 0, 0, 0, 0, 1], false⟩
  | 5 => some ⟨[1, 1, 0, 0, 0, 1], false⟩
  | 6 => some ⟨[1, 1, 0, 0, 0, 1, 0, 0, 0, 0, 0, 0, 0, 0, 0, 0, 0, 0, 0, 0, 0, 0, 0, 0, 0, 1], false⟩
  | 7 => some ⟨[0, 0, 0, 0, 1], false⟩
  | 1000004 => some ⟨[1, 1, 0, 0, 0, 1], false⟩
  | _ => none

noncomputable def lp_sameF_4 : LPd El := ⟨26, [0, 1, 5], fun vs h => match vs, h with
  | [.list .shr 81 a, .list .shr 81 b, .int .i64 i], [] => .pre (invEq a b i) (.br (restF a b i) (.exit 0 (mkS 26 0 [0, 1, 5, 14] [.list .shr 81 a, .list .shr 81 b, .int .i64 (List.length a), .bool false]) []) (.ret (mkS 26 0 [4] [.bool false]) []))
  | _, _ => .bad⟩

abbrev st_sameF_4 (x : List FilterV × List FilterV × Int) : List (AV El) := mkS 26 0 [0, 1, 5] [.list .shr 81 x.1, .list .shr 81 x.2.1, .int .i64 x.2.2]
abbrev hp_sameF_4 (x : List FilterV × List FilterV × Int) : List (HE El) := []

noncomputable def b_sameF_4 (a b : List FilterV) (i : Int) : Bx (List FilterV × List FilterV × Int) El :=
  .br (decide (i < (a.length : Int)))
  (.pre (inl i a.length)
   (.pre (inl i b.length)
    (.br (!((decide ((a.getD i.toNat FilterV.none).topic = (b.getD i.toNat FilterV.none).topic)) && ((decide ((a.getD i.toNat FilterV.none).qos = (b.getD i.toNat FilterV.none).qos)) && (((a.getD i.toNat FilterV.none).noLocal == (b.getD i.toNat FilterV.none).noLocal) && (((a.getD i.toNat FilterV.none).asPub == (b.getD i.toNat FilterV.none).asPub) && ((decide ((a.getD i.toNat FilterV.none).handling = (b.getD i.toNat FilterV.none).handling)) && true))))))
     (.ret (mkS 26 0 [4] [.bool false]) [])
     (.next (a, b, IntKind.i64.wrap (i + 1))))))
  (.exit 0 (mkS 26 0 [0, 1, 5, 14] [.list .shr 81 a, .list .shr 81 b, .int .i64 i, .bool false]) [])

theorem B_sameF_4 (a b : List FilterV) (i : Int) (R : Type) (K kR : List (AV El) → List (HE El) → Option R) (kE : Nat → List (AV El) → List (HE El) → Option R) : lb l_sameF Try.f71 hs_sameF [(4, lp_sameF_4)] 4 0 (st_sameF_4 (a, b, i)) (hp_sameF_4 (a, b, i)) R K kR kE = (b_sameF_4 a b i).go st_sameF_4 hp_sameF_4 K kR kE := by kernel_rfl

theorem k_sameF_4 : LoopOk (C0.withFn (fnL l_sameF)) 0 hs_sameF (lpT [(4, lp_sameF_4)]) 0 (loopBody (Try.f71.body.getD .skip) 4) lp_sameF_4 := by
  refine LoopOk.tree st_sameF_4 hp_sameF_4 (fun x => (invEq x.1 x.2.1 x.2.2) = true) (fun x => .br (restF x.1 x.2.1 x.2.2) (.exit 0 (mkS 26 0 [0, 1, 5, 14] [.list .shr 81 x.1, .list .shr 81 x.2.1, .int .i64 (List.length x.1), .bool false]) []) (.ret (mkS 26 0 [4] [.bool false]) [])) (fun x => (x.1.length - x.2.2).toNat) (fun x => b_sameF_4 x.1 x.2.1 x.2.2) ?_ (fun x _ R K kR kE => B_sameF_4 x.1 x.2.1 x.2.2 R K kR kE) ?_
  · intro R kR kE vs h r hr
    unfold lp_sameF_4 at hr
    dsimp only at hr
    split at hr
    · rename_i a b i
      revert hr; revert a; intro (a : List FilterV) hr
      revert hr; revert b; intro (b : List FilterV) hr
      obtain ⟨hc, hr⟩ := Ex.pre_out hr
      exact ⟨(a, b, i), hc, rfl, rfl, hr⟩
    · cases hr
  · intro x hx
    obtain ⟨a, b, i⟩ := x
    dsimp only at hx ⊢
    simp only [b_sameF_4, Bx.sat, Ex.out, std0, stdA]
    obtain ⟨h1, h2, h3, h4⟩ := invEq_iff.1 hx
    have hst : i < (a.length : Int) → restF a b i = (filterEq (a.getD i.toNat FilterV.none) (b.getD i.toNat FilterV.none) && restF a b (i + 1)) := fun h => by
      unfold restF
      rw [restEq_step (d := FilterV.none) (by omega) (by omega), show (i + 1).toNat = i.toNat + 1 by omega]
    refine ⟨fun h => ⟨fun _ => ⟨fun _ => ⟨fun h5 => ?_, fun h5 => ?_⟩, fun hc => hc ⟨by omega, by omega⟩⟩, fun hc => hc ⟨by omega, by omega⟩⟩, fun h => ?_⟩
    · intro R kR kE
      have : filterEq (a.getD i.toNat FilterV.none) (b.getD i.toNat FilterV.none) = false := by simpa [filterEq] using h5
      rw [hst h, this]
      rfl
    · have : filterEq (a.getD i.toNat FilterV.none) (b.getD i.toNat FilterV.none) = true := by simpa [filterEq] using h5
      rw [wrap_i64 (by omega) (by omega)]
      refine ⟨(invEq_iff.2 ⟨by omega, by omega, h3, h4⟩), by omega, fun R kR kE => ?_⟩
      rw [hst h, this]
      rfl
    · intro R kR kE
      have he : i = a.length := by omega
      subst he
      have : restF a b (a.length : Int) = true := by unfold restF; exact restEq_end (by omega)
      rw [this]
      simp

noncomputable def t_sameF (a b : List FilterV) : Rs El :=
  .br (!(decide ((a.length : Int) = (b.length : Int))))
  (.ret (.bool false) [])
  (.pre (invEq a b (0 : Int))
   (.br (restF a b (0 : Int))
    (.ret (.bool true) [])
    (.ret (.bool false) [])))

theorem T_sameF (a b : List FilterV) (R : Type) (kk : AV El → List (HE El) → Option R) : evf 0 l_sameF Try.f71 hs_sameF [(4, lp_sameF_4)] ⟨0, false, false⟩ [.list .shr 81 a, .list .shr 81 b] [] R kk = (t_sameF a b).go kk := by kernel_rfl

theorem c_sameF : CT 71 (fsOf 0 s_sameF) := by
  refine Ct.of base_ok Try.func71 rfl rfl (l := l_sameF) trivial fun H ρ args vals h v h' hv hs => ?_
  unfold s_sameF at hs
  split at hs
  · rename_i _ a _ b
    revert hs hv; revert a; intro (a : List FilterV) hv hs
    revert hs hv; revert b; intro (b : List FilterV) hv hs
    obtain ⟨rfl, rfl⟩ := hs
    have hv := hv.shrX
    rw [show ([.list _ 81 a, .list _ 81 b] : List (AV El)).map AV.shrX = [.list .shr 81 a, .list .shr 81 b] from by rfl] at hv
    have hok := hv.ok
    refine ⟨_, hv, .treeL (T_sameF a b) (by kernel_rfl) (by simp only [List.mem_cons, List.not_mem_nil, or_false]; rintro p rfl; exact k_sameF_4) ?_⟩
    simp only [okL, AV.ok, and_true, true_and] at hok
    simp only [t_sameF, Rs.all, std0, stdA]
    refine ⟨fun h => ?_, fun h => ?_⟩
    · have : ¬ (a.length : Int) = b.length := h
      simp [filtersEq, listEq, this]
    · have h' : (a.length : Int) = b.length := h
      have hi : invEq a b 0 = true := invEq_iff.2 ⟨by omega, by omega, by omega, hok.1⟩
      refine ⟨fun _ => ⟨fun h2 => ?_, fun h2 => ?_⟩, fun hc => by rw [hi] at hc; cases hc⟩ <;> (simp only [restF, Int.toNat_zero, List.drop_zero] at h2; simp [filtersEq, listEq, h', h2])
  · cases hs

noncomputable def s_equalF : Sem1 El := fun args h => match args, h with
  | [.agg c1, .agg c2], [] => (match toFil c1 with
    | some x => (match toFil c2 with
    | some y => .ret (.bool (filterEq x y)) []
    | none => .bad)
    | none => .bad)
  | _, _ => .bad

noncomputable abbrev l_equalF : List (Nat × FS El) := []

noncomputable def t_equalF (x y : FilterV) : Rs El :=
  .ret (.bool ((decide (x.topic = y.topic)) && ((decide (x.qos = y.qos)) && ((x.noLocal == y.noLocal) && ((x.asPub == y.asPub) && ((decide (x.handling = y.handling)) && true)))))) []

theorem T_equalF (x y : FilterV) (R : Type) (kk : AV El → List (HE El) → Option R) : evf 0 l_equalF Try.f76 (fun _ => none) [] ⟨0, false, false⟩ [.agg (aFil x), .agg (aFil y)] [] R kk = (t_equalF x y).go kk := by kernel_rfl

theorem c_equalF : CT 76 (fsOf 0 s_equalF) := by
  refine Ct.of base_ok Try.func76 rfl rfl (l := l_equalF) trivial fun H ρ args vals h v h' hv hs => ?_
  unfold s_equalF at hs
  split at hs
  · rename_i c1 c2
    split at hs
    · rename_i x hdec_x
      split at hs
      · rename_i y hdec_y
        obtain ⟨rfl, rfl⟩ := hs
        have hv := hv.shrX
        rw [show ([.agg c1, .agg c2] : List (AV El)).map AV.shrX = [.agg (aFil x), .agg (aFil y)] from by rw [toFil_eq hdec_x, toFil_eq hdec_y]; rfl] at hv
        have hok := hv.ok
        refine ⟨_, hv, .tree (T_equalF x y) ?_⟩
        simp only [okL, AV.ok, and_true, true_and] at hok
        simp only [t_equalF, Rs.all, std0, stdA]
        all_goals first | trivial | simp [filterEq]
      · cases hs
    · cases hs
  · cases hs

noncomputable def s_efuncF : Sem1 El := fun args h => match args, h with
  | [.list _ 81 a, .list _ 81 b, .fn (.func 76) [] []], [] => .ret (.bool (filtersEq a b)) []
  | _, _ => .bad

noncomputable abbrev l_efuncF : List (Nat × FS El) := [(76, fsOf 0 s_equalF)]

def hs_efuncF : Nat → Option Hint
  | 3 => some ⟨[0, 1, 1, 0, 0, 0, 0, 0, 0, 0, 0, 0, 0, 0, 0, 1, 1, 1], false⟩
  | 4 => some ⟨[0, 1, 1, 0, 0, 0, 0, 0, 0, 0, 0, 0, 0, 0, 0, 1, 1, 1, 1], false⟩
  | 5 => some ⟨[0, 1, 1, 0, 0, 0, 0, 1, 1, 0, 0, 0, 0, 0, 0, 1, 1, 1], false⟩
  | 6 => some ⟨[0, 1, 1, 0, 0, 0, 0, 0, 1, 1, 0, 0, 0, 0, 0, 1, 1, 1], false⟩
  | 7 => some ⟨[0, 1, 1, 0, 0, 0, 0, 0, 0, 0, 0, 0, 0, 0, 0, 1, 1, 1, 0, 0, 0, 0, 0, 0, 0, 0, 0, 0, 0, 0, 1], false⟩
  | 8 => some ⟨[0, 0, 0, 0, 0, 0, 1], false⟩
  | 9 => some ⟨[0, 1, 1, 0, 0, 0, 0, 0, 0, 0, 0, 0, 0, 0, 0, 1, 1, 1], false⟩
  | 1000004 => some ⟨[0, 1, 1, 0, 0, 0, 0, 0, 0, 0, 0, 0, 0, 0, 0, 1, 1, 1], false⟩
  | _ => none

noncomputable def lp_efuncF_4 : LPd El := ⟨32, [1, 2, 15, 16, 17], fun vs h => match vs, h with
  | [.list .shr 81 b, .fn (.func 76) [] [], .list .shr 81 a, .int .i64 len, .int .i64 i], [] => .pre (decide (len = a.length) && invEq a b i) (.br (restF a b i) (.exit 0 (mkS 32 0 [1, 2, 15, 16, 17, 18] [.list .shr 81 b, .fn (.func 76) [] [], .list .shr 81 a, .int .i64 len, .int .i64 len, .bool false]) []) (.ret (mkS 32 0 [6] [.bool false]) []))
  | _, _ => .bad⟩

abbrev st_efuncF_4 (x : List FilterV × List FilterV × Int × Int) : List (AV El) := mkS 32 0 [1, 2, 15, 16, 17] [.list .shr 81 x.1, .fn (.func 76) [] [], .list .shr 81 x.2.1, .int .i64 x.2.2.1, .int .i64 x.2.2.2]
abbrev hp_efuncF_4 (x : List FilterV × List FilterV × Int × Int) : List (HE El) := []

noncomputable def b_efuncF_4 (b a : List FilterV) (len i : Int) : Bx (List FilterV × List FilterV × Int × Int) El :=
  .br (decide (i < len))
  (.pre (inl i a.length)
   (.pre (inl i b.length)
    (.br (!(filterEq (a.getD i.toNat FilterV.none) (b.getD i.toNat FilterV.none)))
     (.ret (mkS 32 0 [6] [.bool false]) [])
     (.next (b, a, len, IntKind.i64.wrap (i + 1))))))
  (.exit 0 (mkS 32 0 [1, 2, 15, 16, 17, 18] [.list .shr 81 b, .fn (.func 76) [] [], .list .shr 81 a, .int .i64 len, .int .i64 i, .bool false]) [])

theorem B_efuncF_4 (b a : List FilterV) (len i : Int) (R : Type) (K kR : List (AV El) → List (HE El) → Option R) (kE : Nat → List (AV El) → List (HE El) → Option R) : lb l_efuncF Try.f75 hs_efuncF [(4, lp_efuncF_4)] 4 0 (st_efuncF_4 (b, a, len, i)) (hp_efuncF_4 (b, a, len, i)) R K kR kE = (b_efuncF_4 b a len i).go st_efuncF_4 hp_efuncF_4 K kR kE := by kernel_rfl

theorem k_efuncF_4 : LoopOk (C0.withFn (fnL l_efuncF)) 0 hs_efuncF (lpT [(4, lp_efuncF_4)]) 0 (loopBody (Try.f75.body.getD .skip) 4) lp_efuncF_4 := by
  refine LoopOk.tree st_efuncF_4 hp_efuncF_4 (fun x => (decide (x.2.2.1 = x.2.1.length) && invEq x.2.1 x.1 x.2.2.2) = true) (fun x => .br (restF x.2.1 x.1 x.2.2.2) (.exit 0 (mkS 32 0 [1, 2, 15, 16, 17, 18] [.list .shr 81 x.1, .fn (.func 76) [] [], .list .shr 81 x.2.1, .int .i64 x.2.2.1, .int .i64 x.2.2.1, .bool false]) []) (.ret (mkS 32 0 [6] [.bool false]) [])) (fun x => (x.2.1.length - x.2.2.2).toNat) (fun x => b_efuncF_4 x.1 x.2.1 x.2.2.1 x.2.2.2) ?_ (fun x _ R K kR kE => B_efuncF_4 x.1 x.2.1 x.2.2.1 x.2.2.2 R K kR kE) ?_
  · intro R kR kE vs h r hr
    unfold lp_efuncF_4 at hr
    dsimp only at hr
    split at hr
    · rename_i b a len i
      revert hr; revert b; intro (b : List FilterV) hr
      revert hr; revert a; intro (a : List FilterV) hr
      obtain ⟨hc, hr⟩ := Ex.pre_out hr
      exact ⟨(b, a, len, i), hc, rfl, rfl, hr⟩
    · cases hr
  · intro x hx
    obtain ⟨b, a, len, i⟩ := x
    dsimp only at hx ⊢
    simp only [b_efuncF_4, Bx.sat, Ex.out, std0, stdA]
    simp only [std0] at hx
    obtain ⟨rfl, hx⟩ := hx
    obtain ⟨h1, h2, h3, h4⟩ := invEq_iff.1 hx
    have hst : i < (a.length : Int) → restF a b i = (filterEq (a.getD i.toNat FilterV.none) (b.getD i.toNat FilterV.none) && restF a b (i + 1)) := fun h => by
      unfold restF
      rw [restEq_step (d := FilterV.none) (by omega) (by omega), show (i + 1).toNat = i.toNat + 1 by omega]
    refine ⟨fun h => ⟨fun _ => ⟨fun _ => ⟨fun h5 => ?_, fun h5 => ?_⟩, fun hc => hc ⟨by omega, by omega⟩⟩, fun hc => hc ⟨by omega, by omega⟩⟩, fun h => ?_⟩
    · intro R kR kE
      have : filterEq (a.getD i.toNat FilterV.none) (b.getD i.toNat FilterV.none) = false := by exact h5
      rw [hst h, this]
      rfl
    · have : filterEq (a.getD i.toNat FilterV.none) (b.getD i.toNat FilterV.none) = true := by exact h5
      rw [wrap_i64 (by omega) (by omega)]
      refine ⟨(⟨rfl, invEq_iff.2 ⟨by omega, by omega, h3, h4⟩⟩), by omega, fun R kR kE => ?_⟩
      rw [hst h, this]
      rfl
    · intro R kR kE
      have he : i = a.length := by omega
      subst he
      have : restF a b (a.length : Int) = true := by unfold restF; exact restEq_end (by omega)
      rw [this]
      simp

noncomputable def t_efuncF (a b : List FilterV) : Rs El :=
  .br (!(decide ((a.length : Int) = (b.length : Int))))
  (.ret (.bool false) [])
  (.pre (decide ((a.length : Int) = a.length) && invEq a b (0 : Int))
   (.br (restF a b (0 : Int))
    (.ret (.bool true) [])
    (.ret (.bool false) [])))

theorem T_efuncF (a b : List FilterV) (R : Type) (kk : AV El → List (HE El) → Option R) : evf 0 l_efuncF Try.f75 hs_efuncF [(4, lp_efuncF_4)] ⟨0, false, false⟩ [.list .shr 81 a, .list .shr 81 b, .fn (.func 76) [] []] [] R kk = (t_efuncF a b).go kk := by kernel_rfl

theorem c_efuncF : CT 75 (fsOf 0 s_efuncF) := by
  refine Ct.of base_ok Try.func75 rfl rfl (l := l_efuncF) ⟨c_equalF, trivial⟩ fun H ρ args vals h v h' hv hs => ?_
  unfold s_efuncF at hs
  split at hs
  · rename_i _ a _ b
    revert hs hv; revert a; intro (a : List FilterV) hv hs
    revert hs hv; revert b; intro (b : List FilterV) hv hs
    obtain ⟨rfl, rfl⟩ := hs
    have hv := hv.shrX
    rw [show ([.list _ 81 a, .list _ 81 b, .fn (.func 76) [] []] : List (AV El)).map AV.shrX = [.list .shr 81 a, .list .shr 81 b, .fn (.func 76) [] []] from by rfl] at hv
    have hok := hv.ok
    refine ⟨_, hv, .treeL (T_efuncF a b) (by kernel_rfl) (by simp only [List.mem_cons, List.not_mem_nil, or_false]; rintro p rfl; exact k_efuncF_4) ?_⟩
    simp only [okL, AV.ok, and_true, true_and] at hok
    simp only [t_efuncF, Rs.all, std0, stdA]
    refine ⟨fun h => ?_, fun h => ?_⟩
    · have : ¬ (a.length : Int) = b.length := h
      simp [filtersEq, listEq, this]
    · have h' : (a.length : Int) = b.length := h
      have hi : invEq a b 0 = true := invEq_iff.2 ⟨by omega, by omega, by omega, hok.1⟩
      refine ⟨fun _ => ⟨fun h2 => ?_, fun h2 => ?_⟩, fun hc => ?_⟩
      · simp only [restF, Int.toNat_zero, List.drop_zero] at h2; simp [filtersEq, listEq, h', h2]
      · simp only [restF, Int.toNat_zero, List.drop_zero] at h2; simp [filtersEq, listEq, h', h2]
      · rw [hi] at hc; simp at hc
  · cases hs

noncomputable def s_listF : Sem1 El := fun args h => match args, h with
  | [.list _ 81 a, .list _ 81 b], [] => .ret (.bool (filtersEq a b)) []
  | _, _ => .bad

noncomputable abbrev l_listF : List (Nat × FS El) := [(75, fsOf 0 s_efuncF), (76, fsOf 0 s_equalF)]

noncomputable def t_listF (a b : List FilterV) : Rs El :=
  .ret (.bool (filtersEq a b)) []

theorem T_listF (a b : List FilterV) (R : Type) (kk : AV El → List (HE El) → Option R) : evf 0 l_listF Try.f59 (fun _ => none) [] ⟨0, false, false⟩ [.list .shr 81 a, .list .shr 81 b] [] R kk = (t_listF a b).go kk := by kernel_rfl

theorem c_listF : CT 59 (fsOf 0 s_listF) := by
  refine Ct.of base_ok Try.func59 rfl rfl (l := l_listF) ⟨c_efuncF, c_equalF, trivial⟩ fun H ρ args vals h v h' hv hs => ?_
  unfold s_listF at hs
  split at hs
  · rename_i _ a _ b
    revert hs hv; revert a; intro (a : List FilterV) hv hs
    revert hs hv; revert b; intro (b : List FilterV) hv hs
    obtain ⟨rfl, rfl⟩ := hs
    have hv := hv.shrX
    rw [show ([.list _ 81 a, .list _ 81 b] : List (AV El)).map AV.shrX = [.list .shr 81 a, .list .shr 81 b] from by rfl] at hv
    have hok := hv.ok
    refine ⟨_, hv, .tree (T_listF a b) ?_⟩
    simp only [okL, AV.ok, and_true, true_and] at hok
    simp only [t_listF, Rs.all, std0, stdA]
    all_goals trivial
  · cases hs

-- not in this seat: polyglotkit.Own[polyglot/api.Filter]

noncomputable def s_sameP : Sem1 El := fun args h => match args, h with
  | [.list _ 63 a, .list _ 63 b], [] => .ret (.bool (propsEq a b)) []
  | _, _ => .bad

noncomputable abbrev l_sameP : List (Nat × FS El) := []

def hs_sameP : Nat → Option Hint
  | 3 => some ⟨[1, 1, 0, 0, 0, 1], false⟩
  | 4 => some ⟨[1, 1, 0, 0, 0, 1, 0, 0, 0, 0, 0, 0, 0, 0, 1], false⟩
  | 5 => some ⟨[1, 1, 0, 0, 0, 1], false⟩
  | 6 => some ⟨[1, 1, 0, 0, 0, 1, 0, 0, 0, 0, 0, 0, 0, 0, 0, 0, 0, 0, 0, 0, 0, 0, 0, 0, 0, 1], false⟩
  | 7 => some ⟨[0, 0, 0, 0, 1], false⟩
  | 1000004 => some ⟨[1, 1, 0, 0, 0, 1], false⟩
  | _ => none

noncomputable def lp_sameP_4 : LPd El := ⟨26, [0, 1, 5], fun vs h => match vs, h with
  | [.list .shr 63 a, .list .shr 63 b, .int .i64 i], [] => .pre (invEq a b i) (.br (restP a b i) (.exit 0 (mkS 26 0 [0, 1, 5, 14] [.list .shr 63 a, .list .shr 63 b, .int .i64 (List.length a), .bool false]) []) (.ret (mkS 26 0 [4] [.bool false]) []))
  | _, _ => .bad⟩

abbrev st_sameP_4 (x : List PropV × List PropV × Int) : List (AV El) := mkS 26 0 [0, 1, 5] [.list .shr 63 x.1, .list .shr 63 x.2.1, .int .i64 x.2.2]
abbrev hp_sameP_4 (x : List PropV × List PropV × Int) : List (HE El) := []

noncomputable def b_sameP_4 (a b : List PropV) (i : Int) : Bx (List PropV × List PropV × Int) El :=
  .br (decide (i < (a.length : Int)))
  (.pre (inl i a.length)
   (.pre (inl i b.length)
    (.br (!((decide ((a.getD i.toNat PropV.none).id = (b.getD i.toNat PropV.none).id)) && ((decide ((a.getD i.toNat PropV.none).n = (b.getD i.toNat PropV.none).n)) && ((decide ((a.getD i.toNat PropV.none).text = (b.getD i.toNat PropV.none).text)) && ((decide ((a.getD i.toNat PropV.none).value = (b.getD i.toNat PropV.none).value)) && true)))))
     (.ret (mkS 26 0 [4] [.bool false]) [])
     (.next (a, b, IntKind.i64.wrap (i + 1))))))
  (.exit 0 (mkS 26 0 [0, 1, 5, 14] [.list .shr 63 a, .list .shr 63 b, .int .i64 i, .bool false]) [])

theorem B_sameP_4 (a b : List PropV) (i : Int) (R : Type) (K kR : List (AV El) → List (HE El) → Option R) (kE : Nat → List (AV El) → List (HE El) → Option R) : lb l_sameP Try.f72 hs_sameP [(4, lp_sameP_4)] 4 0 (st_sameP_4 (a, b, i)) (hp_sameP_4 (a, b, i)) R K kR kE = (b_sameP_4 a b i).go st_sameP_4 hp_sameP_4 K kR kE := by kernel_rfl

theorem k_sameP_4 : LoopOk (C0.withFn (fnL l_sameP)) 0 hs_sameP (lpT [(4, lp_sameP_4)]) 0 (loopBody (Try.f72.body.getD .skip) 4) lp_sameP_4 := by
  refine LoopOk.tree st_sameP_4 hp_sameP_4 (fun x => (invEq x.1 x.2.1 x.2.2) = true) (fun x => .br (restP x.1 x.2.1 x.2.2) (.exit 0 (mkS 26 0 [0, 1, 5, 14] [.list .shr 63 x.1, .list .shr 63 x.2.1, .int .i64 (List.length x.1), .bool false]) []) (.ret (mkS 26 0 [4] [.bool false]) [])) (fun x => (x.1.length - x.2.2).toNat) (fun x => b_sameP_4 x.1 x.2.1 x.2.2) ?_ (fun x _ R K kR kE => B_sameP_4 x.1 x.2.1 x.2.2 R K kR kE) ?_
  · intro R kR kE vs h r hr
    unfold lp_sameP_4 at hr
    dsimp only at hr
    split at hr
    · rename_i a b i
      revert hr; revert a; intro (a : List PropV) hr
      revert hr; revert b; intro (b : List PropV) hr
      obtain ⟨hc, hr⟩ := Ex.pre_out hr
      exact ⟨(a, b, i), hc, rfl, rfl, hr⟩
    · cases hr
  · intro x hx
    obtain ⟨a, b, i⟩ := x
    dsimp only at hx ⊢
    simp only [b_sameP_4, Bx.sat, Ex.out, std0, stdA]
    obtain ⟨h1, h2, h3, h4⟩ := invEq_iff.1 hx
    have hst : i < (a.length : Int) → restP a b i = (propEq (a.getD i.toNat PropV.none) (b.getD i.toNat PropV.none) && restP a b (i + 1)) := fun h => by
      unfold restP
      rw [restEq_step (d := PropV.none) (by omega) (by omega), show (i + 1).toNat = i.toNat + 1 by omega]
    refine ⟨fun h => ⟨fun _ => ⟨fun _ => ⟨fun h5 => ?_, fun h5 => ?_⟩, fun hc => hc ⟨by omega, by omega⟩⟩, fun hc => hc ⟨by omega, by omega⟩⟩, fun h => ?_⟩
    · intro R kR kE
      have : propEq (a.getD i.toNat PropV.none) (b.getD i.toNat PropV.none) = false := by simpa [propEq] using h5
      rw [hst h, this]
      rfl
    · have : propEq (a.getD i.toNat PropV.none) (b.getD i.toNat PropV.none) = true := by simpa [propEq] using h5
      rw [wrap_i64 (by omega) (by omega)]
      refine ⟨(invEq_iff.2 ⟨by omega, by omega, h3, h4⟩), by omega, fun R kR kE => ?_⟩
      rw [hst h, this]
      rfl
    · intro R kR kE
      have he : i = a.length := by omega
      subst he
      have : restP a b (a.length : Int) = true := by unfold restP; exact restEq_end (by omega)
      rw [this]
      simp

noncomputable def t_sameP (a b : List PropV) : Rs El :=
  .br (!(decide ((a.length : Int) = (b.length : Int))))
  (.ret (.bool false) [])
  (.pre (invEq a b (0 : Int))
   (.br (restP a b (0 : Int))
    (.ret (.bool true) [])
    (.ret (.bool false) [])))

theorem T_sameP (a b : List PropV) (R : Type) (kk : AV El → List (HE El) → Option R) : evf 0 l_sameP Try.f72 hs_sameP [(4, lp_sameP_4)] ⟨0, false, false⟩ [.list .shr 63 a, .list .shr 63 b] [] R kk = (t_sameP a b).go kk := by kernel_rfl

theorem c_sameP : CT 72 (fsOf 0 s_sameP) := by
  refine Ct.of base_ok Try.func72 rfl rfl (l := l_sameP) trivial fun H ρ args vals h v h' hv hs => ?_
  unfold s_sameP at hs
  split at hs
  · rename_i _ a _ b
    revert hs hv; revert a; intro (a : List PropV) hv hs
    revert hs hv; revert b; intro (b : List PropV) hv hs
    obtain ⟨rfl, rfl⟩ := hs
    have hv := hv.shrX
    rw [show ([.list _ 63 a, .list _ 63 b] : List (AV El)).map AV.shrX = [.list .shr 63 a, .list .shr 63 b] from by rfl] at hv
    have hok := hv.ok
    refine ⟨_, hv, .treeL (T_sameP a b) (by kernel_rfl) (by simp only [List.mem_cons, List.not_mem_nil, or_false]; rintro p rfl; exact k_sameP_4) ?_⟩
    simp only [okL, AV.ok, and_true, true_and] at hok
    simp only [t_sameP, Rs.all, std0, stdA]
    refine ⟨fun h => ?_, fun h => ?_⟩
    · have : ¬ (a.length : Int) = b.length := h
      simp [propsEq, listEq, this]
    · have h' : (a.length : Int) = b.length := h
      have hi : invEq a b 0 = true := invEq_iff.2 ⟨by omega, by omega, by omega, hok.1⟩
      refine ⟨fun _ => ⟨fun h2 => ?_, fun h2 => ?_⟩, fun hc => by rw [hi] at hc; cases hc⟩ <;> (simp only [restP, Int.toNat_zero, List.drop_zero] at h2; simp [propsEq, listEq, h', h2])
  · cases hs

noncomputable def s_equalP : Sem1 El := fun args h => match args, h with
  | [.agg c1, .agg c2], [] => (match toProp c1 with
    | some x => (match toProp c2 with
    | some y => .ret (.bool (propEq x y)) []
    | none => .bad)
    | none => .bad)
  | _, _ => .bad

noncomputable abbrev l_equalP : List (Nat × FS El) := []

noncomputable def t_equalP (x y : PropV) : Rs El :=
  .ret (.bool ((decide (x.id = y.id)) && ((decide (x.n = y.n)) && ((decide (x.text = y.text)) && ((decide (x.value = y.value)) && true))))) []

theorem T_equalP (x y : PropV) (R : Type) (kk : AV El → List (HE El) → Option R) : evf 0 l_equalP Try.f78 (fun _ => none) [] ⟨0, false, false⟩ [.agg (aProp x), .agg (aProp y)] [] R kk = (t_equalP x y).go kk := by kernel_rfl

theorem c_equalP : CT 78 (fsOf 0 s_equalP) := by
  refine Ct.of base_ok Try.func78 rfl rfl (l := l_equalP) trivial fun H ρ args vals h v h' hv hs => ?_
  unfold s_equalP at hs
  split at hs
  · rename_i c1 c2
    split at hs
    · rename_i x hdec_x
      split at hs
      · rename_i y hdec_y
        obtain ⟨rfl, rfl⟩ := hs
        have hv := hv.shrX
        rw [show ([.agg c1, .agg c2] : List (AV El)).map AV.shrX = [.agg (aProp x), .agg (aProp y)] from by rw [toProp_eq hdec_x, toProp_eq hdec_y]; rfl] at hv
        have hok := hv.ok
        refine ⟨_, hv, .tree (T_equalP x y) ?_⟩
        simp only [okL, AV.ok, and_true, true_and] at hok
        simp only [t_equalP, Rs.all, std0, stdA]
        all_goals first | trivial | simp [propEq]
      · cases hs
    · cases hs
  · cases hs

noncomputable def s_efuncP : Sem1 El := fun args h => match args, h with
  | [.list _ 63 a, .list _ 63 b, .fn (.func 78) [] []], [] => .ret (.bool (propsEq a b)) []
  | _, _ => .bad

noncomputable abbrev l_efuncP : List (Nat × FS El) := [(78, fsOf 0 s_equalP)]

def hs_efuncP : Nat → Option Hint
  | 3 => some ⟨[0, 1, 1, 0, 0, 0, 0, 0, 0, 0, 0, 0, 0, 0, 0, 1, 1, 1], false⟩
  | 4 => some ⟨[0, 1, 1, 0, 0, 0, 0, 0, 0, 0, 0, 0, 0, 0, 0, 1, 1, 1, 1], false⟩
  | 5 => some ⟨[0, 1, 1, 0, 0, 0, 0, 1, 1, 0, 0, 0, 0, 0, 0, 1, 1, 1], false⟩
  | 6 => some ⟨[0, 1, 1, 0, 0, 0, 0, 0, 1, 1, 0, 0, 0, 0, 0, 1, 1, 1], false⟩
  | 7 => some ⟨[0, 1, 1, 0, 0, 0, 0, 0, 0, 0, 0, 0, 0, 0, 0, 1, 1, 1, 0, 0, 0, 0, 0, 0, 0, 0, 0, 0, 0, 0, 1], false⟩
  | 8 => some ⟨[0, 0, 0, 0, 0, 0, 1], false⟩
  | 9 => some ⟨[0, 1, 1, 0, 0, 0, 0, 0, 0, 0, 0, 0, 0, 0, 0, 1, 1, 1], false⟩
  | 1000004 => some ⟨[0, 1, 1, 0, 0, 0, 0, 0, 0, 0, 0, 0, 0, 0, 0, 1, 1, 1], false⟩
  | _ => none

noncomputable def lp_efuncP_4 : LPd El := ⟨32, [1, 2, 15, 16, 17], fun vs h => match vs, h with
  | [.list .shr 63 b, .fn (.func 78) [] [], .list .shr 63 a, .int .i64 len, .int .i64 i], [] => .pre (decide (len = a.length) && invEq a b i) (.br (restP a b i) (.exit 0 (mkS 32 0 [1, 2, 15, 16, 17, 18] [.list .shr 63 b, .fn (.func 78) [] [], .list .shr 63 a, .int .i64 len, .int .i64 len, .bool false]) []) (.ret (mkS 32 0 [6] [.bool false]) []))
  | _, _ => .bad⟩

abbrev st_efuncP_4 (x : List PropV × List PropV × Int × Int) : List (AV El) := mkS 32 0 [1, 2, 15, 16, 17] [.list .shr 63 x.1, .fn (.func 78) [] [], .list .shr 63 x.2.1, .int .i64 x.2.2.1, .int .i64 x.2.2.2]
abbrev hp_efuncP_4 (x : List PropV × List PropV × Int × Int) : List (HE El) := []

noncomputable def b_efuncP_4 (b a : List PropV) (len i : Int) : Bx (List PropV × List PropV × Int × Int) El :=
  .br (decide (i < len))
  (.pre (inl i a.length)
   (.pre (inl i b.length)
    (.br (!(propEq (a.getD i.toNat PropV.none) (b.getD i.toNat PropV.none)))
     (.ret (mkS 32 0 [6] [.bool false]) [])
     (.next (b, a, len, IntKind.i64.wrap (i + 1))))))
  (.exit 0 (mkS 32 0 [1, 2, 15, 16, 17, 18] [.list .shr 63 b, .fn (.func 78) [] [], .list .shr 63 a, .int .i64 len, .int .i64 i, .bool false]) [])

theorem B_efuncP_4 (b a : List PropV) (len i : Int) (R : Type) (K kR : List (AV El) → List (HE El) → Option R) (kE : Nat → List (AV El) → List (HE El) → Option R) : lb l_efuncP Try.f77 hs_efuncP [(4, lp_efuncP_4)] 4 0 (st_efuncP_4 (b, a, len, i)) (hp_efuncP_4 (b, a, len, i)) R K kR kE = (b_efuncP_4 b a len i).go st_efuncP_4 hp_efuncP_4 K kR kE := by kernel_rfl

theorem k_efuncP_4 : LoopOk (C0.withFn (fnL l_efuncP)) 0 hs_efuncP (lpT [(4, lp_efuncP_4)]) 0 (loopBody (Try.f77.body.getD .skip) 4) lp_efuncP_4 := by
  refine LoopOk.tree st_efuncP_4 hp_efuncP_4 (fun x => (decide (x.2.2.1 = x.2.1.length) && invEq x.2.1 x.1 x.2.2.2) = true) (fun x => .br (restP x.2.1 x.1 x.2.2.2) (.exit 0 (mkS 32 0 [1, 2, 15, 16, 17, 18] [.list .shr 63 x.1, .fn (.func 78) [] [], .list .shr 63 x.2.1, .int .i64 x.2.2.1, .int .i64 x.2.2.1, .bool false]) []) (.ret (mkS 32 0 [6] [.bool false]) [])) (fun x => (x.2.1.length - x.2.2.2).toNat) (fun x => b_efuncP_4 x.1 x.2.1 x.2.2.1 x.2.2.2) ?_ (fun x _ R K kR kE => B_efuncP_4 x.1 x.2.1 x.2.2.1 x.2.2.2 R K kR kE) ?_
  · intro R kR kE vs h r hr
    unfold lp_efuncP_4 at hr
    dsimp only at hr
    split at hr
    · rename_i b a len i
      revert hr; revert b; intro (b : List PropV) hr
      revert hr; revert a; intro (a : List PropV) hr
      obtain ⟨hc, hr⟩ := Ex.pre_out hr
      exact ⟨(b, a, len, i), hc, rfl, rfl, hr⟩
    · cases hr
  · intro x hx
    obtain ⟨b, a, len, i⟩ := x
    dsimp only at hx ⊢
    simp only [b_efuncP_4, Bx.sat, Ex.out, std0, stdA]
    simp only [std0] at hx
    obtain ⟨rfl, hx⟩ := hx
    obtain ⟨h1, h2, h3, h4⟩ := invEq_iff.1 hx
    have hst : i < (a.length : Int) → restP a b i = (propEq (a.getD i.toNat PropV.none) (b.getD i.toNat PropV.none) && restP a b (i + 1)) := fun h => by
      unfold restP
      rw [restEq_step (d := PropV.none) (by omega) (by omega), show (i + 1).toNat = i.toNat + 1 by omega]
    refine ⟨fun h => ⟨fun _ => ⟨fun _ => ⟨fun h5 => ?_, fun h5 => ?_⟩, fun hc => hc ⟨by omega, by omega⟩⟩, fun hc => hc ⟨by omega, by omega⟩⟩, fun h => ?_⟩
    · intro R kR kE
      have : propEq (a.getD i.toNat PropV.none) (b.getD i.toNat PropV.none) = false := by exact h5
      rw [hst h, this]
      rfl
    · have : propEq (a.getD i.toNat PropV.none) (b.getD i.toNat PropV.none) = true := by exact h5
      rw [wrap_i64 (by omega) (by omega)]
      refine ⟨(⟨rfl, invEq_iff.2 ⟨by omega, by omega, h3, h4⟩⟩), by omega, fun R kR kE => ?_⟩
      rw [hst h, this]
      rfl
    · intro R kR kE
      have he : i = a.length := by omega
      subst he
      have : restP a b (a.length : Int) = true := by unfold restP; exact restEq_end (by omega)
      rw [this]
      simp

noncomputable def t_efuncP (a b : List PropV) : Rs El :=
  .br (!(decide ((a.length : Int) = (b.length : Int))))
  (.ret (.bool false) [])
  (.pre (decide ((a.length : Int) = a.length) && invEq a b (0 : Int))
   (.br (restP a b (0 : Int))
    (.ret (.bool true) [])
    (.ret (.bool false) [])))

theorem T_efuncP (a b : List PropV) (R : Type) (kk : AV El → List (HE El) → Option R) : evf 0 l_efuncP Try.f77 hs_efuncP [(4, lp_efuncP_4)] ⟨0, false, false⟩ [.list .shr 63 a, .list .shr 63 b, .fn (.func 78) [] []] [] R kk = (t_efuncP a b).go kk := by kernel_rfl

theorem c_efuncP : CT 77 (fsOf 0 s_efuncP) := by
  refine Ct.of base_ok Try.func77 rfl rfl (l := l_efuncP) ⟨c_equalP, trivial⟩ fun H ρ args vals h v h' hv hs => ?_
  unfold s_efuncP at hs
  split at hs
  · rename_i _ a _ b
    revert hs hv; revert a; intro (a : List PropV) hv hs
    revert hs hv; revert b; intro (b : List PropV) hv hs
    obtain ⟨rfl, rfl⟩ := hs
    have hv := hv.shrX
    rw [show ([.list _ 63 a, .list _ 63 b, .fn (.func 78) [] []] : List (AV El)).map AV.shrX = [.list .shr 63 a, .list .shr 63 b, .fn (.func 78) [] []] from by rfl] at hv
    have hok := hv.ok
    refine ⟨_, hv, .treeL (T_efuncP a b) (by kernel_rfl) (by simp only [List.mem_cons, List.not_mem_nil, or_false]; rintro p rfl; exact k_efuncP_4) ?_⟩
    simp only [okL, AV.ok, and_true, true_and] at hok
    simp only [t_efuncP, Rs.all, std0, stdA]
    refine ⟨fun h => ?_, fun h => ?_⟩
    · have : ¬ (a.length : Int) = b.length := h
      simp [propsEq, listEq, this]
    · have h' : (a.length : Int) = b.length := h
      have hi : invEq a b 0 = true := invEq_iff.2 ⟨by omega, by omega, by omega, hok.1⟩
      refine ⟨fun _ => ⟨fun h2 => ?_, fun h2 => ?_⟩, fun hc => ?_⟩
      · simp only [restP, Int.toNat_zero, List.drop_zero] at h2; simp [propsEq, listEq, h', h2]
      · simp only [restP, Int.toNat_zero, List.drop_zero] at h2; simp [propsEq, listEq, h', h2]
      · rw [hi] at hc; simp at hc
  · cases hs

noncomputable def s_listP : Sem1 El := fun args h => match args, h with
  | [.list _ 63 a, .list _ 63 b], [] => .ret (.bool (propsEq a b)) []
  | _, _ => .bad

noncomputable abbrev l_listP : List (Nat × FS El) := [(77, fsOf 0 s_efuncP), (78, fsOf 0 s_equalP)]

noncomputable def t_listP (a b : List PropV) : Rs El :=
  .ret (.bool (propsEq a b)) []

theorem T_listP (a b : List PropV) (R : Type) (kk : AV El → List (HE El) → Option R) : evf 0 l_listP Try.f60 (fun _ => none) [] ⟨0, false, false⟩ [.list .shr 63 a, .list .shr 63 b] [] R kk = (t_listP a b).go kk := by kernel_rfl

theorem c_listP : CT 60 (fsOf 0 s_listP) := by
  refine Ct.of base_ok Try.func60 rfl rfl (l := l_listP) ⟨c_efuncP, c_equalP, trivial⟩ fun H ρ args vals h v h' hv hs => ?_
  unfold s_listP at hs
  split at hs
  · rename_i _ a _ b
    revert hs hv; revert a; intro (a : List PropV) hv hs
    revert hs hv; revert b; intro (b : List PropV) hv hs
    obtain ⟨rfl, rfl⟩ := hs
    have hv := hv.shrX
    rw [show ([.list _ 63 a, .list _ 63 b] : List (AV El)).map AV.shrX = [.list .shr 63 a, .list .shr 63 b] from by rfl] at hv
    have hok := hv.ok
    refine ⟨_, hv, .tree (T_listP a b) ?_⟩
    simp only [okL, AV.ok, and_true, true_and] at hok
    simp only [t_listP, Rs.all, std0, stdA]
    all_goals trivial
  · cases hs

-- not in this seat: polyglotkit.Own[polyglot/api.Prop]

end Go.Ev.A

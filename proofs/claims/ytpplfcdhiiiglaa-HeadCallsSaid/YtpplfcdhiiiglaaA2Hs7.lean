/- Packets compared and copied, names: the reference, and slices.Clone. Own work. -/
import Derived.Test.YtpplfcdhiiiglaaA2Cx
import Derived.Test.YtpplfcdhiiiglaaA2Hr
namespace Go.Ev.A
open Go.Proofs Go.Ev.Pl
set_option maxRecDepth 100000
set_option linter.unusedSimpArgs false
set_option linter.unusedVariables false

noncomputable def s_rsameI : Sem1 El := fun args h => match args, h with
  | [.list _ 3 a, .list _ 3 b], [] => .ret (.bool (intsEq a b)) []
  | _, _ => .bad

noncomputable abbrev l_rsameI : List (Nat × FS El) := []

def hs_rsameI : Nat → Option Hint
  | 3 => some ⟨[1, 1, 0, 0, 0, 1], false⟩
  | 4 => some ⟨[1, 1, 0, 0, 0, 1, 0, 0, 0, 0, 0, 0, 0, 0, 1], false⟩
  | 5 => some ⟨[1, 1, 0, 0, 0, 1], false⟩
  | 6 => some ⟨[1, 1, 0, 0, 0, 1, 0, 0, 0, 0, 0, 0, 0, 0, 0, 0, 0, 0, 0, 0, 0, 0, 0, 0, 0, 1], false⟩
  | 7 => some ⟨[0, 0, 0, 0, 1], false⟩
  | 1000004 => some ⟨[1, 1, 0, 0, 0, 1], false⟩
  | _ => none

noncomputable def lp_rsameI_4 : LPd El := ⟨26, [0, 1, 5], fun vs h => match vs, h with
  | [.list .shr 3 a, .list .shr 3 b, .int .i64 i], [] => .pre (invEq a b i) (.br (restI a b i) (.exit 0 (mkS 26 0 [0, 1, 5, 14] [.list .shr 3 a, .list .shr 3 b, .int .i64 (List.length a), .bool false]) []) (.ret (mkS 26 0 [4] [.bool false]) []))
  | _, _ => .bad⟩

abbrev st_rsameI_4 (x : List Int × List Int × Int) : List (AV El) := mkS 26 0 [0, 1, 5] [.list .shr 3 x.1, .list .shr 3 x.2.1, .int .i64 x.2.2]
abbrev hp_rsameI_4 (x : List Int × List Int × Int) : List (HE El) := []

noncomputable def b_rsameI_4 (a b : List Int) (i : Int) : Bx (List Int × List Int × Int) El :=
  .br (decide (i < (a.length : Int)))
  (.pre (inl i a.length)
   (.pre (inl i b.length)
    (.br (!(decide ((a.getD i.toNat (0 : Int)) = (b.getD i.toNat (0 : Int)))))
     (.ret (mkS 26 0 [4] [.bool false]) [])
     (.next (a, b, IntKind.i64.wrap (i + 1))))))
  (.exit 0 (mkS 26 0 [0, 1, 5, 14] [.list .shr 3 a, .list .shr 3 b, .int .i64 i, .bool false]) [])

theorem B_rsameI_4 (a b : List Int) (i : Int) (R : Type) (K kR : List (AV El) → List (HE El) → Option R) (kE : Nat → List (AV El) → List (HE El) → Option R) : lb l_rsameI Try.f67 hs_rsameI [(4, lp_rsameI_4)] 4 0 (st_rsameI_4 (a, b, i)) (hp_rsameI_4 (a, b, i)) R K kR kE = (b_rsameI_4 a b i).go st_rsameI_4 hp_rsameI_4 K kR kE := by kernel_rfl

theorem k_rsameI_4 : LoopOk (C0.withFn (fnL l_rsameI)) 0 hs_rsameI (lpT [(4, lp_rsameI_4)]) 0 (loopBody (Try.f67.body.getD .skip) 4) lp_rsameI_4 := by
  refine LoopOk.tree st_rsameI_4 hp_rsameI_4 (fun x => (invEq x.1 x.2.1 x.2.2) = true) (fun x => .br (restI x.1 x.2.1 x.2.2) (.exit 0 (mkS 26 0 [0, 1, 5, 14] [.list .shr 3 x.1, .list .shr 3 x.2.1, .int .i64 (List.length x.1), .bool false]) []) (.ret (mkS 26 0 [4] [.bool false]) [])) (fun x => (x.1.length - x.2.2).toNat) (fun x => b_rsameI_4 x.1 x.2.1 x.2.2) ?_ (fun x _ R K kR kE => B_rsameI_4 x.1 x.2.1 x.2.2 R K kR kE) ?_
  · intro R kR kE vs h r hr
    unfold lp_rsameI_4 at hr
    dsimp only at hr
    split at hr
    · rename_i a b i
      revert hr; revert a; intro (a : List Int) hr
      revert hr; revert b; intro (b : List Int) hr
      obtain ⟨hc, hr⟩ := Ex.pre_out hr
      exact ⟨(a, b, i), hc, rfl, rfl, hr⟩
    · cases hr
  · intro x hx
    obtain ⟨a, b, i⟩ := x
    dsimp only at hx ⊢
    simp only [b_rsameI_4, Bx.sat, Ex.out, std0, stdA]
    obtain ⟨h1, h2, h3, h4⟩ := invEq_iff.1 hx
    have hst : i < (a.length : Int) → restI a b i = (intEq (a.getD i.toNat (0 : Int)) (b.getD i.toNat (0 : Int)) && restI a b (i + 1)) := fun h => by
      unfold restI
      rw [restEq_step (d := (0 : Int)) (by omega) (by omega), show (i + 1).toNat = i.toNat + 1 by omega]
    refine ⟨fun h => ⟨fun _ => ⟨fun _ => ⟨fun h5 => ?_, fun h5 => ?_⟩, fun hc => hc ⟨by omega, by omega⟩⟩, fun hc => hc ⟨by omega, by omega⟩⟩, fun h => ?_⟩
    · intro R kR kE
      have : intEq (a.getD i.toNat (0 : Int)) (b.getD i.toNat (0 : Int)) = false := by simpa [intEq] using h5
      rw [hst h, this]
      rfl
    · have : intEq (a.getD i.toNat (0 : Int)) (b.getD i.toNat (0 : Int)) = true := by simpa [intEq] using h5
      rw [wrap_i64 (by omega) (by omega)]
      refine ⟨(invEq_iff.2 ⟨by omega, by omega, h3, h4⟩), by omega, fun R kR kE => ?_⟩
      rw [hst h, this]
      rfl
    · intro R kR kE
      have he : i = a.length := by omega
      subst he
      have : restI a b (a.length : Int) = true := by unfold restI; exact restEq_end (by omega)
      rw [this]
      simp

noncomputable def t_rsameI (a b : List Int) : Rs El :=
  .br (!(decide ((a.length : Int) = (b.length : Int))))
  (.ret (.bool false) [])
  (.pre (invEq a b (0 : Int))
   (.br (restI a b (0 : Int))
    (.ret (.bool true) [])
    (.ret (.bool false) [])))

theorem T_rsameI (a b : List Int) (R : Type) (kk : AV El → List (HE El) → Option R) : evf 0 l_rsameI Try.f67 hs_rsameI [(4, lp_rsameI_4)] ⟨0, false, false⟩ [.list .shr 3 a, .list .shr 3 b] [] R kk = (t_rsameI a b).go kk := by kernel_rfl

theorem c_rsameI : CT 67 (fsOf 0 s_rsameI) := by
  refine Ct.of base_ok Try.func67 rfl rfl (l := l_rsameI) trivial fun H ρ args vals h v h' hv hs => ?_
  unfold s_rsameI at hs
  split at hs
  · rename_i _ a _ b
    revert hs hv; revert a; intro (a : List Int) hv hs
    revert hs hv; revert b; intro (b : List Int) hv hs
    obtain ⟨rfl, rfl⟩ := hs
    have hv := hv.shrX
    rw [show ([.list _ 3 a, .list _ 3 b] : List (AV El)).map AV.shrX = [.list .shr 3 a, .list .shr 3 b] from by rfl] at hv
    have hok := hv.ok
    refine ⟨_, hv, .treeL (T_rsameI a b) (by kernel_rfl) (by simp only [List.mem_cons, List.not_mem_nil, or_false]; rintro p rfl; exact k_rsameI_4) ?_⟩
    simp only [okL, AV.ok, and_true, true_and] at hok
    simp only [t_rsameI, Rs.all, std0, stdA]
    refine ⟨fun h => ?_, fun h => ?_⟩
    · have : ¬ (a.length : Int) = b.length := h
      simp [intsEq, listEq, this]
    · have h' : (a.length : Int) = b.length := h
      have hi : invEq a b 0 = true := invEq_iff.2 ⟨by omega, by omega, by omega, hok.1⟩
      refine ⟨fun _ => ⟨fun h2 => ?_, fun h2 => ?_⟩, fun hc => by rw [hi] at hc; cases hc⟩ <;> (simp only [restI, Int.toNat_zero, List.drop_zero] at h2; simp [intsEq, listEq, h', h2])
  · cases hs

noncomputable def s_rsameF : Sem1 El := fun args h => match args, h with
  | [.list _ 81 a, .list _ 81 b], [] => .ret (.bool (filtersEq a b)) []
  | _, _ => .bad

noncomputable abbrev l_rsameF : List (Nat × FS El) := []

def hs_rsameF : Nat → Option Hint
  | 3 => some ⟨[1, 1, 0, 0, 0, 1], false⟩
  | 4 => some ⟨[1, 1, 0, 0, 0, 1, 0, 0, 0, 0, 0, 0, 0, 0, 1], false⟩
  | 5 => some ⟨[1, 1, 0, 0, 0, 1], false⟩
  | 6 => some ⟨[1, 1, 0, 0, 0, 1, 0, 0, 0, 0, 0, 0, 0, 0, 0, 0, 0, 0, 0, 0, 0, 0, 0, 0, 0, 1], false⟩
  | 7 => some ⟨[0, 0, 0, 0, 1], false⟩
  | 1000004 => some ⟨[1, 1, 0, 0, 0, 1], false⟩
  | _ => none

noncomputable def lp_rsameF_4 : LPd El := ⟨26, [0, 1, 5], fun vs h => match vs, h with
  | [.list .shr 81 a, .list .shr 81 b, .int .i64 i], [] => .pre (invEq a b i) (.br (restF a b i) (.exit 0 (mkS 26 0 [0, 1, 5, 14] [.list .shr 81 a, .list .shr 81 b, .int .i64 (List.length a), .bool false]) []) (.ret (mkS 26 0 [4] [.bool false]) []))
  | _, _ => .bad⟩

abbrev st_rsameF_4 (x : List FilterV × List FilterV × Int) : List (AV El) := mkS 26 0 [0, 1, 5] [.list .shr 81 x.1, .list .shr 81 x.2.1, .int .i64 x.2.2]
abbrev hp_rsameF_4 (x : List FilterV × List FilterV × Int) : List (HE El) := []

noncomputable def b_rsameF_4 (a b : List FilterV) (i : Int) : Bx (List FilterV × List FilterV × Int) El :=
  .br (decide (i < (a.length : Int)))
  (.pre (inl i a.length)
   (.pre (inl i b.length)
    (.br (!((decide ((a.getD i.toNat FilterV.none).topic = (b.getD i.toNat FilterV.none).topic)) && ((decide ((a.getD i.toNat FilterV.none).qos = (b.getD i.toNat FilterV.none).qos)) && (((a.getD i.toNat FilterV.none).noLocal == (b.getD i.toNat FilterV.none).noLocal) && (((a.getD i.toNat FilterV.none).asPub == (b.getD i.toNat FilterV.none).asPub) && ((decide ((a.getD i.toNat FilterV.none).handling = (b.getD i.toNat FilterV.none).handling)) && true))))))
     (.ret (mkS 26 0 [4] [.bool false]) [])
     (.next (a, b, IntKind.i64.wrap (i + 1))))))
  (.exit 0 (mkS 26 0 [0, 1, 5, 14] [.list .shr 81 a, .list .shr 81 b, .int .i64 i, .bool false]) [])

theorem B_rsameF_4 (a b : List FilterV) (i : Int) (R : Type) (K kR : List (AV El) → List (HE El) → Option R) (kE : Nat → List (AV El) → List (HE El) → Option R) : lb l_rsameF Try.f68 hs_rsameF [(4, lp_rsameF_4)] 4 0 (st_rsameF_4 (a, b, i)) (hp_rsameF_4 (a, b, i)) R K kR kE = (b_rsameF_4 a b i).go st_rsameF_4 hp_rsameF_4 K kR kE := by kernel_rfl

theorem k_rsameF_4 : LoopOk (C0.withFn (fnL l_rsameF)) 0 hs_rsameF (lpT [(4, lp_rsameF_4)]) 0 (loopBody (Try.f68.body.getD .skip) 4) lp_rsameF_4 := by
  refine LoopOk.tree st_rsameF_4 hp_rsameF_4 (fun x => (invEq x.1 x.2.1 x.2.2) = true) (fun x => .br (restF x.1 x.2.1 x.2.2) (.exit 0 (mkS 26 0 [0, 1, 5, 14] [.list .shr 81 x.1, .list .shr 81 x.2.1, .int .i64 (List.length x.1), .bool false]) []) (.ret (mkS 26 0 [4] [.bool false]) [])) (fun x => (x.1.length - x.2.2).toNat) (fun x => b_rsameF_4 x.1 x.2.1 x.2.2) ?_ (fun x _ R K kR kE => B_rsameF_4 x.1 x.2.1 x.2.2 R K kR kE) ?_
  · intro R kR kE vs h r hr
    unfold lp_rsameF_4 at hr
    dsimp only at hr
    split at hr
    · rename_i a b i
      revert hr; revert a; intro (a : List FilterV) hr
      revert hr; revert b; intro (b : List FilterV) hr
      obtain ⟨hc, hr⟩ := Ex.pre_out hr
      exact ⟨(a, b, i), hc, rfl, rfl, hr⟩
    · cases hr
  · intro x hx
    obtain ⟨a, b, i⟩ := x
    dsimp only at hx ⊢
    simp only [b_rsameF_4, Bx.sat, Ex.out, std0, stdA]
    obtain ⟨h1, h2, h3, h4⟩ := invEq_iff.1 hx
    have hst : i < (a.length : Int) → restF a b i = (filterEq (a.getD i.toNat FilterV.none) (b.getD i.toNat FilterV.none) && restF a b (i + 1)) := fun h => by
      unfold restF
      rw [restEq_step (d := FilterV.none) (by omega) (by omega), show (i + 1).toNat = i.toNat + 1 by omega]
    refine ⟨fun h => ⟨fun _ => ⟨fun _ => ⟨fun h5 => ?_, fun h5 => ?_⟩, fun hc => hc ⟨by omega, by omega⟩⟩, fun hc => hc ⟨by omega, by omega⟩⟩, fun h => ?_⟩
    · intro R kR kE
      have : filterEq (a.getD i.toNat FilterV.none) (b.getD i.toNat FilterV.none) = false := by simpa [filterEq] using h5
      rw [hst h, this]
      rfl
    · have : filterEq (a.getD i.toNat FilterV.none) (b.getD i.toNat FilterV.none) = true := by simpa [filterEq] using h5
      rw [wrap_i64 (by omega) (by omega)]
      refine ⟨(invEq_iff.2 ⟨by omega, by omega, h3, h4⟩), by omega, fun R kR kE => ?_⟩
      rw [hst h, this]
      rfl
    · intro R kR kE
      have he : i = a.length := by omega
      subst he
      have : restF a b (a.length : Int) = true := by unfold restF; exact restEq_end (by omega)
      rw [this]
      simp

noncomputable def t_rsameF (a b : List FilterV) : Rs El :=
  .br (!(decide ((a.length : Int) = (b.length : Int))))
  (.ret (.bool false) [])
  (.pre (invEq a b (0 : Int))
   (.br (restF a b (0 : Int))
    (.ret (.bool true) [])
    (.ret (.bool false) [])))

theorem T_rsameF (a b : List FilterV) (R : Type) (kk : AV El → List (HE El) → Option R) : evf 0 l_rsameF Try.f68 hs_rsameF [(4, lp_rsameF_4)] ⟨0, false, false⟩ [.list .shr 81 a, .list .shr 81 b] [] R kk = (t_rsameF a b).go kk := by kernel_rfl

theorem c_rsameF : CT 68 (fsOf 0 s_rsameF) := by
  refine Ct.of base_ok Try.func68 rfl rfl (l := l_rsameF) trivial fun H ρ args vals h v h' hv hs => ?_
  unfold s_rsameF at hs
  split at hs
  · rename_i _ a _ b
    revert hs hv; revert a; intro (a : List FilterV) hv hs
    revert hs hv; revert b; intro (b : List FilterV) hv hs
    obtain ⟨rfl, rfl⟩ := hs
    have hv := hv.shrX
    rw [show ([.list _ 81 a, .list _ 81 b] : List (AV El)).map AV.shrX = [.list .shr 81 a, .list .shr 81 b] from by rfl] at hv
    have hok := hv.ok
    refine ⟨_, hv, .treeL (T_rsameF a b) (by kernel_rfl) (by simp only [List.mem_cons, List.not_mem_nil, or_false]; rintro p rfl; exact k_rsameF_4) ?_⟩
    simp only [okL, AV.ok, and_true, true_and] at hok
    simp only [t_rsameF, Rs.all, std0, stdA]
    refine ⟨fun h => ?_, fun h => ?_⟩
    · have : ¬ (a.length : Int) = b.length := h
      simp [filtersEq, listEq, this]
    · have h' : (a.length : Int) = b.length := h
      have hi : invEq a b 0 = true := invEq_iff.2 ⟨by omega, by omega, by omega, hok.1⟩
      refine ⟨fun _ => ⟨fun h2 => ?_, fun h2 => ?_⟩, fun hc => by rw [hi] at hc; cases hc⟩ <;> (simp only [restF, Int.toNat_zero, List.drop_zero] at h2; simp [filtersEq, listEq, h', h2])
  · cases hs

noncomputable def s_rsameP : Sem1 El := fun args h => match args, h with
  | [.list _ 63 a, .list _ 63 b], [] => .ret (.bool (propsEq a b)) []
  | _, _ => .bad

noncomputable abbrev l_rsameP : List (Nat × FS El) := []

def hs_rsameP : Nat → Option Hint
  | 3 => some ⟨[1, 1, 0, 0, 0, 1], false⟩
  | 4 => some ⟨[1, 1, 0, 0, 0, 1, 0, 0, 0, 0, 0, 0, 0, 0, 1], false⟩
  | 5 => some ⟨[1, 1, 0, 0, 0, 1], false⟩
  | 6 => some ⟨[1, 1, 0, 0, 0, 1, 0, 0, 0, 0, 0, 0, 0, 0, 0, 0, 0, 0, 0, 0, 0, 0, 0, 0, 0, 1], false⟩
  | 7 => some ⟨[0, 0, 0, 0, 1], false⟩
  | 1000004 => some ⟨[1, 1, 0, 0, 0, 1], false⟩
  | _ => none

noncomputable def lp_rsameP_4 : LPd El := ⟨26, [0, 1, 5], fun vs h => match vs, h with
  | [.list .shr 63 a, .list .shr 63 b, .int .i64 i], [] => .pre (invEq a b i) (.br (restP a b i) (.exit 0 (mkS 26 0 [0, 1, 5, 14] [.list .shr 63 a, .list .shr 63 b, .int .i64 (List.length a), .bool false]) []) (.ret (mkS 26 0 [4] [.bool false]) []))
  | _, _ => .bad⟩

abbrev st_rsameP_4 (x : List PropV × List PropV × Int) : List (AV El) := mkS 26 0 [0, 1, 5] [.list .shr 63 x.1, .list .shr 63 x.2.1, .int .i64 x.2.2]
abbrev hp_rsameP_4 (x : List PropV × List PropV × Int) : List (HE El) := []

noncomputable def b_rsameP_4 (a b : List PropV) (i : Int) : Bx (List PropV × List PropV × Int) El :=
  .br (decide (i < (a.length : Int)))
  (.pre (inl i a.length)
   (.pre (inl i b.length)
    (.br (!((decide ((a.getD i.toNat PropV.none).id = (b.getD i.toNat PropV.none).id)) && ((decide ((a.getD i.toNat PropV.none).n = (b.getD i.toNat PropV.none).n)) && ((decide ((a.getD i.toNat PropV.none).text = (b.getD i.toNat PropV.none).text)) && ((decide ((a.getD i.toNat PropV.none).value = (b.getD i.toNat PropV.none).value)) && true)))))
     (.ret (mkS 26 0 [4] [.bool false]) [])
     (.next (a, b, IntKind.i64.wrap (i + 1))))))
  (.exit 0 (mkS 26 0 [0, 1, 5, 14] [.list .shr 63 a, .list .shr 63 b, .int .i64 i, .bool false]) [])

theorem B_rsameP_4 (a b : List PropV) (i : Int) (R : Type) (K kR : List (AV El) → List (HE El) → Option R) (kE : Nat → List (AV El) → List (HE El) → Option R) : lb l_rsameP Try.f66 hs_rsameP [(4, lp_rsameP_4)] 4 0 (st_rsameP_4 (a, b, i)) (hp_rsameP_4 (a, b, i)) R K kR kE = (b_rsameP_4 a b i).go st_rsameP_4 hp_rsameP_4 K kR kE := by kernel_rfl

theorem k_rsameP_4 : LoopOk (C0.withFn (fnL l_rsameP)) 0 hs_rsameP (lpT [(4, lp_rsameP_4)]) 0 (loopBody (Try.f66.body.getD .skip) 4) lp_rsameP_4 := by
  refine LoopOk.tree st_rsameP_4 hp_rsameP_4 (fun x => (invEq x.1 x.2.1 x.2.2) = true) (fun x => .br (restP x.1 x.2.1 x.2.2) (.exit 0 (mkS 26 0 [0, 1, 5, 14] [.list .shr 63 x.1, .list .shr 63 x.2.1, .int .i64 (List.length x.1), .bool false]) []) (.ret (mkS 26 0 [4] [.bool false]) [])) (fun x => (x.1.length - x.2.2).toNat) (fun x => b_rsameP_4 x.1 x.2.1 x.2.2) ?_ (fun x _ R K kR kE => B_rsameP_4 x.1 x.2.1 x.2.2 R K kR kE) ?_
  · intro R kR kE vs h r hr
    unfold lp_rsameP_4 at hr
    dsimp only at hr
    split at hr
    · rename_i a b i
      revert hr; revert a; intro (a : List PropV) hr
      revert hr; revert b; intro (b : List PropV) hr
      obtain ⟨hc, hr⟩ := Ex.pre_out hr
      exact ⟨(a, b, i), hc, rfl, rfl, hr⟩
    · cases hr
  · intro x hx
    obtain ⟨a, b, i⟩ := x
    dsimp only at hx ⊢
    simp only [b_rsameP_4, Bx.sat, Ex.out, std0, stdA]
    obtain ⟨h1, h2, h3, h4⟩ := invEq_iff.1 hx
    have hst : i < (a.length : Int) → restP a b i = (propEq (a.getD i.toNat PropV.none) (b.getD i.toNat PropV.none) && restP a b (i + 1)) := fun h => by
      unfold restP
      rw [restEq_step (d := PropV.none) (by omega) (by omega), show (i + 1).toNat = i.toNat + 1 by omega]
    refine ⟨fun h => ⟨fun _ => ⟨fun _ => ⟨fun h5 => ?_, fun h5 => ?_⟩, fun hc => hc ⟨by omega, by omega⟩⟩, fun hc => hc ⟨by omega, by omega⟩⟩, fun h => ?_⟩
    · intro R kR kE
      have : propEq (a.getD i.toNat PropV.none) (b.getD i.toNat PropV.none) = false := by simpa [propEq] using h5
      rw [hst h, this]
      rfl
    · have : propEq (a.getD i.toNat PropV.none) (b.getD i.toNat PropV.none) = true := by simpa [propEq] using h5
      rw [wrap_i64 (by omega) (by omega)]
      refine ⟨(invEq_iff.2 ⟨by omega, by omega, h3, h4⟩), by omega, fun R kR kE => ?_⟩
      rw [hst h, this]
      rfl
    · intro R kR kE
      have he : i = a.length := by omega
      subst he
      have : restP a b (a.length : Int) = true := by unfold restP; exact restEq_end (by omega)
      rw [this]
      simp

noncomputable def t_rsameP (a b : List PropV) : Rs El :=
  .br (!(decide ((a.length : Int) = (b.length : Int))))
  (.ret (.bool false) [])
  (.pre (invEq a b (0 : Int))
   (.br (restP a b (0 : Int))
    (.ret (.bool true) [])
    (.ret (.bool false) [])))

theorem T_rsameP (a b : List PropV) (R : Type) (kk : AV El → List (HE El) → Option R) : evf 0 l_rsameP Try.f66 hs_rsameP [(4, lp_rsameP_4)] ⟨0, false, false⟩ [.list .shr 63 a, .list .shr 63 b] [] R kk = (t_rsameP a b).go kk := by kernel_rfl

theorem c_rsameP : CT 66 (fsOf 0 s_rsameP) := by
  refine Ct.of base_ok Try.func66 rfl rfl (l := l_rsameP) trivial fun H ρ args vals h v h' hv hs => ?_
  unfold s_rsameP at hs
  split at hs
  · rename_i _ a _ b
    revert hs hv; revert a; intro (a : List PropV) hv hs
    revert hs hv; revert b; intro (b : List PropV) hv hs
    obtain ⟨rfl, rfl⟩ := hs
    have hv := hv.shrX
    rw [show ([.list _ 63 a, .list _ 63 b] : List (AV El)).map AV.shrX = [.list .shr 63 a, .list .shr 63 b] from by rfl] at hv
    have hok := hv.ok
    refine ⟨_, hv, .treeL (T_rsameP a b) (by kernel_rfl) (by simp only [List.mem_cons, List.not_mem_nil, or_false]; rintro p rfl; exact k_rsameP_4) ?_⟩
    simp only [okL, AV.ok, and_true, true_and] at hok
    simp only [t_rsameP, Rs.all, std0, stdA]
    refine ⟨fun h => ?_, fun h => ?_⟩
    · have : ¬ (a.length : Int) = b.length := h
      simp [propsEq, listEq, this]
    · have h' : (a.length : Int) = b.length := h
      have hi : invEq a b 0 = true := invEq_iff.2 ⟨by omega, by omega, by omega, hok.1⟩
      refine ⟨fun _ => ⟨fun h2 => ?_, fun h2 => ?_⟩, fun hc => by rw [hi] at hc; cases hc⟩ <;> (simp only [restP, Int.toNat_zero, List.drop_zero] at h2; simp [propsEq, listEq, h', h2])
  · cases hs

noncomputable def s_rpsame : Sem1 El := fun args h => match args, h with
  | [.agg c1, .agg c2], [] => (match toPkt c1 with
    | some x => (match toPkt c2 with
    | some y => .ret (.bool (pktEq x y)) []
    | none => .bad)
    | none => .bad)
  | _, _ => .bad

noncomputable abbrev l_rpsame : List (Nat × FS El) := [(66, fsOf 0 s_rsameP), (67, fsOf 0 s_rsameI), (68, fsOf 0 s_rsameF)]

noncomputable def t_rpsame (x y : PacketV) : Rs El :=
  .br (!(decide (x.will.topic = y.will.topic)))
  (.ret (.bool false) [])
  (.br (!(decide (x.will.payload = y.will.payload)))
   (.ret (.bool false) [])
   (.br (!(decide (x.will.qos = y.will.qos)))
    (.ret (.bool false) [])
    (.br (!(x.will.retain == y.will.retain))
     (.ret (.bool false) [])
     (.br (!(propsEq x.will.props y.will.props))
      (.ret (.bool false) [])
      (.br (!(decide (x.kind = y.kind)))
       (.ret (.bool false) [])
       (.br (!(x.dup == y.dup))
        (.ret (.bool false) [])
        (.br (!(x.retain == y.retain))
         (.ret (.bool false) [])
         (.br (!(decide (x.qos = y.qos)))
          (.ret (.bool false) [])
          (.br (!(decide (x.id = y.id)))
           (.ret (.bool false) [])
           (.br (!(decide (x.topic = y.topic)))
            (.ret (.bool false) [])
            (.br (!(decide (x.payload = y.payload)))
             (.ret (.bool false) [])
             (.br (!(x.clean == y.clean))
              (.ret (.bool false) [])
              (.br (!(decide (x.alive = y.alive)))
               (.ret (.bool false) [])
               (.br (!(decide (x.client = y.client)))
                (.ret (.bool false) [])
                (.br (!(x.hasUser == y.hasUser))
                 (.ret (.bool false) [])
                 (.br (!(decide (x.user = y.user)))
                  (.ret (.bool false) [])
                  (.br (!(x.hasPass == y.hasPass))
                   (.ret (.bool false) [])
                   (.br (!(decide (x.pass = y.pass)))
                    (.ret (.bool false) [])
                    (.br (!(x.hasWill == y.hasWill))
                     (.ret (.bool false) [])
                     (.br (!(x.session == y.session))
                      (.ret (.bool false) [])
                      (.br (!(decide (x.code = y.code)))
                       (.ret (.bool false) [])
                       (.br (intsEq x.codes y.codes)
                        (.br (filtersEq x.filters y.filters)
                         (.ret (.bool (propsEq x.props y.props)) [])
                         (.ret (.bool false) []))
                        (.ret (.bool false) [])))))))))))))))))))))))

theorem T_rpsame (x y : PacketV) (R : Type) (kk : AV El → List (HE El) → Option R) : evf 0 l_rpsame Try.f44 (fun _ => none) [] ⟨0, false, false⟩ [.agg (aPkt x), .agg (aPkt y)] [] R kk = (t_rpsame x y).go kk := by kernel_rfl

theorem c_rpsame : CT 44 (fsOf 0 s_rpsame) := by
  refine Ct.of base_ok Try.func44 rfl rfl (l := l_rpsame) ⟨c_rsameP, c_rsameI, c_rsameF, trivial⟩ fun H ρ args vals h v h' hv hs => ?_
  unfold s_rpsame at hs
  split at hs
  · rename_i c1 c2
    split at hs
    · rename_i x hdec_x
      split at hs
      · rename_i y hdec_y
        obtain ⟨rfl, rfl⟩ := hs
        have hv := hv.shrX
        rw [show ([.agg c1, .agg c2] : List (AV El)).map AV.shrX = [.agg (aPkt x), .agg (aPkt y)] from by rw [toPkt_eq hdec_x, toPkt_eq hdec_y]; rfl] at hv
        have hok := hv.ok
        refine ⟨_, hv, .tree (T_rpsame x y) ?_⟩
        simp only [okL, AV.ok, and_true, true_and] at hok
        simp only [t_rpsame, Rs.all, std0, stdA]
        clear hv hok hdec_x hdec_y
        simp only [eq_pktEq]
        obtain ⟨a1, a2, a3, a4, a5, a6, a7, a8, a9, a10, a11, a12, a13, a14, a15, w, a17, a18, a19, a20, a21⟩ := x
        obtain ⟨b1, b2, b3, b4, b5, b6, b7, b8, b9, b10, b11, b12, b13, b14, b15, z, b17, b18, b19, b20, b21⟩ := y
        simp only [willEq_iff, intsEq_iff, filtersEq_iff, propsEq_iff, PacketV.mk.injEq, beq_iff_eq]
        have hw := @willEq_iff w z
        have hi := @intsEq_iff a19 b19
        have hf := @filtersEq_iff a20 b20
        have hp := @propsEq_iff a21 b21
        have hq := @propsEq_iff w.props z.props
        have he : w = z ↔ w.topic = z.topic ∧ w.payload = z.payload ∧ w.qos = z.qos ∧ w.retain = z.retain ∧ w.props = z.props := by cases w; cases z; simp
        rw [he]
        clear hw he
        repeat' (first | intro _ | apply And.intro)
        all_goals grind
      · cases hs
    · cases hs
  · cases hs

noncomputable def s_name : Sem1 El := fun args h => match args, h with
  | [.int .i64 k], [] => .ret (.str (nameB k)) []
  | _, _ => .bad

noncomputable abbrev l_name : List (Nat × FS El) := []

noncomputable def t_name (k : Int) : Rs El :=
  .br (decide (k < 0))
  (.ret (.str [63]) [])
  (.br (decide (16 ≤ k))
   (.ret (.str [63]) [])
   (.pre (inl k 16) (.pre (Nat.ble (0 + (k.toNat * 1) + 1) 16) (.ret (.str ([[63], [99, 111, 110, 110, 101, 99, 116], [99, 111, 110, 110, 97, 99, 107], [112, 117, 98, 108, 105, 115, 104], [112, 117, 98, 97, 99, 107], [112, 117, 98, 114, 101, 99], [112, 117, 98, 114, 101, 108], [112, 117, 98, 99, 111, 109, 112], [115, 117, 98, 115, 99, 114, 105, 98, 101], [115, 117, 98, 97, 99, 107], [117, 110, 115, 117, 98, 115, 99, 114, 105, 98, 101], [117, 110, 115, 117, 98, 97, 99, 107], [112, 105, 110, 103, 114, 101, 113], [112, 105, 110, 103, 114, 101, 115, 112], [100, 105, 115, 99, 111, 110, 110, 101, 99, 116], [97, 117, 116, 104]].getD (0 + (k.toNat * 1)) [])) []))))

theorem T_name (k : Int) (R : Type) (kk : AV El → List (HE El) → Option R) : evf 0 l_name Try.f38 (fun _ => none) [] ⟨0, false, false⟩ [.int .i64 k] [] R kk = (t_name k).go kk := by kernel_rfl

theorem c_name : CT 38 (fsOf 0 s_name) := by
  refine Ct.of base_ok Try.func38 rfl rfl (l := l_name) trivial fun H ρ args vals h v h' hv hs => ?_
  unfold s_name at hs
  split at hs
  · rename_i k
    obtain ⟨rfl, rfl⟩ := hs
    have hok := hv.ok
    refine ⟨_, hv, .tree (T_name k) ?_⟩
    simp only [okL, AV.ok, and_true, true_and] at hok
    simp only [t_name, Rs.all, std0, stdA]
    refine ⟨fun h1 => by simp [nameB, h1], fun h1 => ⟨fun h2 => by simp [nameB, h2], fun h2 => ⟨fun _ => ⟨fun _ => ?_, fun hc => by omega⟩, fun hc => by omega⟩⟩⟩
    have hk : k = 0 ∨ k = 1 ∨ k = 2 ∨ k = 3 ∨ k = 4 ∨ k = 5 ∨ k = 6 ∨ k = 7 ∨ k = 8 ∨ k = 9 ∨ k = 10 ∨ k = 11 ∨ k = 12 ∨ k = 13 ∨ k = 14 ∨ k = 15 := by omega
    rcases hk with rfl | rfl | rfl | rfl | rfl | rfl | rfl | rfl | rfl | rfl | rfl | rfl | rfl | rfl | rfl | rfl <;> rfl
  · cases hs

noncomputable def s_rname : Sem1 El := fun args h => match args, h with
  | [.int .i64 k], [] => .ret (.str (nameB k)) []
  | _, _ => .bad

noncomputable abbrev l_rname : List (Nat × FS El) := []

noncomputable def t_rname (k : Int) : Rs El :=
  .br (decide (k < 1))
  (.ret (.str [63]) [])
  (.br (decide (15 < k))
   (.ret (.str [63]) [])
   (.pre (inl (IntKind.i64.wrap (k - 1)) [[99, 111, 110, 110, 101, 99, 116], [99, 111, 110, 110, 97, 99, 107], [112, 117, 98, 108, 105, 115, 104], [112, 117, 98, 97, 99, 107], [112, 117, 98, 114, 101, 99], [112, 117, 98, 114, 101, 108], [112, 117, 98, 99, 111, 109, 112], [115, 117, 98, 115, 99, 114, 105, 98, 101], [115, 117, 98, 97, 99, 107], [117, 110, 115, 117, 98, 115, 99, 114, 105, 98, 101], [117, 110, 115, 117, 98, 97, 99, 107], [112, 105, 110, 103, 114, 101, 113], [112, 105, 110, 103, 114, 101, 115, 112], [100, 105, 115, 99, 111, 110, 110, 101, 99, 116], [97, 117, 116, 104]].length) (.ret (.str ([[99, 111, 110, 110, 101, 99, 116], [99, 111, 110, 110, 97, 99, 107], [112, 117, 98, 108, 105, 115, 104], [112, 117, 98, 97, 99, 107], [112, 117, 98, 114, 101, 99], [112, 117, 98, 114, 101, 108], [112, 117, 98, 99, 111, 109, 112], [115, 117, 98, 115, 99, 114, 105, 98, 101], [115, 117, 98, 97, 99, 107], [117, 110, 115, 117, 98, 115, 99, 114, 105, 98, 101], [117, 110, 115, 117, 98, 97, 99, 107], [112, 105, 110, 103, 114, 101, 113], [112, 105, 110, 103, 114, 101, 115, 112], [100, 105, 115, 99, 111, 110, 110, 101, 99, 116], [97, 117, 116, 104]].getD (IntKind.i64.wrap (k - 1)).toNat [])) [])))

theorem T_rname (k : Int) (R : Type) (kk : AV El → List (HE El) → Option R) : evf 0 l_rname Try.f46 (fun _ => none) [] ⟨0, false, false⟩ [.int .i64 k] [] R kk = (t_rname k).go kk := by kernel_rfl

theorem c_rname : CT 46 (fsOf 0 s_rname) := by
  refine Ct.of base_ok Try.func46 rfl rfl (l := l_rname) trivial fun H ρ args vals h v h' hv hs => ?_
  unfold s_rname at hs
  split at hs
  · rename_i k
    obtain ⟨rfl, rfl⟩ := hs
    have hok := hv.ok
    refine ⟨_, hv, .tree (T_rname k) ?_⟩
    simp only [okL, AV.ok, and_true, true_and] at hok
    simp only [t_rname, Rs.all, std0, stdA]
    have hk : k < 1 ∨ 15 < k ∨ k = 1 ∨ k = 2 ∨ k = 3 ∨ k = 4 ∨ k = 5 ∨ k = 6 ∨ k = 7 ∨ k = 8 ∨ k = 9 ∨ k = 10 ∨ k = 11 ∨ k = 12 ∨ k = 13 ∨ k = 14 ∨ k = 15 := by omega
    rcases hk with h | h | hk
    · have : nameB k = [63] := by
        by_cases h0 : k < 0
        · simp [nameB, h0]
        · have : k = 0 := by omega
          subst this
          rfl
      exact ⟨fun _ => this.symm, fun hc => absurd h hc⟩
    · have : nameB k = [63] := by
        unfold nameB
        rw [if_pos (by omega)]
      exact ⟨fun hc => by omega, fun _ => ⟨fun _ => this.symm, fun hc => absurd h hc⟩⟩
    · refine ⟨fun hc => by omega, fun _ => ⟨fun hc => by omega, fun _ => ?_⟩⟩
      rw [wrap_i64 (x := k - 1) (by omega) (by omega)]
      refine ⟨fun _ => ?_, fun hc => hc ⟨by omega, by simp; omega⟩⟩
      rcases hk with rfl | rfl | rfl | rfl | rfl | rfl | rfl | rfl | rfl | rfl | rfl | rfl | rfl | rfl | rfl <;> rfl
  · cases hs

noncomputable def s_cloneI : Sem1 El := fun args h => match args, h with
  | [.list _ 3 a], [] => .pre (decide (a.length ≤ 4294967296)) (.ret (.list .shr 3 a) [])
  | _, _ => .bad

def hs_cloneI : Nat → Option Hint := fun | 2 => some ⟨[0, 0, 3], false⟩ | 3 => some ⟨[0, 0, 3], false⟩ | _ => none
  
  theorem T_cloneIn (R : Type) (kk : AV El → List (HE El) → Option R) : ev [] Try.f53 hs_cloneI [] L0 [aInts .nil []] [] R kk =
    kk (AV.list Fl.shr 3 []) [] := by kernel_rfl
  
  theorem T_cloneI (R : Type) (a : List Int) (kk : AV El → List (HE El) → Option R) : ev [] Try.f53 hs_cloneI [] L0 [aInts .nn a] [] R kk =
    bif decide ((List.nil : List UInt8).length + a.length ≤ maxLen') then kk (AV.list Fl.shr 3 ([] ++ a)) [] else none := by kernel_rfl
  
  theorem c_cloneI : CT 53 (fsOf 0 s_cloneI) := by
    refine Ct.of base_ok Try.func53 rfl rfl (l := []) trivial fun H ρ args vals h v h' hv hs => ?_
    unfold s_cloneI at hs
    split at hs
    · rename_i f1 a
      revert hs hv
      revert a
      intro (a : List Int) hv hs
      obtain ⟨hl, hs⟩ := Rs.leads_pre hs
      obtain ⟨rfl, rfl⟩ := hs
      simp only [decide_eq_true_eq] at hl
      obtain ⟨u, rfl, hu⟩ := hv.one
      rcases hu.nilOr with ⟨e, hu⟩ | hu
      · refine ⟨_, .mk1 hu, ⟨hs_cloneI, noLp, L0, 0, lpOk_none, fun R kk => (T_cloneIn R kk).trans ?_⟩⟩
        rw [show a = [] from e]
        rfl
      · refine ⟨_, .mk1 hu, ⟨hs_cloneI, noLp, L0, 0, lpOk_none, fun R kk => (T_cloneI R a kk).trans ?_⟩⟩
        have hl : a.length ≤ 4294967296 := hl
        have hb : decide ((List.nil : List UInt8).length + a.length ≤ maxLen') = true := by simp [maxLen', hl]
        rw [hb]
        rfl
    · cases hs

noncomputable def s_cloneF : Sem1 El := fun args h => match args, h with
  | [.list _ 81 a], [] => .pre (decide (a.length ≤ 4294967296)) (.ret (.list .shr 81 a) [])
  | _, _ => .bad

def hs_cloneF : Nat → Option Hint := fun | 2 => some ⟨[0, 0, 3], false⟩ | 3 => some ⟨[0, 0, 3], false⟩ | _ => none
  
  theorem T_cloneFn (R : Type) (kk : AV El → List (HE El) → Option R) : ev [] Try.f54 hs_cloneF [] L0 [aFilters .nil []] [] R kk =
    kk (AV.list Fl.shr 81 []) [] := by kernel_rfl
  
  theorem T_cloneF (R : Type) (a : List FilterV) (kk : AV El → List (HE El) → Option R) : ev [] Try.f54 hs_cloneF [] L0 [aFilters .nn a] [] R kk =
    bif decide ((List.nil : List UInt8).length + a.length ≤ maxLen') then kk (AV.list Fl.shr 81 ([] ++ a)) [] else none := by kernel_rfl
  
  theorem c_cloneF : CT 54 (fsOf 0 s_cloneF) := by
    refine Ct.of base_ok Try.func54 rfl rfl (l := []) trivial fun H ρ args vals h v h' hv hs => ?_
    unfold s_cloneF at hs
    split at hs
    · rename_i f1 a
      revert hs hv
      revert a
      intro (a : List FilterV) hv hs
      obtain ⟨hl, hs⟩ := Rs.leads_pre hs
      obtain ⟨rfl, rfl⟩ := hs
      simp only [decide_eq_true_eq] at hl
      obtain ⟨u, rfl, hu⟩ := hv.one
      rcases hu.nilOr with ⟨e, hu⟩ | hu
      · refine ⟨_, .mk1 hu, ⟨hs_cloneF, noLp, L0, 0, lpOk_none, fun R kk => (T_cloneFn R kk).trans ?_⟩⟩
        rw [show a = [] from e]
        rfl
      · refine ⟨_, .mk1 hu, ⟨hs_cloneF, noLp, L0, 0, lpOk_none, fun R kk => (T_cloneF R a kk).trans ?_⟩⟩
        have hl : a.length ≤ 4294967296 := hl
        have hb : decide ((List.nil : List UInt8).length + a.length ≤ maxLen') = true := by simp [maxLen', hl]
        rw [hb]
        rfl
    · cases hs

noncomputable def s_cloneP : Sem1 El := fun args h => match args, h with
  | [.list _ 63 a], [] => .pre (decide (a.length ≤ 4294967296)) (.ret (.list .shr 63 a) [])
  | _, _ => .bad

def hs_cloneP : Nat → Option Hint := fun | 2 => some ⟨[0, 0, 3], false⟩ | 3 => some ⟨[0, 0, 3], false⟩ | _ => none
  
  theorem T_clonePn (R : Type) (kk : AV El → List (HE El) → Option R) : ev [] Try.f55 hs_cloneP [] L0 [aProps .nil []] [] R kk =
    kk (AV.list Fl.shr 63 []) [] := by kernel_rfl
  
  theorem T_cloneP (R : Type) (a : List PropV) (kk : AV El → List (HE El) → Option R) : ev [] Try.f55 hs_cloneP [] L0 [aProps .nn a] [] R kk =
    bif decide ((List.nil : List UInt8).length + a.length ≤ maxLen') then kk (AV.list Fl.shr 63 ([] ++ a)) [] else none := by kernel_rfl
  
  theorem c_cloneP : CT 55 (fsOf 0 s_cloneP) := by
    refine Ct.of base_ok Try.func55 rfl rfl (l := []) trivial fun H ρ args vals h v h' hv hs => ?_
    unfold s_cloneP at hs
    split at hs
    · rename_i f1 a
      revert hs hv
      revert a
      intro (a : List PropV) hv hs
      obtain ⟨hl, hs⟩ := Rs.leads_pre hs
      obtain ⟨rfl, rfl⟩ := hs
      simp only [decide_eq_true_eq] at hl
      obtain ⟨u, rfl, hu⟩ := hv.one
      rcases hu.nilOr with ⟨e, hu⟩ | hu
      · refine ⟨_, .mk1 hu, ⟨hs_cloneP, noLp, L0, 0, lpOk_none, fun R kk => (T_clonePn R kk).trans ?_⟩⟩
        rw [show a = [] from e]
        rfl
      · refine ⟨_, .mk1 hu, ⟨hs_cloneP, noLp, L0, 0, lpOk_none, fun R kk => (T_cloneP R a kk).trans ?_⟩⟩
        have hl : a.length ≤ 4294967296 := hl
        have hb : decide ((List.nil : List UInt8).length + a.length ≤ maxLen') = true := by simp [maxLen', hl]
        rw [hb]
        rfl
    · cases hs

noncomputable def s_copy : Sem1 El := fun args h => match args, h with
  | [.agg c1], [] => (match toPkt c1 with
    | some p => .pre (decide (p.codes.length ≤ 4294967296) && decide (p.filters.length ≤ 4294967296) && decide (p.props.length ≤ 4294967296) && decide (p.will.props.length ≤ 4294967296)) (.ret (.agg (aPkt p)) [])
    | none => .bad)
  | _, _ => .bad

noncomputable abbrev l_copy : List (Nat × FS El) := [(53, fsOf 0 s_cloneI), (54, fsOf 0 s_cloneF), (55, fsOf 0 s_cloneP)]

noncomputable def t_copy (p : PacketV) : Rs El :=
  .pre (decide (p.codes.length ≤ 4294967296)) (.pre (decide (p.filters.length ≤ 4294967296)) (.pre (decide (p.props.length ≤ 4294967296)) (.pre (decide (p.will.props.length ≤ 4294967296)) (.ret (.agg (aPkt p)) []))))

theorem T_copy (p : PacketV) (R : Type) (kk : AV El → List (HE El) → Option R) : evf 0 l_copy Try.f36 (fun _ => none) [] ⟨0, false, false⟩ [.agg (aPkt p)] [] R kk = (t_copy p).go kk := by kernel_rfl

theorem c_copy : CT 36 (fsOf 0 s_copy) := by
  refine Ct.of base_ok Try.func36 rfl rfl (l := l_copy) ⟨c_cloneI, c_cloneF, c_cloneP, trivial⟩ fun H ρ args vals h v h' hv hs => ?_
  unfold s_copy at hs
  split at hs
  · rename_i c1
    split at hs
    · rename_i p hdec_p
      obtain ⟨hpre, hs⟩ := Rs.leads_pre hs
      obtain ⟨rfl, rfl⟩ := hs
      have hv := hv.shrX
      rw [show ([.agg c1] : List (AV El)).map AV.shrX = [.agg (aPkt p)] from by rw [toPkt_eq hdec_p]; rfl] at hv
      have hok := hv.ok
      refine ⟨_, hv, .tree (T_copy p) ?_⟩
      simp only [okL, AV.ok, and_true, true_and] at hok
      try simp only [std0, stdA] at hpre
      simp only [t_copy, Rs.all, std0, stdA]
      obtain ⟨⟨⟨h1, h2⟩, h3⟩, h4⟩ := hpre
      simp [h1, h2, h3, h4]
      
    · cases hs
  · cases hs

end Go.Ev.A

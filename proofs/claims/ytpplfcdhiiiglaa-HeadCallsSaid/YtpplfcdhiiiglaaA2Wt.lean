/- What is light; packets copied: the program's functions. Own work. -/
import Derived.Test.YtpplfcdhiiiglaaA2Cx
import Derived.Test.YtpplfcdhiiiglaaWs
import Derived.Test.YtpplfcdhiiiglaaA2Pk
namespace Go.Ev.A
open Go.Proofs Go.Ev.Pl
set_option maxRecDepth 100000
set_option linter.unusedSimpArgs false
set_option linter.unusedVariables false

noncomputable def s_weight : Sem1 El := fun args h => match args, h with
  | [.list _ 63 l], [] => .pre (decide (l.length ≤ 1010)) (.ret (.int .i64 (weightP l)) [])
  | _, _ => .bad

noncomputable abbrev l_weight : List (Nat × FS El) := []

def hs_weight : Nat → Option Hint
  | 2 => some ⟨[1, 0, 0, 1, 1], false⟩
  | 3 => some ⟨[1, 0, 0, 1, 1, 0, 0, 0, 1], false⟩
  | 4 => some ⟨[1, 0, 0, 1, 1], false⟩
  | 5 => some ⟨[1, 0, 0, 1, 1], false⟩
  | 1000003 => some ⟨[1, 0, 0, 1, 1], false⟩
  | _ => none

noncomputable def lp_weight_3 : LPd El := ⟨27, [0, 3, 4], fun vs h => match vs, h with
  | [.list .shr 63 l, .int .i64 n, .int .i64 i], [] => .pre (invWt l n i) (.exit 0 (mkS 27 0 [0, 3, 4, 8] [.list .shr 63 l, .int .i64 (n + weightP (l.drop i.toNat)), .int .i64 (List.length (α := PropV) l), .bool false]) [])
  | _, _ => .bad⟩

abbrev st_weight_3 (x : List PropV × Int × Int) : List (AV El) := mkS 27 0 [0, 3, 4] [.list .shr 63 x.1, .int .i64 x.2.1, .int .i64 x.2.2]
abbrev hp_weight_3 (x : List PropV × Int × Int) : List (HE El) := []

noncomputable def b_weight_3 (l : List PropV) (n i : Int) : Bx (List PropV × Int × Int) El :=
  .br (decide (i < (l.length : Int)))
  (.pre (inl i l.length)
   (.pre (inl i l.length)
    (.next (l, IntKind.i64.wrap ((IntKind.i64.wrap (n + ((l.getD i.toNat PropV.none).text.length : Int))) + ((l.getD i.toNat PropV.none).value.length : Int)), IntKind.i64.wrap (i + 1)))))
  (.exit 0 (mkS 27 0 [0, 3, 4, 8] [.list .shr 63 l, .int .i64 n, .int .i64 i, .bool false]) [])

theorem B_weight_3 (l : List PropV) (n i : Int) (R : Type) (K kR : List (AV El) → List (HE El) → Option R) (kE : Nat → List (AV El) → List (HE El) → Option R) : lb l_weight Try.f79 hs_weight [(3, lp_weight_3)] 3 0 (st_weight_3 (l, n, i)) (hp_weight_3 (l, n, i)) R K kR kE = (b_weight_3 l n i).go st_weight_3 hp_weight_3 K kR kE := by kernel_rfl

theorem k_weight_3 : LoopOk (C0.withFn (fnL l_weight)) 0 hs_weight (lpT [(3, lp_weight_3)]) 0 (loopBody (Try.f79.body.getD .skip) 3) lp_weight_3 := by
  refine LoopOk.tree st_weight_3 hp_weight_3 (fun x => (invWt x.1 x.2.1 x.2.2) = true) (fun x => .exit 0 (mkS 27 0 [0, 3, 4, 8] [.list .shr 63 x.1, .int .i64 (x.2.1 + weightP (x.1.drop x.2.2.toNat)), .int .i64 (List.length (α := PropV) x.1), .bool false]) []) (fun x => (x.1.length - x.2.2).toNat) (fun x => b_weight_3 x.1 x.2.1 x.2.2) ?_ (fun x _ R K kR kE => B_weight_3 x.1 x.2.1 x.2.2 R K kR kE) ?_
  · intro R kR kE vs h r hr
    unfold lp_weight_3 at hr
    dsimp only at hr
    split at hr
    · rename_i l n i
      revert hr; revert l; intro (l : List PropV) hr
      obtain ⟨hc, hr⟩ := Ex.pre_out hr
      exact ⟨(l, n, i), hc, rfl, rfl, hr⟩
    · cases hr
  · intro x hx
    obtain ⟨l, n, i⟩ := x
    dsimp only at hx ⊢
    simp only [b_weight_3, Bx.sat, Ex.out, std0, stdA]
    obtain ⟨h1, h2, h3, h4, h5, h6⟩ := invWt_iff.1 hx
    refine ⟨fun h => ⟨fun _ => ⟨fun _ => ?_, fun hc => hc ⟨by omega, by omega⟩⟩, fun hc => hc ⟨by omega, by omega⟩⟩, fun h => ?_⟩
    · have e := weightP_drop (l := l) (i := i.toNat) (by omega)
      have ei : (i + 1).toNat = i.toNat + 1 := by omega
      obtain ⟨x1, x2⟩ := wtOk_iff.1 h6 (l.getD i.toNat .none) (by
        rw [List.getD_eq_getElem?_getD, List.getElem?_eq_getElem (by omega)]
        exact List.getElem_mem _)
      rw [wrap_i64 (x := n + (l.getD i.toNat .none).text.length) (by omega) (by omega), wrap_i64 (x := n + (l.getD i.toNat .none).text.length + (l.getD i.toNat .none).value.length) (by omega) (by omega), wrap_i64 (x := i + 1) (by omega) (by omega)]
      refine ⟨invWt_iff.2 ⟨by omega, by omega, h3, by omega, by omega, h6⟩, by omega, fun R kR kE => ?_⟩
      rw [e, ei, ← Int.add_assoc, ← Int.add_assoc]
    · intro R kR kE
      have he : i = l.length := by omega
      subst he
      have e : weightP (List.drop (l.length : Int).toNat l) = 0 := by simp [weightP]
      rw [e]
      simp

noncomputable def t_weight (l : List PropV) : Rs El :=
  .pre (invWt l (0 : Int) (0 : Int)) (.ret (.int .i64 ((0 : Int) + weightP (l.drop (0 : Int).toNat))) [])

theorem T_weight (l : List PropV) (R : Type) (kk : AV El → List (HE El) → Option R) : evf 0 l_weight Try.f79 hs_weight [(3, lp_weight_3)] ⟨0, false, false⟩ [.list .shr 63 l] [] R kk = (t_weight l).go kk := by kernel_rfl

theorem c_weight : CT 79 (fsOf 0 s_weight) := by
  refine Ct.of base_ok Try.func79 rfl rfl (l := l_weight) trivial fun H ρ args vals h v h' hv hs => ?_
  unfold s_weight at hs
  split at hs
  · rename_i _ l
    revert hs hv; revert l; intro (l : List PropV) hv hs
    obtain ⟨hpre, hs⟩ := Rs.leads_pre hs
    obtain ⟨rfl, rfl⟩ := hs
    have hv := hv.shrX
    rw [show ([.list _ 63 l] : List (AV El)).map AV.shrX = [.list .shr 63 l] from by rfl] at hv
    have hok := hv.ok
    refine ⟨_, hv, .treeL (T_weight l) (by kernel_rfl) (by simp only [List.mem_cons, List.not_mem_nil, or_false]; rintro p rfl; exact k_weight_3) ?_⟩
    simp only [okL, AV.ok, and_true, true_and] at hok
    try simp only [std0, stdA] at hpre
    simp only [t_weight, Rs.all, std0, stdA]
    obtain ⟨u, rfl, hu⟩ := hv.one
    have hi : invWt l 0 0 = true := invWt_iff.2 ⟨by omega, by omega, hpre, by omega, by omega, V.props_ok hu⟩
    exact ⟨fun _ => by simp, fun hc => by rw [hi] at hc; cases hc⟩
  · cases hs

noncomputable def s_lprops : Sem1 El := fun args h => match args, h with
  | [.list _ 63 l], [] => .ret (.bool (lightProps l)) []
  | _, _ => .bad

noncomputable abbrev l_lprops : List (Nat × FS El) := [(79, fsOf 0 s_weight)]

noncomputable def t_lprops (l : List PropV) : Rs El :=
  .br (decide ((l.length : Int) ≤ 1010))
  (.pre (decide (l.length ≤ 1010)) (.ret (.bool (decide ((weightP l) ≤ 140000))) []))
  (.ret (.bool false) [])

theorem T_lprops (l : List PropV) (R : Type) (kk : AV El → List (HE El) → Option R) : evf 0 l_lprops Try.f61 (fun _ => none) [] ⟨0, false, false⟩ [.list .shr 63 l] [] R kk = (t_lprops l).go kk := by kernel_rfl

theorem c_lprops : CT 61 (fsOf 0 s_lprops) := by
  refine Ct.of base_ok Try.func61 rfl rfl (l := l_lprops) ⟨c_weight, trivial⟩ fun H ρ args vals h v h' hv hs => ?_
  unfold s_lprops at hs
  split at hs
  · rename_i _ l
    revert hs hv; revert l; intro (l : List PropV) hv hs
    obtain ⟨rfl, rfl⟩ := hs
    have hv := hv.shrX
    rw [show ([.list _ 63 l] : List (AV El)).map AV.shrX = [.list .shr 63 l] from by rfl] at hv
    have hok := hv.ok
    refine ⟨_, hv, .tree (T_lprops l) ?_⟩
    simp only [okL, AV.ok, and_true, true_and] at hok
    simp only [t_lprops, Rs.all, std0, stdA]
    grind [lightProps]
  · cases hs

theorem VL.pkt {H : RO} {ρ : Nat → RE} {p : PacketV} {vs : List Value} (hc : VL C0 H ρ (aPkt p) vs) : wtOk p.props = true ∧ wtOk p.will.props = true ∧ ftOk p.filters = true ∧
    p.topic.length ≤ 281474976710656 ∧ p.payload.length ≤ 281474976710656 ∧ p.client.length ≤ 281474976710656 ∧ p.user.length ≤ 281474976710656 ∧ p.pass.length ≤ 281474976710656 ∧ p.will.topic.length ≤ 281474976710656 ∧ p.will.payload.length ≤ 281474976710656 := by
  have hl : vs.length = 25 := by rw [← hc.1]; rfl
  exact ⟨V.props_ok (hc.2 24 (aProps .shr p.props) (vs[24]'(by omega)) rfl (List.getElem?_eq_getElem (by omega))), V.props_ok (hc.2 19 (aProps .shr p.will.props) (vs[19]'(by omega)) rfl (List.getElem?_eq_getElem (by omega))),
    V.filters_ok (hc.2 23 (aFilters .shr p.filters) (vs[23]'(by omega)) rfl (List.getElem?_eq_getElem (by omega))), hc.at_str (i := 5) rfl, hc.at_str (i := 6) rfl, hc.at_str (i := 9) rfl, hc.at_str (i := 11) rfl, hc.at_str (i := 13) rfl, hc.at_str (i := 15) rfl, hc.at_str (i := 16) rfl⟩

noncomputable def s_lpkt : Sem1 El := fun args h => match args, h with
  | [.agg c1], [] => (match toPkt c1 with
    | some p => .ret (.bool (lightPkt p)) []
    | none => .bad)
  | _, _ => .bad

noncomputable abbrev l_lpkt : List (Nat × FS El) := [(61, fsOf 0 s_lprops)]

def hs_lpkt : Nat → Option Hint
  | 4 => some ⟨[0, 1, 0, 1, 1], false⟩
  | 5 => some ⟨[0, 1, 0, 1, 1, 0, 0, 0, 0, 0, 0, 0, 0, 0, 0, 0, 0, 0, 0, 0, 0, 0, 0, 0, 0, 0, 0, 0, 0, 0, 0, 0, 0, 0, 0, 0, 0, 0, 0, 0, 0, 0, 0, 0, 0, 0, 0, 0, 0, 0, 0, 0, 0, 0, 0, 0, 0, 0, 0, 0, 0, 1], false⟩
  | 6 => some ⟨[0, 1, 0, 1, 1], false⟩
  | 7 => some ⟨[0, 1, 0, 1, 1], false⟩
  | 1000005 => some ⟨[0, 1, 0, 1, 1], false⟩
  | _ => none

noncomputable def lp_lpkt_5 : LPd El := ⟨75, [1, 3, 4], fun vs h => match vs, h with
  | [.ptr 0 0, .int .i64 n, .int .i64 i], [.blk c1] => (match toPktS c1 with
    | some p => .pre (invLp p.filters n i) (.exit 0 (mkS 75 0 [1, 3, 4, 61] [.ptr 0 0, .int .i64 (n + topicsF (p.filters.drop i.toNat)), .int .i64 p.filters.length, .bool false]) [.blk (aPkt p)])
    | none => .bad)
  | _, _ => .bad⟩

abbrev st_lpkt_5 (x : PacketV × Int × Int) : List (AV El) := mkS 75 0 [1, 3, 4] [.ptr 0 0, .int .i64 x.2.1, .int .i64 x.2.2]
abbrev hp_lpkt_5 (x : PacketV × Int × Int) : List (HE El) := [.blk (aPkt x.1)]

noncomputable def b_lpkt_5 (p : PacketV) (n i : Int) : Bx (PacketV × Int × Int) El :=
  .br (decide (i < (p.filters.length : Int)))
  (.pre (inl i p.filters.length)
   (.next (p, IntKind.i64.wrap (n + ((p.filters.getD i.toNat FilterV.none).topic.length : Int)), IntKind.i64.wrap (i + 1))))
  (.exit 0 (mkS 75 0 [1, 3, 4, 61] [.ptr 0 0, .int .i64 n, .int .i64 i, .bool false]) [.blk (aPkt p)])

theorem B_lpkt_5 (p : PacketV) (n i : Int) (R : Type) (K kR : List (AV El) → List (HE El) → Option R) (kE : Nat → List (AV El) → List (HE El) → Option R) : lb l_lpkt Try.f39 hs_lpkt [(5, lp_lpkt_5)] 5 0 (st_lpkt_5 (p, n, i)) (hp_lpkt_5 (p, n, i)) R K kR kE = (b_lpkt_5 p n i).go st_lpkt_5 hp_lpkt_5 K kR kE := by kernel_rfl

theorem k_lpkt_5 : LoopOk (C0.withFn (fnL l_lpkt)) 0 hs_lpkt (lpT [(5, lp_lpkt_5)]) 0 (loopBody (Try.f39.body.getD .skip) 5) lp_lpkt_5 := by
  refine LoopOk.tree st_lpkt_5 hp_lpkt_5 (fun x => (invLp x.1.filters x.2.1 x.2.2) = true) (fun x => .exit 0 (mkS 75 0 [1, 3, 4, 61] [.ptr 0 0, .int .i64 (x.2.1 + topicsF (x.1.filters.drop x.2.2.toNat)), .int .i64 x.1.filters.length, .bool false]) [.blk (aPkt x.1)]) (fun x => (x.1.filters.length - x.2.2).toNat) (fun x => b_lpkt_5 x.1 x.2.1 x.2.2) ?_ (fun x _ R K kR kE => B_lpkt_5 x.1 x.2.1 x.2.2 R K kR kE) ?_
  · intro R kR kE vs h r hr
    unfold lp_lpkt_5 at hr
    dsimp only at hr
    split at hr
    · rename_i n i c1
      split at hr
      · rename_i p hdec_p
        obtain rfl := toPktS_eq hdec_p
        obtain ⟨hc, hr⟩ := Ex.pre_out hr
        exact ⟨(p, n, i), hc, rfl, rfl, hr⟩
      · cases hr
    · cases hr
  · intro x hx
    obtain ⟨p, n, i⟩ := x
    dsimp only at hx ⊢
    simp only [b_lpkt_5, Bx.sat, Ex.out, std0, stdA]
    obtain ⟨h1, h2, h3, h4, h5, h6⟩ := invLp_iff.1 hx
    refine ⟨fun h => ⟨fun _ => ?_, fun hc => hc ⟨by omega, by omega⟩⟩, fun h => ?_⟩
    · have e := topicsF_drop (l := p.filters) (i := i.toNat) (by omega)
      have ei : (i + 1).toNat = i.toNat + 1 := by omega
      have hx := ftOk_iff.1 h6 (p.filters.getD i.toNat .none) (by
        rw [List.getD_eq_getElem?_getD, List.getElem?_eq_getElem (by omega)]
        exact List.getElem_mem _)
      rw [wrap_i64 (x := n + (p.filters.getD i.toNat .none).topic.length) (by omega) (by omega), wrap_i64 (x := i + 1) (by omega) (by omega)]
      refine ⟨invLp_iff.2 ⟨by omega, by omega, h3, by omega, by omega, h6⟩, by omega, fun R kR kE => ?_⟩
      rw [e, ei, ← Int.add_assoc]
    · intro R kR kE
      have he : i = p.filters.length := by omega
      subst he
      have e : topicsF (List.drop (p.filters.length : Int).toNat p.filters) = 0 := by simp [topicsF]
      rw [e]
      simp

noncomputable def t_lpkt (p : PacketV) : Rs El :=
  .br (!(lightProps p.props))
  (.ret (.bool false) [])
  (.br (!(lightProps p.will.props))
   (.ret (.bool false) [])
   (.br (decide (60 < (p.codes.length : Int)))
    (.ret (.bool false) [])
    (.br (decide (60 < (p.filters.length : Int)))
     (.ret (.bool false) [])
     (.pre (invLp p.filters (IntKind.i64.wrap ((IntKind.i64.wrap ((IntKind.i64.wrap ((IntKind.i64.wrap ((IntKind.i64.wrap ((IntKind.i64.wrap ((p.topic.length : Int) + (p.payload.length : Int))) + (p.client.length : Int))) + (p.user.length : Int))) + (p.pass.length : Int))) + (p.will.topic.length : Int))) + (p.will.payload.length : Int))) (0 : Int)) (.ret (.bool (decide (((IntKind.i64.wrap ((IntKind.i64.wrap ((IntKind.i64.wrap ((IntKind.i64.wrap ((IntKind.i64.wrap ((IntKind.i64.wrap ((p.topic.length : Int) + (p.payload.length : Int))) + (p.client.length : Int))) + (p.user.length : Int))) + (p.pass.length : Int))) + (p.will.topic.length : Int))) + (p.will.payload.length : Int))) + topicsF (p.filters.drop (0 : Int).toNat)) ≤ 140000))) [])))))

theorem T_lpkt (p : PacketV) (R : Type) (kk : AV El → List (HE El) → Option R) : evf 0 l_lpkt Try.f39 hs_lpkt [(5, lp_lpkt_5)] ⟨0, false, false⟩ [.agg (aPkt p)] [] R kk = (t_lpkt p).go kk := by kernel_rfl

theorem c_lpkt : CT 39 (fsOf 0 s_lpkt) := by
  refine Ct.of base_ok Try.func39 rfl rfl (l := l_lpkt) ⟨c_lprops, trivial⟩ fun H ρ args vals h v h' hv hs => ?_
  unfold s_lpkt at hs
  split at hs
  · rename_i c1
    split at hs
    · rename_i p hdec_p
      obtain ⟨rfl, rfl⟩ := hs
      have hv := hv.shrX
      rw [show ([.agg c1] : List (AV El)).map AV.shrX = [.agg (aPkt p)] from by rw [toPkt_eq hdec_p]; rfl] at hv
      have hok := hv.ok
      refine ⟨_, hv, .treeL (T_lpkt p) (by kernel_rfl) (by simp only [List.mem_cons, List.not_mem_nil, or_false]; rintro p rfl; exact k_lpkt_5) ?_⟩
      simp only [okL, AV.ok, and_true, true_and] at hok
      simp only [t_lpkt, Rs.all, std0, stdA]
      obtain ⟨vs, hc⟩ := hv.at_agg (i := 0) rfl
      obtain ⟨_, _, hfo, b1, b2, b3, b4, b5, b6, b7⟩ := VL.pkt hc
      have et : IntKind.i64.wrap (IntKind.i64.wrap (IntKind.i64.wrap (IntKind.i64.wrap (IntKind.i64.wrap (IntKind.i64.wrap ((p.topic.length : Int) + p.payload.length) + p.client.length) + p.user.length) + p.pass.length) + p.will.topic.length) + p.will.payload.length) = textsP p := by
        unfold textsP
        rw [wrap_i64 (x := (p.topic.length : Int) + p.payload.length) (by omega) (by omega)]
        rw [wrap_i64 (x := (p.topic.length : Int) + p.payload.length + p.client.length) (by omega) (by omega)]
        rw [wrap_i64 (x := (p.topic.length : Int) + p.payload.length + p.client.length + p.user.length) (by omega) (by omega)]
        rw [wrap_i64 (x := (p.topic.length : Int) + p.payload.length + p.client.length + p.user.length + p.pass.length) (by omega) (by omega)]
        rw [wrap_i64 (x := (p.topic.length : Int) + p.payload.length + p.client.length + p.user.length + p.pass.length + p.will.topic.length) (by omega) (by omega)]
        rw [wrap_i64 (by omega) (by omega)]
      rw [et]
      clear hv hok hdec_p hc
      refine ⟨fun h => by simp [lightPkt, h], fun h => ⟨fun h2 => by simp [lightPkt, h2], fun h2 => ⟨fun h3 => ?_, fun h3 => ⟨fun h4 => ?_, fun h4 => ⟨fun _ => ?_, fun hc => ?_⟩⟩⟩⟩⟩
      · have : ¬ (p.codes.length : Int) ≤ 60 := by omega
        simp [lightPkt, this]
      · have : ¬ (p.filters.length : Int) ≤ 60 := by omega
        simp [lightPkt, this]
      · have a1 : (p.codes.length : Int) ≤ 60 := by omega
        have a2 : (p.filters.length : Int) ≤ 60 := by omega
        simp [lightPkt, h, h2, a1, a2]
      · have hi : invLp p.filters (textsP p) 0 = true := by
          refine invLp_iff.2 ⟨by simp, by simp, by omega, ?_, ?_, hfo⟩
          · unfold textsP; omega
          · unfold textsP; simp; omega
        rw [hi] at hc; cases hc
    · cases hs
  · cases hs

-- not in this seat: polyglotkit.OwnPacket

-- not in this seat: polyglotkit.None

noncomputable def s_pick : Sem1 El := fun args h => match args, h with
  | [.int .i64 n, .int .i64 m], [] => .ret (.int .i64 (pickN n m)) []
  | _, _ => .bad

noncomputable abbrev l_pick : List (Nat × FS El) := []

noncomputable def t_pick (n m : Int) : Rs El :=
  .br (decide (m < 1))
  (.ret (.int .i64 0) [])
  (.pre (!(decide (m = 0)))
   (.br (decide ((Int.tmod n m) < 0))
    (.ret (.int .i64 (IntKind.i64.wrap ((Int.tmod n m) + m))) [])
    (.ret (.int .i64 (Int.tmod n m)) [])))

theorem T_pick (n m : Int) (R : Type) (kk : AV El → List (HE El) → Option R) : evf 0 l_pick Try.f30 (fun _ => none) [] ⟨0, false, false⟩ [.int .i64 n, .int .i64 m] [] R kk = (t_pick n m).go kk := by kernel_rfl

theorem c_pick : CT 30 (fsOf 0 s_pick) := by
  refine Ct.of base_ok Try.func30 rfl rfl (l := l_pick) trivial fun H ρ args vals h v h' hv hs => ?_
  unfold s_pick at hs
  split at hs
  · rename_i n m
    obtain ⟨rfl, rfl⟩ := hs
    have hok := hv.ok
    refine ⟨_, hv, .tree (T_pick n m) ?_⟩
    simp only [okL, AV.ok, and_true, true_and] at hok
    simp only [t_pick, Rs.all, std0, stdA]
    simp only [min_i64, max_i64] at hok
    have e : n % m = n.tmod m % m := by
      conv => lhs; rw [← Int.tmod_add_mul_tdiv n m]
      simp
    refine ⟨fun h => by simp [pickN, h], fun h => ⟨fun _ => ⟨fun h2 => ?_, fun h2 => ?_⟩, fun hc => by omega⟩⟩
    · have h1 := Int.tmod_lt_of_pos n (show 0 < m by omega)
      have h3 := Int.lt_tmod_of_pos n (show 0 < m by omega)
      rw [wrap_i64 (by omega) (by omega)]
      have e2 : n.tmod m % m = (n.tmod m + m) % m := by simp
      simp only [pickN, h, if_false]
      rw [e, e2, Int.emod_eq_of_lt (by omega) (by omega)]
    · have h1 := Int.tmod_lt_of_pos n (show 0 < m by omega)
      simp only [pickN, h, if_false]
      rw [e, Int.emod_eq_of_lt (by omega) (by omega)]
    
  · cases hs

end Go.Ev.A

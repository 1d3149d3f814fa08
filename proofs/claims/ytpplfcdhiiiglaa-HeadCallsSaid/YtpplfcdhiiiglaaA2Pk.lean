/- Packets compared, weighed, copied: the program's functions. Own work. -/
import Derived.Test.YtpplfcdhiiiglaaA2Cx
import Derived.Test.YtpplfcdhiiiglaaWs
import Derived.Test.YtpplfcdhiiiglaaA2Li
import Derived.Test.YtpplfcdhiiiglaaA2He
namespace Go.Ev.A
open Go.Proofs Go.Ev.Pl
set_option maxRecDepth 100000
set_option linter.unusedSimpArgs false
set_option linter.unusedVariables false

abbrev aBare (p : PacketV) : List (AV El) := [.int .i64 p.kind, .int .i64 p.qos, .int .i64 p.id, .int .i64 p.alive, .int .i64 p.code, .bool p.dup, .bool p.retain, .bool p.clean, .bool p.hasUser, .bool p.hasPass, .bool p.hasWill, .bool p.session, .str p.topic, .str p.payload, .str p.client, .str p.user, .str p.pass]
theorem V.list_cells {C : Cx El} {H : RO} {ρ : Nat → RE} {f : Fl} {c : Nat} {l : List (El c)} {v : Value} (h : V C H ρ (.list f c l) v) : ∀ x ∈ l, ∀ a ∈ C.lay.cells c x, ∃ u, V C H ρ0 a u := by
  cases h with
  | listN _ _ _ hn => intro x hx; simp at hx
  | list _ _ _ _ b o cap vs hf hc h1 h2 =>
    intro x hx a ha
    obtain ⟨i, hi⟩ := List.mem_iff_getElem?.1 hx
    obtain ⟨j, hj⟩ := List.mem_iff_getElem?.1 ha
    exact ⟨_, h2 i x j a hi hj⟩
theorem V.str_le {C : Cx El} {H : RO} {ρ : Nat → RE} {s : List UInt8} {v : Value} (h : V C H ρ (.str s) v) : s.length ≤ 281474976710656 := by
  cases h
  assumption
theorem V.props_ok {H : RO} {ρ : Nat → RE} {f : Fl} {l : List PropV} {v : Value} (h : V C0 H ρ (aProps f l) v) : wtOk l = true := by
  rw [wtOk_iff]
  intro x hx
  obtain ⟨_, h1⟩ := V.list_cells h x hx (.str x.text) (by show AV.str x.text ∈ ([.int .i64 x.id, .int .u32 x.n, .str x.text, .str x.value] : List (AV El)); simp)
  obtain ⟨_, h2⟩ := V.list_cells h x hx (.str x.value) (by show AV.str x.value ∈ ([.int .i64 x.id, .int .u32 x.n, .str x.text, .str x.value] : List (AV El)); simp)
  exact ⟨V.str_le h1, V.str_le h2⟩
theorem V.filters_ok {H : RO} {ρ : Nat → RE} {f : Fl} {l : List FilterV} {v : Value} (h : V C0 H ρ (aFilters f l) v) : ftOk l = true := by
  rw [ftOk_iff]
  intro x hx
  obtain ⟨_, h1⟩ := V.list_cells h x hx (.str x.topic) (by show AV.str x.topic ∈ ([.str x.topic, .int .i64 x.qos, .bool x.noLocal, .bool x.asPub, .int .i64 x.handling] : List (AV El)); simp)
  exact V.str_le h1

noncomputable def s_strip : Sem1 El := fun args h => match args, h with
  | [.agg c1], [] => (match toPkt c1 with
    | some p => .ret (.agg (aBare p)) []
    | none => .bad)
  | _, _ => .bad

noncomputable abbrev l_strip : List (Nat × FS El) := []

noncomputable def t_strip (p : PacketV) : Rs El :=
  .ret (.agg [.int .i64 p.kind, .int .i64 p.qos, .int .i64 p.id, .int .i64 p.alive, .int .i64 p.code, .bool p.dup, .bool p.retain, .bool p.clean, .bool p.hasUser, .bool p.hasPass, .bool p.hasWill, .bool p.session, .str p.topic, .str p.payload, .str p.client, .str p.user, .str p.pass]) []

theorem T_strip (p : PacketV) (R : Type) (kk : AV El → List (HE El) → Option R) : evf 0 l_strip Try.f56 (fun _ => none) [] ⟨0, false, false⟩ [.agg (aPkt p)] [] R kk = (t_strip p).go kk := by kernel_rfl

theorem c_strip : CT 56 (fsOf 0 s_strip) := by
  refine Ct.of base_ok Try.func56 rfl rfl (l := l_strip) trivial fun H ρ args vals h v h' hv hs => ?_
  unfold s_strip at hs
  split at hs
  · rename_i c1
    split at hs
    · rename_i p hdec_p
      obtain ⟨rfl, rfl⟩ := hs
      have hv := hv.shrX
      rw [show ([.agg c1] : List (AV El)).map AV.shrX = [.agg (aPkt p)] from by rw [toPkt_eq hdec_p]; rfl] at hv
      have hok := hv.ok
      refine ⟨_, hv, .tree (T_strip p) ?_⟩
      simp only [okL, AV.ok, and_true, true_and] at hok
      simp only [t_strip, Rs.all, std0, stdA]
      all_goals trivial
    · cases hs
  · cases hs

noncomputable def s_swill : Sem1 El := fun args h => match args, h with
  | [.agg c1, .agg c2], [] => (match toWill c1 with
    | some x => (match toWill c2 with
    | some y => .ret (.bool (willEq x y)) []
    | none => .bad)
    | none => .bad)
  | _, _ => .bad

noncomputable abbrev l_swill : List (Nat × FS El) := [(60, fsOf 0 s_listP)]

noncomputable def t_swill (x y : WillV) : Rs El :=
  .br (decide (x.topic = y.topic))
  (.br (decide (x.payload = y.payload))
   (.br (decide (x.qos = y.qos))
    (.br (x.retain == y.retain)
     (.ret (.bool (propsEq x.props y.props)) [])
     (.ret (.bool false) []))
    (.ret (.bool false) []))
   (.ret (.bool false) []))
  (.ret (.bool false) [])

theorem T_swill (x y : WillV) (R : Type) (kk : AV El → List (HE El) → Option R) : evf 0 l_swill Try.f57 (fun _ => none) [] ⟨0, false, false⟩ [.agg (aWill x), .agg (aWill y)] [] R kk = (t_swill x y).go kk := by kernel_rfl

theorem c_swill : CT 57 (fsOf 0 s_swill) := by
  refine Ct.of base_ok Try.func57 rfl rfl (l := l_swill) ⟨c_listP, trivial⟩ fun H ρ args vals h v h' hv hs => ?_
  unfold s_swill at hs
  split at hs
  · rename_i c1 c2
    split at hs
    · rename_i x hdec_x
      split at hs
      · rename_i y hdec_y
        obtain ⟨rfl, rfl⟩ := hs
        have hv := hv.shrX
        rw [show ([.agg c1, .agg c2] : List (AV El)).map AV.shrX = [.agg (aWill x), .agg (aWill y)] from by rw [toWill_eq hdec_x, toWill_eq hdec_y]; rfl] at hv
        have hok := hv.ok
        refine ⟨_, hv, .tree (T_swill x y) ?_⟩
        simp only [okL, AV.ok, and_true, true_and] at hok
        simp only [t_swill, Rs.all, std0, stdA]
        clear hv hok hdec_x hdec_y
        simp only [eq_willEq]
        cases x; cases y
        simp only [WillV.mk.injEq, propsEq_iff]
        grind [propsEq_iff]
      · cases hs
    · cases hs
  · cases hs

noncomputable def s_kswill : Sem1 El := fun args h => match args, h with
  | [.agg c1, .agg c2], [] => (match toWill c1 with
    | some x => (match toWill c2 with
    | some y => .ret (.bool (willEq x y)) []
    | none => .bad)
    | none => .bad)
  | _, _ => .bad

noncomputable abbrev l_kswill : List (Nat × FS El) := [(72, fsOf 0 s_sameP)]

noncomputable def t_kswill (x y : WillV) : Rs El :=
  .br (decide (x.topic = y.topic))
  (.br (decide (x.payload = y.payload))
   (.br (decide (x.qos = y.qos))
    (.br (x.retain == y.retain)
     (.ret (.bool (propsEq x.props y.props)) [])
     (.ret (.bool false) []))
    (.ret (.bool false) []))
   (.ret (.bool false) []))
  (.ret (.bool false) [])

theorem T_kswill (x y : WillV) (R : Type) (kk : AV El → List (HE El) → Option R) : evf 0 l_kswill Try.f69 (fun _ => none) [] ⟨0, false, false⟩ [.agg (aWill x), .agg (aWill y)] [] R kk = (t_kswill x y).go kk := by kernel_rfl

theorem c_kswill : CT 69 (fsOf 0 s_kswill) := by
  refine Ct.of base_ok Try.func69 rfl rfl (l := l_kswill) ⟨c_sameP, trivial⟩ fun H ρ args vals h v h' hv hs => ?_
  unfold s_kswill at hs
  split at hs
  · rename_i c1 c2
    split at hs
    · rename_i x hdec_x
      split at hs
      · rename_i y hdec_y
        obtain ⟨rfl, rfl⟩ := hs
        have hv := hv.shrX
        rw [show ([.agg c1, .agg c2] : List (AV El)).map AV.shrX = [.agg (aWill x), .agg (aWill y)] from by rw [toWill_eq hdec_x, toWill_eq hdec_y]; rfl] at hv
        have hok := hv.ok
        refine ⟨_, hv, .tree (T_kswill x y) ?_⟩
        simp only [okL, AV.ok, and_true, true_and] at hok
        simp only [t_kswill, Rs.all, std0, stdA]
        clear hv hok hdec_x hdec_y
        simp only [eq_willEq]
        cases x; cases y
        simp only [WillV.mk.injEq, propsEq_iff]
        grind [propsEq_iff]
      · cases hs
    · cases hs
  · cases hs

noncomputable def s_psame : Sem1 El := fun args h => match args, h with
  | [.agg c1, .agg c2], [] => (match toPkt c1 with
    | some x => (match toPkt c2 with
    | some y => .ret (.bool (pktEq x y)) []
    | none => .bad)
    | none => .bad)
  | _, _ => .bad

noncomputable abbrev l_psame : List (Nat × FS El) := [(56, fsOf 0 s_strip), (57, fsOf 0 s_swill), (58, fsOf 0 s_listI), (59, fsOf 0 s_listF), (60, fsOf 0 s_listP)]

noncomputable def t_psame (x y : PacketV) : Rs El :=
  .br ((decide (x.kind = y.kind)) && ((decide (x.qos = y.qos)) && ((decide (x.id = y.id)) && ((decide (x.alive = y.alive)) && ((decide (x.code = y.code)) && ((x.dup == y.dup) && ((x.retain == y.retain) && ((x.clean == y.clean) && ((x.hasUser == y.hasUser) && ((x.hasPass == y.hasPass) && ((x.hasWill == y.hasWill) && ((x.session == y.session) && ((decide (x.topic = y.topic)) && ((decide (x.payload = y.payload)) && ((decide (x.client = y.client)) && ((decide (x.user = y.user)) && ((decide (x.pass = y.pass)) && true)))))))))))))))))
  (.br (willEq x.will y.will)
   (.br (intsEq x.codes y.codes)
    (.br (filtersEq x.filters y.filters)
     (.ret (.bool (propsEq x.props y.props)) [])
     (.ret (.bool false) []))
    (.ret (.bool false) []))
   (.ret (.bool false) []))
  (.ret (.bool false) [])

theorem T_psame (x y : PacketV) (R : Type) (kk : AV El → List (HE El) → Option R) : evf 0 l_psame Try.f37 (fun _ => none) [] ⟨0, false, false⟩ [.agg (aPkt x), .agg (aPkt y)] [] R kk = (t_psame x y).go kk := by kernel_rfl

theorem c_psame : CT 37 (fsOf 0 s_psame) := by
  refine Ct.of base_ok Try.func37 rfl rfl (l := l_psame) ⟨c_strip, c_swill, c_listI, c_listF, c_listP, trivial⟩ fun H ρ args vals h v h' hv hs => ?_
  unfold s_psame at hs
  split at hs
  · rename_i c1 c2
    split at hs
    · rename_i x hdec_x
      split at hs
      · rename_i y hdec_y
        obtain ⟨rfl, rfl⟩ := hs
        have hv := hv.shrX
        rw [show ([.agg c1, .agg c2] : List (AV El)).map AV.shrX = [.agg (aPkt x), .agg (aPkt y)] from by rw [toPkt_eq hdec_x, toPkt_eq hdec_y]; rfl] at hv
        have hok := hv.ok
        refine ⟨_, hv, .tree (T_psame x y) ?_⟩
        simp only [okL, AV.ok, and_true, true_and] at hok
        simp only [t_psame, Rs.all, std0, stdA]
        clear hv hok hdec_x hdec_y
        simp only [eq_pktEq]
        obtain ⟨a1, a2, a3, a4, a5, a6, a7, a8, a9, a10, a11, a12, a13, a14, a15, w, a17, a18, a19, a20, a21⟩ := x
        obtain ⟨b1, b2, b3, b4, b5, b6, b7, b8, b9, b10, b11, b12, b13, b14, b15, z, b17, b18, b19, b20, b21⟩ := y
        simp only [willEq_iff, intsEq_iff, filtersEq_iff, propsEq_iff, PacketV.mk.injEq, beq_iff_eq]
        have hw := @willEq_iff w z
        have hi := @intsEq_iff a19 b19
        have hf := @filtersEq_iff a20 b20
        have hp := @propsEq_iff a21 b21
        grind
      · cases hs
    · cases hs
  · cases hs

noncomputable def s_ksame : Sem1 El := fun args h => match args, h with
  | [.agg c1, .agg c2], [] => (match toPkt c1 with
    | some x => (match toPkt c2 with
    | some y => .ret (.bool (pktEq x y)) []
    | none => .bad)
    | none => .bad)
  | _, _ => .bad

noncomputable abbrev l_ksame : List (Nat × FS El) := [(69, fsOf 0 s_kswill), (70, fsOf 0 s_sameI), (71, fsOf 0 s_sameF), (72, fsOf 0 s_sameP)]

noncomputable def t_ksame (x y : PacketV) : Rs El :=
  .br (!(willEq x.will y.will))
  (.ret (.bool false) [])
  (.br (!(intsEq x.codes y.codes))
   (.ret (.bool false) [])
   (.br (!(filtersEq x.filters y.filters))
    (.ret (.bool false) [])
    (.br (!(propsEq x.props y.props))
     (.ret (.bool false) [])
     (.br (!(decide (x.kind = y.kind)))
      (.ret (.bool false) [])
      (.br (!(x.dup == y.dup))
       (.ret (.bool false) [])
       (.br (!(x.retain == y.retain))
        (.ret (.bool false) [])
        (.br (!(decide (x.qos = y.qos)))
         (.ret (.bool false) [])
         (.br (!(decide (x.id = y.id)))
          (.ret (.bool false) [])
          (.br (!(decide (x.topic = y.topic)))
           (.ret (.bool false) [])
           (.br (!(decide (x.payload = y.payload)))
            (.ret (.bool false) [])
            (.br (!(x.clean == y.clean))
             (.ret (.bool false) [])
             (.br (!(decide (x.alive = y.alive)))
              (.ret (.bool false) [])
              (.br (decide (x.client = y.client))
               (.br (x.hasUser == y.hasUser)
                (.br (decide (x.user = y.user))
                 (.br (x.hasPass == y.hasPass)
                  (.br (decide (x.pass = y.pass))
                   (.br (x.hasWill == y.hasWill)
                    (.br (x.session == y.session)
                     (.ret (.bool (decide (x.code = y.code))) [])
                     (.ret (.bool false) []))
                    (.ret (.bool false) []))
                   (.ret (.bool false) []))
                  (.ret (.bool false) []))
                 (.ret (.bool false) []))
                (.ret (.bool false) []))
               (.ret (.bool false) []))))))))))))))

theorem T_ksame (x y : PacketV) (R : Type) (kk : AV El → List (HE El) → Option R) : evf 0 l_ksame Try.f45 (fun _ => none) [] ⟨0, false, false⟩ [.agg (aPkt x), .agg (aPkt y)] [] R kk = (t_ksame x y).go kk := by kernel_rfl

theorem c_ksame : CT 45 (fsOf 0 s_ksame) := by
  refine Ct.of base_ok Try.func45 rfl rfl (l := l_ksame) ⟨c_kswill, c_sameI, c_sameF, c_sameP, trivial⟩ fun H ρ args vals h v h' hv hs => ?_
  unfold s_ksame at hs
  split at hs
  · rename_i c1 c2
    split at hs
    · rename_i x hdec_x
      split at hs
      · rename_i y hdec_y
        obtain ⟨rfl, rfl⟩ := hs
        have hv := hv.shrX
        rw [show ([.agg c1, .agg c2] : List (AV El)).map AV.shrX = [.agg (aPkt x), .agg (aPkt y)] from by rw [toPkt_eq hdec_x, toPkt_eq hdec_y]; rfl] at hv
        have hok := hv.ok
        refine ⟨_, hv, .tree (T_ksame x y) ?_⟩
        simp only [okL, AV.ok, and_true, true_and] at hok
        simp only [t_ksame, Rs.all, std0, stdA]
        clear hv hok hdec_x hdec_y
        simp only [eq_pktEq]
        obtain ⟨a1, a2, a3, a4, a5, a6, a7, a8, a9, a10, a11, a12, a13, a14, a15, w, a17, a18, a19, a20, a21⟩ := x
        obtain ⟨b1, b2, b3, b4, b5, b6, b7, b8, b9, b10, b11, b12, b13, b14, b15, z, b17, b18, b19, b20, b21⟩ := y
        simp only [willEq_iff, intsEq_iff, filtersEq_iff, propsEq_iff, PacketV.mk.injEq, beq_iff_eq]
        have hw := @willEq_iff w z
        have hi := @intsEq_iff a19 b19
        have hf := @filtersEq_iff a20 b20
        have hp := @propsEq_iff a21 b21
        repeat' (first | intro _ | apply And.intro)
        all_goals grind
        
      · cases hs
    · cases hs
  · cases hs

end Go.Ev.A

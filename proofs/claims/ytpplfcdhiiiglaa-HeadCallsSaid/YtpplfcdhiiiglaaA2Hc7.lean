/- HeadCalls: the law's function. Own work. -/
import Derived.Test.YtpplfcdhiiiglaaA2Cx
import Derived.Test.YtpplfcdhiiiglaaA2Hs7
namespace Go.Ev.A
open Go.Proofs Go.Ev.Pl
set_option maxRecDepth 100000
set_option linter.unusedSimpArgs false
set_option linter.unusedVariables false

noncomputable def s_hlives : Sem1 El := fun args h => match args, h with
  | [], [] => .ret (.bool true) []
  | _, _ => .bad

noncomputable abbrev l_hlives : List (Nat × FS El) := [(34, fsOf 0 s_hbytes)]

noncomputable def t_hlives : Rs El :=
  .br (decide ((hcheck (4 : Int) ⟨(3 : Int), (2 : Int), (200 : Int)⟩) = 0))
  (.ret (.bool (decide ((hbytes (4 : Int) ⟨(3 : Int), (2 : Int), (200 : Int)⟩) = ([50, 200, 1] : List UInt8)))) [])
  (.ret (.bool false) [])

theorem T_hlives (R : Type) (kk : AV El → List (HE El) → Option R) : evf 0 l_hlives Try.f31 (fun _ => none) [] ⟨0, false, false⟩ [] [] R kk = (t_hlives).go kk := by kernel_rfl

theorem c_hlives : CT 31 (fsOf 0 s_hlives) := by
  refine Ct.of base_ok Try.func31 rfl rfl (l := l_hlives) ⟨c_hbytes, trivial⟩ fun H ρ args vals h v h' hv hs => ?_
  unfold s_hlives at hs
  split at hs
  · skip
    obtain ⟨rfl, rfl⟩ := hs
    have hok := hv.ok
    refine ⟨_, hv, .tree (T_hlives) ?_⟩
    simp only [t_hlives, Rs.all, std0, stdA]
    have h1 : hcheck 4 ⟨3, 2, 200⟩ = 0 := by decide
    exact ⟨fun _ => by decide +kernel, fun h => absurd h1 h⟩
  · cases hs

theorem light_lens {p : PacketV} (h : lightPkt p = true) : p.codes.length ≤ 4294967296 ∧ p.filters.length ≤ 4294967296 ∧ p.props.length ≤ 4294967296 ∧ p.will.props.length ≤ 4294967296 := by
  unfold lightPkt lightProps at h
  simp only [Bool.and_eq_true, decide_eq_true_eq] at h
  omega

theorem pktEq_self (p : PacketV) : pktEq p p = true := pktEq_iff.2 rfl

noncomputable def s_lcalls : Sem1 El := fun args h => match args, h with
  | [.int .i64 v, .agg [.int .i64 k, .int .i64 f, .int .i64 l], .agg c1, .agg c2, .str s], [] => (match toPktS c1 with
    | some p => (match toPktS c2 with
    | some q => .ret (.bool true) []
    | none => .bad)
    | none => .bad)
  | _, _ => .bad

noncomputable abbrev l_lcalls : List (Nat × FS El) := [(31, fsOf 0 s_hlives), (39, fsOf 0 s_lpkt), (32, fsOf 0 s_hflags), (40, fsOf 0 s_rhflags), (34, fsOf 0 s_hbytes), (41, fsOf 0 s_rhbytes), (35, fsOf 0 s_hread), (42, fsOf 0 s_rhread), (33, fsOf 0 s_check), (43, fsOf 0 s_rcheck), (37, fsOf 0 s_psame), (44, fsOf 0 s_rpsame), (36, fsOf 0 s_copy), (45, fsOf 0 s_ksame), (38, fsOf 0 s_name), (46, fsOf 0 s_rname)]

noncomputable def t_lcalls (v k f l : Int) (p q : PacketV) (s : List UInt8) : Rs El :=
  .br (!(lightPkt p))
  (.ret (.bool true) [])
  (.br (!(lightPkt q))
   (.ret (.bool true) [])
   (.br (decide (60 < (s.length : Int)))
    (.ret (.bool true) [])
    (.br (decide ((hflagsN v p.kind p.qos p.dup p.retain) = (hflagsN v p.kind p.qos p.dup p.retain)))
     (.br (decide ((hflagsE v p.kind p.qos p.dup) = (hflagsE v p.kind p.qos p.dup)))
      (.br (decide ((hbytes v ⟨k, f, l⟩) = (hbytes v ⟨k, f, l⟩)))
       (.br (decide ((hcheck v ⟨k, f, l⟩) = (hcheck v ⟨k, f, l⟩)))
        (.br ((decide (((hread v s).h.kind) = ((hread v s).h.kind))) && ((decide (((hread v s).h.flags) = ((hread v s).h.flags))) && ((decide (((hread v s).h.length) = ((hread v s).h.length))) && true)))
         (.br (decide (((hread v s).size) = ((hread v s).size)))
          (.br (decide (((hread v s).e) = ((hread v s).e)))
           (.br (decide ((hcheck v ⟨k, f, l⟩) = (hcheck v ⟨k, f, l⟩)))
            (.br ((pktEq p q) == (pktEq p q))
             (.pre (decide (p.codes.length ≤ 4294967296) && decide (p.filters.length ≤ 4294967296) && decide (p.props.length ≤ 4294967296) && decide (p.will.props.length ≤ 4294967296))
              (.br (pktEq p p)
               (.ret (.bool (decide ((nameB k) = (nameB k)))) [])
               (.ret (.bool false) [])))
             (.ret (.bool false) []))
            (.ret (.bool false) []))
           (.ret (.bool false) []))
          (.ret (.bool false) []))
         (.ret (.bool false) []))
        (.ret (.bool false) []))
       (.ret (.bool false) []))
      (.ret (.bool false) []))
     (.ret (.bool false) []))))

theorem T_lcalls (v k f l : Int) (p q : PacketV) (s : List UInt8) (R : Type) (kk : AV El → List (HE El) → Option R) : evf 0 l_lcalls Try.f12 (fun _ => none) [] ⟨0, false, false⟩ [.int .i64 v, .agg [.int .i64 k, .int .i64 f, .int .i64 l], .agg (aPkt p), .agg (aPkt q), .str s] [] R kk = (t_lcalls v k f l p q s).go kk := by kernel_rfl

theorem c_lcalls : CT 12 (fsOf 0 s_lcalls) := by
  refine Ct.of base_ok Try.func12 rfl rfl (l := l_lcalls) ⟨c_hlives, c_lpkt, c_hflags, c_rhflags, c_hbytes, c_rhbytes, c_hread, c_rhread, c_check, c_rcheck, c_psame, c_rpsame, c_copy, c_ksame, c_name, c_rname, trivial⟩ fun H ρ args vals h v h' hv hs => ?_
  unfold s_lcalls at hs
  split at hs
  · rename_i v k f l c1 c2 s
    split at hs
    · rename_i p hdec_p
      split at hs
      · rename_i q hdec_q
        obtain ⟨rfl, rfl⟩ := hs
        have hv := hv.shrX
        rw [show ([.int .i64 v, .agg [.int .i64 k, .int .i64 f, .int .i64 l], .agg c1, .agg c2, .str s] : List (AV El)).map AV.shrX = [.int .i64 v, .agg [.int .i64 k, .int .i64 f, .int .i64 l], .agg (aPkt p), .agg (aPkt q), .str s] from by rw [toPktS_eq hdec_p, toPktS_eq hdec_q]; rfl] at hv
        have hok := hv.ok
        refine ⟨_, hv, .tree (T_lcalls v k f l p q s) ?_⟩
        simp only [okL, AV.ok, and_true, true_and] at hok
        simp only [t_lcalls, Rs.all, std0, stdA]
        clear hv hok hdec_p hdec_q
        refine ⟨fun _ => trivial, fun hp => ⟨fun _ => trivial, fun hq => ⟨fun _ => trivial, fun _ => ?_⟩⟩⟩
        obtain ⟨a1, a2, a3, a4⟩ := light_lens hp
        have hs := pktEq_self p
        simp [a1, a2, a3, a4, hs]
      · cases hs
    · cases hs
  · cases hs

def pktSh : List Sh := [.int .i64, .bool, .bool, .int .i64, .int .i64, .str, .str, .bool, .int .i64, .str, .bool, .str, .bool, .str, .bool, .str, .str, .int .i64, .bool, .list 63, .bool, .int .i64, .list 3, .list 81, .list 63]

theorem pktSh_fits {cs : List (AV El)} (h : fitsL pktSh cs) : ∃ p : PacketV, cs = aPkt p := by
  match cs, h with
  | [a0, a1, a2, a3, a4, a5, a6, a7, a8, a9, a10, a11, a12, a13, a14, a15, a16, a17, a18, a19, a20, a21, a22, a23, a24], ⟨h0, h1, h2, h3, h4, h5, h6, h7, h8, h9, h10, h11, h12, h13, h14, h15, h16, h17, h18, h19, h20, h21, h22, h23, h24, _⟩ =>
    obtain ⟨x0, rfl, _⟩ := fits_int h0
    obtain ⟨x1, rfl⟩ := fits_bool h1
    obtain ⟨x2, rfl⟩ := fits_bool h2
    obtain ⟨x3, rfl, _⟩ := fits_int h3
    obtain ⟨x4, rfl, _⟩ := fits_int h4
    obtain ⟨x5, rfl, _⟩ := fits_str h5
    obtain ⟨x6, rfl, _⟩ := fits_str h6
    obtain ⟨x7, rfl⟩ := fits_bool h7
    obtain ⟨x8, rfl, _⟩ := fits_int h8
    obtain ⟨x9, rfl, _⟩ := fits_str h9
    obtain ⟨x10, rfl⟩ := fits_bool h10
    obtain ⟨x11, rfl, _⟩ := fits_str h11
    obtain ⟨x12, rfl⟩ := fits_bool h12
    obtain ⟨x13, rfl, _⟩ := fits_str h13
    obtain ⟨x14, rfl⟩ := fits_bool h14
    obtain ⟨x15, rfl, _⟩ := fits_str h15
    obtain ⟨x16, rfl, _⟩ := fits_str h16
    obtain ⟨x17, rfl, _⟩ := fits_int h17
    obtain ⟨x18, rfl⟩ := fits_bool h18
    obtain ⟨x19, rfl, _⟩ := fits_list h19
    obtain ⟨x20, rfl⟩ := fits_bool h20
    obtain ⟨x21, rfl, _⟩ := fits_int h21
    obtain ⟨x22, rfl, _⟩ := fits_list h22
    obtain ⟨x23, rfl, _⟩ := fits_list h23
    obtain ⟨x24, rfl, _⟩ := fits_list h24
    exact ⟨(⟨x0, x1, x2, x3, x4, x5, x6, x7, x8, x9, x10, x11, x12, x13, x14, ⟨x15, x16, x17, x18, x19⟩, x20, x21, x22, x23, x24⟩ : PacketV), rfl⟩

def headCalls_shs : List (Bool × List Sh) := [(false, [.int .i64]), (true, [.int .i64, .int .i64, .int .i64]), (true, pktSh), (true, pktSh), (false, [.str])]

theorem headCalls_leads : ∀ xs : List (AV El), argsFit headCalls_shs xs → ∃ h', (s_lcalls xs []).leads (.bool true) h' := by
  intro xs h
  match xs, h with
  | [a, b, c, d, e], ⟨h1, h2, h3, h4, h5, _⟩ =>
    obtain ⟨_, rfl, _⟩ := fits_int h1.1
    obtain ⟨hs, rfl, hf⟩ := h2
    obtain ⟨p, rfl, hp⟩ := h3
    obtain ⟨q, rfl, hq⟩ := h4
    obtain ⟨_, rfl, _⟩ := fits_str h5.1
    obtain ⟨p, rfl⟩ := pktSh_fits hp
    obtain ⟨q, rfl⟩ := pktSh_fits hq
    match hs, hf with
    | [x, y, z], ⟨f1, f2, f3, _⟩ =>
      obtain ⟨_, rfl, _⟩ := fits_int f1
      obtain ⟨_, rfl, _⟩ := fits_int f2
      obtain ⟨_, rfl, _⟩ := fits_int f3
      exact ⟨[], rfl, rfl⟩

end Go.Ev.A

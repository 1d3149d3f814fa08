/- Heads: the program's functions. Own work. -/
import Derived.Test.YtpplfcdhiiiglaaA2Cx
import Derived.Test.YtpplfcdhiiiglaaHs
import Derived.Test.YtpplfcdhiiiglaaHp
import Derived.Test.YtpplfcdhiiiglaaA2Oc
import Derived.Test.YtpplfcdhiiiglaaA2Va
namespace Go.Ev.A
open Go.Proofs Go.Ev.Pl
set_option maxRecDepth 100000
set_option linter.unusedSimpArgs false
set_option linter.unusedVariables false

noncomputable def s_known : Sem1 El := fun args h => match args, h with
  | [.int .i64 v], [] => .ret (.bool (known v)) []
  | _, _ => .bad

noncomputable abbrev l_known : List (Nat × FS El) := []

noncomputable def t_known (v : Int) : Rs El :=
  .br (decide (v = 4))
  (.ret (.bool true) [])
  (.ret (.bool (decide (v = 5))) [])

theorem T_known (v : Int) (R : Type) (kk : AV El → List (HE El) → Option R) : evf 0 l_known Try.f48 (fun _ => none) [] ⟨0, false, false⟩ [.int .i64 v] [] R kk = (t_known v).go kk := by kernel_rfl

theorem c_known : CT 48 (fsOf 0 s_known) := by
  refine Ct.of base_ok Try.func48 rfl rfl (l := l_known) trivial fun H ρ args vals h v h' hv hs => ?_
  unfold s_known at hs
  split at hs
  · rename_i v
    obtain ⟨rfl, rfl⟩ := hs
    have hok := hv.ok
    refine ⟨_, hv, .tree (T_known v) ?_⟩
    simp only [okL, AV.ok, and_true, true_and] at hok
    simp only [t_known, Rs.all, std0, stdA]
    grind [known]
  · cases hs

noncomputable def s_kinds : Sem1 El := fun args h => match args, h with
  | [.int .i64 v, .int .i64 k], [] => .ret (.bool (kinds v k)) []
  | _, _ => .bad

noncomputable abbrev l_kinds : List (Nat × FS El) := []

noncomputable def t_kinds (v k : Int) : Rs El :=
  .br (decide (v = 5))
  (.br (decide (1 ≤ k))
   (.ret (.bool (decide (k ≤ 15))) [])
   (.ret (.bool false) []))
  (.br (decide (1 ≤ k))
   (.ret (.bool (decide (k ≤ 14))) [])
   (.ret (.bool false) []))

theorem T_kinds (v k : Int) (R : Type) (kk : AV El → List (HE El) → Option R) : evf 0 l_kinds Try.f49 (fun _ => none) [] ⟨0, false, false⟩ [.int .i64 v, .int .i64 k] [] R kk = (t_kinds v k).go kk := by kernel_rfl

theorem c_kinds : CT 49 (fsOf 0 s_kinds) := by
  refine Ct.of base_ok Try.func49 rfl rfl (l := l_kinds) trivial fun H ρ args vals h v h' hv hs => ?_
  unfold s_kinds at hs
  split at hs
  · rename_i v k
    obtain ⟨rfl, rfl⟩ := hs
    have hok := hv.ok
    refine ⟨_, hv, .tree (T_kinds v k) ?_⟩
    simp only [okL, AV.ok, and_true, true_and] at hok
    simp only [t_kinds, Rs.all, std0, stdA]
    grind [kinds]
  · cases hs

noncomputable def s_fixed : Sem1 El := fun args h => match args, h with
  | [.int .i64 k], [] => .ret (.int .i64 (fixed k)) []
  | _, _ => .bad

noncomputable abbrev l_fixed : List (Nat × FS El) := []

noncomputable def t_fixed (k : Int) : Rs El :=
  .br (decide (k = 6))
  (.ret (.int .i64 2) [])
  (.br (decide (k = 8))
   (.ret (.int .i64 2) [])
   (.br (decide (k = 10))
    (.ret (.int .i64 2) [])
    (.ret (.int .i64 0) [])))

theorem T_fixed (k : Int) (R : Type) (kk : AV El → List (HE El) → Option R) : evf 0 l_fixed Try.f50 (fun _ => none) [] ⟨0, false, false⟩ [.int .i64 k] [] R kk = (t_fixed k).go kk := by kernel_rfl

theorem c_fixed : CT 50 (fsOf 0 s_fixed) := by
  refine Ct.of base_ok Try.func50 rfl rfl (l := l_fixed) trivial fun H ρ args vals h v h' hv hs => ?_
  unfold s_fixed at hs
  split at hs
  · rename_i k
    obtain ⟨rfl, rfl⟩ := hs
    have hok := hv.ok
    refine ⟨_, hv, .tree (T_fixed k) ?_⟩
    simp only [okL, AV.ok, and_true, true_and] at hok
    simp only [t_fixed, Rs.all, std0, stdA]
    grind [fixed]
  · cases hs

noncomputable def s_flagged : Sem1 El := fun args h => match args, h with
  | [.int .i64 k, .int .i64 f], [] => .ret (.bool (flagged k f)) []
  | _, _ => .bad

noncomputable abbrev l_flagged : List (Nat × FS El) := [(50, fsOf 0 s_fixed)]

noncomputable def t_flagged (k f : Int) : Rs El :=
  .br (!(decide (k = 3)))
  (.ret (.bool (decide (f = (fixed k)))) [])
  (.br (decide (f < 0))
   (.ret (.bool false) [])
   (.br (decide (15 < f))
    (.ret (.bool false) [])
    (.br (!(decide ((iand .i64 f (6 : Int)) = 6)))
     (.br (!(decide ((iand .i64 f (6 : Int)) = 0)))
      (.ret (.bool true) [])
      (.ret (.bool (decide ((iand .i64 f (8 : Int)) = 0))) []))
     (.ret (.bool false) []))))

theorem T_flagged (k f : Int) (R : Type) (kk : AV El → List (HE El) → Option R) : evf 0 l_flagged Try.f51 (fun _ => none) [] ⟨0, false, false⟩ [.int .i64 k, .int .i64 f] [] R kk = (t_flagged k f).go kk := by kernel_rfl

theorem c_flagged : CT 51 (fsOf 0 s_flagged) := by
  refine Ct.of base_ok Try.func51 rfl rfl (l := l_flagged) ⟨c_fixed, trivial⟩ fun H ρ args vals h v h' hv hs => ?_
  unfold s_flagged at hs
  split at hs
  · rename_i k f
    obtain ⟨rfl, rfl⟩ := hs
    have hok := hv.ok
    refine ⟨_, hv, .tree (T_flagged k f) ?_⟩
    simp only [okL, AV.ok, and_true, true_and] at hok
    simp only [t_flagged, Rs.all, std0, stdA]
    refine ⟨fun h => by simp [flagged, h], fun h => ⟨fun h2 => ?_, fun h2 => ⟨fun h3 => ?_, fun h3 => ?_⟩⟩⟩
    · have : pubFl f = false := by rw [← Bool.not_eq_true, pubFl_iff]; omega
      simp [flagged, h, this]
    · have : pubFl f = false := by rw [← Bool.not_eq_true, pubFl_iff]; omega
      simp [flagged, h, this]
    · have e6 : iand .i64 f 6 = f / 2 % 4 * 2 := and6 (by omega) (by omega)
      have e8 : iand .i64 f 8 = f / 8 * 8 := and8 (by omega) (by omega)
      rw [e6, e8]
      have hp := @pubFl_iff f
      unfold flagged
      rw [if_pos h]
      refine ⟨fun h4 => ⟨fun h5 => ?_, fun h5 => ?_⟩, fun h4 => ?_⟩
      · exact (hp.2 (by omega)).symm
      · rw [Bool.eq_iff_iff, hp]
        simp only [decide_eq_true_eq]
        omega
      · symm
        rw [← Bool.not_eq_true, hp]
        omega
  · cases hs

theorem vsize_zero {n : Int} : vsize n = 0 ↔ mayB n = false := by
  constructor
  · intro h
    cases hm : mayB n
    · rfl
    · have := mayB_iff.1 hm
      have := vbytes_len this.1 this.2
      omega
  · intro h
    simp [vsize, h]
theorem vbytes_length {n : Int} (h0 : 0 ≤ n) (h1 : n ≤ 268435455) : (vbytes n).length ≤ 4 := by
  have := vsize_len h0 h1
  have := vbytes_len h0 h1
  omega

noncomputable def s_check : Sem1 El := fun args h => match args, h with
  | [.int .i64 v, .agg [.int .i64 k, .int .i64 f, .int .i64 l]], [] => .ret (.int .i64 (hcheck v ⟨k, f, l⟩)) []
  | _, _ => .bad

noncomputable abbrev l_check : List (Nat × FS El) := [(48, fsOf 0 s_known), (49, fsOf 0 s_kinds), (51, fsOf 0 s_flagged), (28, fsOf 0 s_vsize)]

noncomputable def t_check (v k f l : Int) : Rs El :=
  .br (!(known v))
  (.ret (.int .i64 2) [])
  (.br (!(kinds v k))
   (.ret (.int .i64 8) [])
   (.br (!(flagged k f))
    (.ret (.int .i64 7) [])
    (.br (decide ((vsize l) = 0))
     (.ret (.int .i64 2) [])
     (.ret (.int .i64 0) []))))

theorem T_check (v k f l : Int) (R : Type) (kk : AV El → List (HE El) → Option R) : evf 0 l_check Try.f33 (fun _ => none) [] ⟨0, false, false⟩ [.int .i64 v, .agg [.int .i64 k, .int .i64 f, .int .i64 l]] [] R kk = (t_check v k f l).go kk := by kernel_rfl

theorem c_check : CT 33 (fsOf 0 s_check) := by
  refine Ct.of base_ok Try.func33 rfl rfl (l := l_check) ⟨c_known, c_kinds, c_flagged, c_vsize, trivial⟩ fun H ρ args vals h v h' hv hs => ?_
  unfold s_check at hs
  split at hs
  · rename_i v k f l
    obtain ⟨rfl, rfl⟩ := hs
    have hok := hv.ok
    refine ⟨_, hv, .tree (T_check v k f l) ?_⟩
    simp only [okL, AV.ok, and_true, true_and] at hok
    simp only [t_check, Rs.all, std0, stdA]
    simp only [vsize_zero]
    refine ⟨fun h => by simp [hcheck, h], fun h => ⟨fun h2 => by simp [hcheck, h, h2], fun h2 => ⟨fun h3 => by simp [hcheck, h, h2, h3], fun h3 => ⟨fun h4 => by simp [hcheck, h, h2, h3, h4], fun h4 => by simp [hcheck, h, h2, h3, h4]⟩⟩⟩⟩
  · cases hs

noncomputable def s_hflags : Sem1 El := fun args h => match args, h with
  | [.int .i64 v, .agg c1], [] => (match toPkt c1 with
    | some p => .ret (.tup [.int .i64 (hflagsN v p.kind p.qos p.dup p.retain), .int .i64 (hflagsE v p.kind p.qos p.dup)]) []
    | none => .bad)
  | _, _ => .bad

noncomputable abbrev l_hflags : List (Nat × FS El) := [(48, fsOf 0 s_known), (49, fsOf 0 s_kinds), (50, fsOf 0 s_fixed)]

noncomputable def t_hflags (v : Int) (p : PacketV) : Rs El :=
  .br (!(known v))
  (.ret (.tup [.int .i64 0, .int .i64 2]) [])
  (.br (!(kinds v p.kind))
   (.ret (.tup [.int .i64 0, .int .i64 8]) [])
   (.br (!(decide (p.kind = 3)))
    (.ret (.tup [.int .i64 (fixed p.kind), .int .i64 0]) [])
    (.br (decide (p.qos < 0))
     (.ret (.tup [.int .i64 0, .int .i64 7]) [])
     (.br (decide (2 < p.qos))
      (.ret (.tup [.int .i64 0, .int .i64 7]) [])
      (.br (decide (p.qos = 0))
       (.br p.dup
        (.ret (.tup [.int .i64 0, .int .i64 7]) [])
        (.br p.retain
         (.br p.dup
          (.ret (.tup [.int .i64 (ior .i64 (ior .i64 (IntKind.i64.wrap (p.qos * 2)) (1 : Int)) (8 : Int)), .int .i64 0]) [])
          (.ret (.tup [.int .i64 (ior .i64 (IntKind.i64.wrap (p.qos * 2)) (1 : Int)), .int .i64 0]) []))
         (.br p.dup
          (.ret (.tup [.int .i64 (ior .i64 (IntKind.i64.wrap (p.qos * 2)) (8 : Int)), .int .i64 0]) [])
          (.ret (.tup [.int .i64 (IntKind.i64.wrap (p.qos * 2)), .int .i64 0]) []))))
       (.br p.retain
        (.br p.dup
         (.ret (.tup [.int .i64 (ior .i64 (ior .i64 (IntKind.i64.wrap (p.qos * 2)) (1 : Int)) (8 : Int)), .int .i64 0]) [])
         (.ret (.tup [.int .i64 (ior .i64 (IntKind.i64.wrap (p.qos * 2)) (1 : Int)), .int .i64 0]) []))
        (.br p.dup
         (.ret (.tup [.int .i64 (ior .i64 (IntKind.i64.wrap (p.qos * 2)) (8 : Int)), .int .i64 0]) [])
         (.ret (.tup [.int .i64 (IntKind.i64.wrap (p.qos * 2)), .int .i64 0]) []))))))))

theorem T_hflags (v : Int) (p : PacketV) (R : Type) (kk : AV El → List (HE El) → Option R) : evf 0 l_hflags Try.f32 (fun _ => none) [] ⟨0, false, false⟩ [.int .i64 v, .agg (aPkt p)] [] R kk = (t_hflags v p).go kk := by kernel_rfl

theorem c_hflags : CT 32 (fsOf 0 s_hflags) := by
  refine Ct.of base_ok Try.func32 rfl rfl (l := l_hflags) ⟨c_known, c_kinds, c_fixed, trivial⟩ fun H ρ args vals h v h' hv hs => ?_
  unfold s_hflags at hs
  split at hs
  · rename_i v c1
    split at hs
    · rename_i p hdec_p
      obtain ⟨rfl, rfl⟩ := hs
      have hv := hv.shrX
      rw [show ([.int .i64 v, .agg c1] : List (AV El)).map AV.shrX = [.int .i64 v, .agg (aPkt p)] from by rw [toPkt_eq hdec_p]; rfl] at hv
      have hok := hv.ok
      refine ⟨_, hv, .tree (T_hflags v p) ?_⟩
      simp only [okL, AV.ok, and_true, true_and] at hok
      simp only [t_hflags, Rs.all, std0, stdA]
      clear hv hok hdec_p
      have o1 : 0 ≤ p.qos → p.qos ≤ 2 → ior .i64 (p.qos * 2) 1 = p.qos * 2 + 1 := fun a b => by
        have : ior .i64 (p.qos * 2) 1 = p.qos * 2 + 1 - p.qos * 2 % 2 := or1 (by omega) (by omega)
        omega
      have o8 : 0 ≤ p.qos → p.qos ≤ 2 → ior .i64 (p.qos * 2) 8 = p.qos * 2 + 8 := fun a b => or8 (by omega) (by omega)
      have o9 : 0 ≤ p.qos → p.qos ≤ 2 → ior .i64 (p.qos * 2 + 1) 8 = p.qos * 2 + 9 := fun a b => by
        have : ior .i64 (p.qos * 2 + 1) 8 = p.qos * 2 + 1 + 8 := or8 (by omega) (by omega)
        omega
      have hw : 0 ≤ p.qos → p.qos ≤ 2 → IntKind.i64.wrap (p.qos * 2) = p.qos * 2 := fun a b => wrap_i64 (by omega) (by omega)
      repeat' (first | intro _ | apply And.intro)
      all_goals grind [hflagsN, hflagsE]
    · cases hs
  · cases hs

noncomputable def s_hbytes : Sem1 El := fun args h => match args, h with
  | [.int .i64 v, .agg [.int .i64 k, .int .i64 f, .int .i64 l]], [] => .ret (.tup [.str (hbytes v ⟨k, f, l⟩), .int .i64 (hcheck v ⟨k, f, l⟩)]) []
  | _, _ => .bad

noncomputable abbrev l_hbytes : List (Nat × FS El) := [(33, fsOf 0 s_check), (24, fsOf 0 s_vbytes), (52, fsOf 0 s_put)]

noncomputable def t_hbytes (v k f l : Int) : Rs El :=
  .br (!(decide ((hcheck v ⟨k, f, l⟩) = 0)))
  (.ret (.tup [.str [], .int .i64 (hcheck v ⟨k, f, l⟩)]) [])
  (.pre (decide ((putB (IntKind.u64.wrap (ior .i64 (IntKind.i64.wrap (k * 16)) f)) (1 : Int)).length + (vbytes l).length ≤ maxCat)) (.ret (.tup [.str ((putB (IntKind.u64.wrap (ior .i64 (IntKind.i64.wrap (k * 16)) f)) (1 : Int)) ++ (vbytes l)), .int .i64 0]) []))

theorem T_hbytes (v k f l : Int) (R : Type) (kk : AV El → List (HE El) → Option R) : evf 0 l_hbytes Try.f34 (fun _ => none) [] ⟨0, false, false⟩ [.int .i64 v, .agg [.int .i64 k, .int .i64 f, .int .i64 l]] [] R kk = (t_hbytes v k f l).go kk := by kernel_rfl

theorem c_hbytes : CT 34 (fsOf 0 s_hbytes) := by
  refine Ct.of base_ok Try.func34 rfl rfl (l := l_hbytes) ⟨c_check, c_vbytes, c_put, trivial⟩ fun H ρ args vals h v h' hv hs => ?_
  unfold s_hbytes at hs
  split at hs
  · rename_i v k f l
    obtain ⟨rfl, rfl⟩ := hs
    have hok := hv.ok
    refine ⟨_, hv, .tree (T_hbytes v k f l) ?_⟩
    simp only [okL, AV.ok, and_true, true_and] at hok
    simp only [t_hbytes, Rs.all, std0, stdA]
    refine ⟨fun h => by simp [hbytes, h], fun h => ?_⟩
    obtain ⟨a1, a2, a3, a4, a5, a6⟩ := hcheck_range h
    dsimp only at a1 a2 a3 a4 a5 a6
    have e1 : ior .i64 (IntKind.i64.wrap (k * 16)) f = k * 16 + f := by
      rw [wrap_i64 (by omega) (by omega)]
      exact orHead (by omega) (by omega) a3 (by omega)
    have e2 : IntKind.u64.wrap (k * 16 + f) = k * 16 + f := by rw [wrap_u64]; omega
    have hl := vbytes_length a5 a6
    rw [e1, e2, putB_one (by omega) (by omega)]
    refine ⟨fun _ => by simp [hbytes, h], fun hc => hc ?_⟩
    simp [maxCat_eq]; omega
  · cases hs

noncomputable def s_hread : Sem1 El := fun args h => match args, h with
  | [.int .i64 v, .str s], [] => .ret (.tup [.agg [.int .i64 (hread v s).h.kind, .int .i64 (hread v s).h.flags, .int .i64 (hread v s).h.length], .int .i64 (hread v s).size, .int .i64 (hread v s).e]) []
  | _, _ => .bad

noncomputable abbrev l_hread : List (Nat × FS El) := [(48, fsOf 0 s_known), (33, fsOf 0 s_check), (26, fsOf 0 s_vread)]

noncomputable def t_hread (v : Int) (s : List UInt8) : Rs El :=
  .br (!(known v))
  (.ret (.tup [.agg [.int .i64 0, .int .i64 0, .int .i64 0], .int .i64 0, .int .i64 2]) [])
  (.br (decide (s = ([] : List UInt8)))
   (.ret (.tup [.agg [.int .i64 0, .int .i64 0, .int .i64 0], .int .i64 0, .int .i64 3]) [])
   (.pre (inl (0 : Int) s.length)
    (.pre (inl (0 : Int) s.length)
     (.br (!(decide ((hcheck v ⟨(IntKind.i64.wrap (Int.fdiv ((s.getD 0 0).toNat : Int) 16)), (IntKind.i64.wrap (iand .u8 ((s.getD 0 0).toNat : Int) (15 : Int))), (0 : Int)⟩) = 0)))
      (.ret (.tup [.agg [.int .i64 0, .int .i64 0, .int .i64 0], .int .i64 0, .int .i64 (hcheck v ⟨(IntKind.i64.wrap (Int.fdiv ((s.getD 0 0).toNat : Int) 16)), (IntKind.i64.wrap (iand .u8 ((s.getD 0 0).toNat : Int) (15 : Int))), (0 : Int)⟩)]) [])
      (.pre (inside (1 : Int) (s.length : Int) (s.length : Int) (s.length : Int))
       (.br (!(decide (((vread (cutB s (1 : Int) (s.length : Int))).e) = 0)))
        (.ret (.tup [.agg [.int .i64 0, .int .i64 0, .int .i64 0], .int .i64 0, .int .i64 ((vread (cutB s (1 : Int) (s.length : Int))).e)]) [])
        (.ret (.tup [.agg [.int .i64 (IntKind.i64.wrap (Int.fdiv ((s.getD 0 0).toNat : Int) 16)), .int .i64 (IntKind.i64.wrap (iand .u8 ((s.getD 0 0).toNat : Int) (15 : Int))), .int .i64 ((vread (cutB s (1 : Int) (s.length : Int))).n)], .int .i64 (IntKind.i64.wrap (((vread (cutB s (1 : Int) (s.length : Int))).size) + 1)), .int .i64 0]) [])))))))

theorem T_hread (v : Int) (s : List UInt8) (R : Type) (kk : AV El → List (HE El) → Option R) : evf 0 l_hread Try.f35 (fun _ => none) [] ⟨0, false, false⟩ [.int .i64 v, .str s] [] R kk = (t_hread v s).go kk := by kernel_rfl

theorem c_hread : CT 35 (fsOf 0 s_hread) := by
  refine Ct.of base_ok Try.func35 rfl rfl (l := l_hread) ⟨c_known, c_check, c_vread, trivial⟩ fun H ρ args vals h v h' hv hs => ?_
  unfold s_hread at hs
  split at hs
  · rename_i v s
    obtain ⟨rfl, rfl⟩ := hs
    have hok := hv.ok
    refine ⟨_, hv, .tree (T_hread v s) ?_⟩
    simp only [okL, AV.ok, and_true, true_and] at hok
    simp only [t_hread, Rs.all, std0, stdA]
    refine ⟨fun h => by simp [hread, h], fun h => ⟨fun h2 => by simp [hread, h, h2], fun h2 => ?_⟩⟩
    cases s with
    | nil => exact absurd rfl h2
    | cons b t =>
      have hb := b.toNat_lt
      have hlen := hok.2
      simp only [List.length_cons] at hlen
      have e0 : (((b :: t).getD 0 0).toNat : Int) = b.toNat := rfl
      have e3 : Int.fdiv (b.toNat : Int) 16 = (b.toNat : Int) / 16 := fdiv_nn (by decide)
      have e4 : iand .u8 (b.toNat : Int) 15 = (b.toNat : Int) % 16 := and15 (by omega) (by omega)
      have e5 : List.drop (Int.toNat 1) (b :: t) = t := rfl
      rw [e0, e3, e4, wrap_i64 (x := (b.toNat : Int) / 16) (by omega) (by omega), wrap_i64 (x := (b.toNat : Int) % 16) (by omega) (by omega), cutB_from, e5]
      refine ⟨fun _ => ⟨fun _ => ⟨fun h3 => by simp [hread, h, h3], fun h3 => ⟨fun _ => ⟨fun h4 => by simp [hread, h, h3, h4], fun h4 => ?_⟩, fun hc => hc (by simp; omega)⟩⟩, fun hc => hc (by simp)⟩, fun hc => hc (by simp)⟩
      obtain ⟨_, _, w3, w4, _⟩ := vread_written t h4
      rw [wrap_i64 (by omega) (by omega)]
      simp [hread, h, h3, h4]
    
  · cases hs

end Go.Ev.A

/- Headers: the program's functions, walked. Own work. -/
import Derived.Test.YtpplfcdhiiiglaaVw
import Derived.Test.YtpplfcdhiiiglaaVp
import Derived.Test.YtpplfcdhiiiglaaHp
import Derived.Test.YtpplfcdhiiiglaaOw
namespace Go.Ev.A
open Go.Proofs Go.Ev.Pl

set_option maxRecDepth 100000

def sem_known : Sem1 El := fun args h => match args, h with
  | [.int .i64 v], [] => .ret (.bool (known v)) []
  | _, _ => .bad

theorem T_known (R : Type) (v : Int) (kk : AV El → List (HE El) → Option R) : ev [] Try.f48 (fun _ => none) [] L0 [.int .i64 v] [] R kk =
  bif decide (v = 4) then kk (AV.bool true) [] else kk (AV.bool (decide (v = 5))) [] := by kernel_rfl

theorem c_known : CT 48 (fsOf 0 sem_known) := by
  refine Ct.of base_ok Try.func48 rfl rfl (l := []) trivial fun H ρ args vals h v h' hv hs => ?_
  unfold sem_known at hs
  split at hs
  · rename_i v
    obtain ⟨rfl, rfl⟩ := hs
    refine ⟨_, hv, .plain _ fun R k => (T_known R v k).trans ?_⟩
    unfold known
    cases decide (v = 4) <;> rfl
  · cases hs

def sem_kinds : Sem1 El := fun args h => match args, h with
  | [.int .i64 v, .int .i64 k], [] => .ret (.bool (kinds v k)) []
  | _, _ => .bad

theorem T_kinds (R : Type) (v k : Int) (kk : AV El → List (HE El) → Option R) : ev [] Try.f49 (fun _ => none) [] L0 [.int .i64 v, .int .i64 k] [] R kk =
  bif decide (v = 5) then bif decide (1 ≤ k) then kk (AV.bool (decide (k ≤ Int.ofNat 15))) [] else kk (AV.bool false) []
  else bif decide (1 ≤ k) then kk (AV.bool (decide (k ≤ Int.ofNat 14))) [] else kk (AV.bool false) [] := by kernel_rfl

theorem c_kinds : CT 49 (fsOf 0 sem_kinds) := by
  refine Ct.of base_ok Try.func49 rfl rfl (l := []) trivial fun H ρ args vals h v h' hv hs => ?_
  unfold sem_kinds at hs
  split at hs
  · rename_i v k
    obtain ⟨rfl, rfl⟩ := hs
    refine ⟨_, hv, .plain _ fun R kk => (T_kinds R v k kk).trans ?_⟩
    unfold kinds
    by_cases h1 : v = 5 <;> by_cases h2 : 1 ≤ k <;> simp [h1, h2]
  · cases hs

def sem_fixed : Sem1 El := fun args h => match args, h with
  | [.int .i64 k], [] => .ret (.int .i64 (fixed k)) []
  | _, _ => .bad

theorem T_fixed (R : Type) (k : Int) (kk : AV El → List (HE El) → Option R) : ev [] Try.f50 (fun _ => none) [] L0 [.int .i64 k] [] R kk =
  bif decide (k = 6) then
    bif decide (k = 6) then kk (AV.int IntKind.i64 (Int.ofNat 2)) [] else kk (AV.int IntKind.i64 (Int.ofNat 0)) []
  else
    bif decide (k = 8) then
      bif decide (k = 8) then kk (AV.int IntKind.i64 (Int.ofNat 2)) [] else kk (AV.int IntKind.i64 (Int.ofNat 0)) []
    else bif decide (k = 10) then kk (AV.int IntKind.i64 (Int.ofNat 2)) [] else kk (AV.int IntKind.i64 (Int.ofNat 0)) [] := by kernel_rfl

theorem c_fixed : CT 50 (fsOf 0 sem_fixed) := by
  refine Ct.of base_ok Try.func50 rfl rfl (l := []) trivial fun H ρ args vals h v h' hv hs => ?_
  unfold sem_fixed at hs
  split at hs
  · rename_i k
    obtain ⟨rfl, rfl⟩ := hs
    refine ⟨_, hv, .plain _ fun R kk => (T_fixed R k kk).trans ?_⟩
    unfold fixed
    by_cases h1 : k = 6 <;> by_cases h2 : k = 8 <;> by_cases h3 : k = 10 <;> simp [h1, h2, h3]
  · cases hs

def sem_flagged : Sem1 El := fun args h => match args, h with
  | [.int .i64 k, .int .i64 f], [] => .ret (.bool (flagged k f)) []
  | _, _ => .bad

theorem T_flagged (R : Type) (k0 f : Int) (kk : AV El → List (HE El) → Option R) : ev [(50, fsOf 0 sem_fixed)] Try.f51 (fun _ => none) [] L0 [.int .i64 k0, .int .i64 f] [] R kk =
  bif !decide (k0 = 3) then kk (AV.bool (decide (f = fixed k0))) []
  else
    bif decide (f < 0) then kk (AV.bool false) []
    else
      bif decide (15 < f) then kk (AV.bool false) []
      else
        bif
            !decide
                (IntKind.i64.wrap (↑(BitVec.ofInt IntKind.i64.bits f &&& BitVec.ofInt IntKind.i64.bits 6).toNat : Int) =
                  6) then
          bif
              !decide
                  (IntKind.i64.wrap (↑(BitVec.ofInt IntKind.i64.bits f &&& BitVec.ofInt IntKind.i64.bits 6).toNat : Int) =
                    0) then
            kk (AV.bool true) []
          else
            kk
              (AV.bool
                (decide
                  (IntKind.i64.wrap (↑(BitVec.ofInt IntKind.i64.bits f &&& BitVec.ofInt IntKind.i64.bits 8).toNat : Int) =
                    0)))
              []
        else kk (AV.bool false) [] := by kernel_rfl

theorem c_flagged : CT 51 (fsOf 0 sem_flagged) := by
  refine Ct.of base_ok Try.func51 rfl rfl (l := [(50, fsOf 0 sem_fixed)]) ⟨c_fixed, trivial⟩ fun H ρ args vals h v h' hv hs => ?_
  unfold sem_flagged at hs
  split at hs
  · rename_i k f
    obtain ⟨rfl, rfl⟩ := hs
    refine ⟨_, hv, .plain _ fun R kk => (T_flagged R k f kk).trans ?_⟩
    unfold flagged
    by_cases h1 : k = 3
    · simp only [h1, decide_true, Bool.not_true, cond_false, if_true]
      by_cases h2 : f < 0
      · have : pubFl f = false := by rw [← Bool.not_eq_true, pubFl_iff]; omega
        simp [h2, this]
      by_cases h3 : 15 < f
      · have : pubFl f = false := by rw [← Bool.not_eq_true, pubFl_iff]; omega
        simp [h2, h3, this]
      rw [and6 (by omega) (by omega), and8 (by omega) (by omega)]
      simp only [h2, h3, decide_false, cond_false]
      by_cases h4 : f / 2 % 4 = 3
      · have : pubFl f = false := by rw [← Bool.not_eq_true, pubFl_iff]; omega
        simp [h4, this]
      · have h4' : ¬ f / 2 % 4 * 2 = 6 := by omega
        by_cases h5 : f / 2 % 4 = 0
        · by_cases h6 : f < 8
          · have : pubFl f = true := by rw [pubFl_iff]; omega
            have h7 : f / 8 = 0 := by omega
            simp [h5, h7, this]
          · have : pubFl f = false := by rw [← Bool.not_eq_true, pubFl_iff]; omega
            have h7 : ¬ f / 8 * 8 = 0 := by omega
            simp [h5, h7, this]
        · have h5' : ¬ f / 2 % 4 * 2 = 0 := by omega
          have : pubFl f = true := by rw [pubFl_iff]; omega
          simp only [h4', h5', this, decide_false, Bool.not_false, cond_true]
    · simp [h1]
  · cases hs

def sem_check : Sem1 El := fun args h => match args, h with
  | [.int .i64 v, .agg [.int .i64 k, .int .i64 f, .int .i64 l]], [] => .ret (.int .i64 (hcheck v ⟨k, f, l⟩)) []
  | _, _ => .bad

abbrev l_check : List (Nat × FS El) := [(48, fsOf 0 sem_known), (49, fsOf 0 sem_kinds), (51, fsOf 0 sem_flagged), (28, fs_size)]

theorem T_check (R : Type) (v k0 f l : Int) (kk : AV El → List (HE El) → Option R) : ev l_check Try.f33 (fun _ => none) [] L0 [.int .i64 v, .agg [.int .i64 k0, .int .i64 f, .int .i64 l]] [] R kk =
  bif !known v then kk (AV.int IntKind.i64 (Int.ofNat 2)) []
  else
    bif !kinds v k0 then kk (AV.int IntKind.i64 (Int.ofNat 8)) []
    else
      bif !flagged k0 f then kk (AV.int IntKind.i64 (Int.ofNat 7)) []
      else
        bif decide (vsize l = 0) then kk (AV.int IntKind.i64 (Int.ofNat 2)) []
        else kk (AV.int IntKind.i64 (Int.ofNat 0)) [] := by kernel_rfl

theorem vsize_zero {n : Int} : vsize n = 0 ↔ mayB n = false := by
  constructor
  · intro h
    cases hm : mayB n
    · rfl
    · have := mayB_iff.1 hm
      have := vbytes_len this.1 this.2
      omega
  · intro h
    simp [vsize, h]

theorem c_check : CT 33 (fsOf 0 sem_check) := by
  refine Ct.of base_ok Try.func33 rfl rfl (l := l_check) ⟨c_known, c_kinds, c_flagged, c_size, trivial⟩ fun H ρ args vals h v h' hv hs => ?_
  unfold sem_check at hs
  split at hs
  · rename_i v k f l
    obtain ⟨rfl, rfl⟩ := hs
    refine ⟨_, hv, .plain _ fun R kk => (T_check R v k f l kk).trans ?_⟩
    unfold hcheck
    cases known v
    · rfl
    cases kinds v k
    · rfl
    cases flagged k f
    · rfl
    cases hm : mayB l
    · have := vsize_zero.2 hm
      simp [this]
    · have : ¬ vsize l = 0 := fun e => by rw [vsize_zero.1 e] at hm; cases hm
      simp [this]
  · cases hs

/-! Flags -/

def sem_flags : Sem1 El := fun args h => match args, h with
  | [.int .i64 v, .agg cs], [] => match toPkt cs with
    | some p => .ret (.tup [.int .i64 (hflagsN v p.kind p.qos p.dup p.retain), .int .i64 (hflagsE v p.kind p.qos p.dup)]) []
    | none => .bad
  | _, _ => .bad

abbrev l_flags : List (Nat × FS El) := [(48, fsOf 0 sem_known), (49, fsOf 0 sem_kinds), (50, fsOf 0 sem_fixed)]

theorem T_flags (R : Type) (v : Int) (p : PacketV) (kk : AV El → List (HE El) → Option R) : ev l_flags Try.f32 (fun _ => none) [] L0 [.int .i64 v, .agg (aPkt p)] [] R kk =
  bif !known v then kk (AV.tup [AV.int IntKind.i64 (Int.ofNat 0), AV.int IntKind.i64 (Int.ofNat 2)]) []
  else
    bif !kinds v p.kind then kk (AV.tup [AV.int IntKind.i64 (Int.ofNat 0), AV.int IntKind.i64 (Int.ofNat 8)]) []
    else
      bif !decide (p.kind = 3) then kk (AV.tup [AV.int IntKind.i64 (fixed p.kind), AV.int IntKind.i64 (Int.ofNat 0)]) []
      else
        bif decide (p.qos < 0) then kk (AV.tup [AV.int IntKind.i64 (Int.ofNat 0), AV.int IntKind.i64 (Int.ofNat 7)]) []
        else
          bif decide (2 < p.qos) then kk (AV.tup [AV.int IntKind.i64 (Int.ofNat 0), AV.int IntKind.i64 (Int.ofNat 7)]) []
          else
            bif decide (p.qos = 0) then
              bif p.2 then kk (AV.tup [AV.int IntKind.i64 (Int.ofNat 0), AV.int IntKind.i64 (Int.ofNat 7)]) []
              else
                bif p.3 then
                  bif p.2 then
                    kk
                      (AV.tup
                        [AV.int IntKind.i64
                            (IntKind.i64.wrap
                              (↑(BitVec.ofInt IntKind.i64.bits
                                        (IntKind.i64.wrap
                                          (↑(BitVec.ofInt IntKind.i64.bits (IntKind.i64.wrap (p.qos * 2)) |||
                                                  BitVec.ofInt IntKind.i64.bits 1).toNat :
                                            Int)) |||
                                      BitVec.ofInt IntKind.i64.bits 8).toNat :
                                Int)),
                          AV.int IntKind.i64 (Int.ofNat 0)])
                      []
                  else
                    kk
                      (AV.tup
                        [AV.int IntKind.i64
                            (IntKind.i64.wrap
                              (↑(BitVec.ofInt IntKind.i64.bits (IntKind.i64.wrap (p.qos * 2)) |||
                                      BitVec.ofInt IntKind.i64.bits 1).toNat :
                                Int)),
                          AV.int IntKind.i64 (Int.ofNat 0)])
                      []
                else
                  bif p.2 then
                    kk
                      (AV.tup
                        [AV.int IntKind.i64
                            (IntKind.i64.wrap
                              (↑(BitVec.ofInt IntKind.i64.bits (IntKind.i64.wrap (p.qos * 2)) |||
                                      BitVec.ofInt IntKind.i64.bits 8).toNat :
                                Int)),
                          AV.int IntKind.i64 (Int.ofNat 0)])
                      []
                  else
                    kk (AV.tup [AV.int IntKind.i64 (IntKind.i64.wrap (p.qos * 2)), AV.int IntKind.i64 (Int.ofNat 0)]) []
            else
              bif p.3 then
                bif p.2 then
                  kk
                    (AV.tup
                      [AV.int IntKind.i64
                          (IntKind.i64.wrap
                            (↑(BitVec.ofInt IntKind.i64.bits
                                      (IntKind.i64.wrap
                                        (↑(BitVec.ofInt IntKind.i64.bits (IntKind.i64.wrap (p.qos * 2)) |||
                                                BitVec.ofInt IntKind.i64.bits 1).toNat :
                                          Int)) |||
                                    BitVec.ofInt IntKind.i64.bits 8).toNat :
                              Int)),
                        AV.int IntKind.i64 (Int.ofNat 0)])
                    []
                else
                  kk
                    (AV.tup
                      [AV.int IntKind.i64
                          (IntKind.i64.wrap
                            (↑(BitVec.ofInt IntKind.i64.bits (IntKind.i64.wrap (p.qos * 2)) |||
                                    BitVec.ofInt IntKind.i64.bits 1).toNat :
                              Int)),
                        AV.int IntKind.i64 (Int.ofNat 0)])
                    []
              else
                bif p.2 then
                  kk
                    (AV.tup
                      [AV.int IntKind.i64
                          (IntKind.i64.wrap
                            (↑(BitVec.ofInt IntKind.i64.bits (IntKind.i64.wrap (p.qos * 2)) |||
                                    BitVec.ofInt IntKind.i64.bits 8).toNat :
                              Int)),
                        AV.int IntKind.i64 (Int.ofNat 0)])
                    []
                else kk (AV.tup [AV.int IntKind.i64 (IntKind.i64.wrap (p.qos * 2)), AV.int IntKind.i64 (Int.ofNat 0)]) [] := by kernel_rfl

theorem c_flags : CT 32 (fsOf 0 sem_flags) := by
  refine Ct.of base_ok Try.func32 rfl rfl (l := l_flags) ⟨c_known, c_kinds, c_fixed, trivial⟩ fun H ρ args vals h v h' hv hs => ?_
  unfold sem_flags at hs
  split at hs
  · rename_i v cs
    split at hs
    · rename_i p hp
      obtain ⟨rfl, rfl⟩ := hs
      have hv' := hv.shrX
      have e : [AV.int IntKind.i64 v, .agg cs].map AV.shrX = [.int .i64 v, .agg (aPkt p)] := by rw [toPkt_eq hp]; rfl
      rw [e] at hv'
      refine ⟨_, hv', .plain _ fun R kk => (T_flags R v p kk).trans ?_⟩
      unfold hflagsN hflagsE
      cases known v
      · rfl
      cases kinds v p.kind
      · rfl
      by_cases h3 : p.kind = 3
      · by_cases q0 : p.qos < 0
        · simp [h3, q0]
        by_cases q2 : 2 < p.qos
        · simp [h3, q0, q2]
        simp only [h3, q0, q2, decide_true, decide_false, Bool.not_true, cond_false, if_true, false_or]
        have hq : p.qos = 0 ∨ p.qos = 1 ∨ p.qos = 2 := by omega
        rw [wrap_i64 (x := p.qos * 2) (by omega) (by omega), or1 (f := p.qos * 2) (by omega) (by omega), or8 (f := p.qos * 2) (by omega) (by omega)]
        have e1 : p.qos * 2 + 1 - p.qos * 2 % 2 = p.qos * 2 + 1 := by omega
        rw [e1, or8 (f := p.qos * 2 + 1) (by omega) (by omega)]
        cases p.dup <;> cases p.retain <;> rcases hq with hq | hq | hq <;> rw [hq] <;> rfl
      · simp [h3]
    · cases hs
  · cases hs

/-! Bytes -/

def sem_hbytes : Sem1 El := fun args h => match args, h with
  | [.int .i64 v, .agg [.int .i64 k, .int .i64 f, .int .i64 l]], [] => .ret (.tup [.str (hbytes v ⟨k, f, l⟩), .int .i64 (hcheck v ⟨k, f, l⟩)]) []
  | _, _ => .bad

abbrev l_hbytes : List (Nat × FS El) := [(33, fsOf 0 sem_check), (24, fs_bytes), (52, fsOf 0 sem_put)]

theorem T_hbytes (R : Type) (v k0 f l : Int) (kk : AV El → List (HE El) → Option R) : ev l_hbytes Try.f34 (fun _ => none) [] L0 [.int .i64 v, .agg [.int .i64 k0, .int .i64 f, .int .i64 l]] [] R kk =
  bif !decide (hcheck v (HeadV.mk k0 f l) = 0) then
    kk (AV.tup [AV.str [], AV.int IntKind.i64 (hcheck v (HeadV.mk k0 f l))]) []
  else
    bif
        decide
          ((putB
                  (IntKind.u64.wrap
                    (IntKind.i64.wrap
                      (↑(BitVec.ofInt IntKind.i64.bits
                                (IntKind.i64.wrap (k0 * 2 ^ min (Int.toNat 4) IntKind.i64.bits)) |||
                              BitVec.ofInt IntKind.i64.bits f).toNat :
                        Int)))
                  1).length +
              (vbytes l).length ≤
            maxCat) then
      kk
        (AV.tup
          [AV.str
              (putB
                  (IntKind.u64.wrap
                    (IntKind.i64.wrap
                      (↑(BitVec.ofInt IntKind.i64.bits
                                (IntKind.i64.wrap (k0 * 2 ^ min (Int.toNat 4) IntKind.i64.bits)) |||
                              BitVec.ofInt IntKind.i64.bits f).toNat :
                        Int)))
                  1 ++
                vbytes l),
            AV.int IntKind.i64 (Int.ofNat 0)])
        []
    else none := by kernel_rfl

theorem vbytes_length {n : Int} (h0 : 0 ≤ n) (h1 : n ≤ 268435455) : (vbytes n).length ≤ 4 := by
  have := vsize_len h0 h1
  have := vbytes_len h0 h1
  omega

theorem c_hbytes : CT 34 (fsOf 0 sem_hbytes) := by
  refine Ct.of base_ok Try.func34 rfl rfl (l := l_hbytes) ⟨c_check, c_bytes, c_put, trivial⟩ fun H ρ args vals h v h' hv hs => ?_
  unfold sem_hbytes at hs
  split at hs
  · rename_i v k f l
    obtain ⟨rfl, rfl⟩ := hs
    refine ⟨_, hv, .plain _ fun R kk => (T_hbytes R v k f l kk).trans ?_⟩
    unfold hbytes
    by_cases hc : hcheck v ⟨k, f, l⟩ = 0
    · obtain ⟨a1, a2, a3, a4, a5, a6⟩ := hcheck_range hc
      dsimp only at a1 a2 a3 a4 a5 a6
      have e0 : k * 2 ^ min (Int.toNat 4) IntKind.i64.bits = k * 16 := rfl
      have e2 : IntKind.u64.wrap (k * 16 + f) = k * 16 + f := by rw [wrap_u64]; omega
      rw [e0, wrap_i64 (x := k * 16) (by omega) (by omega), orHead (by omega) (by omega) a3 (by omega), e2, putB_one (by omega) (by omega)]
      have hl := vbytes_length a5 a6
      have hm : [u8 (k * 16 + f)].length + (vbytes l).length ≤ maxCat := by simp [maxCat]; omega
      rw [hc]
      simp only [hm, decide_true, Bool.not_true, cond_true, cond_false, if_true]
      rfl
    · simp [hc]
  · cases hs

/-! Read -/

def sem_hread : Sem1 El := fun args h => match args, h with
  | [.int .i64 v, .str s], [] => .ret (.tup [.agg [.int .i64 (hread v s).h.kind, .int .i64 (hread v s).h.flags, .int .i64 (hread v s).h.length], .int .i64 (hread v s).size, .int .i64 (hread v s).e]) []
  | _, _ => .bad

abbrev l_hread : List (Nat × FS El) := [(48, fsOf 0 sem_known), (33, fsOf 0 sem_check), (26, fs_read)]

theorem T_hread (R : Type) (v : Int) (s : List UInt8) (kk : AV El → List (HE El) → Option R) : ev l_hread Try.f35 (fun _ => none) [] L0 [.int .i64 v, .str s] [] R kk =
  bif !known v then
    kk
      (AV.tup
        [AV.agg [AV.int IntKind.i64 (Int.ofNat 0), AV.int IntKind.i64 (Int.ofNat 0), AV.int IntKind.i64 (Int.ofNat 0)],
          AV.int IntKind.i64 (Int.ofNat 0), AV.int IntKind.i64 (Int.ofNat 2)])
      []
  else
    bif decide (s = #[].toList) then
      kk
        (AV.tup
          [AV.agg [AV.int IntKind.i64 (Int.ofNat 0), AV.int IntKind.i64 (Int.ofNat 0), AV.int IntKind.i64 (Int.ofNat 0)],
            AV.int IntKind.i64 (Int.ofNat 0), AV.int IntKind.i64 (Int.ofNat 3)])
        []
    else
      bif decide (0 ≤ 0) && decide (0 < (↑s.length : Int)) then
        bif decide (0 ≤ 0) && decide (0 < (↑s.length : Int)) then
          bif
              !decide
                  (hcheck v
                      (HeadV.mk
                        (IntKind.i64.wrap
                          ((↑(s.getD (Int.toNat 0) 0).toNat : Int).fdiv (2 ^ min (Int.toNat 4) IntKind.u8.bits)))
                        (IntKind.i64.wrap
                          (IntKind.u8.wrap
                            (↑(BitVec.ofInt IntKind.u8.bits (↑(s.getD (Int.toNat 0) 0).toNat : Int) &&&
                                    BitVec.ofInt IntKind.u8.bits 15).toNat :
                              Int)))
                        (Int.ofNat 0)) =
                    0) then
            kk
              (AV.tup
                [AV.agg
                    [AV.int IntKind.i64 (Int.ofNat 0), AV.int IntKind.i64 (Int.ofNat 0),
                      AV.int IntKind.i64 (Int.ofNat 0)],
                  AV.int IntKind.i64 (Int.ofNat 0),
                  AV.int IntKind.i64
                    (hcheck v
                      (HeadV.mk
                        (IntKind.i64.wrap
                          ((↑(s.getD (Int.toNat 0) 0).toNat : Int).fdiv (2 ^ min (Int.toNat 4) IntKind.u8.bits)))
                        (IntKind.i64.wrap
                          (IntKind.u8.wrap
                            (↑(BitVec.ofInt IntKind.u8.bits (↑(s.getD (Int.toNat 0) 0).toNat : Int) &&&
                                    BitVec.ofInt IntKind.u8.bits 15).toNat :
                              Int)))
                        (Int.ofNat 0)))])
              []
          else
            bif
                decide (0 ≤ 1) && decide (1 ≤ (↑s.length : Int)) && decide ((↑s.length : Int) ≤ (↑s.length : Int)) &&
                  decide ((↑s.length : Int) = (↑s.length : Int)) then
              bif !decide ((vread (List.drop (Int.toNat 1) (List.take (↑s.length : Int).toNat s))).e = 0) then
                kk
                  (AV.tup
                    [AV.agg
                        [AV.int IntKind.i64 (Int.ofNat 0), AV.int IntKind.i64 (Int.ofNat 0),
                          AV.int IntKind.i64 (Int.ofNat 0)],
                      AV.int IntKind.i64 (Int.ofNat 0),
                      AV.int IntKind.i64 (vread (List.drop (Int.toNat 1) (List.take (↑s.length : Int).toNat s))).e])
                  []
              else
                kk
                  (AV.tup
                    [AV.agg
                        [AV.int IntKind.i64
                            (IntKind.i64.wrap
                              ((↑(s.getD (Int.toNat 0) 0).toNat : Int).fdiv (2 ^ min (Int.toNat 4) IntKind.u8.bits))),
                          AV.int IntKind.i64
                            (IntKind.i64.wrap
                              (IntKind.u8.wrap
                                (↑(BitVec.ofInt IntKind.u8.bits (↑(s.getD (Int.toNat 0) 0).toNat : Int) &&&
                                        BitVec.ofInt IntKind.u8.bits 15).toNat :
                                  Int))),
                          AV.int IntKind.i64 (vread (List.drop (Int.toNat 1) (List.take (↑s.length : Int).toNat s))).n],
                      AV.int IntKind.i64
                        (IntKind.i64.wrap
                          ((vread (List.drop (Int.toNat 1) (List.take (↑s.length : Int).toNat s))).size + 1)),
                      AV.int IntKind.i64 (Int.ofNat 0)])
                  []
            else none
        else none
      else none := by kernel_rfl

theorem c_hread : CT 35 (fsOf 0 sem_hread) := by
  refine Ct.of base_ok Try.func35 rfl rfl (l := l_hread) ⟨c_known, c_check, c_read, trivial⟩ fun H ρ args vals h v h' hv hs => ?_
  unfold sem_hread at hs
  split at hs
  · rename_i v s
    obtain ⟨rfl, rfl⟩ := hs
    refine ⟨_, hv, .plain _ fun R kk => (T_hread R v s kk).trans ?_⟩
    have hlen := hv.at_str (i := 1) rfl
    unfold hread
    cases known v
    · rfl
    cases s with
    | nil => rfl
    | cons b t =>
      have hb := b.toNat_lt
      have e1 : (List.take ((b :: t).length : Int).toNat (b :: t)).drop (Int.toNat 1) = t := by simp
      have e2 : (((b :: t).getD (Int.toNat 0) 0).toNat : Int) = b.toNat := by simp
      have e3 : ((b.toNat : Int).fdiv (2 ^ min (Int.toNat 4) IntKind.u8.bits)) = (b.toNat : Int) / 16 := fdiv_nn (by decide)
      rw [e1, e2, e3, and15 (by omega) (by omega), wrap_i64 (x := (b.toNat : Int) / 16) (by omega) (by omega), wrap_i64 (x := (b.toNat : Int) % 16) (by omega) (by omega)]
      have c1 : (0 : Int) < ((b :: t).length : Int) := by rw [List.length_cons]; omega
      have c2 : (1 : Int) ≤ ((b :: t).length : Int) := by rw [List.length_cons]; omega
      have c3 : ¬ (b :: t) = #[].toList := by simp
      have z : Int.ofNat 0 = 0 := rfl
      simp only [c1, c2, c3, z, decide_true, decide_false, Bool.and_self, Bool.not_true, cond_true, cond_false, if_true, Nat.le_refl, Nat.zero_le, Int.le_refl]
      by_cases hc : hcheck v ⟨(b.toNat : Int) / 16, (b.toNat : Int) % 16, 0⟩ = 0
      · simp only [hc, decide_true, Bool.not_true, cond_false, if_true]
        by_cases he : (vread t).e = 0
        · obtain ⟨_, _, w3, w4, _⟩ := vread_written t he
          simp only [List.length_cons] at hlen
          rw [wrap_i64 (by omega) (by omega)]
          simp only [he, decide_true, Bool.not_true, cond_false, if_true]
        · simp [he]
      · simp [hc]
  · cases hs

end Go.Ev.A

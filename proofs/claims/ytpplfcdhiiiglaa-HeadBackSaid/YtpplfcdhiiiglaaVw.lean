/- Variable byte integers: the program's functions, walked. Own work. -/
import Derived.Test.YtpplfcdhiiiglaaCa
import Derived.Test.YtpplfcdhiiiglaaVs
import Derived.Test.YtpplfcdhiiiglaaEv4
namespace Go.Ev.A
open Go.Proofs Go.Ev.Pl

set_option maxRecDepth 100000

/-! may -/

def sem_may : Sem1 El := fun args h => match args, h with
  | [.int .i64 n], [] => .ret (.bool (mayB n)) []
  | _, _ => .bad

abbrev fs_may := fsOf 0 sem_may

theorem T_may (R : Type) (n : Int) (k : AV El → List (HE El) → Option R) : ev [] Try.f47 (fun _ => none) [] L0 [.int .i64 n] [] R k =
  bif decide (0 ≤ n) then k (AV.bool (decide (n ≤ 268435455))) [] else k (AV.bool false) [] := by kernel_rfl

theorem c_may : CT 47 fs_may := by
  refine Ct.of base_ok Try.func47 rfl rfl (l := []) trivial fun H ρ args vals h v h' hv hs => ?_
  unfold sem_may at hs
  split at hs
  · rename_i n
    obtain ⟨rfl, rfl⟩ := hs
    refine ⟨_, hv, .plain L0 fun R k => (T_may R n k).trans ?_⟩
    unfold mayB
    cases decide (0 ≤ n) <;> rfl
  · cases hs

/-! Size -/

def hs_size : Nat → Option Hint := (fun | 3 => some ⟨[1, 0, 0, 1], false⟩ | 4 => some ⟨[1, 0, 0, 1, 0, 0, 0, 0, 1], false⟩ | 5 => some ⟨[1, 0, 0, 1], false⟩ | 6 => some ⟨[1, 0, 0, 1], false⟩ | _ => none)

def lp_size : LPd El := ⟨14, [0, 3], fun vs h => match vs, h with
  | [.int .i64 n, .int .i64 size], [] => .pre (invSz n size) (.exit 0 (mkS 14 0 [0, 3, 8] [.int .i64 (szL n size).1, .int .i64 (szL n size).2, .bool false]) [])
  | _, _ => .bad⟩

def sem_size : Sem1 El := fun args h => match args, h with
  | [.int .i64 n], [] => .ret (.int .i64 (vsize n)) []
  | _, _ => .bad

abbrev fs_size := fsOf 0 sem_size

abbrev l_size : List (Nat × FS El) := [(47, fs_may)]

theorem T_size (R : Type) (n : Int) (k : AV El → List (HE El) → Option R) : ev l_size Try.f28 hs_size [(4, lp_size)] L0 [.int .i64 n] [] R k =
  bif !mayB n then k (AV.int IntKind.i64 (Int.ofNat 0)) []
  else bif invSz n (Int.ofNat 1) then k (AV.int IntKind.i64 (szL n (Int.ofNat 1)).snd) [] else none := by kernel_rfl

theorem B_size (R : Type) (n size : Int) (K kR : List (AV El) → List (HE El) → Option R) (kE : Nat → List (AV El) → List (HE El) → Option R) : lb l_size Try.f28 hs_size [(4, lp_size)] 4 0 (mkS 14 0 [0, 3] [.int .i64 n, .int .i64 size]) [] R K kR kE =
  bif decide (128 ≤ n) then
    K
      (mkS 14 0 [0, 3]
        [AV.int IntKind.i64 (IntKind.i64.wrap (n.tdiv 128)), AV.int IntKind.i64 (IntKind.i64.wrap (size + 1))])
      []
  else kE 0 (mkS 14 0 [0, 3, 8] [AV.int IntKind.i64 n, AV.int IntKind.i64 size, AV.bool (decide (128 ≤ n))]) [] := by kernel_rfl

theorem k_size : LoopOk (C0.withFn (fnL l_size)) 0 hs_size (lpT [(4, lp_size)]) 0 (loopBody (Try.f28.body.getD .skip) 4) lp_size := by
  intro R kR kE vs h r hr
  unfold lp_size at hr
  dsimp only at hr
  split at hr
  · rename_i n size
    obtain ⟨hc, hr⟩ := Ex.pre_out hr
    rw [← hr]
    refine rounds_inv (S := Int × Int) (fun s => mkS 14 0 [0, 3] [.int .i64 s.1, .int .i64 s.2]) (fun _ => [])
      (fun s => kE 0 (mkS 14 0 [0, 3, 8] [.int .i64 (szL s.1 s.2).1, .int .i64 (szL s.1 s.2).2, .bool false]) []) (fun s => s.1.toNat)
      (fun s => invSz s.1 s.2 = true) ?_ (n, size) hc
    intro ⟨n, size⟩ hi K hK
    refine (B_size R n size K kR kE).trans ?_
    obtain ⟨h1, h2, h3⟩ := invSz_iff.1 hi
    dsimp only at h1 h2 h3
    by_cases hn : 128 ≤ n
    · rw [tdiv_nn h1, wrap_i64 (by omega) (by omega), wrap_i64 (by omega) (by omega)]
      simp only [hn, decide_true, cond_true]
      refine (hK (n / 128, size + 1) (invSz_iff.2 ⟨by dsimp only; omega, by dsimp only; omega, by dsimp only; omega⟩) (by dsimp only; omega)).trans ?_
      dsimp only
      rw [szL.eq_def n size, dif_pos hn]
    · simp only [hn, decide_false, cond_false]
      rw [szL.eq_def n size, dif_neg hn]
  · cases hr

theorem c_size : CT 28 fs_size := by
  refine Ct.of base_ok Try.func28 rfl rfl (l := l_size) ⟨c_may, trivial⟩ fun H ρ args vals h v h' hv hs => ?_
  unfold sem_size at hs
  split at hs
  · rename_i n
    obtain ⟨rfl, rfl⟩ := hs
    refine ⟨_, hv, .loops hs_size [(4, lp_size)] L0 (by kernel_rfl) (by simp only [List.mem_singleton]; rintro p rfl; exact k_size) fun R k => (T_size R n k).trans ?_⟩
    unfold vsize
    cases hm : mayB n
    · rfl
    · simp only [mayB, Bool.and_eq_true, decide_eq_true_eq] at hm
      rw [invSz_iff.2 ⟨hm.1, by simp, by simp; omega⟩]
      rfl
  · cases hs

/-! Bytes -/

def hs_bytes : Nat → Option Hint := (fun | 3 => some ⟨[1, 0, 0, 0, 2], false⟩ | 4 => some ⟨[1, 0, 0, 0, 2, 0, 0, 0, 0, 1], false⟩ | 5 => some ⟨[1, 0, 0, 0, 2], false⟩ | 6 => some ⟨[1, 0, 0, 0, 2], false⟩ | _ => none)

def lp_bytes : LPd El := ⟨25, [0, 4], fun vs h => match vs, h with
  | [.int .i64 n, .bytes (.tok 0) out], [.tok] => .pre (invBy n out) (.exit 0 (mkS 25 0 [0, 4, 9] [.int .i64 (byL n out).1, .bytes (.tok 0) (byL n out).2, .bool false]) [.tok])
  | _, _ => .bad⟩

def sem_bytes : Sem1 El := fun args h => match args, h with
  | [.int .i64 n], [] => .ret (.tup [.str (vbytes n), .int .i64 (vbytesE n)]) []
  | _, _ => .bad

abbrev fs_bytes := fsOf 0 sem_bytes

abbrev l_bytes : List (Nat × FS El) := [(47, fs_may)]

theorem T_bytes (R : Type) (n : Int) (k : AV El → List (HE El) → Option R) : ev l_bytes Try.f24 hs_bytes [(4, lp_bytes)] L0 [.int .i64 n] [] R k =
  bif !mayB n then k (AV.tup [AV.str [], AV.int IntKind.i64 (Int.ofNat 2)]) []
  else
    bif invBy n [] then
      bif decide ((byL n []).snd.length + [UInt8.ofNat (IntKind.u8.wrap (byL n []).fst).toNat].length ≤ maxLen') then
        k
          (AV.tup
            [AV.str ((byL n []).snd ++ [UInt8.ofNat (IntKind.u8.wrap (byL n []).fst).toNat]),
              AV.int IntKind.i64 (Int.ofNat 0)])
          []
      else none
    else none := by kernel_rfl

theorem B_bytes (R : Type) (n : Int) (out : List UInt8) (K kR : List (AV El) → List (HE El) → Option R) (kE : Nat → List (AV El) → List (HE El) → Option R) : lb l_bytes Try.f24 hs_bytes [(4, lp_bytes)] 4 0 (mkS 25 0 [0, 4] [.int .i64 n, .bytes (.tok 0) out]) [.tok] R K kR kE =
  bif decide (128 ≤ n) then
    bif
        decide
          (out.length +
              [UInt8.ofNat
                    (IntKind.u8.wrap
                        (↑(BitVec.ofInt IntKind.u8.bits (IntKind.u8.wrap (n.tmod 128)) |||
                                BitVec.ofInt IntKind.u8.bits 128).toNat :
                          Int)).toNat].length ≤
            maxLen') then
      K
        (mkS 25 0 [0, 4]
          [AV.int IntKind.i64 (IntKind.i64.wrap (n.tdiv 128)),
            AV.bytes (Fl.tok 0)
              (out ++
                [UInt8.ofNat
                    (IntKind.u8.wrap
                        (↑(BitVec.ofInt IntKind.u8.bits (IntKind.u8.wrap (n.tmod 128)) |||
                                BitVec.ofInt IntKind.u8.bits 128).toNat :
                          Int)).toNat])])
        [HE.tok]
    else none
  else kE 0 (mkS 25 0 [0, 4, 9] [AV.int IntKind.i64 n, AV.bytes (Fl.tok 0) out, AV.bool (decide (128 ≤ n))]) [HE.tok] := by kernel_rfl

theorem k_bytes : LoopOk (C0.withFn (fnL l_bytes)) 0 hs_bytes (lpT [(4, lp_bytes)]) 0 (loopBody (Try.f24.body.getD .skip) 4) lp_bytes := by
  intro R kR kE vs h r hr
  unfold lp_bytes at hr
  dsimp only at hr
  split at hr
  · rename_i n out
    obtain ⟨hc, hr⟩ := Ex.pre_out hr
    rw [← hr]
    refine rounds_inv (S := Int × List UInt8) (fun s => mkS 25 0 [0, 4] [.int .i64 s.1, .bytes (.tok 0) s.2]) (fun _ => [.tok])
      (fun s => kE 0 (mkS 25 0 [0, 4, 9] [.int .i64 (byL s.1 s.2).1, .bytes (.tok 0) (byL s.1 s.2).2, .bool false]) [.tok]) (fun s => s.1.toNat)
      (fun s => invBy s.1 s.2 = true) ?_ (n, out) hc
    intro ⟨n, out⟩ hi K hK
    refine (B_bytes R n out K kR kE).trans ?_
    obtain ⟨h1, h2⟩ := invBy_iff.1 hi
    dsimp only at h1 h2
    by_cases hn : 128 ≤ n
    · have e1 : IntKind.u8.wrap (n.tmod 128) = n % 128 := by rw [tmod_nn h1, wrap_u8]; omega
      rw [e1, or128 (by omega) (by omega), tdiv_nn h1, wrap_i64 (by omega) (by omega)]
      have hl : out.length + [UInt8.ofNat (n % 128 + 128).toNat].length ≤ maxLen' := by simp [maxLen']; omega
      simp only [hn, hl, decide_true, cond_true]
      refine (hK (n / 128, out ++ [u8 (n % 128 + 128)]) (invBy_iff.2 ⟨by dsimp only; omega, by simp; omega⟩) (by dsimp only; omega)).trans ?_
      dsimp only
      rw [byL.eq_def n out, dif_pos hn]
    · simp only [hn, decide_false, cond_false]
      rw [byL.eq_def n out, dif_neg hn]
  · cases hr

theorem c_bytes : CT 24 fs_bytes := by
  refine Ct.of base_ok Try.func24 rfl rfl (l := l_bytes) ⟨c_may, trivial⟩ fun H ρ args vals h v h' hv hs => ?_
  unfold sem_bytes at hs
  split at hs
  · rename_i n
    obtain ⟨rfl, rfl⟩ := hs
    refine ⟨_, hv, .loops hs_bytes [(4, lp_bytes)] L0 (by kernel_rfl) (by simp only [List.mem_singleton]; rintro p rfl; exact k_bytes) fun R k => (T_bytes R n k).trans ?_⟩
    unfold vbytes vbytesE
    cases hm : mayB n
    · rfl
    · simp only [mayB, Bool.and_eq_true, decide_eq_true_eq] at hm
      obtain ⟨k1, k2, k3⟩ := byL_lt n [] hm.1
      rw [invBy_iff.2 ⟨hm.1, by simp; omega⟩]
      have hl : (byL n []).snd.length + [UInt8.ofNat (IntKind.u8.wrap (byL n []).fst).toNat].length ≤ maxLen' := by simp [maxLen'] at k3 ⊢; omega
      have e : IntKind.u8.wrap (byL n []).fst = (byL n []).fst := by rw [wrap_u8]; omega
      rw [e] at hl ⊢
      simp only [hl, decide_true, cond_true, Bool.not_true, cond_false, if_true]
      rfl
  · cases hs

/-! A reader -/

abbrev rdr (r : Rdr) : HE El := .blk [.int .i64 r.n, .int .i64 r.size, .bool r.done, .bool r.bad]

def sem_new : Sem1 El := fun args h => match args, h with
  | [], [] => .ret (.ptr 0 0) [rdr ⟨0, 0, false, false⟩]
  | _, _ => .bad

abbrev fs_new := fsOf 1 sem_new

theorem T_new (R : Type)  (k : AV El → List (HE El) → Option R) : ev [] Try.f14 (fun _ => none) [] ⟨1, false, false⟩ [] [] R k =
  k (AV.ptr 0 0)
    [HE.blk [AV.int IntKind.i64 (Int.ofNat 0), AV.int IntKind.i64 (Int.ofNat 0), AV.bool false, AV.bool false]] := by kernel_rfl

theorem c_new : CT 14 fs_new := by
  refine Ct.of base_ok Try.func14 rfl rfl (l := []) trivial fun H ρ args vals h v h' hv hs => ?_
  unfold sem_new at hs
  split at hs
  · obtain ⟨rfl, rfl⟩ := hs
    exact ⟨_, hv, .plain _ fun R k => T_new R k⟩
  · cases hs

def sem_reset : Sem1 El := fun args h => match args, h with
  | [.ptr 0 0], [.blk [.int .i64 _, .int .i64 _, .bool _, .bool _]] => .ret (.tup []) [rdr ⟨0, 0, false, false⟩]
  | _, _ => .bad

abbrev fs_reset := fsOf 0 sem_reset

theorem T_reset (R : Type) (n size : Int) (done bad : Bool) (k : AV El → List (HE El) → Option R) : ev [] Try.f16 (fun _ => none) [] L0 [.ptr 0 0] [.blk [.int .i64 n, .int .i64 size, .bool done, .bool bad]] R k =
  k (AV.tup [])
    [HE.blk [AV.int IntKind.i64 (Int.ofNat 0), AV.int IntKind.i64 (Int.ofNat 0), AV.bool false, AV.bool false]] := by kernel_rfl

theorem c_reset : CT 16 fs_reset := by
  refine Ct.of base_ok Try.func16 rfl rfl (l := []) trivial fun H ρ args vals h v h' hv hs => ?_
  unfold sem_reset at hs
  split at hs
  · obtain ⟨rfl, rfl⟩ := hs
    exact ⟨_, hv, .plain _ fun R k => T_reset R _ _ _ _ k⟩
  · cases hs

def sem_push : Sem1 El := fun args h => match args, h with
  | [.ptr 0 0, .int .u8 b], [.blk [.int .i64 n, .int .i64 size, .bool done, .bool bad]] =>
    .pre (Rdr.ok ⟨n, size, done, bad⟩) (.ret (.tup [.bool (push ⟨n, size, done, bad⟩ b).is, .int .i64 (push ⟨n, size, done, bad⟩ b).e]) [rdr (push ⟨n, size, done, bad⟩ b).r])
  | [.nilptr, .int .u8 _], [] => .ret (.tup [.bool false, .int .i64 1]) []
  | _, _ => .bad

abbrev fs_push := fsOf 0 sem_push

theorem T_push (R : Type) (n size b : Int) (done bad : Bool) (k : AV El → List (HE El) → Option R) : ev [] Try.f18 (fun _ => none) [] L0 [.ptr 0 0, .int .u8 b] [.blk [.int .i64 n, .int .i64 size, .bool done, .bool bad]] R k =
  bif done then
    k (AV.tup [AV.bool false, AV.int IntKind.i64 (Int.ofNat 13)])
      [HE.blk [AV.int IntKind.i64 n, AV.int IntKind.i64 size, AV.bool done, AV.bool bad]]
  else
    bif bad then
      k (AV.tup [AV.bool false, AV.int IntKind.i64 (Int.ofNat 13)])
        [HE.blk [AV.int IntKind.i64 n, AV.int IntKind.i64 size, AV.bool done, AV.bool bad]]
    else
      bif decide (0 ≤ IntKind.u64.wrap (IntKind.i64.wrap (7 * size))) then
        bif
            !decide
                (IntKind.u8.wrap (↑(BitVec.ofInt IntKind.u8.bits b &&& BitVec.ofInt IntKind.u8.bits 128).toNat : Int) =
                  0) then
          bif decide (IntKind.i64.wrap (size + 1) = 4) then
            k (AV.tup [AV.bool false, AV.int IntKind.i64 (Int.ofNat 5)])
              [HE.blk
                  [AV.int IntKind.i64
                      (IntKind.i64.wrap
                        (n +
                          IntKind.i64.wrap
                            (IntKind.i64.wrap
                                (IntKind.u8.wrap
                                  (↑(BitVec.ofInt IntKind.u8.bits b &&& BitVec.ofInt IntKind.u8.bits 127).toNat : Int)) *
                              2 ^ min (IntKind.u64.wrap (IntKind.i64.wrap (7 * size))).toNat IntKind.i64.bits))),
                    AV.int IntKind.i64 (IntKind.i64.wrap (size + 1)), AV.bool done,
                    AV.bool (decide (IntKind.i64.wrap (size + 1) = 4))]]
          else
            k (AV.tup [AV.bool done, AV.int IntKind.i64 (Int.ofNat 0)])
              [HE.blk
                  [AV.int IntKind.i64
                      (IntKind.i64.wrap
                        (n +
                          IntKind.i64.wrap
                            (IntKind.i64.wrap
                                (IntKind.u8.wrap
                                  (↑(BitVec.ofInt IntKind.u8.bits b &&& BitVec.ofInt IntKind.u8.bits 127).toNat : Int)) *
                              2 ^ min (IntKind.u64.wrap (IntKind.i64.wrap (7 * size))).toNat IntKind.i64.bits))),
                    AV.int IntKind.i64 (IntKind.i64.wrap (size + 1)), AV.bool done,
                    AV.bool (decide (IntKind.i64.wrap (size + 1) = 4))]]
        else
          bif decide (b = 0) then
            bif decide (1 < IntKind.i64.wrap (size + 1)) then
              k (AV.tup [AV.bool false, AV.int IntKind.i64 (Int.ofNat 5)])
                [HE.blk
                    [AV.int IntKind.i64
                        (IntKind.i64.wrap
                          (n +
                            IntKind.i64.wrap
                              (IntKind.i64.wrap
                                  (IntKind.u8.wrap
                                    (↑(BitVec.ofInt IntKind.u8.bits b &&& BitVec.ofInt IntKind.u8.bits 127).toNat :
                                      Int)) *
                                2 ^ min (IntKind.u64.wrap (IntKind.i64.wrap (7 * size))).toNat IntKind.i64.bits))),
                      AV.int IntKind.i64 (IntKind.i64.wrap (size + 1)), AV.bool done, AV.bool true]]
            else
              bif bad then
                k (AV.tup [AV.bool false, AV.int IntKind.i64 (Int.ofNat 5)])
                  [HE.blk
                      [AV.int IntKind.i64
                          (IntKind.i64.wrap
                            (n +
                              IntKind.i64.wrap
                                (IntKind.i64.wrap
                                    (IntKind.u8.wrap
                                      (↑(BitVec.ofInt IntKind.u8.bits b &&& BitVec.ofInt IntKind.u8.bits 127).toNat :
                                        Int)) *
                                  2 ^ min (IntKind.u64.wrap (IntKind.i64.wrap (7 * size))).toNat IntKind.i64.bits))),
                        AV.int IntKind.i64 (IntKind.i64.wrap (size + 1)), AV.bool true, AV.bool bad]]
              else
                k (AV.tup [AV.bool true, AV.int IntKind.i64 (Int.ofNat 0)])
                  [HE.blk
                      [AV.int IntKind.i64
                          (IntKind.i64.wrap
                            (n +
                              IntKind.i64.wrap
                                (IntKind.i64.wrap
                                    (IntKind.u8.wrap
                                      (↑(BitVec.ofInt IntKind.u8.bits b &&& BitVec.ofInt IntKind.u8.bits 127).toNat :
                                        Int)) *
                                  2 ^ min (IntKind.u64.wrap (IntKind.i64.wrap (7 * size))).toNat IntKind.i64.bits))),
                        AV.int IntKind.i64 (IntKind.i64.wrap (size + 1)), AV.bool true, AV.bool bad]]
          else
            bif bad then
              k (AV.tup [AV.bool false, AV.int IntKind.i64 (Int.ofNat 5)])
                [HE.blk
                    [AV.int IntKind.i64
                        (IntKind.i64.wrap
                          (n +
                            IntKind.i64.wrap
                              (IntKind.i64.wrap
                                  (IntKind.u8.wrap
                                    (↑(BitVec.ofInt IntKind.u8.bits b &&& BitVec.ofInt IntKind.u8.bits 127).toNat :
                                      Int)) *
                                2 ^ min (IntKind.u64.wrap (IntKind.i64.wrap (7 * size))).toNat IntKind.i64.bits))),
                      AV.int IntKind.i64 (IntKind.i64.wrap (size + 1)), AV.bool true, AV.bool bad]]
            else
              k (AV.tup [AV.bool true, AV.int IntKind.i64 (Int.ofNat 0)])
                [HE.blk
                    [AV.int IntKind.i64
                        (IntKind.i64.wrap
                          (n +
                            IntKind.i64.wrap
                              (IntKind.i64.wrap
                                  (IntKind.u8.wrap
                                    (↑(BitVec.ofInt IntKind.u8.bits b &&& BitVec.ofInt IntKind.u8.bits 127).toNat :
                                      Int)) *
                                2 ^ min (IntKind.u64.wrap (IntKind.i64.wrap (7 * size))).toNat IntKind.i64.bits))),
                      AV.int IntKind.i64 (IntKind.i64.wrap (size + 1)), AV.bool true, AV.bool bad]]
      else none := by kernel_rfl

theorem T_push0 (R : Type) (b : Int) (k : AV El → List (HE El) → Option R) : ev [] Try.f18 (fun _ => none) [] L0 [.nilptr, .int .u8 b] [] R k =
  k (AV.tup [AV.bool false, AV.int IntKind.i64 (Int.ofNat 1)]) [] := by kernel_rfl

theorem c_push : CT 18 fs_push := by
  refine Ct.of base_ok Try.func18 rfl rfl (l := []) trivial fun H ρ args vals h v h' hv hs => ?_
  unfold sem_push at hs
  split at hs
  · rename_i b n size done bad
    obtain ⟨hok, hs⟩ := Rs.leads_pre hs
    obtain ⟨rfl, rfl⟩ := hs
    refine ⟨_, hv, .plain _ fun R k => (T_push R n size b done bad k).trans ?_⟩
    cases done
    case true => rfl
    cases bad
    case true => rfl
    obtain ⟨hb0, hb1⟩ : 0 ≤ b ∧ b ≤ 255 := by
      cases vals with
      | nil => have := hv.1; simp at this
      | cons v1 vs =>
        cases vs with
        | nil => have := hv.1; simp at this
        | cons v2 vs =>
          have := hv.2 1 _ v2 rfl rfl
          cases this
          rename_i hr
          exact inR_u8'.1 hr
    obtain ⟨k1, k2, k3, k4⟩ := (Rdr.ok_iff rfl rfl).1 hok
    dsimp only at k1 k2 k3 k4
    have e1 : IntKind.u64.wrap (IntKind.i64.wrap (7 * size)) = 7 * size := by
      rw [wrap_i64 (by omega) (by omega), wrap_u64]; omega
    have e2 : IntKind.i64.wrap (size + 1) = size + 1 := wrap_i64 (by omega) (by omega)
    have em : IntKind.i64.wrap (n + IntKind.i64.wrap (IntKind.i64.wrap (IntKind.u8.wrap ↑(BitVec.ofInt IntKind.u8.bits b &&& BitVec.ofInt IntKind.u8.bits 127).toNat) * 2 ^ min (IntKind.u64.wrap (IntKind.i64.wrap (7 * size))).toNat IntKind.i64.bits)) = n + b % 128 * 128 ^ size.toNat := by
      rw [e1, and127 hb0 hb1, wrap_i64 (x := b % 128) (by omega) (by omega)]
      have hs : size = 0 ∨ size = 1 ∨ size = 2 ∨ size = 3 := by omega
      have e6 : IntKind.i64.wrap (b % 128 * 2 ^ min (7 * size).toNat IntKind.i64.bits) = b % 128 * 128 ^ size.toNat := by
        rcases hs with rfl | rfl | rfl | rfl <;> simp [IntKind.bits] <;> rw [wrap_i64 (by omega) (by omega)]
      rw [e6]
      rcases hs with rfl | rfl | rfl | rfl <;> simp at k4 ⊢ <;> rw [wrap_i64 (by omega) (by omega)]
    rw [em, e1, e2, and128 hb0 hb1]
    have e3 : decide (0 ≤ 7 * size) = true := by simp; omega
    simp only [e3, cond_true, cond_false]
    unfold push
    simp only [Bool.or_self, Bool.false_eq_true, if_false]
    by_cases h2 : 128 ≤ b
    · by_cases h3 : size + 1 = 4
      · simp [h2, h3, rdr]
      · simp [h2, h3, rdr]
    · by_cases h3 : b = 0
      · by_cases h4 : 1 < size + 1
        · simp [h3, h4, rdr]
        · simp [h3, h4, rdr]
      · simp [h2, h3, rdr]
  · obtain ⟨rfl, rfl⟩ := hs
    exact ⟨_, hv, .plain _ fun R k => T_push0 R _ k⟩
  · cases hs

def sem_value : Sem1 El := fun args h => match args, h with
  | [.ptr 0 0], [.blk [.int .i64 n, .int .i64 size, .bool done, .bool bad]] => .ret (.tup [.int .i64 (if done then n else 0), .bool done]) [rdr ⟨n, size, done, bad⟩]
  | [.nilptr], [] => .ret (.tup [.int .i64 0, .bool false]) []
  | _, _ => .bad

abbrev fs_value := fsOf 0 sem_value

theorem T_value (R : Type) (n size : Int) (done bad : Bool) (k : AV El → List (HE El) → Option R) : ev [] Try.f20 (fun _ => none) [] L0 [.ptr 0 0] [.blk [.int .i64 n, .int .i64 size, .bool done, .bool bad]] R k =
  bif !done then
    k (AV.tup [AV.int IntKind.i64 (Int.ofNat 0), AV.bool false])
      [HE.blk [AV.int IntKind.i64 n, AV.int IntKind.i64 size, AV.bool done, AV.bool bad]]
  else
    k (AV.tup [AV.int IntKind.i64 n, AV.bool true])
      [HE.blk [AV.int IntKind.i64 n, AV.int IntKind.i64 size, AV.bool done, AV.bool bad]] := by kernel_rfl

theorem T_value0 (R : Type)  (k : AV El → List (HE El) → Option R) : ev [] Try.f20 (fun _ => none) [] L0 [.nilptr] [] R k =
  k (AV.tup [AV.int IntKind.i64 (Int.ofNat 0), AV.bool false]) [] := by kernel_rfl

theorem c_value : CT 20 fs_value := by
  refine Ct.of base_ok Try.func20 rfl rfl (l := []) trivial fun H ρ args vals h v h' hv hs => ?_
  unfold sem_value at hs
  split at hs
  · rename_i n size done bad
    obtain ⟨rfl, rfl⟩ := hs
    refine ⟨_, hv, .plain _ fun R k => (T_value R n size done bad k).trans ?_⟩
    cases done <;> rfl
  · obtain ⟨rfl, rfl⟩ := hs
    exact ⟨_, hv, .plain _ fun R k => T_value0 R k⟩
  · cases hs

def sem_rsz : Sem1 El := fun args h => match args, h with
  | [.ptr 0 0], [.blk [.int .i64 n, .int .i64 size, .bool done, .bool bad]] => .ret (.int .i64 size) [rdr ⟨n, size, done, bad⟩]
  | [.nilptr], [] => .ret (.int .i64 0) []
  | _, _ => .bad

abbrev fs_rsz := fsOf 0 sem_rsz

theorem T_rsz (R : Type) (n size : Int) (done bad : Bool) (k : AV El → List (HE El) → Option R) : ev [] Try.f22 (fun _ => none) [] L0 [.ptr 0 0] [.blk [.int .i64 n, .int .i64 size, .bool done, .bool bad]] R k =
  k (AV.int IntKind.i64 size) [HE.blk [AV.int IntKind.i64 n, AV.int IntKind.i64 size, AV.bool done, AV.bool bad]] := by kernel_rfl

theorem T_rsz0 (R : Type)  (k : AV El → List (HE El) → Option R) : ev [] Try.f22 (fun _ => none) [] L0 [.nilptr] [] R k =
  k (AV.int IntKind.i64 (Int.ofNat 0)) [] := by kernel_rfl

theorem c_rsz : CT 22 fs_rsz := by
  refine Ct.of base_ok Try.func22 rfl rfl (l := []) trivial fun H ρ args vals h v h' hv hs => ?_
  unfold sem_rsz at hs
  split at hs
  · rename_i n size done bad
    obtain ⟨rfl, rfl⟩ := hs
    exact ⟨_, hv, .plain _ fun R k => T_rsz R n size done bad k⟩
  · obtain ⟨rfl, rfl⟩ := hs
    exact ⟨_, hv, .plain _ fun R k => T_rsz0 R k⟩
  · cases hs

/-! Read -/

abbrev exRd (s : List UInt8) (len i : Int) (r : Rdr) : Ex El :=
  .br (rdL (s.drop i.toNat) r).all (.exit 0 (mkS 36 0 [0, 5, 11, 12, 13] [.str s, .ptr 0 0, .int .i64 len, .int .i64 len, .bool false]) [rdr (rdL (s.drop i.toNat) r).r])
    (.ret (mkS 36 0 [2, 3, 4] [.int .i64 (rdL (s.drop i.toNat) r).n, .int .i64 (rdL (s.drop i.toNat) r).size, .int .i64 (rdL (s.drop i.toNat) r).e]) [])

def hs_read : Nat → Option Hint := (fun | 2 => some ⟨[1, 0, 0, 0, 0, 1, 0, 0, 0, 0, 0, 1, 1], false⟩ | 3 => some ⟨[1, 0, 0, 0, 0, 1, 0, 0, 0, 0, 0, 1, 1, 1], false⟩ | 4 => some ⟨[1, 0, 0, 0, 0, 1, 1, 0, 0, 0, 0, 1, 1], false⟩ | 5 => some ⟨[1, 0, 0, 0, 0, 1, 0, 1, 1, 0, 0, 1, 1], false⟩ | 6 => some ⟨[1, 0, 0, 0, 0, 1, 0, 1, 1, 0, 0, 1, 1, 0, 0, 0, 0, 0, 0, 0, 0, 0, 0, 0, 1], false⟩ | 7 => some ⟨[0, 0, 1, 1, 1], false⟩ | 8 => some ⟨[1, 0, 0, 0, 0, 1, 0, 0, 0, 0, 0, 1, 1, 0, 0, 0, 0, 0, 0, 0, 0, 0, 0, 0, 0, 0, 1], false⟩ | 9 => some ⟨[0, 0, 1, 1, 1], false⟩ | 10 => some ⟨[1, 0, 0, 0, 0, 1, 0, 0, 0, 0, 0, 1, 1], false⟩ | _ => none)

def lp_read : LPd El := ⟨36, [0, 5, 11, 12], fun vs h => match vs, h with
  | [.str s, .ptr 0 0, .int .i64 len, .int .i64 i], [.blk [.int .i64 n, .int .i64 size, .bool done, .bool bad]] =>
    .pre (invRd s len i ⟨n, size, done, bad⟩) (exRd s len i ⟨n, size, false, false⟩)
  | _, _ => .bad⟩

def sem_read : Sem1 El := fun args h => match args, h with
  | [.str s], [] => .ret (.tup [.int .i64 (vread s).n, .int .i64 (vread s).size, .int .i64 (vread s).e]) []
  | _, _ => .bad

abbrev fs_read := fsOf 0 sem_read

abbrev l_read : List (Nat × FS El) := [(14, fs_new), (18, fs_push)]

theorem T_read (R : Type) (s : List UInt8) (k : AV El → List (HE El) → Option R) : ev l_read Try.f26 hs_read [(3, lp_read)] L0 [.str s] [] R k =
  bif invRd s (↑s.length : Int) (Int.ofNat 0) (Rdr.mk (Int.ofNat 0) (Int.ofNat 0) false false) then
    bif (rdL (List.drop (Int.ofNat 0).toNat s) (Rdr.mk (Int.ofNat 0) (Int.ofNat 0) false false)).4 then
      k (AV.tup [AV.int IntKind.i64 (Int.ofNat 0), AV.int IntKind.i64 (Int.ofNat 0), AV.int IntKind.i64 (Int.ofNat 3)]) []
    else
      k
        (AV.tup
          [AV.int IntKind.i64 (rdL (List.drop (Int.ofNat 0).toNat s) (Rdr.mk (Int.ofNat 0) (Int.ofNat 0) false false)).n,
            AV.int IntKind.i64
              (rdL (List.drop (Int.ofNat 0).toNat s) (Rdr.mk (Int.ofNat 0) (Int.ofNat 0) false false)).size,
            AV.int IntKind.i64
              (rdL (List.drop (Int.ofNat 0).toNat s) (Rdr.mk (Int.ofNat 0) (Int.ofNat 0) false false)).e])
        []
  else none := by kernel_rfl

theorem B_read (R : Type) (s : List UInt8) (len i n size : Int) (K kR : List (AV El) → List (HE El) → Option R) (kE : Nat → List (AV El) → List (HE El) → Option R) : lb l_read Try.f26 hs_read [(3, lp_read)] 3 0 (mkS 36 0 [0, 5, 11, 12] [.str s, .ptr 0 0, .int .i64 len, .int .i64 i]) [.blk [.int .i64 n, .int .i64 size, .bool false, .bool false]] R K kR kE =
  bif decide (i < len) then
    bif decide (0 ≤ i) && decide (i < (↑s.length : Int)) then
      bif (Rdr.mk n size false false).ok then
        bif !decide ((push (Rdr.mk n size false false) (↑(s.getD i.toNat 0).toNat : Int)).e = 0) then
          kR
            (mkS 36 0 [2, 3, 4]
              [AV.int IntKind.i64 (Int.ofNat 0), AV.int IntKind.i64 (Int.ofNat 0),
                AV.int IntKind.i64 (push (Rdr.mk n size false false) (↑(s.getD i.toNat 0).toNat : Int)).e])
            []
        else
          bif (push (Rdr.mk n size false false) (↑(s.getD i.toNat 0).toNat : Int)).1 then
            kR
              (mkS 36 0 [2, 3, 4]
                [AV.int IntKind.i64 (push (Rdr.mk n size false false) (↑(s.getD i.toNat 0).toNat : Int)).r.n,
                  AV.int IntKind.i64 (push (Rdr.mk n size false false) (↑(s.getD i.toNat 0).toNat : Int)).r.size,
                  AV.int IntKind.i64 (Int.ofNat 0)])
              []
          else
            K
              (mkS 36 0 [0, 5, 11, 12]
                [AV.str s, AV.ptr 0 0, AV.int IntKind.i64 len, AV.int IntKind.i64 (IntKind.i64.wrap (i + 1))])
              [HE.blk
                  [AV.int IntKind.i64 (push (Rdr.mk n size false false) (↑(s.getD i.toNat 0).toNat : Int)).r.n,
                    AV.int IntKind.i64 (push (Rdr.mk n size false false) (↑(s.getD i.toNat 0).toNat : Int)).r.size,
                    AV.bool (push (Rdr.mk n size false false) (↑(s.getD i.toNat 0).toNat : Int)).r.done,
                    AV.bool (push (Rdr.mk n size false false) (↑(s.getD i.toNat 0).toNat : Int)).r.bad]]
      else none
    else none
  else
    kE 0
      (mkS 36 0 [0, 5, 11, 12, 13]
        [AV.str s, AV.ptr 0 0, AV.int IntKind.i64 len, AV.int IntKind.i64 i, AV.bool (decide (i < len))])
      [HE.blk [AV.int IntKind.i64 n, AV.int IntKind.i64 size, AV.bool false, AV.bool false]] := by kernel_rfl

theorem k_read : LoopOk (C0.withFn (fnL l_read)) 0 hs_read (lpT [(3, lp_read)]) 0 (loopBody (Try.f26.body.getD .skip) 3) lp_read := by
  intro R kR kE vs h r hr
  unfold lp_read at hr
  dsimp only at hr
  split at hr
  · rename_i s len i n size done bad
    obtain ⟨hc, hr⟩ := Ex.pre_out hr
    rw [← hr]
    obtain ⟨h1, h2, rfl, h4, h5, h6, h7⟩ := invRd_iff.1 hc
    dsimp only at h5 h6
    subst h5; subst h6
    refine rounds_inv (S := Int × Int × Int) (fun x => mkS 36 0 [0, 5, 11, 12] [.str s, .ptr 0 0, .int .i64 s.length, .int .i64 x.1]) (fun x => [.blk [.int .i64 x.2.1, .int .i64 x.2.2, .bool false, .bool false]])
      (fun x => (exRd s s.length x.1 ⟨x.2.1, x.2.2, false, false⟩).out kR kE) (fun x => (s.length - x.1).toNat)
      (fun x => invRd s s.length x.1 ⟨x.2.1, x.2.2, false, false⟩ = true) ?_ (i, n, size) hc
    clear hr hc h1 h2 h7
    intro ⟨i, n, size⟩ hi K hK
    refine (B_read R s s.length i n size K kR kE).trans ?_
    obtain ⟨h1, h2, _, _, _, _, h7⟩ := invRd_iff.1 hi
    dsimp only at h1 h2 h7
    by_cases hl : i < (s.length : Int)
    · have hlt : i.toNat < s.length := by omega
      rw [decide_eq_true hl, decide_eq_true h1, h7]
      simp only [cond_true, Bool.and_self, exRd, drop_cons hlt, rdL]
      generalize hp : push ⟨n, size, false, false⟩ ((s.getD i.toNat 0).toNat : Nat) = p
      by_cases he : p.e = 0
      · rw [he]
        simp only [decide_true, Bool.not_true, cond_false, if_true]
        cases hs : p.is
        · obtain ⟨a1, a2, a3⟩ := push_ok (r := ⟨n, size, false, false⟩) rfl rfl h7 (by rw [hp]; exact he) (by rw [hp]; exact hs)
          rw [hp] at a1 a2 a3
          simp only [cond_false, a1, a2, Bool.false_eq_true, if_false]
          rw [wrap_i64 (by omega) (by omega)]
          have hr := Rdr.eta' a1 a2
          refine (hK (i + 1, p.r.n, p.r.size) (invRd_iff.2 ⟨by dsimp only; omega, by dsimp only; omega, rfl, h4, rfl, rfl, by rw [← hr]; exact a3⟩) (by dsimp only; omega)).trans ?_
          dsimp only
          have e : (i + 1).toNat = i.toNat + 1 := by omega
          rw [← hr]
          unfold exRd
          rw [e]
        · simp only [cond_true, if_true]
          rfl
      · simp only [he, decide_false, Bool.not_false, cond_true, if_false]
        rfl
    · have he : i = s.length := by omega
      subst he
      simp only [Int.lt_irrefl, decide_false, cond_false]
      have : List.drop (s.length : Int).toNat s = [] := by simp
      simp only [exRd, this, rdL]
      rfl
  · cases hr

theorem VL.str_len {C : Cx El} {H : RO} {ρ : Nat → RE} {s : List UInt8} {rest : List (AV El)} {vals : List Value} (h : VL C H ρ (.str s :: rest) vals) : s.length ≤ 4611686018427387904 := by
  cases vals with
  | nil => have := h.1; simp at this
  | cons v vs =>
    have := h.2 0 _ v rfl rfl
    cases this
    assumption

theorem c_read : CT 26 fs_read := by
  refine Ct.of base_ok Try.func26 rfl rfl (l := l_read) ⟨c_new, c_push, trivial⟩ fun H ρ args vals h v h' hv hs => ?_
  unfold sem_read at hs
  split at hs
  · rename_i s
    obtain ⟨rfl, rfl⟩ := hs
    refine ⟨_, hv, .loops hs_read [(3, lp_read)] L0 (by kernel_rfl) (by simp only [List.mem_singleton]; rintro p rfl; exact k_read) fun R k => (T_read R s k).trans ?_⟩
    have hi : invRd s s.length 0 ⟨0, 0, false, false⟩ = true := invRd_iff.2 ⟨by omega, by omega, rfl, VL.str_len hv, rfl, rfl, rfl⟩
    have e0 : Int.ofNat 0 = 0 := rfl
    simp only [e0, Int.toNat_zero, List.drop_zero]
    rw [hi]
    unfold vread
    cases ha : (rdL s ⟨0, 0, false, false⟩).all
    · rfl
    · obtain ⟨b1, b2, b3⟩ := rdL_all s _ ha
      rw [b1, b2, b3]
      rfl
  · cases hs

end Go.Ev.A

/- Variable byte integers: the program's functions. Own work. -/
import Derived.Test.YtpplfcdhiiiglaaA2Cx
import Derived.Test.YtpplfcdhiiiglaaVs
import Derived.Test.YtpplfcdhiiiglaaVp
import Derived.Test.YtpplfcdhiiiglaaEv4
namespace Go.Ev.A
open Go.Proofs Go.Ev.Pl
set_option maxRecDepth 100000
set_option linter.unusedSimpArgs false
set_option linter.unusedVariables false

theorem maxLen_eq : maxLen' = 4294967296 := rfl
theorem maxCat_eq : maxCat = 281474976710656 := rfl
theorem min_i64 : IntKind.i64.min = -9223372036854775808 := rfl
theorem max_i64 : IntKind.i64.max = 9223372036854775807 := rfl
theorem min_u8 : IntKind.u8.min = 0 := rfl
theorem max_u8 : IntKind.u8.max = 255 := rfl
theorem min_u32 : IntKind.u32.min = 0 := rfl
theorem max_u32 : IntKind.u32.max = 4294967295 := rfl
theorem min_u64 : IntKind.u64.min = 0 := rfl
theorem max_u64 : IntKind.u64.max = 18446744073709551615 := rfl

abbrev rdr (r : Rdr) : HE El := .blk [.int .i64 r.n, .int .i64 r.size, .bool r.done, .bool r.bad]

noncomputable def s_may : Sem1 El := fun args h => match args, h with
  | [.int .i64 n], [] => .ret (.bool (mayB n)) []
  | _, _ => .bad

noncomputable abbrev l_may : List (Nat × FS El) := []

noncomputable def t_may (n : Int) : Rs El :=
  .br (decide (0 ≤ n))
  (.ret (.bool (decide (n ≤ 268435455))) [])
  (.ret (.bool false) [])

theorem T_may (n : Int) (R : Type) (kk : AV El → List (HE El) → Option R) : evf 0 l_may Try.f47 (fun _ => none) [] ⟨0, false, false⟩ [.int .i64 n] [] R kk = (t_may n).go kk := by kernel_rfl

theorem c_may : CT 47 (fsOf 0 s_may) := by
  refine Ct.of base_ok Try.func47 rfl rfl (l := l_may) trivial fun H ρ args vals h v h' hv hs => ?_
  unfold s_may at hs
  split at hs
  · rename_i n
    obtain ⟨rfl, rfl⟩ := hs
    have hok := hv.ok
    refine ⟨_, hv, .tree (T_may n) ?_⟩
    simp only [okL, AV.ok, and_true, true_and] at hok
    simp only [t_may, Rs.all, std0, stdA]
    grind [mayB]
  · cases hs

noncomputable def s_vsize : Sem1 El := fun args h => match args, h with
  | [.int .i64 n], [] => .ret (.int .i64 (vsize n)) []
  | _, _ => .bad

noncomputable abbrev l_vsize : List (Nat × FS El) := [(47, fsOf 0 s_may)]

def hs_vsize : Nat → Option Hint
  | 3 => some ⟨[1, 0, 0, 1], false⟩
  | 4 => some ⟨[1, 0, 0, 1, 0, 0, 0, 0, 1], false⟩
  | 5 => some ⟨[1, 0, 0, 1], false⟩
  | 6 => some ⟨[1, 0, 0, 1], false⟩
  | 1000004 => some ⟨[1, 0, 0, 1], false⟩
  | _ => none

noncomputable def lp_vsize_4 : LPd El := ⟨14, [0, 3], fun vs h => match vs, h with
  | [.int .i64 n, .int .i64 size], [] => .pre (invSz n size) (.exit 0 (mkS 14 0 [0, 3, 8] [.int .i64 (szL n size).1, .int .i64 (szL n size).2, .bool false]) [])
  | _, _ => .bad⟩

abbrev st_vsize_4 (x : Int × Int) : List (AV El) := mkS 14 0 [0, 3] [.int .i64 x.1, .int .i64 x.2]
abbrev hp_vsize_4 (x : Int × Int) : List (HE El) := []

noncomputable def b_vsize_4 (n size : Int) : Bx (Int × Int) El :=
  .br (decide (128 ≤ n))
  (.next (IntKind.i64.wrap (Int.tdiv n (128 : Int)), IntKind.i64.wrap (size + 1)))
  (.exit 0 (mkS 14 0 [0, 3, 8] [.int .i64 n, .int .i64 size, .bool false]) [])

theorem B_vsize_4 (n size : Int) (R : Type) (K kR : List (AV El) → List (HE El) → Option R) (kE : Nat → List (AV El) → List (HE El) → Option R) : lb l_vsize Try.f28 hs_vsize [(4, lp_vsize_4)] 4 0 (st_vsize_4 (n, size)) (hp_vsize_4 (n, size)) R K kR kE = (b_vsize_4 n size).go st_vsize_4 hp_vsize_4 K kR kE := by kernel_rfl

theorem k_vsize_4 : LoopOk (C0.withFn (fnL l_vsize)) 0 hs_vsize (lpT [(4, lp_vsize_4)]) 0 (loopBody (Try.f28.body.getD .skip) 4) lp_vsize_4 := by
  refine LoopOk.tree st_vsize_4 hp_vsize_4 (fun x => (invSz x.1 x.2) = true) (fun x => .exit 0 (mkS 14 0 [0, 3, 8] [.int .i64 (szL x.1 x.2).1, .int .i64 (szL x.1 x.2).2, .bool false]) []) (fun x => x.1.toNat) (fun x => b_vsize_4 x.1 x.2) ?_ (fun x _ R K kR kE => B_vsize_4 x.1 x.2 R K kR kE) ?_
  · intro R kR kE vs h r hr
    unfold lp_vsize_4 at hr
    dsimp only at hr
    split at hr
    · rename_i n size
      obtain ⟨hc, hr⟩ := Ex.pre_out hr
      exact ⟨(n, size), hc, rfl, rfl, hr⟩
    · cases hr
  · intro x hx
    obtain ⟨n, size⟩ := x
    dsimp only at hx ⊢
    simp only [b_vsize_4, Bx.sat, Ex.out, std0, stdA]
    rw [invSz_iff] at hx
    refine ⟨fun h => ?_, fun h R kR kE => ?_⟩
    · rw [tdiv_nn (by omega), wrap_i64 (by omega) (by omega), wrap_i64 (by omega) (by omega), invSz_iff, ← szL_ge h]
      exact ⟨by omega, by omega, fun _ _ _ => rfl⟩
    · simp [szL_lt (n := n) (by omega), h]

noncomputable def t_vsize (n : Int) : Rs El :=
  .br (!(mayB n))
  (.ret (.int .i64 0) [])
  (.pre (invSz n (1 : Int)) (.ret (.int .i64 ((szL n (1 : Int)).2)) []))

theorem T_vsize (n : Int) (R : Type) (kk : AV El → List (HE El) → Option R) : evf 0 l_vsize Try.f28 hs_vsize [(4, lp_vsize_4)] ⟨0, false, false⟩ [.int .i64 n] [] R kk = (t_vsize n).go kk := by kernel_rfl

theorem c_vsize : CT 28 (fsOf 0 s_vsize) := by
  refine Ct.of base_ok Try.func28 rfl rfl (l := l_vsize) ⟨c_may, trivial⟩ fun H ρ args vals h v h' hv hs => ?_
  unfold s_vsize at hs
  split at hs
  · rename_i n
    obtain ⟨rfl, rfl⟩ := hs
    have hok := hv.ok
    refine ⟨_, hv, .treeL (T_vsize n) (by kernel_rfl) (by simp only [List.mem_cons, List.not_mem_nil, or_false]; rintro p rfl; exact k_vsize_4) ?_⟩
    simp only [okL, AV.ok, and_true, true_and] at hok
    simp only [t_vsize, Rs.all, std0, stdA]
    refine ⟨fun h => ?_, fun h => ?_⟩ <;> grind [vsize, invSz_iff, mayB_iff]
  · cases hs

noncomputable def s_vbytes : Sem1 El := fun args h => match args, h with
  | [.int .i64 n], [] => .ret (.tup [.str (vbytes n), .int .i64 (vbytesE n)]) []
  | _, _ => .bad

noncomputable abbrev l_vbytes : List (Nat × FS El) := [(47, fsOf 0 s_may)]

def hs_vbytes : Nat → Option Hint
  | 3 => some ⟨[1, 0, 0, 0, 2], false⟩
  | 4 => some ⟨[1, 0, 0, 0, 2, 0, 0, 0, 0, 1], false⟩
  | 5 => some ⟨[1, 0, 0, 0, 2], false⟩
  | 6 => some ⟨[1, 0, 0, 0, 2], false⟩
  | 1000004 => some ⟨[1, 0, 0, 0, 2], false⟩
  | _ => none

noncomputable def lp_vbytes_4 : LPd El := ⟨25, [0, 4], fun vs h => match vs, h with
  | [.int .i64 n, .bytes (.tok 0) out], [.tok] => .pre (invBy n out) (.exit 0 (mkS 25 0 [0, 4, 9] [.int .i64 (byL n out).1, .bytes (.tok 0) (byL n out).2, .bool false]) [.tok])
  | _, _ => .bad⟩

abbrev st_vbytes_4 (x : Int × List UInt8) : List (AV El) := mkS 25 0 [0, 4] [.int .i64 x.1, .bytes (.tok 0) x.2]
abbrev hp_vbytes_4 (x : Int × List UInt8) : List (HE El) := [.tok]

noncomputable def b_vbytes_4 (n : Int) (out : List UInt8) : Bx (Int × List UInt8) El :=
  .br (decide (128 ≤ n))
  (.pre (decide (out.length + [UInt8.ofNat (ior .u8 (IntKind.u8.wrap (Int.tmod n (128 : Int))) (128 : Int)).toNat].length ≤ maxLen'))
   (.next (IntKind.i64.wrap (Int.tdiv n (128 : Int)), out ++ [UInt8.ofNat (ior .u8 (IntKind.u8.wrap (Int.tmod n (128 : Int))) (128 : Int)).toNat])))
  (.exit 0 (mkS 25 0 [0, 4, 9] [.int .i64 n, .bytes (.tok 0) out, .bool false]) [.tok])

theorem B_vbytes_4 (n : Int) (out : List UInt8) (R : Type) (K kR : List (AV El) → List (HE El) → Option R) (kE : Nat → List (AV El) → List (HE El) → Option R) : lb l_vbytes Try.f24 hs_vbytes [(4, lp_vbytes_4)] 4 0 (st_vbytes_4 (n, out)) (hp_vbytes_4 (n, out)) R K kR kE = (b_vbytes_4 n out).go st_vbytes_4 hp_vbytes_4 K kR kE := by kernel_rfl

theorem k_vbytes_4 : LoopOk (C0.withFn (fnL l_vbytes)) 0 hs_vbytes (lpT [(4, lp_vbytes_4)]) 0 (loopBody (Try.f24.body.getD .skip) 4) lp_vbytes_4 := by
  refine LoopOk.tree st_vbytes_4 hp_vbytes_4 (fun x => (invBy x.1 x.2) = true) (fun x => .exit 0 (mkS 25 0 [0, 4, 9] [.int .i64 (byL x.1 x.2).1, .bytes (.tok 0) (byL x.1 x.2).2, .bool false]) [.tok]) (fun x => x.1.toNat) (fun x => b_vbytes_4 x.1 x.2) ?_ (fun x _ R K kR kE => B_vbytes_4 x.1 x.2 R K kR kE) ?_
  · intro R kR kE vs h r hr
    unfold lp_vbytes_4 at hr
    dsimp only at hr
    split at hr
    · rename_i n out
      obtain ⟨hc, hr⟩ := Ex.pre_out hr
      exact ⟨(n, out), hc, rfl, rfl, hr⟩
    · cases hr
  · intro x hx
    obtain ⟨n, out⟩ := x
    dsimp only at hx ⊢
    simp only [b_vbytes_4, Bx.sat, Ex.out, std0, stdA]
    rw [invBy_iff] at hx
    have e1 : 128 ≤ n → ior .u8 (IntKind.u8.wrap (Int.tmod n 128)) 128 = n % 128 + 128 := fun h => by
      have : IntKind.u8.wrap (n.tmod 128) = n % 128 := by rw [tmod_nn (by omega), wrap_u8]; omega
      rw [this]
      exact or128 (by omega) (by omega)
    refine ⟨fun h => ⟨fun h2 => ?_, fun h2 => ?_⟩, fun h R kR kE => ?_⟩
    · rw [e1 h, tdiv_nn (by omega), wrap_i64 (by omega) (by omega), invBy_iff]
      refine ⟨by simp; omega, by omega, fun _ _ _ => ?_⟩
      show _ = _
      rw [byL_ge h]
      rfl
    · simp [maxLen_eq] at h2; omega
    · simp [byL_lt' (n := n) (by omega), h]

noncomputable def t_vbytes (n : Int) : Rs El :=
  .br (!(mayB n))
  (.ret (.tup [.str [], .int .i64 2]) [])
  (.pre (invBy n ([] : List UInt8)) (.pre (decide (((byL n ([] : List UInt8)).2).length + [UInt8.ofNat (IntKind.u8.wrap ((byL n ([] : List UInt8)).1)).toNat].length ≤ maxLen')) (.ret (.tup [.str (((byL n ([] : List UInt8)).2) ++ [UInt8.ofNat (IntKind.u8.wrap ((byL n ([] : List UInt8)).1)).toNat]), .int .i64 0]) [])))

theorem T_vbytes (n : Int) (R : Type) (kk : AV El → List (HE El) → Option R) : evf 0 l_vbytes Try.f24 hs_vbytes [(4, lp_vbytes_4)] ⟨0, false, false⟩ [.int .i64 n] [] R kk = (t_vbytes n).go kk := by kernel_rfl

theorem c_vbytes : CT 24 (fsOf 0 s_vbytes) := by
  refine Ct.of base_ok Try.func24 rfl rfl (l := l_vbytes) ⟨c_may, trivial⟩ fun H ρ args vals h v h' hv hs => ?_
  unfold s_vbytes at hs
  split at hs
  · rename_i n
    obtain ⟨rfl, rfl⟩ := hs
    have hok := hv.ok
    refine ⟨_, hv, .treeL (T_vbytes n) (by kernel_rfl) (by simp only [List.mem_cons, List.not_mem_nil, or_false]; rintro p rfl; exact k_vbytes_4) ?_⟩
    simp only [okL, AV.ok, and_true, true_and] at hok
    simp only [t_vbytes, Rs.all, std0, stdA]
    have hl := byL_lt n []
    refine ⟨fun h => ?_, fun h => ⟨fun h2 => ⟨fun h3 => ?_, fun h3 => ?_⟩, fun h2 => ?_⟩⟩
    · simp [vbytes, vbytesE, h]
    · have hm := mayB_iff.1 h
      obtain ⟨k1, k2, k3⟩ := hl hm.1
      have e : IntKind.u8.wrap (byL n []).fst = (byL n []).fst := by rw [wrap_u8]; omega
      rw [e]
      simp [vbytes, vbytesE, h, u8]
    · have hm := mayB_iff.1 h
      obtain ⟨k1, k2, k3⟩ := hl hm.1
      simp [maxLen_eq] at h3 k3; omega
    · have hm := mayB_iff.1 h
      rw [← Bool.not_eq_true, invBy_iff] at h2
      simp at h2; omega
  · cases hs

noncomputable def s_vnew : Sem1 El := fun args h => match args, h with
  | [], [] => .ret (.ptr 0 0) [.blk [.int .i64 0, .int .i64 0, .bool false, .bool false]]
  | _, _ => .bad

noncomputable abbrev l_vnew : List (Nat × FS El) := []

noncomputable def t_vnew : Rs El :=
  .ret (.ptr 0 0) [.blk [.int .i64 0, .int .i64 0, .bool false, .bool false]]

theorem T_vnew (R : Type) (kk : AV El → List (HE El) → Option R) : evf 0 l_vnew Try.f14 (fun _ => none) [] ⟨1, false, false⟩ [] [] R kk = (t_vnew).go kk := by kernel_rfl

theorem c_vnew : CT 14 (fsOf 1 s_vnew) := by
  refine Ct.of base_ok Try.func14 rfl rfl (l := l_vnew) trivial fun H ρ args vals h v h' hv hs => ?_
  unfold s_vnew at hs
  split at hs
  · skip
    obtain ⟨rfl, rfl⟩ := hs
    have hok := hv.ok
    refine ⟨_, hv, .tree (T_vnew) ?_⟩
    simp only [t_vnew, Rs.all, std0, stdA]
    all_goals trivial
  · cases hs

noncomputable def s_vpush : Sem1 El := fun args h => match args, h with
  | [.ptr 0 0, .int .u8 b], [.blk [.int .i64 n, .int .i64 size, .bool done, .bool bad]] => .pre (Rdr.ok ⟨n, size, done, bad⟩) (.ret (.tup [.bool (push ⟨n, size, done, bad⟩ b).is, .int .i64 (push ⟨n, size, done, bad⟩ b).e]) [rdr (push ⟨n, size, done, bad⟩ b).r])
  | _, _ => .bad

noncomputable abbrev l_vpush : List (Nat × FS El) := []

noncomputable def t_vpush (n size b : Int) (done bad : Bool) : Rs El :=
  .br done
  (.ret (.tup [.bool false, .int .i64 13]) [.blk [.int .i64 n, .int .i64 size, .bool done, .bool bad]])
  (.br bad
   (.ret (.tup [.bool false, .int .i64 13]) [.blk [.int .i64 n, .int .i64 size, .bool done, .bool bad]])
   (.pre (decide (0 ≤ (IntKind.u64.wrap (IntKind.i64.wrap (7 * size)))))
    (.br (!(decide ((iand .u8 b (128 : Int)) = 0)))
     (.br (decide ((IntKind.i64.wrap (size + 1)) = 4))
      (.ret (.tup [.bool false, .int .i64 5]) [.blk [.int .i64 (IntKind.i64.wrap (n + (IntKind.i64.wrap ((IntKind.i64.wrap (iand .u8 b (127 : Int))) * 2 ^ min (IntKind.u64.wrap (IntKind.i64.wrap (7 * size))).toNat IntKind.i64.bits)))), .int .i64 (IntKind.i64.wrap (size + 1)), .bool done, .bool (decide ((IntKind.i64.wrap (size + 1)) = 4))]])
      (.ret (.tup [.bool done, .int .i64 0]) [.blk [.int .i64 (IntKind.i64.wrap (n + (IntKind.i64.wrap ((IntKind.i64.wrap (iand .u8 b (127 : Int))) * 2 ^ min (IntKind.u64.wrap (IntKind.i64.wrap (7 * size))).toNat IntKind.i64.bits)))), .int .i64 (IntKind.i64.wrap (size + 1)), .bool done, .bool (decide ((IntKind.i64.wrap (size + 1)) = 4))]]))
     (.br (decide (b = 0))
      (.br (decide (1 < (IntKind.i64.wrap (size + 1))))
       (.ret (.tup [.bool false, .int .i64 5]) [.blk [.int .i64 (IntKind.i64.wrap (n + (IntKind.i64.wrap ((IntKind.i64.wrap (iand .u8 b (127 : Int))) * 2 ^ min (IntKind.u64.wrap (IntKind.i64.wrap (7 * size))).toNat IntKind.i64.bits)))), .int .i64 (IntKind.i64.wrap (size + 1)), .bool done, .bool true]])
       (.br bad
        (.ret (.tup [.bool false, .int .i64 5]) [.blk [.int .i64 (IntKind.i64.wrap (n + (IntKind.i64.wrap ((IntKind.i64.wrap (iand .u8 b (127 : Int))) * 2 ^ min (IntKind.u64.wrap (IntKind.i64.wrap (7 * size))).toNat IntKind.i64.bits)))), .int .i64 (IntKind.i64.wrap (size + 1)), .bool true, .bool bad]])
        (.ret (.tup [.bool true, .int .i64 0]) [.blk [.int .i64 (IntKind.i64.wrap (n + (IntKind.i64.wrap ((IntKind.i64.wrap (iand .u8 b (127 : Int))) * 2 ^ min (IntKind.u64.wrap (IntKind.i64.wrap (7 * size))).toNat IntKind.i64.bits)))), .int .i64 (IntKind.i64.wrap (size + 1)), .bool true, .bool bad]])))
      (.br bad
       (.ret (.tup [.bool false, .int .i64 5]) [.blk [.int .i64 (IntKind.i64.wrap (n + (IntKind.i64.wrap ((IntKind.i64.wrap (iand .u8 b (127 : Int))) * 2 ^ min (IntKind.u64.wrap (IntKind.i64.wrap (7 * size))).toNat IntKind.i64.bits)))), .int .i64 (IntKind.i64.wrap (size + 1)), .bool true, .bool bad]])
       (.ret (.tup [.bool true, .int .i64 0]) [.blk [.int .i64 (IntKind.i64.wrap (n + (IntKind.i64.wrap ((IntKind.i64.wrap (iand .u8 b (127 : Int))) * 2 ^ min (IntKind.u64.wrap (IntKind.i64.wrap (7 * size))).toNat IntKind.i64.bits)))), .int .i64 (IntKind.i64.wrap (size + 1)), .bool true, .bool bad]]))))))

theorem T_vpush (n size b : Int) (done bad : Bool) (R : Type) (kk : AV El → List (HE El) → Option R) : evf 0 l_vpush Try.f18 (fun _ => none) [] ⟨0, false, false⟩ [.ptr 0 0, .int .u8 b] [.blk [.int .i64 n, .int .i64 size, .bool done, .bool bad]] R kk = (t_vpush n size b done bad).go kk := by kernel_rfl

theorem c_vpush : CT 18 (fsOf 0 s_vpush) := by
  refine Ct.of base_ok Try.func18 rfl rfl (l := l_vpush) trivial fun H ρ args vals h v h' hv hs => ?_
  unfold s_vpush at hs
  split at hs
  · rename_i b n size done bad
    obtain ⟨hpre, hs⟩ := Rs.leads_pre hs
    obtain ⟨rfl, rfl⟩ := hs
    have hok := hv.ok
    refine ⟨_, hv, .tree (T_vpush n size b done bad) ?_⟩
    simp only [okL, AV.ok, and_true, true_and] at hok
    try simp only [std0, stdA] at hpre
    simp only [t_vpush, Rs.all, std0, stdA]
    cases done
    case true => simp [push]
    cases bad
    case true => simp [push]
    obtain ⟨k1, k2, k3, k4⟩ := (Rdr.ok_iff rfl rfl).1 hpre
    dsimp only at k1 k2 k3 k4
    obtain ⟨hb0, hb1⟩ : 0 ≤ b ∧ b ≤ 255 := by simpa [min_u8, max_u8] using hok
    have e1 : IntKind.u64.wrap (IntKind.i64.wrap (7 * size)) = 7 * size := by
      rw [wrap_i64 (by omega) (by omega), wrap_u64]; omega
    have e2 : IntKind.i64.wrap (size + 1) = size + 1 := wrap_i64 (by omega) (by omega)
    have e0 : iand .u8 b 127 = b % 128 := and127 hb0 hb1
    have e8 : iand .u8 b 128 = if 128 ≤ b then 128 else 0 := and128 hb0 hb1
    have em : IntKind.i64.wrap (n + IntKind.i64.wrap (IntKind.i64.wrap (iand .u8 b 127) * 2 ^ min (IntKind.u64.wrap (IntKind.i64.wrap (7 * size))).toNat IntKind.i64.bits)) = n + b % 128 * 128 ^ size.toNat := by
      rw [e1, e0, wrap_i64 (x := b % 128) (by omega) (by omega)]
      have hs : size = 0 ∨ size = 1 ∨ size = 2 ∨ size = 3 := by omega
      have e6 : IntKind.i64.wrap (b % 128 * 2 ^ min (7 * size).toNat IntKind.i64.bits) = b % 128 * 128 ^ size.toNat := by
        rcases hs with rfl | rfl | rfl | rfl <;> simp [IntKind.bits] <;> rw [wrap_i64 (by omega) (by omega)]
      rw [e6]
      rcases hs with rfl | rfl | rfl | rfl <;> simp at k4 ⊢ <;> rw [wrap_i64 (by omega) (by omega)]
    rw [em, e1, e2, e8]
    unfold push
    by_cases h2 : 128 ≤ b
    · by_cases h3 : size + 1 = 4
      · simp [h2, h3]; omega
      · simp [h2, h3]; omega
    · by_cases h3 : b = 0
      · by_cases h4 : 1 < size + 1
        · simp [h3, h4]; omega
        · simp [h3, h4]; omega
      · simp [h2, h3]; omega
  · cases hs

theorem invRd_ok {s : List UInt8} {len i : Int} {r : Rdr} (h : invRd s len i r = true) : 0 ≤ i ∧ i ≤ s.length ∧ len = s.length ∧ s.length ≤ 281474976710656 ∧ r.done = false ∧ r.bad = false ∧ r.ok = true := invRd_iff.1 h

noncomputable def s_vread : Sem1 El := fun args h => match args, h with
  | [.str s], [] => .ret (.tup [.int .i64 (vread s).n, .int .i64 (vread s).size, .int .i64 (vread s).e]) []
  | _, _ => .bad

noncomputable abbrev l_vread : List (Nat × FS El) := [(14, fsOf 1 s_vnew), (18, fsOf 0 s_vpush)]

def hs_vread : Nat → Option Hint
  | 2 => some ⟨[1, 0, 0, 0, 0, 1, 0, 0, 0, 0, 0, 1, 1], false⟩
  | 3 => some ⟨[1, 0, 0, 0, 0, 1, 0, 0, 0, 0, 0, 1, 1, 1], false⟩
  | 4 => some ⟨[1, 0, 0, 0, 0, 1, 1, 0, 0, 0, 0, 1, 1], false⟩
  | 5 => some ⟨[1, 0, 0, 0, 0, 1, 0, 1, 1, 0, 0, 1, 1], false⟩
  | 6 => some ⟨[1, 0, 0, 0, 0, 1, 0, 1, 1, 0, 0, 1, 1, 0, 0, 0, 0, 0, 0, 0, 0, 0, 0, 0, 1], false⟩
  | 7 => some ⟨[0, 0, 1, 1, 1], false⟩
  | 8 => some ⟨[1, 0, 0, 0, 0, 1, 0, 0, 0, 0, 0, 1, 1, 0, 0, 0, 0, 0, 0, 0, 0, 0, 0, 0, 0, 0, 1], false⟩
  | 9 => some ⟨[0, 0, 1, 1, 1], false⟩
  | 10 => some ⟨[1, 0, 0, 0, 0, 1, 0, 0, 0, 0, 0, 1, 1], false⟩
  | 1000003 => some ⟨[1, 0, 0, 0, 0, 1, 0, 0, 0, 0, 0, 1, 1], false⟩
  | _ => none

noncomputable def lp_vread_3 : LPd El := ⟨36, [0, 5, 11, 12], fun vs h => match vs, h with
  | [.str s, .ptr 0 0, .int .i64 len, .int .i64 i], [.blk [.int .i64 n, .int .i64 size, .bool done, .bool bad]] => .pre (invRd s len i ⟨n, size, done, bad⟩) (.br (rdL (s.drop i.toNat) ⟨n, size, done, bad⟩).all (.exit 0 (mkS 36 0 [0, 5, 11, 12, 13] [.str s, .ptr 0 0, .int .i64 len, .int .i64 len, .bool false]) [rdr (rdL (s.drop i.toNat) ⟨n, size, done, bad⟩).r]) (.ret (mkS 36 0 [2, 3, 4] [.int .i64 (rdL (s.drop i.toNat) ⟨n, size, done, bad⟩).n, .int .i64 (rdL (s.drop i.toNat) ⟨n, size, done, bad⟩).size, .int .i64 (rdL (s.drop i.toNat) ⟨n, size, done, bad⟩).e]) []))
  | _, _ => .bad⟩

abbrev st_vread_3 (x : List UInt8 × Int × Int × Int × Int × Bool × Bool) : List (AV El) := mkS 36 0 [0, 5, 11, 12] [.str x.1, .ptr 0 0, .int .i64 x.2.1, .int .i64 x.2.2.1]
abbrev hp_vread_3 (x : List UInt8 × Int × Int × Int × Int × Bool × Bool) : List (HE El) := [.blk [.int .i64 x.2.2.2.1, .int .i64 x.2.2.2.2.1, .bool x.2.2.2.2.2.1, .bool x.2.2.2.2.2.2]]

noncomputable def b_vread_3 (s : List UInt8) (len i n size : Int) (done bad : Bool) : Bx (List UInt8 × Int × Int × Int × Int × Bool × Bool) El :=
  .br (decide (i < len))
  (.pre (inl i s.length)
   (.pre (Rdr.ok ⟨n, size, done, bad⟩)
    (.br (!(decide (((push ⟨n, size, done, bad⟩ ((s.getD i.toNat 0).toNat : Int)).e) = 0)))
     (.ret (mkS 36 0 [2, 3, 4] [.int .i64 0, .int .i64 0, .int .i64 ((push ⟨n, size, done, bad⟩ ((s.getD i.toNat 0).toNat : Int)).e)]) [])
     (.br ((push ⟨n, size, done, bad⟩ ((s.getD i.toNat 0).toNat : Int)).is)
      (.ret (mkS 36 0 [2, 3, 4] [.int .i64 ((push ⟨n, size, done, bad⟩ ((s.getD i.toNat 0).toNat : Int)).r).n, .int .i64 (((push ⟨n, size, done, bad⟩ ((s.getD i.toNat 0).toNat : Int)).r).size), .int .i64 0]) [])
      (.next (s, len, IntKind.i64.wrap (i + 1), ((push ⟨n, size, done, bad⟩ ((s.getD i.toNat 0).toNat : Int)).r).n, ((push ⟨n, size, done, bad⟩ ((s.getD i.toNat 0).toNat : Int)).r).size, ((push ⟨n, size, done, bad⟩ ((s.getD i.toNat 0).toNat : Int)).r).done, ((push ⟨n, size, done, bad⟩ ((s.getD i.toNat 0).toNat : Int)).r).bad))))))
  (.exit 0 (mkS 36 0 [0, 5, 11, 12, 13] [.str s, .ptr 0 0, .int .i64 len, .int .i64 i, .bool false]) [.blk [.int .i64 n, .int .i64 size, .bool done, .bool bad]])

theorem B_vread_3 (s : List UInt8) (len i n size : Int) (done bad : Bool) (R : Type) (K kR : List (AV El) → List (HE El) → Option R) (kE : Nat → List (AV El) → List (HE El) → Option R) : lb l_vread Try.f26 hs_vread [(3, lp_vread_3)] 3 0 (st_vread_3 (s, len, i, n, size, done, bad)) (hp_vread_3 (s, len, i, n, size, done, bad)) R K kR kE = (b_vread_3 s len i n size done bad).go st_vread_3 hp_vread_3 K kR kE := by kernel_rfl

theorem k_vread_3 : LoopOk (C0.withFn (fnL l_vread)) 0 hs_vread (lpT [(3, lp_vread_3)]) 0 (loopBody (Try.f26.body.getD .skip) 3) lp_vread_3 := by
  refine LoopOk.tree st_vread_3 hp_vread_3 (fun x => (invRd x.1 x.2.1 x.2.2.1 ⟨x.2.2.2.1, x.2.2.2.2.1, x.2.2.2.2.2.1, x.2.2.2.2.2.2⟩) = true) (fun x => .br (rdL (x.1.drop x.2.2.1.toNat) ⟨x.2.2.2.1, x.2.2.2.2.1, x.2.2.2.2.2.1, x.2.2.2.2.2.2⟩).all (.exit 0 (mkS 36 0 [0, 5, 11, 12, 13] [.str x.1, .ptr 0 0, .int .i64 x.2.1, .int .i64 x.2.1, .bool false]) [rdr (rdL (x.1.drop x.2.2.1.toNat) ⟨x.2.2.2.1, x.2.2.2.2.1, x.2.2.2.2.2.1, x.2.2.2.2.2.2⟩).r]) (.ret (mkS 36 0 [2, 3, 4] [.int .i64 (rdL (x.1.drop x.2.2.1.toNat) ⟨x.2.2.2.1, x.2.2.2.2.1, x.2.2.2.2.2.1, x.2.2.2.2.2.2⟩).n, .int .i64 (rdL (x.1.drop x.2.2.1.toNat) ⟨x.2.2.2.1, x.2.2.2.2.1, x.2.2.2.2.2.1, x.2.2.2.2.2.2⟩).size, .int .i64 (rdL (x.1.drop x.2.2.1.toNat) ⟨x.2.2.2.1, x.2.2.2.2.1, x.2.2.2.2.2.1, x.2.2.2.2.2.2⟩).e]) [])) (fun x => (x.1.length - x.2.2.1).toNat) (fun x => b_vread_3 x.1 x.2.1 x.2.2.1 x.2.2.2.1 x.2.2.2.2.1 x.2.2.2.2.2.1 x.2.2.2.2.2.2) ?_ (fun x _ R K kR kE => B_vread_3 x.1 x.2.1 x.2.2.1 x.2.2.2.1 x.2.2.2.2.1 x.2.2.2.2.2.1 x.2.2.2.2.2.2 R K kR kE) ?_
  · intro R kR kE vs h r hr
    unfold lp_vread_3 at hr
    dsimp only at hr
    split at hr
    · rename_i s len i n size done bad
      obtain ⟨hc, hr⟩ := Ex.pre_out hr
      exact ⟨(s, len, i, n, size, done, bad), hc, rfl, rfl, hr⟩
    · cases hr
  · intro x hx
    obtain ⟨s, len, i, n, size, done, bad⟩ := x
    dsimp only at hx ⊢
    simp only [b_vread_3, Bx.sat, Ex.out, std0, stdA]
    obtain ⟨h1, h2, rfl, h4, h5, h6, h7⟩ := invRd_iff.1 hx
    dsimp only at h5 h6
    subst h5; subst h6
    have hd : i < (s.length : Int) → rdL (s.drop i.toNat) ⟨n, size, false, false⟩ = rdL (s.getD i.toNat 0 :: s.drop (i.toNat + 1)) ⟨n, size, false, false⟩ := fun h => by rw [drop_cons (by omega)]
    refine ⟨fun hl => ⟨fun _ => ⟨fun _ => ⟨fun he => ?_, fun he => ⟨fun hi => ?_, fun hi => ?_⟩⟩, fun hk => ?_⟩, fun hk => by omega⟩, fun hl => ?_⟩
    · intro R kR kE
      rw [hd hl, rdL, if_neg he]
      simp
    · intro R kR kE
      rw [hd hl, rdL, if_pos he, if_pos hi]
      simp
    · obtain ⟨a1, a2, a3⟩ := push_ok (r := ⟨n, size, false, false⟩) rfl rfl h7 he hi
      have er := Rdr.eta' a1 a2
      rw [wrap_i64 (by omega) (by omega)]
      refine ⟨invRd_iff.2 ⟨by omega, by omega, rfl, h4, a1, a2, a3⟩, by omega, fun R kR kE => ?_⟩
      have ei : (i + 1).toNat = i.toNat + 1 := by omega
      rw [hd hl, rdL, if_pos he, if_neg (by rw [hi]; simp), ei]
    · rw [h7] at hk; cases hk
    · intro R kR kE
      have : i = s.length := by omega
      subst this
      have : List.drop (s.length : Int).toNat s = [] := by simp
      rw [this]
      simp [rdL]

noncomputable def t_vread (s : List UInt8) : Rs El :=
  .pre (invRd s (s.length : Int) (0 : Int) ⟨(0 : Int), (0 : Int), false, false⟩)
  (.br ((rdL (s.drop (0 : Int).toNat) ⟨(0 : Int), (0 : Int), false, false⟩).all)
   (.ret (.tup [.int .i64 0, .int .i64 0, .int .i64 3]) [])
   (.ret (.tup [.int .i64 ((rdL (s.drop (0 : Int).toNat) ⟨(0 : Int), (0 : Int), false, false⟩).n), .int .i64 ((rdL (s.drop (0 : Int).toNat) ⟨(0 : Int), (0 : Int), false, false⟩).size), .int .i64 ((rdL (s.drop (0 : Int).toNat) ⟨(0 : Int), (0 : Int), false, false⟩).e)]) []))

theorem T_vread (s : List UInt8) (R : Type) (kk : AV El → List (HE El) → Option R) : evf 0 l_vread Try.f26 hs_vread [(3, lp_vread_3)] ⟨0, false, false⟩ [.str s] [] R kk = (t_vread s).go kk := by kernel_rfl

theorem c_vread : CT 26 (fsOf 0 s_vread) := by
  refine Ct.of base_ok Try.func26 rfl rfl (l := l_vread) ⟨c_vnew, c_vpush, trivial⟩ fun H ρ args vals h v h' hv hs => ?_
  unfold s_vread at hs
  split at hs
  · rename_i s
    obtain ⟨rfl, rfl⟩ := hs
    have hok := hv.ok
    refine ⟨_, hv, .treeL (T_vread s) (by kernel_rfl) (by simp only [List.mem_cons, List.not_mem_nil, or_false]; rintro p rfl; exact k_vread_3) ?_⟩
    simp only [okL, AV.ok, and_true, true_and] at hok
    simp only [t_vread, Rs.all, std0, stdA]
    have hi : invRd s s.length 0 ⟨0, 0, false, false⟩ = true := invRd_iff.2 ⟨by omega, by omega, rfl, hok, rfl, rfl, rfl⟩
    refine ⟨fun _ => ⟨fun h => ?_, fun h => by simp [vread]⟩, fun h => ?_⟩
    · obtain ⟨b1, b2, b3⟩ := rdL_all s ⟨0, 0, false, false⟩ (by simpa using h)
      simp [vread, b1, b2, b3]
    · rw [hi] at h; cases h
    
  · cases hs

end Go.Ev.A

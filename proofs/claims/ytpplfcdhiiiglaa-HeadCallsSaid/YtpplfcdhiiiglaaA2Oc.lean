/- Numbers as bytes; the cursor: the program's functions. Own work. -/
import Derived.Test.YtpplfcdhiiiglaaA2Cx
import Derived.Test.YtpplfcdhiiiglaaCs
import Derived.Test.YtpplfcdhiiiglaaA2Va
import Derived.Test.YtpplfcdhiiiglaaEv4
namespace Go.Ev.A
open Go.Proofs Go.Ev.Pl
set_option maxRecDepth 100000
set_option linter.unusedSimpArgs false
set_option linter.unusedVariables false

noncomputable def s_put : Sem1 El := fun args h => match args, h with
  | [.int .u64 n, .int .i64 size], [] => .ret (.str (putB n size)) []
  | _, _ => .bad

noncomputable abbrev l_put : List (Nat × FS El) := []

def hs_put : Nat → Option Hint
  | 5 => some ⟨[1, 1, 0, 0, 0, 1, 0, 0, 0, 0, 0, 0, 0, 1, 1], false⟩
  | 6 => some ⟨[1, 1, 0, 0, 0, 1, 0, 0, 0, 0, 0, 0, 0, 1, 1, 1], false⟩
  | 7 => some ⟨[1, 1, 0, 0, 0, 1, 1, 0, 0, 0, 0, 0, 0, 1, 1], false⟩
  | 8 => some ⟨[1, 1, 0, 0, 0, 1, 1, 0, 0, 0, 0, 0, 0, 1, 1, 0, 0, 0, 1], false⟩
  | 9 => some ⟨[1, 1, 0, 0, 0, 1, 0, 0, 0, 0, 0, 0, 0, 1, 1], false⟩
  | 10 => some ⟨[1, 1, 0, 0, 0, 1, 0, 0, 0, 0, 0, 0, 0, 1, 1], false⟩
  | 1000006 => some ⟨[1, 1, 0, 0, 0, 1, 0, 0, 0, 0, 0, 0, 0, 1, 1], false⟩
  | _ => none

noncomputable def lp_put_6 : LPd El := ⟨34, [0, 1, 5, 13, 14], fun vs h => match vs, h with
  | [.int .u64 n, .int .i64 size, .mbs 0, .int .i64 k, .int .i64 i], [.mb s] => .pre (decide (k = size) && invPut n size i s) (.exit 0 (mkS 34 0 [0, 1, 5, 13, 14, 15] [.int .u64 n, .int .i64 size, .mbs 0, .int .i64 k, .int .i64 size, .bool false]) [.mb (puL n size i s)])
  | _, _ => .bad⟩

abbrev st_put_6 (x : Int × Int × Int × Int × List UInt8) : List (AV El) := mkS 34 0 [0, 1, 5, 13, 14] [.int .u64 x.1, .int .i64 x.2.1, .mbs 0, .int .i64 x.2.2.1, .int .i64 x.2.2.2.1]
abbrev hp_put_6 (x : Int × Int × Int × Int × List UInt8) : List (HE El) := [.mb x.2.2.2.2]

noncomputable def b_put_6 (n size k i : Int) (s : List UInt8) : Bx (Int × Int × Int × Int × List UInt8) El :=
  .br (decide (i < k))
  (.br (decide (i < 8))
   (.pre (decide (0 ≤ (IntKind.u64.wrap (IntKind.i64.wrap (8 * i)))))
    (.pre (inl (IntKind.i64.wrap ((IntKind.i64.wrap (size - 1)) - i)) s.length)
     (.next (n, size, k, IntKind.i64.wrap (i + 1), s.set (IntKind.i64.wrap ((IntKind.i64.wrap (size - 1)) - i)).toNat (UInt8.ofNat (IntKind.u8.wrap (Int.fdiv n (2 ^ min (IntKind.u64.wrap (IntKind.i64.wrap (8 * i))).toNat IntKind.u64.bits))).toNat)))))
   (.next (n, size, k, IntKind.i64.wrap (i + 1), s)))
  (.exit 0 (mkS 34 0 [0, 1, 5, 13, 14, 15] [.int .u64 n, .int .i64 size, .mbs 0, .int .i64 k, .int .i64 i, .bool false]) [.mb s])

theorem B_put_6 (n size k i : Int) (s : List UInt8) (R : Type) (K kR : List (AV El) → List (HE El) → Option R) (kE : Nat → List (AV El) → List (HE El) → Option R) : lb l_put Try.f52 hs_put [(6, lp_put_6)] 6 0 (st_put_6 (n, size, k, i, s)) (hp_put_6 (n, size, k, i, s)) R K kR kE = (b_put_6 n size k i s).go st_put_6 hp_put_6 K kR kE := by kernel_rfl

theorem k_put_6 : LoopOk (C0.withFn (fnL l_put)) 0 hs_put (lpT [(6, lp_put_6)]) 0 (loopBody (Try.f52.body.getD .skip) 6) lp_put_6 := by
  refine LoopOk.tree st_put_6 hp_put_6 (fun x => (decide (x.2.2.1 = x.2.1) && invPut x.1 x.2.1 x.2.2.2.1 x.2.2.2.2) = true) (fun x => .exit 0 (mkS 34 0 [0, 1, 5, 13, 14, 15] [.int .u64 x.1, .int .i64 x.2.1, .mbs 0, .int .i64 x.2.2.1, .int .i64 x.2.1, .bool false]) [.mb (puL x.1 x.2.1 x.2.2.2.1 x.2.2.2.2)]) (fun x => (x.2.1 - x.2.2.2.1).toNat) (fun x => b_put_6 x.1 x.2.1 x.2.2.1 x.2.2.2.1 x.2.2.2.2) ?_ (fun x _ R K kR kE => B_put_6 x.1 x.2.1 x.2.2.1 x.2.2.2.1 x.2.2.2.2 R K kR kE) ?_
  · intro R kR kE vs h r hr
    unfold lp_put_6 at hr
    dsimp only at hr
    split at hr
    · rename_i n size k i s
      obtain ⟨hc, hr⟩ := Ex.pre_out hr
      exact ⟨(n, size, k, i, s), hc, rfl, rfl, hr⟩
    · cases hr
  · intro x hx
    obtain ⟨n, size, k, i, s⟩ := x
    dsimp only at hx ⊢
    simp only [b_put_6, Bx.sat, Ex.out, std0, stdA]
    simp only [std0] at hx
    obtain ⟨rfl, hx⟩ := hx
    obtain ⟨h1, h2, h3, h4, h5, h6⟩ := invPut_iff.1 hx
    have hw : IntKind.u64.wrap (IntKind.i64.wrap (8 * i)) = 8 * i := by rw [wrap_i64 (by omega) (by omega), wrap_u64]; omega
    have hp : IntKind.i64.wrap (IntKind.i64.wrap (k - 1) - i) = k - 1 - i := by rw [wrap_i64 (x := k - 1) (by omega) (by omega), wrap_i64 (by omega) (by omega)]
    have hstep : i < k → puL n k i s = puL n k (i + 1) (if i < 8 then s.set (k - 1 - i).toNat (u8 (n / 256 ^ i.toNat % 256)) else s) := fun h => by rw [puL.eq_def, dif_pos h]
    refine ⟨fun h => ⟨fun h8 => ?_, fun h8 => ?_⟩, fun h => ?_⟩
    · rw [hw, hp, wrap_i64 (x := i + 1) (by omega) (by omega)]
      refine ⟨fun _ => ⟨fun _ => ⟨by simp; exact invPut_iff.2 ⟨by omega, by omega, by omega, by omega, by omega, by simp; omega⟩, by omega, fun R kR kE => ?_⟩, fun hc => by omega⟩, fun hc => by omega⟩
      rw [hstep h, if_pos h8]
      have hs : Int.fdiv n (2 ^ min (8 * i).toNat IntKind.u64.bits) = n / 256 ^ i.toNat := by
        rw [fdiv_nn (Int.le_of_lt (Int.pow_pos (by decide)))]
        have : i = 0 ∨ i = 1 ∨ i = 2 ∨ i = 3 ∨ i = 4 ∨ i = 5 ∨ i = 6 ∨ i = 7 := by omega
        rcases this with rfl | rfl | rfl | rfl | rfl | rfl | rfl | rfl <;> rfl
      rw [hs, wrap_u8]
      rfl
    · rw [wrap_i64 (x := i + 1) (by omega) (by omega)]
      refine ⟨by simp; exact invPut_iff.2 ⟨by omega, by omega, by omega, by omega, by omega, by omega⟩, by omega, fun R kR kE => ?_⟩
      rw [hstep h, if_neg h8]
    · intro R kR kE
      have : i = k := by omega
      subst this
      rw [puL.eq_def, dif_neg (by omega)]

noncomputable def t_put (n size : Int) : Rs El :=
  .br (decide (size ≤ 0))
  (.ret (.str []) [])
  (.pre (inside 0 (if 16 < size then 16 else size) (if 16 < size then 16 else size) maxLen') (.pre (decide ((if 16 < size then 16 else size) = (if 16 < size then 16 else size)) && invPut n (if 16 < size then 16 else size) (0 : Int) (List.replicate (if 16 < size then 16 else size).toNat 0)) (.pre (Nat.ble (puL n (if 16 < size then 16 else size) (0 : Int) (List.replicate (if 16 < size then 16 else size).toNat 0)).length maxCat) (.ret (.str (puL n (if 16 < size then 16 else size) (0 : Int) (List.replicate (if 16 < size then 16 else size).toNat 0))) []))))

theorem T_put (n size : Int) (R : Type) (kk : AV El → List (HE El) → Option R) : evf 0 l_put Try.f52 hs_put [(6, lp_put_6)] ⟨0, false, false⟩ [.int .u64 n, .int .i64 size] [] R kk = (t_put n size).go kk := by kernel_rfl

theorem c_put : CT 52 (fsOf 0 s_put) := by
  refine Ct.of base_ok Try.func52 rfl rfl (l := l_put) trivial fun H ρ args vals h v h' hv hs => ?_
  unfold s_put at hs
  split at hs
  · rename_i n size
    obtain ⟨rfl, rfl⟩ := hs
    have hok := hv.ok
    refine ⟨_, hv, .treeL (T_put n size) (by kernel_rfl) (by simp only [List.mem_cons, List.not_mem_nil, or_false]; rintro p rfl; exact k_put_6) ?_⟩
    simp only [okL, AV.ok, and_true, true_and] at hok
    simp only [t_put, Rs.all, std0, stdA]
    refine ⟨fun h => by simp [putB, h], fun h => ?_⟩
    have hm : (0 : Int) ≤ (if 16 < size then 16 else size) ∧ (if 16 < size then 16 else size) ≤ (16 : Int) := by split <;> omega
    have hpb : putB n size = puL n (if 16 < size then 16 else size) 0 (List.replicate (if 16 < size then 16 else size).toNat 0) := by unfold putB; rw [if_neg h]
    rw [hpb]
    generalize (if 16 < size then 16 else size) = m at hm
    simp only [min_u64, max_u64] at hok
    have c2 : invPut n m 0 (List.replicate m.toNat 0) = true := invPut_iff.2 ⟨by omega, by omega, by omega, by omega, by omega, by simp; omega⟩
    refine ⟨fun _ => ⟨fun _ => ⟨fun _ => rfl, fun hc => hc ?_⟩, fun hc => ?_⟩, fun hc => hc (by simp [maxLen_eq]; omega)⟩
    · rw [puL_len, List.length_replicate, maxCat_eq]; omega
    · rw [hc trivial] at c2; cases c2
  · cases hs

-- not in this seat: octet.New

-- not in this seat: (*octet.Cursor).ready

-- not in this seat: (*octet.Cursor).has

-- not in this seat: (*octet.Cursor).Take

-- not in this seat: octet.Get

-- not in this seat: (*octet.Cursor).Number

-- not in this seat: (*octet.Cursor).Fail

-- not in this seat: (*octet.Cursor).At

-- not in this seat: (*octet.Cursor).Rest

-- not in this seat: (*octet.Cursor).Left

-- not in this seat: (*octet.Cursor).Err

end Go.Ev.A

/- Numbers as bytes: the program's functions, walked. Own work. -/
import Derived.Test.YtpplfcdhiiiglaaCa
import Derived.Test.YtpplfcdhiiiglaaOs
namespace Go.Ev.A
open Go.Proofs Go.Ev.Pl

set_option maxRecDepth 100000

/-! Put -/

def hs_put : Nat → Option Hint := (fun | 5 => some ⟨[1, 1, 0, 0, 0, 1, 0, 0, 0, 0, 0, 0, 0, 1, 1], false⟩ | 6 => some ⟨[1, 1, 0, 0, 0, 1, 0, 0, 0, 0, 0, 0, 0, 1, 1, 1], false⟩ | 7 => some ⟨[1, 1, 0, 0, 0, 1, 1, 0, 0, 0, 0, 0, 0, 1, 1], false⟩ | 8 => some ⟨[1, 1, 0, 0, 0, 1, 1, 0, 0, 0, 0, 0, 0, 1, 1, 0, 0, 0, 1], false⟩ | 9 => some ⟨[1, 1, 0, 0, 0, 1, 0, 0, 0, 0, 0, 0, 0, 1, 1], false⟩ | 10 => some ⟨[1, 1, 0, 0, 0, 1, 0, 0, 0, 0, 0, 0, 0, 1, 1], false⟩ | _ => none)

def lp_put : LPd El := ⟨34, [0, 1, 5, 13, 14], fun vs h => match vs, h with
  | [.int .u64 n, .int .i64 size, .mbs 0, .int .i64 size', .int .i64 i], [.mb s] => .pre (decide (size' = size) && invPut n size i s) (.exit 0 (mkS 34 0 [0, 1, 5, 13, 14, 15] [.int .u64 n, .int .i64 size, .mbs 0, .int .i64 size, .int .i64 size, .bool false]) [.mb (puL n size i s)])
  | _, _ => .bad⟩

def sem_put : Sem1 El := fun args h => match args, h with
  | [.int .u64 n, .int .i64 size], [] => .ret (.str (putB n size)) []
  | _, _ => .bad

theorem T_put (R : Type) (n size : Int) (kk : AV El → List (HE El) → Option R) : ev [] Try.f52 hs_put [(6, lp_put)] L0 [.int .u64 n, .int .i64 size] [] R kk =
  bif decide (size ≤ 0) then kk (AV.str []) []
  else
    bif
        decide (0 ≤ 0) && decide (0 ≤ if 16 < size then 16 else size) &&
            decide ((if 16 < size then 16 else size) ≤ (↑maxLen' : Int)) &&
          decide ((if 16 < size then 16 else size) = if 16 < size then 16 else size) then
      bif
          decide ((if 16 < size then 16 else size) = if 16 < size then 16 else size) &&
            invPut n (if 16 < size then 16 else size) (Int.ofNat 0)
              (List.replicate (if 16 < size then 16 else size).toNat 0) then
        if
            (puL n (if 16 < size then 16 else size) (Int.ofNat 0)
                  (List.replicate (if 16 < size then 16 else size).toNat 0)).length ≤
              maxCat then
          kk
            (AV.str
              (puL n (if 16 < size then 16 else size) (Int.ofNat 0)
                (List.replicate (if 16 < size then 16 else size).toNat 0)))
            []
        else none
      else none
    else none := by kernel_rfl

theorem B_put (R : Type) (n size i : Int) (s : List UInt8) (K kR : List (AV El) → List (HE El) → Option R) (kE : Nat → List (AV El) → List (HE El) → Option R) : lb [] Try.f52 hs_put [(6, lp_put)] 6 0 (mkS 34 0 [0, 1, 5, 13, 14] [.int .u64 n, .int .i64 size, .mbs 0, .int .i64 size, .int .i64 i]) [.mb s] R K kR kE =
  bif decide (i < size) then
    bif decide (i < 8) then
      bif decide (0 ≤ IntKind.u64.wrap (IntKind.i64.wrap (8 * i))) then
        bif
            decide (0 ≤ IntKind.i64.wrap (IntKind.i64.wrap (size - 1) - i)) &&
              decide (IntKind.i64.wrap (IntKind.i64.wrap (size - 1) - i) < (↑s.length : Int)) then
          K
            (mkS 34 0 [0, 1, 5, 13, 14]
              [AV.int IntKind.u64 n, AV.int IntKind.i64 size, AV.mbs 0, AV.int IntKind.i64 size,
                AV.int IntKind.i64 (IntKind.i64.wrap (i + 1))])
            [HE.mb
                (s.set (IntKind.i64.wrap (IntKind.i64.wrap (size - 1) - i)).toNat
                  (UInt8.ofNat
                    (IntKind.u8.wrap
                        (n.fdiv (2 ^ min (IntKind.u64.wrap (IntKind.i64.wrap (8 * i))).toNat IntKind.u64.bits))).toNat))]
        else none
      else none
    else
      K
        (mkS 34 0 [0, 1, 5, 13, 14]
          [AV.int IntKind.u64 n, AV.int IntKind.i64 size, AV.mbs 0, AV.int IntKind.i64 size,
            AV.int IntKind.i64 (IntKind.i64.wrap (i + 1))])
        [HE.mb s]
  else
    kE 0
      (mkS 34 0 [0, 1, 5, 13, 14, 15]
        [AV.int IntKind.u64 n, AV.int IntKind.i64 size, AV.mbs 0, AV.int IntKind.i64 size, AV.int IntKind.i64 i,
          AV.bool (decide (i < size))])
      [HE.mb s] := by kernel_rfl

theorem k_put : LoopOk (C0.withFn (fnL [])) 0 hs_put (lpT [(6, lp_put)]) 0 (loopBody (Try.f52.body.getD .skip) 6) lp_put := by
  intro R kR kE vs h r hr
  unfold lp_put at hr
  dsimp only at hr
  split at hr
  · rename_i n size size' i s
    obtain ⟨hc, hr⟩ := Ex.pre_out hr
    rw [← hr]
    simp only [Bool.and_eq_true, decide_eq_true_eq] at hc
    obtain ⟨rfl, hc⟩ := hc
    refine rounds_inv (S := Int × List UInt8) (fun x => mkS 34 0 [0, 1, 5, 13, 14] [.int .u64 n, .int .i64 size', .mbs 0, .int .i64 size', .int .i64 x.1]) (fun x => [.mb x.2])
      (fun x => kE 0 (mkS 34 0 [0, 1, 5, 13, 14, 15] [.int .u64 n, .int .i64 size', .mbs 0, .int .i64 size', .int .i64 size', .bool false]) [.mb (puL n size' x.1 x.2)]) (fun x => (size' - x.1).toNat)
      (fun x => invPut n size' x.1 x.2 = true) ?_ (i, s) hc
    clear hr hc
    intro ⟨i, s⟩ hi K hK
    refine (B_put R n size' i s K kR kE).trans ?_
    obtain ⟨h1, h2, h3, h4, h5, h6⟩ := invPut_iff.1 hi
    dsimp only at h3 h4 h6 hK
    by_cases hn : i < size'
    · rw [wrap_i64 (x := i + 1) (by omega) (by omega), wrap_i64 (x := size' - 1) (by omega) (by omega), wrap_i64 (x := size' - 1 - i) (by omega) (by omega), wrap_i64 (x := 8 * i) (by omega) (by omega)]
      have e1 : IntKind.u64.wrap (8 * i) = 8 * i := by rw [wrap_u64]; omega
      rw [e1, wrap_u8]
      rw [puL.eq_def n size' i s, dif_pos hn]
      by_cases h8 : i < 8
      · have e2 : n.fdiv (2 ^ min (8 * i).toNat IntKind.u64.bits) = n / 256 ^ i.toNat := by
          have hi8 : i = 0 ∨ i = 1 ∨ i = 2 ∨ i = 3 ∨ i = 4 ∨ i = 5 ∨ i = 6 ∨ i = 7 := by omega
          rcases hi8 with rfl | rfl | rfl | rfl | rfl | rfl | rfl | rfl <;> exact fdiv_nn (by decide)
        have c1 : 0 ≤ size' - 1 - i := by omega
        have c2 : size' - 1 - i < (s.length : Int) := by omega
        have c3 : (0 : Int) ≤ 8 * i := by omega
        rw [e2]
        simp only [hn, h8, c1, c2, c3, decide_true, cond_true, Bool.and_self, if_true]
        exact hK (i + 1, s.set (size' - 1 - i).toNat (u8 (n / 256 ^ i.toNat % 256))) (invPut_iff.2 ⟨h1, h2, by dsimp only; omega, by dsimp only; omega, h5, by simp [h6]⟩) (by dsimp only; omega)
      · simp only [hn, h8, decide_true, decide_false, cond_true, cond_false, if_false]
        exact hK (i + 1, s) (invPut_iff.2 ⟨h1, h2, by dsimp only; omega, by dsimp only; omega, h5, h6⟩) (by dsimp only; omega)
    · have he : i = size' := by omega
      subst he
      simp only [Int.lt_irrefl, decide_false, cond_false]
      rw [puL.eq_def n i i s, dif_neg (by omega)]
  · cases hr

theorem c_put : CT 52 (fsOf 0 sem_put) := by
  refine Ct.of base_ok Try.func52 rfl rfl (l := []) trivial fun H ρ args vals h v h' hv hs => ?_
  unfold sem_put at hs
  split at hs
  · rename_i n size
    obtain ⟨rfl, rfl⟩ := hs
    refine ⟨_, hv, .loops hs_put [(6, lp_put)] L0 (by kernel_rfl) (by simp only [List.mem_singleton]; rintro p rfl; exact k_put) fun R kk => (T_put R n size kk).trans ?_⟩
    have hn := inR_u64'.1 (hv.at_int (i := 0) rfl)
    unfold putB
    by_cases h1 : size ≤ 0
    · simp [h1]
    · have hm : (0 : Int) ≤ (if 16 < size then 16 else size) ∧ (if 16 < size then 16 else size) ≤ (16 : Int) := by split <;> omega
      generalize (if 16 < size then 16 else size) = m at hm
      have c1 : m ≤ (maxLen' : Int) := by unfold maxLen'; omega
      have c2 : invPut n m (Int.ofNat 0) (List.replicate m.toNat 0) = true := invPut_iff.2 ⟨hn.1, hn.2, by simp, by simp; omega, hm.2, by simp; omega⟩
      have c3 : (puL n m (Int.ofNat 0) (List.replicate m.toNat 0)).length ≤ maxCat := by rw [puL_len, List.length_replicate]; unfold maxCat; omega
      rw [if_pos c3]
      simp only [h1, hm.1, c1, c2, decide_true, decide_false, cond_true, cond_false, Bool.and_self, if_false, Nat.le_refl]
      rfl
  · cases hs

end Go.Ev.A

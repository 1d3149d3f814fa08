/- Variable byte integers: the reference's functions, walked. Own work. -/
import Derived.Test.YtpplfcdhiiiglaaVw
namespace Go.Ev.A
open Go.Proofs Go.Ev.Pl

set_option maxRecDepth 100000

/-! Size -/

def sem_rsize : Sem1 El := fun args h => match args, h with
  | [.int .i64 n], [] => .ret (.int .i64 (rsize n)) []
  | _, _ => .bad

abbrev fs_rsize := fsOf 0 sem_rsize

theorem T_rsize (R : Type) (n : Int) (k : AV El → List (HE El) → Option R) : ev [] Try.f29 (fun _ => none) [] L0 [.int .i64 n] [] R k =
  bif decide (n < 0) then k (AV.int IntKind.i64 (Int.ofNat 0)) []
  else
    bif decide (268435455 < n) then k (AV.int IntKind.i64 (Int.ofNat 0)) []
    else
      bif decide (n < 128) then k (AV.int IntKind.i64 (Int.ofNat 1)) []
      else
        bif decide (n < 16384) then k (AV.int IntKind.i64 (Int.ofNat 2)) []
        else
          bif decide (n < 2097152) then k (AV.int IntKind.i64 (Int.ofNat 3)) []
          else k (AV.int IntKind.i64 (Int.ofNat 4)) [] := by kernel_rfl

theorem c_rsize : CT 29 fs_rsize := by
  refine Ct.of base_ok Try.func29 rfl rfl (l := []) trivial fun H ρ args vals h v h' hv hs => ?_
  unfold sem_rsize at hs
  split at hs
  · rename_i n
    obtain ⟨rfl, rfl⟩ := hs
    refine ⟨_, hv, .plain _ fun R k => (T_rsize R n k).trans ?_⟩
    unfold rsize mayB
    by_cases h1 : n < 0
    · have : ¬ 0 ≤ n := by omega
      simp [h1, this]
    · have h1' : 0 ≤ n := by omega
      by_cases h2 : 268435455 < n
      · have : ¬ n ≤ 268435455 := by omega
        simp [h1, h2, this]
      · have h2' : n ≤ 268435455 := by omega
        simp only [h1, h2, h1', h2', decide_true, decide_false, cond_false, Bool.and_self, if_true]
        by_cases h3 : n < 128 <;> by_cases h4 : n < 16384 <;> by_cases h5 : n < 2097152 <;> simp [h3, h4, h5]
  · cases hs

/-! Bytes -/

def hs_rbytes : Nat → Option Hint := (fun | 5 => some ⟨[1, 0, 0, 0, 1, 2, 1], false⟩ | 6 => some ⟨[1, 0, 0, 0, 1, 2, 1, 0, 0, 0, 0, 0, 0, 0, 1], false⟩ | 7 => some ⟨[1, 0, 0, 0, 1, 2, 1], false⟩ | 8 => some ⟨[1, 0, 0, 0, 1, 2, 1, 1], false⟩ | 9 => some ⟨[1, 0, 0, 0, 1, 2, 1, 1], false⟩ | 10 => some ⟨[1, 0, 0, 0, 1, 2, 1, 1, 0, 0, 0, 0, 0, 0, 0, 0, 0, 0, 0, 0, 0, 0, 0, 0, 0, 1], false⟩ | 11 => some ⟨[1, 0, 0, 0, 1, 2, 1, 1], false⟩ | 12 => some ⟨[1, 0, 0, 0, 1, 2, 1], false⟩ | _ => none)

def lp_rbytes : LPd El := ⟨34, [0, 4, 5, 6], fun vs h => match vs, h with
  | [.int .i64 n, .int .i64 size, .bytes (.tok 0) out, .int .i64 i], [.tok] => .pre (invRb n size i out) (.exit 0 (mkS 34 0 [0, 4, 5, 6, 14] [.int .i64 (rbL size n i out).n, .int .i64 size, .bytes (.tok 0) (rbL size n i out).out, .int .i64 size, .bool false]) [.tok])
  | _, _ => .bad⟩

def sem_rbytes : Sem1 El := fun args h => match args, h with
  | [.int .i64 n], [] => .ret (.tup [.str (rbytes n), .int .i64 (rbytesE n)]) []
  | _, _ => .bad

abbrev fs_rbytes := fsOf 0 sem_rbytes

abbrev l_rbytes : List (Nat × FS El) := [(29, fs_rsize)]

theorem T_rbytes (R : Type) (n : Int) (k : AV El → List (HE El) → Option R) : ev l_rbytes Try.f25 hs_rbytes [(6, lp_rbytes)] L0 [.int .i64 n] [] R k =
  bif decide (rsize n = 0) then k (AV.tup [AV.str [], AV.int IntKind.i64 (Int.ofNat 2)]) []
  else
    bif invRb n (rsize n) (Int.ofNat 0) [] then
      k (AV.tup [AV.str (rbL (rsize n) n (Int.ofNat 0) []).out, AV.int IntKind.i64 (Int.ofNat 0)]) []
    else none := by kernel_rfl

theorem B_rbytes (R : Type) (n size i : Int) (out : List UInt8) (K kR : List (AV El) → List (HE El) → Option R) (kE : Nat → List (AV El) → List (HE El) → Option R) : lb l_rbytes Try.f25 hs_rbytes [(6, lp_rbytes)] 6 0 (mkS 34 0 [0, 4, 5, 6] [.int .i64 n, .int .i64 size, .bytes (.tok 0) out, .int .i64 i]) [.tok] R K kR kE =
  bif decide (i < size) then
    bif decide (IntKind.i64.wrap (i + 1) < size) then
      bif
          decide
            (out.length + [UInt8.ofNat (IntKind.u8.wrap (IntKind.u8.wrap (n.tmod 128) + 128)).toNat].length ≤
              maxLen') then
        K
          (mkS 34 0 [0, 4, 5, 6]
            [AV.int IntKind.i64 (IntKind.i64.wrap (n.tdiv 128)), AV.int IntKind.i64 size,
              AV.bytes (Fl.tok 0) (out ++ [UInt8.ofNat (IntKind.u8.wrap (IntKind.u8.wrap (n.tmod 128) + 128)).toNat]),
              AV.int IntKind.i64 (IntKind.i64.wrap (i + 1))])
          [HE.tok]
      else none
    else
      bif decide (out.length + [UInt8.ofNat (IntKind.u8.wrap (n.tmod 128)).toNat].length ≤ maxLen') then
        K
          (mkS 34 0 [0, 4, 5, 6]
            [AV.int IntKind.i64 (IntKind.i64.wrap (n.tdiv 128)), AV.int IntKind.i64 size,
              AV.bytes (Fl.tok 0) (out ++ [UInt8.ofNat (IntKind.u8.wrap (n.tmod 128)).toNat]),
              AV.int IntKind.i64 (IntKind.i64.wrap (i + 1))])
          [HE.tok]
      else none
  else
    kE 0
      (mkS 34 0 [0, 4, 5, 6, 14]
        [AV.int IntKind.i64 n, AV.int IntKind.i64 size, AV.bytes (Fl.tok 0) out, AV.int IntKind.i64 i,
          AV.bool (decide (i < size))])
      [HE.tok] := by kernel_rfl

theorem k_rbytes : LoopOk (C0.withFn (fnL l_rbytes)) 0 hs_rbytes (lpT [(6, lp_rbytes)]) 0 (loopBody (Try.f25.body.getD .skip) 6) lp_rbytes := by
  intro R kR kE vs h r hr
  unfold lp_rbytes at hr
  dsimp only at hr
  split at hr
  · rename_i n size out i
    obtain ⟨hc, hr⟩ := Ex.pre_out hr
    rw [← hr]
    refine rounds_inv (S := Int × Int × List UInt8) (fun x => mkS 34 0 [0, 4, 5, 6] [.int .i64 x.1, .int .i64 size, .bytes (.tok 0) x.2.2, .int .i64 x.2.1]) (fun _ => [.tok])
      (fun x => kE 0 (mkS 34 0 [0, 4, 5, 6, 14] [.int .i64 (rbL size x.1 x.2.1 x.2.2).n, .int .i64 size, .bytes (.tok 0) (rbL size x.1 x.2.1 x.2.2).out, .int .i64 size, .bool false]) [.tok]) (fun x => (size - x.2.1).toNat)
      (fun x => invRb x.1 size x.2.1 x.2.2 = true) ?_ (n, i, out) hc
    clear hr hc
    intro ⟨n, i, out⟩ hi K hK
    refine (B_rbytes R n size i out K kR kE).trans ?_
    obtain ⟨h1, h2, h3, h4, h5, h6⟩ := invRb_iff.1 hi
    dsimp only at h1 h2 h3 h4 h5 h6
    have e1 : IntKind.u8.wrap (n.tmod 128) = n % 128 := by rw [tmod_nn h1, wrap_u8]; omega
    have e2 : IntKind.u8.wrap (n % 128 + 128) = n % 128 + 128 := by rw [wrap_u8]; omega
    rw [e1, e2, tdiv_nn h1, wrap_i64 (x := n / 128) (by omega) (by omega), wrap_i64 (x := i + 1) (by omega) (by omega)]
    have hl : ∀ b : UInt8, out.length + [b].length ≤ maxLen' := by intro b; simp [maxLen']; omega
    by_cases hn : i < size
    · by_cases hm : i + 1 < size
      · simp only [hn, hm, hl, decide_true, cond_true]
        refine (hK (n / 128, i + 1, out ++ [u8 (n % 128 + 128)]) (invRb_iff.2 ⟨by dsimp only; omega, by dsimp only; omega, by dsimp only; omega, h4, by dsimp only; omega, by simp; omega⟩) (by dsimp only; omega)).trans ?_
        dsimp only
        rw [rbL.eq_def size n i out, dif_pos hn, if_pos hm]
      · simp only [hn, hm, hl, decide_true, decide_false, cond_true, cond_false]
        refine (hK (n / 128, i + 1, out ++ [u8 (n % 128)]) (invRb_iff.2 ⟨by dsimp only; omega, by dsimp only; omega, by dsimp only; omega, h4, by dsimp only; omega, by simp; omega⟩) (by dsimp only; omega)).trans ?_
        dsimp only
        rw [rbL.eq_def size n i out, dif_pos hn, if_neg hm, Int.add_zero]
    · have he : i = size := by omega
      subst he
      simp only [Int.lt_irrefl, decide_false, cond_false]
      rw [rbL.eq_def i n i out, dif_neg (by omega)]
  · cases hr

theorem c_rbytes : CT 25 fs_rbytes := by
  refine Ct.of base_ok Try.func25 rfl rfl (l := l_rbytes) ⟨c_rsize, trivial⟩ fun H ρ args vals h v h' hv hs => ?_
  unfold sem_rbytes at hs
  split at hs
  · rename_i n
    obtain ⟨rfl, rfl⟩ := hs
    refine ⟨_, hv, .loops hs_rbytes [(6, lp_rbytes)] L0 (by kernel_rfl) (by simp only [List.mem_singleton]; rintro p rfl; exact k_rbytes) fun R k => (T_rbytes R n k).trans ?_⟩
    unfold rbytes rbytesE
    cases hm : mayB n
    · have : rsize n = 0 := by simp [rsize, hm]
      rw [this]
      rfl
    · have h1 : 1 ≤ rsize n ∧ rsize n ≤ 4 := by
        simp only [rsize, hm, if_true]
        split <;> (try split) <;> (try split) <;> omega
      simp only [mayB, Bool.and_eq_true, decide_eq_true_eq] at hm
      have h2 : ¬ rsize n = 0 := by omega
      rw [show Int.ofNat 0 = 0 from rfl, invRb_iff.2 ⟨hm.1, by omega, by omega, h1.2, by omega, by simp⟩]
      simp only [h2, decide_false, cond_false, cond_true, if_true]
  · cases hs

/-! Read -/

def hs_rread : Nat → Option Hint := (fun | 2 => some ⟨[1, 0, 0, 0, 0, 1, 1, 1], false⟩ | 3 => some ⟨[1, 0, 0, 0, 0, 1, 1, 1, 0, 1], false⟩ | 4 => some ⟨[1, 0, 0, 0, 0, 1, 1, 1], false⟩ | 5 => some ⟨[1, 0, 0, 0, 0, 1, 1, 1, 0, 0, 0, 0, 0, 0, 0, 1], false⟩ | 6 => some ⟨[0, 0, 1, 1, 1], false⟩ | 7 => some ⟨[1, 0, 0, 0, 0, 1, 1, 1], false⟩ | 8 => some ⟨[1, 0, 0, 0, 0, 1, 1, 1], false⟩ | 9 => some ⟨[1, 0, 0, 0, 0, 1, 1, 1, 0, 0, 0, 0, 0, 0, 0, 0, 0, 0, 0, 0, 0, 0, 0, 0, 0, 0, 0, 0, 0, 0, 1], false⟩ | 10 => some ⟨[0, 0, 0, 0, 0, 1, 0, 1, 0, 0, 0, 0, 0, 0, 0, 0, 0, 0, 0, 0, 0, 0, 0, 0, 0, 0, 0, 0, 0, 0, 0, 0, 0, 0, 0, 0, 0, 0, 1], false⟩ | 11 => some ⟨[0, 0, 1, 1, 1], false⟩ | 12 => some ⟨[0, 0, 1, 1, 1], false⟩ | _ => none)

abbrev exRr (s : List UInt8) (x : RrL) : Ex El :=
  .br x.ret (.ret (mkS 42 0 [2, 3, 4] [.int .i64 x.n, .int .i64 x.size, .int .i64 x.e]) []) (.exit 0 (mkS 42 0 [0, 5, 6, 7, 9] [.str s, .int .i64 x.n, .int .i64 x.times, .int .i64 4, .bool false]) [])

def lp_rread : LPd El := ⟨42, [0, 5, 6, 7], fun vs h => match vs, h with
  | [.str s, .int .i64 n, .int .i64 times, .int .i64 i], [] => .pre (invRr s n times i) (exRr s (rrL s n times i))
  | _, _ => .bad⟩

def sem_rread : Sem1 El := fun args h => match args, h with
  | [.str s], [] => .ret (.tup [.int .i64 (rread s).n, .int .i64 (rread s).size, .int .i64 (rread s).e]) []
  | _, _ => .bad

abbrev fs_rread := fsOf 0 sem_rread

theorem T_rread (R : Type) (s : List UInt8) (k : AV El → List (HE El) → Option R) : ev [] Try.f27 hs_rread [(3, lp_rread)] L0 [.str s] [] R k =
  bif invRr s (Int.ofNat 0) (Int.ofNat 1) (Int.ofNat 0) then
    bif (rrL s (Int.ofNat 0) (Int.ofNat 1) (Int.ofNat 0)).1 then
      k
        (AV.tup
          [AV.int IntKind.i64 (rrL s (Int.ofNat 0) (Int.ofNat 1) (Int.ofNat 0)).n,
            AV.int IntKind.i64 (rrL s (Int.ofNat 0) (Int.ofNat 1) (Int.ofNat 0)).size,
            AV.int IntKind.i64 (rrL s (Int.ofNat 0) (Int.ofNat 1) (Int.ofNat 0)).e])
        []
    else
      k (AV.tup [AV.int IntKind.i64 (Int.ofNat 0), AV.int IntKind.i64 (Int.ofNat 0), AV.int IntKind.i64 (Int.ofNat 5)]) []
  else none := by kernel_rfl

theorem B_rread (R : Type) (s : List UInt8) (n times i : Int) (K kR : List (AV El) → List (HE El) → Option R) (kE : Nat → List (AV El) → List (HE El) → Option R) : lb [] Try.f27 hs_rread [(3, lp_rread)] 3 0 (mkS 42 0 [0, 5, 6, 7] [.str s, .int .i64 n, .int .i64 times, .int .i64 i]) [] R K kR kE =
  bif decide (i < 4) then
    bif decide ((↑s.length : Int) ≤ i) then
      kR
        (mkS 42 0 [2, 3, 4]
          [AV.int IntKind.i64 (Int.ofNat 0), AV.int IntKind.i64 (Int.ofNat 0), AV.int IntKind.i64 (Int.ofNat 3)])
        []
    else
      bif decide (0 ≤ i) && decide (i < (↑s.length : Int)) then
        bif decide (0 ≤ i) && decide (i < (↑s.length : Int)) then
          bif decide ((↑(s.getD i.toNat 0).toNat : Int) < 128) then
            bif decide (0 < i) then
              bif decide (0 ≤ i) && decide (i < (↑s.length : Int)) then
                bif decide ((↑(s.getD i.toNat 0).toNat : Int) = 0) then
                  kR
                    (mkS 42 0 [2, 3, 4]
                      [AV.int IntKind.i64 (Int.ofNat 0), AV.int IntKind.i64 (Int.ofNat 0),
                        AV.int IntKind.i64 (Int.ofNat 5)])
                    []
                else
                  kR
                    (mkS 42 0 [2, 3, 4]
                      [AV.int IntKind.i64
                          (IntKind.i64.wrap
                            (n +
                              IntKind.i64.wrap (IntKind.i64.wrap ((↑(s.getD i.toNat 0).toNat : Int).tmod 128) * times))),
                        AV.int IntKind.i64 (IntKind.i64.wrap (i + 1)), AV.int IntKind.i64 (Int.ofNat 0)])
                    []
              else none
            else
              kR
                (mkS 42 0 [2, 3, 4]
                  [AV.int IntKind.i64
                      (IntKind.i64.wrap
                        (n + IntKind.i64.wrap (IntKind.i64.wrap ((↑(s.getD i.toNat 0).toNat : Int).tmod 128) * times))),
                    AV.int IntKind.i64 (IntKind.i64.wrap (i + 1)), AV.int IntKind.i64 (Int.ofNat 0)])
                []
          else
            K
              (mkS 42 0 [0, 5, 6, 7]
                [AV.str s,
                  AV.int IntKind.i64
                    (IntKind.i64.wrap
                      (n + IntKind.i64.wrap (IntKind.i64.wrap ((↑(s.getD i.toNat 0).toNat : Int).tmod 128) * times))),
                  AV.int IntKind.i64 (IntKind.i64.wrap (times * 128)), AV.int IntKind.i64 (IntKind.i64.wrap (i + 1))])
              []
        else none
      else none
  else
    kE 0
      (mkS 42 0 [0, 5, 6, 7, 9]
        [AV.str s, AV.int IntKind.i64 n, AV.int IntKind.i64 times, AV.int IntKind.i64 i, AV.bool (decide (i < 4))])
      [] := by kernel_rfl

theorem k_rread : LoopOk (C0.withFn (fnL [])) 0 hs_rread (lpT [(3, lp_rread)]) 0 (loopBody (Try.f27.body.getD .skip) 3) lp_rread := by
  intro R kR kE vs h r hr
  unfold lp_rread at hr
  dsimp only at hr
  split at hr
  · rename_i s n times i
    obtain ⟨hc, hr⟩ := Ex.pre_out hr
    rw [← hr]
    refine rounds_inv (S := Int × Int × Int) (fun x => mkS 42 0 [0, 5, 6, 7] [.str s, .int .i64 x.1, .int .i64 x.2.1, .int .i64 x.2.2]) (fun _ => [])
      (fun x => (exRr s (rrL s x.1 x.2.1 x.2.2)).out kR kE) (fun x => (4 - x.2.2).toNat)
      (fun x => invRr s x.1 x.2.1 x.2.2 = true) ?_ (n, times, i) hc
    clear hr hc
    intro ⟨n, times, i⟩ hi K hK
    refine (B_rread R s n times i K kR kE).trans ?_
    obtain ⟨h1, h2, h3, h4, h5, h6⟩ := invRr_iff.1 hi
    dsimp only at h1 h2 h3 h4 h5 h6
    by_cases hn : i < 4
    · by_cases hl : (s.length : Int) ≤ i
      · simp only [hn, hl, decide_true, cond_true]
        rw [rrL.eq_def, dif_pos hn, if_pos hl]
        rfl
      · have hl' : i < s.length := by omega
        have hb1 := (s.getD i.toNat 0).toNat_lt
        have hat : at' s i = ((s.getD i.toNat 0).toNat : Nat) := rfl
        rw [rrL.eq_def s n times i, dif_pos hn, if_neg hl, hat]
        generalize (s.getD i.toNat 0).toNat = c at hb1 hat ⊢
        have hi4 : i = 0 ∨ i = 1 ∨ i = 2 ∨ i = 3 := by omega
        have ht : 1 ≤ times ∧ times ≤ 2097152 := by rcases hi4 with rfl | rfl | rfl | rfl <;> simp at h3 <;> omega
        have hc : (0 : Int) ≤ (c : Int) % 128 ∧ (c : Int) % 128 ≤ 127 := by omega
        have hm0 : 0 ≤ (c : Int) % 128 * times := Int.mul_nonneg hc.1 (by omega)
        have hm1 : (c : Int) % 128 * times ≤ 127 * times := Int.mul_le_mul_of_nonneg_right hc.2 (by omega)
        have e1 : IntKind.i64.wrap (n + IntKind.i64.wrap (IntKind.i64.wrap ((c : Int).tmod 128) * times)) = n + c % 128 * times := by
          rw [tmod_nn (by omega), wrap_i64 (x := (c : Int) % 128) (by omega) (by omega), wrap_i64 (x := (c : Int) % 128 * times) (by omega) (by omega), wrap_i64 (by omega) (by omega)]
        rw [e1, wrap_i64 (x := times * 128) (by omega) (by omega), wrap_i64 (x := i + 1) (by omega) (by omega)]
        simp only [hn, hl, hl', h1, decide_true, decide_false, cond_true, cond_false, Bool.and_self]
        by_cases hcc : (c : Int) < 128
        · simp only [hcc, decide_true, cond_true, if_true]
          by_cases hp : 0 < i
          · by_cases hz : (c : Int) = 0
            · simp only [hp, hz, decide_true, cond_true, and_self, if_true]
              rfl
            · simp only [hp, hz, decide_true, decide_false, cond_true, cond_false, and_false, if_false]
              rfl
          · simp only [hp, decide_false, cond_false, false_and, if_false]
            rfl
        · simp only [hcc, decide_false, cond_false, if_false]
          refine hK (n + c % 128 * times, times * 128, i + 1) (invRr_iff.2 ⟨by dsimp only; omega, by dsimp only; omega, ?_, by dsimp only; omega, by dsimp only; omega, h6⟩) (by dsimp only; omega)
          dsimp only
          rw [h3]
          rcases hi4 with rfl | rfl | rfl | rfl <;> rfl
    · have he : i = 4 := by omega
      subst he
      simp only [Int.lt_irrefl, decide_false, cond_false]
      rw [rrL.eq_def, dif_neg hn]
      rfl
  · cases hr

theorem c_rread : CT 27 fs_rread := by
  refine Ct.of base_ok Try.func27 rfl rfl (l := []) trivial fun H ρ args vals h v h' hv hs => ?_
  unfold sem_rread at hs
  split at hs
  · rename_i s
    obtain ⟨rfl, rfl⟩ := hs
    refine ⟨_, hv, .loops hs_rread [(3, lp_rread)] L0 (by kernel_rfl) (by simp only [List.mem_singleton]; rintro p rfl; exact k_rread) fun R k => (T_rread R s k).trans ?_⟩
    have hl := VL.str_len hv
    have e0 : Int.ofNat 0 = 0 := rfl
    have e1 : Int.ofNat 1 = 1 := rfl
    rw [e0, e1]
    unfold rread
    have hi : invRr s 0 1 0 = true := invRr_iff.2 ⟨by omega, by omega, rfl, by omega, by omega, hl⟩
    rw [hi]
    cases (rrL s 0 1 0).ret <;> rfl
  · cases hs

/-! The reference's reader -/

abbrev rrdr (r : RRdr) : HE El := .blk [.str r.s, .int .i64 r.e]

def sem_rnew : Sem1 El := fun args h => match args, h with
  | [], [] => .ret (.ptr 0 0) [rrdr ⟨[], 0⟩]
  | _, _ => .bad

abbrev fs_rnew := fsOf 1 sem_rnew

theorem T_rnew (R : Type)  (k : AV El → List (HE El) → Option R) : ev [] Try.f15 (fun _ => none) [] ⟨1, false, false⟩ [] [] R k =
  k (AV.ptr 0 0) [HE.blk [AV.str [], AV.int IntKind.i64 (Int.ofNat 0)]] := by kernel_rfl

theorem c_rnew : CT 15 fs_rnew := by
  refine Ct.of base_ok Try.func15 rfl rfl (l := []) trivial fun H ρ args vals h v h' hv hs => ?_
  unfold sem_rnew at hs
  split at hs
  · obtain ⟨rfl, rfl⟩ := hs
    exact ⟨_, hv, .plain _ fun R k => T_rnew R k⟩
  · cases hs

def sem_rreset : Sem1 El := fun args h => match args, h with
  | [.ptr 0 0], [.blk [.str _, .int .i64 _]] => .ret (.tup []) [rrdr ⟨[], 0⟩]
  | _, _ => .bad

abbrev fs_rreset := fsOf 0 sem_rreset

theorem T_rreset (R : Type) (s : List UInt8) (e : Int) (k : AV El → List (HE El) → Option R) : ev [] Try.f17 (fun _ => none) [] L0 [.ptr 0 0] [.blk [.str s, .int .i64 e]] R k =
  k (AV.tup []) [HE.blk [AV.str [], AV.int IntKind.i64 (Int.ofNat 0)]] := by kernel_rfl

theorem c_rreset : CT 17 fs_rreset := by
  refine Ct.of base_ok Try.func17 rfl rfl (l := []) trivial fun H ρ args vals h v h' hv hs => ?_
  unfold sem_rreset at hs
  split at hs
  · obtain ⟨rfl, rfl⟩ := hs
    exact ⟨_, hv, .plain _ fun R k => T_rreset R _ _ k⟩
  · cases hs

def sem_rvalue : Sem1 El := fun args h => match args, h with
  | [.ptr 0 0], [.blk [.str s, .int .i64 e]] => .ret (.tup [.int .i64 (rread s).n, .bool (decide ((rread s).e = 0))]) [rrdr ⟨s, e⟩]
  | _, _ => .bad

abbrev fs_rvalue := fsOf 0 sem_rvalue

theorem T_rvalue (R : Type) (s : List UInt8) (e : Int) (k : AV El → List (HE El) → Option R) : ev [(27, fs_rread)] Try.f21 (fun _ => none) [] L0 [.ptr 0 0] [.blk [.str s, .int .i64 e]] R k =
  k (AV.tup [AV.int IntKind.i64 (rread s).n, AV.bool (decide ((rread s).e = 0))])
    [HE.blk [AV.str s, AV.int IntKind.i64 e]] := by kernel_rfl

theorem c_rvalue : CT 21 fs_rvalue := by
  refine Ct.of base_ok Try.func21 rfl rfl (l := [(27, fs_rread)]) ⟨c_rread, trivial⟩ fun H ρ args vals h v h' hv hs => ?_
  unfold sem_rvalue at hs
  split at hs
  · obtain ⟨rfl, rfl⟩ := hs
    exact ⟨_, hv, .plain _ fun R k => T_rvalue R _ _ k⟩
  · cases hs

def sem_rrsz : Sem1 El := fun args h => match args, h with
  | [.ptr 0 0], [.blk [.str s, .int .i64 e]] => .ret (.int .i64 s.length) [rrdr ⟨s, e⟩]
  | _, _ => .bad

abbrev fs_rrsz := fsOf 0 sem_rrsz

theorem T_rrsz (R : Type) (s : List UInt8) (e : Int) (k : AV El → List (HE El) → Option R) : ev [] Try.f23 (fun _ => none) [] L0 [.ptr 0 0] [.blk [.str s, .int .i64 e]] R k =
  k (AV.int IntKind.i64 (↑s.length : Int)) [HE.blk [AV.str s, AV.int IntKind.i64 e]] := by kernel_rfl

theorem c_rrsz : CT 23 fs_rrsz := by
  refine Ct.of base_ok Try.func23 rfl rfl (l := []) trivial fun H ρ args vals h v h' hv hs => ?_
  unfold sem_rrsz at hs
  split at hs
  · obtain ⟨rfl, rfl⟩ := hs
    exact ⟨_, hv, .plain _ fun R k => T_rrsz R _ _ k⟩
  · cases hs

def sem_rpush : Sem1 El := fun args h => match args, h with
  | [.ptr 0 0, .int .u8 b], [.blk [.str s, .int .i64 e]] => .pre (decide (s.length ≤ 4096)) (.ret (.tup [.bool (rpush ⟨s, e⟩ b).is, .int .i64 (rpush ⟨s, e⟩ b).e]) [rrdr (rpush ⟨s, e⟩ b).r])
  | _, _ => .bad

abbrev fs_rpush := fsOf 0 sem_rpush

abbrev l_rpush : List (Nat × FS El) := [(27, fs_rread), (21, fs_rvalue)]

theorem T_rpush (R : Type) (s : List UInt8) (b e : Int) (k : AV El → List (HE El) → Option R) : ev l_rpush Try.f19 (fun _ => none) [] L0 [.ptr 0 0, .int .u8 b] [.blk [.str s, .int .i64 e]] R k =
  bif decide ((rread s).e = 0) then
    k (AV.tup [AV.bool false, AV.int IntKind.i64 (Int.ofNat 13)])
      [HE.blk [AV.str (RRdr.mk s e).s, AV.int IntKind.i64 (RRdr.mk s e).e]]
  else
    bif !decide ((RRdr.mk s e).e = 0) then
      k (AV.tup [AV.bool false, AV.int IntKind.i64 (Int.ofNat 13)])
        [HE.blk [AV.str (RRdr.mk s e).s, AV.int IntKind.i64 (RRdr.mk s e).e]]
    else
      bif decide ((RRdr.mk s e).s.length + [UInt8.ofNat b.toNat].length ≤ maxCat) then
        bif decide ((rread ((RRdr.mk s e).s ++ [UInt8.ofNat b.toNat])).e = 5) then
          k (AV.tup [AV.bool false, AV.int IntKind.i64 (rread ((RRdr.mk s e).s ++ [UInt8.ofNat b.toNat])).e])
            [HE.blk
                [AV.str ((RRdr.mk s e).s ++ [UInt8.ofNat b.toNat]),
                  AV.int IntKind.i64 (rread ((RRdr.mk s e).s ++ [UInt8.ofNat b.toNat])).e]]
        else
          k
            (AV.tup
              [AV.bool (decide ((rread ((RRdr.mk s e).s ++ [UInt8.ofNat b.toNat])).e = 0)),
                AV.int IntKind.i64 (Int.ofNat 0)])
            [HE.blk [AV.str ((RRdr.mk s e).s ++ [UInt8.ofNat b.toNat]), AV.int IntKind.i64 (RRdr.mk s e).e]]
      else none := by kernel_rfl

theorem c_rpush : CT 19 fs_rpush := by
  refine Ct.of base_ok Try.func19 rfl rfl (l := l_rpush) ⟨c_rread, c_rvalue, trivial⟩ fun H ρ args vals h v h' hv hs => ?_
  unfold sem_rpush at hs
  split at hs
  · rename_i b s e
    obtain ⟨hl, hs⟩ := Rs.leads_pre hs
    obtain ⟨rfl, rfl⟩ := hs
    refine ⟨_, hv, .plain _ fun R k => (T_rpush R s b e k).trans ?_⟩
    simp only [decide_eq_true_eq] at hl
    have hm : ∀ c : UInt8, s.length + [c].length ≤ maxCat := by intro c; simp [maxCat]; omega
    unfold rpush
    by_cases h1 : (rread s).e = 0
    · simp [h1, rrdr]
    · by_cases h2 : e = 0
      · subst h2
        by_cases h3 : (rread (s ++ [u8 b])).e = 5
        · simp only [h1, hm, decide_true, decide_false, cond_true, cond_false, Bool.not_true]
          simp only [u8] at h3
          simp [h3, rrdr, u8]
        · simp only [h1, hm, decide_true, decide_false, cond_true, cond_false, Bool.not_true]
          simp only [u8] at h3
          simp [h3, rrdr, u8]
          rfl
      · simp [h1, h2, rrdr]
  · cases hs

/-! Pick -/

def sem_pick : Sem1 El := fun args h => match args, h with
  | [.int .i64 n, .int .i64 m], [] => .ret (.int .i64 (pickN n m)) []
  | _, _ => .bad

abbrev fs_pick := fsOf 0 sem_pick

theorem T_pick (R : Type) (n m : Int) (k : AV El → List (HE El) → Option R) : ev [] Try.f30 (fun _ => none) [] L0 [.int .i64 n, .int .i64 m] [] R k =
  bif decide (m < 1) then k (AV.int IntKind.i64 (Int.ofNat 0)) []
  else
    bif !decide (m = 0) then
      bif decide (n.tmod m < 0) then k (AV.int IntKind.i64 (IntKind.i64.wrap (n.tmod m + m))) []
      else k (AV.int IntKind.i64 (n.tmod m)) []
    else none := by kernel_rfl

theorem c_pick : CT 30 fs_pick := by
  refine Ct.of base_ok Try.func30 rfl rfl (l := []) trivial fun H ρ args vals h v h' hv hs => ?_
  unfold sem_pick at hs
  split at hs
  · rename_i n m
    obtain ⟨rfl, rfl⟩ := hs
    refine ⟨_, hv, .plain _ fun R k => (T_pick R n m k).trans ?_⟩
    have hr : inR .i64 n = true ∧ inR .i64 m = true := by
      cases vals with
      | nil => have := hv.1; simp at this
      | cons v1 vs =>
        cases vs with
        | nil => have := hv.1; simp at this
        | cons v2 vs =>
          have a := hv.2 0 _ v1 rfl rfl
          have b := hv.2 1 _ v2 rfl rfl
          cases a; cases b
          exact ⟨by assumption, by assumption⟩
    have hn := inR_i64'.1 hr.1
    have hm := inR_i64'.1 hr.2
    unfold pickN
    by_cases h1 : m < 1
    · simp [h1]
    · have h2 : ¬ m = 0 := by omega
      have hpos : 0 < m := by omega
      simp only [h1, h2, decide_false, cond_false, cond_true, Bool.not_false, if_false]
      have e0 := Int.emod_nonneg n (b := m) (by omega)
      have e1 := Int.emod_lt_of_pos n hpos
      by_cases h3 : 0 ≤ n
      · rw [tmod_nn h3]
        have : ¬ n % m < 0 := by omega
        simp [this]
      · have e2 : n.tmod m = -((-n) % m) := by
          have : n = -(-n) := by omega
          rw [this, Int.neg_tmod, tmod_nn (by omega), Int.neg_neg]
        have e3 := Int.emod_nonneg (-n) (b := m) (by omega)
        have e4 := Int.emod_lt_of_pos (-n) hpos
        have e5 : n % m = if (-n) % m = 0 then 0 else m - (-n) % m := by
          have := Int.neg_emod (a := -n) (b := m)
          rw [Int.neg_neg] at this
          rw [this]
          by_cases hd : m ∣ -n
          · rw [if_pos hd, if_pos (Int.emod_eq_zero_of_dvd hd)]
          · rw [if_neg hd, if_neg (fun e => hd (Int.dvd_of_emod_eq_zero e))]
            omega
        rw [e2]
        by_cases h4 : (-n) % m = 0
        · rw [e5, if_pos h4, h4]
          simp
        · have : -((-n) % m) < 0 := by omega
          simp only [this, decide_true, cond_true]
          rw [e5, if_neg h4, wrap_i64 (by omega) (by omega)]
          congr 2
          omega
  · cases hs

theorem pickN_lt {n m : Int} (h : 0 < m) : 0 ≤ pickN n m ∧ pickN n m < m := by
  unfold pickN
  rw [if_neg (by omega)]
  exact ⟨Int.emod_nonneg _ (by omega), Int.emod_lt_of_pos _ h⟩

end Go.Ev.A

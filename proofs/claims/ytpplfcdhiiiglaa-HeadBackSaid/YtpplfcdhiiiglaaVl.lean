/- The varint statements: the laws' functions, walked. Own work. -/
import Derived.Test.YtpplfcdhiiiglaaVr
import Derived.Test.YtpplfcdhiiiglaaVp
namespace Go.Ev.A
open Go.Proofs Go.Ev.Pl

set_option maxRecDepth 100000

def sem_true : Sem1 El := fun args h => match args, h with
  | [], [] => .ret (.bool true) []
  | _, _ => .bad

abbrev fs_lives02 := fsOf 0 sem_true

theorem T_lives02 (R : Type)  (k : AV El → List (HE El) → Option R) : ev [(24, fs_bytes)] Try.f13 (fun _ => none) [] L0 [] [] R k =
  k (AV.bool true) [] := by kernel_rfl

theorem c_lives02 : CT 13 fs_lives02 := by
  refine Ct.of base_ok Try.func13 rfl rfl (l := [(24, fs_bytes)]) ⟨c_bytes, trivial⟩ fun H ρ args vals h v h' hv hs => ?_
  unfold sem_true at hs
  split at hs
  · obtain ⟨rfl, rfl⟩ := hs
    exact ⟨_, hv, .plain _ fun R k => T_lives02 R k⟩
  · cases hs

/-! VarintCalls -/

def varintCalls_shs : List (Bool × List Sh) := [(false, [.int .i64]), (false, [.str])]

def sem_calls : Sem1 El := fun args h => match args, h with
  | [.int .i64 _, .str _], [] => .ret (.bool true) []
  | _, _ => .bad

abbrev l_calls : List (Nat × FS El) := [(13, fs_lives02), (24, fs_bytes), (26, fs_read), (28, fs_size), (25, fs_rbytes), (27, fs_rread), (29, fs_rsize)]

theorem T_calls (R : Type) (n : Int) (s : List UInt8) (k : AV El → List (HE El) → Option R) : ev l_calls Try.f4 (fun _ => none) [] L0 [.int .i64 n, .str s] [] R k =
  bif decide (60 < (↑s.length : Int)) then k (AV.bool true) []
  else
    bif decide (vbytes n = rbytes n) then
      bif decide (vbytesE n = rbytesE n) then
        bif decide ((vread s).n = (rread s).n) then
          bif decide ((vread s).size = (rread s).size) then
            bif decide ((vread s).e = (rread s).e) then k (AV.bool (decide (vsize n = rsize n))) []
            else k (AV.bool false) []
          else k (AV.bool false) []
        else k (AV.bool false) []
      else k (AV.bool false) []
    else k (AV.bool false) [] := by kernel_rfl

theorem c_calls : CT 4 (fsOf 0 sem_calls) := by
  refine Ct.of base_ok Try.func4 rfl rfl (l := l_calls) ⟨c_lives02, c_bytes, c_read, c_size, c_rbytes, c_rread, c_rsize, trivial⟩ fun H ρ args vals h v h' hv hs => ?_
  unfold sem_calls at hs
  split at hs
  · rename_i n s
    obtain ⟨rfl, rfl⟩ := hs
    refine ⟨_, hv, .plain _ fun R k => (T_calls R n s k).trans ?_⟩
    obtain ⟨e1, e2, e3⟩ := vread_rread s
    rw [vbytes_rbytes, vsize_rsize, e1, e2, e3]
    have e4 : vbytesE n = rbytesE n := rfl
    rw [e4]
    simp only [decide_true, cond_true]
    cases decide (60 < (s.length : Int)) <;> rfl
  · cases hs

theorem varintCalls_leads : ∀ xs : List (AV El), argsFit varintCalls_shs xs → ∃ h', (sem_calls xs []).leads (.bool true) h' := by
  intro xs h
  match xs, h with
  | [a, b], ⟨h1, h2, _⟩ =>
    obtain ⟨n, rfl, _⟩ := fits_int h1.1
    obtain ⟨s, rfl, _⟩ := fits_str h2.1
    exact ⟨[], rfl, rfl⟩

/-! VarintNames -/

abbrev l_names : List (Nat × FS El) := [(13, fs_lives02), (24, fs_bytes), (26, fs_read), (28, fs_size), (14, fs_new), (18, fs_push), (20, fs_value), (22, fs_rsz), (16, fs_reset)]

theorem T_names (R : Type)  (k : AV El → List (HE El) → Option R) : ev l_names Try.f7 (fun _ => none) [] L0 [] [] R k =
  k (AV.bool true) [] := by kernel_rfl

theorem c_names : CT 7 (fsOf 0 sem_true) := by
  refine Ct.of base_ok Try.func7 rfl rfl (l := l_names) ⟨c_lives02, c_bytes, c_read, c_size, c_new, c_push, c_value, c_rsz, c_reset, trivial⟩ fun H ρ args vals h v h' hv hs => ?_
  unfold sem_true at hs
  split at hs
  · obtain ⟨rfl, rfl⟩ := hs
    exact ⟨_, hv, .plain _ fun R k => T_names R k⟩
  · cases hs

def varintNames_shs : List (Bool × List Sh) := []

theorem varintNames_leads : ∀ xs : List (AV El), argsFit varintNames_shs xs → ∃ h', (sem_true xs []).leads (.bool true) h' := by
  intro xs h
  match xs, h with
  | [], _ => exact ⟨[], rfl, rfl⟩

/-! VarintBack -/

def varintBack_shs : List (Bool × List Sh) := [(false, [.int .i64]), (false, [.str]), (false, [.str])]

def sem_back : Sem1 El := fun args h => match args, h with
  | [.int .i64 _, .str _, .str _], [] => .ret (.bool true) []
  | _, _ => .bad

theorem varintBack_leads : ∀ xs : List (AV El), argsFit varintBack_shs xs → ∃ h', (sem_back xs []).leads (.bool true) h' := by
  intro xs h
  match xs, h with
  | [a, b, c], ⟨h1, h2, h3, _⟩ =>
    obtain ⟨n, rfl, _⟩ := fits_int h1.1
    obtain ⟨s, rfl, _⟩ := fits_str h2.1
    obtain ⟨t, rfl, _⟩ := fits_str h3.1
    exact ⟨[], rfl, rfl⟩

def hs_back : Nat → Option Hint := (fun | 11 => some ⟨[1, 0, 1, 0, 0, 0, 0, 0, 0, 0, 1, 0, 1, 1], false⟩ | 12 => some ⟨[1, 0, 1, 0, 0, 0, 0, 0, 0, 0, 1, 0, 1, 1, 0, 0, 0, 0, 0, 0, 0, 0, 0, 0, 0, 0, 0, 0, 0, 0, 0, 0, 0, 0, 0, 0, 0, 0, 0, 0, 0, 0, 0, 0, 0, 0, 0, 0, 0, 0, 0, 0, 0, 0, 0, 0, 0, 0, 0, 0, 0, 0, 0, 0, 0, 0, 0, 0, 0, 1], false⟩ | 13 => some ⟨[1, 0, 1, 0, 0, 0, 0, 0, 0, 0, 1, 0, 1, 1], false⟩ | 14 => some ⟨[1, 0, 1, 0, 0, 0, 0, 0, 0, 0, 1, 0, 1, 1], false⟩ | _ => none)

def lp_back : LPd El := ⟨129, [0, 2, 10, 12, 13], fun vs h => match vs, h with
  | [.int .i64 n, .str s, .int .i64 size, .int .i64 limit, .int .i64 i], [] => .pre (invLim size limit i) (.exit 0 (mkS 129 0 [0, 2, 10, 12, 13, 69] [.int .i64 n, .str s, .int .i64 size, .int .i64 (limL size limit i), .int .i64 size, .bool false]) [])
  | _, _ => .bad⟩

abbrev l_back : List (Nat × FS El) := [(13, fs_lives02), (30, fs_pick), (24, fs_bytes), (26, fs_read), (28, fs_size)]

theorem T_back (R : Type) (n : Int) (t s : List UInt8) (k : AV El → List (HE El) → Option R) : ev l_back Try.f5 hs_back [(12, lp_back)] L0 [.int .i64 n, .str t, .str s] [] R k =
  bif decide (60 < (↑t.length : Int)) then k (AV.bool true) []
  else
    bif decide (60 < (↑s.length : Int)) then k (AV.bool true) []
    else
      bif decide ((vbytes (pickN n 268435456)).length + t.length ≤ maxCat) then
        bif !decide (vbytesE (pickN n 268435456) = 0) then k (AV.bool false) []
        else
          bif !decide ((vread (vbytes (pickN n 268435456) ++ t)).e = 0) then k (AV.bool false) []
          else
            bif !decide ((vread (vbytes (pickN n 268435456) ++ t)).n = pickN n 268435456) then k (AV.bool false) []
            else
              bif
                  !decide
                      ((vread (vbytes (pickN n 268435456) ++ t)).size = (↑(vbytes (pickN n 268435456)).length : Int)) then
                k (AV.bool false) []
              else
                bif !decide ((vread (vbytes (pickN n 268435456) ++ t)).size = vsize (pickN n 268435456)) then
                  k (AV.bool false) []
                else
                  bif invLim (vread (vbytes (pickN n 268435456) ++ t)).size (Int.ofNat 1) (Int.ofNat 0) then
                    bif
                        decide
                          (limL (vread (vbytes (pickN n 268435456) ++ t)).size (Int.ofNat 1) (Int.ofNat 0) ≤
                            pickN n 268435456) then
                      k (AV.bool false) []
                    else
                      bif decide (1 < (vread (vbytes (pickN n 268435456) ++ t)).size) then
                        bif
                            decide
                              (pickN n 268435456 <
                                IntKind.i64.wrap
                                  ((limL (vread (vbytes (pickN n 268435456) ++ t)).size (Int.ofNat 1) (Int.ofNat 0)).tdiv
                                    128)) then
                          k (AV.bool false) []
                        else
                          bif !decide ((vread s).e = 0) then
                            bif decide ((vread s).n = 0) then
                              bif decide ((vread s).size = 0) then
                                bif decide ((vread s).e = 3) then k (AV.bool true) []
                                else k (AV.bool (decide ((vread s).e = 5))) []
                              else k (AV.bool false) []
                            else k (AV.bool false) []
                          else
                            bif decide (vbytesE (vread s).n = 0) then
                              bif decide ((vread s).size ≤ (↑s.length : Int)) then
                                bif
                                    decide (0 ≤ 0) && decide (0 ≤ (vread s).size) &&
                                        decide ((vread s).size ≤ (↑s.length : Int)) &&
                                      decide ((vread s).size = (vread s).size) then
                                  k
                                    (AV.bool
                                      (decide
                                        (vbytes (vread s).n =
                                          List.drop (Int.toNat 0) (List.take (vread s).size.toNat s))))
                                    []
                                else none
                              else k (AV.bool false) []
                            else k (AV.bool false) []
                      else
                        bif !decide ((vread s).e = 0) then
                          bif decide ((vread s).n = 0) then
                            bif decide ((vread s).size = 0) then
                              bif decide ((vread s).e = 3) then k (AV.bool true) []
                              else k (AV.bool (decide ((vread s).e = 5))) []
                            else k (AV.bool false) []
                          else k (AV.bool false) []
                        else
                          bif decide (vbytesE (vread s).n = 0) then
                            bif decide ((vread s).size ≤ (↑s.length : Int)) then
                              bif
                                  decide (0 ≤ 0) && decide (0 ≤ (vread s).size) &&
                                      decide ((vread s).size ≤ (↑s.length : Int)) &&
                                    decide ((vread s).size = (vread s).size) then
                                k
                                  (AV.bool
                                    (decide
                                      (vbytes (vread s).n = List.drop (Int.toNat 0) (List.take (vread s).size.toNat s))))
                                  []
                              else none
                            else k (AV.bool false) []
                          else k (AV.bool false) []
                  else none
      else none := by kernel_rfl

theorem B_back (R : Type) (n size limit i : Int) (s : List UInt8) (K kR : List (AV El) → List (HE El) → Option R) (kE : Nat → List (AV El) → List (HE El) → Option R) : lb l_back Try.f5 hs_back [(12, lp_back)] 12 0 (mkS 129 0 [0, 2, 10, 12, 13] [.int .i64 n, .str s, .int .i64 size, .int .i64 limit, .int .i64 i]) [] R K kR kE =
  bif decide (i < size) then
    K
      (mkS 129 0 [0, 2, 10, 12, 13]
        [AV.int IntKind.i64 n, AV.str s, AV.int IntKind.i64 size, AV.int IntKind.i64 (IntKind.i64.wrap (limit * 128)),
          AV.int IntKind.i64 (IntKind.i64.wrap (i + 1))])
      []
  else
    kE 0
      (mkS 129 0 [0, 2, 10, 12, 13, 69]
        [AV.int IntKind.i64 n, AV.str s, AV.int IntKind.i64 size, AV.int IntKind.i64 limit, AV.int IntKind.i64 i,
          AV.bool (decide (i < size))])
      [] := by kernel_rfl

theorem k_back : LoopOk (C0.withFn (fnL l_back)) 0 hs_back (lpT [(12, lp_back)]) 0 (loopBody (Try.f5.body.getD .skip) 12) lp_back := by
  intro R kR kE vs h r hr
  unfold lp_back at hr
  dsimp only at hr
  split at hr
  · rename_i n s size limit i
    obtain ⟨hc, hr⟩ := Ex.pre_out hr
    rw [← hr]
    refine rounds_inv (S := Int × Int) (fun x => mkS 129 0 [0, 2, 10, 12, 13] [.int .i64 n, .str s, .int .i64 size, .int .i64 x.1, .int .i64 x.2]) (fun _ => [])
      (fun x => kE 0 (mkS 129 0 [0, 2, 10, 12, 13, 69] [.int .i64 n, .str s, .int .i64 size, .int .i64 (limL size x.1 x.2), .int .i64 size, .bool false]) []) (fun x => (size - x.2).toNat)
      (fun x => invLim size x.1 x.2 = true) ?_ (limit, i) hc
    clear hr hc
    intro ⟨limit, i⟩ hi K hK
    refine (B_back R n size limit i s K kR kE).trans ?_
    obtain ⟨h1, h2, h3, h4⟩ := invLim_iff.1 hi
    dsimp only at h1 h2 h4
    by_cases hn : i < size
    · have hi4 : i = 0 ∨ i = 1 ∨ i = 2 ∨ i = 3 := by omega
      have hl : limit * 128 = 128 ^ (i + 1).toNat := by rw [h4]; rcases hi4 with rfl | rfl | rfl | rfl <;> rfl
      have hb : limit * 128 ≤ 268435456 ∧ 0 ≤ limit * 128 := by rw [hl]; rcases hi4 with rfl | rfl | rfl | rfl <;> decide
      rw [wrap_i64 (x := limit * 128) (by omega) (by omega), wrap_i64 (x := i + 1) (by omega) (by omega)]
      simp only [hn, decide_true, cond_true]
      refine (hK (limit * 128, i + 1) (invLim_iff.2 ⟨by dsimp only; omega, by dsimp only; omega, h3, hl⟩) (by dsimp only; omega)).trans ?_
      dsimp only
      rw [limL.eq_def size limit i, dif_pos hn]
    · have he : i = size := by omega
      subst he
      simp only [Int.lt_irrefl, decide_false, cond_false]
      rw [limL.eq_def i limit i, dif_neg (by omega)]
  · cases hr

theorem c_back : CT 5 (fsOf 0 sem_back) := by
  refine Ct.of base_ok Try.func5 rfl rfl (l := l_back) ⟨c_lives02, c_pick, c_bytes, c_read, c_size, trivial⟩ fun H ρ args vals h v h' hv hs => ?_
  unfold sem_back at hs
  split at hs
  · rename_i n t s
    obtain ⟨rfl, rfl⟩ := hs
    refine ⟨_, hv, .loops hs_back [(12, lp_back)] L0 (by kernel_rfl) (by simp only [List.mem_singleton]; rintro p rfl; exact k_back) fun R k => (T_back R n t s k).trans ?_⟩
    by_cases h1 : 60 < (t.length : Int)
    · simp only [h1, decide_true, cond_true]
    by_cases h2 : 60 < (s.length : Int)
    · simp only [h1, h2, decide_true, decide_false, cond_true, cond_false]
    obtain ⟨p0, p1⟩ := pickN_lt (n := n) (m := 268435456) (by omega)
    generalize pickN n 268435456 = p at p0 p1
    have hb := vread_back p0 (by omega) t
    have hl := vsize_len p0 (by omega)
    obtain ⟨l1, l2⟩ := vbytes_len p0 (by omega)
    obtain ⟨q1, q2⟩ := vsize_pow p0 (by omega)
    have hE : vbytesE p = 0 := by unfold vbytesE; rw [mayB_iff.2 ⟨p0, by omega⟩]; rfl
    have hcat : (vbytes p).length + t.length ≤ maxCat := by unfold maxCat; omega
    rw [hb]
    have hinv : invLim (vsize p) (Int.ofNat 1) (Int.ofNat 0) = true := invLim_iff.2 ⟨by simp, by simp; omega, l2, rfl⟩
    have hlim : limL (vsize p) (Int.ofNat 1) (Int.ofNat 0) = 128 ^ (vsize p).toNat := limL_eq ⟨l1, l2⟩
    have hp : (128 : Int) ^ (vsize p).toNat ≤ 268435456 ∧ (0 : Int) ≤ 128 ^ (vsize p).toNat := by
      have hs : vsize p = 1 ∨ vsize p = 2 ∨ vsize p = 3 ∨ vsize p = 4 := by omega
      rcases hs with e | e | e | e <;> rw [e] <;> decide
    rw [hlim, tdiv_nn hp.2, wrap_i64 (by omega) (by omega), hinv]
    have c1 : ¬ (128 : Int) ^ (vsize p).toNat ≤ p := by omega
    simp only [h1, h2, hcat, hE, hl, c1, decide_true, decide_false, cond_true, cond_false, Bool.not_true]
    -- what is read of s
    have tail : (bif !decide ((vread s).e = 0) then
          bif decide ((vread s).n = 0) then
            bif decide ((vread s).size = 0) then
              bif decide ((vread s).e = 3) then k (AV.bool true) [] else k (AV.bool (decide ((vread s).e = 5))) []
            else k (AV.bool false) []
          else k (AV.bool false) []
        else
          bif decide (vbytesE (vread s).n = 0) then
            bif decide ((vread s).size ≤ (s.length : Int)) then
              bif decide (0 ≤ 0) && decide (0 ≤ (vread s).size) && decide ((vread s).size ≤ (s.length : Int)) && true then
                k (AV.bool (decide (vbytes (vread s).n = List.drop (Int.toNat 0) (List.take (vread s).size.toNat s)))) []
              else none
            else k (AV.bool false) []
          else k (AV.bool false) []) = k (AV.bool true) [] := by
      by_cases he : (vread s).e = 0
      · obtain ⟨w1, w2, w3, w4, w5⟩ := vread_written s he
        have w6 : vbytesE (vread s).n = 0 := by unfold vbytesE; rw [mayB_iff.2 ⟨w1, w2⟩]; rfl
        simp only [he, w3, w4, w5, w6, decide_true, cond_true, cond_false, Bool.not_true, Int.toNat_zero, List.drop_zero]
        simp
      · obtain ⟨w1, w2, w3⟩ := vread_errs s _ rfl rfl he
        have w1' : (vread s).n = 0 := w1
        have w2' : (vread s).size = 0 := w2
        simp only [he, w1', w2', decide_true, decide_false, cond_true, Bool.not_false]
        rcases w3 with w3 | w3
        · have w3' : (vread s).e = 3 := w3
          simp [w3']
        · have w3' : (vread s).e = 5 := w3
          simp [w3']
    by_cases h3 : 1 < vsize p
    · have c2 : ¬ p < 128 ^ (vsize p).toNat / 128 := by have := q2 h3; omega
      simp only [h3, c2, decide_true, decide_false, cond_true, cond_false]
      exact tail
    · simp only [h3, decide_false, cond_false]
      exact tail
  · cases hs

/-! VarintFronts -/

def varintFronts_shs : List (Bool × List Sh) := [(false, [.int .i64]), (false, [.int .i64])]

def sem_fronts : Sem1 El := fun args h => match args, h with
  | [.int .i64 _, .int .i64 _], [] => .ret (.bool true) []
  | _, _ => .bad

theorem varintFronts_leads : ∀ xs : List (AV El), argsFit varintFronts_shs xs → ∃ h', (sem_fronts xs []).leads (.bool true) h' := by
  intro xs h
  match xs, h with
  | [a, b], ⟨h1, h2, _⟩ =>
    obtain ⟨n, rfl, _⟩ := fits_int h1.1
    obtain ⟨m, rfl, _⟩ := fits_int h2.1
    exact ⟨[], rfl, rfl⟩

def hs_fronts : Nat → Option Hint := (fun | 9 => some ⟨[1, 0, 0, 0, 0, 1, 0, 0, 0, 1, 1], false⟩ | 10 => some ⟨[1, 0, 0, 0, 0, 1, 0, 0, 0, 1, 1, 0, 0, 0, 0, 0, 0, 0, 0, 0, 0, 0, 0, 0, 0, 0, 0, 0, 0, 0, 0, 0, 0, 0, 0, 0, 0, 0, 0, 0, 0, 0, 0, 0, 0, 0, 0, 0, 0, 0, 0, 0, 0, 0, 0, 0, 0, 0, 0, 0, 0, 0, 0, 0, 0, 0, 1], false⟩ | 11 => some ⟨[1, 0, 0, 0, 0, 1, 0, 0, 0, 1, 1], false⟩ | 12 => some ⟨[1, 0, 0, 0, 0, 1, 0, 0, 0, 1, 1, 0, 0, 1], false⟩ | 13 => some ⟨[1, 0, 0, 0, 0, 1, 0, 0, 0, 1, 1, 0, 0, 1, 0, 1], false⟩ | 14 => some ⟨[1, 0, 0, 0, 0, 1, 0, 0, 0, 1, 1, 0, 0, 1, 0, 1, 1, 1], false⟩ | 15 => some ⟨[1, 0, 0, 0, 0, 1, 0, 0, 0, 1, 1, 0, 0, 0, 0, 0, 0, 0, 0, 0, 0, 0, 0, 0, 0, 0, 0, 0, 0, 0, 0, 0, 0, 0, 0, 0, 0, 0, 0, 0, 0, 0, 0, 0, 0, 0, 0, 0, 0, 0, 0, 0, 0, 0, 0, 0, 0, 0, 0, 0, 0, 0, 0, 0, 0, 0, 0, 0, 0, 0, 0, 0, 0, 0, 0, 0, 0, 0, 0, 0, 0, 0, 0, 0, 0, 0, 0, 0, 0, 0, 0, 0, 0, 0, 0, 0, 0, 0, 0, 0, 0, 0, 0, 0, 0, 0, 0, 1], false⟩ | 16 => some ⟨[0, 0, 0, 0, 1], false⟩ | _ => none)

def lp_fronts : LPd El := ⟨126, [0, 5, 9, 10], fun vs h => match vs, h with
  | [.int .i64 n, .str a, .ptr 0 0, .int .i64 i], [.blk [.int .i64 rn, .int .i64 size, .bool done, .bool bad]] => .pre (invFr n a i ⟨rn, size, done, bad⟩) (.exit 0 (mkS 126 0 [0, 5, 9, 10, 66] [.int .i64 n, .str a, .ptr 0 0, .int .i64 a.length, .bool false]) [rdr (rdAt a a.length)])
  | _, _ => .bad⟩

abbrev l_fronts : List (Nat × FS El) := [(13, fs_lives02), (30, fs_pick), (24, fs_bytes), (26, fs_read), (14, fs_new), (18, fs_push), (20, fs_value), (22, fs_rsz)]

theorem T_fronts (R : Type) (n m : Int) (k : AV El → List (HE El) → Option R) : ev l_fronts Try.f6 hs_fronts [(10, lp_fronts)] L0 [.int .i64 n, .int .i64 m] [] R k =
  bif !decide (vbytesE (pickN n 268435456) = 0) then k (AV.bool false) []
  else
    bif !decide (vbytesE (pickN m 268435456) = 0) then k (AV.bool false) []
    else
      bif !decide (pickN n 268435456 = pickN m 268435456) then
        bif decide ((↑(vbytes (pickN n 268435456)).length : Int) ≤ (↑(vbytes (pickN m 268435456)).length : Int)) then
          bif
              decide (0 ≤ 0) && decide (0 ≤ (↑(vbytes (pickN n 268435456)).length : Int)) &&
                  decide ((↑(vbytes (pickN n 268435456)).length : Int) ≤ (↑(vbytes (pickN m 268435456)).length : Int)) &&
                decide ((↑(vbytes (pickN n 268435456)).length : Int) = (↑(vbytes (pickN n 268435456)).length : Int)) then
            bif
                decide
                  (vbytes (pickN n 268435456) =
                    List.drop (Int.toNat 0)
                      (List.take (↑(vbytes (pickN n 268435456)).length : Int).toNat (vbytes (pickN m 268435456)))) then
              k (AV.bool false) []
            else
              bif
                  invFr (pickN n 268435456) (vbytes (pickN n 268435456)) (Int.ofNat 0)
                    (Rdr.mk (Int.ofNat 0) (Int.ofNat 0) false false) then
                bif (rdAt (vbytes (pickN n 268435456)) (vbytes (pickN n 268435456)).length).3 then
                  bif
                      decide
                        ((if (rdAt (vbytes (pickN n 268435456)) (vbytes (pickN n 268435456)).length).done = true then
                            (rdAt (vbytes (pickN n 268435456)) (vbytes (pickN n 268435456)).length).n
                          else 0) =
                          pickN n 268435456) then
                    k
                      (AV.bool
                        (decide
                          ((Rdr.mk (rdAt (vbytes (pickN n 268435456)) (vbytes (pickN n 268435456)).length).n
                                (rdAt (vbytes (pickN n 268435456)) (vbytes (pickN n 268435456)).length).size
                                (rdAt (vbytes (pickN n 268435456)) (vbytes (pickN n 268435456)).length).done
                                (rdAt (vbytes (pickN n 268435456)) (vbytes (pickN n 268435456)).length).bad).size =
                            (↑(vbytes (pickN n 268435456)).length : Int))))
                      []
                  else k (AV.bool false) []
                else k (AV.bool false) []
              else none
          else none
        else
          bif
              invFr (pickN n 268435456) (vbytes (pickN n 268435456)) (Int.ofNat 0)
                (Rdr.mk (Int.ofNat 0) (Int.ofNat 0) false false) then
            bif (rdAt (vbytes (pickN n 268435456)) (vbytes (pickN n 268435456)).length).3 then
              bif
                  decide
                    ((if (rdAt (vbytes (pickN n 268435456)) (vbytes (pickN n 268435456)).length).done = true then
                        (rdAt (vbytes (pickN n 268435456)) (vbytes (pickN n 268435456)).length).n
                      else 0) =
                      pickN n 268435456) then
                k
                  (AV.bool
                    (decide
                      ((Rdr.mk (rdAt (vbytes (pickN n 268435456)) (vbytes (pickN n 268435456)).length).n
                            (rdAt (vbytes (pickN n 268435456)) (vbytes (pickN n 268435456)).length).size
                            (rdAt (vbytes (pickN n 268435456)) (vbytes (pickN n 268435456)).length).done
                            (rdAt (vbytes (pickN n 268435456)) (vbytes (pickN n 268435456)).length).bad).size =
                        (↑(vbytes (pickN n 268435456)).length : Int))))
                  []
              else k (AV.bool false) []
            else k (AV.bool false) []
          else none
      else
        bif
            invFr (pickN n 268435456) (vbytes (pickN n 268435456)) (Int.ofNat 0)
              (Rdr.mk (Int.ofNat 0) (Int.ofNat 0) false false) then
          bif (rdAt (vbytes (pickN n 268435456)) (vbytes (pickN n 268435456)).length).3 then
            bif
                decide
                  ((if (rdAt (vbytes (pickN n 268435456)) (vbytes (pickN n 268435456)).length).done = true then
                      (rdAt (vbytes (pickN n 268435456)) (vbytes (pickN n 268435456)).length).n
                    else 0) =
                    pickN n 268435456) then
              k
                (AV.bool
                  (decide
                    ((Rdr.mk (rdAt (vbytes (pickN n 268435456)) (vbytes (pickN n 268435456)).length).n
                          (rdAt (vbytes (pickN n 268435456)) (vbytes (pickN n 268435456)).length).size
                          (rdAt (vbytes (pickN n 268435456)) (vbytes (pickN n 268435456)).length).done
                          (rdAt (vbytes (pickN n 268435456)) (vbytes (pickN n 268435456)).length).bad).size =
                      (↑(vbytes (pickN n 268435456)).length : Int))))
                []
            else k (AV.bool false) []
          else k (AV.bool false) []
        else none := by kernel_rfl

theorem B_fronts (R : Type) (n i rn size : Int) (a : List UInt8) (done bad : Bool) (K kR : List (AV El) → List (HE El) → Option R) (kE : Nat → List (AV El) → List (HE El) → Option R) : lb l_fronts Try.f6 hs_fronts [(10, lp_fronts)] 10 0 (mkS 126 0 [0, 5, 9, 10] [.int .i64 n, .str a, .ptr 0 0, .int .i64 i]) [.blk [.int .i64 rn, .int .i64 size, .bool done, .bool bad]] R K kR kE =
  bif decide (i < (↑a.length : Int)) then
    bif decide (0 ≤ 0) && decide (0 ≤ i) && decide (i ≤ (↑a.length : Int)) && decide (i = i) then
      bif decide (0 ≤ i) && decide (i < (↑a.length : Int)) then
        bif
            (Rdr.mk (Rdr.mk rn size done bad).n (Rdr.mk rn size done bad).size (Rdr.mk rn size done bad).done
                (Rdr.mk rn size done bad).bad).ok then
          bif !decide ((vread (List.drop (Int.toNat 0) (List.take i.toNat a))).e = 3) then
            kR (mkS 126 0 [4] [AV.bool false]) []
          else
            bif done then kR (mkS 126 0 [4] [AV.bool false]) []
            else
              bif
                  !decide
                      ((push
                            (Rdr.mk (Rdr.mk rn size done bad).n (Rdr.mk rn size done bad).size
                              (Rdr.mk rn size done bad).done (Rdr.mk rn size done bad).bad)
                            (↑(a.getD i.toNat 0).toNat : Int)).e =
                        0) then
                kR (mkS 126 0 [4] [AV.bool false]) []
              else
                bif
                    !(push
                            (Rdr.mk (Rdr.mk rn size done bad).n (Rdr.mk rn size done bad).size
                              (Rdr.mk rn size done bad).done (Rdr.mk rn size done bad).bad)
                            (↑(a.getD i.toNat 0).toNat : Int)).is ==
                        decide (IntKind.i64.wrap (i + 1) = (↑a.length : Int)) then
                  kR (mkS 126 0 [4] [AV.bool false]) []
                else
                  K
                    (mkS 126 0 [0, 5, 9, 10]
                      [AV.int IntKind.i64 n, AV.str a, AV.ptr 0 0, AV.int IntKind.i64 (IntKind.i64.wrap (i + 1))])
                    [HE.blk
                        [AV.int IntKind.i64
                            (push
                                  (Rdr.mk (Rdr.mk rn size done bad).n (Rdr.mk rn size done bad).size
                                    (Rdr.mk rn size done bad).done (Rdr.mk rn size done bad).bad)
                                  (↑(a.getD i.toNat 0).toNat : Int)).r.n,
                          AV.int IntKind.i64
                            (push
                                  (Rdr.mk (Rdr.mk rn size done bad).n (Rdr.mk rn size done bad).size
                                    (Rdr.mk rn size done bad).done (Rdr.mk rn size done bad).bad)
                                  (↑(a.getD i.toNat 0).toNat : Int)).r.size,
                          AV.bool
                            (push
                                  (Rdr.mk (Rdr.mk rn size done bad).n (Rdr.mk rn size done bad).size
                                    (Rdr.mk rn size done bad).done (Rdr.mk rn size done bad).bad)
                                  (↑(a.getD i.toNat 0).toNat : Int)).r.done,
                          AV.bool
                            (push
                                  (Rdr.mk (Rdr.mk rn size done bad).n (Rdr.mk rn size done bad).size
                                    (Rdr.mk rn size done bad).done (Rdr.mk rn size done bad).bad)
                                  (↑(a.getD i.toNat 0).toNat : Int)).r.bad]]
        else none
      else none
    else none
  else
    kE 0
      (mkS 126 0 [0, 5, 9, 10, 66]
        [AV.int IntKind.i64 n, AV.str a, AV.ptr 0 0, AV.int IntKind.i64 i, AV.bool (decide (i < (↑a.length : Int)))])
      [HE.blk [AV.int IntKind.i64 rn, AV.int IntKind.i64 size, AV.bool done, AV.bool bad]] := by kernel_rfl

theorem k_fronts : LoopOk (C0.withFn (fnL l_fronts)) 0 hs_fronts (lpT [(10, lp_fronts)]) 0 (loopBody (Try.f6.body.getD .skip) 10) lp_fronts := by
  intro R kR kE vs h r hr
  unfold lp_fronts at hr
  dsimp only at hr
  split at hr
  · rename_i n a i rn size done bad
    obtain ⟨hc, hr⟩ := Ex.pre_out hr
    rw [← hr]
    refine rounds_inv (S := Int × Rdr) (fun x => mkS 126 0 [0, 5, 9, 10] [.int .i64 n, .str a, .ptr 0 0, .int .i64 x.1]) (fun x => [.blk [.int .i64 x.2.n, .int .i64 x.2.size, .bool x.2.done, .bool x.2.bad]])
      (fun x => kE 0 (mkS 126 0 [0, 5, 9, 10, 66] [.int .i64 n, .str a, .ptr 0 0, .int .i64 a.length, .bool false]) [rdr (rdAt a a.length)]) (fun x => (a.length - x.1).toNat)
      (fun x => invFr n a x.1 x.2 = true) ?_ (i, ⟨rn, size, done, bad⟩) hc
    clear hr hc
    intro ⟨i, ⟨rn, size, done, bad⟩⟩ hi K hK
    refine (B_fronts R n i rn size a done bad K kR kE).trans ?_
    obtain ⟨h1, h2, h3, h4, h5, h6⟩ := invFr_iff.1 hi
    dsimp only at h4 h5 h6 hK
    by_cases hn : i < (a.length : Int)
    · have hlt : i.toNat < (vbytes n).length := by rw [← h3]; omega
      obtain ⟨s1, s2, s3, s4, s5⟩ := vsteps h1 h2 hlt
      have hs := rdAt_succ hlt
      rw [← h3] at s1 s2 s3 s4 s5 hs hlt
      rw [← h6] at s2 s3 s4 s5 hs
      dsimp only at s2 s3
      subst s2; subst s3
      have hw : IntKind.i64.wrap (i + 1) = i + 1 := by
        rcases vform h1 h2 with ⟨_, e⟩ | ⟨_, _, _, _, _, _, _, _, _, e⟩ | ⟨_, _, _, _, _, _, _, _, _, _, _, _, e⟩ | ⟨_, _, _, _, _, _, _, _, _, _, _, _, _, _, e⟩ <;> (rw [← h3] at e; rw [e] at hn; simp at hn; exact wrap_i64 (by omega) (by omega))
      have hdec : decide (IntKind.i64.wrap (i + 1) = (a.length : Int)) = decide (i.toNat + 1 = a.length) := by
        rw [hw]
        by_cases h : i.toNat + 1 = a.length
        · have : i + 1 = (a.length : Int) := by omega
          simp [h, this]
        · have : ¬ i + 1 = (a.length : Int) := by omega
          simp [h, this]
      have p1 : (push ⟨rn, size, false, false⟩ ((a.getD i.toNat 0).toNat : Nat)).e = 0 := by rw [s5]
      have p2 : (push ⟨rn, size, false, false⟩ ((a.getD i.toNat 0).toNat : Nat)).is = decide (i.toNat + 1 = a.length) := by rw [s5]
      have hle : i ≤ (a.length : Int) := by omega
      simp only [Int.toNat_zero, List.drop_zero, hdec, p1, p2, s1, s4, hn, h4, hle, decide_true, cond_true, cond_false, Bool.and_self, Bool.not_true, beq_self_eq_true, Nat.le_refl]
      refine (hK (i + 1, rdAt a (i.toNat + 1)) (invFr_iff.2 ⟨h1, h2, h3, by dsimp only; omega, by dsimp only; omega, by dsimp only; congr 1; omega⟩) (by dsimp only; omega)) |>.symm ▸ ?_
      rw [hs, hw]
    · have he : i = a.length := by omega
      subst he
      simp only [Int.lt_irrefl, decide_false, cond_false]
      rw [Int.toNat_natCast] at h6
      rw [← h6]
  · cases hr

theorem c_fronts : CT 6 (fsOf 0 sem_fronts) := by
  refine Ct.of base_ok Try.func6 rfl rfl (l := l_fronts) ⟨c_lives02, c_pick, c_bytes, c_read, c_new, c_push, c_value, c_rsz, trivial⟩ fun H ρ args vals h v h' hv hs => ?_
  unfold sem_fronts at hs
  split at hs
  · rename_i n m
    obtain ⟨rfl, rfl⟩ := hs
    refine ⟨_, hv, .loops hs_fronts [(10, lp_fronts)] L0 (by kernel_rfl) (by simp only [List.mem_singleton]; rintro p rfl; exact k_fronts) fun R k => (T_fronts R n m k).trans ?_⟩
    obtain ⟨p0, p1⟩ := pickN_lt (n := n) (m := 268435456) (by omega)
    generalize pickN n 268435456 = p at p0 p1
    obtain ⟨q0, q1⟩ := pickN_lt (n := m) (m := 268435456) (by omega)
    generalize pickN m 268435456 = q at q0 q1
    have hE : vbytesE p = 0 := by unfold vbytesE; rw [mayB_iff.2 ⟨p0, by omega⟩]; rfl
    have hF : vbytesE q = 0 := by unfold vbytesE; rw [mayB_iff.2 ⟨q0, by omega⟩]; rfl
    have hend := rdAt_end p0 (by omega)
    have hl := vsize_len p0 (by omega)
    have hinv : invFr p (vbytes p) (Int.ofNat 0) ⟨Int.ofNat 0, Int.ofNat 0, false, false⟩ = true := invFr_iff.2 ⟨p0, by omega, rfl, by simp, by simp, rfl⟩
    have hpre : ¬ p = q → ¬ vbytes p = List.drop (Int.toNat 0) (List.take ((vbytes p).length : Int).toNat (vbytes q)) := by
      intro hne e
      simp only [Int.toNat_zero, List.drop_zero, Int.toNat_natCast] at e
      have e2 : vbytes q = vbytes p ++ (vbytes q).drop (vbytes p).length := by
        conv => lhs; rw [← List.take_append_drop (vbytes p).length (vbytes q)]
        rw [← e]
      have a1 := vread_back p0 (by omega) ((vbytes q).drop (vbytes p).length)
      have a2 := vread_back q0 (by omega) []
      rw [List.append_nil, e2] at a2
      rw [a1] at a2
      injection a2 with a3
      exact hne a3
    rw [hinv, hend]
    by_cases hpq : p = q
    · simp [hF, hpq]
      subst hpq
      simp [hl]
    · have h2 := hpre hpq
      rw [hl] at h2
      simp only [Int.toNat_zero, List.drop_zero] at h2
      have hz : 0 ≤ vsize p := by omega
      by_cases hlen : vsize p ≤ ((vbytes q).length : Int)
      · simp [hE, hF, hpq, hl, hlen, h2, hz]
      · simp [hE, hF, hpq, hl, hlen]
  · cases hs

end Go.Ev.A

/- The reference's head functions. Own work. -/
import Derived.Test.YtpplfcdhiiiglaaA2Cx
import Derived.Test.YtpplfcdhiiiglaaVq
import Derived.Test.YtpplfcdhiiiglaaNs
import Derived.Test.YtpplfcdhiiiglaaA2Li
import Derived.Test.YtpplfcdhiiiglaaA2He
import Derived.Test.YtpplfcdhiiiglaaA2Pk
import Derived.Test.YtpplfcdhiiiglaaA2Wt
import Derived.Test.YtpplfcdhiiiglaaA2Oc
namespace Go.Ev.A
open Go.Proofs Go.Ev.Pl
set_option maxRecDepth 100000
set_option linter.unusedSimpArgs false
set_option linter.unusedVariables false

noncomputable def s_rsize : Sem1 El := fun args h => match args, h with
  | [.int .i64 n], [] => .ret (.int .i64 (rsize n)) []
  | _, _ => .bad

noncomputable abbrev l_rsize : List (Nat × FS El) := []

noncomputable def t_rsize (n : Int) : Rs El :=
  .br (decide (n < 0))
  (.ret (.int .i64 0) [])
  (.br (decide (268435455 < n))
   (.ret (.int .i64 0) [])
   (.br (decide (n < 128))
    (.ret (.int .i64 1) [])
    (.br (decide (n < 16384))
     (.ret (.int .i64 2) [])
     (.br (decide (n < 2097152))
      (.ret (.int .i64 3) [])
      (.ret (.int .i64 4) [])))))

theorem T_rsize (n : Int) (R : Type) (kk : AV El → List (HE El) → Option R) : evf 0 l_rsize Try.f29 (fun _ => none) [] ⟨0, false, false⟩ [.int .i64 n] [] R kk = (t_rsize n).go kk := by kernel_rfl

theorem c_rsize : CT 29 (fsOf 0 s_rsize) := by
  refine Ct.of base_ok Try.func29 rfl rfl (l := l_rsize) trivial fun H ρ args vals h v h' hv hs => ?_
  unfold s_rsize at hs
  split at hs
  · rename_i n
    obtain ⟨rfl, rfl⟩ := hs
    have hok := hv.ok
    refine ⟨_, hv, .tree (T_rsize n) ?_⟩
    simp only [okL, AV.ok, and_true, true_and] at hok
    simp only [t_rsize, Rs.all, std0, stdA]
    grind [rsize, mayB]
  · cases hs

noncomputable def s_rbytes : Sem1 El := fun args h => match args, h with
  | [.int .i64 n], [] => .ret (.tup [.str (rbytes n), .int .i64 (rbytesE n)]) []
  | _, _ => .bad

noncomputable abbrev l_rbytes : List (Nat × FS El) := [(29, fsOf 0 s_rsize)]

def hs_rbytes : Nat → Option Hint
  | 5 => some ⟨[1, 0, 0, 0, 1, 2, 1], false⟩
  | 6 => some ⟨[1, 0, 0, 0, 1, 2, 1, 0, 0, 0, 0, 0, 0, 0, 1], false⟩
  | 7 => some ⟨[1, 0, 0, 0, 1, 2, 1], false⟩
  | 8 => some ⟨[1, 0, 0, 0, 1, 2, 1, 1], false⟩
  | 9 => some ⟨[1, 0, 0, 0, 1, 2, 1, 1], false⟩
  | 10 => some ⟨[1, 0, 0, 0, 1, 2, 1, 1, 0, 0, 0, 0, 0, 0, 0, 0, 0, 0, 0, 0, 0, 0, 0, 0, 0, 1], false⟩
  | 11 => some ⟨[1, 0, 0, 0, 1, 2, 1, 1], false⟩
  | 12 => some ⟨[1, 0, 0, 0, 1, 2, 1], false⟩
  | 1000006 => some ⟨[1, 0, 0, 0, 1, 2, 1], false⟩
  | _ => none

noncomputable def lp_rbytes_6 : LPd El := ⟨34, [0, 4, 5, 6], fun vs h => match vs, h with
  | [.int .i64 n, .int .i64 size, .bytes (.tok 0) out, .int .i64 i], [.tok] => .pre (invRb n size i out) (.exit 0 (mkS 34 0 [0, 4, 5, 6, 14] [.int .i64 (rbL size n i out).n, .int .i64 size, .bytes (.tok 0) (rbL size n i out).out, .int .i64 size, .bool false]) [.tok])
  | _, _ => .bad⟩

abbrev st_rbytes_6 (x : Int × Int × Int × List UInt8) : List (AV El) := mkS 34 0 [0, 4, 5, 6] [.int .i64 x.1, .int .i64 x.2.1, .bytes (.tok 0) x.2.2.2, .int .i64 x.2.2.1]
abbrev hp_rbytes_6 (x : Int × Int × Int × List UInt8) : List (HE El) := [.tok]

noncomputable def b_rbytes_6 (n size i : Int) (out : List UInt8) : Bx (Int × Int × Int × List UInt8) El :=
  .br (decide (i < size))
  (.br (decide ((IntKind.i64.wrap (i + 1)) < size))
   (.pre (decide (out.length + [UInt8.ofNat (IntKind.u8.wrap ((IntKind.u8.wrap (Int.tmod n (128 : Int))) + 128)).toNat].length ≤ maxLen'))
    (.next (IntKind.i64.wrap (Int.tdiv n (128 : Int)), size, IntKind.i64.wrap (i + 1), out ++ [UInt8.ofNat (IntKind.u8.wrap ((IntKind.u8.wrap (Int.tmod n (128 : Int))) + 128)).toNat])))
   (.pre (decide (out.length + [UInt8.ofNat (IntKind.u8.wrap (Int.tmod n (128 : Int))).toNat].length ≤ maxLen'))
    (.next (IntKind.i64.wrap (Int.tdiv n (128 : Int)), size, IntKind.i64.wrap (i + 1), out ++ [UInt8.ofNat (IntKind.u8.wrap (Int.tmod n (128 : Int))).toNat]))))
  (.exit 0 (mkS 34 0 [0, 4, 5, 6, 14] [.int .i64 n, .int .i64 size, .bytes (.tok 0) out, .int .i64 i, .bool false]) [.tok])

theorem B_rbytes_6 (n size i : Int) (out : List UInt8) (R : Type) (K kR : List (AV El) → List (HE El) → Option R) (kE : Nat → List (AV El) → List (HE El) → Option R) : lb l_rbytes Try.f25 hs_rbytes [(6, lp_rbytes_6)] 6 0 (st_rbytes_6 (n, size, i, out)) (hp_rbytes_6 (n, size, i, out)) R K kR kE = (b_rbytes_6 n size i out).go st_rbytes_6 hp_rbytes_6 K kR kE := by kernel_rfl

theorem k_rbytes_6 : LoopOk (C0.withFn (fnL l_rbytes)) 0 hs_rbytes (lpT [(6, lp_rbytes_6)]) 0 (loopBody (Try.f25.body.getD .skip) 6) lp_rbytes_6 := by
  refine LoopOk.tree st_rbytes_6 hp_rbytes_6 (fun x => (invRb x.1 x.2.1 x.2.2.1 x.2.2.2) = true) (fun x => .exit 0 (mkS 34 0 [0, 4, 5, 6, 14] [.int .i64 (rbL x.2.1 x.1 x.2.2.1 x.2.2.2).n, .int .i64 x.2.1, .bytes (.tok 0) (rbL x.2.1 x.1 x.2.2.1 x.2.2.2).out, .int .i64 x.2.1, .bool false]) [.tok]) (fun x => (x.2.1 - x.2.2.1).toNat) (fun x => b_rbytes_6 x.1 x.2.1 x.2.2.1 x.2.2.2) ?_ (fun x _ R K kR kE => B_rbytes_6 x.1 x.2.1 x.2.2.1 x.2.2.2 R K kR kE) ?_
  · intro R kR kE vs h r hr
    unfold lp_rbytes_6 at hr
    dsimp only at hr
    split at hr
    · rename_i n size out i
      obtain ⟨hc, hr⟩ := Ex.pre_out hr
      exact ⟨(n, size, i, out), hc, rfl, rfl, hr⟩
    · cases hr
  · intro x hx
    obtain ⟨n, size, i, out⟩ := x
    dsimp only at hx ⊢
    simp only [b_rbytes_6, Bx.sat, Ex.out, std0, stdA]
    obtain ⟨h1, h2, h3, h4, h5, h6⟩ := invRb_iff.1 hx
    have e1 : IntKind.u8.wrap (n.tmod 128) = n % 128 := by rw [tmod_nn h1, wrap_u8]; omega
    have e2 : IntKind.u8.wrap (n % 128 + 128) = n % 128 + 128 := by rw [wrap_u8]; omega
    refine ⟨fun hn => ?_, fun hn R kR kE => ?_⟩
    · rw [e1, e2, tdiv_nn h1, wrap_i64 (x := n / 128) (by omega) (by omega), wrap_i64 (x := i + 1) (by omega) (by omega)]
      refine ⟨fun hm => ⟨fun _ => ⟨invRb_iff.2 ⟨by omega, by omega, by omega, h4, by omega, by simp; omega⟩, by omega, fun R kR kE => ?_⟩, fun hc => hc (by simp [maxLen_eq]; omega)⟩, fun hm => ⟨fun _ => ⟨invRb_iff.2 ⟨by omega, by omega, by omega, h4, by omega, by simp; omega⟩, by omega, fun R kR kE => ?_⟩, fun hc => hc (by simp [maxLen_eq]; omega)⟩⟩
      · rw [rbL.eq_def size n i out, dif_pos hn, if_pos hm]
        rfl
      · rw [rbL.eq_def size n i out, dif_pos hn, if_neg hm, Int.add_zero]
        rfl
    · have he : i = size := by omega
      subst he
      rw [rbL.eq_def i n i out, dif_neg (by omega)]

noncomputable def t_rbytes (n : Int) : Rs El :=
  .br (decide ((rsize n) = 0))
  (.ret (.tup [.str [], .int .i64 2]) [])
  (.pre (invRb n (rsize n) (0 : Int) ([] : List UInt8)) (.ret (.tup [.str ((rbL (rsize n) n (0 : Int) ([] : List UInt8)).out), .int .i64 0]) []))

theorem T_rbytes (n : Int) (R : Type) (kk : AV El → List (HE El) → Option R) : evf 0 l_rbytes Try.f25 hs_rbytes [(6, lp_rbytes_6)] ⟨0, false, false⟩ [.int .i64 n] [] R kk = (t_rbytes n).go kk := by kernel_rfl

theorem c_rbytes : CT 25 (fsOf 0 s_rbytes) := by
  refine Ct.of base_ok Try.func25 rfl rfl (l := l_rbytes) ⟨c_rsize, trivial⟩ fun H ρ args vals h v h' hv hs => ?_
  unfold s_rbytes at hs
  split at hs
  · rename_i n
    obtain ⟨rfl, rfl⟩ := hs
    have hok := hv.ok
    refine ⟨_, hv, .treeL (T_rbytes n) (by kernel_rfl) (by simp only [List.mem_cons, List.not_mem_nil, or_false]; rintro p rfl; exact k_rbytes_6) ?_⟩
    simp only [okL, AV.ok, and_true, true_and] at hok
    simp only [t_rbytes, Rs.all, std0, stdA]
    cases hm : mayB n
    · refine ⟨fun _ => by simp [rbytes, rbytesE, hm], fun h => absurd ?_ h⟩
      simp [rsize, hm]
    · have h1 : 1 ≤ rsize n ∧ rsize n ≤ 4 := by
        simp only [rsize, hm, if_true]
        split <;> (try split) <;> (try split) <;> omega
      have hb : rbytes n = (rbL (rsize n) n 0 []).out ∧ rbytesE n = 0 := by simp [rbytes, rbytesE, hm]
      have hm' := mayB_iff.1 hm
      have hi : invRb n (rsize n) 0 [] = true := invRb_iff.2 ⟨by omega, by omega, by omega, by omega, by omega, by simp⟩
      exact ⟨fun h => by omega, fun _ => ⟨fun _ => ⟨hb.1.symm, hb.2.symm⟩, fun hc => by rw [hi] at hc; cases hc⟩⟩
  · cases hs

noncomputable def s_rread : Sem1 El := fun args h => match args, h with
  | [.str s], [] => .ret (.tup [.int .i64 (rread s).n, .int .i64 (rread s).size, .int .i64 (rread s).e]) []
  | _, _ => .bad

noncomputable abbrev l_rread : List (Nat × FS El) := []

def hs_rread : Nat → Option Hint
  | 2 => some ⟨[1, 0, 0, 0, 0, 1, 1, 1], false⟩
  | 3 => some ⟨[1, 0, 0, 0, 0, 1, 1, 1, 0, 1], false⟩
  | 4 => some ⟨[1, 0, 0, 0, 0, 1, 1, 1], false⟩
  | 5 => some ⟨[1, 0, 0, 0, 0, 1, 1, 1, 0, 0, 0, 0, 0, 0, 0, 1], false⟩
  | 6 => some ⟨[0, 0, 1, 1, 1], false⟩
  | 7 => some ⟨[1, 0, 0, 0, 0, 1, 1, 1], false⟩
  | 8 => some ⟨[1, 0, 0, 0, 0, 1, 1, 1], false⟩
  | 9 => some ⟨[1, 0, 0, 0, 0, 1, 1, 1, 0, 0, 0, 0, 0, 0, 0, 0, 0, 0, 0, 0, 0, 0, 0, 0, 0, 0, 0, 0, 0, 0, 1], false⟩
  | 10 => some ⟨[0, 0, 0, 0, 0, 1, 0, 1, 0, 0, 0, 0, 0, 0, 0, 0, 0, 0, 0, 0, 0, 0, 0, 0, 0, 0, 0, 0, 0, 0, 0, 0, 0, 0, 0, 0, 0, 0, 1], false⟩
  | 11 => some ⟨[0, 0, 1, 1, 1], false⟩
  | 12 => some ⟨[0, 0, 1, 1, 1], false⟩
  | 1000003 => some ⟨[1, 0, 0, 0, 0, 1, 1, 1], false⟩
  | _ => none

noncomputable def lp_rread_3 : LPd El := ⟨42, [0, 5, 6, 7], fun vs h => match vs, h with
  | [.str s, .int .i64 n, .int .i64 times, .int .i64 i], [] => .pre (invRr s n times i) (.br (rrL s n times i).ret (.ret (mkS 42 0 [2, 3, 4] [.int .i64 (rrL s n times i).n, .int .i64 (rrL s n times i).size, .int .i64 (rrL s n times i).e]) []) (.exit 0 (mkS 42 0 [0, 5, 6, 7, 9] [.str s, .int .i64 (rrL s n times i).n, .int .i64 (rrL s n times i).times, .int .i64 4, .bool false]) []))
  | _, _ => .bad⟩

abbrev st_rread_3 (x : List UInt8 × Int × Int × Int) : List (AV El) := mkS 42 0 [0, 5, 6, 7] [.str x.1, .int .i64 x.2.1, .int .i64 x.2.2.1, .int .i64 x.2.2.2]
abbrev hp_rread_3 (x : List UInt8 × Int × Int × Int) : List (HE El) := []

noncomputable def b_rread_3 (s : List UInt8) (n times i : Int) : Bx (List UInt8 × Int × Int × Int) El :=
  .br (decide (i < 4))
  (.br (decide ((s.length : Int) ≤ i))
   (.ret (mkS 42 0 [2, 3, 4] [.int .i64 0, .int .i64 0, .int .i64 3]) [])
   (.pre (inl i s.length)
    (.pre (inl i s.length)
     (.br (decide (((s.getD i.toNat 0).toNat : Int) < 128))
      (.br (decide (0 < i))
       (.pre (inl i s.length)
        (.br (decide (((s.getD i.toNat 0).toNat : Int) = 0))
         (.ret (mkS 42 0 [2, 3, 4] [.int .i64 0, .int .i64 0, .int .i64 5]) [])
         (.ret (mkS 42 0 [2, 3, 4] [.int .i64 (IntKind.i64.wrap (n + (IntKind.i64.wrap ((IntKind.i64.wrap (Int.tmod ((s.getD i.toNat 0).toNat : Int) (128 : Int))) * times)))), .int .i64 (IntKind.i64.wrap (i + 1)), .int .i64 0]) [])))
       (.ret (mkS 42 0 [2, 3, 4] [.int .i64 (IntKind.i64.wrap (n + (IntKind.i64.wrap ((IntKind.i64.wrap (Int.tmod ((s.getD i.toNat 0).toNat : Int) (128 : Int))) * times)))), .int .i64 (IntKind.i64.wrap (i + 1)), .int .i64 0]) []))
      (.next (s, IntKind.i64.wrap (n + (IntKind.i64.wrap ((IntKind.i64.wrap (Int.tmod ((s.getD i.toNat 0).toNat : Int) (128 : Int))) * times))), IntKind.i64.wrap (times * 128), IntKind.i64.wrap (i + 1)))))))
  (.exit 0 (mkS 42 0 [0, 5, 6, 7, 9] [.str s, .int .i64 n, .int .i64 times, .int .i64 i, .bool false]) [])

theorem B_rread_3 (s : List UInt8) (n times i : Int) (R : Type) (K kR : List (AV El) → List (HE El) → Option R) (kE : Nat → List (AV El) → List (HE El) → Option R) : lb l_rread Try.f27 hs_rread [(3, lp_rread_3)] 3 0 (st_rread_3 (s, n, times, i)) (hp_rread_3 (s, n, times, i)) R K kR kE = (b_rread_3 s n times i).go st_rread_3 hp_rread_3 K kR kE := by kernel_rfl

theorem k_rread_3 : LoopOk (C0.withFn (fnL l_rread)) 0 hs_rread (lpT [(3, lp_rread_3)]) 0 (loopBody (Try.f27.body.getD .skip) 3) lp_rread_3 := by
  refine LoopOk.tree st_rread_3 hp_rread_3 (fun x => (invRr x.1 x.2.1 x.2.2.1 x.2.2.2) = true) (fun x => .br (rrL x.1 x.2.1 x.2.2.1 x.2.2.2).ret (.ret (mkS 42 0 [2, 3, 4] [.int .i64 (rrL x.1 x.2.1 x.2.2.1 x.2.2.2).n, .int .i64 (rrL x.1 x.2.1 x.2.2.1 x.2.2.2).size, .int .i64 (rrL x.1 x.2.1 x.2.2.1 x.2.2.2).e]) []) (.exit 0 (mkS 42 0 [0, 5, 6, 7, 9] [.str x.1, .int .i64 (rrL x.1 x.2.1 x.2.2.1 x.2.2.2).n, .int .i64 (rrL x.1 x.2.1 x.2.2.1 x.2.2.2).times, .int .i64 4, .bool false]) [])) (fun x => (4 - x.2.2.2).toNat) (fun x => b_rread_3 x.1 x.2.1 x.2.2.1 x.2.2.2) ?_ (fun x _ R K kR kE => B_rread_3 x.1 x.2.1 x.2.2.1 x.2.2.2 R K kR kE) ?_
  · intro R kR kE vs h r hr
    unfold lp_rread_3 at hr
    dsimp only at hr
    split at hr
    · rename_i s n times i
      obtain ⟨hc, hr⟩ := Ex.pre_out hr
      exact ⟨(s, n, times, i), hc, rfl, rfl, hr⟩
    · cases hr
  · intro x hx
    obtain ⟨s, n, times, i⟩ := x
    dsimp only at hx ⊢
    simp only [b_rread_3, Bx.sat, Ex.out, std0, stdA]
    obtain ⟨h1, h2, h3, h4, h5, h6⟩ := invRr_iff.1 hx
    refine ⟨fun hn => ⟨fun hl R kR kE => ?_, fun hl => ?_⟩, fun hn R kR kE => ?_⟩
    · rw [rrL.eq_def, dif_pos hn, if_pos hl]
      rfl
    · have hl' : i < s.length := by omega
      have hb1 := (s.getD i.toNat 0).toNat_lt
      have hat : at' s i = ((s.getD i.toNat 0).toNat : Nat) := rfl
      rw [rrL.eq_def s n times i, dif_pos hn, if_neg hl, hat]
      generalize (s.getD i.toNat 0).toNat = c at hb1 hat ⊢
      have hi4 : i = 0 ∨ i = 1 ∨ i = 2 ∨ i = 3 := by omega
      have ht : 1 ≤ times ∧ times ≤ 2097152 := by rcases hi4 with rfl | rfl | rfl | rfl <;> simp at h3 <;> omega
      have hc : (0 : Int) ≤ (c : Int) % 128 ∧ (c : Int) % 128 ≤ 127 := by omega
      have hm0 : 0 ≤ (c : Int) % 128 * times := Int.mul_nonneg hc.1 (by omega)
      have hm1 : (c : Int) % 128 * times ≤ 127 * times := Int.mul_le_mul_of_nonneg_right hc.2 (by omega)
      have e1 : IntKind.i64.wrap (n + IntKind.i64.wrap (IntKind.i64.wrap ((c : Int).tmod 128) * times)) = n + c % 128 * times := by
        rw [tmod_nn (by omega), wrap_i64 (x := (c : Int) % 128) (by omega) (by omega), wrap_i64 (x := (c : Int) % 128 * times) (by omega) (by omega), wrap_i64 (by omega) (by omega)]
      rw [e1, wrap_i64 (x := times * 128) (by omega) (by omega), wrap_i64 (x := i + 1) (by omega) (by omega)]
      have hb : 0 ≤ i ∧ i < (s.length : Int) := ⟨h1, hl'⟩
      refine ⟨fun _ => ⟨fun _ => ⟨fun hcc => ⟨fun hp => ⟨fun _ => ⟨fun hz R kR kE => ?_, fun hz R kR kE => ?_⟩, fun hk => hk hb⟩, fun hp R kR kE => ?_⟩, fun hcc => ⟨invRr_iff.2 ⟨by omega, by omega, ?_, by omega, by omega, h6⟩, by omega, fun R kR kE => ?_⟩⟩, fun hk => hk hb⟩, fun hk => hk hb⟩
      · simp only [hcc, hp, hz, and_self, if_true]
        rfl
      · simp only [hcc, hz, and_false, if_true, if_false]
        rfl
      · simp only [hcc, hp, false_and, if_true, if_false]
        rfl
      · rw [h3]
        rcases hi4 with rfl | rfl | rfl | rfl <;> rfl
      · simp only [hcc, if_false]
    · have he : i = 4 := by omega
      subst he
      rw [rrL.eq_def, dif_neg hn]
      rfl

noncomputable def t_rread (s : List UInt8) : Rs El :=
  .pre (invRr s (0 : Int) (1 : Int) (0 : Int))
  (.br ((rrL s (0 : Int) (1 : Int) (0 : Int)).ret)
   (.ret (.tup [.int .i64 ((rrL s (0 : Int) (1 : Int) (0 : Int)).n), .int .i64 ((rrL s (0 : Int) (1 : Int) (0 : Int)).size), .int .i64 ((rrL s (0 : Int) (1 : Int) (0 : Int)).e)]) [])
   (.ret (.tup [.int .i64 0, .int .i64 0, .int .i64 5]) []))

theorem T_rread (s : List UInt8) (R : Type) (kk : AV El → List (HE El) → Option R) : evf 0 l_rread Try.f27 hs_rread [(3, lp_rread_3)] ⟨0, false, false⟩ [.str s] [] R kk = (t_rread s).go kk := by kernel_rfl

theorem c_rread : CT 27 (fsOf 0 s_rread) := by
  refine Ct.of base_ok Try.func27 rfl rfl (l := l_rread) trivial fun H ρ args vals h v h' hv hs => ?_
  unfold s_rread at hs
  split at hs
  · rename_i s
    obtain ⟨rfl, rfl⟩ := hs
    have hok := hv.ok
    refine ⟨_, hv, .treeL (T_rread s) (by kernel_rfl) (by simp only [List.mem_cons, List.not_mem_nil, or_false]; rintro p rfl; exact k_rread_3) ?_⟩
    simp only [okL, AV.ok, and_true, true_and] at hok
    simp only [t_rread, Rs.all, std0, stdA]
    have hi : invRr s 0 1 0 = true := invRr_iff.2 ⟨by omega, by omega, rfl, by omega, by omega, hok⟩
    exact ⟨fun _ => ⟨fun h => by simp [rread, h], fun h => by simp [rread, h]⟩, fun hc => by rw [hi] at hc; cases hc⟩
  · cases hs

noncomputable def s_rput : Sem1 El := fun args h => match args, h with
  | [.int .u64 n, .int .i64 size], [] => .ret (.str (rputB n size)) []
  | _, _ => .bad

noncomputable abbrev l_rput : List (Nat × FS El) := []

def hs_rput : Nat → Option Hint
  | 2 => some ⟨[1, 0, 0, 0, 0, 2, 1], false⟩
  | 3 => some ⟨[1, 0, 0, 0, 0, 2, 1, 0, 0, 0, 0, 0, 0, 1], false⟩
  | 4 => some ⟨[1, 0, 0, 0, 0, 2, 1], false⟩
  | 5 => some ⟨[1, 0, 0, 0, 0, 2, 1, 1], false⟩
  | 6 => some ⟨[1, 0, 0, 0, 0, 2, 1, 1, 0, 0, 0, 0, 0, 0, 0, 0, 0, 1], false⟩
  | 7 => some ⟨[1, 0, 0, 0, 0, 2, 1, 1], false⟩
  | 8 => some ⟨[1, 0, 0, 0, 0, 2, 1], false⟩
  | 1000003 => some ⟨[1, 0, 0, 0, 0, 2, 1], false⟩
  | _ => none

noncomputable def lp_rput_3 : LPd El := ⟨30, [0, 5, 6], fun vs h => match vs, h with
  | [.int .u64 n, .bytes (.tok 0) out, .int .i64 i], [.tok] => .pre (invRp n i out) (.exit 0 (mkS 30 0 [0, 5, 6, 13] [.int .u64 n, .bytes (.tok 0) (rpL n i out), .int .i64 (-1), .bool false]) [.tok])
  | _, _ => .bad⟩

abbrev st_rput_3 (x : Int × Int × List UInt8) : List (AV El) := mkS 30 0 [0, 5, 6] [.int .u64 x.1, .bytes (.tok 0) x.2.2, .int .i64 x.2.1]
abbrev hp_rput_3 (x : Int × Int × List UInt8) : List (HE El) := [.tok]

noncomputable def b_rput_3 (n i : Int) (out : List UInt8) : Bx (Int × Int × List UInt8) El :=
  .br (decide (0 ≤ i))
  (.br (decide (i < 8))
   (.pre (decide (0 ≤ (IntKind.u64.wrap (IntKind.i64.wrap (8 * i)))))
    (.pre (decide (out.length + [UInt8.ofNat (IntKind.u8.wrap (Int.fdiv n (2 ^ min (IntKind.u64.wrap (IntKind.i64.wrap (8 * i))).toNat IntKind.u64.bits))).toNat].length ≤ maxLen'))
     (.next (n, IntKind.i64.wrap (i - 1), out ++ [UInt8.ofNat (IntKind.u8.wrap (Int.fdiv n (2 ^ min (IntKind.u64.wrap (IntKind.i64.wrap (8 * i))).toNat IntKind.u64.bits))).toNat]))))
   (.pre (decide (out.length + 1 ≤ maxLen'))
    (.next (n, IntKind.i64.wrap (i - 1), out ++ [0]))))
  (.exit 0 (mkS 30 0 [0, 5, 6, 13] [.int .u64 n, .bytes (.tok 0) out, .int .i64 i, .bool false]) [.tok])

theorem B_rput_3 (n i : Int) (out : List UInt8) (R : Type) (K kR : List (AV El) → List (HE El) → Option R) (kE : Nat → List (AV El) → List (HE El) → Option R) : lb l_rput Try.f64 hs_rput [(3, lp_rput_3)] 3 0 (st_rput_3 (n, i, out)) (hp_rput_3 (n, i, out)) R K kR kE = (b_rput_3 n i out).go st_rput_3 hp_rput_3 K kR kE := by kernel_rfl

theorem k_rput_3 : LoopOk (C0.withFn (fnL l_rput)) 0 hs_rput (lpT [(3, lp_rput_3)]) 0 (loopBody (Try.f64.body.getD .skip) 3) lp_rput_3 := by
  refine LoopOk.tree st_rput_3 hp_rput_3 (fun x => (invRp x.1 x.2.1 x.2.2) = true) (fun x => .exit 0 (mkS 30 0 [0, 5, 6, 13] [.int .u64 x.1, .bytes (.tok 0) (rpL x.1 x.2.1 x.2.2), .int .i64 (-1), .bool false]) [.tok]) (fun x => (x.2.1 + 1).toNat) (fun x => b_rput_3 x.1 x.2.1 x.2.2) ?_ (fun x _ R K kR kE => B_rput_3 x.1 x.2.1 x.2.2 R K kR kE) ?_
  · intro R kR kE vs h r hr
    unfold lp_rput_3 at hr
    dsimp only at hr
    split at hr
    · rename_i n out i
      obtain ⟨hc, hr⟩ := Ex.pre_out hr
      exact ⟨(n, i, out), hc, rfl, rfl, hr⟩
    · cases hr
  · intro x hx
    obtain ⟨n, i, out⟩ := x
    dsimp only at hx ⊢
    simp only [b_rput_3, Bx.sat, Ex.out, std0, stdA]
    obtain ⟨h1, h2, h3, h4, h5⟩ := invRp_iff.1 hx
    refine ⟨fun hn => ?_, fun hn R kR kE => ?_⟩
    · rw [wrap_i64 (x := i - 1) (by omega) (by omega), wrap_i64 (x := 8 * i) (by omega) (by omega)]
      have e1 : IntKind.u64.wrap (8 * i) = 8 * i := by rw [wrap_u64]; omega
      rw [e1, wrap_u8]
      refine ⟨fun h8 => ⟨fun _ => ⟨fun _ => ?_, fun hc => hc (by simp [maxLen_eq]; omega)⟩, fun hc => hc (by omega)⟩, fun h8 => ⟨fun _ => ?_, fun hc => hc (by simp [maxLen_eq]; omega)⟩⟩
      · have e2 : n.fdiv (2 ^ min (8 * i).toNat IntKind.u64.bits) = n / 256 ^ i.toNat := by
          have hi8 : i = 0 ∨ i = 1 ∨ i = 2 ∨ i = 3 ∨ i = 4 ∨ i = 5 ∨ i = 6 ∨ i = 7 := by omega
          rcases hi8 with rfl | rfl | rfl | rfl | rfl | rfl | rfl | rfl <;> exact fdiv_nn (by decide)
        rw [e2]
        refine ⟨invRp_iff.2 ⟨h1, h2, by omega, by omega, by simp; omega⟩, by omega, fun R kR kE => ?_⟩
        rw [rpL.eq_def n i out, dif_pos hn, if_pos h8]
        rfl
      · refine ⟨invRp_iff.2 ⟨h1, h2, by omega, by omega, by simp; omega⟩, by omega, fun R kR kE => ?_⟩
        rw [rpL.eq_def n i out, dif_pos hn, if_neg h8]
    · have he : i = -1 := by omega
      subst he
      rw [rpL.eq_def n (-1) out, dif_neg (by omega)]

noncomputable def t_rput (n size : Int) : Rs El :=
  .pre (invRp n (IntKind.i64.wrap ((if 0 < (if 16 < size then 16 else size) then (if 16 < size then 16 else size) else 0) - 1)) ([] : List UInt8)) (.ret (.str (rpL n (IntKind.i64.wrap ((if 0 < (if 16 < size then 16 else size) then (if 16 < size then 16 else size) else 0) - 1)) ([] : List UInt8))) [])

theorem T_rput (n size : Int) (R : Type) (kk : AV El → List (HE El) → Option R) : evf 0 l_rput Try.f64 hs_rput [(3, lp_rput_3)] ⟨0, false, false⟩ [.int .u64 n, .int .i64 size] [] R kk = (t_rput n size).go kk := by kernel_rfl

theorem c_rput : CT 64 (fsOf 0 s_rput) := by
  refine Ct.of base_ok Try.func64 rfl rfl (l := l_rput) trivial fun H ρ args vals h v h' hv hs => ?_
  unfold s_rput at hs
  split at hs
  · rename_i n size
    obtain ⟨rfl, rfl⟩ := hs
    have hok := hv.ok
    refine ⟨_, hv, .treeL (T_rput n size) (by kernel_rfl) (by simp only [List.mem_cons, List.not_mem_nil, or_false]; rintro p rfl; exact k_rput_3) ?_⟩
    simp only [okL, AV.ok, and_true, true_and] at hok
    simp only [t_rput, Rs.all, std0, stdA]
    simp only [min_u64, max_u64] at hok
    have hpb : rputB n size = rpL n ((if 0 < if 16 < size then 16 else size then if 16 < size then 16 else size else 0) - 1) [] := rfl
    rw [hpb]
    have hm : (0 : Int) ≤ (if 0 < if 16 < size then 16 else size then if 16 < size then 16 else size else 0) ∧ (if 0 < if 16 < size then 16 else size then if 16 < size then 16 else size else 0) ≤ (16 : Int) := by split <;> split <;> omega
    generalize (if 0 < if 16 < size then 16 else size then if 16 < size then 16 else size else 0) = m at hm
    rw [wrap_i64 (x := m - 1) (by omega) (by omega)]
    have c2 : invRp n (m - 1) [] = true := invRp_iff.2 ⟨by omega, by omega, by omega, by omega, by simp; omega⟩
    exact ⟨fun _ => rfl, fun hc => by rw [c2] at hc; cases hc⟩
  · cases hs

noncomputable def s_rversion : Sem1 El := fun args h => match args, h with
  | [.int .i64 v], [] => .ret (.bool (known v)) []
  | _, _ => .bad

noncomputable abbrev l_rversion : List (Nat × FS El) := []

noncomputable def t_rversion (v : Int) : Rs El :=
  .br (decide (v = 4))
  (.ret (.bool true) [])
  (.ret (.bool (decide (v = 5))) [])

theorem T_rversion (v : Int) (R : Type) (kk : AV El → List (HE El) → Option R) : evf 0 l_rversion Try.f62 (fun _ => none) [] ⟨0, false, false⟩ [.int .i64 v] [] R kk = (t_rversion v).go kk := by kernel_rfl

theorem c_rversion : CT 62 (fsOf 0 s_rversion) := by
  refine Ct.of base_ok Try.func62 rfl rfl (l := l_rversion) trivial fun H ρ args vals h v h' hv hs => ?_
  unfold s_rversion at hs
  split at hs
  · rename_i v
    obtain ⟨rfl, rfl⟩ := hs
    have hok := hv.ok
    refine ⟨_, hv, .tree (T_rversion v) ?_⟩
    simp only [okL, AV.ok, and_true, true_and] at hok
    simp only [t_rversion, Rs.all, std0, stdA]
    grind [known]
  · cases hs

noncomputable def s_rkind : Sem1 El := fun args h => match args, h with
  | [.int .i64 v, .int .i64 k], [] => .ret (.bool (kinds v k)) []
  | _, _ => .bad

noncomputable abbrev l_rkind : List (Nat × FS El) := []

noncomputable def t_rkind (v k : Int) : Rs El :=
  .br (decide (1 ≤ k))
  (.br (decide (k < 15))
   (.ret (.bool true) [])
   (.br (decide (k = 15))
    (.ret (.bool (decide (v = 5))) [])
    (.ret (.bool false) [])))
  (.ret (.bool false) [])

theorem T_rkind (v k : Int) (R : Type) (kk : AV El → List (HE El) → Option R) : evf 0 l_rkind Try.f63 (fun _ => none) [] ⟨0, false, false⟩ [.int .i64 v, .int .i64 k] [] R kk = (t_rkind v k).go kk := by kernel_rfl

theorem c_rkind : CT 63 (fsOf 0 s_rkind) := by
  refine Ct.of base_ok Try.func63 rfl rfl (l := l_rkind) trivial fun H ρ args vals h v h' hv hs => ?_
  unfold s_rkind at hs
  split at hs
  · rename_i v k
    obtain ⟨rfl, rfl⟩ := hs
    have hok := hv.ok
    refine ⟨_, hv, .tree (T_rkind v k) ?_⟩
    simp only [okL, AV.ok, and_true, true_and] at hok
    simp only [t_rkind, Rs.all, std0, stdA]
    grind [kinds]
  · cases hs

noncomputable def s_rflags : Sem1 El := fun args h => match args, h with
  | [.int .i64 k, .int .i64 f], [] => .ret (.bool (flagged k f)) []
  | _, _ => .bad

noncomputable abbrev l_rflags : List (Nat × FS El) := []

noncomputable def t_rflags (k f : Int) : Rs El :=
  .br (decide (k = 3))
  (.br (decide (0 ≤ f))
   (.br (decide (f ≤ 15))
    (.br (decide ((Int.tmod (IntKind.i64.wrap (Int.tdiv f (2 : Int))) (4 : Int)) < 3))
     (.br (decide (f < 8))
      (.ret (.bool true) [])
      (.ret (.bool (decide (0 < (Int.tmod (IntKind.i64.wrap (Int.tdiv f (2 : Int))) (4 : Int))))) []))
     (.ret (.bool false) []))
    (.ret (.bool false) []))
   (.ret (.bool false) []))
  (.br (decide (k = 6))
   (.ret (.bool (decide (f = 2))) [])
   (.br (decide (k = 8))
    (.ret (.bool (decide (f = 2))) [])
    (.br (decide (k = 10))
     (.ret (.bool (decide (f = 2))) [])
     (.ret (.bool (decide (f = 0))) []))))

theorem T_rflags (k f : Int) (R : Type) (kk : AV El → List (HE El) → Option R) : evf 0 l_rflags Try.f65 (fun _ => none) [] ⟨0, false, false⟩ [.int .i64 k, .int .i64 f] [] R kk = (t_rflags k f).go kk := by kernel_rfl

theorem c_rflags : CT 65 (fsOf 0 s_rflags) := by
  refine Ct.of base_ok Try.func65 rfl rfl (l := l_rflags) trivial fun H ρ args vals h v h' hv hs => ?_
  unfold s_rflags at hs
  split at hs
  · rename_i k f
    obtain ⟨rfl, rfl⟩ := hs
    have hok := hv.ok
    refine ⟨_, hv, .tree (T_rflags k f) ?_⟩
    simp only [okL, AV.ok, and_true, true_and] at hok
    simp only [t_rflags, Rs.all, std0, stdA]
    refine ⟨fun h1 => ?_, fun h1 => ?_⟩
    · refine ⟨fun h2 => ?_, fun h2 => ?_⟩
      · rw [Int.tdiv_eq_ediv_of_nonneg h2]
        refine ⟨fun h3 => ?_, fun h3 => ?_⟩
        · rw [wrap_i64 (x := f / 2) (by omega) (by omega), Int.tmod_eq_emod_of_nonneg (by omega)]
          have hp := @pubFl_iff f
          unfold flagged
          rw [if_pos h1]
          refine ⟨fun h4 => ⟨fun h5 => ?_, fun h5 => ?_⟩, fun h4 => ?_⟩
          · exact (hp.2 (by omega)).symm
          · rw [Bool.eq_iff_iff, hp]
            simp only [decide_eq_true_eq]
            omega
          · symm
            rw [← Bool.not_eq_true, hp]
            omega
        · have : pubFl f = false := by rw [← Bool.not_eq_true, pubFl_iff]; omega
          simp [flagged, h1, this]
      · have : pubFl f = false := by rw [← Bool.not_eq_true, pubFl_iff]; omega
        simp [flagged, h1, this]
    · grind [flagged, fixed]
  · cases hs

noncomputable def s_rcheck : Sem1 El := fun args h => match args, h with
  | [.int .i64 v, .agg [.int .i64 k, .int .i64 f, .int .i64 l]], [] => .ret (.int .i64 (hcheck v ⟨k, f, l⟩)) []
  | _, _ => .bad

noncomputable abbrev l_rcheck : List (Nat × FS El) := [(62, fsOf 0 s_rversion), (63, fsOf 0 s_rkind), (65, fsOf 0 s_rflags)]

noncomputable def t_rcheck (v k f l : Int) : Rs El :=
  .br (!(known v))
  (.ret (.int .i64 2) [])
  (.br (!(kinds v k))
   (.ret (.int .i64 8) [])
   (.br (!(flagged k f))
    (.ret (.int .i64 7) [])
    (.br (decide (l < 0))
     (.ret (.int .i64 2) [])
     (.br (decide (268435455 < l))
      (.ret (.int .i64 2) [])
      (.ret (.int .i64 0) [])))))

theorem T_rcheck (v k f l : Int) (R : Type) (kk : AV El → List (HE El) → Option R) : evf 0 l_rcheck Try.f43 (fun _ => none) [] ⟨0, false, false⟩ [.int .i64 v, .agg [.int .i64 k, .int .i64 f, .int .i64 l]] [] R kk = (t_rcheck v k f l).go kk := by kernel_rfl

theorem c_rcheck : CT 43 (fsOf 0 s_rcheck) := by
  refine Ct.of base_ok Try.func43 rfl rfl (l := l_rcheck) ⟨c_rversion, c_rkind, c_rflags, trivial⟩ fun H ρ args vals h v h' hv hs => ?_
  unfold s_rcheck at hs
  split at hs
  · rename_i v k f l
    obtain ⟨rfl, rfl⟩ := hs
    have hok := hv.ok
    refine ⟨_, hv, .tree (T_rcheck v k f l) ?_⟩
    simp only [okL, AV.ok, and_true, true_and] at hok
    simp only [t_rcheck, Rs.all, std0, stdA]
    repeat' (first | intro _ | apply And.intro)
    all_goals grind [hcheck, mayB]
  · cases hs

noncomputable def s_rhflags : Sem1 El := fun args h => match args, h with
  | [.int .i64 v, .agg c1], [] => (match toPkt c1 with
    | some p => .ret (.tup [.int .i64 (hflagsN v p.kind p.qos p.dup p.retain), .int .i64 (hflagsE v p.kind p.qos p.dup)]) []
    | none => .bad)
  | _, _ => .bad

noncomputable abbrev l_rhflags : List (Nat × FS El) := [(62, fsOf 0 s_rversion), (63, fsOf 0 s_rkind)]

noncomputable def t_rhflags (v : Int) (p : PacketV) : Rs El :=
  .br (!(known v))
  (.ret (.tup [.int .i64 0, .int .i64 2]) [])
  (.br (!(kinds v p.kind))
   (.ret (.tup [.int .i64 0, .int .i64 8]) [])
   (.br (decide (p.kind = 6))
    (.ret (.tup [.int .i64 2, .int .i64 0]) [])
    (.br (decide (p.kind = 8))
     (.ret (.tup [.int .i64 2, .int .i64 0]) [])
     (.br (decide (p.kind = 10))
      (.ret (.tup [.int .i64 2, .int .i64 0]) [])
      (.br (decide (p.kind = 3))
       (.br (decide (p.qos < 0))
        (.ret (.tup [.int .i64 0, .int .i64 7]) [])
        (.br (decide (2 < p.qos))
         (.ret (.tup [.int .i64 0, .int .i64 7]) [])
         (.br p.dup
          (.br (decide (p.qos = 0))
           (.ret (.tup [.int .i64 0, .int .i64 7]) [])
           (.br p.dup
            (.br p.retain
             (.ret (.tup [.int .i64 (IntKind.i64.wrap ((IntKind.i64.wrap ((IntKind.i64.wrap (2 * p.qos)) + 8)) + 1)), .int .i64 0]) [])
             (.ret (.tup [.int .i64 (IntKind.i64.wrap ((IntKind.i64.wrap (2 * p.qos)) + 8)), .int .i64 0]) []))
            (.br p.retain
             (.ret (.tup [.int .i64 (IntKind.i64.wrap ((IntKind.i64.wrap (2 * p.qos)) + 1)), .int .i64 0]) [])
             (.ret (.tup [.int .i64 (IntKind.i64.wrap (2 * p.qos)), .int .i64 0]) []))))
          (.br p.dup
           (.br p.retain
            (.ret (.tup [.int .i64 (IntKind.i64.wrap ((IntKind.i64.wrap ((IntKind.i64.wrap (2 * p.qos)) + 8)) + 1)), .int .i64 0]) [])
            (.ret (.tup [.int .i64 (IntKind.i64.wrap ((IntKind.i64.wrap (2 * p.qos)) + 8)), .int .i64 0]) []))
           (.br p.retain
            (.ret (.tup [.int .i64 (IntKind.i64.wrap ((IntKind.i64.wrap (2 * p.qos)) + 1)), .int .i64 0]) [])
            (.ret (.tup [.int .i64 (IntKind.i64.wrap (2 * p.qos)), .int .i64 0]) []))))))
       (.ret (.tup [.int .i64 0, .int .i64 0]) []))))))

theorem T_rhflags (v : Int) (p : PacketV) (R : Type) (kk : AV El → List (HE El) → Option R) : evf 0 l_rhflags Try.f40 (fun _ => none) [] ⟨0, false, false⟩ [.int .i64 v, .agg (aPkt p)] [] R kk = (t_rhflags v p).go kk := by kernel_rfl

theorem c_rhflags : CT 40 (fsOf 0 s_rhflags) := by
  refine Ct.of base_ok Try.func40 rfl rfl (l := l_rhflags) ⟨c_rversion, c_rkind, trivial⟩ fun H ρ args vals h v h' hv hs => ?_
  unfold s_rhflags at hs
  split at hs
  · rename_i v c1
    split at hs
    · rename_i p hdec_p
      obtain ⟨rfl, rfl⟩ := hs
      have hv := hv.shrX
      rw [show ([.int .i64 v, .agg c1] : List (AV El)).map AV.shrX = [.int .i64 v, .agg (aPkt p)] from by rw [toPkt_eq hdec_p]; rfl] at hv
      have hok := hv.ok
      refine ⟨_, hv, .tree (T_rhflags v p) ?_⟩
      simp only [okL, AV.ok, and_true, true_and] at hok
      simp only [t_rhflags, Rs.all, std0, stdA]
      clear hv hok hdec_p
      have hw : 0 ≤ p.qos → p.qos ≤ 2 → IntKind.i64.wrap (2 * p.qos) = 2 * p.qos := fun a b => wrap_i64 (by omega) (by omega)
      have hw8 : 0 ≤ p.qos → p.qos ≤ 2 → IntKind.i64.wrap (2 * p.qos + 8) = 2 * p.qos + 8 := fun a b => wrap_i64 (by omega) (by omega)
      have hw9 : 0 ≤ p.qos → p.qos ≤ 2 → IntKind.i64.wrap (2 * p.qos + 8 + 1) = 2 * p.qos + 9 := fun a b => by rw [wrap_i64 (by omega) (by omega)]; omega
      have hw1 : 0 ≤ p.qos → p.qos ≤ 2 → IntKind.i64.wrap (2 * p.qos + 1) = 2 * p.qos + 1 := fun a b => wrap_i64 (by omega) (by omega)
      repeat' (first | intro _ | apply And.intro)
      all_goals grind [hflagsN, hflagsE, fixed]
    · cases hs
  · cases hs

noncomputable def s_rhbytes : Sem1 El := fun args h => match args, h with
  | [.int .i64 v, .agg [.int .i64 k, .int .i64 f, .int .i64 l]], [] => .ret (.tup [.str (hbytes v ⟨k, f, l⟩), .int .i64 (hcheck v ⟨k, f, l⟩)]) []
  | _, _ => .bad

noncomputable abbrev l_rhbytes : List (Nat × FS El) := [(43, fsOf 0 s_rcheck), (25, fsOf 0 s_rbytes), (64, fsOf 0 s_rput)]

noncomputable def t_rhbytes (v k f l : Int) : Rs El :=
  .br (!(decide ((hcheck v ⟨k, f, l⟩) = 0)))
  (.ret (.tup [.str [], .int .i64 (hcheck v ⟨k, f, l⟩)]) [])
  (.pre (decide ((rputB (IntKind.u64.wrap (IntKind.i64.wrap ((IntKind.i64.wrap (16 * k)) + f))) (1 : Int)).length + (rbytes l).length ≤ maxCat)) (.ret (.tup [.str ((rputB (IntKind.u64.wrap (IntKind.i64.wrap ((IntKind.i64.wrap (16 * k)) + f))) (1 : Int)) ++ (rbytes l)), .int .i64 0]) []))

theorem T_rhbytes (v k f l : Int) (R : Type) (kk : AV El → List (HE El) → Option R) : evf 0 l_rhbytes Try.f41 (fun _ => none) [] ⟨0, false, false⟩ [.int .i64 v, .agg [.int .i64 k, .int .i64 f, .int .i64 l]] [] R kk = (t_rhbytes v k f l).go kk := by kernel_rfl

theorem c_rhbytes : CT 41 (fsOf 0 s_rhbytes) := by
  refine Ct.of base_ok Try.func41 rfl rfl (l := l_rhbytes) ⟨c_rcheck, c_rbytes, c_rput, trivial⟩ fun H ρ args vals h v h' hv hs => ?_
  unfold s_rhbytes at hs
  split at hs
  · rename_i v k f l
    obtain ⟨rfl, rfl⟩ := hs
    have hok := hv.ok
    refine ⟨_, hv, .tree (T_rhbytes v k f l) ?_⟩
    simp only [okL, AV.ok, and_true, true_and] at hok
    simp only [t_rhbytes, Rs.all, std0, stdA]
    refine ⟨fun h => by simp [hbytes, h], fun h => ?_⟩
    obtain ⟨a1, a2, a3, a4, a5, a6⟩ := hcheck_range h
    dsimp only at a1 a2 a3 a4 a5 a6
    have e2 : IntKind.u64.wrap (16 * k + f) = k * 16 + f := by rw [wrap_u64]; omega
    have hl := vbytes_length a5 a6
    rw [wrap_i64 (x := 16 * k) (by omega) (by omega), wrap_i64 (x := 16 * k + f) (by omega) (by omega), e2, rputB_one (by omega) (by omega), ← vbytes_rbytes]
    refine ⟨fun _ => ⟨by simp [hbytes, h], h.symm⟩, fun hc => hc ?_⟩
    simp [maxCat_eq]; omega
  · cases hs

noncomputable def s_rhread : Sem1 El := fun args h => match args, h with
  | [.int .i64 v, .str s], [] => .ret (.tup [.agg [.int .i64 (hread v s).h.kind, .int .i64 (hread v s).h.flags, .int .i64 (hread v s).h.length], .int .i64 (hread v s).size, .int .i64 (hread v s).e]) []
  | _, _ => .bad

noncomputable abbrev l_rhread : List (Nat × FS El) := [(62, fsOf 0 s_rversion), (43, fsOf 0 s_rcheck), (27, fsOf 0 s_rread)]

noncomputable def t_rhread (v : Int) (s : List UInt8) : Rs El :=
  .br (!(known v))
  (.ret (.tup [.agg [.int .i64 0, .int .i64 0, .int .i64 0], .int .i64 0, .int .i64 2]) [])
  (.br (decide (s = ([] : List UInt8)))
   (.ret (.tup [.agg [.int .i64 0, .int .i64 0, .int .i64 0], .int .i64 0, .int .i64 3]) [])
   (.pre (inl (0 : Int) s.length)
    (.pre (inl (0 : Int) s.length)
     (.br (!(decide ((hcheck v ⟨(IntKind.i64.wrap (Int.tdiv (IntKind.i64.wrap ((s.getD 0 0).toNat : Int)) (16 : Int))), (Int.tmod (IntKind.i64.wrap ((s.getD 0 0).toNat : Int)) (16 : Int)), (0 : Int)⟩) = 0)))
      (.ret (.tup [.agg [.int .i64 0, .int .i64 0, .int .i64 0], .int .i64 0, .int .i64 (hcheck v ⟨(IntKind.i64.wrap (Int.tdiv (IntKind.i64.wrap ((s.getD 0 0).toNat : Int)) (16 : Int))), (Int.tmod (IntKind.i64.wrap ((s.getD 0 0).toNat : Int)) (16 : Int)), (0 : Int)⟩)]) [])
      (.pre (inside (1 : Int) (s.length : Int) (s.length : Int) (s.length : Int))
       (.br (!(decide (((rread (cutB s (1 : Int) (s.length : Int))).e) = 0)))
        (.ret (.tup [.agg [.int .i64 0, .int .i64 0, .int .i64 0], .int .i64 0, .int .i64 ((rread (cutB s (1 : Int) (s.length : Int))).e)]) [])
        (.ret (.tup [.agg [.int .i64 (IntKind.i64.wrap (Int.tdiv (IntKind.i64.wrap ((s.getD 0 0).toNat : Int)) (16 : Int))), .int .i64 (Int.tmod (IntKind.i64.wrap ((s.getD 0 0).toNat : Int)) (16 : Int)), .int .i64 ((rread (cutB s (1 : Int) (s.length : Int))).n)], .int .i64 (IntKind.i64.wrap (1 + ((rread (cutB s (1 : Int) (s.length : Int))).size))), .int .i64 0]) [])))))))

theorem T_rhread (v : Int) (s : List UInt8) (R : Type) (kk : AV El → List (HE El) → Option R) : evf 0 l_rhread Try.f42 (fun _ => none) [] ⟨0, false, false⟩ [.int .i64 v, .str s] [] R kk = (t_rhread v s).go kk := by kernel_rfl

theorem c_rhread : CT 42 (fsOf 0 s_rhread) := by
  refine Ct.of base_ok Try.func42 rfl rfl (l := l_rhread) ⟨c_rversion, c_rcheck, c_rread, trivial⟩ fun H ρ args vals h v h' hv hs => ?_
  unfold s_rhread at hs
  split at hs
  · rename_i v s
    obtain ⟨rfl, rfl⟩ := hs
    have hok := hv.ok
    refine ⟨_, hv, .tree (T_rhread v s) ?_⟩
    simp only [okL, AV.ok, and_true, true_and] at hok
    simp only [t_rhread, Rs.all, std0, stdA]
    refine ⟨fun h => by simp [hread, h], fun h => ⟨fun h2 => by simp [hread, h, h2], fun h2 => ?_⟩⟩
    cases s with
    | nil => exact absurd rfl h2
    | cons b t =>
      have hb := b.toNat_lt
      have hlen := hok.2
      have hpos : (0 : Int) ≤ 0 ∧ (0 : Int) < ((b :: t).length : Int) := by simp <;> omega
      have hone : (0 : Int) ≤ 1 ∧ (1 : Int) ≤ ((b :: t).length : Int) ∧ ((b :: t).length : Int) ≤ ((b :: t).length : Int) := by rw [List.length_cons]; omega
      simp only [List.length_cons] at hlen
      have e0 : (((b :: t).getD 0 0).toNat : Int) = b.toNat := rfl
      have e3 : IntKind.i64.wrap (b.toNat : Int) = b.toNat := wrap_i64 (by omega) (by omega)
      have e4 : (b.toNat : Int).tdiv 16 = (b.toNat : Int) / 16 := Int.tdiv_eq_ediv_of_nonneg (by omega)
      have e5 : (b.toNat : Int).tmod 16 = (b.toNat : Int) % 16 := Int.tmod_eq_emod_of_nonneg (by omega)
      have e6 : List.drop (Int.toNat 1) (b :: t) = t := rfl
      obtain ⟨r1, r2, r3⟩ := vread_rread t
      rw [e0, e3, e4, e5, wrap_i64 (x := (b.toNat : Int) / 16) (by omega) (by omega), cutB_from, e6, ← r1, ← r2, ← r3]
      refine ⟨fun _ => ⟨fun _ => ⟨fun h3 => by simp [hread, h, h3], fun h3 => ⟨fun _ => ⟨fun h4 => by simp [hread, h, h3, h4], fun h4 => ?_⟩, fun hc => hc hone⟩⟩, fun hc => hc hpos⟩, fun hc => hc hpos⟩
      obtain ⟨_, _, w3, w4, _⟩ := vread_written t h4
      rw [wrap_i64 (by omega) (by omega), Int.add_comm 1]
      simp [hread, h, h3, h4]
    
  · cases hs

end Go.Ev.A

/- The header statements: the laws' functions, walked. Own work. -/
import Derived.Test.YtpplfcdhiiiglaaHw
import Derived.Test.YtpplfcdhiiiglaaVr
import Derived.Test.YtpplfcdhiiiglaaVl
namespace Go.Ev.A
open Go.Proofs Go.Ev.Pl

set_option maxRecDepth 100000

abbrev l_lives07 : List (Nat × FS El) := [(34, fsOf 0 sem_hbytes)]

theorem T_lives07 (R : Type)  (kk : AV El → List (HE El) → Option R) : ev l_lives07 Try.f31 (fun _ => none) [] L0 [] [] R kk =
  kk (AV.bool true) [] := by kernel_rfl

theorem c_lives07 : CT 31 (fsOf 0 sem_true) := by
  refine Ct.of base_ok Try.func31 rfl rfl (l := l_lives07) ⟨c_hbytes, trivial⟩ fun H ρ args vals h v h' hv hs => ?_
  unfold sem_true at hs
  split at hs
  · obtain ⟨rfl, rfl⟩ := hs
    exact ⟨_, hv, .plain _ fun R k => T_lives07 R k⟩
  · cases hs

/-! HeadFlags -/

abbrev l_hflags : List (Nat × FS El) := [(31, fsOf 0 sem_true), (30, fs_pick), (32, fsOf 0 sem_flags), (33, fsOf 0 sem_check)]

theorem T_hflags (R : Type) (v k0 f q : Int) (dup retain : Bool) (kk : AV El → List (HE El) → Option R) : ev l_hflags Try.f8 (fun _ => none) [] L0 [.int .i64 v, .int .i64 k0, .int .i64 f, .bool dup, .bool retain, .int .i64 q] [] R kk =
  bif decide (hflagsE v k0 (pickN q 3) dup = 0) then
    bif !decide (hcheck v (HeadV.mk k0 (hflagsN v k0 (pickN q 3) dup retain) (Int.ofNat 0)) = 0) then
      kk (AV.bool false) []
    else
      bif !decide (k0 = 3) then
        kk
          (AV.bool
            (decide (hcheck v (HeadV.mk k0 f (Int.ofNat 0)) = 0) == decide (f = hflagsN v k0 (pickN q 3) dup retain)))
          []
      else
        bif decide (decide ((hflagsN v k0 (pickN q 3) dup retain).tmod 2 = 1) = retain) then
          bif decide (decide (8 ≤ hflagsN v k0 (pickN q 3) dup retain) = dup) then
            kk (AV.bool (decide ((IntKind.i64.wrap ((hflagsN v k0 (pickN q 3) dup retain).tdiv 2)).tmod 4 = pickN q 3)))
              []
          else kk (AV.bool false) []
        else kk (AV.bool false) []
  else
    bif decide (hcheck v (HeadV.mk k0 f (Int.ofNat 0)) = 0) then
      bif decide (k0 = 3) then
        bif decide (hflagsE v k0 (pickN q 3) dup = 7) then
          bif dup then kk (AV.bool (decide (pickN q 3 = 0))) [] else kk (AV.bool false) []
        else kk (AV.bool false) []
      else kk (AV.bool false) []
    else kk (AV.bool (decide (hflagsN v k0 (pickN q 3) dup retain = 0))) [] := by kernel_rfl

def headFlags_shs : List (Bool × List Sh) := [(false, [.int .i64]), (false, [.int .i64]), (false, [.int .i64]), (false, [.bool]), (false, [.bool]), (false, [.int .i64])]

def sem_lflags : Sem1 El := fun args h => match args, h with
  | [.int .i64 _, .int .i64 _, .int .i64 _, .bool _, .bool _, .int .i64 _], [] => .ret (.bool true) []
  | _, _ => .bad

theorem headFlags_leads : ∀ xs : List (AV El), argsFit headFlags_shs xs → ∃ h', (sem_lflags xs []).leads (.bool true) h' := by
  intro xs h
  match xs, h with
  | [a, b, c, d, e, f], ⟨h1, h2, h3, h4, h5, h6, _⟩ =>
    obtain ⟨_, rfl, _⟩ := fits_int h1.1
    obtain ⟨_, rfl, _⟩ := fits_int h2.1
    obtain ⟨_, rfl, _⟩ := fits_int h3.1
    obtain ⟨_, rfl⟩ := fits_bool h4.1
    obtain ⟨_, rfl⟩ := fits_bool h5.1
    obtain ⟨_, rfl, _⟩ := fits_int h6.1
    exact ⟨[], rfl, rfl⟩

theorem c_lflags : CT 8 (fsOf 0 sem_lflags) := by
  refine Ct.of base_ok Try.func8 rfl rfl (l := l_hflags) ⟨c_lives07, c_pick, c_flags, c_check, trivial⟩ fun H ρ args vals h v h' hv hs => ?_
  unfold sem_lflags at hs
  split at hs
  · rename_i v k f dup retain q
    obtain ⟨rfl, rfl⟩ := hs
    refine ⟨_, hv, .plain _ fun R kk => (T_hflags R v k f q dup retain kk).trans ?_⟩
    obtain ⟨p0, p1⟩ := pickN_lt (n := q) (m := 3) (by omega)
    generalize pickN q 3 = q at p0 p1
    have z : Int.ofNat 0 = 0 := rfl
    rw [z]
    have hq : q = 0 ∨ q = 1 ∨ q = 2 := by omega
    by_cases hE : hflagsE v k q dup = 0
    · -- the flags of a packet are valid
      have hk : known v = true ∧ kinds v k = true ∧ (k = 3 → ¬ (q < 0 ∨ 2 < q ∨ (q = 0 ∧ dup = true))) := by
        unfold hflagsE at hE
        split at hE
        · split at hE
          · rename_i a b
            refine ⟨a, b, fun h3 => ?_⟩
            rw [if_pos h3] at hE
            split at hE
            · cases hE
            · assumption
          · cases hE
        · cases hE
      have hN : hflagsN v k q dup retain = if k = 3 then q * 2 + (if retain then 1 else 0) + (if dup then 8 else 0) else fixed k := by
        unfold hflagsN
        rw [if_pos hE]
      have hc : hcheck v ⟨k, hflagsN v k q dup retain, 0⟩ = 0 := by
        refine hcheck_iff.2 ⟨hk.1, hk.2.1, ?_, rfl⟩
        rw [hN]
        unfold flagged
        by_cases h3 : k = 3
        · have h4 := hk.2.2 h3
          simp only [h3, if_true]
          rw [pubFl_iff]
          rcases hq with rfl | rfl | rfl <;> cases dup <;> cases retain <;> simp at h4 ⊢
        · simp [h3]
      simp only [hE, hc, decide_true, cond_true, cond_false, Bool.not_true]
      by_cases h3 : k = 3
      · have h4 := hk.2.2 h3
        rw [hN]
        simp only [h3, decide_true, Bool.not_true, cond_false, if_true]
        rcases hq with rfl | rfl | rfl <;> cases dup <;> cases retain <;> first | rfl | (simp at h4)
      · have h5 : hcheck v ⟨k, f, 0⟩ = 0 ↔ f = hflagsN v k q dup retain := by
          rw [hN, if_neg h3, hcheck_iff]
          unfold flagged
          simp only [h3, if_false, decide_eq_true_eq]
          exact ⟨fun h => h.2.2.1, fun h => ⟨hk.1, hk.2.1, h, rfl⟩⟩
        simp only [h3, decide_false, Bool.not_false, cond_true, h5, beq_self_eq_true]
    · have hN : hflagsN v k q dup retain = 0 := by unfold hflagsN; rw [if_neg hE]
      simp only [hE, decide_false, cond_false, hN, decide_true]
      by_cases hc : hcheck v ⟨k, f, 0⟩ = 0
      · obtain ⟨c1, c2, _, _⟩ := hcheck_iff.1 hc
        dsimp only at c2
        unfold hflagsE at hE ⊢
        rw [if_pos c1, if_pos c2] at hE ⊢
        by_cases h3 : k = 3
        · rw [if_pos h3] at hE ⊢
          by_cases h4 : q < 0 ∨ 2 < q ∨ (q = 0 ∧ dup = true)
          · rw [if_pos h4]
            have h5 : q = 0 ∧ dup = true := by
              rcases h4 with h4 | h4 | h4
              · omega
              · omega
              · exact h4
            simp only [h3, h5.1, h5.2, decide_true, cond_true]
            cases decide (hcheck v ⟨3, f, 0⟩ = 0) <;> rfl
          · rw [if_neg h4] at hE
            exact absurd rfl hE
        · rw [if_neg h3] at hE
          exact absurd rfl hE
      · simp only [hc, decide_false, cond_false]
  · cases hs

/-! HeadBoth -/

def headBoth_shs : List (Bool × List Sh) := [(true, [.int .i64, .int .i64, .int .i64])]

def sem_lboth : Sem1 El := fun args h => match args, h with
  | [.agg [.int .i64 _, .int .i64 _, .int .i64 _]], [] => .ret (.bool true) []
  | _, _ => .bad

theorem headBoth_leads : ∀ xs : List (AV El), argsFit headBoth_shs xs → ∃ h', (sem_lboth xs []).leads (.bool true) h' := by
  intro xs h
  match xs, h with
  | [a], ⟨h0, _⟩ =>
    obtain ⟨cs, rfl, h1⟩ := h0
    match cs, h1 with
    | [a, b, c], ⟨h1, h2, h3, _⟩ =>
      obtain ⟨_, rfl, _⟩ := fits_int h1
      obtain ⟨_, rfl, _⟩ := fits_int h2
      obtain ⟨_, rfl, _⟩ := fits_int h3
      exact ⟨[], rfl, rfl⟩

abbrev l_hboth : List (Nat × FS El) := [(31, fsOf 0 sem_true), (34, fsOf 0 sem_hbytes), (35, fsOf 0 sem_hread)]

theorem T_hboth (R : Type) (k0 f l : Int) (kk : AV El → List (HE El) → Option R) : ev l_hboth Try.f10 (fun _ => none) [] L0 [.agg [.int .i64 k0, .int .i64 f, .int .i64 l]] [] R kk =
  bif decide (hcheck 4 (HeadV.mk k0 f l) = 0) then
    bif decide (hcheck 5 (HeadV.mk k0 f l) = 0) then
      bif decide (hbytes 4 (HeadV.mk k0 f l) = hbytes 5 (HeadV.mk k0 f l)) then
        bif decide ((hread 5 (hbytes 4 (HeadV.mk k0 f l))).e = 0) then
          bif
              decide ((hread 5 (hbytes 4 (HeadV.mk k0 f l))).h.kind = k0) &&
                (decide ((hread 5 (hbytes 4 (HeadV.mk k0 f l))).h.flags = f) &&
                  (decide ((hread 5 (hbytes 4 (HeadV.mk k0 f l))).h.length = l) && true)) then
            kk
              (AV.bool
                (decide ((hread 5 (hbytes 4 (HeadV.mk k0 f l))).size = (↑(hbytes 4 (HeadV.mk k0 f l)).length : Int))))
              []
          else kk (AV.bool false) []
        else kk (AV.bool false) []
      else kk (AV.bool false) []
    else kk (AV.bool false) []
  else
    bif decide (hcheck 5 (HeadV.mk k0 f l) = 0) then
      bif decide (k0 = 15) then
        bif decide (hcheck 4 (HeadV.mk k0 f l) = 8) then
          bif decide ((hread 4 (hbytes 5 (HeadV.mk k0 f l))).e = 8) then
            kk (AV.bool (decide (hbytes 4 (HeadV.mk k0 f l) = []))) []
          else kk (AV.bool false) []
        else kk (AV.bool false) []
      else kk (AV.bool false) []
    else
      bif decide (hbytes 4 (HeadV.mk k0 f l) = []) then
        bif decide (hbytes 5 (HeadV.mk k0 f l) = []) then
          bif decide (hcheck 4 (HeadV.mk k0 f l) = hcheck 5 (HeadV.mk k0 f l)) then kk (AV.bool true) []
          else kk (AV.bool (decide (k0 = 15))) []
        else kk (AV.bool false) []
      else kk (AV.bool false) [] := by kernel_rfl

theorem c_lboth : CT 10 (fsOf 0 sem_lboth) := by
  refine Ct.of base_ok Try.func10 rfl rfl (l := l_hboth) ⟨c_lives07, c_hbytes, c_hread, trivial⟩ fun H ρ args vals h v h' hv hs => ?_
  unfold sem_lboth at hs
  split at hs
  · rename_i k f l
    obtain ⟨rfl, rfl⟩ := hs
    refine ⟨_, hv, .plain _ fun R kk => (T_hboth R k f l kk).trans ?_⟩
    by_cases h4 : hcheck 4 ⟨k, f, l⟩ = 0
    · obtain ⟨h5, hb⟩ := both_ok h4
      have hr := hread_back h5 []
      rw [List.append_nil, ← hb] at hr
      simp only [h4, h5, decide_true, cond_true, hr]
      simp [hb]
    · by_cases h5 : hcheck 5 ⟨k, f, l⟩ = 0
      · obtain ⟨a1, a2, a3⟩ := both_auth h5 h4
        dsimp only at a1
        have hb := hbytes_bad h4
        subst a1
        simp only [h5, a2, a3, hb, decide_true, cond_true]
        rfl
      · have hb := hbytes_bad h4
        have hb5 := hbytes_bad h5
        simp only [h4, h5, hb, hb5, decide_true, decide_false, cond_true, cond_false]
        rcases both_bad (h := ⟨k, f, l⟩) with e | e
        · simp [e]
        · dsimp only at e
          simp [e]
  · cases hs

/-! HeadBack -/

def hs_hback : Nat → Option Hint := (fun | 12 => some ⟨[1, 0, 0, 1, 0, 0, 0, 0, 0, 1, 0, 0, 0, 0, 1], false⟩ | 13 => some ⟨[1, 0, 0, 1, 0, 0, 0, 0, 0, 1, 0, 0, 0, 0, 1, 0, 0, 0, 0, 0, 0, 0, 0, 0, 0, 0, 0, 0, 0, 0, 0, 0, 0, 0, 0, 0, 0, 0, 0, 0, 0, 0, 0, 0, 0, 0, 0, 0, 0, 0, 0, 0, 0, 0, 0, 0, 0, 0, 0, 0, 0, 0, 0, 0, 0, 0, 0, 0, 0, 0, 0, 0, 0, 0, 0, 0, 0, 0, 0, 1], false⟩ | 14 => some ⟨[1, 0, 0, 1, 0, 0, 0, 0, 0, 1, 0, 0, 0, 0, 1], false⟩ | 15 => some ⟨[1, 0, 0, 1, 0, 0, 0, 0, 0, 1, 0, 0, 0, 0, 1, 0, 0, 1], false⟩ | 16 => some ⟨[1, 0, 0, 1, 0, 0, 0, 0, 0, 1, 0, 0, 0, 0, 1, 0, 0, 0, 0, 0, 0, 0, 0, 0, 0, 0, 0, 0, 0, 0, 0, 0, 0, 0, 0, 0, 0, 0, 0, 0, 0, 0, 0, 0, 0, 0, 0, 0, 0, 0, 0, 0, 0, 0, 0, 0, 0, 0, 0, 0, 0, 0, 0, 0, 0, 0, 0, 0, 0, 0, 0, 0, 0, 0, 0, 0, 0, 0, 0, 0, 0, 0, 0, 0, 0, 0, 0, 0, 0, 0, 0, 0, 1], false⟩ | 17 => some ⟨[0, 0, 0, 0, 0, 0, 0, 0, 1], false⟩ | _ => none)

def lp_hback : LPd El := ⟨130, [0, 3, 9, 14], fun vs h => match vs, h with
  | [.int .i64 v, .str s, .str a, .int .i64 i], [] => .pre (invHb v a i) (.exit 0 (mkS 130 0 [0, 3, 9, 14, 79] [.int .i64 v, .str s, .str a, .int .i64 a.length, .bool false]) [])
  | _, _ => .bad⟩

abbrev l_hback : List (Nat × FS El) := [(31, fsOf 0 sem_true), (34, fsOf 0 sem_hbytes), (35, fsOf 0 sem_hread), (33, fsOf 0 sem_check)]

theorem T_hback (R : Type) (v k0 f l : Int) (t s : List UInt8) (kk : AV El → List (HE El) → Option R) : ev l_hback Try.f9 hs_hback [(13, lp_hback)] L0 [.int .i64 v, .agg [.int .i64 k0, .int .i64 f, .int .i64 l], .str t, .str s] [] R kk =
  bif decide (60 < (↑t.length : Int)) then kk (AV.bool true) []
  else
    bif decide (60 < (↑s.length : Int)) then kk (AV.bool true) []
    else
      bif !decide (hcheck v (HeadV.mk k0 f l) = hcheck v (HeadV.mk k0 f l)) then kk (AV.bool false) []
      else
        bif decide (hcheck v (HeadV.mk k0 f l) = 0) then
          bif decide ((hbytes v (HeadV.mk k0 f l)).length + t.length ≤ maxCat) then
            bif !decide ((hread v (hbytes v (HeadV.mk k0 f l) ++ t)).e = 0) then kk (AV.bool false) []
            else
              bif
                  !(decide ((hread v (hbytes v (HeadV.mk k0 f l) ++ t)).h.kind = k0) &&
                      (decide ((hread v (hbytes v (HeadV.mk k0 f l) ++ t)).h.flags = f) &&
                        (decide ((hread v (hbytes v (HeadV.mk k0 f l) ++ t)).h.length = l) && true))) then
                kk (AV.bool false) []
              else
                bif
                    !decide
                        ((hread v (hbytes v (HeadV.mk k0 f l) ++ t)).size =
                          (↑(hbytes v (HeadV.mk k0 f l)).length : Int)) then
                  kk (AV.bool false) []
                else
                  bif decide ((hread v (hbytes v (HeadV.mk k0 f l) ++ t)).size < 2) then kk (AV.bool false) []
                  else
                    bif decide (5 < (hread v (hbytes v (HeadV.mk k0 f l) ++ t)).size) then kk (AV.bool false) []
                    else
                      bif invHb v (hbytes v (HeadV.mk k0 f l)) (Int.ofNat 0) then
                        bif !decide ((hread v s).e = 0) then
                          bif decide ((hread v s).size = 0) then
                            kk
                              (AV.bool
                                (decide ((hread v s).h.kind = Int.ofNat 0) &&
                                  (decide ((hread v s).h.flags = Int.ofNat 0) &&
                                    (decide ((hread v s).h.length = Int.ofNat 0) && true))))
                              []
                          else kk (AV.bool false) []
                        else
                          bif decide (hcheck v (hread v s).h = 0) then
                            bif decide ((hread v s).size ≤ (↑s.length : Int)) then
                              bif
                                  decide (0 ≤ 0) && decide (0 ≤ (hread v s).size) &&
                                      decide ((hread v s).size ≤ (↑s.length : Int)) &&
                                    decide ((hread v s).size = (hread v s).size) then
                                kk
                                  (AV.bool
                                    (decide
                                      (hbytes v (hread v s).h =
                                        List.drop (Int.toNat 0) (List.take (hread v s).size.toNat s))))
                                  []
                              else none
                            else kk (AV.bool false) []
                          else kk (AV.bool false) []
                      else none
          else none
        else
          bif !decide ((hread v s).e = 0) then
            bif decide ((hread v s).size = 0) then
              kk
                (AV.bool
                  (decide ((hread v s).h.kind = Int.ofNat 0) &&
                    (decide ((hread v s).h.flags = Int.ofNat 0) &&
                      (decide ((hread v s).h.length = Int.ofNat 0) && true))))
                []
            else kk (AV.bool false) []
          else
            bif decide (hcheck v (hread v s).h = 0) then
              bif decide ((hread v s).size ≤ (↑s.length : Int)) then
                bif
                    decide (0 ≤ 0) && decide (0 ≤ (hread v s).size) && decide ((hread v s).size ≤ (↑s.length : Int)) &&
                      decide ((hread v s).size = (hread v s).size) then
                  kk
                    (AV.bool
                      (decide (hbytes v (hread v s).h = List.drop (Int.toNat 0) (List.take (hread v s).size.toNat s))))
                    []
                else none
              else kk (AV.bool false) []
            else kk (AV.bool false) [] := by kernel_rfl

theorem B_hback (R : Type) (v i : Int) (s a : List UInt8) (K kR : List (AV El) → List (HE El) → Option R) (kE : Nat → List (AV El) → List (HE El) → Option R) : lb l_hback Try.f9 hs_hback [(13, lp_hback)] 13 0 (mkS 130 0 [0, 3, 9, 14] [.int .i64 v, .str s, .str a, .int .i64 i]) [] R K kR kE =
  bif decide (i < (↑a.length : Int)) then
    bif decide (0 ≤ 0) && decide (0 ≤ i) && decide (i ≤ (↑a.length : Int)) && decide (i = i) then
      bif !decide ((hread v (List.drop (Int.toNat 0) (List.take i.toNat a))).e = 3) then
        kR (mkS 130 0 [8] [AV.bool false]) []
      else
        K
          (mkS 130 0 [0, 3, 9, 14]
            [AV.int IntKind.i64 v, AV.str s, AV.str a, AV.int IntKind.i64 (IntKind.i64.wrap (i + 1))])
          []
    else none
  else
    kE 0
      (mkS 130 0 [0, 3, 9, 14, 79]
        [AV.int IntKind.i64 v, AV.str s, AV.str a, AV.int IntKind.i64 i, AV.bool (decide (i < (↑a.length : Int)))])
      [] := by kernel_rfl

def headBack_shs : List (Bool × List Sh) := [(false, [.int .i64]), (true, [.int .i64, .int .i64, .int .i64]), (false, [.str]), (false, [.str])]

def sem_lback : Sem1 El := fun args h => match args, h with
  | [.int .i64 _, .agg [.int .i64 _, .int .i64 _, .int .i64 _], .str _, .str _], [] => .ret (.bool true) []
  | _, _ => .bad

theorem headBack_leads : ∀ xs : List (AV El), argsFit headBack_shs xs → ∃ h', (sem_lback xs []).leads (.bool true) h' := by
  intro xs h
  match xs, h with
  | [x, y, z, w], ⟨g1, g2, g3, g4, _⟩ =>
    obtain ⟨_, rfl, _⟩ := fits_int g1.1
    obtain ⟨cs, rfl, h1⟩ := g2
    obtain ⟨_, rfl, _⟩ := fits_str g3.1
    obtain ⟨_, rfl, _⟩ := fits_str g4.1
    match cs, h1 with
    | [a, b, c], ⟨h1, h2, h3, _⟩ =>
      obtain ⟨_, rfl, _⟩ := fits_int h1
      obtain ⟨_, rfl, _⟩ := fits_int h2
      obtain ⟨_, rfl, _⟩ := fits_int h3
      exact ⟨[], rfl, rfl⟩

theorem k_hback : LoopOk (C0.withFn (fnL l_hback)) 0 hs_hback (lpT [(13, lp_hback)]) 0 (loopBody (Try.f9.body.getD .skip) 13) lp_hback := by
  intro R kR kE vs h r hr
  unfold lp_hback at hr
  dsimp only at hr
  split at hr
  · rename_i v s a i
    obtain ⟨hc, hr⟩ := Ex.pre_out hr
    rw [← hr]
    refine rounds_inv (S := Int) (fun x => mkS 130 0 [0, 3, 9, 14] [.int .i64 v, .str s, .str a, .int .i64 x]) (fun _ => [])
      (fun x => kE 0 (mkS 130 0 [0, 3, 9, 14, 79] [.int .i64 v, .str s, .str a, .int .i64 a.length, .bool false]) []) (fun x => (a.length - x).toNat)
      (fun x => invHb v a x = true) ?_ i hc
    clear hr hc
    intro i hi K hK
    refine (B_hback R v i s a K kR kE).trans ?_
    obtain ⟨h1, h2, h3, h4⟩ := invHb_iff.1 hi
    by_cases hn : i < (a.length : Int)
    · have e := h4 i.toNat (by omega)
      rw [wrap_i64 (x := i + 1) (by omega) (by omega)]
      simp only [hn, h1, h2, e, Int.toNat_zero, List.drop_zero, decide_true, cond_true, cond_false, Bool.and_self, Bool.not_true, Nat.le_refl]
      exact hK (i + 1) (invHb_iff.2 ⟨by omega, by omega, h3, h4⟩) (by omega)
    · have he : i = a.length := by omega
      subst he
      simp only [Int.lt_irrefl, decide_false, cond_false]
  · cases hr

theorem c_lback : CT 9 (fsOf 0 sem_lback) := by
  refine Ct.of base_ok Try.func9 rfl rfl (l := l_hback) ⟨c_lives07, c_hbytes, c_hread, c_check, trivial⟩ fun H ρ args vals h v h' hv hs => ?_
  unfold sem_lback at hs
  split at hs
  · rename_i v k f l t s
    obtain ⟨rfl, rfl⟩ := hs
    refine ⟨_, hv, .loops hs_hback [(13, lp_hback)] L0 (by kernel_rfl) (by simp only [List.mem_singleton]; rintro p rfl; exact k_hback) fun R kk => (T_hback R v k f l t s kk).trans ?_⟩
    by_cases h1 : 60 < (t.length : Int)
    · simp only [h1, decide_true, cond_true]
    by_cases h2 : 60 < (s.length : Int)
    · simp only [h1, h2, decide_true, decide_false, cond_true, cond_false]
    have z : Int.ofNat 0 = 0 := rfl
    have tail : (bif !decide ((hread v s).e = 0) then
          bif decide ((hread v s).size = 0) then
            kk (AV.bool (decide ((hread v s).h.kind = 0) && (decide ((hread v s).h.flags = 0) && (decide ((hread v s).h.length = 0) && true)))) []
          else kk (AV.bool false) []
        else
          bif decide (hcheck v (hread v s).h = 0) then
            bif decide ((hread v s).size ≤ (s.length : Int)) then
              bif decide (0 ≤ 0) && decide (0 ≤ (hread v s).size) && decide ((hread v s).size ≤ (s.length : Int)) && true then
                kk (AV.bool (decide (hbytes v (hread v s).h = List.drop (Int.toNat 0) (List.take (hread v s).size.toNat s)))) []
              else none
            else kk (AV.bool false) []
          else kk (AV.bool false) []) = kk (AV.bool true) [] := by
      by_cases he : (hread v s).e = 0
      · obtain ⟨w1, w2, w3, w4⟩ := hread_written he
        simp only [he, w1, w2, w3, w4, decide_true, cond_true, cond_false, Bool.not_true, Int.toNat_zero, List.drop_zero]
        simp
      · obtain ⟨w1, w2⟩ := hread_err he
        simp only [he, w1, w2, decide_true, decide_false, cond_true, Bool.not_false]
        rfl
    by_cases hc : hcheck v ⟨k, f, l⟩ = 0
    · have hr := hread_back hc t
      obtain ⟨l1, l2⟩ := hbytes_len hc
      have hm : (hbytes v ⟨k, f, l⟩).length + t.length ≤ maxCat := by unfold maxCat; omega
      have hi : invHb v (hbytes v ⟨k, f, l⟩) 0 = true := invHb_iff.2 ⟨by simp, by simp, l2, fun j hj => hread_short hc hj⟩
      have c1 : ¬ ((hbytes v ⟨k, f, l⟩).length : Int) < 2 := by omega
      have c2 : ¬ 5 < ((hbytes v ⟨k, f, l⟩).length : Int) := by omega
      simp only [h1, h2, hc, hm, hr, hi, c1, c2, z, decide_true, decide_false, cond_true, cond_false, Bool.not_true, Bool.and_self]
      exact tail
    · simp only [h1, h2, hc, z, decide_true, decide_false, cond_false, Bool.not_true]
      exact tail
  · cases hs

end Go.Ev.A

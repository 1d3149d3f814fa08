/- VarintPushes: the law's function, walked. Own work. -/
import Derived.Test.YtpplfcdhiiiglaaVl
import Derived.Test.YtpplfcdhiiiglaaVq
namespace Go.Ev.A
open Go.Proofs Go.Ev.Pl

set_option maxRecDepth 100000

def hs_pushes : Nat → Option Hint := (fun | 6 => some ⟨[1, 1, 0, 0, 0, 1, 1, 1], false⟩ | 7 => some ⟨[1, 1, 0, 0, 0, 1, 1, 1, 0, 0, 0, 0, 0, 0, 0, 0, 0, 0, 0, 0, 0, 0, 0, 0, 0, 0, 0, 0, 0, 0, 0, 0, 1], false⟩ | 8 => some ⟨[1, 1, 0, 0, 0, 1, 1, 1], false⟩ | 9 => some ⟨[1, 1, 0, 0, 0, 1, 1, 1, 1], false⟩ | 10 => some ⟨[1, 1, 0, 0, 0, 1, 1, 1, 1, 0, 0, 0, 0, 0, 0, 0, 0, 0, 0, 0, 0, 0, 0, 0, 0, 0, 0, 0, 0, 0, 0, 0, 0, 0, 0, 0, 0, 0, 1], false⟩ | 11 => some ⟨[1, 1, 0, 0, 0, 1, 1, 1, 1], false⟩ | 12 => some ⟨[1, 1, 0, 0, 0, 1, 1, 1, 1, 0, 0, 0, 0, 0, 0, 0, 0, 0, 0, 0, 0, 0, 0, 0, 0, 0, 0, 0, 0, 0, 0, 0, 0, 0, 0, 0, 0, 0, 0, 0, 0, 0, 0, 0, 0, 0, 1], false⟩ | 13 => some ⟨[1, 1, 0, 0, 0, 1, 1, 1, 1], false⟩ | 14 => some ⟨[1, 1, 0, 0, 0, 1, 1, 1, 1], false⟩ | 15 => some ⟨[1, 1, 0, 0, 0, 1, 1, 1, 0, 1, 1], false⟩ | 16 => some ⟨[1, 1, 0, 0, 0, 1, 1, 1, 0, 1, 1, 1, 1], false⟩ | 17 => some ⟨[1, 1, 0, 0, 0, 1, 1, 1, 0, 1, 1, 1, 1, 1, 1], false⟩ | 18 => some ⟨[1, 1, 0, 0, 0, 1, 1, 1, 0, 1, 1, 1, 1, 1, 1, 1, 1], false⟩ | 19 => some ⟨[1, 1, 0, 0, 0, 1, 1, 1, 0, 1, 1, 1, 1, 1, 1, 1, 1, 0, 0, 0, 0, 0, 0, 0, 0, 0, 0, 0, 0, 0, 0, 0, 0, 0, 0, 0, 0, 0, 0, 0, 0, 0, 0, 0, 0, 0, 0, 0, 0, 0, 0, 0, 0, 0, 0, 0, 0, 0, 0, 0, 0, 0, 0, 0, 0, 0, 0, 0, 0, 0, 0, 0, 0, 0, 0, 0, 0, 0, 1], false⟩ | 20 => some ⟨[1, 1, 0, 0, 0, 1, 1, 1, 0, 1, 1, 1, 1, 1, 1, 1, 1], false⟩ | 21 => some ⟨[1, 1, 0, 0, 0, 1, 1, 1, 0, 0, 0, 0, 0, 0, 0, 0, 0, 0, 0, 0, 0, 0, 0, 0, 0, 0, 0, 0, 0, 0, 0, 0, 0, 0, 0, 0, 0, 0, 0, 0, 0, 0, 0, 0, 0, 0, 0, 0, 0, 0, 0, 0, 0, 0, 0, 0, 0, 0, 0, 0, 0, 0, 0, 0, 0, 0, 0, 0, 0, 0, 0, 0, 0, 0, 0, 0, 0, 0, 0, 0, 0, 0, 0, 0, 0, 0, 0, 0, 0, 0, 0, 0, 0, 0, 0, 0, 0, 0, 0, 0, 0, 0, 0, 1], false⟩ | 22 => some ⟨[0, 0, 0, 0, 1], false⟩ | _ => none)

def lp_inner : LPd El := ⟨104, [0, 1, 5, 6, 7, 8], fun vs h => match vs, h with
  | [.str s, .list .shr 3 l, .ptr 0 0, .ptr 1 0, .int .i64 i, .int .i64 k], [.blk [.int .i64 n, .int .i64 size, .bool done, .bool bad], .blk [.str os, .int .i64 oe]] =>
    .pre (invIn l k) (.exit 2 (mkS 104 0 [0, 1, 5, 6, 7, 8, 38] [.str s, .list .shr 3 l, .ptr 0 0, .ptr 1 0, .int .i64 i, .int .i64 l.length, .bool false]) [rdr (rst (has l k i) ⟨n, size, done, bad⟩), rrdr (rrst (has l k i) ⟨os, oe⟩)])
  | _, _ => .bad⟩

def lp_outer : LPd El := ⟨104, [0, 1, 5, 6, 7], fun vs h => match vs, h with
  | [.str s, .list .shr 3 l, .ptr 0 0, .ptr 1 0, .int .i64 i], [.blk [.int .i64 n, .int .i64 size, .bool done, .bool bad], .blk [.str os, .int .i64 oe]] =>
    .pre (invPu s l i ⟨n, size, done, bad⟩ ⟨os, oe⟩) (.exit 0 (mkS 104 0 [0, 1, 5, 6, 7, 32] [.str s, .list .shr 3 l, .ptr 0 0, .ptr 1 0, .int .i64 s.length, .bool false]) [rdr (finL s l i ⟨⟨n, size, done, bad⟩, ⟨os, oe⟩⟩).r, rrdr (finL s l i ⟨⟨n, size, done, bad⟩, ⟨os, oe⟩⟩).o])
  | _, _ => .bad⟩

abbrev lps : List (Nat × LPd El) := [(10, lp_inner), (7, lp_outer)]

abbrev l_pushes : List (Nat × FS El) := [(13, fs_lives02), (14, fs_new), (18, fs_push), (20, fs_value), (22, fs_rsz), (16, fs_reset), (15, fs_rnew), (19, fs_rpush), (21, fs_rvalue), (23, fs_rrsz), (17, fs_rreset)]

theorem T_pushes (R : Type) (s : List UInt8) (l : List Int) (k : AV El → List (HE El) → Option R) : ev l_pushes Try.f3 hs_pushes lps L0 [.str s, .list .shr 3 l] [] R k =
  bif decide (40 < (↑s.length : Int)) then k (AV.bool true) []
  else
    bif decide (40 < (↑l.length : Int)) then k (AV.bool true) []
    else
      bif invPu s l (Int.ofNat 0) (Rdr.mk (Int.ofNat 0) (Int.ofNat 0) false false) (RRdr.mk [] (Int.ofNat 0)) then
        k (AV.bool true) []
      else none := by kernel_rfl

theorem B_inner (R : Type) (s os : List UInt8) (l : List Int) (i k n size oe : Int) (done bad : Bool) (K kR : List (AV El) → List (HE El) → Option R) (kE : Nat → List (AV El) → List (HE El) → Option R) : lb l_pushes Try.f3 hs_pushes lps 10 0 (mkS 104 0 [0, 1, 5, 6, 7, 8] [.str s, .list .shr 3 l, .ptr 0 0, .ptr 1 0, .int .i64 i, .int .i64 k]) [.blk [.int .i64 n, .int .i64 size, .bool done, .bool bad], .blk [.str os, .int .i64 oe]] R K kR kE =
  bif decide (k < (↑l.length : Int)) then
    bif decide (0 ≤ k) && decide (k < (↑l.length : Int)) then
      bif decide (l.getD k.toNat ((C0.withFn (fnL l_pushes)).lay.dflt 3) = i) then
        K
          (mkS 104 0 [0, 1, 5, 6, 7, 8]
            [AV.str s, AV.list Fl.shr 3 l, AV.ptr 0 0, AV.ptr 1 0, AV.int IntKind.i64 i,
              AV.int IntKind.i64 (IntKind.i64.wrap (k + 1))])
          [HE.blk [AV.int IntKind.i64 (Int.ofNat 0), AV.int IntKind.i64 (Int.ofNat 0), AV.bool false, AV.bool false],
            HE.blk [AV.str [], AV.int IntKind.i64 (Int.ofNat 0)]]
      else
        K
          (mkS 104 0 [0, 1, 5, 6, 7, 8]
            [AV.str s, AV.list Fl.shr 3 l, AV.ptr 0 0, AV.ptr 1 0, AV.int IntKind.i64 i,
              AV.int IntKind.i64 (IntKind.i64.wrap (k + 1))])
          [HE.blk [AV.int IntKind.i64 n, AV.int IntKind.i64 size, AV.bool done, AV.bool bad],
            HE.blk [AV.str os, AV.int IntKind.i64 oe]]
    else none
  else
    kE 2
      (mkS 104 0 [0, 1, 5, 6, 7, 8, 38]
        [AV.str s, AV.list Fl.shr 3 l, AV.ptr 0 0, AV.ptr 1 0, AV.int IntKind.i64 i, AV.int IntKind.i64 k,
          AV.bool (decide (k < (↑l.length : Int)))])
      [HE.blk [AV.int IntKind.i64 n, AV.int IntKind.i64 size, AV.bool done, AV.bool bad],
        HE.blk [AV.str os, AV.int IntKind.i64 oe]] := by kernel_rfl

theorem B_outer (R : Type) (s os : List UInt8) (l : List Int) (i n size oe : Int) (done bad : Bool) (K kR : List (AV El) → List (HE El) → Option R) (kE : Nat → List (AV El) → List (HE El) → Option R) : lb l_pushes Try.f3 hs_pushes lps 7 0 (mkS 104 0 [0, 1, 5, 6, 7] [.str s, .list .shr 3 l, .ptr 0 0, .ptr 1 0, .int .i64 i]) [.blk [.int .i64 n, .int .i64 size, .bool done, .bool bad], .blk [.str os, .int .i64 oe]] R K kR kE =
  bif decide (i < (↑s.length : Int)) then
    bif invIn l (Int.ofNat 0) then
      bif decide (0 ≤ i) && decide (i < (↑s.length : Int)) then
        bif (rst (has l (Int.ofNat 0) i) (Rdr.mk n size done bad)).ok then
          bif decide (0 ≤ i) && decide (i < (↑s.length : Int)) then
            bif decide ((rrst (has l (Int.ofNat 0) i) (RRdr.mk os oe)).s.length ≤ 4096) then
              bif
                  !decide
                      ((rread
                            (rpush (rrst (has l (Int.ofNat 0) i) (RRdr.mk os oe))
                                  (↑(s.getD i.toNat 0).toNat : Int)).r.s).e =
                        0) then
                bif
                    !(push (rst (has l (Int.ofNat 0) i) (Rdr.mk n size done bad)) (↑(s.getD i.toNat 0).toNat : Int)).is ==
                        (rpush (rrst (has l (Int.ofNat 0) i) (RRdr.mk os oe)) (↑(s.getD i.toNat 0).toNat : Int)).is then
                  kR (mkS 104 0 [4] [AV.bool false]) []
                else
                  bif
                      !decide
                          ((push (rst (has l (Int.ofNat 0) i) (Rdr.mk n size done bad))
                                (↑(s.getD i.toNat 0).toNat : Int)).e =
                            (rpush (rrst (has l (Int.ofNat 0) i) (RRdr.mk os oe))
                                (↑(s.getD i.toNat 0).toNat : Int)).e) then
                    kR (mkS 104 0 [4] [AV.bool false]) []
                  else
                    bif
                        !decide
                            ((if
                                  (push (rst (has l (Int.ofNat 0) i) (Rdr.mk n size done bad))
                                          (↑(s.getD i.toNat 0).toNat : Int)).r.done =
                                    true then
                                (push (rst (has l (Int.ofNat 0) i) (Rdr.mk n size done bad))
                                      (↑(s.getD i.toNat 0).toNat : Int)).r.n
                              else 0) =
                              Int.ofNat 0) then
                      kR (mkS 104 0 [4] [AV.bool false]) []
                    else
                      bif
                          !(push (rst (has l (Int.ofNat 0) i) (Rdr.mk n size done bad))
                                    (↑(s.getD i.toNat 0).toNat : Int)).r.done ==
                              decide
                                ((rread
                                      (rpush (rrst (has l (Int.ofNat 0) i) (RRdr.mk os oe))
                                            (↑(s.getD i.toNat 0).toNat : Int)).r.s).e =
                                  0) then
                        kR (mkS 104 0 [4] [AV.bool false]) []
                      else
                        bif
                            !decide
                                ((push (rst (has l (Int.ofNat 0) i) (Rdr.mk n size done bad))
                                        (↑(s.getD i.toNat 0).toNat : Int)).r.size =
                                  (↑(rpush (rrst (has l (Int.ofNat 0) i) (RRdr.mk os oe))
                                              (↑(s.getD i.toNat 0).toNat : Int)).r.s.length :
                                    Int)) then
                          kR (mkS 104 0 [4] [AV.bool false]) []
                        else
                          K
                            (mkS 104 0 [0, 1, 5, 6, 7]
                              [AV.str s, AV.list Fl.shr 3 l, AV.ptr 0 0, AV.ptr 1 0,
                                AV.int IntKind.i64 (IntKind.i64.wrap (i + 1))])
                            [HE.blk
                                [AV.int IntKind.i64
                                    (push (rst (has l (Int.ofNat 0) i) (Rdr.mk n size done bad))
                                          (↑(s.getD i.toNat 0).toNat : Int)).r.n,
                                  AV.int IntKind.i64
                                    (push (rst (has l (Int.ofNat 0) i) (Rdr.mk n size done bad))
                                          (↑(s.getD i.toNat 0).toNat : Int)).r.size,
                                  AV.bool
                                    (push (rst (has l (Int.ofNat 0) i) (Rdr.mk n size done bad))
                                          (↑(s.getD i.toNat 0).toNat : Int)).r.done,
                                  AV.bool
                                    (push (rst (has l (Int.ofNat 0) i) (Rdr.mk n size done bad))
                                          (↑(s.getD i.toNat 0).toNat : Int)).r.bad],
                              HE.blk
                                [AV.str
                                    (rpush (rrst (has l (Int.ofNat 0) i) (RRdr.mk os oe))
                                          (↑(s.getD i.toNat 0).toNat : Int)).r.s,
                                  AV.int IntKind.i64
                                    (rpush (rrst (has l (Int.ofNat 0) i) (RRdr.mk os oe))
                                          (↑(s.getD i.toNat 0).toNat : Int)).r.e]]
              else
                bif
                    !(push (rst (has l (Int.ofNat 0) i) (Rdr.mk n size done bad)) (↑(s.getD i.toNat 0).toNat : Int)).is ==
                        (rpush (rrst (has l (Int.ofNat 0) i) (RRdr.mk os oe)) (↑(s.getD i.toNat 0).toNat : Int)).is then
                  kR (mkS 104 0 [4] [AV.bool false]) []
                else
                  bif
                      !decide
                          ((push (rst (has l (Int.ofNat 0) i) (Rdr.mk n size done bad))
                                (↑(s.getD i.toNat 0).toNat : Int)).e =
                            (rpush (rrst (has l (Int.ofNat 0) i) (RRdr.mk os oe))
                                (↑(s.getD i.toNat 0).toNat : Int)).e) then
                    kR (mkS 104 0 [4] [AV.bool false]) []
                  else
                    bif
                        !decide
                            ((if
                                  (push (rst (has l (Int.ofNat 0) i) (Rdr.mk n size done bad))
                                          (↑(s.getD i.toNat 0).toNat : Int)).r.done =
                                    true then
                                (push (rst (has l (Int.ofNat 0) i) (Rdr.mk n size done bad))
                                      (↑(s.getD i.toNat 0).toNat : Int)).r.n
                              else 0) =
                              (rread
                                  (rpush (rrst (has l (Int.ofNat 0) i) (RRdr.mk os oe))
                                        (↑(s.getD i.toNat 0).toNat : Int)).r.s).n) then
                      kR (mkS 104 0 [4] [AV.bool false]) []
                    else
                      bif
                          !(push (rst (has l (Int.ofNat 0) i) (Rdr.mk n size done bad))
                                    (↑(s.getD i.toNat 0).toNat : Int)).r.done ==
                              decide
                                ((rread
                                      (rpush (rrst (has l (Int.ofNat 0) i) (RRdr.mk os oe))
                                            (↑(s.getD i.toNat 0).toNat : Int)).r.s).e =
                                  0) then
                        kR (mkS 104 0 [4] [AV.bool false]) []
                      else
                        bif
                            !decide
                                ((push (rst (has l (Int.ofNat 0) i) (Rdr.mk n size done bad))
                                        (↑(s.getD i.toNat 0).toNat : Int)).r.size =
                                  (↑(rpush (rrst (has l (Int.ofNat 0) i) (RRdr.mk os oe))
                                              (↑(s.getD i.toNat 0).toNat : Int)).r.s.length :
                                    Int)) then
                          kR (mkS 104 0 [4] [AV.bool false]) []
                        else
                          K
                            (mkS 104 0 [0, 1, 5, 6, 7]
                              [AV.str s, AV.list Fl.shr 3 l, AV.ptr 0 0, AV.ptr 1 0,
                                AV.int IntKind.i64 (IntKind.i64.wrap (i + 1))])
                            [HE.blk
                                [AV.int IntKind.i64
                                    (push (rst (has l (Int.ofNat 0) i) (Rdr.mk n size done bad))
                                          (↑(s.getD i.toNat 0).toNat : Int)).r.n,
                                  AV.int IntKind.i64
                                    (push (rst (has l (Int.ofNat 0) i) (Rdr.mk n size done bad))
                                          (↑(s.getD i.toNat 0).toNat : Int)).r.size,
                                  AV.bool
                                    (push (rst (has l (Int.ofNat 0) i) (Rdr.mk n size done bad))
                                          (↑(s.getD i.toNat 0).toNat : Int)).r.done,
                                  AV.bool
                                    (push (rst (has l (Int.ofNat 0) i) (Rdr.mk n size done bad))
                                          (↑(s.getD i.toNat 0).toNat : Int)).r.bad],
                              HE.blk
                                [AV.str
                                    (rpush (rrst (has l (Int.ofNat 0) i) (RRdr.mk os oe))
                                          (↑(s.getD i.toNat 0).toNat : Int)).r.s,
                                  AV.int IntKind.i64
                                    (rpush (rrst (has l (Int.ofNat 0) i) (RRdr.mk os oe))
                                          (↑(s.getD i.toNat 0).toNat : Int)).r.e]]
            else none
          else none
        else none
      else none
    else none
  else
    kE 0
      (mkS 104 0 [0, 1, 5, 6, 7, 32]
        [AV.str s, AV.list Fl.shr 3 l, AV.ptr 0 0, AV.ptr 1 0, AV.int IntKind.i64 i,
          AV.bool (decide (i < (↑s.length : Int)))])
      [HE.blk [AV.int IntKind.i64 n, AV.int IntKind.i64 size, AV.bool done, AV.bool bad],
        HE.blk [AV.str os, AV.int IntKind.i64 oe]] := by kernel_rfl

def varintPushes_shs : List (Bool × List Sh) := [(false, [.str]), (false, [.list 3])]

def sem_pushes : Sem1 El := fun args h => match args, h with
  | [.str _, .list .shr 3 _], [] => .ret (.bool true) []
  | _, _ => .bad

theorem varintPushes_leads : ∀ xs : List (AV El), argsFit varintPushes_shs xs → ∃ h', (sem_pushes xs []).leads (.bool true) h' := by
  intro xs h
  match xs, h with
  | [a, b], ⟨h1, h2, _⟩ =>
    obtain ⟨n, rfl, _⟩ := fits_str h1.1
    obtain ⟨m, rfl, _⟩ := fits_list h2.1
    exact ⟨[], rfl, rfl⟩

theorem has_step {l : List Int} {k i : Int} (h0 : 0 ≤ k) (h : k < l.length) : has l k i = (decide (l.getD k.toNat 0 = i) || has l (k + 1) i) := by
  unfold has
  have hk : k.toNat < l.length := by omega
  have e : (k + 1).toNat = k.toNat + 1 := by omega
  rw [List.drop_eq_getElem_cons hk, e, List.getD_eq_getElem?_getD, List.getElem?_eq_getElem hk]
  rfl

theorem has_end {l : List Int} {i : Int} : has l l.length i = false := by
  unfold has
  simp

theorem k_inner : LoopOk (C0.withFn (fnL l_pushes)) 0 hs_pushes (lpT lps) 0 (loopBody (Try.f3.body.getD .skip) 10) lp_inner := by
  intro R kR kE vs h r hr
  unfold lp_inner at hr
  dsimp only at hr
  split at hr
  · rename_i s l i k n size done bad os oe
    revert hr
    revert l
    intro (l : List Int) hr
    obtain ⟨hc, hr⟩ := Ex.pre_out hr
    rw [← hr]
    refine rounds_inv (S := Int × Rdr × RRdr) (fun x => mkS 104 0 [0, 1, 5, 6, 7, 8] [.str s, aInts .shr l, .ptr 0 0, .ptr 1 0, .int .i64 i, .int .i64 x.1]) (fun x => [.blk [.int .i64 x.2.1.n, .int .i64 x.2.1.size, .bool x.2.1.done, .bool x.2.1.bad], .blk [.str x.2.2.s, .int .i64 x.2.2.e]])
      (fun x => kE 2 (mkS 104 0 [0, 1, 5, 6, 7, 8, 38] [.str s, aInts .shr l, .ptr 0 0, .ptr 1 0, .int .i64 i, .int .i64 l.length, .bool false]) [rdr (rst (has l x.1 i) x.2.1), rrdr (rrst (has l x.1 i) x.2.2)]) (fun x => (l.length - x.1).toNat)
      (fun x => invIn l x.1 = true) ?_ (k, ⟨n, size, done, bad⟩, ⟨os, oe⟩) hc
    clear hr hc
    intro ⟨k, ⟨n, size, done, bad⟩, ⟨os, oe⟩⟩ hi K hK
    refine (B_inner R s os l i k n size oe done bad K kR kE).trans ?_
    obtain ⟨h1, h2, h3⟩ := invIn_iff.1 hi
    dsimp only at h1 h2 hK
    have hd : (C0.withFn (fnL l_pushes)).lay.dflt 3 = (0 : Int) := rfl
    by_cases hn : k < (l.length : Int)
    · rw [wrap_i64 (x := k + 1) (by omega) (by omega), hd]
      have hinv : invIn l (k + 1) = true := invIn_iff.2 ⟨by omega, by omega, h3⟩
      rw [has_step h1 hn]
      by_cases he : (l.getD k.toNat 0 : Int) = i
      · simp only [hn, h1, he, decide_true, cond_true, Bool.and_self, Bool.true_or]
        refine (hK (k + 1, ⟨0, 0, false, false⟩, ⟨[], 0⟩) hinv (by dsimp only; omega)).trans ?_
        dsimp only
        cases has l (k + 1) i <;> rfl
      · simp only [hn, h1, he, decide_true, decide_false, cond_true, cond_false, Bool.and_self, Bool.false_or]
        exact hK (k + 1, ⟨n, size, done, bad⟩, ⟨os, oe⟩) hinv (by dsimp only; omega)
    · have he : k = l.length := by omega
      subst he
      simp only [Int.lt_irrefl, decide_false, cond_false, has_end]
      rfl
  · cases hr

theorem k_outer : LoopOk (C0.withFn (fnL l_pushes)) 0 hs_pushes (lpT lps) 0 (loopBody (Try.f3.body.getD .skip) 7) lp_outer := by
  intro R kR kE vs h r hr
  unfold lp_outer at hr
  dsimp only at hr
  split at hr
  · rename_i s l i n size done bad os oe
    revert hr
    revert l
    intro (l : List Int) hr
    obtain ⟨hc, hr⟩ := Ex.pre_out hr
    rw [← hr]
    refine rounds_inv (S := Int × Two) (fun x => mkS 104 0 [0, 1, 5, 6, 7] [.str s, aInts .shr l, .ptr 0 0, .ptr 1 0, .int .i64 x.1]) (fun x => [.blk [.int .i64 x.2.r.n, .int .i64 x.2.r.size, .bool x.2.r.done, .bool x.2.r.bad], .blk [.str x.2.o.s, .int .i64 x.2.o.e]])
      (fun x => kE 0 (mkS 104 0 [0, 1, 5, 6, 7, 32] [.str s, aInts .shr l, .ptr 0 0, .ptr 1 0, .int .i64 s.length, .bool false]) [rdr (finL s l x.1 x.2).r, rrdr (finL s l x.1 x.2).o]) (fun x => (s.length - x.1).toNat)
      (fun x => invPu s l x.1 x.2.r x.2.o = true) ?_ (i, ⟨⟨n, size, done, bad⟩, ⟨os, oe⟩⟩) hc
    clear hr hc
    intro ⟨i, ⟨⟨n, size, done, bad⟩, ⟨os, oe⟩⟩⟩ hi K hK
    refine (B_outer R s os l i n size oe done bad K kR kE).trans ?_
    obtain ⟨h1, h2, h3, h4, h5, h6⟩ := invPu_iff.1 hi
    dsimp only at h1 h2 h5 h6 hK
    by_cases hn : i < (s.length : Int)
    · have hin : invIn l (Int.ofNat 0) = true := invIn_iff.2 ⟨by simp, by simp, h4⟩
      have hrel : rel (rst (has l 0 i) ⟨n, size, done, bad⟩) (rrst (has l 0 i) ⟨os, oe⟩) = true ∧ (rrst (has l 0 i) ⟨os, oe⟩).s.length ≤ i := by
        cases has l 0 i
        · exact ⟨h6, h5⟩
        · exact ⟨rel_new, by simpa [rrst] using h1⟩
      have hz : Int.ofNat 0 = 0 := rfl
      rw [finL.eq_def s l i, dif_pos hn, hin, wrap_i64 (x := i + 1) (by omega) (by omega)]
      simp only [hz, hn, h1, decide_true, cond_true, Bool.and_self]
      have hat : at' s i = ((s.getD i.toNat 0).toNat : Nat) := rfl
      rw [hat]
      have hb0 : (0 : Int) ≤ ((s.getD i.toNat 0).toNat : Nat) := by omega
      have hb1 : ((s.getD i.toNat 0).toNat : Int) ≤ 255 := by have := (s.getD i.toNat 0).toNat_lt; omega
      generalize ((s.getD i.toNat 0).toNat : Int) = b at hb0 hb1
      generalize rst (has l 0 i) ⟨n, size, done, bad⟩ = r' at hrel
      generalize rrst (has l 0 i) ⟨os, oe⟩ = o' at hrel
      obtain ⟨hrel, hlen⟩ := hrel
      obtain ⟨q1, q2, q3, q4, q5, q6⟩ := rel_push hrel hb0 hb1
      have hok := (rel_iff.1 hrel).2.2.2
      have hsz := (rel_iff.1 q3).2.2.1
      have hl4 : o'.s.length ≤ 4096 := by omega
      have hnext : invPu s l (i + 1) (push r' b).r (rpush o' b).r = true := invPu_iff.2 ⟨by omega, by omega, h3, h4, by omega, q3⟩
      have hgo := hK (i + 1, ⟨(push r' b).r, (rpush o' b).r⟩) hnext (by dsimp only; omega)
      dsimp only at hgo
      simp only [hok, hl4, q1, q2, decide_true, cond_true, beq_self_eq_true, Bool.not_true, cond_false]
      by_cases he : (rread (rpush o' b).r.s).e = 0
      · rw [he] at q4
        have hd : (push r' b).r.done = true := by rw [q4]; rfl
        have hnn := q5 hd
        simp only [he, hd, hnn, hsz, decide_true, cond_false, if_true, Bool.not_true, beq_self_eq_true]
        simp only [hd, hnn, hsz] at hgo
        exact hgo
      · have hd : (push r' b).r.done = false := by rw [q4]; simp [he]
        simp only [he, hd, hsz, decide_true, decide_false, cond_true, cond_false, Bool.not_true, Bool.not_false, beq_self_eq_true, Bool.false_eq_true, if_false]
        simp only [hd, hsz] at hgo
        exact hgo
    · have he : i = s.length := by omega
      subst he
      simp only [Int.lt_irrefl, decide_false, cond_false]
      rw [finL.eq_def s l s.length, dif_neg (by omega)]
  · cases hr

theorem c_pushes : CT 3 (fsOf 0 sem_pushes) := by
  refine Ct.of base_ok Try.func3 rfl rfl (l := l_pushes) ⟨c_lives02, c_new, c_push, c_value, c_rsz, c_reset, c_rnew, c_rpush, c_rvalue, c_rrsz, c_rreset, trivial⟩ fun H ρ args vals h v h' hv hs => ?_
  unfold sem_pushes at hs
  split at hs
  · rename_i s l
    obtain ⟨rfl, rfl⟩ := hs
    revert hv
    revert l
    intro (l : List Int) hv
    refine ⟨_, hv, .loops hs_pushes lps L0 (by kernel_rfl) (by simp only [List.mem_cons, List.not_mem_nil, or_false]; rintro p (rfl | rfl); exact k_inner; exact k_outer) fun R k => (T_pushes R s l k).trans ?_⟩
    by_cases h1 : 40 < (s.length : Int)
    · simp only [h1, decide_true, cond_true]
    by_cases h2 : 40 < (l.length : Int)
    · simp only [h1, h2, decide_true, decide_false, cond_true, cond_false]
    have hinv : invPu s l (Int.ofNat 0) ⟨Int.ofNat 0, Int.ofNat 0, false, false⟩ ⟨[], Int.ofNat 0⟩ = true := invPu_iff.2 ⟨by simp, by simp, by omega, by omega, by simp, rel_new⟩
    rw [hinv]
    simp only [h1, h2, decide_false, cond_true, cond_false]
  · cases hs

end Go.Ev.A

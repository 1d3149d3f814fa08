/- The context of a seat: its types. Own work. -/
import Derived.Test.YtpplfcdhiiiglaaEv4
import Derived.Test.YtpplfcdhiiiglaaProg
import Derived.KernelRfl
namespace Go.Ev.A
open Go.Proofs
def code : Nat → EC
  | 3 => .int
  | 9 => .str
  | 63 => .prop
  | 81 => .filter
  | _ => .unit
abbrev El (c : Nat) : Type := ElE (code c)
def cells' : (e : EC) → ElE e → List (AV El)
  | .unit, _ => []
  | .int, (x : Int) => [.int .i64 x]
  | .str, (x : List UInt8) => [.str x]
  | .prop, (x : PropV) => [.int .i64 x.id, .int .u32 x.n, .str x.text, .str x.value]
  | .filter, (x : FilterV) => [.str x.topic, .int .i64 x.qos, .bool x.noLocal, .bool x.asPub, .int .i64 x.handling]
  | .packet, _ => []
  | .rule, _ => []
def of_int : List (AV El) → Option (Int)
  | [.int .i64 n] => some (n : Int)
  | _ => none
def of_str : List (AV El) → Option (List UInt8)
  | [.str s] => some (s : List UInt8)
  | _ => none
def of_prop : List (AV El) → Option (PropV)
  | [.int .i64 i, .int .u32 n, .str a, .str b] => some (⟨i, n, a, b⟩ : PropV)
  | _ => none
def of_filter : List (AV El) → Option (FilterV)
  | [.str a, .int .i64 q, .bool n, .bool p, .int .i64 h] => some (⟨a, q, n, p, h⟩ : FilterV)
  | _ => none
def ofCells' : (e : EC) → List (AV El) → Option (ElE e)
  | .int, cs => of_int cs
  | .str, cs => of_str cs
  | .prop, cs => of_prop cs
  | .filter, cs => of_filter cs
  | .packet, _ => none
  | .rule, _ => none
  | .unit, _ => none
def lay : Lay El := ⟨fun c x => cells' (code c) x, fun c cs => ofCells' (code c) cs, fun c => dfltE (code c)⟩
abbrev aInts (f : Fl) (l : List Int) : AV El := .list f 3 l
abbrev aStrs (f : Fl) (l : List (List UInt8)) : AV El := .list f 9 l
abbrev aProps (f : Fl) (l : List PropV) : AV El := .list f 63 l
abbrev aFilters (f : Fl) (l : List FilterV) : AV El := .list f 81 l
theorem ofCells_eq : ∀ (e : EC) (cs : List (AV El)) (x : ElE e), ofCells' e cs = some x → cells' e x = cs.map AV.roD ∧ allOk cs = true
  | .int, cs, x, h => by
    simp only [ofCells', of_int] at h
    split at h
    · cases h; exact ⟨rfl, rfl⟩
    · cases h
  | .str, cs, x, h => by
    simp only [ofCells', of_str] at h
    split at h
    · cases h; exact ⟨rfl, rfl⟩
    · cases h
  | .prop, cs, x, h => by
    simp only [ofCells', of_prop] at h
    split at h
    · cases h; exact ⟨rfl, rfl⟩
    · cases h
  | .filter, cs, x, h => by
    simp only [ofCells', of_filter] at h
    split at h
    · cases h; exact ⟨rfl, rfl⟩
    · cases h
  | .packet, cs, x, h => by simp [ofCells'] at h
  | .rule, cs, x, h => by simp [ofCells'] at h
  | .unit, cs, x, h => by simp [ofCells'] at h
theorem cells_len : ∀ (e : EC) (x y : ElE e), (cells' e x).length = (cells' e y).length := by intro e x y; cases e <;> rfl
theorem cells_ok : ∀ (e : EC) (x : ElE e), allOk (cells' e x) = true := by intro e x; cases e <;> rfl
def table : List (Nat × TI El) :=
  [(2, ⟨.int .i64, 1, [.int .i64 0]⟩),
   (3, ⟨.int .i64, 1, [.int .i64 0]⟩),
   (4, ⟨.bool, 1, [.bool false]⟩),
   (5, ⟨.int .u8, 1, [.int .u8 0]⟩),
   (9, ⟨.str, 1, [.str []]⟩),
   (12, ⟨.int .u64, 1, [.int .u64 0]⟩),
   (21, ⟨.int .i32, 1, [.int .i32 0]⟩),
   (22, ⟨.slice 3, 1, [.list .nil 3 []]⟩),
   (23, ⟨.fn, 1, [.nilfn]⟩),
   (24, ⟨.ptr, 1, [.nilptr]⟩),
   (25, ⟨.fn, 1, [.nilfn]⟩),
   (26, ⟨.ptr, 1, [.nilptr]⟩),
   (27, ⟨.fn, 1, [.nilfn]⟩),
   (28, ⟨.int .i64, 1, [.int .i64 0]⟩),
   (30, ⟨.fn, 1, [.nilfn]⟩),
   (32, ⟨.fn, 1, [.nilfn]⟩),
   (33, ⟨.fn, 1, [.nilfn]⟩),
   (34, ⟨.fn, 1, [.nilfn]⟩),
   (36, ⟨.fn, 1, [.nilfn]⟩),
   (38, ⟨.fn, 1, [.nilfn]⟩),
   (39, ⟨.fn, 1, [.nilfn]⟩),
   (40, ⟨.fn, 1, [.nilfn]⟩),
   (41, ⟨.fn, 1, [.nilfn]⟩),
   (42, ⟨.fn, 1, [.nilfn]⟩),
   (43, ⟨.fn, 1, [.nilfn]⟩),
   (44, ⟨.slice 63, 1, [.list .nil 63 []]⟩),
   (45, ⟨.struct [(0, 1, false), (1, 1, false), (2, 1, false), (3, 1, false), (4, 1, false)], 5, [.str [], .str [], .int .i64 0, .bool false, .list .nil 63 []]⟩),
   (46, ⟨.struct [(0, 1, false), (1, 1, false), (2, 1, false), (3, 1, false), (4, 1, false)], 5, [.str [], .str [], .int .i64 0, .bool false, .list .nil 63 []]⟩),
   (47, ⟨.slice 81, 1, [.list .nil 81 []]⟩),
   (48, ⟨.struct [(0, 1, false), (1, 1, false), (2, 1, false), (3, 1, false), (4, 1, false), (5, 1, false), (6, 1, false), (7, 1, false), (8, 1, false), (9, 1, false), (10, 1, false), (11, 1, false), (12, 1, false), (13, 1, false), (14, 1, false), (15, 5, true), (20, 1, false), (21, 1, false), (22, 1, false), (23, 1, false), (24, 1, false)], 25, [.int .i64 0, .bool false, .bool false, .int .i64 0, .int .i64 0, .str [], .str [], .bool false, .int .i64 0, .str [], .bool false, .str [], .bool false, .str [], .bool false, .str [], .str [], .int .i64 0, .bool false, .list .nil 63 [], .bool false, .int .i64 0, .list .nil 3 [], .list .nil 81 [], .list .nil 63 []]⟩),
   (49, ⟨.struct [(0, 1, false), (1, 1, false), (2, 1, false), (3, 1, false), (4, 1, false), (5, 1, false), (6, 1, false), (7, 1, false), (8, 1, false), (9, 1, false), (10, 1, false), (11, 1, false), (12, 1, false), (13, 1, false), (14, 1, false), (15, 5, true), (20, 1, false), (21, 1, false), (22, 1, false), (23, 1, false), (24, 1, false)], 25, [.int .i64 0, .bool false, .bool false, .int .i64 0, .int .i64 0, .str [], .str [], .bool false, .int .i64 0, .str [], .bool false, .str [], .bool false, .str [], .bool false, .str [], .str [], .int .i64 0, .bool false, .list .nil 63 [], .bool false, .int .i64 0, .list .nil 3 [], .list .nil 81 [], .list .nil 63 []]⟩),
   (51, ⟨.fn, 1, [.nilfn]⟩),
   (52, ⟨.fn, 1, [.nilfn]⟩),
   (53, ⟨.struct [(0, 1, false), (1, 1, false), (2, 1, false)], 3, [.int .i64 0, .int .i64 0, .int .i64 0]⟩),
   (54, ⟨.struct [(0, 1, false), (1, 1, false), (2, 1, false)], 3, [.int .i64 0, .int .i64 0, .int .i64 0]⟩),
   (55, ⟨.fn, 1, [.nilfn]⟩),
   (56, ⟨.fn, 1, [.nilfn]⟩),
   (58, ⟨.fn, 1, [.nilfn]⟩),
   (59, ⟨.fn, 1, [.nilfn]⟩),
   (60, ⟨.fn, 1, [.nilfn]⟩),
   (61, ⟨.int .u32, 1, [.int .u32 0]⟩),
   (62, ⟨.struct [(0, 1, false), (1, 1, false), (2, 1, false), (3, 1, false)], 4, [.int .i64 0, .int .u32 0, .str [], .str []]⟩),
   (63, ⟨.struct [(0, 1, false), (1, 1, false), (2, 1, false), (3, 1, false)], 4, [.int .i64 0, .int .u32 0, .str [], .str []]⟩),
   (64, ⟨.fn, 1, [.nilfn]⟩),
   (65, ⟨.fn, 1, [.nilfn]⟩),
   (66, ⟨.fn, 1, [.nilfn]⟩),
   (67, ⟨.fn, 1, [.nilfn]⟩),
   (68, ⟨.fn, 1, [.nilfn]⟩),
   (69, ⟨.struct [(0, 1, false), (1, 1, false), (2, 1, false), (3, 1, false)], 4, [.int .i64 0, .int .i64 0, .bool false, .bool false]⟩),
   (70, ⟨.struct [(0, 1, false), (1, 1, false), (2, 1, false), (3, 1, false)], 4, [.int .i64 0, .int .i64 0, .bool false, .bool false]⟩),
   (71, ⟨.struct [(0, 1, false), (1, 1, false)], 2, [.str [], .int .i64 0]⟩),
   (72, ⟨.struct [(0, 1, false), (1, 1, false)], 2, [.str [], .int .i64 0]⟩),
   (73, ⟨.int .u64, 1, [.int .u64 0]⟩),
   (74, ⟨.bslice, 1, [.bytes .nil []]⟩),
   (75, ⟨.fn, 1, [.nilfn]⟩),
   (76, ⟨.fn, 1, [.nilfn]⟩),
   (77, ⟨.int .u64, 1, [.int .u64 0]⟩),
   (78, ⟨.fn, 1, [.nilfn]⟩),
   (79, ⟨.fn, 1, [.nilfn]⟩),
   (80, ⟨.struct [(0, 1, false), (1, 1, false), (2, 1, false), (3, 1, false), (4, 1, false)], 5, [.str [], .int .i64 0, .bool false, .bool false, .int .i64 0]⟩),
   (81, ⟨.struct [(0, 1, false), (1, 1, false), (2, 1, false), (3, 1, false), (4, 1, false)], 5, [.str [], .int .i64 0, .bool false, .bool false, .int .i64 0]⟩),
   (82, ⟨.fn, 1, [.nilfn]⟩),
   (83, ⟨.struct [(0, 1, false), (1, 1, false), (2, 1, false), (3, 1, false), (4, 1, false), (5, 1, false), (6, 1, false), (7, 1, false), (8, 1, false), (9, 1, false), (10, 1, false), (11, 1, false), (12, 1, false), (13, 1, false), (14, 1, false), (15, 1, false), (16, 1, false)], 17, [.int .i64 0, .int .i64 0, .int .i64 0, .int .i64 0, .int .i64 0, .bool false, .bool false, .bool false, .bool false, .bool false, .bool false, .bool false, .str [], .str [], .str [], .str [], .str []]⟩),
   (84, ⟨.struct [(0, 1, false), (1, 1, false), (2, 1, false), (3, 1, false), (4, 1, false), (5, 1, false), (6, 1, false), (7, 1, false), (8, 1, false), (9, 1, false), (10, 1, false), (11, 1, false), (12, 1, false), (13, 1, false), (14, 1, false), (15, 1, false), (16, 1, false)], 17, [.int .i64 0, .int .i64 0, .int .i64 0, .int .i64 0, .int .i64 0, .bool false, .bool false, .bool false, .bool false, .bool false, .bool false, .bool false, .str [], .str [], .str [], .str [], .str []]⟩),
   (85, ⟨.fn, 1, [.nilfn]⟩),
   (86, ⟨.fn, 1, [.nilfn]⟩),
   (87, ⟨.fn, 1, [.nilfn]⟩),
   (88, ⟨.fn, 1, [.nilfn]⟩),
   (89, ⟨.fn, 1, [.nilfn]⟩),
   (90, ⟨.arr 16 1 false, 16, [.str [], .str [], .str [], .str [], .str [], .str [], .str [], .str [], .str [], .str [], .str [], .str [], .str [], .str [], .str [], .str []]⟩),
   (91, ⟨.fn, 1, [.nilfn]⟩),
   (92, ⟨.slice 9, 1, [.list .nil 9 []]⟩),
   (93, ⟨.fn, 1, [.nilfn]⟩),
   (94, ⟨.fn, 1, [.nilfn]⟩),
   (95, ⟨.fn, 1, [.nilfn]⟩),
   (96, ⟨.fn, 1, [.nilfn]⟩),
   (97, ⟨.fn, 1, [.nilfn]⟩),
   (98, ⟨.fn, 1, [.nilfn]⟩),
   (99, ⟨.fn, 1, [.nilfn]⟩),
   (107, ⟨.fn, 1, [.nilfn]⟩),
   (108, ⟨.ptr, 1, [.nilptr]⟩)]
def cmps : List (Nat × List Ty) :=
  [(53, [.int .i64, .int .i64, .int .i64]),
   (54, [.int .i64, .int .i64, .int .i64]),
   (62, [.int .i64, .int .u32, .str, .str]),
   (63, [.int .i64, .int .u32, .str, .str]),
   (69, [.int .i64, .int .i64, .bool, .bool]),
   (70, [.int .i64, .int .i64, .bool, .bool]),
   (71, [.str, .int .i64]),
   (72, [.str, .int .i64]),
   (80, [.str, .int .i64, .bool, .bool, .int .i64]),
   (81, [.str, .int .i64, .bool, .bool, .int .i64]),
   (83, [.int .i64, .int .i64, .int .i64, .int .i64, .int .i64, .bool, .bool, .bool, .bool, .bool, .bool, .bool, .str, .str, .str, .str, .str]),
   (84, [.int .i64, .int .i64, .int .i64, .int .i64, .int .i64, .bool, .bool, .bool, .bool, .bool, .bool, .bool, .str, .str, .str, .str, .str])]
def C0 : Cx El := ⟨lay, ttL table, cmpL cmps, fun _ => none⟩
set_option maxRecDepth 100000
theorem table_ok : ttLOk Try.prog lay.w table = true := by kernel_rfl
theorem cmps_ok : cmpLOk Try.prog cmps = true := by kernel_rfl
theorem base_ok : BaseOk Try.prog C0 where
  tt := fun _ t ti h => ttL_ok (C := C0.withFn _) table_ok t ti h
  lay := fun _ => {
    len := fun c x => cells_len _ _ _
    of := fun c cs x h H ρ vs hv => by
      have := (ofCells_eq _ _ _ h).1
      simp only [C0, lay]
      rw [this]
      exact hv.roD
    ok := fun c x => cells_ok _ _
    ofOk := fun c cs x h => (ofCells_eq _ _ _ h).2 }
  cmp := fun t ts h => cmpL_ok cmps_ok t ts h
  orders := by kernel_rfl
/-- A packet, as its cells. -/
def aPkt (x : PacketV) : List (AV El) := [.int .i64 x.kind, .bool x.dup, .bool x.retain, .int .i64 x.qos, .int .i64 x.id, .str x.topic, .str x.payload, .bool x.clean, .int .i64 x.alive, .str x.client, .bool x.hasUser, .str x.user, .bool x.hasPass, .str x.pass, .bool x.hasWill, .str x.will.topic, .str x.will.payload, .int .i64 x.will.qos, .bool x.will.retain, .list .shr 63 x.will.props, .bool x.session, .int .i64 x.code, .list .shr 3 x.codes, .list .shr 81 x.filters, .list .shr 63 x.props]
def toPkt : List (AV El) → Option PacketV
  | [.int .i64 kind, .bool dup, .bool retain, .int .i64 qos, .int .i64 id, .str topic, .str payload, .bool clean, .int .i64 alive, .str client, .bool hasUser, .str user, .bool hasPass, .str pass, .bool hasWill, .str wt, .str wp, .int .i64 wq, .bool wr, .list _ 63 wl, .bool session, .int .i64 cd, .list _ 3 codes, .list _ 81 filters, .list _ 63 props] => some (⟨kind, dup, retain, qos, id, topic, payload, clean, alive, client, hasUser, user, hasPass, pass, hasWill, ⟨wt, wp, wq, wr, wl⟩, session, cd, codes, filters, props⟩ : PacketV)
  | _ => none
def toPktS : List (AV El) → Option PacketV
  | [.int .i64 kind, .bool dup, .bool retain, .int .i64 qos, .int .i64 id, .str topic, .str payload, .bool clean, .int .i64 alive, .str client, .bool hasUser, .str user, .bool hasPass, .str pass, .bool hasWill, .str wt, .str wp, .int .i64 wq, .bool wr, .list .shr 63 wl, .bool session, .int .i64 cd, .list .shr 3 codes, .list .shr 81 filters, .list .shr 63 props] => some (⟨kind, dup, retain, qos, id, topic, payload, clean, alive, client, hasUser, user, hasPass, pass, hasWill, ⟨wt, wp, wq, wr, wl⟩, session, cd, codes, filters, props⟩ : PacketV)
  | _ => none
def aProp (x : PropV) : List (AV El) := [.int .i64 x.id, .int .u32 x.n, .str x.text, .str x.value]
def toProp : List (AV El) → Option PropV
  | [.int .i64 i, .int .u32 n, .str a, .str b] => some (⟨i, n, a, b⟩ : PropV)
  | _ => none
theorem toProp_eq {cs : List (AV El)} {p : PropV} (h : toProp cs = some p) : aProp p = cs.map AV.shrD := by
  unfold toProp at h
  split at h
  · cases h; rfl
  · cases h
def aFil (x : FilterV) : List (AV El) := [.str x.topic, .int .i64 x.qos, .bool x.noLocal, .bool x.asPub, .int .i64 x.handling]
def toFil : List (AV El) → Option FilterV
  | [.str a, .int .i64 q, .bool n, .bool p, .int .i64 h] => some (⟨a, q, n, p, h⟩ : FilterV)
  | _ => none
theorem toFil_eq {cs : List (AV El)} {p : FilterV} (h : toFil cs = some p) : aFil p = cs.map AV.shrD := by
  unfold toFil at h
  split at h
  · cases h; rfl
  · cases h
def aWill (x : WillV) : List (AV El) := [.str x.topic, .str x.payload, .int .i64 x.qos, .bool x.retain, .list .shr 63 x.props]
def toWill : List (AV El) → Option WillV
  | [.str a, .str b, .int .i64 q, .bool r, .list _ 63 l] => some (⟨a, b, q, r, l⟩ : WillV)
  | _ => none
theorem toWill_eq {cs : List (AV El)} {p : WillV} (h : toWill cs = some p) : aWill p = cs.map AV.shrD := by
  unfold toWill at h
  split at h
  · cases h; rfl
  · cases h
theorem toPktS_eq {cs : List (AV El)} {p : PacketV} (h : toPktS cs = some p) : cs = aPkt p := by
  unfold toPktS at h
  split at h
  · cases h; rfl
  · cases h
theorem toPkt_eq {cs : List (AV El)} {p : PacketV} (h : toPkt cs = some p) : aPkt p = cs.map AV.shrD := by
  unfold toPkt at h
  split at h
  · cases h; rfl
  · cases h
def els : List Nat := [3, 9, 63, 81]
theorem els_ok : ∀ e ∈ els, ElOk Try.prog C0 els e := by
  intro e he
  simp only [els, List.mem_cons, List.not_mem_nil, or_false] at he
  rcases he with rfl | rfl | rfl | rfl
  · have hs : openT Try.prog els 4 3 = some [.int .i64] := by kernel_rfl
    refine ⟨by kernel_rfl, by decide +kernel, ⟨4, _, hs, fun xs h => ?_⟩, ⟨4, _, hs, by simp⟩⟩
    match xs, h with
    | [a0], ⟨h0, _⟩ =>
      obtain ⟨x0, rfl, _⟩ := fits_int h0
      exact ⟨(x0 : Int), rfl⟩
  · have hs : openT Try.prog els 4 9 = some [.str] := by kernel_rfl
    refine ⟨by kernel_rfl, by decide +kernel, ⟨4, _, hs, fun xs h => ?_⟩, ⟨4, _, hs, by simp⟩⟩
    match xs, h with
    | [a0], ⟨h0, _⟩ =>
      obtain ⟨x0, rfl, _⟩ := fits_str h0
      exact ⟨(x0 : List UInt8), rfl⟩
  · have hs : openT Try.prog els 4 63 = some [.int .i64, .int .u32, .str, .str] := by kernel_rfl
    refine ⟨by kernel_rfl, by decide +kernel, ⟨4, _, hs, fun xs h => ?_⟩, ⟨4, _, hs, by simp⟩⟩
    match xs, h with
    | [a0, a1, a2, a3], ⟨h0, h1, h2, h3, _⟩ =>
      obtain ⟨x0, rfl, _⟩ := fits_int h0
      obtain ⟨x1, rfl, _⟩ := fits_int h1
      obtain ⟨x2, rfl, _⟩ := fits_str h2
      obtain ⟨x3, rfl, _⟩ := fits_str h3
      exact ⟨(⟨x0, x1, x2, x3⟩ : PropV), rfl⟩
  · have hs : openT Try.prog els 4 81 = some [.str, .int .i64, .bool, .bool, .int .i64] := by kernel_rfl
    refine ⟨by kernel_rfl, by decide +kernel, ⟨4, _, hs, fun xs h => ?_⟩, ⟨4, _, hs, by simp⟩⟩
    match xs, h with
    | [a0, a1, a2, a3, a4], ⟨h0, h1, h2, h3, h4, _⟩ =>
      obtain ⟨x0, rfl, _⟩ := fits_str h0
      obtain ⟨x1, rfl, _⟩ := fits_int h1
      obtain ⟨x2, rfl⟩ := fits_bool h2
      obtain ⟨x3, rfl⟩ := fits_bool h3
      obtain ⟨x4, rfl, _⟩ := fits_int h4
      exact ⟨(⟨x0, x1, x2, x3, x4⟩ : FilterV), rfl⟩
/-- A function's evaluation, a loop's body. -/
noncomputable abbrev ev (l : List (Nat × FS El)) (f : Func) (hs : Nat → Option Hint) (lp : List (Nat × LPd El)) (L : Leave) (args : List (AV El)) (h : List (HE El)) (R : Type) (k : AV El → List (HE El) → Option R) : Option R :=
  evF (C0.withFn (fnL l)) hs (lpT lp) L 0 f.ntmps f.results.toList (f.body.getD .skip) args h k
noncomputable abbrev evf (fuel : Nat) (l : List (Nat × FS El)) (f : Func) (hs : Nat → Option Hint) (lp : List (Nat × LPd El)) (L : Leave) (args : List (AV El)) (h : List (HE El)) (R : Type) (k : AV El → List (HE El) → Option R) : Option R :=
  evF (C0.withFn (fnL l)) hs (lpT lp) L fuel f.ntmps f.results.toList (f.body.getD .skip) args h k
noncomputable abbrev lb (l : List (Nat × FS El)) (f : Func) (hs : Nat → Option Hint) (lp : List (Nat × LPd El)) (key m : Nat) (sl : List (AV El)) (h : List (HE El)) (R : Type) (K kR : List (AV El) → List (HE El) → Option R) (kE : Nat → List (AV El) → List (HE El) → Option R) : Option R :=
  evC (C0.withFn (fnL l)) m hs (lpT lp) 0 (loopBody (f.body.getD .skip) key) (fun sl h => cleanAt m hs (firstId (loopBody (f.body.getD .skip) key) + 1000000) sl h K) kR kE sl h
abbrev CT (f : Nat) (fs : FS El) : Prop := Ct Try.prog C0 f fs
abbrev CTS (l : List (Nat × FS El)) : Prop := Cts Try.prog C0 l
abbrev L0 : Leave := ⟨0, false, false⟩
end Go.Ev.A

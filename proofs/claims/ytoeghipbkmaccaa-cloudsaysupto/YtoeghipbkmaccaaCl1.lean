/-
  DERIVED: THE SHELF's CONTRACTS AT THIS DUMP, IN PLAIN WORDS (printed by the kit's lay-plain): THE SAME DECLARATIONS UNDER THE SAME NAMES: 'import', 'namespace', 'open', 'def', 'theorem' AND NOTHING ELSE: no command of the shelf's: FOR A HAND-IN. Each laying: the table of numbers ('.._ren') and one theorem, a field a fact of the dump's own or the kernel's comparison; each contract: ONE APPLICATION.
-/
import Derived.Shelf.SlSortCmp.WholeK
import Derived.Shelf.SlSortCmp.NoneTotal
import Derived.Test.YtoeghipbkmaccaaWl5
import Derived.Test.YtoeghipbkmaccaaProg
import Derived.Test.YtoeghipbkmaccaaVa2
section
namespace Go.Proofs
open Go.Shelf
def Try.sortTh_ren : Go.Shelf.Ren := ⟨fun | 6 => 87 | 15 => 97 | 14 => 96 | 28 => 111 | 29 => 112 | 20 => 103 | 21 => 104 | 22 => 105 | 23 => 106 | 24 => 107 | 25 => 108 | 26 => 109 | 27 => 110 | 46 => 122 | 47 => 123 | 48 => 124 | 49 => 125 | 50 => 126 | 57 => 131 | n => n, fun | 22 => 88 | 24 => 80 | 25 => 145 | 3 => 3 | 39 => 148 | 0 => 0 | 53 => 169 | 55 => 113 | 4 => 4 | 46 => 162 | 45 => 161 | 50 => 166 | 5 => 5 | 9 => 9 | 66 => 177 | 70 => 157 | 76 => 184 | 77 => 75 | n => n, fun | n => n⟩
theorem Try.sortTh : Go.Proofs.SlLaysF0.n6 Try.prog Try.sortTh_ren := {
  mixed := by kernel_rfl
  f6 := ⟨Try.f87.name, by decide, Try.func87.trans (congrArg some (by kernel_rfl))⟩
  f14 := ⟨Try.f96.name, by decide, Try.func96.trans (congrArg some (by kernel_rfl))⟩
  f15 := Try.func97.trans (congrArg some (by kernel_rfl))
  f20 := ⟨Try.f103.name, by decide, Try.func103.trans (congrArg some (by kernel_rfl))⟩
  f21 := ⟨Try.f104.name, by decide, Try.func104.trans (congrArg some (by kernel_rfl))⟩
  f22 := ⟨Try.f105.name, by decide, Try.func105.trans (congrArg some (by kernel_rfl))⟩
  f23 := ⟨Try.f106.name, by decide, Try.func106.trans (congrArg some (by kernel_rfl))⟩
  f24 := ⟨Try.f107.name, by decide, Try.func107.trans (congrArg some (by kernel_rfl))⟩
  f25 := ⟨Try.f108.name, by decide, Try.func108.trans (congrArg some (by kernel_rfl))⟩
  f26 := ⟨Try.f109.name, by decide, Try.func109.trans (congrArg some (by kernel_rfl))⟩
  f27 := ⟨Try.f110.name, by decide, Try.func110.trans (congrArg some (by kernel_rfl))⟩
  f28 := Try.func111.trans (congrArg some (by kernel_rfl))
  f29 := Try.func112.trans (congrArg some (by kernel_rfl))
  f46 := ⟨Try.f122.name, by decide, Try.func122.trans (congrArg some (by kernel_rfl))⟩
  f47 := Try.func123.trans (congrArg some (by kernel_rfl))
  f48 := Try.func124.trans (congrArg some (by kernel_rfl))
  f49 := ⟨Try.f125.name, by decide, Try.func125.trans (congrArg some (by kernel_rfl))⟩
  f50 := ⟨Try.f126.name, by decide, Try.func126.trans (congrArg some (by kernel_rfl))⟩
  f57 := ⟨Try.f131.name, by decide, Try.func131.trans (congrArg some (by kernel_rfl))⟩
  t0 := Try.underlying0
  a0 := Try.isAgg0
  z0 := Try.sizeOf0
  v0 := Try.zeroValue0
  t3 := Try.underlying3
  a3 := Try.isAgg3
  z3 := Try.sizeOf3
  v3 := Try.zeroValue3
  t4 := Try.underlying4
  a4 := Try.isAgg4
  z4 := Try.sizeOf4
  v4 := Try.zeroValue4
  t5 := Try.underlying5
  a5 := Try.isAgg5
  z5 := Try.sizeOf5
  v5 := Try.zeroValue5
  t9 := Try.underlying9
  a9 := Try.isAgg9
  z9 := Try.sizeOf9
  v9 := Try.zeroValue9
  t22 := Try.underlying88
  a22 := Try.isAgg88
  z22 := Try.sizeOf88
  v22 := Try.zeroValue88
  t25 := Try.underlying145
  a25 := Try.isAgg145
  z25 := Try.sizeOf145
  v25 := Try.zeroValue145
  t39 := Try.underlying148
  a39 := Try.isAgg148
  z39 := Try.sizeOf148
  v39 := Try.zeroValue148
  t45 := Try.underlying161
  a45 := Try.isAgg161
  z45 := Try.sizeOf161
  v45 := Try.zeroValue161
  t46 := Try.underlying162
  a46 := Try.isAgg162
  z46 := Try.sizeOf162
  v46 := Try.zeroValue162
  t50 := Try.underlying166
  a50 := Try.isAgg166
  z50 := Try.sizeOf166
  v50 := Try.zeroValue166
  t53 := Try.underlying169
  a53 := Try.isAgg169
  z53 := Try.sizeOf169
  v53 := Try.zeroValue169
  t55 := Try.underlying113
  a55 := Try.isAgg113
  z55 := Try.sizeOf113
  v55 := Try.zeroValue113
  t66 := Try.underlying177
  a66 := Try.isAgg177
  z66 := Try.sizeOf177
  v66 := Try.zeroValue177
  t70 := Try.underlying157
  a70 := Try.isAgg157
  z70 := Try.sizeOf157
  v70 := Try.zeroValue157
  t76 := Try.underlying184
  a76 := Try.isAgg184
  z76 := Try.sizeOf184
  v76 := Try.zeroValue184
  t77 := Try.underlying75
  a77 := Try.isAgg75
  z77 := Try.sizeOf75
  v77 := Try.zeroValue75 }

open Go.RowKit Go.Lib Go.Sort
theorem raw7 (x : Go.Aw.RawK 6) : ∃ (z : Int) (a b c d e f : Value), x.1 = [.int .i64 z, a, b, c, d, e, f] ∧ (0 ≤ z ∧ z ≤ 1000000000) ∧ Go.Aw.rawKey x = z := by
  obtain ⟨vs, hl, h1, z, hz, h0, h2⟩ := x
  match vs, hl, hz with
  | [a0, a, b, c, d, e, f], _, hz =>
    simp only [List.head?_cons, Option.some.injEq] at hz
    subst hz
    exact ⟨z, a, b, c, d, e, f, rfl, ⟨h0, h2⟩, rfl⟩

set_option maxHeartbeats 1000000 in
theorem Try.closure88 (x y : Go.Aw.RawK 6) (W : World) : Calls Try.prog 88 #[.agg x.1.toArray, .agg y.1.toArray] W fun e w' => e = .returned (.int .i64 (Go.Aw.rawKey x - Go.Aw.rawKey y)) ∧ ∃ q os', w' = grow (W.drewN q) os' := by
  obtain ⟨z, a, b, c, d, e, f, hx, hz, hk⟩ := raw7 x
  obtain ⟨z', a', b', c', d', e', f', hx', hz', hk'⟩ := raw7 y
  rw [hx, hx', hk, hk']
  go_enter Try.func88, Try.ntmps88
  go_wp2
  go_ret
  exact ⟨rfl, 0, _, by rw [alloc_eq_grow, alloc_eq_grow, grow_grow]; rfl⟩

theorem Try.sortC (blk off cap : Nat) (d : Array (Go.Aw.RawK 6)) (w : World) (hH : HoldsK (fun x : Go.Aw.RawK 6 => x.1) 7 w blk off d) (hblk : blk < w.heap.size) (hsz : d.size < 4611686018427387904) :
    Calls Try.prog 87 #[.slice (some ⟨blk, off, none⟩) d.size cap, .func (.func 88) #[] #[]] w fun e w' => e = .returned (.tuple #[]) ∧ ∃ d' n os, PermIn 0 d.size d d' ∧ SortedIn (ltOf fun x y : Go.Aw.RawK 6 => Go.Aw.rawKey x - Go.Aw.rawKey y) 0 d.size d' ∧ w' = sortWorldK (fun x : Go.Aw.RawK 6 => x.1) 7 w blk off n d' os :=
  AnyQ.slices_SortFunc Try.sortTh 7 Try.isAgg80 Try.sizeOf80 (fun x => x.1) (fun x => x.2.1) (fun x v hv => x.2.2.1 v hv) (fun x y => Go.Aw.rawKey x - Go.Aw.rawKey y) (Go.Aw.swoRaw 6) 88 #[] blk off cap d w (enters_of Try.func88 (by kernel_rfl) rfl) (fun _ _ _ _ x y => Try.closure88 x y _) hH hblk hsz
theorem Try.sortN (p : Option Addr) (w : World) : Calls Try.prog 87 #[.slice p 0 0, .func (.func 88) #[] #[]] w fun e w' => e = .returned (.tuple #[]) ∧ w' = w := AnyF.slices_SortFunc_none Try.sortTh p 0 (.func (.func 88) #[] #[]) w
end Go.Proofs
end
section
namespace Go.Proofs
open Go Go.Aw
set_option maxRecDepth 100000


structure Thg where
  id : Int
  kind : Str
  v : Val
instance : Inhabited Thg := ⟨⟨0, [], zV⟩⟩
def thgAV (x : Thg) : AV := .agg [.int .i64 x.id, .str x.kind, .int .i64 x.v.kind, .int .i64 x.v.n, .str x.v.s, .slice false (x.v.l.map valIn), .slice false (x.v.f.map fldIn)]
def zT : Thg := ⟨0, [], zV⟩
structure Dn where
  op : Int
  id : Int
instance : Inhabited Dn := ⟨⟨0, 0⟩⟩
def dnAV (x : Dn) : AV := .agg [.int .i64 x.op, .int .i64 x.id]
def zD : Dn := ⟨0, 0⟩
/-- A cloud. -/
structure ClSt where
  things : List (Int × Thg)
  tokens : List (Str × Dn)
  next : Int
  quota : Int
  calls : Int
  fails : List (Int × Bool)
def cObj (d tb ob fb : Nat) (c : ClSt) : AObj := .cells [.ptr ⟨d, 0, none⟩, .map tb, .map ob, .int .i64 c.next, .int .i64 c.quota, .int .i64 c.calls, .map fb]
def tObj (l : List (Int × Thg)) : AObj := .map (List.map (mapAV intAV thgAV) l)
def oObj (l : List (Str × Dn)) : AObj := .map (List.map (mapAV strAV dnAV) l)
def fObj (l : List (Int × Bool)) : AObj := .map (List.map (mapAV intAV boolAV) l)
/-- What is wrong with attributes. -/
def attrE (v : Val) : Int := if v.kind = 5 then chk v else 9
/-- A call that would change something. -/
def callR (c : ClSt) (s : DSt) (token : Str) (op : Int) : (ClSt × DSt) × (Dn × Bool × Int) :=
  if (stepF s).2 ≠ 0 then ((c, (stepF s).1), (zD, false, (stepF s).2))
  else if (mget c.fails c.calls).getD false = true then (({ c with calls := c.calls + 1 }, (stepF s).1), (zD, false, 12))
  else if (mget c.tokens token).isSome = true ∧ ((mget c.tokens token).getD zD).op ≠ op then (({ c with calls := c.calls + 1 }, (stepF s).1), (zD, false, 15))
  else (({ c with calls := c.calls + 1 }, (stepF s).1), ((mget c.tokens token).getD zD, (mget c.tokens token).isSome, 0))
/-- How often it was called behind a call. -/
def ccalls (c : ClSt) (s : DSt) (token : Str) (op : Int) : Int := (callR c s token op).1.1.calls
def callT (c : ClSt) (s : DSt) (token : Str) (op : Int) : Dn × Bool × Int := (callR c s token op).2
def createR (c : ClSt) (s : DSt) (token kind : Str) (v : Val) : (ClSt × DSt) × (Int × Int) :=
  if attrE v ≠ 0 then ((c, s), (0, attrE v))
  else if nameV kind = false then ((c, s), (0, 3))
  else if (callT c s token 1).2.2 ≠ 0 ∨ (callT c s token 1).2.1 = true then (({ c with calls := ccalls c s token 1 }, (stepF s).1), ((callT c s token 1).1.id, (callT c s token 1).2.2))
  else if c.quota ≤ c.things.length then (({ c with calls := ccalls c s token 1 }, (stepF s).1), (0, 13))
  else (({ c with calls := ccalls c s token 1, next := c.next + 1, things := mput c.things c.next ⟨c.next, kind, v⟩, tokens := mput c.tokens token ⟨1, c.next⟩ }, (stepF s).1), (c.next, 0))
def updateR (c : ClSt) (s : DSt) (token : Str) (id : Int) (v : Val) : (ClSt × DSt) × Int :=
  if attrE v ≠ 0 then ((c, s), attrE v)
  else if (callT c s token 2).2.2 ≠ 0 ∨ (callT c s token 2).2.1 = true then (({ c with calls := ccalls c s token 2 }, (stepF s).1), (callT c s token 2).2.2)
  else if (mget c.things id).isSome = false then (({ c with calls := ccalls c s token 2 }, (stepF s).1), 7)
  else (({ c with calls := ccalls c s token 2, things := mput c.things id ⟨((mget c.things id).getD zT).id, ((mget c.things id).getD zT).kind, v⟩, tokens := mput c.tokens token ⟨2, id⟩ }, (stepF s).1), 0)
def deleteR (c : ClSt) (s : DSt) (token : Str) (id : Int) : (ClSt × DSt) × Int :=
  if (callT c s token 3).2.2 ≠ 0 ∨ (callT c s token 3).2.1 = true then (({ c with calls := ccalls c s token 3 }, (stepF s).1), (callT c s token 3).2.2)
  else if (mget c.things id).isSome = false then (({ c with calls := ccalls c s token 3 }, (stepF s).1), 7)
  else (({ c with calls := ccalls c s token 3, things := mdel c.things id, tokens := mput c.tokens token ⟨3, id⟩ }, (stepF s).1), 0)
/-- What holds of a cloud that was called not too often. -/
structure CInv (N : Nat) (c : ClSt) : Prop where
  nx0 : 1 ≤ c.next
  nx1 : c.next ≤ N
  ca0 : 0 ≤ c.calls
  ca1 : c.calls ≤ N
  tl : c.things.length ≤ N
  ol : c.tokens.length ≤ N
  nd : (c.things.map Prod.fst).Nodup
  ids : ∀ p ∈ c.things, p.2.id = p.1 ∧ (1 ≤ p.1 ∧ p.1 < c.next) ∧ chk p.2.v = 0
section
variable {c : ClSt} {s : DSt} {token : Str} {op : Int}
theorem callR_1 (h : (stepF s).2 ≠ 0) : callR c s token op = ((c, (stepF s).1), (zD, false, (stepF s).2)) := by rw [callR, if_pos h]
theorem callR_2 (h : (stepF s).2 = 0) (h2 : (mget c.fails c.calls).getD false = true) : callR c s token op = (({ c with calls := c.calls + 1 }, (stepF s).1), (zD, false, 12)) := by rw [callR, if_neg (by simp [h]), if_pos h2]
theorem callR_3 (h : (stepF s).2 = 0) (h2 : (mget c.fails c.calls).getD false = false) (h3 : (mget c.tokens token).isSome = true ∧ ((mget c.tokens token).getD zD).op ≠ op) : callR c s token op = (({ c with calls := c.calls + 1 }, (stepF s).1), (zD, false, 15)) := by rw [callR, if_neg (by simp [h]), if_neg (by simp [h2]), if_pos h3]
theorem callR_4 (h : (stepF s).2 = 0) (h2 : (mget c.fails c.calls).getD false = false) (h3 : (mget c.tokens token).isSome = false ∨ ((mget c.tokens token).getD zD).op = op) : callR c s token op = (({ c with calls := c.calls + 1 }, (stepF s).1), ((mget c.tokens token).getD zD, (mget c.tokens token).isSome, 0)) := by
  rw [callR, if_neg (by simp [h]), if_neg (by simp [h2]), if_neg (by rintro ⟨a, b⟩; rcases h3 with h3 | h3 <;> simp_all)]
end
theorem callR_eq (c : ClSt) (s : DSt) (token : Str) (op : Int) : (callR c s token op).1 = ({ c with calls := ccalls c s token op }, (stepF s).1) := by
  unfold ccalls callR
  repeat' split
  all_goals rfl
theorem ccalls_le (c : ClSt) (s : DSt) (token : Str) (op : Int) : c.calls ≤ ccalls c s token op ∧ ccalls c s token op ≤ c.calls + 1 := by
  unfold ccalls callR
  repeat' split
  all_goals (simp; try omega)
theorem attrE_0 {v : Val} (h : attrE v = 0) : chk v = 0 := by
  unfold attrE at h
  split at h
  · exact h
  · cases h

set_option maxHeartbeats 2000000 in
theorem u_CNew (d : Nat) (q : Int) (hq0 : 0 ≤ q) (hq1 : q ≤ 40) (m : AMem)  (K : AV → AMem → Prop) (hK : ∀ x fb ob tb : Nat, [x, fb, ob, tb].Nodup → m x = none → m fb = none → m ob = none → m tb = none → K (.tuple [.ptr ⟨x, 0, none⟩, .err 108 0]) (AMem.wth m [(x, cObj d tb ob fb ⟨[], [], 1, q, 0, []⟩), (fb, fObj []), (ob, oObj []), (tb, tObj [])])) : ACalls Try.prog 46 [.ptr ⟨d, 0, none⟩, .int .i64 q] m K := by
 refine acalls_enter Try.func46 rfl (by decide) (Nat.le_of_ble_eq_true rfl) ?_
 show AWP _ _ _ _ [(0, .ptr ⟨d, 0, none⟩), (1, .int .i64 q)] m
 refine awp_reg2_seq [] [0, 1] (by decide) ?_
 intro K1 hK1
 refine ⟨trivial, trivial, ?_⟩
 show K1 [(0, .ptr ⟨d, 0, none⟩), (1, .int .i64 q)] m
 refine hK1 _ _ ?_; clear hK1 K1
 refine awp_seq_k ?_; intro K2 hK2
 refine awp_reg2_seq [] [0, 1, 11] (by decide) ?_
 intro K1 hK1
 suffices key : K1 [(0, .ptr ⟨d, 0, none⟩), (1, .int .i64 q), (11, .bool ((decide (q < 0)) || (decide (40 < q))))] m by
  refine ⟨trivial, trivial, trivial, ?_⟩
  show aopsR _ _ _ _ _ [(8, .bool (decide (q < 0))), (7, .bool (decide (q < 0))), (6, .int .i64 q), (0, .ptr ⟨d, 0, none⟩), (1, .int .i64 q)] _
  revert key
  cases h1 : (decide (q < 0))
  ·
   replace h1 : 0 ≤ q := (Int.not_lt.1 (of_decide_eq_false h1))
   intro key
   refine ⟨trivial, trivial, ?_⟩
   exact key
  ·
   replace h1 : q < 0 := (of_decide_eq_true h1)
   intro key
   refine ar_off rfl (ar_off rfl ?_)
   exact key
 refine hK1 _ _ ?_; clear hK1 K1
 refine awp_cond rfl rfl (fun h2 => ?_) (fun h2 => ?_)
 ·
  replace h2 : (q < 0) ∨ (40 < q) := ((borT h2).imp (fun q => (of_decide_eq_true q)) (fun q => (of_decide_eq_true q)))
  omega
 replace h2 : (0 ≤ q) ∧ (q ≤ 40) := ⟨(Int.not_lt.1 (of_decide_eq_false (borL h2))), (Int.not_lt.1 (of_decide_eq_false (borR h2)))⟩
 refine awp_skip ?_
 refine hK2 _ _ ?_; clear hK2
 refine awp_reg2_seq [] [4, 5] (by decide) ?_
 intro K1 hK1
 refine ⟨trivial, ?_⟩
 refine ar_makeMap rfl (m := m) (L := []) rfl ?_
 intro b1 hb1
 have hFb1 : m b1 = none := wth_none (m := m) (L := []) hb1
 have hNb1 : ([b1] : List Nat).Nodup := wth_nodup (m := m) (L := []) hb1 List.nodup_nil
 refine ar_makeMap rfl (m := m) (L := [(b1, tObj ([] : List (Int × Thg)))]) rfl ?_
 intro b2 hb2
 have hFb2 : m b2 = none := wth_none hb2
 have hNb2 : ([b2, b1] : List Nat).Nodup := wth_nodup hb2 hNb1
 refine ⟨trivial, ?_⟩
 refine ar_makeMap rfl (m := m) (L := [(b2, oObj ([] : List ((List UInt8) × Dn))), (b1, tObj ([] : List (Int × Thg)))]) rfl ?_
 intro b3 hb3
 have hFb3 : m b3 = none := wth_none hb3
 have hNb3 : ([b3, b2, b1] : List Nat).Nodup := wth_nodup hb3 hNb2
 refine ⟨⟨rfl, by simp only [List.forall_mem_cons]; exact ⟨rfl, rfl, rfl, rfl, rfl, rfl, rfl, fun _ h => by cases h⟩, by simp only [List.forall_mem_cons]; exact ⟨rfl, rfl, rfl, rfl, rfl, rfl, fun _ h => by cases h⟩⟩, ?_⟩
 refine ar_box rfl (m := m) (L := [(b3, fObj ([] : List (Int × Bool))), (b2, oObj ([] : List ((List UInt8) × Dn))), (b1, tObj ([] : List (Int × Thg)))]) (v := .agg [.ptr ⟨d, 0, none⟩, .map b1, .map b2, .int .i64 1, .int .i64 q, .int .i64 0, .map b3]) rfl rfl ?_
 intro b4 hb4
 have hFb4 : m b4 = none := wth_none hb4
 have hNb4 : ([b4, b3, b2, b1] : List Nat).Nodup := wth_nodup hb4 hNb3
 refine ⟨trivial, trivial, ?_⟩
 show K1 [(4, .ptr ⟨b4, 0, none⟩), (5, .nilIface)] (AMem.wth m [(b4, .cells [.ptr ⟨d, 0, none⟩, .map b1, .map b2, .int .i64 1, .int .i64 q, .int .i64 0, .map b3]), (b3, fObj ([] : List (Int × Bool))), (b2, oObj ([] : List ((List UInt8) × Dn))), (b1, tObj ([] : List (Int × Thg)))])
 refine hK1 _ _ ?_; clear hK1 K1
 refine awp_toErr 108 [5] ?_
 show AWP _ _ _ _ [(4, .ptr ⟨b4, 0, none⟩), (5, .err 108 0)] (AMem.wth m [(b4, .cells [.ptr ⟨d, 0, none⟩, .map b1, .map b2, .int .i64 1, .int .i64 q, .int .i64 0, .map b3]), (b3, fObj ([] : List (Int × Bool))), (b2, oObj ([] : List ((List UInt8) × Dn))), (b1, tObj ([] : List (Int × Thg)))])
 refine awp_ret ?_
 refine ⟨trivial, trivial, (AMem.wth m [(b4, .cells [.ptr ⟨d, 0, none⟩, .map b1, .map b2, .int .i64 1, .int .i64 q, .int .i64 0, .map b3]), (b3, fObj ([] : List (Int × Bool))), (b2, oObj ([] : List ((List UInt8) × Dn))), (b1, tObj ([] : List (Int × Thg)))]), fun _ _ h => h, ?_⟩
 show K (.tuple [.ptr ⟨b4, 0, none⟩, .err 108 0]) (AMem.wth m [(b4, .cells [.ptr ⟨d, 0, none⟩, .map b1, .map b2, .int .i64 1, .int .i64 q, .int .i64 0, .map b3]), (b3, fObj ([] : List (Int × Bool))), (b2, oObj ([] : List ((List UInt8) × Dn))), (b1, tObj ([] : List (Int × Thg)))])

 exact hK b4 b3 b2 b1 hNb4 hFb4 hFb3 hFb2 hFb1

theorem u_attrs (v : Val)  (m : AMem)  (K : AV → AMem → Prop) (hK : K (.err 108 (attrE v)) m) : ACalls Try.prog 79 [valTop v] m K := by
 refine acalls_enter Try.func79 rfl (by decide) (Nat.le_of_ble_eq_true rfl) ?_
 show AWP _ _ _ _ [(0, valTop v)] m
 refine awp_reg2_seq [] [1] (by decide) ?_
 intro K1 hK1
 refine ar_box rfl (m := m) (L := []) (v := valTop v) (by rfl) rfl ?_
 intro b1 hb1
 have hFb1 : m b1 = none := wth_none (m := m) (L := []) hb1
 have hNb1 : ([b1] : List Nat).Nodup := wth_nodup (m := m) (L := []) hb1 List.nodup_nil
 refine ⟨trivial, ?_⟩
 show K1 [(1, .ptr ⟨b1, 0, none⟩)] (AMem.wth m [(b1, .cells [.int .i64 v.kind, .int .i64 v.n, .str v.s, .slice false (v.l.map valIn), .slice false (v.f.map fldIn)])])
 refine hK1 _ _ ?_; clear hK1 K1
 refine awp_seq_k ?_; intro K2 hK2
 refine awp_reg2_seq [] [1, 5] (by decide) ?_
 intro K1 hK1
 refine ⟨⟨rfl, by decide⟩, ?_⟩
 refine ar_loadp rfl (v := .int .i64 v.kind) rfl (wth_get 0 hNb1 rfl) rfl (apartOk_one rfl rfl (Nat.le_of_ble_eq_true rfl)) rfl ?_
 refine ⟨trivial, ?_⟩
 show K1 [(1, .ptr ⟨b1, 0, none⟩), (5, .bool (!(v.kind == 5)))] (AMem.wth m [(b1, .cells [.int .i64 v.kind, .int .i64 v.n, .str v.s, .slice false (v.l.map valIn), .slice false (v.f.map fldIn)])])
 refine hK1 _ _ ?_; clear hK1 K1
 refine awp_cond rfl rfl (fun h1 => ?_) (fun h1 => ?_)
 ·
  replace h1 : v.kind ≠ 5 := (ne_of_beq_false (bnT h1))
  refine awp_reg2_seq [] [2] (by decide) ?_
  intro K1 hK1
  refine ⟨trivial, trivial, ?_⟩
  show K1 [(2, .iface 108 (.int .i64 9))] (AMem.wth m [(b1, .cells [.int .i64 v.kind, .int .i64 v.n, .str v.s, .slice false (v.l.map valIn), .slice false (v.f.map fldIn)])])
  refine hK1 _ _ ?_; clear hK1 K1
  refine awp_toErr 108 [2] ?_
  show AWP _ _ _ _ [(2, .err 108 9)] (AMem.wth m [(b1, .cells [.int .i64 v.kind, .int .i64 v.n, .str v.s, .slice false (v.l.map valIn), .slice false (v.f.map fldIn)])])
  refine awp_ret ?_
  refine ⟨trivial, m, (wth_sub2 (m := m) [(b1, .cells [.int .i64 v.kind, .int .i64 v.n, .str v.s, .slice false (v.l.map valIn), .slice false (v.f.map fldIn)])] [] hNb1 (by simp only [List.map_cons, List.map_nil, List.forall_mem_cons]; exact ⟨hFb1, fun _ h => by cases h⟩)), ?_⟩
  show K (.err 108 9) m
 
  have e0 : attrE v = (9 : Int) := by
   first | (rw [attrE, if_pos (by assumption)]; done) | (rw [attrE, if_neg (by assumption)]; done)
  rw [e0] at hK
  exact hK
 replace h1 : v.kind = 5 := (eq_of_beq (bnF h1))
 refine awp_skip ?_
 refine hK2 _ _ ?_; clear hK2
 refine awp_reg2_seq [] [2] (by decide) ?_
 intro K1 hK1
 refine ar_loadp rfl (v := .agg [.int .i64 v.kind, .int .i64 v.n, .str v.s, .slice false (v.l.map valIn), .slice false (v.f.map fldIn)]) rfl (wth_get 0 hNb1 rfl) rfl (apartOk_agg rfl rfl (Nat.le_of_ble_eq_true rfl)) rfl ?_
 refine u_Check v _ _ ?_
 refine ⟨trivial, ?_⟩
 show K1 [(2, .err 108 (chk v))] (AMem.wth m [(b1, .cells [.int .i64 v.kind, .int .i64 v.n, .str v.s, .slice false (v.l.map valIn), .slice false (v.f.map fldIn)])])
 refine hK1 _ _ ?_; clear hK1 K1
 refine awp_ret ?_
 refine ⟨trivial, m, (wth_sub2 (m := m) [(b1, .cells [.int .i64 v.kind, .int .i64 v.n, .str v.s, .slice false (v.l.map valIn), .slice false (v.f.map fldIn)])] [] hNb1 (by simp only [List.map_cons, List.map_nil, List.forall_mem_cons]; exact ⟨hFb1, fun _ h => by cases h⟩)), ?_⟩
 show K (.err 108 (chk v)) m

 have e0 : attrE v = (chk v : Int) := by
  first | (rw [attrE, if_pos (by assumption)]; done) | (rw [attrE, if_neg (by assumption)]; done)
 rw [e0] at hK
 exact hK

set_option maxHeartbeats 4000000 in
theorem u_call (x d tb ob fb kb nb : Nat) (c : ClSt) (s : DSt) (token : Str) (op : Int) (hN : [x, d, ob, fb].Nodup) (hst : 0 ≤ s.steps) (hst2 : s.steps ≤ 4611686018427387904) (hfu : -1 ≤ s.fuse) (hfu2 : s.fuse ≤ 9223372036854775807) (hca : 0 ≤ c.calls) (hca2 : c.calls ≤ 1000000) (m : AMem)  (K : AV → AMem → Prop) (hK : K (.tuple [dnAV (callR c s token op).2.1, .bool (callR c s token op).2.2.1, .err 108 (callR c s token op).2.2.2]) (AMem.wth m [(x, cObj d tb ob fb (callR c s token op).1.1), (d, dObj kb nb (callR c s token op).1.2), (ob, oObj c.tokens), (fb, fObj c.fails)])) : ACalls Try.prog 81 [.ptr ⟨x, 0, none⟩, .str token, .int .i64 op] (AMem.wth m [(x, cObj d tb ob fb c), (d, .cells [.map kb, .map nb, .slice true (s.wait.map chgAV), .int .i64 s.fuse, .bool s.down, .int .i64 s.steps]), (ob, oObj c.tokens), (fb, fObj c.fails)]) K := by
 refine acalls_enter Try.func81 rfl (by decide) (Nat.le_of_ble_eq_true rfl) ?_
 show AWP _ _ _ _ [(0, .ptr ⟨x, 0, none⟩), (1, .str token), (2, .int .i64 op)] (AMem.wth m [(x, cObj d tb ob fb c), (d, .cells [.map kb, .map nb, .slice true (s.wait.map chgAV), .int .i64 s.fuse, .bool s.down, .int .i64 s.steps]), (ob, oObj c.tokens), (fb, fObj c.fails)])
 refine awp_reg2_seq [] [0, 1, 2, 6] (by decide) ?_
 intro K1 hK1
 refine ar_alloc rfl (z := .agg [.int .i64 0, .int .i64 0]) rfl rfl ?_
 intro b1 hb1
 have hFb1 : m b1 = none := wth_none hb1
 have hNb1 : ([b1, x, d, ob, fb] : List Nat).Nodup := wth_nodup hb1 hN
 refine ⟨trivial, trivial, ?_⟩
 show K1 [(0, .ptr ⟨x, 0, none⟩), (1, .str token), (2, .int .i64 op), (6, .ptr ⟨b1, 0, none⟩)] (AMem.wth m [(b1, .cells [.int .i64 0, .int .i64 0]), (x, cObj d tb ob fb c), (d, .cells [.map kb, .map nb, .slice true (s.wait.map chgAV), .int .i64 s.fuse, .bool s.down, .int .i64 s.steps]), (ob, oObj c.tokens), (fb, fObj c.fails)])
 refine hK1 _ _ ?_; clear hK1 K1
 refine awp_reg2_seq [] [0, 1, 2, 6, 9] (by decide) ?_
 intro K1 hK1
 refine ⟨trivial, trivial, ⟨rfl, by decide⟩, ?_⟩
 refine ar_loadp rfl (v := .ptr ⟨d, 0, none⟩) rfl (wth_get 1 hNb1 rfl) rfl (apartOk_one rfl rfl (Nat.le_of_ble_eq_true rfl)) rfl ?_
 refine ar_mem (wth_split hNb1 (pick_perm [2] _)) ?_
 refine u_Step d kb nb s hst hst2 hfu hfu2 _ _ ?_
 show aopsR _ _ _ _ _ _ (AMem.wth (AMem.wth m [(b1, .cells [.int .i64 0, .int .i64 0]), (x, cObj d tb ob fb c), (ob, oObj c.tokens), (fb, fObj c.fails)]) [(d, .cells [.map kb, .map nb, .slice true ((((stepF s).1).wait).map chgAV), .int .i64 (((stepF s).1).fuse), .bool (((stepF s).1).down), .int .i64 (((stepF s).1).steps)])])
 refine ar_mem (wth_split (m := m) (L := [(b1, .cells [.int .i64 0, .int .i64 0]), (x, cObj d tb ob fb c), (d, .cells [.map kb, .map nb, .slice true ((((stepF s).1).wait).map chgAV), .int .i64 (((stepF s).1).fuse), .bool (((stepF s).1).down), .int .i64 (((stepF s).1).steps)]), (ob, oObj c.tokens), (fb, fObj c.fails)]) hNb1 (pick_perm [2] _)).symm ?_
 refine ⟨trivial, ?_⟩
 show K1 [(0, .ptr ⟨x, 0, none⟩), (1, .str token), (2, .int .i64 op), (6, .ptr ⟨b1, 0, none⟩), (9, .err 108 ((stepF s).2))] (AMem.wth m [(b1, .cells [.int .i64 0, .int .i64 0]), (x, cObj d tb ob fb c), (d, .cells [.map kb, .map nb, .slice true ((((stepF s).1).wait).map chgAV), .int .i64 (((stepF s).1).fuse), .bool (((stepF s).1).down), .int .i64 (((stepF s).1).steps)]), (ob, oObj c.tokens), (fb, fObj c.fails)])
 refine hK1 _ _ ?_; clear hK1 K1
 refine awp_seq_k ?_; intro K2 hK2
 refine awp_reg2_seq [] [0, 1, 2, 6, 9, 19] (by decide) ?_
 intro K1 hK1
 refine ⟨trivial, ⟨rfl, rfl⟩, ?_⟩
 show K1 [(0, .ptr ⟨x, 0, none⟩), (1, .str token), (2, .int .i64 op), (6, .ptr ⟨b1, 0, none⟩), (9, .err 108 ((stepF s).2)), (19, .bool (!(((stepF s).2) == 0)))] (AMem.wth m [(b1, .cells [.int .i64 0, .int .i64 0]), (x, cObj d tb ob fb c), (d, .cells [.map kb, .map nb, .slice true ((((stepF s).1).wait).map chgAV), .int .i64 (((stepF s).1).fuse), .bool (((stepF s).1).down), .int .i64 (((stepF s).1).steps)]), (ob, oObj c.tokens), (fb, fObj c.fails)])
 refine hK1 _ _ ?_; clear hK1 K1
 refine awp_cond rfl rfl (fun h1 => ?_) (fun h1 => ?_)
 ·
  replace h1 : (stepF s).2 ≠ 0 := (ne_of_beq_false (bnT h1))
  refine awp_reg2_seq [] [6, 7, 8] (by decide) ?_
  intro K1 hK1
  refine ⟨⟨rfl, by simp only [List.forall_mem_cons]; exact ⟨rfl, rfl, fun _ h => by cases h⟩, fun _ h => by cases h⟩, trivial, ?_⟩
  refine ar_storep rfl 0 (v := .agg [.int .i64 0, .int .i64 0]) (l' := [.int .i64 0, .int .i64 0]) rfl rfl hNb1 rfl rfl rfl rfl rfl (Nat.le_of_ble_eq_true rfl) rfl ?_
  refine ⟨trivial, trivial, ?_⟩
  show K1 [(6, .ptr ⟨b1, 0, none⟩), (7, .bool false), (8, .err 108 ((stepF s).2))] (AMem.wth m [(b1, .cells [.int .i64 0, .int .i64 0]), (x, cObj d tb ob fb c), (d, .cells [.map kb, .map nb, .slice true ((((stepF s).1).wait).map chgAV), .int .i64 (((stepF s).1).fuse), .bool (((stepF s).1).down), .int .i64 (((stepF s).1).steps)]), (ob, oObj c.tokens), (fb, fObj c.fails)])
  refine hK1 _ _ ?_; clear hK1 K1
  refine awp_ret ?_
  refine resK_cell3 (fn := Try.f81) (a := 6) (t := 134) (s := 7) (u := 8) (b := b1) (off := 0) rfl rfl (wth_get  (m := m) (L := [(b1, .cells [.int .i64 0, .int .i64 0]), (x, cObj d tb ob fb c), (d, .cells [.map kb, .map nb, .slice true ((((stepF s).1).wait).map chgAV), .int .i64 (((stepF s).1).fuse), .bool (((stepF s).1).down), .int .i64 (((stepF s).1).steps)]), (ob, oObj c.tokens), (fb, fObj c.fails)]) 0 hNb1 rfl) (apartOk_agg rfl rfl (Nat.le_of_ble_eq_true rfl)) (.agg [.int .i64 0, .int .i64 0]) (.bool false) (.err 108 ((stepF s).2)) rfl rfl rfl (.bool false) (.err 108 ((stepF s).2)) rfl rfl (AMem.wth m [(x, cObj d tb ob fb c), (d, .cells [.map kb, .map nb, .slice true ((((stepF s).1).wait).map chgAV), .int .i64 (((stepF s).1).fuse), .bool (((stepF s).1).down), .int .i64 (((stepF s).1).steps)]), (ob, oObj c.tokens), (fb, fObj c.fails)]) ((wth_sub2 (m := m) [(b1, .cells [.int .i64 0, .int .i64 0])] [(x, cObj d tb ob fb c), (d, .cells [.map kb, .map nb, .slice true ((((stepF s).1).wait).map chgAV), .int .i64 (((stepF s).1).fuse), .bool (((stepF s).1).down), .int .i64 (((stepF s).1).steps)]), (ob, oObj c.tokens), (fb, fObj c.fails)] hNb1 (by simp only [List.map_cons, List.map_nil, List.forall_mem_cons]; exact ⟨hFb1, fun _ h => by cases h⟩))) ?_
  show K (.tuple [.agg [.int .i64 0, .int .i64 0], .bool false, .err 108 ((stepF s).2)]) (AMem.wth m [(x, cObj d tb ob fb c), (d, .cells [.map kb, .map nb, .slice true ((((stepF s).1).wait).map chgAV), .int .i64 (((stepF s).1).fuse), .bool (((stepF s).1).down), .int .i64 (((stepF s).1).steps)]), (ob, oObj c.tokens), (fb, fObj c.fails)])
 
  have e0 : callR c s token op = (((c, (stepF s).1), ((⟨0, 0⟩ : Dn), false, (stepF s).2)) : (ClSt × DSt) × (Dn × Bool × Int)) := by
   first | exact callR_1 (by assumption) | exact callR_2 (by assumption) (by assumption) | exact callR_3 (by assumption) (by assumption) (by assumption) | exact callR_4 (by assumption) (by assumption) (by assumption)
  rw [e0] at hK
  exact hK
 replace h1 : (stepF s).2 = 0 := (eq_of_beq (bnF h1))
 refine awp_skip ?_
 refine hK2 _ _ ?_; clear hK2
 refine awp_reg2_seq [] [0, 1, 2, 6, 10] (by decide) ?_
 intro K1 hK1
 refine ⟨trivial, trivial, ⟨rfl, by decide⟩, ?_⟩
 refine ar_loadp rfl (v := .int .i64 c.calls) rfl (wth_get 1 hNb1 rfl) rfl (apartOk_one rfl rfl (Nat.le_of_ble_eq_true rfl)) rfl ?_
 refine ⟨trivial, ?_⟩
 show K1 [(0, .ptr ⟨x, 0, none⟩), (1, .str token), (2, .int .i64 op), (6, .ptr ⟨b1, 0, none⟩), (10, .int .i64 c.calls)] (AMem.wth m [(b1, .cells [.int .i64 0, .int .i64 0]), (x, cObj d tb ob fb c), (d, .cells [.map kb, .map nb, .slice true ((((stepF s).1).wait).map chgAV), .int .i64 (((stepF s).1).fuse), .bool (((stepF s).1).down), .int .i64 (((stepF s).1).steps)]), (ob, oObj c.tokens), (fb, fObj c.fails)])
 refine hK1 _ _ ?_; clear hK1 K1
 refine awp_reg2_seq [] [0, 1, 2, 6, 10] (by decide) ?_
 intro K1 hK1
 refine ⟨trivial, trivial, ⟨rfl, by decide⟩, ?_⟩
 refine ar_loadp rfl (v := .int .i64 c.calls) rfl (wth_get 1 hNb1 rfl) rfl (apartOk_one rfl rfl (Nat.le_of_ble_eq_true rfl)) rfl ?_
 refine ar_add rfl (a := c.calls) (b := 1) rfl rfl (by omega) (by omega) ?_
 refine ⟨trivial, ⟨rfl, by decide⟩, ?_⟩
 refine ar_storep rfl 1 (v := .int .i64 (c.calls + 1)) (l' := [.ptr ⟨d, 0, none⟩, .map tb, .map ob, .int .i64 c.next, .int .i64 c.quota, .int .i64 (c.calls + 1), .map fb]) rfl rfl hNb1 rfl rfl rfl rfl rfl (Nat.le_of_ble_eq_true rfl) rfl ?_
 show K1 [(0, .ptr ⟨x, 0, none⟩), (1, .str token), (2, .int .i64 op), (6, .ptr ⟨b1, 0, none⟩), (10, .int .i64 c.calls)] (AMem.wth m [(b1, .cells [.int .i64 0, .int .i64 0]), (x, .cells [.ptr ⟨d, 0, none⟩, .map tb, .map ob, .int .i64 c.next, .int .i64 c.quota, .int .i64 (c.calls + 1), .map fb]), (d, .cells [.map kb, .map nb, .slice true ((((stepF s).1).wait).map chgAV), .int .i64 (((stepF s).1).fuse), .bool (((stepF s).1).down), .int .i64 (((stepF s).1).steps)]), (ob, oObj c.tokens), (fb, fObj c.fails)])
 refine hK1 _ _ ?_; clear hK1 K1
 refine awp_seq_k ?_; intro K3 hK3
 refine awp_reg2_seq [] [0, 1, 2, 6, 38] (by decide) ?_
 intro K1 hK1
 refine ⟨trivial, trivial, ⟨rfl, by decide⟩, ?_⟩
 refine ar_loadp rfl (v := .map fb) rfl (wth_get 1 hNb1 rfl) rfl (apartOk_one rfl rfl (Nat.le_of_ble_eq_true rfl)) rfl ?_
 refine ⟨trivial, ?_⟩
 refine ar_lookup rfl (m := m) (L := [(b1, .cells [.int .i64 0, .int .i64 0]), (x, .cells [.ptr ⟨d, 0, none⟩, .map tb, .map ob, .int .i64 c.next, .int .i64 c.quota, .int .i64 (c.calls + 1), .map fb]), (d, .cells [.map kb, .map nb, .slice true ((((stepF s).1).wait).map chgAV), .int .i64 (((stepF s).1).fuse), .bool (((stepF s).1).down), .int .i64 (((stepF s).1).steps)]), (ob, oObj c.tokens), (fb, fObj c.fails)]) intAV boolAV intKey_ok c.fails c.calls false rfl rfl rfl rfl rfl (wth_get 4 hNb1 rfl) rfl ?_
 show K1 [(0, .ptr ⟨x, 0, none⟩), (1, .str token), (2, .int .i64 op), (6, .ptr ⟨b1, 0, none⟩), (38, .bool ((mget c.fails c.calls).getD false))] (AMem.wth m [(b1, .cells [.int .i64 0, .int .i64 0]), (x, .cells [.ptr ⟨d, 0, none⟩, .map tb, .map ob, .int .i64 c.next, .int .i64 c.quota, .int .i64 (c.calls + 1), .map fb]), (d, .cells [.map kb, .map nb, .slice true ((((stepF s).1).wait).map chgAV), .int .i64 (((stepF s).1).fuse), .bool (((stepF s).1).down), .int .i64 (((stepF s).1).steps)]), (ob, oObj c.tokens), (fb, fObj c.fails)])
 refine hK1 _ _ ?_; clear hK1 K1
 refine awp_cond rfl rfl (fun h2 => ?_) (fun h2 => ?_)
 ·
  replace h2 : (mget c.fails c.calls).getD false = true := h2
  refine awp_reg2_seq [] [6, 7, 8] (by decide) ?_
  intro K1 hK1
  refine ⟨⟨rfl, by simp only [List.forall_mem_cons]; exact ⟨rfl, rfl, fun _ h => by cases h⟩, fun _ h => by cases h⟩, trivial, ?_⟩
  refine ar_storep rfl 0 (v := .agg [.int .i64 0, .int .i64 0]) (l' := [.int .i64 0, .int .i64 0]) rfl rfl hNb1 rfl rfl rfl rfl rfl (Nat.le_of_ble_eq_true rfl) rfl ?_
  refine ⟨trivial, trivial, ?_⟩
  show K1 [(6, .ptr ⟨b1, 0, none⟩), (7, .bool false), (8, .iface 108 (.int .i64 12))] (AMem.wth m [(b1, .cells [.int .i64 0, .int .i64 0]), (x, .cells [.ptr ⟨d, 0, none⟩, .map tb, .map ob, .int .i64 c.next, .int .i64 c.quota, .int .i64 (c.calls + 1), .map fb]), (d, .cells [.map kb, .map nb, .slice true ((((stepF s).1).wait).map chgAV), .int .i64 (((stepF s).1).fuse), .bool (((stepF s).1).down), .int .i64 (((stepF s).1).steps)]), (ob, oObj c.tokens), (fb, fObj c.fails)])
  refine hK1 _ _ ?_; clear hK1 K1
  refine awp_toErr 108 [8] ?_
  show AWP _ _ _ _ [(6, .ptr ⟨b1, 0, none⟩), (7, .bool false), (8, .err 108 12)] (AMem.wth m [(b1, .cells [.int .i64 0, .int .i64 0]), (x, .cells [.ptr ⟨d, 0, none⟩, .map tb, .map ob, .int .i64 c.next, .int .i64 c.quota, .int .i64 (c.calls + 1), .map fb]), (d, .cells [.map kb, .map nb, .slice true ((((stepF s).1).wait).map chgAV), .int .i64 (((stepF s).1).fuse), .bool (((stepF s).1).down), .int .i64 (((stepF s).1).steps)]), (ob, oObj c.tokens), (fb, fObj c.fails)])
  refine awp_ret ?_
  refine resK_cell3 (fn := Try.f81) (a := 6) (t := 134) (s := 7) (u := 8) (b := b1) (off := 0) rfl rfl (wth_get  (m := m) (L := [(b1, .cells [.int .i64 0, .int .i64 0]), (x, .cells [.ptr ⟨d, 0, none⟩, .map tb, .map ob, .int .i64 c.next, .int .i64 c.quota, .int .i64 (c.calls + 1), .map fb]), (d, .cells [.map kb, .map nb, .slice true ((((stepF s).1).wait).map chgAV), .int .i64 (((stepF s).1).fuse), .bool (((stepF s).1).down), .int .i64 (((stepF s).1).steps)]), (ob, oObj c.tokens), (fb, fObj c.fails)]) 0 hNb1 rfl) (apartOk_agg rfl rfl (Nat.le_of_ble_eq_true rfl)) (.agg [.int .i64 0, .int .i64 0]) (.bool false) (.err 108 12) rfl rfl rfl (.bool false) (.err 108 12) rfl rfl (AMem.wth m [(x, .cells [.ptr ⟨d, 0, none⟩, .map tb, .map ob, .int .i64 c.next, .int .i64 c.quota, .int .i64 (c.calls + 1), .map fb]), (d, .cells [.map kb, .map nb, .slice true ((((stepF s).1).wait).map chgAV), .int .i64 (((stepF s).1).fuse), .bool (((stepF s).1).down), .int .i64 (((stepF s).1).steps)]), (ob, oObj c.tokens), (fb, fObj c.fails)]) ((wth_sub2 (m := m) [(b1, .cells [.int .i64 0, .int .i64 0])] [(x, .cells [.ptr ⟨d, 0, none⟩, .map tb, .map ob, .int .i64 c.next, .int .i64 c.quota, .int .i64 (c.calls + 1), .map fb]), (d, .cells [.map kb, .map nb, .slice true ((((stepF s).1).wait).map chgAV), .int .i64 (((stepF s).1).fuse), .bool (((stepF s).1).down), .int .i64 (((stepF s).1).steps)]), (ob, oObj c.tokens), (fb, fObj c.fails)] hNb1 (by simp only [List.map_cons, List.map_nil, List.forall_mem_cons]; exact ⟨hFb1, fun _ h => by cases h⟩))) ?_
  show K (.tuple [.agg [.int .i64 0, .int .i64 0], .bool false, .err 108 12]) (AMem.wth m [(x, .cells [.ptr ⟨d, 0, none⟩, .map tb, .map ob, .int .i64 c.next, .int .i64 c.quota, .int .i64 (c.calls + 1), .map fb]), (d, .cells [.map kb, .map nb, .slice true ((((stepF s).1).wait).map chgAV), .int .i64 (((stepF s).1).fuse), .bool (((stepF s).1).down), .int .i64 (((stepF s).1).steps)]), (ob, oObj c.tokens), (fb, fObj c.fails)])
 
  have e0 : callR c s token op = ((((⟨c.things, c.tokens, c.next, c.quota, c.calls + 1, c.fails⟩ : ClSt), (stepF s).1), ((⟨0, 0⟩ : Dn), false, 12)) : (ClSt × DSt) × (Dn × Bool × Int)) := by
   first | exact callR_1 (by assumption) | exact callR_2 (by assumption) (by assumption) | exact callR_3 (by assumption) (by assumption) (by assumption) | exact callR_4 (by assumption) (by assumption) (by assumption)
  rw [e0] at hK
  exact hK
 replace h2 : (mget c.fails c.calls).getD false = false := h2
 refine awp_skip ?_
 refine hK3 _ _ ?_; clear hK3
 refine awp_reg2_seq [] [2, 6, 11, 12] (by decide) ?_
 intro K1 hK1
 refine ⟨trivial, trivial, ⟨rfl, by decide⟩, ?_⟩
 refine ar_loadp rfl (v := .map ob) rfl (wth_get 1 hNb1 rfl) rfl (apartOk_one rfl rfl (Nat.le_of_ble_eq_true rfl)) rfl ?_
 refine ⟨trivial, ?_⟩
 refine ar_lookupOkP rfl (m := m) (L := [(b1, .cells [.int .i64 0, .int .i64 0]), (x, .cells [.ptr ⟨d, 0, none⟩, .map tb, .map ob, .int .i64 c.next, .int .i64 c.quota, .int .i64 (c.calls + 1), .map fb]), (d, .cells [.map kb, .map nb, .slice true ((((stepF s).1).wait).map chgAV), .int .i64 (((stepF s).1).fuse), .bool (((stepF s).1).down), .int .i64 (((stepF s).1).steps)]), (ob, oObj c.tokens), (fb, fObj c.fails)]) strAV dnAV strKey_ok c.tokens token zD rfl rfl rfl rfl rfl rfl (wth_get 3 hNb1 rfl) rfl ?_
 refine ⟨trivial, (Nat.le_of_ble_eq_true rfl), (Nat.le_of_ble_eq_true rfl), ?_⟩
 refine ar_alloc rfl (z := .agg [.int .i64 0, .int .i64 0]) rfl rfl ?_
 intro b2 hb2
 have hFb2 : m b2 = none := wth_none hb2
 have hNb2 : ([b2, b1, x, d, ob, fb] : List Nat).Nodup := wth_nodup hb2 hNb1
 refine ar_storep rfl 0 (v := dnAV ((mget c.tokens token).getD zD)) (l' := [.int .i64 (((mget c.tokens token).getD zD).op), .int .i64 (((mget c.tokens token).getD zD).id)]) rfl (by rfl) hNb2 rfl rfl rfl rfl rfl (Nat.le_of_ble_eq_true rfl) rfl ?_
 refine ⟨trivial, ?_⟩
 show K1 [(2, .int .i64 op), (6, .ptr ⟨b1, 0, none⟩), (11, .ptr ⟨b2, 0, none⟩), (12, .bool ((mget c.tokens token).isSome))] (AMem.wth m [(b2, .cells [.int .i64 (((mget c.tokens token).getD zD).op), .int .i64 (((mget c.tokens token).getD zD).id)]), (b1, .cells [.int .i64 0, .int .i64 0]), (x, .cells [.ptr ⟨d, 0, none⟩, .map tb, .map ob, .int .i64 c.next, .int .i64 c.quota, .int .i64 (c.calls + 1), .map fb]), (d, .cells [.map kb, .map nb, .slice true ((((stepF s).1).wait).map chgAV), .int .i64 (((stepF s).1).fuse), .bool (((stepF s).1).down), .int .i64 (((stepF s).1).steps)]), (ob, oObj c.tokens), (fb, fObj c.fails)])
 refine hK1 _ _ ?_; clear hK1 K1
 refine awp_seq_k ?_; intro K4 hK4
 refine awp_reg2_seq [] [6, 11, 12, 56] (by decide) ?_
 intro K1 hK1
 suffices key : K1 [(6, .ptr ⟨b1, 0, none⟩), (11, .ptr ⟨b2, 0, none⟩), (12, .bool ((mget c.tokens token).isSome)), (56, .bool (((mget c.tokens token).isSome) && (!((((mget c.tokens token).getD zD).op) == op))))] (AMem.wth m [(b2, .cells [.int .i64 (((mget c.tokens token).getD zD).op), .int .i64 (((mget c.tokens token).getD zD).id)]), (b1, .cells [.int .i64 0, .int .i64 0]), (x, .cells [.ptr ⟨d, 0, none⟩, .map tb, .map ob, .int .i64 c.next, .int .i64 c.quota, .int .i64 (c.calls + 1), .map fb]), (d, .cells [.map kb, .map nb, .slice true ((((stepF s).1).wait).map chgAV), .int .i64 (((stepF s).1).fuse), .bool (((stepF s).1).down), .int .i64 (((stepF s).1).steps)]), (ob, oObj c.tokens), (fb, fObj c.fails)]) by
  refine ⟨trivial, trivial, ?_⟩
  show aopsR _ _ _ _ _ [(51, .bool ((mget c.tokens token).isSome)), (50, .bool ((mget c.tokens token).isSome)), (2, .int .i64 op), (6, .ptr ⟨b1, 0, none⟩), (11, .ptr ⟨b2, 0, none⟩), (12, .bool ((mget c.tokens token).isSome))] _
  revert key
  cases h3 : ((mget c.tokens token).isSome)
  ·
   replace h3 : (mget c.tokens token).isSome = false := h3
   intro key
   refine ar_off rfl (ar_off rfl (ar_off rfl (ar_off rfl ?_)))
   exact key
  ·
   replace h3 : (mget c.tokens token).isSome = true := h3
   intro key
   refine ⟨⟨rfl, by decide⟩, ?_⟩
   refine ar_loadp rfl (v := .int .i64 (((mget c.tokens token).getD zD).op)) rfl (wth_get 0 hNb2 rfl) rfl (apartOk_one rfl rfl (Nat.le_of_ble_eq_true rfl)) rfl ?_
   refine ⟨trivial, trivial, ?_⟩
   exact key
 refine hK1 _ _ ?_; clear hK1 K1
 refine awp_cond rfl rfl (fun h4 => ?_) (fun h4 => ?_)
 ·
  replace h4 : ((mget c.tokens token).isSome = true) ∧ (((mget c.tokens token).getD zD).op ≠ op) := ⟨(bandL h4), (ne_of_beq_false (bnT (bandR h4)))⟩
  refine awp_reg2_seq [] [6, 7, 8] (by decide) ?_
  intro K1 hK1
  refine ⟨⟨rfl, by simp only [List.forall_mem_cons]; exact ⟨rfl, rfl, fun _ h => by cases h⟩, fun _ h => by cases h⟩, trivial, ?_⟩
  refine ar_storep rfl 1 (v := .agg [.int .i64 0, .int .i64 0]) (l' := [.int .i64 0, .int .i64 0]) rfl rfl hNb2 rfl rfl rfl rfl rfl (Nat.le_of_ble_eq_true rfl) rfl ?_
  refine ⟨trivial, trivial, ?_⟩
  show K1 [(6, .ptr ⟨b1, 0, none⟩), (7, .bool false), (8, .iface 108 (.int .i64 15))] (AMem.wth m [(b2, .cells [.int .i64 (((mget c.tokens token).getD zD).op), .int .i64 (((mget c.tokens token).getD zD).id)]), (b1, .cells [.int .i64 0, .int .i64 0]), (x, .cells [.ptr ⟨d, 0, none⟩, .map tb, .map ob, .int .i64 c.next, .int .i64 c.quota, .int .i64 (c.calls + 1), .map fb]), (d, .cells [.map kb, .map nb, .slice true ((((stepF s).1).wait).map chgAV), .int .i64 (((stepF s).1).fuse), .bool (((stepF s).1).down), .int .i64 (((stepF s).1).steps)]), (ob, oObj c.tokens), (fb, fObj c.fails)])
  refine hK1 _ _ ?_; clear hK1 K1
  refine awp_toErr 108 [8] ?_
  show AWP _ _ _ _ [(6, .ptr ⟨b1, 0, none⟩), (7, .bool false), (8, .err 108 15)] (AMem.wth m [(b2, .cells [.int .i64 (((mget c.tokens token).getD zD).op), .int .i64 (((mget c.tokens token).getD zD).id)]), (b1, .cells [.int .i64 0, .int .i64 0]), (x, .cells [.ptr ⟨d, 0, none⟩, .map tb, .map ob, .int .i64 c.next, .int .i64 c.quota, .int .i64 (c.calls + 1), .map fb]), (d, .cells [.map kb, .map nb, .slice true ((((stepF s).1).wait).map chgAV), .int .i64 (((stepF s).1).fuse), .bool (((stepF s).1).down), .int .i64 (((stepF s).1).steps)]), (ob, oObj c.tokens), (fb, fObj c.fails)])
  refine awp_ret ?_
  refine resK_cell3 (fn := Try.f81) (a := 6) (t := 134) (s := 7) (u := 8) (b := b1) (off := 0) rfl rfl (wth_get  (m := m) (L := [(b2, .cells [.int .i64 (((mget c.tokens token).getD zD).op), .int .i64 (((mget c.tokens token).getD zD).id)]), (b1, .cells [.int .i64 0, .int .i64 0]), (x, .cells [.ptr ⟨d, 0, none⟩, .map tb, .map ob, .int .i64 c.next, .int .i64 c.quota, .int .i64 (c.calls + 1), .map fb]), (d, .cells [.map kb, .map nb, .slice true ((((stepF s).1).wait).map chgAV), .int .i64 (((stepF s).1).fuse), .bool (((stepF s).1).down), .int .i64 (((stepF s).1).steps)]), (ob, oObj c.tokens), (fb, fObj c.fails)]) 1 hNb2 rfl) (apartOk_agg rfl rfl (Nat.le_of_ble_eq_true rfl)) (.agg [.int .i64 0, .int .i64 0]) (.bool false) (.err 108 15) rfl rfl rfl (.bool false) (.err 108 15) rfl rfl (AMem.wth m [(x, .cells [.ptr ⟨d, 0, none⟩, .map tb, .map ob, .int .i64 c.next, .int .i64 c.quota, .int .i64 (c.calls + 1), .map fb]), (d, .cells [.map kb, .map nb, .slice true ((((stepF s).1).wait).map chgAV), .int .i64 (((stepF s).1).fuse), .bool (((stepF s).1).down), .int .i64 (((stepF s).1).steps)]), (ob, oObj c.tokens), (fb, fObj c.fails)]) ((wth_sub2 (m := m) [(b2, .cells [.int .i64 (((mget c.tokens token).getD zD).op), .int .i64 (((mget c.tokens token).getD zD).id)]), (b1, .cells [.int .i64 0, .int .i64 0])] [(x, .cells [.ptr ⟨d, 0, none⟩, .map tb, .map ob, .int .i64 c.next, .int .i64 c.quota, .int .i64 (c.calls + 1), .map fb]), (d, .cells [.map kb, .map nb, .slice true ((((stepF s).1).wait).map chgAV), .int .i64 (((stepF s).1).fuse), .bool (((stepF s).1).down), .int .i64 (((stepF s).1).steps)]), (ob, oObj c.tokens), (fb, fObj c.fails)] hNb2 (by simp only [List.map_cons, List.map_nil, List.forall_mem_cons]; exact ⟨hFb2, hFb1, fun _ h => by cases h⟩))) ?_
  show K (.tuple [.agg [.int .i64 0, .int .i64 0], .bool false, .err 108 15]) (AMem.wth m [(x, .cells [.ptr ⟨d, 0, none⟩, .map tb, .map ob, .int .i64 c.next, .int .i64 c.quota, .int .i64 (c.calls + 1), .map fb]), (d, .cells [.map kb, .map nb, .slice true ((((stepF s).1).wait).map chgAV), .int .i64 (((stepF s).1).fuse), .bool (((stepF s).1).down), .int .i64 (((stepF s).1).steps)]), (ob, oObj c.tokens), (fb, fObj c.fails)])
 
  have e0 : callR c s token op = ((((⟨c.things, c.tokens, c.next, c.quota, c.calls + 1, c.fails⟩ : ClSt), (stepF s).1), ((⟨0, 0⟩ : Dn), false, 15)) : (ClSt × DSt) × (Dn × Bool × Int)) := by
   first | exact callR_1 (by assumption) | exact callR_2 (by assumption) (by assumption) | exact callR_3 (by assumption) (by assumption) (by assumption) | exact callR_4 (by assumption) (by assumption) (by assumption)
  rw [e0] at hK
  exact hK
 replace h4 : ((mget c.tokens token).isSome = false) ∨ (((mget c.tokens token).getD zD).op = op) := ((bandF h4).imp (fun q => q) (fun q => (eq_of_beq (bnF q))))
 refine awp_skip ?_
 refine hK4 _ _ ?_; clear hK4
 refine awp_reg2_seq [] [6, 7, 8] (by decide) ?_
 intro K1 hK1
 refine ar_loadp rfl (v := .agg [.int .i64 (((mget c.tokens token).getD zD).op), .int .i64 (((mget c.tokens token).getD zD).id)]) rfl (wth_get 0 hNb2 rfl) rfl (apartOk_agg rfl rfl (Nat.le_of_ble_eq_true rfl)) rfl ?_
 refine ⟨trivial, ?_⟩
 refine ar_storep rfl 1 (v := .agg [.int .i64 (((mget c.tokens token).getD zD).op), .int .i64 (((mget c.tokens token).getD zD).id)]) (l' := [.int .i64 (((mget c.tokens token).getD zD).op), .int .i64 (((mget c.tokens token).getD zD).id)]) rfl rfl hNb2 rfl rfl rfl rfl rfl (Nat.le_of_ble_eq_true rfl) rfl ?_
 refine ⟨trivial, trivial, ?_⟩
 show K1 [(6, .ptr ⟨b1, 0, none⟩), (7, .bool ((mget c.tokens token).isSome)), (8, .nilIface)] (AMem.wth m [(b2, .cells [.int .i64 (((mget c.tokens token).getD zD).op), .int .i64 (((mget c.tokens token).getD zD).id)]), (b1, .cells [.int .i64 (((mget c.tokens token).getD zD).op), .int .i64 (((mget c.tokens token).getD zD).id)]), (x, .cells [.ptr ⟨d, 0, none⟩, .map tb, .map ob, .int .i64 c.next, .int .i64 c.quota, .int .i64 (c.calls + 1), .map fb]), (d, .cells [.map kb, .map nb, .slice true ((((stepF s).1).wait).map chgAV), .int .i64 (((stepF s).1).fuse), .bool (((stepF s).1).down), .int .i64 (((stepF s).1).steps)]), (ob, oObj c.tokens), (fb, fObj c.fails)])
 refine hK1 _ _ ?_; clear hK1 K1
 refine awp_toErr 108 [8] ?_
 show AWP _ _ _ _ [(6, .ptr ⟨b1, 0, none⟩), (7, .bool ((mget c.tokens token).isSome)), (8, .err 108 0)] (AMem.wth m [(b2, .cells [.int .i64 (((mget c.tokens token).getD zD).op), .int .i64 (((mget c.tokens token).getD zD).id)]), (b1, .cells [.int .i64 (((mget c.tokens token).getD zD).op), .int .i64 (((mget c.tokens token).getD zD).id)]), (x, .cells [.ptr ⟨d, 0, none⟩, .map tb, .map ob, .int .i64 c.next, .int .i64 c.quota, .int .i64 (c.calls + 1), .map fb]), (d, .cells [.map kb, .map nb, .slice true ((((stepF s).1).wait).map chgAV), .int .i64 (((stepF s).1).fuse), .bool (((stepF s).1).down), .int .i64 (((stepF s).1).steps)]), (ob, oObj c.tokens), (fb, fObj c.fails)])
 refine awp_ret ?_
 refine resK_cell3 (fn := Try.f81) (a := 6) (t := 134) (s := 7) (u := 8) (b := b1) (off := 0) rfl rfl (wth_get  (m := m) (L := [(b2, .cells [.int .i64 (((mget c.tokens token).getD zD).op), .int .i64 (((mget c.tokens token).getD zD).id)]), (b1, .cells [.int .i64 (((mget c.tokens token).getD zD).op), .int .i64 (((mget c.tokens token).getD zD).id)]), (x, .cells [.ptr ⟨d, 0, none⟩, .map tb, .map ob, .int .i64 c.next, .int .i64 c.quota, .int .i64 (c.calls + 1), .map fb]), (d, .cells [.map kb, .map nb, .slice true ((((stepF s).1).wait).map chgAV), .int .i64 (((stepF s).1).fuse), .bool (((stepF s).1).down), .int .i64 (((stepF s).1).steps)]), (ob, oObj c.tokens), (fb, fObj c.fails)]) 1 hNb2 rfl) (apartOk_agg rfl rfl (Nat.le_of_ble_eq_true rfl)) (.agg [.int .i64 (((mget c.tokens token).getD zD).op), .int .i64 (((mget c.tokens token).getD zD).id)]) (.bool ((mget c.tokens token).isSome)) (.err 108 0) rfl rfl rfl (.bool ((mget c.tokens token).isSome)) (.err 108 0) rfl rfl (AMem.wth m [(x, .cells [.ptr ⟨d, 0, none⟩, .map tb, .map ob, .int .i64 c.next, .int .i64 c.quota, .int .i64 (c.calls + 1), .map fb]), (d, .cells [.map kb, .map nb, .slice true ((((stepF s).1).wait).map chgAV), .int .i64 (((stepF s).1).fuse), .bool (((stepF s).1).down), .int .i64 (((stepF s).1).steps)]), (ob, oObj c.tokens), (fb, fObj c.fails)]) ((wth_sub2 (m := m) [(b2, .cells [.int .i64 (((mget c.tokens token).getD zD).op), .int .i64 (((mget c.tokens token).getD zD).id)]), (b1, .cells [.int .i64 (((mget c.tokens token).getD zD).op), .int .i64 (((mget c.tokens token).getD zD).id)])] [(x, .cells [.ptr ⟨d, 0, none⟩, .map tb, .map ob, .int .i64 c.next, .int .i64 c.quota, .int .i64 (c.calls + 1), .map fb]), (d, .cells [.map kb, .map nb, .slice true ((((stepF s).1).wait).map chgAV), .int .i64 (((stepF s).1).fuse), .bool (((stepF s).1).down), .int .i64 (((stepF s).1).steps)]), (ob, oObj c.tokens), (fb, fObj c.fails)] hNb2 (by simp only [List.map_cons, List.map_nil, List.forall_mem_cons]; exact ⟨hFb2, hFb1, fun _ h => by cases h⟩))) ?_
 show K (.tuple [.agg [.int .i64 (((mget c.tokens token).getD zD).op), .int .i64 (((mget c.tokens token).getD zD).id)], .bool ((mget c.tokens token).isSome), .err 108 0]) (AMem.wth m [(x, .cells [.ptr ⟨d, 0, none⟩, .map tb, .map ob, .int .i64 c.next, .int .i64 c.quota, .int .i64 (c.calls + 1), .map fb]), (d, .cells [.map kb, .map nb, .slice true ((((stepF s).1).wait).map chgAV), .int .i64 (((stepF s).1).fuse), .bool (((stepF s).1).down), .int .i64 (((stepF s).1).steps)]), (ob, oObj c.tokens), (fb, fObj c.fails)])

 have e0 : callR c s token op = ((((⟨c.things, c.tokens, c.next, c.quota, c.calls + 1, c.fails⟩ : ClSt), (stepF s).1), (((mget c.tokens token).getD zD), ((mget c.tokens token).isSome), 0)) : (ClSt × DSt) × (Dn × Bool × Int)) := by
  first | exact callR_1 (by assumption) | exact callR_2 (by assumption) (by assumption) | exact callR_3 (by assumption) (by assumption) (by assumption) | exact callR_4 (by assumption) (by assumption) (by assumption)
 rw [e0] at hK
 exact hK


theorem u_callE (x d tb ob fb kb nb : Nat) (c : ClSt) (s : DSt) (token : Str) (op : Int) (hN : [x, d, ob, fb].Nodup) (hst : 0 ≤ s.steps) (hst2 : s.steps ≤ 4611686018427387904) (hfu : -1 ≤ s.fuse) (hfu2 : s.fuse ≤ 9223372036854775807) (hca : 0 ≤ c.calls) (hca2 : c.calls ≤ 1000000) (m : AMem) (K : AV → AMem → Prop) (hK : K (.tuple [dnAV (callT c s token op).1, .bool (callT c s token op).2.1, .err 108 (callT c s token op).2.2]) (AMem.wth m [(x, cObj d tb ob fb { c with calls := ccalls c s token op }), (d, dObj kb nb (stepF s).1), (ob, oObj c.tokens), (fb, fObj c.fails)])) : ACalls Try.prog 81 [.ptr ⟨x, 0, none⟩, .str token, .int .i64 op] (AMem.wth m [(x, cObj d tb ob fb c), (d, .cells [.map kb, .map nb, .slice true (s.wait.map chgAV), .int .i64 s.fuse, .bool s.down, .int .i64 s.steps]), (ob, oObj c.tokens), (fb, fObj c.fails)]) K :=
  u_call x d tb ob fb kb nb c s token op hN hst hst2 hfu hfu2 hca hca2 m K (by rw [callR_eq]; exact hK)

end Go.Proofs
end

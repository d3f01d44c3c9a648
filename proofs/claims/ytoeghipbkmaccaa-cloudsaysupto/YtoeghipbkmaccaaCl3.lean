import Derived.Test.YtoeghipbkmaccaaProg
import Derived.Test.YtoeghipbkmaccaaWl8
import Derived.Test.YtoeghipbkmaccaaWxw
import Derived.Test.YtoeghipbkmaccaaSrt
section
namespace Go.Proofs
open Go Go.Aw
set_option maxRecDepth 100000


structure Thg where
  id : Int
  kind : Str
  v : Val
instance : Inhabited Thg := ⟨⟨0, [], zV⟩⟩
def thgAV (x : Thg) : AV := .agg [.int .i64 x.id, .str x.kind, .int .i64 x.v.kind, .int .i64 x.v.n, .str x.v.s, .slice false (x.v.l.map valIn), .slice false (x.v.f.map fldIn)]
def zT : Thg := ⟨0, [], zV⟩
structure Dn where
  op : Int
  id : Int
instance : Inhabited Dn := ⟨⟨0, 0⟩⟩
def dnAV (x : Dn) : AV := .agg [.int .i64 x.op, .int .i64 x.id]
def zD : Dn := ⟨0, 0⟩
/-- A cloud. -/
structure ClSt where
  things : List (Int × Thg)
  tokens : List (Str × Dn)
  next : Int
  quota : Int
  calls : Int
  fails : List (Int × Bool)
def cObj (d tb ob fb : Nat) (c : ClSt) : AObj := .cells [.ptr ⟨d, 0, none⟩, .map tb, .map ob, .int .i64 c.next, .int .i64 c.quota, .int .i64 c.calls, .map fb]
def tObj (l : List (Int × Thg)) : AObj := .map (List.map (mapAV intAV thgAV) l)
def oObj (l : List (Str × Dn)) : AObj := .map (List.map (mapAV strAV dnAV) l)
def fObj (l : List (Int × Bool)) : AObj := .map (List.map (mapAV intAV boolAV) l)
/-- What is wrong with attributes. -/
def attrE (v : Val) : Int := if v.kind = 5 then chk v else 9
/-- A call that would change something. -/
def callR (c : ClSt) (s : DSt) (token : Str) (op : Int) : (ClSt × DSt) × (Dn × Bool × Int) :=
  if (stepF s).2 ≠ 0 then ((c, (stepF s).1), (zD, false, (stepF s).2))
  else if (mget c.fails c.calls).getD false = true then (({ c with calls := c.calls + 1 }, (stepF s).1), (zD, false, 12))
  else if (mget c.tokens token).isSome = true ∧ ((mget c.tokens token).getD zD).op ≠ op then (({ c with calls := c.calls + 1 }, (stepF s).1), (zD, false, 15))
  else (({ c with calls := c.calls + 1 }, (stepF s).1), ((mget c.tokens token).getD zD, (mget c.tokens token).isSome, 0))
/-- How often it was called behind a call. -/
def ccalls (c : ClSt) (s : DSt) (token : Str) (op : Int) : Int := (callR c s token op).1.1.calls
def callT (c : ClSt) (s : DSt) (token : Str) (op : Int) : Dn × Bool × Int := (callR c s token op).2
def createR (c : ClSt) (s : DSt) (token kind : Str) (v : Val) : (ClSt × DSt) × (Int × Int) :=
  if attrE v ≠ 0 then ((c, s), (0, attrE v))
  else if nameV kind = false then ((c, s), (0, 3))
  else if (callT c s token 1).2.2 ≠ 0 ∨ (callT c s token 1).2.1 = true then (({ c with calls := ccalls c s token 1 }, (stepF s).1), ((callT c s token 1).1.id, (callT c s token 1).2.2))
  else if c.quota ≤ c.things.length then (({ c with calls := ccalls c s token 1 }, (stepF s).1), (0, 13))
  else (({ c with calls := ccalls c s token 1, next := c.next + 1, things := mput c.things c.next ⟨c.next, kind, v⟩, tokens := mput c.tokens token ⟨1, c.next⟩ }, (stepF s).1), (c.next, 0))
def updateR (c : ClSt) (s : DSt) (token : Str) (id : Int) (v : Val) : (ClSt × DSt) × Int :=
  if attrE v ≠ 0 then ((c, s), attrE v)
  else if (callT c s token 2).2.2 ≠ 0 ∨ (callT c s token 2).2.1 = true then (({ c with calls := ccalls c s token 2 }, (stepF s).1), (callT c s token 2).2.2)
  else if (mget c.things id).isSome = false then (({ c with calls := ccalls c s token 2 }, (stepF s).1), 7)
  else (({ c with calls := ccalls c s token 2, things := mput c.things id ⟨((mget c.things id).getD zT).id, ((mget c.things id).getD zT).kind, v⟩, tokens := mput c.tokens token ⟨2, id⟩ }, (stepF s).1), 0)
def deleteR (c : ClSt) (s : DSt) (token : Str) (id : Int) : (ClSt × DSt) × Int :=
  if (callT c s token 3).2.2 ≠ 0 ∨ (callT c s token 3).2.1 = true then (({ c with calls := ccalls c s token 3 }, (stepF s).1), (callT c s token 3).2.2)
  else if (mget c.things id).isSome = false then (({ c with calls := ccalls c s token 3 }, (stepF s).1), 7)
  else (({ c with calls := ccalls c s token 3, things := mdel c.things id, tokens := mput c.tokens token ⟨3, id⟩ }, (stepF s).1), 0)
/-- What holds of a cloud that was called not too often. -/
structure CInv (N : Nat) (c : ClSt) : Prop where
  nx0 : 1 ≤ c.next
  nx1 : c.next ≤ N
  ca0 : 0 ≤ c.calls
  ca1 : c.calls ≤ N
  tl : c.things.length ≤ N
  ol : c.tokens.length ≤ N
  nd : (c.things.map Prod.fst).Nodup
  ids : ∀ p ∈ c.things, p.2.id = p.1 ∧ (1 ≤ p.1 ∧ p.1 < c.next) ∧ chk p.2.v = 0
section
variable {c : ClSt} {s : DSt} {token : Str} {op : Int}
theorem callR_1 (h : (stepF s).2 ≠ 0) : callR c s token op = ((c, (stepF s).1), (zD, false, (stepF s).2)) := by rw [callR, if_pos h]
theorem callR_2 (h : (stepF s).2 = 0) (h2 : (mget c.fails c.calls).getD false = true) : callR c s token op = (({ c with calls := c.calls + 1 }, (stepF s).1), (zD, false, 12)) := by rw [callR, if_neg (by simp [h]), if_pos h2]
theorem callR_3 (h : (stepF s).2 = 0) (h2 : (mget c.fails c.calls).getD false = false) (h3 : (mget c.tokens token).isSome = true ∧ ((mget c.tokens token).getD zD).op ≠ op) : callR c s token op = (({ c with calls := c.calls + 1 }, (stepF s).1), (zD, false, 15)) := by rw [callR, if_neg (by simp [h]), if_neg (by simp [h2]), if_pos h3]
theorem callR_4 (h : (stepF s).2 = 0) (h2 : (mget c.fails c.calls).getD false = false) (h3 : (mget c.tokens token).isSome = false ∨ ((mget c.tokens token).getD zD).op = op) : callR c s token op = (({ c with calls := c.calls + 1 }, (stepF s).1), ((mget c.tokens token).getD zD, (mget c.tokens token).isSome, 0)) := by
  rw [callR, if_neg (by simp [h]), if_neg (by simp [h2]), if_neg (by rintro ⟨a, b⟩; rcases h3 with h3 | h3 <;> simp_all)]
end
theorem callR_eq (c : ClSt) (s : DSt) (token : Str) (op : Int) : (callR c s token op).1 = ({ c with calls := ccalls c s token op }, (stepF s).1) := by
  unfold ccalls callR
  repeat' split
  all_goals rfl
theorem ccalls_le (c : ClSt) (s : DSt) (token : Str) (op : Int) : c.calls ≤ ccalls c s token op ∧ ccalls c s token op ≤ c.calls + 1 := by
  unfold ccalls callR
  repeat' split
  all_goals (simp; try omega)
theorem attrE_0 {v : Val} (h : attrE v = 0) : chk v = 0 := by
  unfold attrE at h
  split at h
  · exact h
  · cases h

set_option maxHeartbeats 2000000 in
theorem u_CNew (d : Nat) (q : Int) (hq0 : 0 ≤ q) (hq1 : q ≤ 40) (m : AMem)  (K : AV → AMem → Prop) (hK : ∀ x fb ob tb : Nat, [x, fb, ob, tb].Nodup → m x = none → m fb = none → m ob = none → m tb = none → K (.tuple [.ptr ⟨x, 0, none⟩, .err 108 0]) (AMem.wth m [(x, cObj d tb ob fb ⟨[], [], 1, q, 0, []⟩), (fb, fObj []), (ob, oObj []), (tb, tObj [])])) : ACalls Try.prog 46 [.ptr ⟨d, 0, none⟩, .int .i64 q] m K := by
 refine acalls_enter Try.func46 rfl (by decide) (Nat.le_of_ble_eq_true rfl) ?_
 show AWP _ _ _ _ [(0, .ptr ⟨d, 0, none⟩), (1, .int .i64 q)] m
 refine awp_reg2_seq [] [0, 1] (by decide) ?_
 intro K1 hK1
 refine ⟨trivial, trivial, ?_⟩
 show K1 [(0, .ptr ⟨d, 0, none⟩), (1, .int .i64 q)] m
 refine hK1 _ _ ?_; clear hK1 K1
 refine awp_seq_k ?_; intro K2 hK2
 refine awp_reg2_seq [] [0, 1, 11] (by decide) ?_
 intro K1 hK1
 suffices key : K1 [(0, .ptr ⟨d, 0, none⟩), (1, .int .i64 q), (11, .bool ((decide (q < 0)) || (decide (40 < q))))] m by
  refine ⟨trivial, trivial, trivial, ?_⟩
  show aopsR _ _ _ _ _ [(8, .bool (decide (q < 0))), (7, .bool (decide (q < 0))), (6, .int .i64 q), (0, .ptr ⟨d, 0, none⟩), (1, .int .i64 q)] _
  revert key
  cases h1 : (decide (q < 0))
  ·
   replace h1 : 0 ≤ q := (Int.not_lt.1 (of_decide_eq_false h1))
   intro key
   refine ⟨trivial, trivial, ?_⟩
   exact key
  ·
   replace h1 : q < 0 := (of_decide_eq_true h1)
   intro key
   refine ar_off rfl (ar_off rfl ?_)
   exact key
 refine hK1 _ _ ?_; clear hK1 K1
 refine awp_cond rfl rfl (fun h2 => ?_) (fun h2 => ?_)
 ·
  replace h2 : (q < 0) ∨ (40 < q) := ((borT h2).imp (fun q => (of_decide_eq_true q)) (fun q => (of_decide_eq_true q)))
  omega
 replace h2 : (0 ≤ q) ∧ (q ≤ 40) := ⟨(Int.not_lt.1 (of_decide_eq_false (borL h2))), (Int.not_lt.1 (of_decide_eq_false (borR h2)))⟩
 refine awp_skip ?_
 refine hK2 _ _ ?_; clear hK2
 refine awp_reg2_seq [] [4, 5] (by decide) ?_
 intro K1 hK1
 refine ⟨trivial, ?_⟩
 refine ar_makeMap rfl (m := m) (L := []) rfl ?_
 intro b1 hb1
 have hFb1 : m b1 = none := wth_none (m := m) (L := []) hb1
 have hNb1 : ([b1] : List Nat).Nodup := wth_nodup (m := m) (L := []) hb1 List.nodup_nil
 refine ar_makeMap rfl (m := m) (L := [(b1, tObj ([] : List (Int × Thg)))]) rfl ?_
 intro b2 hb2
 have hFb2 : m b2 = none := wth_none hb2
 have hNb2 : ([b2, b1] : List Nat).Nodup := wth_nodup hb2 hNb1
 refine ⟨trivial, ?_⟩
 refine ar_makeMap rfl (m := m) (L := [(b2, oObj ([] : List ((List UInt8) × Dn))), (b1, tObj ([] : List (Int × Thg)))]) rfl ?_
 intro b3 hb3
 have hFb3 : m b3 = none := wth_none hb3
 have hNb3 : ([b3, b2, b1] : List Nat).Nodup := wth_nodup hb3 hNb2
 refine ⟨⟨rfl, by simp only [List.forall_mem_cons]; exact ⟨rfl, rfl, rfl, rfl, rfl, rfl, rfl, fun _ h => by cases h⟩, by simp only [List.forall_mem_cons]; exact ⟨rfl, rfl, rfl, rfl, rfl, rfl, fun _ h => by cases h⟩⟩, ?_⟩
 refine ar_box rfl (m := m) (L := [(b3, fObj ([] : List (Int × Bool))), (b2, oObj ([] : List ((List UInt8) × Dn))), (b1, tObj ([] : List (Int × Thg)))]) (v := .agg [.ptr ⟨d, 0, none⟩, .map b1, .map b2, .int .i64 1, .int .i64 q, .int .i64 0, .map b3]) rfl rfl ?_
 intro b4 hb4
 have hFb4 : m b4 = none := wth_none hb4
 have hNb4 : ([b4, b3, b2, b1] : List Nat).Nodup := wth_nodup hb4 hNb3
 refine ⟨trivial, trivial, ?_⟩
 show K1 [(4, .ptr ⟨b4, 0, none⟩), (5, .nilIface)] (AMem.wth m [(b4, .cells [.ptr ⟨d, 0, none⟩, .map b1, .map b2, .int .i64 1, .int .i64 q, .int .i64 0, .map b3]), (b3, fObj ([] : List (Int × Bool))), (b2, oObj ([] : List ((List UInt8) × Dn))), (b1, tObj ([] : List (Int × Thg)))])
 refine hK1 _ _ ?_; clear hK1 K1
 refine awp_toErr 108 [5] ?_
 show AWP _ _ _ _ [(4, .ptr ⟨b4, 0, none⟩), (5, .err 108 0)] _
 refine awp_ret ?_
 refine ⟨trivial, trivial, (AMem.wth m [(b4, .cells [.ptr ⟨d, 0, none⟩, .map b1, .map b2, .int .i64 1, .int .i64 q, .int .i64 0, .map b3]), (b3, fObj ([] : List (Int × Bool))), (b2, oObj ([] : List ((List UInt8) × Dn))), (b1, tObj ([] : List (Int × Thg)))]), fun _ _ h => h, ?_⟩
 show K (.tuple [.ptr ⟨b4, 0, none⟩, .err 108 0]) _

 exact hK b4 b3 b2 b1 hNb4 hFb4 hFb3 hFb2 hFb1

theorem u_attrs (v : Val)  (m : AMem)  (K : AV → AMem → Prop) (hK : K (.err 108 (attrE v)) m) : ACalls Try.prog 79 [valTop v] m K := by
 refine acalls_enter Try.func79 rfl (by decide) (Nat.le_of_ble_eq_true rfl) ?_
 show AWP _ _ _ _ [(0, valTop v)] m
 refine awp_reg2_seq [] [1] (by decide) ?_
 intro K1 hK1
 refine ar_box rfl (m := m) (L := []) (v := valTop v) (by rfl) rfl ?_
 intro b1 hb1
 have hFb1 : m b1 = none := wth_none (m := m) (L := []) hb1
 have hNb1 : ([b1] : List Nat).Nodup := wth_nodup (m := m) (L := []) hb1 List.nodup_nil
 refine ⟨trivial, ?_⟩
 show K1 [(1, .ptr ⟨b1, 0, none⟩)] (AMem.wth m [(b1, .cells [.int .i64 v.kind, .int .i64 v.n, .str v.s, .slice false (v.l.map valIn), .slice false (v.f.map fldIn)])])
 refine hK1 _ _ ?_; clear hK1 K1
 refine awp_seq_k ?_; intro K2 hK2
 refine awp_reg2_seq [] [1, 5] (by decide) ?_
 intro K1 hK1
 refine ⟨⟨rfl, by decide⟩, ?_⟩
 refine ar_loadp rfl (v := .int .i64 v.kind) rfl (wth_get 0 hNb1 rfl) rfl (apartOk_one rfl rfl (Nat.le_of_ble_eq_true rfl)) rfl ?_
 refine ⟨trivial, ?_⟩
 show K1 [(1, .ptr ⟨b1, 0, none⟩), (5, .bool (!(v.kind == 5)))] _
 refine hK1 _ _ ?_; clear hK1 K1
 refine awp_cond rfl rfl (fun h1 => ?_) (fun h1 => ?_)
 ·
  replace h1 : v.kind ≠ 5 := (ne_of_beq_false (bnT h1))
  refine awp_reg2_seq [] [2] (by decide) ?_
  intro K1 hK1
  refine ⟨trivial, trivial, ?_⟩
  show K1 [(2, .iface 108 (.int .i64 9))] (AMem.wth m [(b1, .cells [.int .i64 v.kind, .int .i64 v.n, .str v.s, .slice false (v.l.map valIn), .slice false (v.f.map fldIn)])])
  refine hK1 _ _ ?_; clear hK1 K1
  refine awp_toErr 108 [2] ?_
  show AWP _ _ _ _ [(2, .err 108 9)] _
  refine awp_ret ?_
  refine ⟨trivial, m, (wth_sub2 (m := m) [(b1, .cells [.int .i64 v.kind, .int .i64 v.n, .str v.s, .slice false (v.l.map valIn), .slice false (v.f.map fldIn)])] [] hNb1 (by simp only [List.map_cons, List.map_nil, List.forall_mem_cons]; exact ⟨hFb1, fun _ h => by cases h⟩)), ?_⟩
  show K (.err 108 9) m
 
  have e0 : attrE v = (9 : Int) := by
   first | (rw [attrE, if_pos (by assumption)]; done) | (rw [attrE, if_neg (by assumption)]; done)
  rw [e0] at hK
  exact hK
 replace h1 : v.kind = 5 := (eq_of_beq (bnF h1))
 refine awp_skip ?_
 refine hK2 _ _ ?_; clear hK2
 refine awp_reg2_seq [] [2] (by decide) ?_
 intro K1 hK1
 refine ar_loadp rfl (v := .agg [.int .i64 v.kind, .int .i64 v.n, .str v.s, .slice false (v.l.map valIn), .slice false (v.f.map fldIn)]) rfl (wth_get 0 hNb1 rfl) rfl (apartOk_agg rfl rfl (Nat.le_of_ble_eq_true rfl)) rfl ?_
 refine u_Check v _ _ ?_
 refine ⟨trivial, ?_⟩
 show K1 [(2, .err 108 (chk v))] (AMem.wth m [(b1, .cells [.int .i64 v.kind, .int .i64 v.n, .str v.s, .slice false (v.l.map valIn), .slice false (v.f.map fldIn)])])
 refine hK1 _ _ ?_; clear hK1 K1
 refine awp_ret ?_
 refine ⟨trivial, m, (wth_sub2 (m := m) [(b1, .cells [.int .i64 v.kind, .int .i64 v.n, .str v.s, .slice false (v.l.map valIn), .slice false (v.f.map fldIn)])] [] hNb1 (by simp only [List.map_cons, List.map_nil, List.forall_mem_cons]; exact ⟨hFb1, fun _ h => by cases h⟩)), ?_⟩
 show K (.err 108 (chk v)) m

 have e0 : attrE v = (chk v : Int) := by
  first | (rw [attrE, if_pos (by assumption)]; done) | (rw [attrE, if_neg (by assumption)]; done)
 rw [e0] at hK
 exact hK

set_option maxHeartbeats 4000000 in
theorem u_call (x d tb ob fb kb nb : Nat) (c : ClSt) (s : DSt) (token : Str) (op : Int) (hN : [x, d, ob, fb].Nodup) (hst : 0 ≤ s.steps) (hst2 : s.steps ≤ 4611686018427387904) (hfu : -1 ≤ s.fuse) (hfu2 : s.fuse ≤ 9223372036854775807) (hca : 0 ≤ c.calls) (hca2 : c.calls ≤ 1000000) (m : AMem)  (K : AV → AMem → Prop) (hK : K (.tuple [dnAV (callR c s token op).2.1, .bool (callR c s token op).2.2.1, .err 108 (callR c s token op).2.2.2]) (AMem.wth m [(x, cObj d tb ob fb (callR c s token op).1.1), (d, dObj kb nb (callR c s token op).1.2), (ob, oObj c.tokens), (fb, fObj c.fails)])) : ACalls Try.prog 81 [.ptr ⟨x, 0, none⟩, .str token, .int .i64 op] (AMem.wth m [(x, cObj d tb ob fb c), (d, .cells [.map kb, .map nb, .slice true (s.wait.map chgAV), .int .i64 s.fuse, .bool s.down, .int .i64 s.steps]), (ob, oObj c.tokens), (fb, fObj c.fails)]) K := by
 refine acalls_enter Try.func81 rfl (by decide) (Nat.le_of_ble_eq_true rfl) ?_
 show AWP _ _ _ _ [(0, .ptr ⟨x, 0, none⟩), (1, .str token), (2, .int .i64 op)] (AMem.wth m [(x, cObj d tb ob fb c), (d, .cells [.map kb, .map nb, .slice true (s.wait.map chgAV), .int .i64 s.fuse, .bool s.down, .int .i64 s.steps]), (ob, oObj c.tokens), (fb, fObj c.fails)])
 refine awp_reg2_seq [] [0, 1, 2, 6] (by decide) ?_
 intro K1 hK1
 refine ar_alloc rfl (z := .agg [.int .i64 0, .int .i64 0]) rfl rfl ?_
 intro b1 hb1
 have hFb1 : m b1 = none := wth_none hb1
 have hNb1 : ([b1, x, d, ob, fb] : List Nat).Nodup := wth_nodup hb1 hN
 refine ⟨trivial, trivial, ?_⟩
 show K1 [(0, .ptr ⟨x, 0, none⟩), (1, .str token), (2, .int .i64 op), (6, .ptr ⟨b1, 0, none⟩)] (AMem.wth m [(b1, .cells [.int .i64 0, .int .i64 0]), (x, cObj d tb ob fb c), (d, .cells [.map kb, .map nb, .slice true (s.wait.map chgAV), .int .i64 s.fuse, .bool s.down, .int .i64 s.steps]), (ob, oObj c.tokens), (fb, fObj c.fails)])
 refine hK1 _ _ ?_; clear hK1 K1
 refine awp_reg2_seq [] [0, 1, 2, 6, 9] (by decide) ?_
 intro K1 hK1
 refine ⟨trivial, trivial, ⟨rfl, by decide⟩, ?_⟩
 refine ar_loadp rfl (v := .ptr ⟨d, 0, none⟩) rfl (wth_get 1 hNb1 rfl) rfl (apartOk_one rfl rfl (Nat.le_of_ble_eq_true rfl)) rfl ?_
 refine ar_mem (wth_split hNb1 (pick_perm [2] _)) ?_
 refine u_Step d kb nb s hst hst2 hfu hfu2 _ _ ?_
 show aopsR _ _ _ _ _ _ (AMem.wth (AMem.wth m [(b1, .cells [.int .i64 0, .int .i64 0]), (x, cObj d tb ob fb c), (ob, oObj c.tokens), (fb, fObj c.fails)]) [(d, .cells [.map kb, .map nb, .slice true ((((stepF s).1).wait).map chgAV), .int .i64 (((stepF s).1).fuse), .bool (((stepF s).1).down), .int .i64 (((stepF s).1).steps)])])
 refine ar_mem (wth_split (m := m) (L := [(b1, .cells [.int .i64 0, .int .i64 0]), (x, cObj d tb ob fb c), (d, .cells [.map kb, .map nb, .slice true ((((stepF s).1).wait).map chgAV), .int .i64 (((stepF s).1).fuse), .bool (((stepF s).1).down), .int .i64 (((stepF s).1).steps)]), (ob, oObj c.tokens), (fb, fObj c.fails)]) hNb1 (pick_perm [2] _)).symm ?_
 refine ⟨trivial, ?_⟩
 show K1 [(0, .ptr ⟨x, 0, none⟩), (1, .str token), (2, .int .i64 op), (6, .ptr ⟨b1, 0, none⟩), (9, .err 108 ((stepF s).2))] (AMem.wth m [(b1, .cells [.int .i64 0, .int .i64 0]), (x, cObj d tb ob fb c), (d, .cells [.map kb, .map nb, .slice true ((((stepF s).1).wait).map chgAV), .int .i64 (((stepF s).1).fuse), .bool (((stepF s).1).down), .int .i64 (((stepF s).1).steps)]), (ob, oObj c.tokens), (fb, fObj c.fails)])
 refine hK1 _ _ ?_; clear hK1 K1
 refine awp_seq_k ?_; intro K2 hK2
 refine awp_reg2_seq [] [0, 1, 2, 6, 9, 19] (by decide) ?_
 intro K1 hK1
 refine ⟨trivial, ⟨rfl, rfl⟩, ?_⟩
 show K1 [(0, .ptr ⟨x, 0, none⟩), (1, .str token), (2, .int .i64 op), (6, .ptr ⟨b1, 0, none⟩), (9, .err 108 ((stepF s).2)), (19, .bool (!(((stepF s).2) == 0)))] _
 refine hK1 _ _ ?_; clear hK1 K1
 refine awp_cond rfl rfl (fun h1 => ?_) (fun h1 => ?_)
 ·
  replace h1 : (stepF s).2 ≠ 0 := (ne_of_beq_false (bnT h1))
  refine awp_reg2_seq [] [6, 7, 8] (by decide) ?_
  intro K1 hK1
  refine ⟨⟨rfl, by simp only [List.forall_mem_cons]; exact ⟨rfl, rfl, fun _ h => by cases h⟩, fun _ h => by cases h⟩, trivial, ?_⟩
  refine ar_storep rfl 0 (v := .agg [.int .i64 0, .int .i64 0]) (l' := [.int .i64 0, .int .i64 0]) rfl rfl hNb1 rfl rfl rfl rfl rfl (Nat.le_of_ble_eq_true rfl) rfl ?_
  refine ⟨trivial, trivial, ?_⟩
  show K1 [(6, .ptr ⟨b1, 0, none⟩), (7, .bool false), (8, .err 108 ((stepF s).2))] (AMem.wth m [(b1, .cells [.int .i64 0, .int .i64 0]), (x, cObj d tb ob fb c), (d, .cells [.map kb, .map nb, .slice true ((((stepF s).1).wait).map chgAV), .int .i64 (((stepF s).1).fuse), .bool (((stepF s).1).down), .int .i64 (((stepF s).1).steps)]), (ob, oObj c.tokens), (fb, fObj c.fails)])
  refine hK1 _ _ ?_; clear hK1 K1
  refine awp_ret ?_
  refine resK_cell3 (fn := Try.f81) (a := 6) (t := 134) (s := 7) (u := 8) (b := b1) (off := 0) rfl rfl (wth_get  (m := m) (L := [(b1, .cells [.int .i64 0, .int .i64 0]), (x, cObj d tb ob fb c), (d, .cells [.map kb, .map nb, .slice true ((((stepF s).1).wait).map chgAV), .int .i64 (((stepF s).1).fuse), .bool (((stepF s).1).down), .int .i64 (((stepF s).1).steps)]), (ob, oObj c.tokens), (fb, fObj c.fails)]) 0 hNb1 rfl) (apartOk_agg rfl rfl (Nat.le_of_ble_eq_true rfl)) (.agg [.int .i64 0, .int .i64 0]) (.bool false) (.err 108 ((stepF s).2)) rfl rfl rfl (.bool false) (.err 108 ((stepF s).2)) rfl rfl (AMem.wth m [(x, cObj d tb ob fb c), (d, .cells [.map kb, .map nb, .slice true ((((stepF s).1).wait).map chgAV), .int .i64 (((stepF s).1).fuse), .bool (((stepF s).1).down), .int .i64 (((stepF s).1).steps)]), (ob, oObj c.tokens), (fb, fObj c.fails)]) ((wth_sub2 (m := m) [(b1, .cells [.int .i64 0, .int .i64 0])] [(x, cObj d tb ob fb c), (d, .cells [.map kb, .map nb, .slice true ((((stepF s).1).wait).map chgAV), .int .i64 (((stepF s).1).fuse), .bool (((stepF s).1).down), .int .i64 (((stepF s).1).steps)]), (ob, oObj c.tokens), (fb, fObj c.fails)] hNb1 (by simp only [List.map_cons, List.map_nil, List.forall_mem_cons]; exact ⟨hFb1, fun _ h => by cases h⟩))) ?_
  show K (.tuple [.agg [.int .i64 0, .int .i64 0], .bool false, .err 108 ((stepF s).2)]) (AMem.wth m [(x, cObj d tb ob fb c), (d, .cells [.map kb, .map nb, .slice true ((((stepF s).1).wait).map chgAV), .int .i64 (((stepF s).1).fuse), .bool (((stepF s).1).down), .int .i64 (((stepF s).1).steps)]), (ob, oObj c.tokens), (fb, fObj c.fails)])
 
  have e0 : callR c s token op = (((c, (stepF s).1), ((⟨0, 0⟩ : Dn), false, (stepF s).2)) : (ClSt × DSt) × (Dn × Bool × Int)) := by
   first | exact callR_1 (by assumption) | exact callR_2 (by assumption) (by assumption) | exact callR_3 (by assumption) (by assumption) (by assumption) | exact callR_4 (by assumption) (by assumption) (by assumption)
  rw [e0] at hK
  exact hK
 replace h1 : (stepF s).2 = 0 := (eq_of_beq (bnF h1))
 refine awp_skip ?_
 refine hK2 _ _ ?_; clear hK2
 refine awp_reg2_seq [] [0, 1, 2, 6, 10] (by decide) ?_
 intro K1 hK1
 refine ⟨trivial, trivial, ⟨rfl, by decide⟩, ?_⟩
 refine ar_loadp rfl (v := .int .i64 c.calls) rfl (wth_get 1 hNb1 rfl) rfl (apartOk_one rfl rfl (Nat.le_of_ble_eq_true rfl)) rfl ?_
 refine ⟨trivial, ?_⟩
 show K1 [(0, .ptr ⟨x, 0, none⟩), (1, .str token), (2, .int .i64 op), (6, .ptr ⟨b1, 0, none⟩), (10, .int .i64 c.calls)] (AMem.wth m [(b1, .cells [.int .i64 0, .int .i64 0]), (x, cObj d tb ob fb c), (d, .cells [.map kb, .map nb, .slice true ((((stepF s).1).wait).map chgAV), .int .i64 (((stepF s).1).fuse), .bool (((stepF s).1).down), .int .i64 (((stepF s).1).steps)]), (ob, oObj c.tokens), (fb, fObj c.fails)])
 refine hK1 _ _ ?_; clear hK1 K1
 refine awp_reg2_seq [] [0, 1, 2, 6, 10] (by decide) ?_
 intro K1 hK1
 refine ⟨trivial, trivial, ⟨rfl, by decide⟩, ?_⟩
 refine ar_loadp rfl (v := .int .i64 c.calls) rfl (wth_get 1 hNb1 rfl) rfl (apartOk_one rfl rfl (Nat.le_of_ble_eq_true rfl)) rfl ?_
 refine ar_add rfl (a := c.calls) (b := 1) rfl rfl (by omega) (by omega) ?_
 refine ⟨trivial, ⟨rfl, by decide⟩, ?_⟩
 refine ar_storep rfl 1 (v := .int .i64 (c.calls + 1)) (l' := [.ptr ⟨d, 0, none⟩, .map tb, .map ob, .int .i64 c.next, .int .i64 c.quota, .int .i64 (c.calls + 1), .map fb]) rfl rfl hNb1 rfl rfl rfl rfl rfl (Nat.le_of_ble_eq_true rfl) rfl ?_
 show K1 [(0, .ptr ⟨x, 0, none⟩), (1, .str token), (2, .int .i64 op), (6, .ptr ⟨b1, 0, none⟩), (10, .int .i64 c.calls)] (AMem.wth m [(b1, .cells [.int .i64 0, .int .i64 0]), (x, .cells [.ptr ⟨d, 0, none⟩, .map tb, .map ob, .int .i64 c.next, .int .i64 c.quota, .int .i64 (c.calls + 1), .map fb]), (d, .cells [.map kb, .map nb, .slice true ((((stepF s).1).wait).map chgAV), .int .i64 (((stepF s).1).fuse), .bool (((stepF s).1).down), .int .i64 (((stepF s).1).steps)]), (ob, oObj c.tokens), (fb, fObj c.fails)])
 refine hK1 _ _ ?_; clear hK1 K1
 refine awp_seq_k ?_; intro K3 hK3
 refine awp_reg2_seq [] [0, 1, 2, 6, 38] (by decide) ?_
 intro K1 hK1
 refine ⟨trivial, trivial, ⟨rfl, by decide⟩, ?_⟩
 refine ar_loadp rfl (v := .map fb) rfl (wth_get 1 hNb1 rfl) rfl (apartOk_one rfl rfl (Nat.le_of_ble_eq_true rfl)) rfl ?_
 refine ⟨trivial, ?_⟩
 refine ar_lookup rfl (m := m) (L := [(b1, .cells [.int .i64 0, .int .i64 0]), (x, .cells [.ptr ⟨d, 0, none⟩, .map tb, .map ob, .int .i64 c.next, .int .i64 c.quota, .int .i64 (c.calls + 1), .map fb]), (d, .cells [.map kb, .map nb, .slice true ((((stepF s).1).wait).map chgAV), .int .i64 (((stepF s).1).fuse), .bool (((stepF s).1).down), .int .i64 (((stepF s).1).steps)]), (ob, oObj c.tokens), (fb, fObj c.fails)]) intAV boolAV intKey_ok c.fails c.calls false rfl rfl rfl rfl rfl (wth_get 4 hNb1 rfl) rfl ?_
 show K1 [(0, .ptr ⟨x, 0, none⟩), (1, .str token), (2, .int .i64 op), (6, .ptr ⟨b1, 0, none⟩), (38, .bool ((mget c.fails c.calls).getD false))] _
 refine hK1 _ _ ?_; clear hK1 K1
 refine awp_cond rfl rfl (fun h2 => ?_) (fun h2 => ?_)
 ·
  replace h2 : (mget c.fails c.calls).getD false = true := h2
  refine awp_reg2_seq [] [6, 7, 8] (by decide) ?_
  intro K1 hK1
  refine ⟨⟨rfl, by simp only [List.forall_mem_cons]; exact ⟨rfl, rfl, fun _ h => by cases h⟩, fun _ h => by cases h⟩, trivial, ?_⟩
  refine ar_storep rfl 0 (v := .agg [.int .i64 0, .int .i64 0]) (l' := [.int .i64 0, .int .i64 0]) rfl rfl hNb1 rfl rfl rfl rfl rfl (Nat.le_of_ble_eq_true rfl) rfl ?_
  refine ⟨trivial, trivial, ?_⟩
  show K1 [(6, .ptr ⟨b1, 0, none⟩), (7, .bool false), (8, .iface 108 (.int .i64 12))] (AMem.wth m [(b1, .cells [.int .i64 0, .int .i64 0]), (x, .cells [.ptr ⟨d, 0, none⟩, .map tb, .map ob, .int .i64 c.next, .int .i64 c.quota, .int .i64 (c.calls + 1), .map fb]), (d, .cells [.map kb, .map nb, .slice true ((((stepF s).1).wait).map chgAV), .int .i64 (((stepF s).1).fuse), .bool (((stepF s).1).down), .int .i64 (((stepF s).1).steps)]), (ob, oObj c.tokens), (fb, fObj c.fails)])
  refine hK1 _ _ ?_; clear hK1 K1
  refine awp_toErr 108 [8] ?_
  show AWP _ _ _ _ [(6, .ptr ⟨b1, 0, none⟩), (7, .bool false), (8, .err 108 12)] _
  refine awp_ret ?_
  refine resK_cell3 (fn := Try.f81) (a := 6) (t := 134) (s := 7) (u := 8) (b := b1) (off := 0) rfl rfl (wth_get  (m := m) (L := [(b1, .cells [.int .i64 0, .int .i64 0]), (x, .cells [.ptr ⟨d, 0, none⟩, .map tb, .map ob, .int .i64 c.next, .int .i64 c.quota, .int .i64 (c.calls + 1), .map fb]), (d, .cells [.map kb, .map nb, .slice true ((((stepF s).1).wait).map chgAV), .int .i64 (((stepF s).1).fuse), .bool (((stepF s).1).down), .int .i64 (((stepF s).1).steps)]), (ob, oObj c.tokens), (fb, fObj c.fails)]) 0 hNb1 rfl) (apartOk_agg rfl rfl (Nat.le_of_ble_eq_true rfl)) (.agg [.int .i64 0, .int .i64 0]) (.bool false) (.err 108 12) rfl rfl rfl (.bool false) (.err 108 12) rfl rfl (AMem.wth m [(x, .cells [.ptr ⟨d, 0, none⟩, .map tb, .map ob, .int .i64 c.next, .int .i64 c.quota, .int .i64 (c.calls + 1), .map fb]), (d, .cells [.map kb, .map nb, .slice true ((((stepF s).1).wait).map chgAV), .int .i64 (((stepF s).1).fuse), .bool (((stepF s).1).down), .int .i64 (((stepF s).1).steps)]), (ob, oObj c.tokens), (fb, fObj c.fails)]) ((wth_sub2 (m := m) [(b1, .cells [.int .i64 0, .int .i64 0])] [(x, .cells [.ptr ⟨d, 0, none⟩, .map tb, .map ob, .int .i64 c.next, .int .i64 c.quota, .int .i64 (c.calls + 1), .map fb]), (d, .cells [.map kb, .map nb, .slice true ((((stepF s).1).wait).map chgAV), .int .i64 (((stepF s).1).fuse), .bool (((stepF s).1).down), .int .i64 (((stepF s).1).steps)]), (ob, oObj c.tokens), (fb, fObj c.fails)] hNb1 (by simp only [List.map_cons, List.map_nil, List.forall_mem_cons]; exact ⟨hFb1, fun _ h => by cases h⟩))) ?_
  show K (.tuple [.agg [.int .i64 0, .int .i64 0], .bool false, .err 108 12]) (AMem.wth m [(x, .cells [.ptr ⟨d, 0, none⟩, .map tb, .map ob, .int .i64 c.next, .int .i64 c.quota, .int .i64 (c.calls + 1), .map fb]), (d, .cells [.map kb, .map nb, .slice true ((((stepF s).1).wait).map chgAV), .int .i64 (((stepF s).1).fuse), .bool (((stepF s).1).down), .int .i64 (((stepF s).1).steps)]), (ob, oObj c.tokens), (fb, fObj c.fails)])
 
  have e0 : callR c s token op = ((((⟨c.things, c.tokens, c.next, c.quota, c.calls + 1, c.fails⟩ : ClSt), (stepF s).1), ((⟨0, 0⟩ : Dn), false, 12)) : (ClSt × DSt) × (Dn × Bool × Int)) := by
   first | exact callR_1 (by assumption) | exact callR_2 (by assumption) (by assumption) | exact callR_3 (by assumption) (by assumption) (by assumption) | exact callR_4 (by assumption) (by assumption) (by assumption)
  rw [e0] at hK
  exact hK
 replace h2 : (mget c.fails c.calls).getD false = false := h2
 refine awp_skip ?_
 refine hK3 _ _ ?_; clear hK3
 refine awp_reg2_seq [] [2, 6, 11, 12] (by decide) ?_
 intro K1 hK1
 refine ⟨trivial, trivial, ⟨rfl, by decide⟩, ?_⟩
 refine ar_loadp rfl (v := .map ob) rfl (wth_get 1 hNb1 rfl) rfl (apartOk_one rfl rfl (Nat.le_of_ble_eq_true rfl)) rfl ?_
 refine ⟨trivial, ?_⟩
 refine ar_lookupOkP rfl (m := m) (L := [(b1, .cells [.int .i64 0, .int .i64 0]), (x, .cells [.ptr ⟨d, 0, none⟩, .map tb, .map ob, .int .i64 c.next, .int .i64 c.quota, .int .i64 (c.calls + 1), .map fb]), (d, .cells [.map kb, .map nb, .slice true ((((stepF s).1).wait).map chgAV), .int .i64 (((stepF s).1).fuse), .bool (((stepF s).1).down), .int .i64 (((stepF s).1).steps)]), (ob, oObj c.tokens), (fb, fObj c.fails)]) strAV dnAV strKey_ok c.tokens token zD rfl rfl rfl rfl rfl rfl (wth_get 3 hNb1 rfl) rfl ?_
 refine ⟨trivial, (Nat.le_of_ble_eq_true rfl), (Nat.le_of_ble_eq_true rfl), ?_⟩
 refine ar_alloc rfl (z := .agg [.int .i64 0, .int .i64 0]) rfl rfl ?_
 intro b2 hb2
 have hFb2 : m b2 = none := wth_none hb2
 have hNb2 : ([b2, b1, x, d, ob, fb] : List Nat).Nodup := wth_nodup hb2 hNb1
 refine ar_storep rfl 0 (v := dnAV ((mget c.tokens token).getD zD)) (l' := [.int .i64 (((mget c.tokens token).getD zD).op), .int .i64 (((mget c.tokens token).getD zD).id)]) rfl (by rfl) hNb2 rfl rfl rfl rfl rfl (Nat.le_of_ble_eq_true rfl) rfl ?_
 refine ⟨trivial, ?_⟩
 show K1 [(2, .int .i64 op), (6, .ptr ⟨b1, 0, none⟩), (11, .ptr ⟨b2, 0, none⟩), (12, .bool ((mget c.tokens token).isSome))] (AMem.wth m [(b2, .cells [.int .i64 (((mget c.tokens token).getD zD).op), .int .i64 (((mget c.tokens token).getD zD).id)]), (b1, .cells [.int .i64 0, .int .i64 0]), (x, .cells [.ptr ⟨d, 0, none⟩, .map tb, .map ob, .int .i64 c.next, .int .i64 c.quota, .int .i64 (c.calls + 1), .map fb]), (d, .cells [.map kb, .map nb, .slice true ((((stepF s).1).wait).map chgAV), .int .i64 (((stepF s).1).fuse), .bool (((stepF s).1).down), .int .i64 (((stepF s).1).steps)]), (ob, oObj c.tokens), (fb, fObj c.fails)])
 refine hK1 _ _ ?_; clear hK1 K1
 refine awp_seq_k ?_; intro K4 hK4
 refine awp_reg2_seq [] [6, 11, 12, 56] (by decide) ?_
 intro K1 hK1
 suffices key : K1 [(6, .ptr ⟨b1, 0, none⟩), (11, .ptr ⟨b2, 0, none⟩), (12, .bool ((mget c.tokens token).isSome)), (56, .bool (((mget c.tokens token).isSome) && (!((((mget c.tokens token).getD zD).op) == op))))] (AMem.wth m [(b2, .cells [.int .i64 (((mget c.tokens token).getD zD).op), .int .i64 (((mget c.tokens token).getD zD).id)]), (b1, .cells [.int .i64 0, .int .i64 0]), (x, .cells [.ptr ⟨d, 0, none⟩, .map tb, .map ob, .int .i64 c.next, .int .i64 c.quota, .int .i64 (c.calls + 1), .map fb]), (d, .cells [.map kb, .map nb, .slice true ((((stepF s).1).wait).map chgAV), .int .i64 (((stepF s).1).fuse), .bool (((stepF s).1).down), .int .i64 (((stepF s).1).steps)]), (ob, oObj c.tokens), (fb, fObj c.fails)]) by
  refine ⟨trivial, trivial, ?_⟩
  show aopsR _ _ _ _ _ [(51, .bool ((mget c.tokens token).isSome)), (50, .bool ((mget c.tokens token).isSome)), (2, .int .i64 op), (6, .ptr ⟨b1, 0, none⟩), (11, .ptr ⟨b2, 0, none⟩), (12, .bool ((mget c.tokens token).isSome))] _
  revert key
  cases h3 : ((mget c.tokens token).isSome)
  ·
   replace h3 : (mget c.tokens token).isSome = false := h3
   intro key
   refine ar_off rfl (ar_off rfl (ar_off rfl (ar_off rfl ?_)))
   exact key
  ·
   replace h3 : (mget c.tokens token).isSome = true := h3
   intro key
   refine ⟨⟨rfl, by decide⟩, ?_⟩
   refine ar_loadp rfl (v := .int .i64 (((mget c.tokens token).getD zD).op)) rfl (wth_get 0 hNb2 rfl) rfl (apartOk_one rfl rfl (Nat.le_of_ble_eq_true rfl)) rfl ?_
   refine ⟨trivial, trivial, ?_⟩
   exact key
 refine hK1 _ _ ?_; clear hK1 K1
 refine awp_cond rfl rfl (fun h4 => ?_) (fun h4 => ?_)
 ·
  replace h4 : ((mget c.tokens token).isSome = true) ∧ (((mget c.tokens token).getD zD).op ≠ op) := ⟨(bandL h4), (ne_of_beq_false (bnT (bandR h4)))⟩
  refine awp_reg2_seq [] [6, 7, 8] (by decide) ?_
  intro K1 hK1
  refine ⟨⟨rfl, by simp only [List.forall_mem_cons]; exact ⟨rfl, rfl, fun _ h => by cases h⟩, fun _ h => by cases h⟩, trivial, ?_⟩
  refine ar_storep rfl 1 (v := .agg [.int .i64 0, .int .i64 0]) (l' := [.int .i64 0, .int .i64 0]) rfl rfl hNb2 rfl rfl rfl rfl rfl (Nat.le_of_ble_eq_true rfl) rfl ?_
  refine ⟨trivial, trivial, ?_⟩
  show K1 [(6, .ptr ⟨b1, 0, none⟩), (7, .bool false), (8, .iface 108 (.int .i64 15))] (AMem.wth m [(b2, .cells [.int .i64 (((mget c.tokens token).getD zD).op), .int .i64 (((mget c.tokens token).getD zD).id)]), (b1, .cells [.int .i64 0, .int .i64 0]), (x, .cells [.ptr ⟨d, 0, none⟩, .map tb, .map ob, .int .i64 c.next, .int .i64 c.quota, .int .i64 (c.calls + 1), .map fb]), (d, .cells [.map kb, .map nb, .slice true ((((stepF s).1).wait).map chgAV), .int .i64 (((stepF s).1).fuse), .bool (((stepF s).1).down), .int .i64 (((stepF s).1).steps)]), (ob, oObj c.tokens), (fb, fObj c.fails)])
  refine hK1 _ _ ?_; clear hK1 K1
  refine awp_toErr 108 [8] ?_
  show AWP _ _ _ _ [(6, .ptr ⟨b1, 0, none⟩), (7, .bool false), (8, .err 108 15)] _
  refine awp_ret ?_
  refine resK_cell3 (fn := Try.f81) (a := 6) (t := 134) (s := 7) (u := 8) (b := b1) (off := 0) rfl rfl (wth_get  (m := m) (L := [(b2, .cells [.int .i64 (((mget c.tokens token).getD zD).op), .int .i64 (((mget c.tokens token).getD zD).id)]), (b1, .cells [.int .i64 0, .int .i64 0]), (x, .cells [.ptr ⟨d, 0, none⟩, .map tb, .map ob, .int .i64 c.next, .int .i64 c.quota, .int .i64 (c.calls + 1), .map fb]), (d, .cells [.map kb, .map nb, .slice true ((((stepF s).1).wait).map chgAV), .int .i64 (((stepF s).1).fuse), .bool (((stepF s).1).down), .int .i64 (((stepF s).1).steps)]), (ob, oObj c.tokens), (fb, fObj c.fails)]) 1 hNb2 rfl) (apartOk_agg rfl rfl (Nat.le_of_ble_eq_true rfl)) (.agg [.int .i64 0, .int .i64 0]) (.bool false) (.err 108 15) rfl rfl rfl (.bool false) (.err 108 15) rfl rfl (AMem.wth m [(x, .cells [.ptr ⟨d, 0, none⟩, .map tb, .map ob, .int .i64 c.next, .int .i64 c.quota, .int .i64 (c.calls + 1), .map fb]), (d, .cells [.map kb, .map nb, .slice true ((((stepF s).1).wait).map chgAV), .int .i64 (((stepF s).1).fuse), .bool (((stepF s).1).down), .int .i64 (((stepF s).1).steps)]), (ob, oObj c.tokens), (fb, fObj c.fails)]) ((wth_sub2 (m := m) [(b2, .cells [.int .i64 (((mget c.tokens token).getD zD).op), .int .i64 (((mget c.tokens token).getD zD).id)]), (b1, .cells [.int .i64 0, .int .i64 0])] [(x, .cells [.ptr ⟨d, 0, none⟩, .map tb, .map ob, .int .i64 c.next, .int .i64 c.quota, .int .i64 (c.calls + 1), .map fb]), (d, .cells [.map kb, .map nb, .slice true ((((stepF s).1).wait).map chgAV), .int .i64 (((stepF s).1).fuse), .bool (((stepF s).1).down), .int .i64 (((stepF s).1).steps)]), (ob, oObj c.tokens), (fb, fObj c.fails)] hNb2 (by simp only [List.map_cons, List.map_nil, List.forall_mem_cons]; exact ⟨hFb2, hFb1, fun _ h => by cases h⟩))) ?_
  show K (.tuple [.agg [.int .i64 0, .int .i64 0], .bool false, .err 108 15]) (AMem.wth m [(x, .cells [.ptr ⟨d, 0, none⟩, .map tb, .map ob, .int .i64 c.next, .int .i64 c.quota, .int .i64 (c.calls + 1), .map fb]), (d, .cells [.map kb, .map nb, .slice true ((((stepF s).1).wait).map chgAV), .int .i64 (((stepF s).1).fuse), .bool (((stepF s).1).down), .int .i64 (((stepF s).1).steps)]), (ob, oObj c.tokens), (fb, fObj c.fails)])
 
  have e0 : callR c s token op = ((((⟨c.things, c.tokens, c.next, c.quota, c.calls + 1, c.fails⟩ : ClSt), (stepF s).1), ((⟨0, 0⟩ : Dn), false, 15)) : (ClSt × DSt) × (Dn × Bool × Int)) := by
   first | exact callR_1 (by assumption) | exact callR_2 (by assumption) (by assumption) | exact callR_3 (by assumption) (by assumption) (by assumption) | exact callR_4 (by assumption) (by assumption) (by assumption)
  rw [e0] at hK
  exact hK
 replace h4 : ((mget c.tokens token).isSome = false) ∨ (((mget c.tokens token).getD zD).op = op) := ((bandF h4).imp (fun q => q) (fun q => (eq_of_beq (bnF q))))
 refine awp_skip ?_
 refine hK4 _ _ ?_; clear hK4
 refine awp_reg2_seq [] [6, 7, 8] (by decide) ?_
 intro K1 hK1
 refine ar_loadp rfl (v := .agg [.int .i64 (((mget c.tokens token).getD zD).op), .int .i64 (((mget c.tokens token).getD zD).id)]) rfl (wth_get 0 hNb2 rfl) rfl (apartOk_agg rfl rfl (Nat.le_of_ble_eq_true rfl)) rfl ?_
 refine ⟨trivial, ?_⟩
 refine ar_storep rfl 1 (v := .agg [.int .i64 (((mget c.tokens token).getD zD).op), .int .i64 (((mget c.tokens token).getD zD).id)]) (l' := [.int .i64 (((mget c.tokens token).getD zD).op), .int .i64 (((mget c.tokens token).getD zD).id)]) rfl rfl hNb2 rfl rfl rfl rfl rfl (Nat.le_of_ble_eq_true rfl) rfl ?_
 refine ⟨trivial, trivial, ?_⟩
 show K1 [(6, .ptr ⟨b1, 0, none⟩), (7, .bool ((mget c.tokens token).isSome)), (8, .nilIface)] (AMem.wth m [(b2, .cells [.int .i64 (((mget c.tokens token).getD zD).op), .int .i64 (((mget c.tokens token).getD zD).id)]), (b1, .cells [.int .i64 (((mget c.tokens token).getD zD).op), .int .i64 (((mget c.tokens token).getD zD).id)]), (x, .cells [.ptr ⟨d, 0, none⟩, .map tb, .map ob, .int .i64 c.next, .int .i64 c.quota, .int .i64 (c.calls + 1), .map fb]), (d, .cells [.map kb, .map nb, .slice true ((((stepF s).1).wait).map chgAV), .int .i64 (((stepF s).1).fuse), .bool (((stepF s).1).down), .int .i64 (((stepF s).1).steps)]), (ob, oObj c.tokens), (fb, fObj c.fails)])
 refine hK1 _ _ ?_; clear hK1 K1
 refine awp_toErr 108 [8] ?_
 show AWP _ _ _ _ [(6, .ptr ⟨b1, 0, none⟩), (7, .bool ((mget c.tokens token).isSome)), (8, .err 108 0)] _
 refine awp_ret ?_
 refine resK_cell3 (fn := Try.f81) (a := 6) (t := 134) (s := 7) (u := 8) (b := b1) (off := 0) rfl rfl (wth_get  (m := m) (L := [(b2, .cells [.int .i64 (((mget c.tokens token).getD zD).op), .int .i64 (((mget c.tokens token).getD zD).id)]), (b1, .cells [.int .i64 (((mget c.tokens token).getD zD).op), .int .i64 (((mget c.tokens token).getD zD).id)]), (x, .cells [.ptr ⟨d, 0, none⟩, .map tb, .map ob, .int .i64 c.next, .int .i64 c.quota, .int .i64 (c.calls + 1), .map fb]), (d, .cells [.map kb, .map nb, .slice true ((((stepF s).1).wait).map chgAV), .int .i64 (((stepF s).1).fuse), .bool (((stepF s).1).down), .int .i64 (((stepF s).1).steps)]), (ob, oObj c.tokens), (fb, fObj c.fails)]) 1 hNb2 rfl) (apartOk_agg rfl rfl (Nat.le_of_ble_eq_true rfl)) (.agg [.int .i64 (((mget c.tokens token).getD zD).op), .int .i64 (((mget c.tokens token).getD zD).id)]) (.bool ((mget c.tokens token).isSome)) (.err 108 0) rfl rfl rfl (.bool ((mget c.tokens token).isSome)) (.err 108 0) rfl rfl (AMem.wth m [(x, .cells [.ptr ⟨d, 0, none⟩, .map tb, .map ob, .int .i64 c.next, .int .i64 c.quota, .int .i64 (c.calls + 1), .map fb]), (d, .cells [.map kb, .map nb, .slice true ((((stepF s).1).wait).map chgAV), .int .i64 (((stepF s).1).fuse), .bool (((stepF s).1).down), .int .i64 (((stepF s).1).steps)]), (ob, oObj c.tokens), (fb, fObj c.fails)]) ((wth_sub2 (m := m) [(b2, .cells [.int .i64 (((mget c.tokens token).getD zD).op), .int .i64 (((mget c.tokens token).getD zD).id)]), (b1, .cells [.int .i64 (((mget c.tokens token).getD zD).op), .int .i64 (((mget c.tokens token).getD zD).id)])] [(x, .cells [.ptr ⟨d, 0, none⟩, .map tb, .map ob, .int .i64 c.next, .int .i64 c.quota, .int .i64 (c.calls + 1), .map fb]), (d, .cells [.map kb, .map nb, .slice true ((((stepF s).1).wait).map chgAV), .int .i64 (((stepF s).1).fuse), .bool (((stepF s).1).down), .int .i64 (((stepF s).1).steps)]), (ob, oObj c.tokens), (fb, fObj c.fails)] hNb2 (by simp only [List.map_cons, List.map_nil, List.forall_mem_cons]; exact ⟨hFb2, hFb1, fun _ h => by cases h⟩))) ?_
 show K (.tuple [.agg [.int .i64 (((mget c.tokens token).getD zD).op), .int .i64 (((mget c.tokens token).getD zD).id)], .bool ((mget c.tokens token).isSome), .err 108 0]) (AMem.wth m [(x, .cells [.ptr ⟨d, 0, none⟩, .map tb, .map ob, .int .i64 c.next, .int .i64 c.quota, .int .i64 (c.calls + 1), .map fb]), (d, .cells [.map kb, .map nb, .slice true ((((stepF s).1).wait).map chgAV), .int .i64 (((stepF s).1).fuse), .bool (((stepF s).1).down), .int .i64 (((stepF s).1).steps)]), (ob, oObj c.tokens), (fb, fObj c.fails)])

 have e0 : callR c s token op = ((((⟨c.things, c.tokens, c.next, c.quota, c.calls + 1, c.fails⟩ : ClSt), (stepF s).1), (((mget c.tokens token).getD zD), ((mget c.tokens token).isSome), 0)) : (ClSt × DSt) × (Dn × Bool × Int)) := by
  first | exact callR_1 (by assumption) | exact callR_2 (by assumption) (by assumption) | exact callR_3 (by assumption) (by assumption) (by assumption) | exact callR_4 (by assumption) (by assumption) (by assumption)
 rw [e0] at hK
 exact hK


theorem u_callE (x d tb ob fb kb nb : Nat) (c : ClSt) (s : DSt) (token : Str) (op : Int) (hN : [x, d, ob, fb].Nodup) (hst : 0 ≤ s.steps) (hst2 : s.steps ≤ 4611686018427387904) (hfu : -1 ≤ s.fuse) (hfu2 : s.fuse ≤ 9223372036854775807) (hca : 0 ≤ c.calls) (hca2 : c.calls ≤ 1000000) (m : AMem) (K : AV → AMem → Prop) (hK : K (.tuple [dnAV (callT c s token op).1, .bool (callT c s token op).2.1, .err 108 (callT c s token op).2.2]) (AMem.wth m [(x, cObj d tb ob fb { c with calls := ccalls c s token op }), (d, dObj kb nb (stepF s).1), (ob, oObj c.tokens), (fb, fObj c.fails)])) : ACalls Try.prog 81 [.ptr ⟨x, 0, none⟩, .str token, .int .i64 op] (AMem.wth m [(x, cObj d tb ob fb c), (d, .cells [.map kb, .map nb, .slice true (s.wait.map chgAV), .int .i64 s.fuse, .bool s.down, .int .i64 s.steps]), (ob, oObj c.tokens), (fb, fObj c.fails)]) K :=
  u_call x d tb ob fb kb nb c s token op hN hst hst2 hfu hfu2 hca hca2 m K (by rw [callR_eq]; exact hK)

end Go.Proofs
end
section
namespace Go.Proofs
open Go Go.Aw
set_option maxRecDepth 100000


theorem chk_cnt {v : Val} (h : chk v = 0) : depV v ≤ 60 ∧ shpF (depV v + 1) v = true := by
  unfold chk at h
  split at h
  · rename_i h1
    have q := cntF_ok _ _ _ _ (by omega) h1
    exact ⟨by omega, shE_t h⟩
  · simp at h
section
variable {c : ClSt} {s : DSt} {token kind : Str} {v : Val} {id : Int}
theorem createR_1 (h : attrE v ≠ 0) : createR c s token kind v = ((c, s), (0, attrE v)) := by rw [createR, if_pos h]
theorem createR_2 (h : attrE v = 0) (h2 : nameV kind = false) : createR c s token kind v = ((c, s), (0, 3)) := by rw [createR, if_neg (by simp [h]), if_pos h2]
theorem createR_3 (h : attrE v = 0) (h2 : nameV kind = true) (h3 : (callT c s token 1).2.2 ≠ 0 ∨ (callT c s token 1).2.1 = true) : createR c s token kind v = (({ c with calls := ccalls c s token 1 }, (stepF s).1), ((callT c s token 1).1.id, (callT c s token 1).2.2)) := by
  rw [createR, if_neg (by simp [h]), if_neg (by simp [h2]), if_pos h3]
theorem createR_4 (h : attrE v = 0) (h2 : nameV kind = true) (h3 : (callT c s token 1).2.2 = 0 ∧ (callT c s token 1).2.1 = false) (h4 : c.quota ≤ c.things.length) : createR c s token kind v = (({ c with calls := ccalls c s token 1 }, (stepF s).1), (0, 13)) := by
  rw [createR, if_neg (by simp [h]), if_neg (by simp [h2]), if_neg (by simp [h3]), if_pos h4]
theorem createR_5 (h : attrE v = 0) (h2 : nameV kind = true) (h3 : (callT c s token 1).2.2 = 0 ∧ (callT c s token 1).2.1 = false) (h4 : (c.things.length : Int) < c.quota) : createR c s token kind v = (({ c with calls := ccalls c s token 1, next := c.next + 1, things := mput c.things c.next ⟨c.next, kind, v⟩, tokens := mput c.tokens token ⟨1, c.next⟩ }, (stepF s).1), (c.next, 0)) := by
  rw [createR, if_neg (by simp [h]), if_neg (by simp [h2]), if_neg (by simp [h3]), if_neg (by omega)]
theorem updateR_1 (h : attrE v ≠ 0) : updateR c s token id v = ((c, s), attrE v) := by rw [updateR, if_pos h]
theorem updateR_2 (h : attrE v = 0) (h3 : (callT c s token 2).2.2 ≠ 0 ∨ (callT c s token 2).2.1 = true) : updateR c s token id v = (({ c with calls := ccalls c s token 2 }, (stepF s).1), (callT c s token 2).2.2) := by
  rw [updateR, if_neg (by simp [h]), if_pos h3]
theorem updateR_3 (h : attrE v = 0) (h3 : (callT c s token 2).2.2 = 0 ∧ (callT c s token 2).2.1 = false) (h4 : (mget c.things id).isSome = false) : updateR c s token id v = (({ c with calls := ccalls c s token 2 }, (stepF s).1), 7) := by
  rw [updateR, if_neg (by simp [h]), if_neg (by simp [h3]), if_pos h4]
theorem updateR_4 (h : attrE v = 0) (h3 : (callT c s token 2).2.2 = 0 ∧ (callT c s token 2).2.1 = false) (h4 : (mget c.things id).isSome = true) : updateR c s token id v = (({ c with calls := ccalls c s token 2, things := mput c.things id ⟨((mget c.things id).getD zT).id, ((mget c.things id).getD zT).kind, v⟩, tokens := mput c.tokens token ⟨2, id⟩ }, (stepF s).1), 0) := by
  rw [updateR, if_neg (by simp [h]), if_neg (by simp [h3]), if_neg (by simp [h4])]
theorem deleteR_2 (h3 : (callT c s token 3).2.2 ≠ 0 ∨ (callT c s token 3).2.1 = true) : deleteR c s token id = (({ c with calls := ccalls c s token 3 }, (stepF s).1), (callT c s token 3).2.2) := by
  rw [deleteR, if_pos h3]
theorem deleteR_3 (h3 : (callT c s token 3).2.2 = 0 ∧ (callT c s token 3).2.1 = false) (h4 : (mget c.things id).isSome = false) : deleteR c s token id = (({ c with calls := ccalls c s token 3 }, (stepF s).1), 7) := by
  rw [deleteR, if_neg (by simp [h3]), if_pos h4]
theorem deleteR_4 (h3 : (callT c s token 3).2.2 = 0 ∧ (callT c s token 3).2.1 = false) (h4 : (mget c.things id).isSome = true) : deleteR c s token id = (({ c with calls := ccalls c s token 3, things := mdel c.things id, tokens := mput c.tokens token ⟨3, id⟩ }, (stepF s).1), 0) := by
  rw [deleteR, if_neg (by simp [h3]), if_neg (by simp [h4])]
end
theorem chk_okV {v : Val} (h : chk v = 0) : okV v := okV_small (depV v + 1) v (Nat.lt_succ_self _) (by have := (chk_cnt h).1; omega)

set_option maxHeartbeats 8000000 in
theorem u_Create (x d tb ob fb kb nb : Nat) (c : ClSt) (s : DSt) (token kind : Str) (v : Val) (hN : [x, d, tb, ob, fb].Nodup) (hkd : kind.length ≤ 140737488355328) (hst : 0 ≤ s.steps) (hst2 : s.steps ≤ 4611686018427387904) (hfu : -1 ≤ s.fuse) (hfu2 : s.fuse ≤ 9223372036854775807) (hca : 0 ≤ c.calls) (hca2 : c.calls ≤ 1000000) (hnx : 0 ≤ c.next) (hnx2 : c.next ≤ 1000000) (htl : c.things.length ≤ 1000000) (hol : c.tokens.length ≤ 1000000) (m : AMem)  (K : AV → AMem → Prop) (hK : K (.tuple [.int .i64 (createR c s token kind v).2.1, .err 108 (createR c s token kind v).2.2]) (AMem.wth m [(x, cObj d tb ob fb (createR c s token kind v).1.1), (d, dObj kb nb (createR c s token kind v).1.2), (tb, tObj (createR c s token kind v).1.1.things), (ob, oObj (createR c s token kind v).1.1.tokens), (fb, fObj (createR c s token kind v).1.1.fails)])) : ACalls Try.prog 48 [.ptr ⟨x, 0, none⟩, .str token, .str kind, valTop v] (AMem.wth m [(x, cObj d tb ob fb c), (d, .cells [.map kb, .map nb, .slice true (s.wait.map chgAV), .int .i64 s.fuse, .bool s.down, .int .i64 s.steps]), (tb, tObj c.things), (ob, oObj c.tokens), (fb, fObj c.fails)]) K := by
 refine acalls_enter Try.func48 rfl (by decide) (Nat.le_of_ble_eq_true rfl) ?_
 show AWP _ _ _ _ [(0, .ptr ⟨x, 0, none⟩), (1, .str token), (2, .str kind), (3, valTop v)] (AMem.wth m [(x, cObj d tb ob fb c), (d, .cells [.map kb, .map nb, .slice true (s.wait.map chgAV), .int .i64 s.fuse, .bool s.down, .int .i64 s.steps]), (tb, tObj c.things), (ob, oObj c.tokens), (fb, fObj c.fails)])
 refine awp_reg2_seq [] [0, 1, 2, 7] (by decide) ?_
 intro K1 hK1
 refine ar_box rfl (m := m) (L := [(x, cObj d tb ob fb c), (d, .cells [.map kb, .map nb, .slice true (s.wait.map chgAV), .int .i64 s.fuse, .bool s.down, .int .i64 s.steps]), (tb, tObj c.things), (ob, oObj c.tokens), (fb, fObj c.fails)]) (v := valTop v) (by rfl) rfl ?_
 intro b1 hb1
 have hFb1 : m b1 = none := wth_none hb1
 have hNb1 : ([b1, x, d, tb, ob, fb] : List Nat).Nodup := wth_nodup hb1 hN
 refine ⟨trivial, trivial, ?_⟩
 show K1 [(0, .ptr ⟨x, 0, none⟩), (1, .str token), (2, .str kind), (7, .ptr ⟨b1, 0, none⟩)] (AMem.wth m [(b1, .cells [.int .i64 v.kind, .int .i64 v.n, .str v.s, .slice false (v.l.map valIn), .slice false (v.f.map fldIn)]), (x, cObj d tb ob fb c), (d, .cells [.map kb, .map nb, .slice true (s.wait.map chgAV), .int .i64 s.fuse, .bool s.down, .int .i64 s.steps]), (tb, tObj c.things), (ob, oObj c.tokens), (fb, fObj c.fails)])
 refine hK1 _ _ ?_; clear hK1 K1
 refine awp_reg2_seq [] [0, 1, 2, 7, 10] (by decide) ?_
 intro K1 hK1
 refine ar_loadp rfl (v := .agg [.int .i64 v.kind, .int .i64 v.n, .str v.s, .slice false (v.l.map valIn), .slice false (v.f.map fldIn)]) rfl (wth_get 0 hNb1 rfl) rfl (apartOk_agg rfl rfl (Nat.le_of_ble_eq_true rfl)) rfl ?_
 refine u_attrs v _ _ ?_
 refine ⟨trivial, ?_⟩
 show K1 [(0, .ptr ⟨x, 0, none⟩), (1, .str token), (2, .str kind), (7, .ptr ⟨b1, 0, none⟩), (10, .err 108 (attrE v))] _
 refine hK1 _ _ ?_; clear hK1 K1
 refine awp_seq_k ?_; intro K2 hK2
 refine awp_reg2_seq [] [0, 1, 2, 7, 10, 17] (by decide) ?_
 intro K1 hK1
 refine ⟨trivial, ⟨rfl, rfl⟩, ?_⟩
 show K1 [(0, .ptr ⟨x, 0, none⟩), (1, .str token), (2, .str kind), (7, .ptr ⟨b1, 0, none⟩), (10, .err 108 (attrE v)), (17, .bool (!((attrE v) == 0)))] _
 refine hK1 _ _ ?_; clear hK1 K1
 refine awp_cond rfl rfl (fun h1 => ?_) (fun h1 => ?_)
 ·
  replace h1 : attrE v ≠ 0 := (ne_of_beq_false (bnT h1))
  refine awp_reg2_seq [] [8, 9] (by decide) ?_
  intro K1 hK1
  refine ⟨trivial, trivial, trivial, ?_⟩
  show K1 [(8, .int .i64 0), (9, .err 108 (attrE v))] (AMem.wth m [(b1, .cells [.int .i64 v.kind, .int .i64 v.n, .str v.s, .slice false (v.l.map valIn), .slice false (v.f.map fldIn)]), (x, cObj d tb ob fb c), (d, .cells [.map kb, .map nb, .slice true (s.wait.map chgAV), .int .i64 s.fuse, .bool s.down, .int .i64 s.steps]), (tb, tObj c.things), (ob, oObj c.tokens), (fb, fObj c.fails)])
  refine hK1 _ _ ?_; clear hK1 K1
  refine awp_ret ?_
  refine ⟨trivial, trivial, (AMem.wth m [(x, cObj d tb ob fb c), (d, .cells [.map kb, .map nb, .slice true (s.wait.map chgAV), .int .i64 s.fuse, .bool s.down, .int .i64 s.steps]), (tb, tObj c.things), (ob, oObj c.tokens), (fb, fObj c.fails)]), (wth_sub2 (m := m) [(b1, .cells [.int .i64 v.kind, .int .i64 v.n, .str v.s, .slice false (v.l.map valIn), .slice false (v.f.map fldIn)])] [(x, cObj d tb ob fb c), (d, .cells [.map kb, .map nb, .slice true (s.wait.map chgAV), .int .i64 s.fuse, .bool s.down, .int .i64 s.steps]), (tb, tObj c.things), (ob, oObj c.tokens), (fb, fObj c.fails)] hNb1 (by simp only [List.map_cons, List.map_nil, List.forall_mem_cons]; exact ⟨hFb1, fun _ h => by cases h⟩)), ?_⟩
  show K (.tuple [.int .i64 0, .err 108 (attrE v)]) (AMem.wth m [(x, cObj d tb ob fb c), (d, .cells [.map kb, .map nb, .slice true (s.wait.map chgAV), .int .i64 s.fuse, .bool s.down, .int .i64 s.steps]), (tb, tObj c.things), (ob, oObj c.tokens), (fb, fObj c.fails)])
 
  have e0 : createR c s token kind v = (((c, s), (0, attrE v)) : (ClSt × DSt) × (Int × Int)) := by
   first | exact createR_1 (by assumption) | exact createR_2 (by assumption) (by assumption) | exact createR_3 (by assumption) (by assumption) (by assumption) | exact createR_4 (by assumption) (by assumption) (by assumption) (by assumption) | exact createR_5 (by assumption) (by assumption) (by assumption) (by assumption)
  rw [e0] at hK
  exact hK
 replace h1 : attrE v = 0 := (eq_of_beq (bnF h1))
 refine awp_skip ?_
 refine hK2 _ _ ?_; clear hK2
 refine awp_seq_k ?_; intro K3 hK3
 refine awp_reg2_seq [] [0, 1, 2, 7, 21] (by decide) ?_
 intro K1 hK1
 refine ⟨trivial, ?_⟩
 refine u_VName kind (by first | exact hkd | omega) _ _ ?_
 refine ⟨trivial, ?_⟩
 show K1 [(0, .ptr ⟨x, 0, none⟩), (1, .str token), (2, .str kind), (7, .ptr ⟨b1, 0, none⟩), (21, .bool (!(nameV kind)))] (AMem.wth m [(b1, .cells [.int .i64 v.kind, .int .i64 v.n, .str v.s, .slice false (v.l.map valIn), .slice false (v.f.map fldIn)]), (x, cObj d tb ob fb c), (d, .cells [.map kb, .map nb, .slice true (s.wait.map chgAV), .int .i64 s.fuse, .bool s.down, .int .i64 s.steps]), (tb, tObj c.things), (ob, oObj c.tokens), (fb, fObj c.fails)])
 refine hK1 _ _ ?_; clear hK1 K1
 refine awp_cond rfl rfl (fun h2 => ?_) (fun h2 => ?_)
 ·
  replace h2 : nameV kind = false := (bnT h2)
  refine awp_reg2_seq [] [8, 9] (by decide) ?_
  intro K1 hK1
  refine ⟨trivial, trivial, trivial, ?_⟩
  show K1 [(8, .int .i64 0), (9, .iface 108 (.int .i64 3))] (AMem.wth m [(b1, .cells [.int .i64 v.kind, .int .i64 v.n, .str v.s, .slice false (v.l.map valIn), .slice false (v.f.map fldIn)]), (x, cObj d tb ob fb c), (d, .cells [.map kb, .map nb, .slice true (s.wait.map chgAV), .int .i64 s.fuse, .bool s.down, .int .i64 s.steps]), (tb, tObj c.things), (ob, oObj c.tokens), (fb, fObj c.fails)])
  refine hK1 _ _ ?_; clear hK1 K1
  refine awp_toErr 108 [9] ?_
  show AWP _ _ _ _ [(8, .int .i64 0), (9, .err 108 3)] _
  refine awp_ret ?_
  refine ⟨trivial, trivial, (AMem.wth m [(x, cObj d tb ob fb c), (d, .cells [.map kb, .map nb, .slice true (s.wait.map chgAV), .int .i64 s.fuse, .bool s.down, .int .i64 s.steps]), (tb, tObj c.things), (ob, oObj c.tokens), (fb, fObj c.fails)]), (wth_sub2 (m := m) [(b1, .cells [.int .i64 v.kind, .int .i64 v.n, .str v.s, .slice false (v.l.map valIn), .slice false (v.f.map fldIn)])] [(x, cObj d tb ob fb c), (d, .cells [.map kb, .map nb, .slice true (s.wait.map chgAV), .int .i64 s.fuse, .bool s.down, .int .i64 s.steps]), (tb, tObj c.things), (ob, oObj c.tokens), (fb, fObj c.fails)] hNb1 (by simp only [List.map_cons, List.map_nil, List.forall_mem_cons]; exact ⟨hFb1, fun _ h => by cases h⟩)), ?_⟩
  show K (.tuple [.int .i64 0, .err 108 3]) (AMem.wth m [(x, cObj d tb ob fb c), (d, .cells [.map kb, .map nb, .slice true (s.wait.map chgAV), .int .i64 s.fuse, .bool s.down, .int .i64 s.steps]), (tb, tObj c.things), (ob, oObj c.tokens), (fb, fObj c.fails)])
 
  have e0 : createR c s token kind v = (((c, s), (0, 3)) : (ClSt × DSt) × (Int × Int)) := by
   first | exact createR_1 (by assumption) | exact createR_2 (by assumption) (by assumption) | exact createR_3 (by assumption) (by assumption) (by assumption) | exact createR_4 (by assumption) (by assumption) (by assumption) (by assumption) | exact createR_5 (by assumption) (by assumption) (by assumption) (by assumption)
  rw [e0] at hK
  exact hK
 replace h2 : nameV kind = true := (bnF h2)
 refine awp_skip ?_
 refine hK3 _ _ ?_; clear hK3
 refine awp_reg2_seq [] [0, 1, 2, 7, 10, 11, 12] (by decide) ?_
 intro K1 hK1
 refine ⟨trivial, trivial, ?_⟩
 refine ar_mem (wth_split hNb1 (pick_perm [1, 1, 2, 2] _)) ?_
 refine u_callE x d tb ob fb kb nb c s token 1 (by simp at hN ⊢; omega) hst hst2 hfu hfu2 hca hca2 _ _ ?_
 show aopsR _ _ _ _ _ _ (AMem.wth (AMem.wth m [(b1, .cells [.int .i64 v.kind, .int .i64 v.n, .str v.s, .slice false (v.l.map valIn), .slice false (v.f.map fldIn)]), (tb, tObj c.things)]) [(x, .cells [.ptr ⟨d, 0, none⟩, .map tb, .map ob, .int .i64 c.next, .int .i64 c.quota, .int .i64 (ccalls c s token 1), .map fb]), (d, .cells [.map kb, .map nb, .slice true ((((stepF s).1).wait).map chgAV), .int .i64 (((stepF s).1).fuse), .bool (((stepF s).1).down), .int .i64 (((stepF s).1).steps)]), (ob, oObj c.tokens), (fb, fObj c.fails)])
 refine ar_mem (wth_split (m := m) (L := [(b1, .cells [.int .i64 v.kind, .int .i64 v.n, .str v.s, .slice false (v.l.map valIn), .slice false (v.f.map fldIn)]), (x, .cells [.ptr ⟨d, 0, none⟩, .map tb, .map ob, .int .i64 c.next, .int .i64 c.quota, .int .i64 (ccalls c s token 1), .map fb]), (d, .cells [.map kb, .map nb, .slice true ((((stepF s).1).wait).map chgAV), .int .i64 (((stepF s).1).fuse), .bool (((stepF s).1).down), .int .i64 (((stepF s).1).steps)]), (tb, tObj c.things), (ob, oObj c.tokens), (fb, fObj c.fails)]) hNb1 (pick_perm [1, 1, 2, 2] _)).symm ?_
 refine ⟨trivial, (Nat.le_of_ble_eq_true rfl), (Nat.le_of_ble_eq_true rfl), (Nat.le_of_ble_eq_true rfl), ?_⟩
 refine ar_alloc rfl (z := .agg [.int .i64 0, .int .i64 0]) rfl rfl ?_
 intro b2 hb2
 have hFb2 : m b2 = none := wth_none hb2
 have hNb2 : ([b2, b1, x, d, tb, ob, fb] : List Nat).Nodup := wth_nodup hb2 hNb1
 refine ar_storep rfl 0 (v := .agg [.int .i64 ((callT c s token 1).1.op), .int .i64 ((callT c s token 1).1.id)]) (l' := [.int .i64 ((callT c s token 1).1.op), .int .i64 ((callT c s token 1).1.id)]) rfl rfl hNb2 rfl rfl rfl rfl rfl (Nat.le_of_ble_eq_true rfl) rfl ?_
 refine ⟨trivial, trivial, ?_⟩
 show K1 [(0, .ptr ⟨x, 0, none⟩), (1, .str token), (2, .str kind), (7, .ptr ⟨b1, 0, none⟩), (10, .err 108 ((callT c s token 1).2.2)), (11, .ptr ⟨b2, 0, none⟩), (12, .bool ((callT c s token 1).2.1))] (AMem.wth m [(b2, .cells [.int .i64 ((callT c s token 1).1.op), .int .i64 ((callT c s token 1).1.id)]), (b1, .cells [.int .i64 v.kind, .int .i64 v.n, .str v.s, .slice false (v.l.map valIn), .slice false (v.f.map fldIn)]), (x, .cells [.ptr ⟨d, 0, none⟩, .map tb, .map ob, .int .i64 c.next, .int .i64 c.quota, .int .i64 (ccalls c s token 1), .map fb]), (d, .cells [.map kb, .map nb, .slice true ((((stepF s).1).wait).map chgAV), .int .i64 (((stepF s).1).fuse), .bool (((stepF s).1).down), .int .i64 (((stepF s).1).steps)]), (tb, tObj c.things), (ob, oObj c.tokens), (fb, fObj c.fails)])
 refine hK1 _ _ ?_; clear hK1 K1
 refine awp_seq_k ?_; intro K4 hK4
 refine awp_reg2_seq [] [0, 1, 2, 7, 10, 11, 34] (by decide) ?_
 intro K1 hK1
 suffices key : K1 [(0, .ptr ⟨x, 0, none⟩), (1, .str token), (2, .str kind), (7, .ptr ⟨b1, 0, none⟩), (10, .err 108 ((callT c s token 1).2.2)), (11, .ptr ⟨b2, 0, none⟩), (34, .bool ((!(((callT c s token 1).2.2) == 0)) || ((callT c s token 1).2.1)))] (AMem.wth m [(b2, .cells [.int .i64 ((callT c s token 1).1.op), .int .i64 ((callT c s token 1).1.id)]), (b1, .cells [.int .i64 v.kind, .int .i64 v.n, .str v.s, .slice false (v.l.map valIn), .slice false (v.f.map fldIn)]), (x, .cells [.ptr ⟨d, 0, none⟩, .map tb, .map ob, .int .i64 c.next, .int .i64 c.quota, .int .i64 (ccalls c s token 1), .map fb]), (d, .cells [.map kb, .map nb, .slice true ((((stepF s).1).wait).map chgAV), .int .i64 (((stepF s).1).fuse), .bool (((stepF s).1).down), .int .i64 (((stepF s).1).steps)]), (tb, tObj c.things), (ob, oObj c.tokens), (fb, fObj c.fails)]) by
  refine ⟨trivial, ⟨rfl, rfl⟩, trivial, ?_⟩
  show aopsR _ _ _ _ _ [(32, .bool (!(((callT c s token 1).2.2) == 0))), (31, .bool (!(((callT c s token 1).2.2) == 0))), (30, .err 108 ((callT c s token 1).2.2)), (0, .ptr ⟨x, 0, none⟩), (1, .str token), (2, .str kind), (7, .ptr ⟨b1, 0, none⟩), (10, .err 108 ((callT c s token 1).2.2)), (11, .ptr ⟨b2, 0, none⟩), (12, .bool ((callT c s token 1).2.1))] _
  revert key
  cases h3 : (((callT c s token 1).2.2) == 0)
  ·
   replace h3 : (callT c s token 1).2.2 ≠ 0 := (ne_of_beq_false h3)
   intro key
   refine ar_off rfl ?_
   exact key
  ·
   replace h3 : (callT c s token 1).2.2 = 0 := (eq_of_beq h3)
   intro key
   refine ⟨trivial, ?_⟩
   exact key
 refine hK1 _ _ ?_; clear hK1 K1
 refine awp_cond rfl rfl (fun h4 => ?_) (fun h4 => ?_)
 ·
  replace h4 : ((callT c s token 1).2.2 ≠ 0) ∨ ((callT c s token 1).2.1 = true) := ((borT h4).imp (fun q => (ne_of_beq_false (bnT q))) (fun q => q))
  refine awp_reg2_seq [] [8, 9] (by decide) ?_
  intro K1 hK1
  refine ⟨⟨rfl, by decide⟩, ?_⟩
  refine ar_loadp rfl (v := .int .i64 ((callT c s token 1).1.id)) rfl (wth_get 0 hNb2 rfl) rfl (apartOk_one rfl rfl (Nat.le_of_ble_eq_true rfl)) rfl ?_
  refine ⟨trivial, trivial, trivial, ?_⟩
  show K1 [(8, .int .i64 ((callT c s token 1).1.id)), (9, .err 108 ((callT c s token 1).2.2))] (AMem.wth m [(b2, .cells [.int .i64 ((callT c s token 1).1.op), .int .i64 ((callT c s token 1).1.id)]), (b1, .cells [.int .i64 v.kind, .int .i64 v.n, .str v.s, .slice false (v.l.map valIn), .slice false (v.f.map fldIn)]), (x, .cells [.ptr ⟨d, 0, none⟩, .map tb, .map ob, .int .i64 c.next, .int .i64 c.quota, .int .i64 (ccalls c s token 1), .map fb]), (d, .cells [.map kb, .map nb, .slice true ((((stepF s).1).wait).map chgAV), .int .i64 (((stepF s).1).fuse), .bool (((stepF s).1).down), .int .i64 (((stepF s).1).steps)]), (tb, tObj c.things), (ob, oObj c.tokens), (fb, fObj c.fails)])
  refine hK1 _ _ ?_; clear hK1 K1
  refine awp_ret ?_
  refine ⟨trivial, trivial, (AMem.wth m [(x, .cells [.ptr ⟨d, 0, none⟩, .map tb, .map ob, .int .i64 c.next, .int .i64 c.quota, .int .i64 (ccalls c s token 1), .map fb]), (d, .cells [.map kb, .map nb, .slice true ((((stepF s).1).wait).map chgAV), .int .i64 (((stepF s).1).fuse), .bool (((stepF s).1).down), .int .i64 (((stepF s).1).steps)]), (tb, tObj c.things), (ob, oObj c.tokens), (fb, fObj c.fails)]), (wth_sub2 (m := m) [(b2, .cells [.int .i64 ((callT c s token 1).1.op), .int .i64 ((callT c s token 1).1.id)]), (b1, .cells [.int .i64 v.kind, .int .i64 v.n, .str v.s, .slice false (v.l.map valIn), .slice false (v.f.map fldIn)])] [(x, .cells [.ptr ⟨d, 0, none⟩, .map tb, .map ob, .int .i64 c.next, .int .i64 c.quota, .int .i64 (ccalls c s token 1), .map fb]), (d, .cells [.map kb, .map nb, .slice true ((((stepF s).1).wait).map chgAV), .int .i64 (((stepF s).1).fuse), .bool (((stepF s).1).down), .int .i64 (((stepF s).1).steps)]), (tb, tObj c.things), (ob, oObj c.tokens), (fb, fObj c.fails)] hNb2 (by simp only [List.map_cons, List.map_nil, List.forall_mem_cons]; exact ⟨hFb2, hFb1, fun _ h => by cases h⟩)), ?_⟩
  show K (.tuple [.int .i64 ((callT c s token 1).1.id), .err 108 ((callT c s token 1).2.2)]) (AMem.wth m [(x, .cells [.ptr ⟨d, 0, none⟩, .map tb, .map ob, .int .i64 c.next, .int .i64 c.quota, .int .i64 (ccalls c s token 1), .map fb]), (d, .cells [.map kb, .map nb, .slice true ((((stepF s).1).wait).map chgAV), .int .i64 (((stepF s).1).fuse), .bool (((stepF s).1).down), .int .i64 (((stepF s).1).steps)]), (tb, tObj c.things), (ob, oObj c.tokens), (fb, fObj c.fails)])
 
  have e0 : createR c s token kind v = ((((⟨c.things, c.tokens, c.next, c.quota, ccalls c s token 1, c.fails⟩ : ClSt), (stepF s).1), ((callT c s token 1).1.id, (callT c s token 1).2.2)) : (ClSt × DSt) × (Int × Int)) := by
   first | exact createR_1 (by assumption) | exact createR_2 (by assumption) (by assumption) | exact createR_3 (by assumption) (by assumption) (by assumption) | exact createR_4 (by assumption) (by assumption) (by assumption) (by assumption) | exact createR_5 (by assumption) (by assumption) (by assumption) (by assumption)
  rw [e0] at hK
  exact hK
 replace h4 : ((callT c s token 1).2.2 = 0) ∧ ((callT c s token 1).2.1 = false) := ⟨(eq_of_beq (bnF (borL h4))), (borR h4)⟩
 refine awp_skip ?_
 refine hK4 _ _ ?_; clear hK4
 refine awp_seq_k ?_; intro K5 hK5
 refine awp_draw_seq Try.mixed [] [0, 1, 2, 7, 47] (by decide) (by decide) ?_
 intro K1 hK1
 refine ⟨trivial, trivial, ⟨rfl, by decide⟩, ?_⟩
 refine pq_loadp rfl (v := .map tb) rfl (wth_get 2 hNb2 rfl) (apartOk_one rfl rfl (Nat.le_of_ble_eq_true rfl)) rfl ?_
 refine pq_lenMap rfl (m := m) (L := [(b2, .cells [.int .i64 ((callT c s token 1).1.op), .int .i64 ((callT c s token 1).1.id)]), (b1, .cells [.int .i64 v.kind, .int .i64 v.n, .str v.s, .slice false (v.l.map valIn), .slice false (v.f.map fldIn)]), (x, .cells [.ptr ⟨d, 0, none⟩, .map tb, .map ob, .int .i64 c.next, .int .i64 c.quota, .int .i64 (ccalls c s token 1), .map fb]), (d, .cells [.map kb, .map nb, .slice true ((((stepF s).1).wait).map chgAV), .int .i64 (((stepF s).1).fuse), .bool (((stepF s).1).down), .int .i64 (((stepF s).1).steps)]), (tb, tObj c.things), (ob, oObj c.tokens), (fb, fObj c.fails)]) (mapAV intAV thgAV) c.things rfl rfl (wth_get 4 hNb2 rfl) ?_
 refine ⟨trivial, trivial, ⟨rfl, by decide⟩, ?_⟩
 refine pq_loadp rfl (v := .int .i64 c.quota) rfl (wth_get 2 hNb2 rfl) (apartOk_one rfl rfl (Nat.le_of_ble_eq_true rfl)) rfl ?_
 refine ⟨trivial, ?_⟩
 show K1 [(0, .ptr ⟨x, 0, none⟩), (1, .str token), (2, .str kind), (7, .ptr ⟨b1, 0, none⟩), (47, .bool (decide (c.quota ≤ (c.things.length : Int))))] (AMem.wth m [(b2, .cells [.int .i64 ((callT c s token 1).1.op), .int .i64 ((callT c s token 1).1.id)]), (b1, .cells [.int .i64 v.kind, .int .i64 v.n, .str v.s, .slice false (v.l.map valIn), .slice false (v.f.map fldIn)]), (x, .cells [.ptr ⟨d, 0, none⟩, .map tb, .map ob, .int .i64 c.next, .int .i64 c.quota, .int .i64 (ccalls c s token 1), .map fb]), (d, .cells [.map kb, .map nb, .slice true ((((stepF s).1).wait).map chgAV), .int .i64 (((stepF s).1).fuse), .bool (((stepF s).1).down), .int .i64 (((stepF s).1).steps)]), (tb, tObj c.things), (ob, oObj c.tokens), (fb, fObj c.fails)])
 refine hK1 _ _ ?_; clear hK1 K1
 refine awp_cond rfl rfl (fun h5 => ?_) (fun h5 => ?_)
 ·
  replace h5 : c.quota ≤ (c.things.length : Int) := (of_decide_eq_true h5)
  refine awp_reg2_seq [] [8, 9] (by decide) ?_
  intro K1 hK1
  refine ⟨trivial, trivial, trivial, ?_⟩
  show K1 [(8, .int .i64 0), (9, .iface 108 (.int .i64 13))] (AMem.wth m [(b2, .cells [.int .i64 ((callT c s token 1).1.op), .int .i64 ((callT c s token 1).1.id)]), (b1, .cells [.int .i64 v.kind, .int .i64 v.n, .str v.s, .slice false (v.l.map valIn), .slice false (v.f.map fldIn)]), (x, .cells [.ptr ⟨d, 0, none⟩, .map tb, .map ob, .int .i64 c.next, .int .i64 c.quota, .int .i64 (ccalls c s token 1), .map fb]), (d, .cells [.map kb, .map nb, .slice true ((((stepF s).1).wait).map chgAV), .int .i64 (((stepF s).1).fuse), .bool (((stepF s).1).down), .int .i64 (((stepF s).1).steps)]), (tb, tObj c.things), (ob, oObj c.tokens), (fb, fObj c.fails)])
  refine hK1 _ _ ?_; clear hK1 K1
  refine awp_toErr 108 [9] ?_
  show AWP _ _ _ _ [(8, .int .i64 0), (9, .err 108 13)] _
  refine awp_ret ?_
  refine ⟨trivial, trivial, (AMem.wth m [(x, .cells [.ptr ⟨d, 0, none⟩, .map tb, .map ob, .int .i64 c.next, .int .i64 c.quota, .int .i64 (ccalls c s token 1), .map fb]), (d, .cells [.map kb, .map nb, .slice true ((((stepF s).1).wait).map chgAV), .int .i64 (((stepF s).1).fuse), .bool (((stepF s).1).down), .int .i64 (((stepF s).1).steps)]), (tb, tObj c.things), (ob, oObj c.tokens), (fb, fObj c.fails)]), (wth_sub2 (m := m) [(b2, .cells [.int .i64 ((callT c s token 1).1.op), .int .i64 ((callT c s token 1).1.id)]), (b1, .cells [.int .i64 v.kind, .int .i64 v.n, .str v.s, .slice false (v.l.map valIn), .slice false (v.f.map fldIn)])] [(x, .cells [.ptr ⟨d, 0, none⟩, .map tb, .map ob, .int .i64 c.next, .int .i64 c.quota, .int .i64 (ccalls c s token 1), .map fb]), (d, .cells [.map kb, .map nb, .slice true ((((stepF s).1).wait).map chgAV), .int .i64 (((stepF s).1).fuse), .bool (((stepF s).1).down), .int .i64 (((stepF s).1).steps)]), (tb, tObj c.things), (ob, oObj c.tokens), (fb, fObj c.fails)] hNb2 (by simp only [List.map_cons, List.map_nil, List.forall_mem_cons]; exact ⟨hFb2, hFb1, fun _ h => by cases h⟩)), ?_⟩
  show K (.tuple [.int .i64 0, .err 108 13]) (AMem.wth m [(x, .cells [.ptr ⟨d, 0, none⟩, .map tb, .map ob, .int .i64 c.next, .int .i64 c.quota, .int .i64 (ccalls c s token 1), .map fb]), (d, .cells [.map kb, .map nb, .slice true ((((stepF s).1).wait).map chgAV), .int .i64 (((stepF s).1).fuse), .bool (((stepF s).1).down), .int .i64 (((stepF s).1).steps)]), (tb, tObj c.things), (ob, oObj c.tokens), (fb, fObj c.fails)])
 
  have e0 : createR c s token kind v = ((((⟨c.things, c.tokens, c.next, c.quota, ccalls c s token 1, c.fails⟩ : ClSt), (stepF s).1), (0, 13)) : (ClSt × DSt) × (Int × Int)) := by
   first | exact createR_1 (by assumption) | exact createR_2 (by assumption) (by assumption) | exact createR_3 (by assumption) (by assumption) (by assumption) | exact createR_4 (by assumption) (by assumption) (by assumption) (by assumption) | exact createR_5 (by assumption) (by assumption) (by assumption) (by assumption)
  rw [e0] at hK
  exact hK
 replace h5 : (c.things.length : Int) < c.quota := (Int.not_le.1 (of_decide_eq_false h5))
 refine awp_skip ?_
 refine hK5 _ _ ?_; clear hK5
 refine awp_reg2_seq [] [0, 1, 2, 7, 13] (by decide) ?_
 intro K1 hK1
 refine ⟨trivial, trivial, ⟨rfl, by decide⟩, ?_⟩
 refine ar_loadp rfl (v := .int .i64 c.next) rfl (wth_get 2 hNb2 rfl) rfl (apartOk_one rfl rfl (Nat.le_of_ble_eq_true rfl)) rfl ?_
 refine ⟨trivial, ?_⟩
 show K1 [(0, .ptr ⟨x, 0, none⟩), (1, .str token), (2, .str kind), (7, .ptr ⟨b1, 0, none⟩), (13, .int .i64 c.next)] (AMem.wth m [(b2, .cells [.int .i64 ((callT c s token 1).1.op), .int .i64 ((callT c s token 1).1.id)]), (b1, .cells [.int .i64 v.kind, .int .i64 v.n, .str v.s, .slice false (v.l.map valIn), .slice false (v.f.map fldIn)]), (x, .cells [.ptr ⟨d, 0, none⟩, .map tb, .map ob, .int .i64 c.next, .int .i64 c.quota, .int .i64 (ccalls c s token 1), .map fb]), (d, .cells [.map kb, .map nb, .slice true ((((stepF s).1).wait).map chgAV), .int .i64 (((stepF s).1).fuse), .bool (((stepF s).1).down), .int .i64 (((stepF s).1).steps)]), (tb, tObj c.things), (ob, oObj c.tokens), (fb, fObj c.fails)])
 refine hK1 _ _ ?_; clear hK1 K1
 refine awp_reg2_seq [] [0, 1, 2, 7, 13] (by decide) ?_
 intro K1 hK1
 refine ⟨trivial, trivial, ⟨rfl, by decide⟩, ?_⟩
 refine ar_loadp rfl (v := .int .i64 c.next) rfl (wth_get 2 hNb2 rfl) rfl (apartOk_one rfl rfl (Nat.le_of_ble_eq_true rfl)) rfl ?_
 refine ar_add rfl (a := c.next) (b := 1) rfl rfl (by omega) (by omega) ?_
 refine ⟨trivial, ⟨rfl, by decide⟩, ?_⟩
 refine ar_storep rfl 2 (v := .int .i64 (c.next + 1)) (l' := [.ptr ⟨d, 0, none⟩, .map tb, .map ob, .int .i64 (c.next + 1), .int .i64 c.quota, .int .i64 (ccalls c s token 1), .map fb]) rfl rfl hNb2 rfl rfl rfl rfl rfl (Nat.le_of_ble_eq_true rfl) rfl ?_
 show K1 [(0, .ptr ⟨x, 0, none⟩), (1, .str token), (2, .str kind), (7, .ptr ⟨b1, 0, none⟩), (13, .int .i64 c.next)] (AMem.wth m [(b2, .cells [.int .i64 ((callT c s token 1).1.op), .int .i64 ((callT c s token 1).1.id)]), (b1, .cells [.int .i64 v.kind, .int .i64 v.n, .str v.s, .slice false (v.l.map valIn), .slice false (v.f.map fldIn)]), (x, .cells [.ptr ⟨d, 0, none⟩, .map tb, .map ob, .int .i64 (c.next + 1), .int .i64 c.quota, .int .i64 (ccalls c s token 1), .map fb]), (d, .cells [.map kb, .map nb, .slice true ((((stepF s).1).wait).map chgAV), .int .i64 (((stepF s).1).fuse), .bool (((stepF s).1).down), .int .i64 (((stepF s).1).steps)]), (tb, tObj c.things), (ob, oObj c.tokens), (fb, fObj c.fails)])
 refine hK1 _ _ ?_; clear hK1 K1
 refine awp_draw_tail2_seq Try.mixed 10 [] [(valTop v)] [] [0, 1, 13] (by decide) (by decide) ?_
 intro K1 hK1
 refine ⟨trivial, trivial, ⟨rfl, by decide⟩, ?_⟩
 refine pq_loadp rfl (v := .map tb) rfl (wth_get 2 hNb2 rfl) (apartOk_one rfl rfl (Nat.le_of_ble_eq_true rfl)) rfl ?_
 refine ⟨trivial, trivial, trivial, ?_⟩
 refine pq_loadp rfl (v := .agg [.int .i64 v.kind, .int .i64 v.n, .str v.s, .slice false (v.l.map valIn), .slice false (v.f.map fldIn)]) rfl (wth_get 1 hNb2 rfl) (apartOk_agg rfl rfl (Nat.le_of_ble_eq_true rfl)) rfl ?_
 refine ⟨(fun Kc hKc => u_Copy v (chk_okV (attrE_0 (by assumption))) _ Kc hKc), ⟨rfl, by simp only [List.forall_mem_cons]; exact ⟨rfl, rfl, rfl, fun _ h => by cases h⟩, by simp only [List.forall_mem_cons]; exact ⟨rfl, rfl, rfl, fun _ h => by cases h⟩⟩, ?_⟩
 show aopsR _ _ _ _ _ [(69, .agg [.int .i64 c.next, .str kind, .int .i64 v.kind, .int .i64 v.n, .str v.s, .slice false (v.l.map valIn), .slice false (v.f.map fldIn)]), (68, valTop v), (67, .agg [.int .i64 v.kind, .int .i64 v.n, .str v.s, .slice false (v.l.map valIn), .slice false (v.f.map fldIn)]), (66, .str kind), (65, .int .i64 c.next), (64, .int .i64 c.next), (63, .map tb), (62, .ptr ⟨x, 1, none⟩), (61, .ptr ⟨x, 0, none⟩), (60, .ptr ⟨x, 0, none⟩), (0, .ptr ⟨x, 0, none⟩), (1, .str token), (2, .str kind), (7, .ptr ⟨b1, 0, none⟩), (13, .int .i64 c.next)] _
 refine ar_mapUpdate rfl (m := m) (L := [(b2, .cells [.int .i64 ((callT c s token 1).1.op), .int .i64 ((callT c s token 1).1.id)]), (b1, .cells [.int .i64 v.kind, .int .i64 v.n, .str v.s, .slice false (v.l.map valIn), .slice false (v.f.map fldIn)]), (x, .cells [.ptr ⟨d, 0, none⟩, .map tb, .map ob, .int .i64 (c.next + 1), .int .i64 c.quota, .int .i64 (ccalls c s token 1), .map fb]), (d, .cells [.map kb, .map nb, .slice true ((((stepF s).1).wait).map chgAV), .int .i64 (((stepF s).1).fuse), .bool (((stepF s).1).down), .int .i64 (((stepF s).1).steps)]), (tb, tObj c.things), (ob, oObj c.tokens), (fb, fObj c.fails)]) 4 intAV thgAV intKey_ok c.things c.next (⟨c.next, kind, v⟩ : Thg) rfl rfl rfl rfl rfl rfl hNb2 (by first | (have := mput_len c.things c.next ⟨c.next, kind, v⟩; omega) | (have := mput_len c.tokens token ⟨1, c.next⟩; omega)) ?_
 show K1 [(0, .ptr ⟨x, 0, none⟩), (1, .str token), (13, .int .i64 c.next)] (AMem.wth m [(b2, .cells [.int .i64 ((callT c s token 1).1.op), .int .i64 ((callT c s token 1).1.id)]), (b1, .cells [.int .i64 v.kind, .int .i64 v.n, .str v.s, .slice false (v.l.map valIn), .slice false (v.f.map fldIn)]), (x, .cells [.ptr ⟨d, 0, none⟩, .map tb, .map ob, .int .i64 (c.next + 1), .int .i64 c.quota, .int .i64 (ccalls c s token 1), .map fb]), (d, .cells [.map kb, .map nb, .slice true ((((stepF s).1).wait).map chgAV), .int .i64 (((stepF s).1).fuse), .bool (((stepF s).1).down), .int .i64 (((stepF s).1).steps)]), (tb, tObj (mput c.things c.next (⟨c.next, kind, v⟩ : Thg))), (ob, oObj c.tokens), (fb, fObj c.fails)])
 refine hK1 _ _ ?_; clear hK1 K1
 refine awp_reg2_seq [] [13] (by decide) ?_
 intro K1 hK1
 refine ⟨trivial, trivial, ⟨rfl, by decide⟩, ?_⟩
 refine ar_loadp rfl (v := .map ob) rfl (wth_get 2 hNb2 rfl) rfl (apartOk_one rfl rfl (Nat.le_of_ble_eq_true rfl)) rfl ?_
 refine ⟨trivial, trivial, ⟨rfl, by simp only [List.forall_mem_cons]; exact ⟨rfl, rfl, fun _ h => by cases h⟩, by simp only [List.forall_mem_cons]; exact ⟨rfl, rfl, fun _ h => by cases h⟩⟩, ?_⟩
 refine ar_mapUpdate rfl (m := m) (L := [(b2, .cells [.int .i64 ((callT c s token 1).1.op), .int .i64 ((callT c s token 1).1.id)]), (b1, .cells [.int .i64 v.kind, .int .i64 v.n, .str v.s, .slice false (v.l.map valIn), .slice false (v.f.map fldIn)]), (x, .cells [.ptr ⟨d, 0, none⟩, .map tb, .map ob, .int .i64 (c.next + 1), .int .i64 c.quota, .int .i64 (ccalls c s token 1), .map fb]), (d, .cells [.map kb, .map nb, .slice true ((((stepF s).1).wait).map chgAV), .int .i64 (((stepF s).1).fuse), .bool (((stepF s).1).down), .int .i64 (((stepF s).1).steps)]), (tb, tObj (mput c.things c.next (⟨c.next, kind, v⟩ : Thg))), (ob, oObj c.tokens), (fb, fObj c.fails)]) 5 strAV dnAV strKey_ok c.tokens token (⟨1, c.next⟩ : Dn) rfl rfl rfl rfl rfl rfl hNb2 (by first | (have := mput_len c.things c.next ⟨c.next, kind, v⟩; omega) | (have := mput_len c.tokens token ⟨1, c.next⟩; omega)) ?_
 show K1 [(13, .int .i64 c.next)] (AMem.wth m [(b2, .cells [.int .i64 ((callT c s token 1).1.op), .int .i64 ((callT c s token 1).1.id)]), (b1, .cells [.int .i64 v.kind, .int .i64 v.n, .str v.s, .slice false (v.l.map valIn), .slice false (v.f.map fldIn)]), (x, .cells [.ptr ⟨d, 0, none⟩, .map tb, .map ob, .int .i64 (c.next + 1), .int .i64 c.quota, .int .i64 (ccalls c s token 1), .map fb]), (d, .cells [.map kb, .map nb, .slice true ((((stepF s).1).wait).map chgAV), .int .i64 (((stepF s).1).fuse), .bool (((stepF s).1).down), .int .i64 (((stepF s).1).steps)]), (tb, tObj (mput c.things c.next (⟨c.next, kind, v⟩ : Thg))), (ob, oObj (mput c.tokens token (⟨1, c.next⟩ : Dn))), (fb, fObj c.fails)])
 refine hK1 _ _ ?_; clear hK1 K1
 refine awp_reg2_seq [] [8, 9] (by decide) ?_
 intro K1 hK1
 refine ⟨trivial, trivial, trivial, ?_⟩
 show K1 [(8, .int .i64 c.next), (9, .nilIface)] _
 refine hK1 _ _ ?_; clear hK1 K1
 refine awp_toErr 108 [9] ?_
 show AWP _ _ _ _ [(8, .int .i64 c.next), (9, .err 108 0)] _
 refine awp_ret ?_
 refine ⟨trivial, trivial, (AMem.wth m [(x, .cells [.ptr ⟨d, 0, none⟩, .map tb, .map ob, .int .i64 (c.next + 1), .int .i64 c.quota, .int .i64 (ccalls c s token 1), .map fb]), (d, .cells [.map kb, .map nb, .slice true ((((stepF s).1).wait).map chgAV), .int .i64 (((stepF s).1).fuse), .bool (((stepF s).1).down), .int .i64 (((stepF s).1).steps)]), (tb, tObj (mput c.things c.next (⟨c.next, kind, v⟩ : Thg))), (ob, oObj (mput c.tokens token (⟨1, c.next⟩ : Dn))), (fb, fObj c.fails)]), (wth_sub2 (m := m) [(b2, .cells [.int .i64 ((callT c s token 1).1.op), .int .i64 ((callT c s token 1).1.id)]), (b1, .cells [.int .i64 v.kind, .int .i64 v.n, .str v.s, .slice false (v.l.map valIn), .slice false (v.f.map fldIn)])] [(x, .cells [.ptr ⟨d, 0, none⟩, .map tb, .map ob, .int .i64 (c.next + 1), .int .i64 c.quota, .int .i64 (ccalls c s token 1), .map fb]), (d, .cells [.map kb, .map nb, .slice true ((((stepF s).1).wait).map chgAV), .int .i64 (((stepF s).1).fuse), .bool (((stepF s).1).down), .int .i64 (((stepF s).1).steps)]), (tb, tObj (mput c.things c.next (⟨c.next, kind, v⟩ : Thg))), (ob, oObj (mput c.tokens token (⟨1, c.next⟩ : Dn))), (fb, fObj c.fails)] hNb2 (by simp only [List.map_cons, List.map_nil, List.forall_mem_cons]; exact ⟨hFb2, hFb1, fun _ h => by cases h⟩)), ?_⟩
 show K (.tuple [.int .i64 c.next, .err 108 0]) (AMem.wth m [(x, .cells [.ptr ⟨d, 0, none⟩, .map tb, .map ob, .int .i64 (c.next + 1), .int .i64 c.quota, .int .i64 (ccalls c s token 1), .map fb]), (d, .cells [.map kb, .map nb, .slice true ((((stepF s).1).wait).map chgAV), .int .i64 (((stepF s).1).fuse), .bool (((stepF s).1).down), .int .i64 (((stepF s).1).steps)]), (tb, tObj (mput c.things c.next (⟨c.next, kind, v⟩ : Thg))), (ob, oObj (mput c.tokens token (⟨1, c.next⟩ : Dn))), (fb, fObj c.fails)])

 have e0 : createR c s token kind v = ((((⟨mput c.things c.next (⟨c.next, kind, v⟩ : Thg), mput c.tokens token (⟨1, c.next⟩ : Dn), c.next + 1, c.quota, ccalls c s token 1, c.fails⟩ : ClSt), (stepF s).1), (c.next, 0)) : (ClSt × DSt) × (Int × Int)) := by
  first | exact createR_1 (by assumption) | exact createR_2 (by assumption) (by assumption) | exact createR_3 (by assumption) (by assumption) (by assumption) | exact createR_4 (by assumption) (by assumption) (by assumption) (by assumption) | exact createR_5 (by assumption) (by assumption) (by assumption) (by assumption)
 rw [e0] at hK
 exact hK

set_option maxHeartbeats 8000000 in
theorem u_Update (x d tb ob fb kb nb : Nat) (c : ClSt) (s : DSt) (token : Str) (id : Int) (v : Val) (hN : [x, d, tb, ob, fb].Nodup) (hst : 0 ≤ s.steps) (hst2 : s.steps ≤ 4611686018427387904) (hfu : -1 ≤ s.fuse) (hfu2 : s.fuse ≤ 9223372036854775807) (hca : 0 ≤ c.calls) (hca2 : c.calls ≤ 1000000) (hnx : 0 ≤ c.next) (hnx2 : c.next ≤ 1000000) (htl : c.things.length ≤ 1000000) (hol : c.tokens.length ≤ 1000000) (m : AMem)  (K : AV → AMem → Prop) (hK : K (.err 108 (updateR c s token id v).2) (AMem.wth m [(x, cObj d tb ob fb (updateR c s token id v).1.1), (d, dObj kb nb (updateR c s token id v).1.2), (tb, tObj (updateR c s token id v).1.1.things), (ob, oObj (updateR c s token id v).1.1.tokens), (fb, fObj (updateR c s token id v).1.1.fails)])) : ACalls Try.prog 50 [.ptr ⟨x, 0, none⟩, .str token, .int .i64 id, valTop v] (AMem.wth m [(x, cObj d tb ob fb c), (d, .cells [.map kb, .map nb, .slice true (s.wait.map chgAV), .int .i64 s.fuse, .bool s.down, .int .i64 s.steps]), (tb, tObj c.things), (ob, oObj c.tokens), (fb, fObj c.fails)]) K := by
 refine acalls_enter Try.func50 rfl (by decide) (Nat.le_of_ble_eq_true rfl) ?_
 show AWP _ _ _ _ [(0, .ptr ⟨x, 0, none⟩), (1, .str token), (2, .int .i64 id), (3, valTop v)] (AMem.wth m [(x, cObj d tb ob fb c), (d, .cells [.map kb, .map nb, .slice true (s.wait.map chgAV), .int .i64 s.fuse, .bool s.down, .int .i64 s.steps]), (tb, tObj c.things), (ob, oObj c.tokens), (fb, fObj c.fails)])
 refine awp_reg2_seq [] [0, 1, 2, 7] (by decide) ?_
 intro K1 hK1
 refine ar_box rfl (m := m) (L := [(x, cObj d tb ob fb c), (d, .cells [.map kb, .map nb, .slice true (s.wait.map chgAV), .int .i64 s.fuse, .bool s.down, .int .i64 s.steps]), (tb, tObj c.things), (ob, oObj c.tokens), (fb, fObj c.fails)]) (v := valTop v) (by rfl) rfl ?_
 intro b1 hb1
 have hFb1 : m b1 = none := wth_none hb1
 have hNb1 : ([b1, x, d, tb, ob, fb] : List Nat).Nodup := wth_nodup hb1 hN
 refine ⟨trivial, ?_⟩
 show K1 [(0, .ptr ⟨x, 0, none⟩), (1, .str token), (2, .int .i64 id), (7, .ptr ⟨b1, 0, none⟩)] (AMem.wth m [(b1, .cells [.int .i64 v.kind, .int .i64 v.n, .str v.s, .slice false (v.l.map valIn), .slice false (v.f.map fldIn)]), (x, cObj d tb ob fb c), (d, .cells [.map kb, .map nb, .slice true (s.wait.map chgAV), .int .i64 s.fuse, .bool s.down, .int .i64 s.steps]), (tb, tObj c.things), (ob, oObj c.tokens), (fb, fObj c.fails)])
 refine hK1 _ _ ?_; clear hK1 K1
 refine awp_reg2_seq [] [0, 1, 2, 7, 9] (by decide) ?_
 intro K1 hK1
 refine ar_loadp rfl (v := .agg [.int .i64 v.kind, .int .i64 v.n, .str v.s, .slice false (v.l.map valIn), .slice false (v.f.map fldIn)]) rfl (wth_get 0 hNb1 rfl) rfl (apartOk_agg rfl rfl (Nat.le_of_ble_eq_true rfl)) rfl ?_
 refine u_attrs v _ _ ?_
 refine ⟨trivial, ?_⟩
 show K1 [(0, .ptr ⟨x, 0, none⟩), (1, .str token), (2, .int .i64 id), (7, .ptr ⟨b1, 0, none⟩), (9, .err 108 (attrE v))] _
 refine hK1 _ _ ?_; clear hK1 K1
 refine awp_seq_k ?_; intro K2 hK2
 refine awp_reg2_seq [] [0, 1, 2, 7, 9, 17] (by decide) ?_
 intro K1 hK1
 refine ⟨trivial, ⟨rfl, rfl⟩, ?_⟩
 show K1 [(0, .ptr ⟨x, 0, none⟩), (1, .str token), (2, .int .i64 id), (7, .ptr ⟨b1, 0, none⟩), (9, .err 108 (attrE v)), (17, .bool (!((attrE v) == 0)))] _
 refine hK1 _ _ ?_; clear hK1 K1
 refine awp_cond rfl rfl (fun h1 => ?_) (fun h1 => ?_)
 ·
  replace h1 : attrE v ≠ 0 := (ne_of_beq_false (bnT h1))
  refine awp_reg2_seq [] [8] (by decide) ?_
  intro K1 hK1
  refine ⟨trivial, trivial, ?_⟩
  show K1 [(8, .err 108 (attrE v))] (AMem.wth m [(b1, .cells [.int .i64 v.kind, .int .i64 v.n, .str v.s, .slice false (v.l.map valIn), .slice false (v.f.map fldIn)]), (x, cObj d tb ob fb c), (d, .cells [.map kb, .map nb, .slice true (s.wait.map chgAV), .int .i64 s.fuse, .bool s.down, .int .i64 s.steps]), (tb, tObj c.things), (ob, oObj c.tokens), (fb, fObj c.fails)])
  refine hK1 _ _ ?_; clear hK1 K1
  refine awp_ret ?_
  refine ⟨trivial, (AMem.wth m [(x, cObj d tb ob fb c), (d, .cells [.map kb, .map nb, .slice true (s.wait.map chgAV), .int .i64 s.fuse, .bool s.down, .int .i64 s.steps]), (tb, tObj c.things), (ob, oObj c.tokens), (fb, fObj c.fails)]), (wth_sub2 (m := m) [(b1, .cells [.int .i64 v.kind, .int .i64 v.n, .str v.s, .slice false (v.l.map valIn), .slice false (v.f.map fldIn)])] [(x, cObj d tb ob fb c), (d, .cells [.map kb, .map nb, .slice true (s.wait.map chgAV), .int .i64 s.fuse, .bool s.down, .int .i64 s.steps]), (tb, tObj c.things), (ob, oObj c.tokens), (fb, fObj c.fails)] hNb1 (by simp only [List.map_cons, List.map_nil, List.forall_mem_cons]; exact ⟨hFb1, fun _ h => by cases h⟩)), ?_⟩
  show K (.err 108 (attrE v)) (AMem.wth m [(x, cObj d tb ob fb c), (d, .cells [.map kb, .map nb, .slice true (s.wait.map chgAV), .int .i64 s.fuse, .bool s.down, .int .i64 s.steps]), (tb, tObj c.things), (ob, oObj c.tokens), (fb, fObj c.fails)])
 
  have e0 : updateR c s token id v = (((c, s), attrE v) : (ClSt × DSt) × Int) := by
   first | exact updateR_1 (by assumption) | exact updateR_2 (by assumption) (by assumption) | exact updateR_3 (by assumption) (by assumption) (by assumption) | exact updateR_4 (by assumption) (by assumption) (by assumption)
  rw [e0] at hK
  exact hK
 replace h1 : attrE v = 0 := (eq_of_beq (bnF h1))
 refine awp_skip ?_
 refine hK2 _ _ ?_; clear hK2
 refine awp_reg2_seq [] [0, 1, 2, 7, 9, 11] (by decide) ?_
 intro K1 hK1
 refine ⟨trivial, trivial, ?_⟩
 refine ar_mem (wth_split hNb1 (pick_perm [1, 1, 2, 2] _)) ?_
 refine u_callE x d tb ob fb kb nb c s token 2 (by simp at hN ⊢; omega) hst hst2 hfu hfu2 hca hca2 _ _ ?_
 show aopsR _ _ _ _ _ _ (AMem.wth (AMem.wth m [(b1, .cells [.int .i64 v.kind, .int .i64 v.n, .str v.s, .slice false (v.l.map valIn), .slice false (v.f.map fldIn)]), (tb, tObj c.things)]) [(x, .cells [.ptr ⟨d, 0, none⟩, .map tb, .map ob, .int .i64 c.next, .int .i64 c.quota, .int .i64 (ccalls c s token 2), .map fb]), (d, .cells [.map kb, .map nb, .slice true ((((stepF s).1).wait).map chgAV), .int .i64 (((stepF s).1).fuse), .bool (((stepF s).1).down), .int .i64 (((stepF s).1).steps)]), (ob, oObj c.tokens), (fb, fObj c.fails)])
 refine ar_mem (wth_split (m := m) (L := [(b1, .cells [.int .i64 v.kind, .int .i64 v.n, .str v.s, .slice false (v.l.map valIn), .slice false (v.f.map fldIn)]), (x, .cells [.ptr ⟨d, 0, none⟩, .map tb, .map ob, .int .i64 c.next, .int .i64 c.quota, .int .i64 (ccalls c s token 2), .map fb]), (d, .cells [.map kb, .map nb, .slice true ((((stepF s).1).wait).map chgAV), .int .i64 (((stepF s).1).fuse), .bool (((stepF s).1).down), .int .i64 (((stepF s).1).steps)]), (tb, tObj c.things), (ob, oObj c.tokens), (fb, fObj c.fails)]) hNb1 (pick_perm [1, 1, 2, 2] _)).symm ?_
 refine ⟨trivial, (Nat.le_of_ble_eq_true rfl), (Nat.le_of_ble_eq_true rfl), (Nat.le_of_ble_eq_true rfl), ?_⟩
 refine ar_alloc rfl (z := .agg [.int .i64 0, .int .i64 0]) rfl rfl ?_
 intro b2 hb2
 have hFb2 : m b2 = none := wth_none hb2
 have hNb2 : ([b2, b1, x, d, tb, ob, fb] : List Nat).Nodup := wth_nodup hb2 hNb1
 refine ar_storep rfl 0 (v := .agg [.int .i64 ((callT c s token 2).1.op), .int .i64 ((callT c s token 2).1.id)]) (l' := [.int .i64 ((callT c s token 2).1.op), .int .i64 ((callT c s token 2).1.id)]) rfl rfl hNb2 rfl rfl rfl rfl rfl (Nat.le_of_ble_eq_true rfl) rfl ?_
 refine ⟨trivial, trivial, ?_⟩
 show K1 [(0, .ptr ⟨x, 0, none⟩), (1, .str token), (2, .int .i64 id), (7, .ptr ⟨b1, 0, none⟩), (9, .err 108 ((callT c s token 2).2.2)), (11, .bool ((callT c s token 2).2.1))] (AMem.wth m [(b2, .cells [.int .i64 ((callT c s token 2).1.op), .int .i64 ((callT c s token 2).1.id)]), (b1, .cells [.int .i64 v.kind, .int .i64 v.n, .str v.s, .slice false (v.l.map valIn), .slice false (v.f.map fldIn)]), (x, .cells [.ptr ⟨d, 0, none⟩, .map tb, .map ob, .int .i64 c.next, .int .i64 c.quota, .int .i64 (ccalls c s token 2), .map fb]), (d, .cells [.map kb, .map nb, .slice true ((((stepF s).1).wait).map chgAV), .int .i64 (((stepF s).1).fuse), .bool (((stepF s).1).down), .int .i64 (((stepF s).1).steps)]), (tb, tObj c.things), (ob, oObj c.tokens), (fb, fObj c.fails)])
 refine hK1 _ _ ?_; clear hK1 K1
 refine awp_seq_k ?_; intro K3 hK3
 refine awp_reg2_seq [] [0, 1, 2, 7, 9, 30] (by decide) ?_
 intro K1 hK1
 suffices key : K1 [(0, .ptr ⟨x, 0, none⟩), (1, .str token), (2, .int .i64 id), (7, .ptr ⟨b1, 0, none⟩), (9, .err 108 ((callT c s token 2).2.2)), (30, .bool ((!(((callT c s token 2).2.2) == 0)) || ((callT c s token 2).2.1)))] (AMem.wth m [(b2, .cells [.int .i64 ((callT c s token 2).1.op), .int .i64 ((callT c s token 2).1.id)]), (b1, .cells [.int .i64 v.kind, .int .i64 v.n, .str v.s, .slice false (v.l.map valIn), .slice false (v.f.map fldIn)]), (x, .cells [.ptr ⟨d, 0, none⟩, .map tb, .map ob, .int .i64 c.next, .int .i64 c.quota, .int .i64 (ccalls c s token 2), .map fb]), (d, .cells [.map kb, .map nb, .slice true ((((stepF s).1).wait).map chgAV), .int .i64 (((stepF s).1).fuse), .bool (((stepF s).1).down), .int .i64 (((stepF s).1).steps)]), (tb, tObj c.things), (ob, oObj c.tokens), (fb, fObj c.fails)]) by
  refine ⟨trivial, ⟨rfl, rfl⟩, trivial, ?_⟩
  show aopsR _ _ _ _ _ [(28, .bool (!(((callT c s token 2).2.2) == 0))), (27, .bool (!(((callT c s token 2).2.2) == 0))), (26, .err 108 ((callT c s token 2).2.2)), (0, .ptr ⟨x, 0, none⟩), (1, .str token), (2, .int .i64 id), (7, .ptr ⟨b1, 0, none⟩), (9, .err 108 ((callT c s token 2).2.2)), (11, .bool ((callT c s token 2).2.1))] _
  revert key
  cases h2 : (((callT c s token 2).2.2) == 0)
  ·
   replace h2 : (callT c s token 2).2.2 ≠ 0 := (ne_of_beq_false h2)
   intro key
   refine ar_off rfl ?_
   exact key
  ·
   replace h2 : (callT c s token 2).2.2 = 0 := (eq_of_beq h2)
   intro key
   refine ⟨trivial, ?_⟩
   exact key
 refine hK1 _ _ ?_; clear hK1 K1
 refine awp_cond rfl rfl (fun h3 => ?_) (fun h3 => ?_)
 ·
  replace h3 : ((callT c s token 2).2.2 ≠ 0) ∨ ((callT c s token 2).2.1 = true) := ((borT h3).imp (fun q => (ne_of_beq_false (bnT q))) (fun q => q))
  refine awp_reg2_seq [] [8] (by decide) ?_
  intro K1 hK1
  refine ⟨trivial, trivial, ?_⟩
  show K1 [(8, .err 108 ((callT c s token 2).2.2))] (AMem.wth m [(b2, .cells [.int .i64 ((callT c s token 2).1.op), .int .i64 ((callT c s token 2).1.id)]), (b1, .cells [.int .i64 v.kind, .int .i64 v.n, .str v.s, .slice false (v.l.map valIn), .slice false (v.f.map fldIn)]), (x, .cells [.ptr ⟨d, 0, none⟩, .map tb, .map ob, .int .i64 c.next, .int .i64 c.quota, .int .i64 (ccalls c s token 2), .map fb]), (d, .cells [.map kb, .map nb, .slice true ((((stepF s).1).wait).map chgAV), .int .i64 (((stepF s).1).fuse), .bool (((stepF s).1).down), .int .i64 (((stepF s).1).steps)]), (tb, tObj c.things), (ob, oObj c.tokens), (fb, fObj c.fails)])
  refine hK1 _ _ ?_; clear hK1 K1
  refine awp_ret ?_
  refine ⟨trivial, (AMem.wth m [(x, .cells [.ptr ⟨d, 0, none⟩, .map tb, .map ob, .int .i64 c.next, .int .i64 c.quota, .int .i64 (ccalls c s token 2), .map fb]), (d, .cells [.map kb, .map nb, .slice true ((((stepF s).1).wait).map chgAV), .int .i64 (((stepF s).1).fuse), .bool (((stepF s).1).down), .int .i64 (((stepF s).1).steps)]), (tb, tObj c.things), (ob, oObj c.tokens), (fb, fObj c.fails)]), (wth_sub2 (m := m) [(b2, .cells [.int .i64 ((callT c s token 2).1.op), .int .i64 ((callT c s token 2).1.id)]), (b1, .cells [.int .i64 v.kind, .int .i64 v.n, .str v.s, .slice false (v.l.map valIn), .slice false (v.f.map fldIn)])] [(x, .cells [.ptr ⟨d, 0, none⟩, .map tb, .map ob, .int .i64 c.next, .int .i64 c.quota, .int .i64 (ccalls c s token 2), .map fb]), (d, .cells [.map kb, .map nb, .slice true ((((stepF s).1).wait).map chgAV), .int .i64 (((stepF s).1).fuse), .bool (((stepF s).1).down), .int .i64 (((stepF s).1).steps)]), (tb, tObj c.things), (ob, oObj c.tokens), (fb, fObj c.fails)] hNb2 (by simp only [List.map_cons, List.map_nil, List.forall_mem_cons]; exact ⟨hFb2, hFb1, fun _ h => by cases h⟩)), ?_⟩
  show K (.err 108 ((callT c s token 2).2.2)) (AMem.wth m [(x, .cells [.ptr ⟨d, 0, none⟩, .map tb, .map ob, .int .i64 c.next, .int .i64 c.quota, .int .i64 (ccalls c s token 2), .map fb]), (d, .cells [.map kb, .map nb, .slice true ((((stepF s).1).wait).map chgAV), .int .i64 (((stepF s).1).fuse), .bool (((stepF s).1).down), .int .i64 (((stepF s).1).steps)]), (tb, tObj c.things), (ob, oObj c.tokens), (fb, fObj c.fails)])
 
  have e0 : updateR c s token id v = ((((⟨c.things, c.tokens, c.next, c.quota, ccalls c s token 2, c.fails⟩ : ClSt), (stepF s).1), (callT c s token 2).2.2) : (ClSt × DSt) × Int) := by
   first | exact updateR_1 (by assumption) | exact updateR_2 (by assumption) (by assumption) | exact updateR_3 (by assumption) (by assumption) (by assumption) | exact updateR_4 (by assumption) (by assumption) (by assumption)
  rw [e0] at hK
  exact hK
 replace h3 : ((callT c s token 2).2.2 = 0) ∧ ((callT c s token 2).2.1 = false) := ⟨(eq_of_beq (bnF (borL h3))), (borR h3)⟩
 refine awp_skip ?_
 refine hK3 _ _ ?_; clear hK3
 refine awp_reg2_seq [] [0, 1, 2, 7, 12, 13] (by decide) ?_
 intro K1 hK1
 refine ⟨trivial, trivial, ⟨rfl, by decide⟩, ?_⟩
 refine ar_loadp rfl (v := .map tb) rfl (wth_get 2 hNb2 rfl) rfl (apartOk_one rfl rfl (Nat.le_of_ble_eq_true rfl)) rfl ?_
 refine ⟨trivial, ?_⟩
 refine ar_lookupOkP rfl (m := m) (L := [(b2, .cells [.int .i64 ((callT c s token 2).1.op), .int .i64 ((callT c s token 2).1.id)]), (b1, .cells [.int .i64 v.kind, .int .i64 v.n, .str v.s, .slice false (v.l.map valIn), .slice false (v.f.map fldIn)]), (x, .cells [.ptr ⟨d, 0, none⟩, .map tb, .map ob, .int .i64 c.next, .int .i64 c.quota, .int .i64 (ccalls c s token 2), .map fb]), (d, .cells [.map kb, .map nb, .slice true ((((stepF s).1).wait).map chgAV), .int .i64 (((stepF s).1).fuse), .bool (((stepF s).1).down), .int .i64 (((stepF s).1).steps)]), (tb, tObj c.things), (ob, oObj c.tokens), (fb, fObj c.fails)]) intAV thgAV intKey_ok c.things id zT rfl rfl rfl rfl rfl rfl (wth_get 4 hNb2 rfl) rfl ?_
 refine ⟨trivial, (Nat.le_of_ble_eq_true rfl), (Nat.le_of_ble_eq_true rfl), ?_⟩
 refine ar_alloc rfl (z := .agg [.int .i64 0, .str ([]), .int .i64 0, .int .i64 0, .str ([]), .slice true [], .slice true []]) rfl rfl ?_
 intro b3 hb3
 have hFb3 : m b3 = none := wth_none hb3
 have hNb3 : ([b3, b2, b1, x, d, tb, ob, fb] : List Nat).Nodup := wth_nodup hb3 hNb2
 refine ar_storep rfl 0 (v := thgAV ((mget c.things id).getD zT)) (l' := [.int .i64 (((mget c.things id).getD zT).id), .str (((mget c.things id).getD zT).kind), .int .i64 ((((mget c.things id).getD zT).v).kind), .int .i64 ((((mget c.things id).getD zT).v).n), .str ((((mget c.things id).getD zT).v).s), .slice false (((((mget c.things id).getD zT).v).l).map valIn), .slice false (((((mget c.things id).getD zT).v).f).map fldIn)]) rfl (by rfl) hNb3 rfl rfl rfl rfl rfl (Nat.le_of_ble_eq_true rfl) rfl ?_
 refine ⟨trivial, ?_⟩
 show K1 [(0, .ptr ⟨x, 0, none⟩), (1, .str token), (2, .int .i64 id), (7, .ptr ⟨b1, 0, none⟩), (12, .ptr ⟨b3, 0, none⟩), (13, .bool ((mget c.things id).isSome))] (AMem.wth m [(b3, .cells [.int .i64 (((mget c.things id).getD zT).id), .str (((mget c.things id).getD zT).kind), .int .i64 ((((mget c.things id).getD zT).v).kind), .int .i64 ((((mget c.things id).getD zT).v).n), .str ((((mget c.things id).getD zT).v).s), .slice false (((((mget c.things id).getD zT).v).l).map valIn), .slice false (((((mget c.things id).getD zT).v).f).map fldIn)]), (b2, .cells [.int .i64 ((callT c s token 2).1.op), .int .i64 ((callT c s token 2).1.id)]), (b1, .cells [.int .i64 v.kind, .int .i64 v.n, .str v.s, .slice false (v.l.map valIn), .slice false (v.f.map fldIn)]), (x, .cells [.ptr ⟨d, 0, none⟩, .map tb, .map ob, .int .i64 c.next, .int .i64 c.quota, .int .i64 (ccalls c s token 2), .map fb]), (d, .cells [.map kb, .map nb, .slice true ((((stepF s).1).wait).map chgAV), .int .i64 (((stepF s).1).fuse), .bool (((stepF s).1).down), .int .i64 (((stepF s).1).steps)]), (tb, tObj c.things), (ob, oObj c.tokens), (fb, fObj c.fails)])
 refine hK1 _ _ ?_; clear hK1 K1
 refine awp_seq_k ?_; intro K4 hK4
 refine awp_reg2_seq [] [0, 1, 2, 7, 12, 42] (by decide) ?_
 intro K1 hK1
 refine ⟨trivial, trivial, ?_⟩
 show K1 [(0, .ptr ⟨x, 0, none⟩), (1, .str token), (2, .int .i64 id), (7, .ptr ⟨b1, 0, none⟩), (12, .ptr ⟨b3, 0, none⟩), (42, .bool (!((mget c.things id).isSome)))] _
 refine hK1 _ _ ?_; clear hK1 K1
 refine awp_cond rfl rfl (fun h4 => ?_) (fun h4 => ?_)
 ·
  replace h4 : (mget c.things id).isSome = false := (bnT h4)
  refine awp_reg2_seq [] [8] (by decide) ?_
  intro K1 hK1
  refine ⟨trivial, trivial, ?_⟩
  show K1 [(8, .iface 108 (.int .i64 7))] (AMem.wth m [(b3, .cells [.int .i64 (((mget c.things id).getD zT).id), .str (((mget c.things id).getD zT).kind), .int .i64 ((((mget c.things id).getD zT).v).kind), .int .i64 ((((mget c.things id).getD zT).v).n), .str ((((mget c.things id).getD zT).v).s), .slice false (((((mget c.things id).getD zT).v).l).map valIn), .slice false (((((mget c.things id).getD zT).v).f).map fldIn)]), (b2, .cells [.int .i64 ((callT c s token 2).1.op), .int .i64 ((callT c s token 2).1.id)]), (b1, .cells [.int .i64 v.kind, .int .i64 v.n, .str v.s, .slice false (v.l.map valIn), .slice false (v.f.map fldIn)]), (x, .cells [.ptr ⟨d, 0, none⟩, .map tb, .map ob, .int .i64 c.next, .int .i64 c.quota, .int .i64 (ccalls c s token 2), .map fb]), (d, .cells [.map kb, .map nb, .slice true ((((stepF s).1).wait).map chgAV), .int .i64 (((stepF s).1).fuse), .bool (((stepF s).1).down), .int .i64 (((stepF s).1).steps)]), (tb, tObj c.things), (ob, oObj c.tokens), (fb, fObj c.fails)])
  refine hK1 _ _ ?_; clear hK1 K1
  refine awp_toErr 108 [8] ?_
  show AWP _ _ _ _ [(8, .err 108 7)] _
  refine awp_ret ?_
  refine ⟨trivial, (AMem.wth m [(x, .cells [.ptr ⟨d, 0, none⟩, .map tb, .map ob, .int .i64 c.next, .int .i64 c.quota, .int .i64 (ccalls c s token 2), .map fb]), (d, .cells [.map kb, .map nb, .slice true ((((stepF s).1).wait).map chgAV), .int .i64 (((stepF s).1).fuse), .bool (((stepF s).1).down), .int .i64 (((stepF s).1).steps)]), (tb, tObj c.things), (ob, oObj c.tokens), (fb, fObj c.fails)]), (wth_sub2 (m := m) [(b3, .cells [.int .i64 (((mget c.things id).getD zT).id), .str (((mget c.things id).getD zT).kind), .int .i64 ((((mget c.things id).getD zT).v).kind), .int .i64 ((((mget c.things id).getD zT).v).n), .str ((((mget c.things id).getD zT).v).s), .slice false (((((mget c.things id).getD zT).v).l).map valIn), .slice false (((((mget c.things id).getD zT).v).f).map fldIn)]), (b2, .cells [.int .i64 ((callT c s token 2).1.op), .int .i64 ((callT c s token 2).1.id)]), (b1, .cells [.int .i64 v.kind, .int .i64 v.n, .str v.s, .slice false (v.l.map valIn), .slice false (v.f.map fldIn)])] [(x, .cells [.ptr ⟨d, 0, none⟩, .map tb, .map ob, .int .i64 c.next, .int .i64 c.quota, .int .i64 (ccalls c s token 2), .map fb]), (d, .cells [.map kb, .map nb, .slice true ((((stepF s).1).wait).map chgAV), .int .i64 (((stepF s).1).fuse), .bool (((stepF s).1).down), .int .i64 (((stepF s).1).steps)]), (tb, tObj c.things), (ob, oObj c.tokens), (fb, fObj c.fails)] hNb3 (by simp only [List.map_cons, List.map_nil, List.forall_mem_cons]; exact ⟨hFb3, hFb2, hFb1, fun _ h => by cases h⟩)), ?_⟩
  show K (.err 108 7) (AMem.wth m [(x, .cells [.ptr ⟨d, 0, none⟩, .map tb, .map ob, .int .i64 c.next, .int .i64 c.quota, .int .i64 (ccalls c s token 2), .map fb]), (d, .cells [.map kb, .map nb, .slice true ((((stepF s).1).wait).map chgAV), .int .i64 (((stepF s).1).fuse), .bool (((stepF s).1).down), .int .i64 (((stepF s).1).steps)]), (tb, tObj c.things), (ob, oObj c.tokens), (fb, fObj c.fails)])
 
  have e0 : updateR c s token id v = ((((⟨c.things, c.tokens, c.next, c.quota, ccalls c s token 2, c.fails⟩ : ClSt), (stepF s).1), 7) : (ClSt × DSt) × Int) := by
   first | exact updateR_1 (by assumption) | exact updateR_2 (by assumption) (by assumption) | exact updateR_3 (by assumption) (by assumption) (by assumption) | exact updateR_4 (by assumption) (by assumption) (by assumption)
  rw [e0] at hK
  exact hK
 replace h4 : (mget c.things id).isSome = true := (bnF h4)
 refine awp_skip ?_
 refine hK4 _ _ ?_; clear hK4
 refine awp_reg2_seq [] [0, 1, 2, 12] (by decide) ?_
 intro K1 hK1
 refine ar_loadp rfl (v := .agg [.int .i64 v.kind, .int .i64 v.n, .str v.s, .slice false (v.l.map valIn), .slice false (v.f.map fldIn)]) rfl (wth_get 2 hNb3 rfl) rfl (apartOk_agg rfl rfl (Nat.le_of_ble_eq_true rfl)) rfl ?_
 refine u_Copy v (chk_okV (attrE_0 (by assumption))) _ _ ?_
 refine ⟨⟨rfl, by decide⟩, ?_⟩
 refine ar_storep rfl 0 (v := valTop v) (l' := [.int .i64 (((mget c.things id).getD zT).id), .str (((mget c.things id).getD zT).kind), .int .i64 v.kind, .int .i64 v.n, .str v.s, .slice false (v.l.map valIn), .slice false (v.f.map fldIn)]) rfl (by rfl) hNb3 rfl rfl rfl rfl rfl (Nat.le_of_ble_eq_true rfl) rfl ?_
 show K1 [(0, .ptr ⟨x, 0, none⟩), (1, .str token), (2, .int .i64 id), (12, .ptr ⟨b3, 0, none⟩)] (AMem.wth m [(b3, .cells [.int .i64 (((mget c.things id).getD zT).id), .str (((mget c.things id).getD zT).kind), .int .i64 v.kind, .int .i64 v.n, .str v.s, .slice false (v.l.map valIn), .slice false (v.f.map fldIn)]), (b2, .cells [.int .i64 ((callT c s token 2).1.op), .int .i64 ((callT c s token 2).1.id)]), (b1, .cells [.int .i64 v.kind, .int .i64 v.n, .str v.s, .slice false (v.l.map valIn), .slice false (v.f.map fldIn)]), (x, .cells [.ptr ⟨d, 0, none⟩, .map tb, .map ob, .int .i64 c.next, .int .i64 c.quota, .int .i64 (ccalls c s token 2), .map fb]), (d, .cells [.map kb, .map nb, .slice true ((((stepF s).1).wait).map chgAV), .int .i64 (((stepF s).1).fuse), .bool (((stepF s).1).down), .int .i64 (((stepF s).1).steps)]), (tb, tObj c.things), (ob, oObj c.tokens), (fb, fObj c.fails)])
 refine hK1 _ _ ?_; clear hK1 K1
 refine awp_draw_tail2_seq Try.mixed 6 [] [] [] [0, 1, 2] (by decide) (by decide) ?_
 intro K1 hK1
 refine ⟨trivial, trivial, ⟨rfl, by decide⟩, ?_⟩
 refine pq_loadp rfl (v := .map tb) rfl (wth_get 3 hNb3 rfl) (apartOk_one rfl rfl (Nat.le_of_ble_eq_true rfl)) rfl ?_
 refine ⟨trivial, ?_⟩
 refine pq_loadp rfl (v := .agg [.int .i64 (((mget c.things id).getD zT).id), .str (((mget c.things id).getD zT).kind), .int .i64 v.kind, .int .i64 v.n, .str v.s, .slice false (v.l.map valIn), .slice false (v.f.map fldIn)]) rfl (wth_get 0 hNb3 rfl) (apartOk_agg rfl rfl (Nat.le_of_ble_eq_true rfl)) rfl ?_
 show aopsR _ _ _ _ _ [(52, .agg [.int .i64 (((mget c.things id).getD zT).id), .str (((mget c.things id).getD zT).kind), .int .i64 v.kind, .int .i64 v.n, .str v.s, .slice false (v.l.map valIn), .slice false (v.f.map fldIn)]), (51, .int .i64 id), (50, .map tb), (49, .ptr ⟨x, 1, none⟩), (48, .ptr ⟨x, 0, none⟩), (47, .ptr ⟨x, 0, none⟩), (0, .ptr ⟨x, 0, none⟩), (1, .str token), (2, .int .i64 id), (12, .ptr ⟨b3, 0, none⟩)] _
 refine ar_mapUpdate rfl (m := m) (L := [(b3, .cells [.int .i64 (((mget c.things id).getD zT).id), .str (((mget c.things id).getD zT).kind), .int .i64 v.kind, .int .i64 v.n, .str v.s, .slice false (v.l.map valIn), .slice false (v.f.map fldIn)]), (b2, .cells [.int .i64 ((callT c s token 2).1.op), .int .i64 ((callT c s token 2).1.id)]), (b1, .cells [.int .i64 v.kind, .int .i64 v.n, .str v.s, .slice false (v.l.map valIn), .slice false (v.f.map fldIn)]), (x, .cells [.ptr ⟨d, 0, none⟩, .map tb, .map ob, .int .i64 c.next, .int .i64 c.quota, .int .i64 (ccalls c s token 2), .map fb]), (d, .cells [.map kb, .map nb, .slice true ((((stepF s).1).wait).map chgAV), .int .i64 (((stepF s).1).fuse), .bool (((stepF s).1).down), .int .i64 (((stepF s).1).steps)]), (tb, tObj c.things), (ob, oObj c.tokens), (fb, fObj c.fails)]) 5 intAV thgAV intKey_ok c.things id (⟨((mget c.things id).getD zT).id, ((mget c.things id).getD zT).kind, v⟩ : Thg) rfl rfl rfl rfl rfl rfl hNb3 (by first | (have := mput_len c.things id ⟨((mget c.things id).getD zT).id, ((mget c.things id).getD zT).kind, v⟩; omega) | (have := mput_len c.tokens token ⟨2, id⟩; omega)) ?_
 show K1 [(0, .ptr ⟨x, 0, none⟩), (1, .str token), (2, .int .i64 id)] (AMem.wth m [(b3, .cells [.int .i64 (((mget c.things id).getD zT).id), .str (((mget c.things id).getD zT).kind), .int .i64 v.kind, .int .i64 v.n, .str v.s, .slice false (v.l.map valIn), .slice false (v.f.map fldIn)]), (b2, .cells [.int .i64 ((callT c s token 2).1.op), .int .i64 ((callT c s token 2).1.id)]), (b1, .cells [.int .i64 v.kind, .int .i64 v.n, .str v.s, .slice false (v.l.map valIn), .slice false (v.f.map fldIn)]), (x, .cells [.ptr ⟨d, 0, none⟩, .map tb, .map ob, .int .i64 c.next, .int .i64 c.quota, .int .i64 (ccalls c s token 2), .map fb]), (d, .cells [.map kb, .map nb, .slice true ((((stepF s).1).wait).map chgAV), .int .i64 (((stepF s).1).fuse), .bool (((stepF s).1).down), .int .i64 (((stepF s).1).steps)]), (tb, tObj (mput c.things id (⟨((mget c.things id).getD zT).id, ((mget c.things id).getD zT).kind, v⟩ : Thg))), (ob, oObj c.tokens), (fb, fObj c.fails)])
 refine hK1 _ _ ?_; clear hK1 K1
 refine awp_reg2_seq [] [] (by decide) ?_
 intro K1 hK1
 refine ⟨trivial, trivial, ⟨rfl, by decide⟩, ?_⟩
 refine ar_loadp rfl (v := .map ob) rfl (wth_get 3 hNb3 rfl) rfl (apartOk_one rfl rfl (Nat.le_of_ble_eq_true rfl)) rfl ?_
 refine ⟨trivial, trivial, ⟨rfl, by simp only [List.forall_mem_cons]; exact ⟨rfl, rfl, fun _ h => by cases h⟩, by simp only [List.forall_mem_cons]; exact ⟨rfl, rfl, fun _ h => by cases h⟩⟩, ?_⟩
 refine ar_mapUpdate rfl (m := m) (L := [(b3, .cells [.int .i64 (((mget c.things id).getD zT).id), .str (((mget c.things id).getD zT).kind), .int .i64 v.kind, .int .i64 v.n, .str v.s, .slice false (v.l.map valIn), .slice false (v.f.map fldIn)]), (b2, .cells [.int .i64 ((callT c s token 2).1.op), .int .i64 ((callT c s token 2).1.id)]), (b1, .cells [.int .i64 v.kind, .int .i64 v.n, .str v.s, .slice false (v.l.map valIn), .slice false (v.f.map fldIn)]), (x, .cells [.ptr ⟨d, 0, none⟩, .map tb, .map ob, .int .i64 c.next, .int .i64 c.quota, .int .i64 (ccalls c s token 2), .map fb]), (d, .cells [.map kb, .map nb, .slice true ((((stepF s).1).wait).map chgAV), .int .i64 (((stepF s).1).fuse), .bool (((stepF s).1).down), .int .i64 (((stepF s).1).steps)]), (tb, tObj (mput c.things id (⟨((mget c.things id).getD zT).id, ((mget c.things id).getD zT).kind, v⟩ : Thg))), (ob, oObj c.tokens), (fb, fObj c.fails)]) 6 strAV dnAV strKey_ok c.tokens token (⟨2, id⟩ : Dn) rfl rfl rfl rfl rfl rfl hNb3 (by first | (have := mput_len c.things id ⟨((mget c.things id).getD zT).id, ((mget c.things id).getD zT).kind, v⟩; omega) | (have := mput_len c.tokens token ⟨2, id⟩; omega)) ?_
 show K1 [] (AMem.wth m [(b3, .cells [.int .i64 (((mget c.things id).getD zT).id), .str (((mget c.things id).getD zT).kind), .int .i64 v.kind, .int .i64 v.n, .str v.s, .slice false (v.l.map valIn), .slice false (v.f.map fldIn)]), (b2, .cells [.int .i64 ((callT c s token 2).1.op), .int .i64 ((callT c s token 2).1.id)]), (b1, .cells [.int .i64 v.kind, .int .i64 v.n, .str v.s, .slice false (v.l.map valIn), .slice false (v.f.map fldIn)]), (x, .cells [.ptr ⟨d, 0, none⟩, .map tb, .map ob, .int .i64 c.next, .int .i64 c.quota, .int .i64 (ccalls c s token 2), .map fb]), (d, .cells [.map kb, .map nb, .slice true ((((stepF s).1).wait).map chgAV), .int .i64 (((stepF s).1).fuse), .bool (((stepF s).1).down), .int .i64 (((stepF s).1).steps)]), (tb, tObj (mput c.things id (⟨((mget c.things id).getD zT).id, ((mget c.things id).getD zT).kind, v⟩ : Thg))), (ob, oObj (mput c.tokens token (⟨2, id⟩ : Dn))), (fb, fObj c.fails)])
 refine hK1 _ _ ?_; clear hK1 K1
 refine awp_reg2_seq [] [8] (by decide) ?_
 intro K1 hK1
 refine ⟨trivial, ?_⟩
 show K1 [(8, .nilIface)] _
 refine hK1 _ _ ?_; clear hK1 K1
 refine awp_toErr 108 [8] ?_
 show AWP _ _ _ _ [(8, .err 108 0)] _
 refine awp_ret ?_
 refine ⟨trivial, (AMem.wth m [(x, .cells [.ptr ⟨d, 0, none⟩, .map tb, .map ob, .int .i64 c.next, .int .i64 c.quota, .int .i64 (ccalls c s token 2), .map fb]), (d, .cells [.map kb, .map nb, .slice true ((((stepF s).1).wait).map chgAV), .int .i64 (((stepF s).1).fuse), .bool (((stepF s).1).down), .int .i64 (((stepF s).1).steps)]), (tb, tObj (mput c.things id (⟨((mget c.things id).getD zT).id, ((mget c.things id).getD zT).kind, v⟩ : Thg))), (ob, oObj (mput c.tokens token (⟨2, id⟩ : Dn))), (fb, fObj c.fails)]), (wth_sub2 (m := m) [(b3, .cells [.int .i64 (((mget c.things id).getD zT).id), .str (((mget c.things id).getD zT).kind), .int .i64 v.kind, .int .i64 v.n, .str v.s, .slice false (v.l.map valIn), .slice false (v.f.map fldIn)]), (b2, .cells [.int .i64 ((callT c s token 2).1.op), .int .i64 ((callT c s token 2).1.id)]), (b1, .cells [.int .i64 v.kind, .int .i64 v.n, .str v.s, .slice false (v.l.map valIn), .slice false (v.f.map fldIn)])] [(x, .cells [.ptr ⟨d, 0, none⟩, .map tb, .map ob, .int .i64 c.next, .int .i64 c.quota, .int .i64 (ccalls c s token 2), .map fb]), (d, .cells [.map kb, .map nb, .slice true ((((stepF s).1).wait).map chgAV), .int .i64 (((stepF s).1).fuse), .bool (((stepF s).1).down), .int .i64 (((stepF s).1).steps)]), (tb, tObj (mput c.things id (⟨((mget c.things id).getD zT).id, ((mget c.things id).getD zT).kind, v⟩ : Thg))), (ob, oObj (mput c.tokens token (⟨2, id⟩ : Dn))), (fb, fObj c.fails)] hNb3 (by simp only [List.map_cons, List.map_nil, List.forall_mem_cons]; exact ⟨hFb3, hFb2, hFb1, fun _ h => by cases h⟩)), ?_⟩
 show K (.err 108 0) (AMem.wth m [(x, .cells [.ptr ⟨d, 0, none⟩, .map tb, .map ob, .int .i64 c.next, .int .i64 c.quota, .int .i64 (ccalls c s token 2), .map fb]), (d, .cells [.map kb, .map nb, .slice true ((((stepF s).1).wait).map chgAV), .int .i64 (((stepF s).1).fuse), .bool (((stepF s).1).down), .int .i64 (((stepF s).1).steps)]), (tb, tObj (mput c.things id (⟨((mget c.things id).getD zT).id, ((mget c.things id).getD zT).kind, v⟩ : Thg))), (ob, oObj (mput c.tokens token (⟨2, id⟩ : Dn))), (fb, fObj c.fails)])

 have e0 : updateR c s token id v = ((((⟨mput c.things id (⟨((mget c.things id).getD zT).id, ((mget c.things id).getD zT).kind, v⟩ : Thg), mput c.tokens token (⟨2, id⟩ : Dn), c.next, c.quota, ccalls c s token 2, c.fails⟩ : ClSt), (stepF s).1), 0) : (ClSt × DSt) × Int) := by
  first | exact updateR_1 (by assumption) | exact updateR_2 (by assumption) (by assumption) | exact updateR_3 (by assumption) (by assumption) (by assumption) | exact updateR_4 (by assumption) (by assumption) (by assumption)
 rw [e0] at hK
 exact hK

set_option maxHeartbeats 8000000 in
theorem u_Delete (x d tb ob fb kb nb : Nat) (c : ClSt) (s : DSt) (token : Str) (id : Int) (hN : [x, d, tb, ob, fb].Nodup) (hst : 0 ≤ s.steps) (hst2 : s.steps ≤ 4611686018427387904) (hfu : -1 ≤ s.fuse) (hfu2 : s.fuse ≤ 9223372036854775807) (hca : 0 ≤ c.calls) (hca2 : c.calls ≤ 1000000) (hnx : 0 ≤ c.next) (hnx2 : c.next ≤ 1000000) (htl : c.things.length ≤ 1000000) (hol : c.tokens.length ≤ 1000000) (m : AMem)  (K : AV → AMem → Prop) (hK : K (.err 108 (deleteR c s token id).2) (AMem.wth m [(x, cObj d tb ob fb (deleteR c s token id).1.1), (d, dObj kb nb (deleteR c s token id).1.2), (tb, tObj (deleteR c s token id).1.1.things), (ob, oObj (deleteR c s token id).1.1.tokens), (fb, fObj (deleteR c s token id).1.1.fails)])) : ACalls Try.prog 51 [.ptr ⟨x, 0, none⟩, .str token, .int .i64 id] (AMem.wth m [(x, cObj d tb ob fb c), (d, .cells [.map kb, .map nb, .slice true (s.wait.map chgAV), .int .i64 s.fuse, .bool s.down, .int .i64 s.steps]), (tb, tObj c.things), (ob, oObj c.tokens), (fb, fObj c.fails)]) K := by
 refine acalls_enter Try.func51 rfl (by decide) (Nat.le_of_ble_eq_true rfl) ?_
 show AWP _ _ _ _ [(0, .ptr ⟨x, 0, none⟩), (1, .str token), (2, .int .i64 id)] (AMem.wth m [(x, cObj d tb ob fb c), (d, .cells [.map kb, .map nb, .slice true (s.wait.map chgAV), .int .i64 s.fuse, .bool s.down, .int .i64 s.steps]), (tb, tObj c.things), (ob, oObj c.tokens), (fb, fObj c.fails)])
 refine awp_reg2_seq [] [0, 1, 2] (by decide) ?_
 intro K1 hK1
 refine ⟨trivial, ?_⟩
 show K1 [(0, .ptr ⟨x, 0, none⟩), (1, .str token), (2, .int .i64 id)] _
 refine hK1 _ _ ?_; clear hK1 K1
 refine awp_reg2_seq [] [0, 1, 2, 8, 9] (by decide) ?_
 intro K1 hK1
 refine ⟨trivial, trivial, ?_⟩
 refine ar_mem (wth_split hN (pick_perm [0, 0, 1, 1] _)) ?_
 refine u_callE x d tb ob fb kb nb c s token 3 (by simp at hN ⊢; omega) hst hst2 hfu hfu2 hca hca2 _ _ ?_
 show aopsR _ _ _ _ _ _ (AMem.wth (AMem.wth m [(tb, tObj c.things)]) [(x, .cells [.ptr ⟨d, 0, none⟩, .map tb, .map ob, .int .i64 c.next, .int .i64 c.quota, .int .i64 (ccalls c s token 3), .map fb]), (d, .cells [.map kb, .map nb, .slice true ((((stepF s).1).wait).map chgAV), .int .i64 (((stepF s).1).fuse), .bool (((stepF s).1).down), .int .i64 (((stepF s).1).steps)]), (ob, oObj c.tokens), (fb, fObj c.fails)])
 refine ar_mem (wth_split (m := m) (L := [(x, .cells [.ptr ⟨d, 0, none⟩, .map tb, .map ob, .int .i64 c.next, .int .i64 c.quota, .int .i64 (ccalls c s token 3), .map fb]), (d, .cells [.map kb, .map nb, .slice true ((((stepF s).1).wait).map chgAV), .int .i64 (((stepF s).1).fuse), .bool (((stepF s).1).down), .int .i64 (((stepF s).1).steps)]), (tb, tObj c.things), (ob, oObj c.tokens), (fb, fObj c.fails)]) hN (pick_perm [0, 0, 1, 1] _)).symm ?_
 refine ⟨trivial, (Nat.le_of_ble_eq_true rfl), (Nat.le_of_ble_eq_true rfl), (Nat.le_of_ble_eq_true rfl), ?_⟩
 refine ar_alloc rfl (z := .agg [.int .i64 0, .int .i64 0]) rfl rfl ?_
 intro b1 hb1
 have hFb1 : m b1 = none := wth_none hb1
 have hNb1 : ([b1, x, d, tb, ob, fb] : List Nat).Nodup := wth_nodup hb1 hN
 refine ar_storep rfl 0 (v := .agg [.int .i64 ((callT c s token 3).1.op), .int .i64 ((callT c s token 3).1.id)]) (l' := [.int .i64 ((callT c s token 3).1.op), .int .i64 ((callT c s token 3).1.id)]) rfl rfl hNb1 rfl rfl rfl rfl rfl (Nat.le_of_ble_eq_true rfl) rfl ?_
 refine ⟨trivial, trivial, ?_⟩
 show K1 [(0, .ptr ⟨x, 0, none⟩), (1, .str token), (2, .int .i64 id), (8, .bool ((callT c s token 3).2.1)), (9, .err 108 ((callT c s token 3).2.2))] (AMem.wth m [(b1, .cells [.int .i64 ((callT c s token 3).1.op), .int .i64 ((callT c s token 3).1.id)]), (x, .cells [.ptr ⟨d, 0, none⟩, .map tb, .map ob, .int .i64 c.next, .int .i64 c.quota, .int .i64 (ccalls c s token 3), .map fb]), (d, .cells [.map kb, .map nb, .slice true ((((stepF s).1).wait).map chgAV), .int .i64 (((stepF s).1).fuse), .bool (((stepF s).1).down), .int .i64 (((stepF s).1).steps)]), (tb, tObj c.things), (ob, oObj c.tokens), (fb, fObj c.fails)])
 refine hK1 _ _ ?_; clear hK1 K1
 refine awp_seq_k ?_; intro K2 hK2
 refine awp_reg2_seq [] [0, 1, 2, 9, 23] (by decide) ?_
 intro K1 hK1
 suffices key : K1 [(0, .ptr ⟨x, 0, none⟩), (1, .str token), (2, .int .i64 id), (9, .err 108 ((callT c s token 3).2.2)), (23, .bool ((!(((callT c s token 3).2.2) == 0)) || ((callT c s token 3).2.1)))] (AMem.wth m [(b1, .cells [.int .i64 ((callT c s token 3).1.op), .int .i64 ((callT c s token 3).1.id)]), (x, .cells [.ptr ⟨d, 0, none⟩, .map tb, .map ob, .int .i64 c.next, .int .i64 c.quota, .int .i64 (ccalls c s token 3), .map fb]), (d, .cells [.map kb, .map nb, .slice true ((((stepF s).1).wait).map chgAV), .int .i64 (((stepF s).1).fuse), .bool (((stepF s).1).down), .int .i64 (((stepF s).1).steps)]), (tb, tObj c.things), (ob, oObj c.tokens), (fb, fObj c.fails)]) by
  refine ⟨trivial, ⟨rfl, rfl⟩, trivial, ?_⟩
  show aopsR _ _ _ _ _ [(21, .bool (!(((callT c s token 3).2.2) == 0))), (20, .bool (!(((callT c s token 3).2.2) == 0))), (19, .err 108 ((callT c s token 3).2.2)), (0, .ptr ⟨x, 0, none⟩), (1, .str token), (2, .int .i64 id), (8, .bool ((callT c s token 3).2.1)), (9, .err 108 ((callT c s token 3).2.2))] _
  revert key
  cases h1 : (((callT c s token 3).2.2) == 0)
  ·
   replace h1 : (callT c s token 3).2.2 ≠ 0 := (ne_of_beq_false h1)
   intro key
   refine ar_off rfl ?_
   exact key
  ·
   replace h1 : (callT c s token 3).2.2 = 0 := (eq_of_beq h1)
   intro key
   refine ⟨trivial, ?_⟩
   exact key
 refine hK1 _ _ ?_; clear hK1 K1
 refine awp_cond rfl rfl (fun h2 => ?_) (fun h2 => ?_)
 ·
  replace h2 : ((callT c s token 3).2.2 ≠ 0) ∨ ((callT c s token 3).2.1 = true) := ((borT h2).imp (fun q => (ne_of_beq_false (bnT q))) (fun q => q))
  refine awp_reg2_seq [] [6] (by decide) ?_
  intro K1 hK1
  refine ⟨trivial, trivial, ?_⟩
  show K1 [(6, .err 108 ((callT c s token 3).2.2))] (AMem.wth m [(b1, .cells [.int .i64 ((callT c s token 3).1.op), .int .i64 ((callT c s token 3).1.id)]), (x, .cells [.ptr ⟨d, 0, none⟩, .map tb, .map ob, .int .i64 c.next, .int .i64 c.quota, .int .i64 (ccalls c s token 3), .map fb]), (d, .cells [.map kb, .map nb, .slice true ((((stepF s).1).wait).map chgAV), .int .i64 (((stepF s).1).fuse), .bool (((stepF s).1).down), .int .i64 (((stepF s).1).steps)]), (tb, tObj c.things), (ob, oObj c.tokens), (fb, fObj c.fails)])
  refine hK1 _ _ ?_; clear hK1 K1
  refine awp_ret ?_
  refine ⟨trivial, (AMem.wth m [(x, .cells [.ptr ⟨d, 0, none⟩, .map tb, .map ob, .int .i64 c.next, .int .i64 c.quota, .int .i64 (ccalls c s token 3), .map fb]), (d, .cells [.map kb, .map nb, .slice true ((((stepF s).1).wait).map chgAV), .int .i64 (((stepF s).1).fuse), .bool (((stepF s).1).down), .int .i64 (((stepF s).1).steps)]), (tb, tObj c.things), (ob, oObj c.tokens), (fb, fObj c.fails)]), (wth_sub2 (m := m) [(b1, .cells [.int .i64 ((callT c s token 3).1.op), .int .i64 ((callT c s token 3).1.id)])] [(x, .cells [.ptr ⟨d, 0, none⟩, .map tb, .map ob, .int .i64 c.next, .int .i64 c.quota, .int .i64 (ccalls c s token 3), .map fb]), (d, .cells [.map kb, .map nb, .slice true ((((stepF s).1).wait).map chgAV), .int .i64 (((stepF s).1).fuse), .bool (((stepF s).1).down), .int .i64 (((stepF s).1).steps)]), (tb, tObj c.things), (ob, oObj c.tokens), (fb, fObj c.fails)] hNb1 (by simp only [List.map_cons, List.map_nil, List.forall_mem_cons]; exact ⟨hFb1, fun _ h => by cases h⟩)), ?_⟩
  show K (.err 108 ((callT c s token 3).2.2)) (AMem.wth m [(x, .cells [.ptr ⟨d, 0, none⟩, .map tb, .map ob, .int .i64 c.next, .int .i64 c.quota, .int .i64 (ccalls c s token 3), .map fb]), (d, .cells [.map kb, .map nb, .slice true ((((stepF s).1).wait).map chgAV), .int .i64 (((stepF s).1).fuse), .bool (((stepF s).1).down), .int .i64 (((stepF s).1).steps)]), (tb, tObj c.things), (ob, oObj c.tokens), (fb, fObj c.fails)])
 
  have e0 : deleteR c s token id = ((((⟨c.things, c.tokens, c.next, c.quota, ccalls c s token 3, c.fails⟩ : ClSt), (stepF s).1), (callT c s token 3).2.2) : (ClSt × DSt) × Int) := by
   first | exact deleteR_2 (by assumption) | exact deleteR_3 (by assumption) (by assumption) | exact deleteR_4 (by assumption) (by assumption)
  rw [e0] at hK
  exact hK
 replace h2 : ((callT c s token 3).2.2 = 0) ∧ ((callT c s token 3).2.1 = false) := ⟨(eq_of_beq (bnF (borL h2))), (borR h2)⟩
 refine awp_skip ?_
 refine hK2 _ _ ?_; clear hK2
 refine awp_reg2_seq [] [0, 1, 2, 11] (by decide) ?_
 intro K1 hK1
 refine ⟨trivial, trivial, ⟨rfl, by decide⟩, ?_⟩
 refine ar_loadp rfl (v := .map tb) rfl (wth_get 1 hNb1 rfl) rfl (apartOk_one rfl rfl (Nat.le_of_ble_eq_true rfl)) rfl ?_
 refine ⟨trivial, ?_⟩
 refine ar_lookupOkP rfl (m := m) (L := [(b1, .cells [.int .i64 ((callT c s token 3).1.op), .int .i64 ((callT c s token 3).1.id)]), (x, .cells [.ptr ⟨d, 0, none⟩, .map tb, .map ob, .int .i64 c.next, .int .i64 c.quota, .int .i64 (ccalls c s token 3), .map fb]), (d, .cells [.map kb, .map nb, .slice true ((((stepF s).1).wait).map chgAV), .int .i64 (((stepF s).1).fuse), .bool (((stepF s).1).down), .int .i64 (((stepF s).1).steps)]), (tb, tObj c.things), (ob, oObj c.tokens), (fb, fObj c.fails)]) intAV thgAV intKey_ok c.things id zT rfl rfl rfl rfl rfl rfl (wth_get 3 hNb1 rfl) rfl ?_
 refine ⟨trivial, (Nat.le_of_ble_eq_true rfl), (Nat.le_of_ble_eq_true rfl), ?_⟩
 refine ar_alloc rfl (z := .agg [.int .i64 0, .str ([]), .int .i64 0, .int .i64 0, .str ([]), .slice true [], .slice true []]) rfl rfl ?_
 intro b2 hb2
 have hFb2 : m b2 = none := wth_none hb2
 have hNb2 : ([b2, b1, x, d, tb, ob, fb] : List Nat).Nodup := wth_nodup hb2 hNb1
 refine ar_storep rfl 0 (v := thgAV ((mget c.things id).getD zT)) (l' := [.int .i64 (((mget c.things id).getD zT).id), .str (((mget c.things id).getD zT).kind), .int .i64 ((((mget c.things id).getD zT).v).kind), .int .i64 ((((mget c.things id).getD zT).v).n), .str ((((mget c.things id).getD zT).v).s), .slice false (((((mget c.things id).getD zT).v).l).map valIn), .slice false (((((mget c.things id).getD zT).v).f).map fldIn)]) rfl (by rfl) hNb2 rfl rfl rfl rfl rfl (Nat.le_of_ble_eq_true rfl) rfl ?_
 refine ⟨trivial, ?_⟩
 show K1 [(0, .ptr ⟨x, 0, none⟩), (1, .str token), (2, .int .i64 id), (11, .bool ((mget c.things id).isSome))] (AMem.wth m [(b2, .cells [.int .i64 (((mget c.things id).getD zT).id), .str (((mget c.things id).getD zT).kind), .int .i64 ((((mget c.things id).getD zT).v).kind), .int .i64 ((((mget c.things id).getD zT).v).n), .str ((((mget c.things id).getD zT).v).s), .slice false (((((mget c.things id).getD zT).v).l).map valIn), .slice false (((((mget c.things id).getD zT).v).f).map fldIn)]), (b1, .cells [.int .i64 ((callT c s token 3).1.op), .int .i64 ((callT c s token 3).1.id)]), (x, .cells [.ptr ⟨d, 0, none⟩, .map tb, .map ob, .int .i64 c.next, .int .i64 c.quota, .int .i64 (ccalls c s token 3), .map fb]), (d, .cells [.map kb, .map nb, .slice true ((((stepF s).1).wait).map chgAV), .int .i64 (((stepF s).1).fuse), .bool (((stepF s).1).down), .int .i64 (((stepF s).1).steps)]), (tb, tObj c.things), (ob, oObj c.tokens), (fb, fObj c.fails)])
 refine hK1 _ _ ?_; clear hK1 K1
 refine awp_seq_k ?_; intro K3 hK3
 refine awp_reg2_seq [] [0, 1, 2, 35] (by decide) ?_
 intro K1 hK1
 refine ⟨trivial, trivial, ?_⟩
 show K1 [(0, .ptr ⟨x, 0, none⟩), (1, .str token), (2, .int .i64 id), (35, .bool (!((mget c.things id).isSome)))] _
 refine hK1 _ _ ?_; clear hK1 K1
 refine awp_cond rfl rfl (fun h3 => ?_) (fun h3 => ?_)
 ·
  replace h3 : (mget c.things id).isSome = false := (bnT h3)
  refine awp_reg2_seq [] [6] (by decide) ?_
  intro K1 hK1
  refine ⟨trivial, trivial, ?_⟩
  show K1 [(6, .iface 108 (.int .i64 7))] (AMem.wth m [(b2, .cells [.int .i64 (((mget c.things id).getD zT).id), .str (((mget c.things id).getD zT).kind), .int .i64 ((((mget c.things id).getD zT).v).kind), .int .i64 ((((mget c.things id).getD zT).v).n), .str ((((mget c.things id).getD zT).v).s), .slice false (((((mget c.things id).getD zT).v).l).map valIn), .slice false (((((mget c.things id).getD zT).v).f).map fldIn)]), (b1, .cells [.int .i64 ((callT c s token 3).1.op), .int .i64 ((callT c s token 3).1.id)]), (x, .cells [.ptr ⟨d, 0, none⟩, .map tb, .map ob, .int .i64 c.next, .int .i64 c.quota, .int .i64 (ccalls c s token 3), .map fb]), (d, .cells [.map kb, .map nb, .slice true ((((stepF s).1).wait).map chgAV), .int .i64 (((stepF s).1).fuse), .bool (((stepF s).1).down), .int .i64 (((stepF s).1).steps)]), (tb, tObj c.things), (ob, oObj c.tokens), (fb, fObj c.fails)])
  refine hK1 _ _ ?_; clear hK1 K1
  refine awp_toErr 108 [6] ?_
  show AWP _ _ _ _ [(6, .err 108 7)] _
  refine awp_ret ?_
  refine ⟨trivial, (AMem.wth m [(x, .cells [.ptr ⟨d, 0, none⟩, .map tb, .map ob, .int .i64 c.next, .int .i64 c.quota, .int .i64 (ccalls c s token 3), .map fb]), (d, .cells [.map kb, .map nb, .slice true ((((stepF s).1).wait).map chgAV), .int .i64 (((stepF s).1).fuse), .bool (((stepF s).1).down), .int .i64 (((stepF s).1).steps)]), (tb, tObj c.things), (ob, oObj c.tokens), (fb, fObj c.fails)]), (wth_sub2 (m := m) [(b2, .cells [.int .i64 (((mget c.things id).getD zT).id), .str (((mget c.things id).getD zT).kind), .int .i64 ((((mget c.things id).getD zT).v).kind), .int .i64 ((((mget c.things id).getD zT).v).n), .str ((((mget c.things id).getD zT).v).s), .slice false (((((mget c.things id).getD zT).v).l).map valIn), .slice false (((((mget c.things id).getD zT).v).f).map fldIn)]), (b1, .cells [.int .i64 ((callT c s token 3).1.op), .int .i64 ((callT c s token 3).1.id)])] [(x, .cells [.ptr ⟨d, 0, none⟩, .map tb, .map ob, .int .i64 c.next, .int .i64 c.quota, .int .i64 (ccalls c s token 3), .map fb]), (d, .cells [.map kb, .map nb, .slice true ((((stepF s).1).wait).map chgAV), .int .i64 (((stepF s).1).fuse), .bool (((stepF s).1).down), .int .i64 (((stepF s).1).steps)]), (tb, tObj c.things), (ob, oObj c.tokens), (fb, fObj c.fails)] hNb2 (by simp only [List.map_cons, List.map_nil, List.forall_mem_cons]; exact ⟨hFb2, hFb1, fun _ h => by cases h⟩)), ?_⟩
  show K (.err 108 7) (AMem.wth m [(x, .cells [.ptr ⟨d, 0, none⟩, .map tb, .map ob, .int .i64 c.next, .int .i64 c.quota, .int .i64 (ccalls c s token 3), .map fb]), (d, .cells [.map kb, .map nb, .slice true ((((stepF s).1).wait).map chgAV), .int .i64 (((stepF s).1).fuse), .bool (((stepF s).1).down), .int .i64 (((stepF s).1).steps)]), (tb, tObj c.things), (ob, oObj c.tokens), (fb, fObj c.fails)])
 
  have e0 : deleteR c s token id = ((((⟨c.things, c.tokens, c.next, c.quota, ccalls c s token 3, c.fails⟩ : ClSt), (stepF s).1), 7) : (ClSt × DSt) × Int) := by
   first | exact deleteR_2 (by assumption) | exact deleteR_3 (by assumption) (by assumption) | exact deleteR_4 (by assumption) (by assumption)
  rw [e0] at hK
  exact hK
 replace h3 : (mget c.things id).isSome = true := (bnF h3)
 refine awp_skip ?_
 refine hK3 _ _ ?_; clear hK3
 refine awp_reg2_seq [] [0, 1, 2] (by decide) ?_
 intro K1 hK1
 refine ⟨trivial, trivial, ⟨rfl, by decide⟩, ?_⟩
 refine ar_loadp rfl (v := .map tb) rfl (wth_get 2 hNb2 rfl) rfl (apartOk_one rfl rfl (Nat.le_of_ble_eq_true rfl)) rfl ?_
 refine ⟨trivial, ?_⟩
 refine ar_delete rfl (m := m) (L := [(b2, .cells [.int .i64 (((mget c.things id).getD zT).id), .str (((mget c.things id).getD zT).kind), .int .i64 ((((mget c.things id).getD zT).v).kind), .int .i64 ((((mget c.things id).getD zT).v).n), .str ((((mget c.things id).getD zT).v).s), .slice false (((((mget c.things id).getD zT).v).l).map valIn), .slice false (((((mget c.things id).getD zT).v).f).map fldIn)]), (b1, .cells [.int .i64 ((callT c s token 3).1.op), .int .i64 ((callT c s token 3).1.id)]), (x, .cells [.ptr ⟨d, 0, none⟩, .map tb, .map ob, .int .i64 c.next, .int .i64 c.quota, .int .i64 (ccalls c s token 3), .map fb]), (d, .cells [.map kb, .map nb, .slice true ((((stepF s).1).wait).map chgAV), .int .i64 (((stepF s).1).fuse), .bool (((stepF s).1).down), .int .i64 (((stepF s).1).steps)]), (tb, tObj c.things), (ob, oObj c.tokens), (fb, fObj c.fails)]) 4 intAV thgAV intKey_ok c.things id rfl rfl rfl rfl rfl hNb2 ?_
 show K1 [(0, .ptr ⟨x, 0, none⟩), (1, .str token), (2, .int .i64 id)] (AMem.wth m [(b2, .cells [.int .i64 (((mget c.things id).getD zT).id), .str (((mget c.things id).getD zT).kind), .int .i64 ((((mget c.things id).getD zT).v).kind), .int .i64 ((((mget c.things id).getD zT).v).n), .str ((((mget c.things id).getD zT).v).s), .slice false (((((mget c.things id).getD zT).v).l).map valIn), .slice false (((((mget c.things id).getD zT).v).f).map fldIn)]), (b1, .cells [.int .i64 ((callT c s token 3).1.op), .int .i64 ((callT c s token 3).1.id)]), (x, .cells [.ptr ⟨d, 0, none⟩, .map tb, .map ob, .int .i64 c.next, .int .i64 c.quota, .int .i64 (ccalls c s token 3), .map fb]), (d, .cells [.map kb, .map nb, .slice true ((((stepF s).1).wait).map chgAV), .int .i64 (((stepF s).1).fuse), .bool (((stepF s).1).down), .int .i64 (((stepF s).1).steps)]), (tb, tObj (mdel c.things id)), (ob, oObj c.tokens), (fb, fObj c.fails)])
 refine hK1 _ _ ?_; clear hK1 K1
 refine awp_reg2_seq [] [] (by decide) ?_
 intro K1 hK1
 refine ⟨trivial, trivial, ⟨rfl, by decide⟩, ?_⟩
 refine ar_loadp rfl (v := .map ob) rfl (wth_get 2 hNb2 rfl) rfl (apartOk_one rfl rfl (Nat.le_of_ble_eq_true rfl)) rfl ?_
 refine ⟨trivial, trivial, ⟨rfl, by simp only [List.forall_mem_cons]; exact ⟨rfl, rfl, fun _ h => by cases h⟩, by simp only [List.forall_mem_cons]; exact ⟨rfl, rfl, fun _ h => by cases h⟩⟩, ?_⟩
 refine ar_mapUpdate rfl (m := m) (L := [(b2, .cells [.int .i64 (((mget c.things id).getD zT).id), .str (((mget c.things id).getD zT).kind), .int .i64 ((((mget c.things id).getD zT).v).kind), .int .i64 ((((mget c.things id).getD zT).v).n), .str ((((mget c.things id).getD zT).v).s), .slice false (((((mget c.things id).getD zT).v).l).map valIn), .slice false (((((mget c.things id).getD zT).v).f).map fldIn)]), (b1, .cells [.int .i64 ((callT c s token 3).1.op), .int .i64 ((callT c s token 3).1.id)]), (x, .cells [.ptr ⟨d, 0, none⟩, .map tb, .map ob, .int .i64 c.next, .int .i64 c.quota, .int .i64 (ccalls c s token 3), .map fb]), (d, .cells [.map kb, .map nb, .slice true ((((stepF s).1).wait).map chgAV), .int .i64 (((stepF s).1).fuse), .bool (((stepF s).1).down), .int .i64 (((stepF s).1).steps)]), (tb, tObj (mdel c.things id)), (ob, oObj c.tokens), (fb, fObj c.fails)]) 5 strAV dnAV strKey_ok c.tokens token (⟨3, id⟩ : Dn) rfl rfl rfl rfl rfl rfl hNb2 (by have := mput_len c.tokens token ⟨3, id⟩; omega) ?_
 show K1 [] (AMem.wth m [(b2, .cells [.int .i64 (((mget c.things id).getD zT).id), .str (((mget c.things id).getD zT).kind), .int .i64 ((((mget c.things id).getD zT).v).kind), .int .i64 ((((mget c.things id).getD zT).v).n), .str ((((mget c.things id).getD zT).v).s), .slice false (((((mget c.things id).getD zT).v).l).map valIn), .slice false (((((mget c.things id).getD zT).v).f).map fldIn)]), (b1, .cells [.int .i64 ((callT c s token 3).1.op), .int .i64 ((callT c s token 3).1.id)]), (x, .cells [.ptr ⟨d, 0, none⟩, .map tb, .map ob, .int .i64 c.next, .int .i64 c.quota, .int .i64 (ccalls c s token 3), .map fb]), (d, .cells [.map kb, .map nb, .slice true ((((stepF s).1).wait).map chgAV), .int .i64 (((stepF s).1).fuse), .bool (((stepF s).1).down), .int .i64 (((stepF s).1).steps)]), (tb, tObj (mdel c.things id)), (ob, oObj (mput c.tokens token (⟨3, id⟩ : Dn))), (fb, fObj c.fails)])
 refine hK1 _ _ ?_; clear hK1 K1
 refine awp_reg2_seq [] [6] (by decide) ?_
 intro K1 hK1
 refine ⟨trivial, ?_⟩
 show K1 [(6, .nilIface)] _
 refine hK1 _ _ ?_; clear hK1 K1
 refine awp_toErr 108 [6] ?_
 show AWP _ _ _ _ [(6, .err 108 0)] _
 refine awp_ret ?_
 refine ⟨trivial, (AMem.wth m [(x, .cells [.ptr ⟨d, 0, none⟩, .map tb, .map ob, .int .i64 c.next, .int .i64 c.quota, .int .i64 (ccalls c s token 3), .map fb]), (d, .cells [.map kb, .map nb, .slice true ((((stepF s).1).wait).map chgAV), .int .i64 (((stepF s).1).fuse), .bool (((stepF s).1).down), .int .i64 (((stepF s).1).steps)]), (tb, tObj (mdel c.things id)), (ob, oObj (mput c.tokens token (⟨3, id⟩ : Dn))), (fb, fObj c.fails)]), (wth_sub2 (m := m) [(b2, .cells [.int .i64 (((mget c.things id).getD zT).id), .str (((mget c.things id).getD zT).kind), .int .i64 ((((mget c.things id).getD zT).v).kind), .int .i64 ((((mget c.things id).getD zT).v).n), .str ((((mget c.things id).getD zT).v).s), .slice false (((((mget c.things id).getD zT).v).l).map valIn), .slice false (((((mget c.things id).getD zT).v).f).map fldIn)]), (b1, .cells [.int .i64 ((callT c s token 3).1.op), .int .i64 ((callT c s token 3).1.id)])] [(x, .cells [.ptr ⟨d, 0, none⟩, .map tb, .map ob, .int .i64 c.next, .int .i64 c.quota, .int .i64 (ccalls c s token 3), .map fb]), (d, .cells [.map kb, .map nb, .slice true ((((stepF s).1).wait).map chgAV), .int .i64 (((stepF s).1).fuse), .bool (((stepF s).1).down), .int .i64 (((stepF s).1).steps)]), (tb, tObj (mdel c.things id)), (ob, oObj (mput c.tokens token (⟨3, id⟩ : Dn))), (fb, fObj c.fails)] hNb2 (by simp only [List.map_cons, List.map_nil, List.forall_mem_cons]; exact ⟨hFb2, hFb1, fun _ h => by cases h⟩)), ?_⟩
 show K (.err 108 0) (AMem.wth m [(x, .cells [.ptr ⟨d, 0, none⟩, .map tb, .map ob, .int .i64 c.next, .int .i64 c.quota, .int .i64 (ccalls c s token 3), .map fb]), (d, .cells [.map kb, .map nb, .slice true ((((stepF s).1).wait).map chgAV), .int .i64 (((stepF s).1).fuse), .bool (((stepF s).1).down), .int .i64 (((stepF s).1).steps)]), (tb, tObj (mdel c.things id)), (ob, oObj (mput c.tokens token (⟨3, id⟩ : Dn))), (fb, fObj c.fails)])

 have e0 : deleteR c s token id = ((((⟨mdel c.things id, mput c.tokens token (⟨3, id⟩ : Dn), c.next, c.quota, ccalls c s token 3, c.fails⟩ : ClSt), (stepF s).1), 0) : (ClSt × DSt) × Int) := by
  first | exact deleteR_2 (by assumption) | exact deleteR_3 (by assumption) (by assumption) | exact deleteR_4 (by assumption) (by assumption)
 rw [e0] at hK
 exact hK

end Go.Proofs
end
section
namespace Go.Proofs
open Go Go.Aw
set_option maxRecDepth 100000


/-- Things, by rising numbers. -/
def sortT (l : List Thg) : List Thg := l.mergeSort fun a b => decide (a.id ≤ b.id)
theorem sortT_eq {l l' : List Thg} (hp : l'.Perm l) (hs : l'.Pairwise (fun a b => a.id ≤ b.id)) (hn : (l.map Thg.id).Nodup) : l' = sortT l := by
  have to : ∀ a b : Thg, (decide (a.id ≤ b.id) || decide (b.id ≤ a.id)) = true := fun a b => by
    rcases Int.le_total a.id b.id with h | h <;> simp [h]
  have tr : ∀ a b c : Thg, decide (a.id ≤ b.id) = true → decide (b.id ≤ c.id) = true → decide (a.id ≤ c.id) = true := fun a b c h1 h2 => by
    simp only [decide_eq_true_eq] at *; omega
  refine List.Perm.eq_of_pairwise (le := fun a b => decide (a.id ≤ b.id) = true) (fun a b ha hb h1 h2 => ?_) (hs.imp fun h => by simpa using h) (List.pairwise_mergeSort tr to l) (hp.trans (List.mergeSort_perm l _).symm)
  simp only [decide_eq_true_eq] at h1 h2
  have ha' := hp.mem_iff.1 ha
  have hb' := (List.mergeSort_perm l _).mem_iff.1 hb
  have hid : a.id = b.id := by omega
  obtain ⟨i, hi, rfl⟩ := List.getElem_of_mem ha'
  obtain ⟨j, hj, rfl⟩ := List.getElem_of_mem hb'
  have := (List.getElem_inj (xs := l.map Thg.id) (h₀ := by simpa using hi) (h₁ := by simpa using hj) hn).1 (by simpa using hid)
  subst this; rfl
theorem sortT_len (l : List Thg) : (sortT l).length = l.length := List.length_mergeSort _
def allT (c : ClSt) : List Thg := sortT (c.things.map Prod.snd)
def thgsAt (l : List (Int × Thg)) (seen : List Nat) : List Thg := seen.map fun i => (l.getD i (0, zT)).2
theorem thgsAt_perm {l : List (Int × Thg)} {seen : List Nat} (hn : seen.Nodup) (hb : ∀ i ∈ seen, i < l.length) (ha : ∀ i, i < l.length → i ∈ seen) : (thgsAt l seen).Perm (l.map Prod.snd) := by
  have hp : seen.Perm (List.range l.length) := (List.perm_ext_iff_of_nodup hn List.nodup_range).2 fun i => ⟨fun h => List.mem_range.2 (hb i h), fun h => ha i (List.mem_range.1 h)⟩
  refine (hp.map _).trans ?_
  have e : (List.range l.length).map (fun i => (l.getD i (0, zT)).2) = l.map Prod.snd := by
    refine List.ext_getElem (by simp) fun i h1 h2 => ?_
    simp only [List.length_map] at h2
    simp [h2]
  show ((List.range l.length).map (fun i => (l.getD i (0, zT)).2)).Perm (l.map Prod.snd)
  rw [e]
theorem thgsAt_snoc {l : List (Int × Thg)} {seen : List Nat} {k : Nat} {a : Int} {b : Thg} (hp : l[k]? = some (a, b)) : thgsAt l (seen ++ [k]) = thgsAt l seen ++ [b] := by
  unfold thgsAt
  rw [List.map_append]
  simp [List.getD_eq_getElem?_getD, hp]
theorem seenT_len {l : List (Int × Thg)} {seen : List Nat} (hn : seen.Nodup) (hb : ∀ i ∈ seen, i < l.length) : seen.length ≤ l.length := by
  have h := List.Nodup.length_le_of_subset hn (fun i hi => List.mem_range.2 (hb i hi))
  simpa using h
theorem sstepT {l : List (Int × Thg)} {seen : List Nat} {k : Nat} {p : Int × Thg} (h1 : seen.Nodup) (h2 : ∀ i ∈ seen, i < l.length) (hp : l[k]? = some p) (hn : ¬ k ∈ seen) : (seen ++ [k]).Nodup ∧ (∀ i ∈ seen ++ [k], i < l.length) := by
  have hk := (List.getElem?_eq_some_iff.1 hp).1
  refine ⟨List.nodup_append.2 ⟨h1, by simp, fun i hi j hj e => by simp at hj; subst hj; subst e; exact hn hi⟩, fun i hi => ?_⟩
  rcases List.mem_append.1 hi with h | h
  · exact h2 i h
  · simp at h; omega
theorem thgsAt_mem {l : List (Int × Thg)} {seen : List Nat} (hb : ∀ i ∈ seen, i < l.length) : ∀ t ∈ thgsAt l seen, ∃ p ∈ l, p.2 = t := fun t ht => by
  obtain ⟨i, hi, rfl⟩ := List.mem_map.1 ht
  have := hb i hi
  exact ⟨l[i], List.getElem_mem this, by simp [List.getD_eq_getElem?_getD, this]⟩
theorem u_SortT0 (m : AMem) (K : AV → AMem → Prop) (hK : K (.tuple []) m) : ACalls Try.prog 87 [.nils, .func (.func 88) [] []] m K := by
  have hC : ∀ (p : Option Addr) (w : World), Calls Try.prog 87 #[.slice p 0 0, .func (.func 88) #[] #[]] w fun e w' => e = .returned (.tuple #[]) ∧ w' = w := fun p w => Try.sortN p w
  refine ⟨⟨_, Try.func87, rfl, rfl⟩, fun F lim w cargs hs hr st => ?_⟩
  have h0 := hr 0 (by simp)
  have h1 := hr 1 (by simp)
  simp only [List.getD_cons_zero] at h0
  simp only [List.getD_cons_succ, List.getD_cons_zero] at h1
  obtain ⟨p, e0⟩ := nils_inv h0
  have e1 := func_inv h1
  have ec : cargs = #[.slice p 0 0, .func (.func 88) #[] #[]] := by
    apply Array.ext (by simp [hs])
    intro i hi hi'
    have : cargs.getD i undef = cargs[i] := by simp [Array.getD, hi]
    rw [← this]
    have hi2 : i < 2 := by simpa [hs] using hi
    match i, hi2 with
    | 0, _ => rw [e0]; rfl
    | 1, _ => rw [e1]; rfl
  rw [ec]
  refine (hC p w).mono fun e w' ⟨he, hw⟩ => ?_
  subst hw
  refine ⟨.tuple #[], .tuple [], lim, m, [], he, hK, ?_, st, .refl _ _ _⟩
  have := Rep.tuple (w := w') (lim := lim) #[] [] (fun _ => []) rfl (fun i hi => by simp at hi)
  rwa [flatMap_nil] at this
theorem u_SortT (b k cap : Nat) (zs : List Thg) (hk : k ≤ zs.length) (hkb : k ≤ 140737488355328) (hks : ∀ a ∈ zs.take k, 0 ≤ a.id ∧ a.id ≤ 1000000000) (hn : ((zs.take k).map Thg.id).Nodup) (m : AMem) (K : AV → AMem → Prop) (hK : K (.tuple []) (m.wth [(b, .cells (flatK thgAV (sortT (zs.take k) ++ zs.drop k)))])) : ACalls Try.prog 87 [.ms ⟨b, 0, none⟩ k cap, .func (.func 88) [] []] (m.wth [(b, .cells (flatK thgAV zs))]) K :=
  acalls_sortK (s := 6) Thg.id ⟨_, Try.func87, rfl, rfl⟩ Try.sortC (fun _ => rfl) (fun _ => rfl) (fun _ => rfl) (fun _ => rfl) b k cap zs hk hkb hks m K (fun zs' hp hs => by rw [sortT_eq hp hs hn]; exact hK)

end Go.Proofs
end

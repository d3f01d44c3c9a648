import Derived.Test.YtoeghipbkmaccaaProg
import Derived.Test.YtoeghipbkmaccaaWl1
import Derived.Test.YtoeghipbkmaccaaCl6
import Derived.Test.YtoeghipbkmaccaaWl8
namespace Go.Proofs
open Go Go.Aw
set_option maxRecDepth 100000


def cZ : ClSt := ⟨[], [], 1, 20, 0, []⟩
def vZ : Val := ⟨5, 0, [], [], []⟩
def rZ : (ClSt × DSt) × (Int × Int) := createR cZ s0 ([102, 105, 114, 115, 116] : List UInt8) ([118, 109] : List UInt8) vZ
def c1 : ClSt := rZ.1.1
def s1 : DSt := rZ.1.2
theorem TK.start : TK cZ s0 0 := ⟨⟨rfl, rfl⟩, Int.le_refl _, Int.le_refl _, rfl, by decide, by decide, Int.le_refl _, Int.le_refl _, Nat.le_refl _, Nat.le_refl _, List.nodup_nil, fun p hp => by cases hp⟩
theorem rZ_eq : rZ = (({ cZ with calls := 1, next := 2, things := [(1, ⟨1, ([118, 109] : List UInt8), vZ⟩)], tokens := [(([102, 105, 114, 115, 116] : List UInt8), ⟨1, 1⟩)] }, (stepF s0).1), (1, 0)) := by
  unfold rZ
  rw [TK.start.create_3 (by rfl) (by decide) ⟨rfl, rfl⟩ (by decide)]
  rfl
theorem TK.one : TK c1 s1 1 ∧ c1.next = 2 := ⟨(TK.start.create2 (token := ([102, 105, 114, 115, 116] : List UInt8)) (kind := ([118, 109] : List UInt8)) (v := vZ)).k1, by show rZ.1.1.next = 2; rw [rZ_eq]⟩
theorem acts_bdC {l : List ActT} (h : bdL (l.map actAV)) : ∀ a ∈ l, a.s.length ≤ 140737488355328 ∧ a.t.length ≤ 140737488355328 ∧ a.a ≤ 9223372036854775807 := fun a ha =>
  ⟨bdL_map (f := actAV) h ha 1 (by simp [actAV, AV.cells]), bdL_map (f := actAV) h ha 2 (by simp [actAV, AV.cells]), (bdL_map (f := actAV) h ha 3 (by simp [actAV, AV.cells])).2⟩
theorem allT_len (c : ClSt) : (allT c).length = c.things.length := by unfold allT; rw [sortT_len, List.length_map]
theorem allT_eq {c c' : ClSt} (h : c'.things = c.things) : allT c' = allT c := by unfold allT; rw [h]
theorem u_CreateK (x d tb ob fb kb nb : Nat) (c : ClSt) (s : DSt) (token kind : Str) (v : Val) (n : Nat) (r : (ClSt × DSt) × (Int × Int)) (hr : createR c s token kind v = r) (hN : [x, d, tb, ob, fb].Nodup) (h : TK c s n) (hn : n ≤ 1000) (hkd : kind.length ≤ 140737488355328) (m : AMem) (K : AV → AMem → Prop)
    (hK : K (.tuple [.int .i64 r.2.1, .err 108 r.2.2]) (AMem.wth m [(x, cObj d tb ob fb r.1.1), (d, dObj kb nb r.1.2), (tb, tObj r.1.1.things), (ob, oObj r.1.1.tokens), (fb, fObj r.1.1.fails)])) :
    ACalls Try.prog 48 [.ptr ⟨x, 0, none⟩, .str token, .str kind, valTop v] (AMem.wth m [(x, cObj d tb ob fb c), (d, dObj kb nb s), (tb, tObj c.things), (ob, oObj c.tokens), (fb, fObj c.fails)]) K := by
  subst hr
  have h1 := h.st1; have h2 := h.ca1; have h3 := h.nx1; have h4 := h.tl; have h5 := h.ol; have h6 := h.okd.2; have h7 := h.nx0
  exact u_Create x d tb ob fb kb nb c s token kind v hN hkd h.st0 (by omega) (by omega) (by omega) h.ca0 (by omega) (by omega) (by omega) (by omega) (by omega) m K hK
theorem u_UpdateK (x d tb ob fb kb nb : Nat) (c : ClSt) (s : DSt) (token : Str) (id : Int) (v : Val) (n : Nat) (hN : [x, d, tb, ob, fb].Nodup) (h : TK c s n) (hn : n ≤ 1000) (m : AMem) (K : AV → AMem → Prop)
    (hK : K (.err 108 (updateR c s token id v).2) (AMem.wth m [(x, cObj d tb ob fb (updateR c s token id v).1.1), (d, dObj kb nb (updateR c s token id v).1.2), (tb, tObj (updateR c s token id v).1.1.things), (ob, oObj (updateR c s token id v).1.1.tokens), (fb, fObj (updateR c s token id v).1.1.fails)])) :
    ACalls Try.prog 50 [.ptr ⟨x, 0, none⟩, .str token, .int .i64 id, valTop v] (AMem.wth m [(x, cObj d tb ob fb c), (d, dObj kb nb s), (tb, tObj c.things), (ob, oObj c.tokens), (fb, fObj c.fails)]) K := by
  have h1 := h.st1; have h2 := h.ca1; have h3 := h.nx1; have h4 := h.tl; have h5 := h.ol; have h6 := h.okd.2; have h7 := h.nx0
  exact u_Update x d tb ob fb kb nb c s token id v hN h.st0 (by omega) (by omega) (by omega) h.ca0 (by omega) (by omega) (by omega) (by omega) (by omega) m K hK
theorem u_DeleteK (x d tb ob fb kb nb : Nat) (c : ClSt) (s : DSt) (token : Str) (id : Int) (n : Nat) (hN : [x, d, tb, ob, fb].Nodup) (h : TK c s n) (hn : n ≤ 1000) (m : AMem) (K : AV → AMem → Prop)
    (hK : K (.err 108 (deleteR c s token id).2) (AMem.wth m [(x, cObj d tb ob fb (deleteR c s token id).1.1), (d, dObj kb nb (deleteR c s token id).1.2), (tb, tObj (deleteR c s token id).1.1.things), (ob, oObj (deleteR c s token id).1.1.tokens), (fb, fObj (deleteR c s token id).1.1.fails)])) :
    ACalls Try.prog 51 [.ptr ⟨x, 0, none⟩, .str token, .int .i64 id] (AMem.wth m [(x, cObj d tb ob fb c), (d, dObj kb nb s), (tb, tObj c.things), (ob, oObj c.tokens), (fb, fObj c.fails)]) K := by
  have h1 := h.st1; have h2 := h.ca1; have h3 := h.nx1; have h4 := h.tl; have h5 := h.ol; have h6 := h.okd.2; have h7 := h.nx0
  exact u_Delete x d tb ob fb kb nb c s token id hN h.st0 (by omega) (by omega) (by omega) h.ca0 (by omega) (by omega) (by omega) (by omega) (by omega) m K hK
theorem u_AllK (x d tb ob fb : Nat) (c : ClSt) (s : DSt) (n : Nat) (l : List Thg) (hl : allT c = l) (hN : [x, tb].Nodup) (h : TK c s n) (hn : n ≤ 1000) (m : AMem) (K : AV → AMem → Prop) (hK : K (.slice false (l.map thgAV)) (AMem.wth m [(x, cObj d tb ob fb c), (tb, tObj c.things)])) :
    ACalls Try.prog 62 [.ptr ⟨x, 0, none⟩] (AMem.wth m [(x, cObj d tb ob fb c), (tb, tObj c.things)]) K := by
  subst hl
  have h4 := h.tl; have h3 := h.nx1
  exact u_All x d tb ob fb c hN (by omega) h.nd (fun p hp => by have q := h.ids p hp; exact ⟨q.1, ⟨q.2.1.1, by omega⟩, q.2.2⟩) m K hK
theorem Twice.back {c : ClSt} {s : DSt} {r1 r2 : (ClSt × DSt) × Int} {n N : Nat} {last : Int} (h : Twice c s r1 r2 n) (hl : 1 ≤ last ∧ last < c.next) (hm : n + 2 ≤ N) : TK r2.1.1 r2.1.2 N ∧ 1 ≤ last ∧ last < r2.1.1.next :=
  ⟨h.k2.mono hm, hl.1, by have := h.m1; have := h.m2; omega⟩
theorem Twice2.back {c : ClSt} {s : DSt} {r1 r2 : (ClSt × DSt) × (Int × Int)} {n N : Nat} {last : Int} (h : Twice2 c s r1 r2 n) (hl : 1 ≤ last ∧ last < c.next) (hm : n + 2 ≤ N) : TK r2.1.1 r2.1.2 N ∧ 1 ≤ last ∧ last < r2.1.1.next :=
  ⟨h.k2.mono hm, hl.1, by have := h.m1; have := h.m2; omega⟩
theorem Twice2.new {c : ClSt} {s : DSt} {r1 r2 : (ClSt × DSt) × (Int × Int)} {n : Nat} (h : Twice2 c s r1 r2 n) (hc : (r1.2.2 == 0) = true) (hl : ((allT c).length : Int) < (allT r1.1.1).length) : r1.2.1 = c.next ∧ r1.1.1.next = c.next + 1 := by
  rw [allT_len, allT_len] at hl
  exact h.nw (eq_of_beq hc) (by omega)
theorem Twice2.back2 {c : ClSt} {s : DSt} {r1 r2 : (ClSt × DSt) × (Int × Int)} {n N : Nat} {last : Int} (h : Twice2 c s r1 r2 n) (hc : (r1.2.2 == 0) = true) (hln : ((allT c).length : Int) < (allT r1.1.1).length) (hl : 1 ≤ last ∧ last < c.next) (hm : n + 2 ≤ N) : TK r2.1.1 r2.1.2 N ∧ 1 ≤ r1.2.1 ∧ r1.2.1 < r2.1.1.next := by
  have q := h.new hc hln
  have := h.m2
  exact ⟨h.k2.mono hm, by omega, by omega⟩
theorem casesB {p : Prop} (b : Bool) (h1 : b = true → p) (h2 : b = false → p) : p := by
  cases q : b
  · exact h2 q
  · exact h1 q
def actObj (x : ActT) : AObj := .cells [.str x.kind, .str x.s, .str x.t, .int .i64 x.a, .int .i64 x.b, .int .i64 x.v.kind, .int .i64 x.v.n, .str x.v.s, .slice false (x.v.l.map valIn), .slice false (x.v.f.map fldIn), .slice false (x.names.map strAV)]

set_option maxHeartbeats 16000000 in
theorem u_TopToken (l : List ActT)  (m : AMem)  (K : AV → AMem → Prop) (hK : K (.bool true) m) : ACalls Try.prog 8 [.slice false (l.map actAV)] m K := by
 refine acalls_enter Try.func8 rfl (by decide) (Nat.le_of_ble_eq_true rfl) ?_
 show AWP _ _ _ _ [(0, .slice false (l.map actAV))] m
 refine awp_reg2_seq [] [0] (by decide) ?_
 intro K1 hK1
 refine ⟨trivial, ?_⟩
 show K1 [(0, .slice false (l.map actAV))] m
 refine hK1 _ _ ?_; clear hK1 K1
 refine awp_reg2_seq [] [0, 3] (by decide) ?_
 intro K1 hK1
 refine u_New0 _ _ ?_
 intro b1 b2 b3 hqb1 hb1 hb2 hb3
 have hFb1 : m b1 = none := wth_none (m := m) (L := []) hb1
 have hFb2 : m b2 = none := wth_none (m := m) (L := []) hb2
 have hFb3 : m b3 = none := wth_none (m := m) (L := []) hb3
 have hNb1 : ([b1, b2, b3] : List Nat).Nodup := wth_news (m := m) (L := []) hqb1 (by simp only [List.forall_mem_cons]; exact ⟨hb1, hb2, hb3, fun _ h => by cases h⟩) List.nodup_nil
 show aopsR _ _ _ _ _ _ (AMem.wth m [(b1, .cells [.map b3, .map b2, .slice true (s0.wait.map chgAV), .int .i64 s0.fuse, .bool s0.down, .int .i64 s0.steps]), (b2, .map (List.map (mapAV strAV strAV) s0.now)), (b3, .map (List.map (mapAV strAV strAV) s0.kept))])
 refine ⟨trivial, ?_⟩
 show K1 [(0, .slice false (l.map actAV)), (3, .ptr ⟨b1, 0, none⟩)] (AMem.wth m [(b1, .cells [.map b3, .map b2, .slice true (s0.wait.map chgAV), .int .i64 s0.fuse, .bool s0.down, .int .i64 s0.steps]), (b2, .map (List.map (mapAV strAV strAV) s0.now)), (b3, .map (List.map (mapAV strAV strAV) s0.kept))])
 refine hK1 _ _ ?_; clear hK1 K1
 have hNd1 : ([b1] : List Nat).Nodup := drop_nodup (L := [(b1, .cells [.map b3, .map b2, .slice true (s0.wait.map chgAV), .int .i64 s0.fuse, .bool s0.down, .int .i64 s0.steps]), (b2, .map (List.map (mapAV strAV strAV) s0.now)), (b3, .map (List.map (mapAV strAV strAV) s0.kept))]) hNb1 (pick_perm [1, 1] _)
 refine awp_dropP [(b2, .map (List.map (mapAV strAV strAV) s0.now)), (b3, .map (List.map (mapAV strAV strAV) s0.kept))] [(b1, .cells [.map b3, .map b2, .slice true (s0.wait.map chgAV), .int .i64 s0.fuse, .bool s0.down, .int .i64 s0.steps])] hNb1 (pick_perm [1, 1] _) (by simp only [List.map_cons, List.map_nil, List.forall_mem_cons]; exact ⟨hFb2, hFb3, fun _ h => by cases h⟩) ?_
 refine awp_reg2_seq [] [0, 3, 4, 5] (by decide) ?_
 intro K1 hK1
 refine ⟨trivial, ?_⟩
 refine u_CNew b1 20 (by decide) (by decide) _ _ ?_
 intro b4 b5 b6 b7 hqb4 hb4 hb5 hb6 hb7
 have hFb4 : m b4 = none := wth_none hb4
 have hFb5 : m b5 = none := wth_none hb5
 have hFb6 : m b6 = none := wth_none hb6
 have hFb7 : m b7 = none := wth_none hb7
 have hNb4 : ([b4, b5, b6, b7, b1] : List Nat).Nodup := wth_news (m := m) (L := [(b1, .cells [.map b3, .map b2, .slice true (s0.wait.map chgAV), .int .i64 s0.fuse, .bool s0.down, .int .i64 s0.steps])]) hqb4 (by simp only [List.forall_mem_cons]; exact ⟨hb4, hb5, hb6, hb7, fun _ h => by cases h⟩) hNd1
 show aopsR _ _ _ _ _ _ (AMem.wth m [(b4, cObj b1 b7 b6 b5 cZ), (b5, fObj cZ.fails), (b6, oObj cZ.tokens), (b7, tObj cZ.things), (b1, .cells [.map b3, .map b2, .slice true (s0.wait.map chgAV), .int .i64 s0.fuse, .bool s0.down, .int .i64 s0.steps])])
 refine ⟨trivial, (Nat.le_of_ble_eq_true rfl), (Nat.le_of_ble_eq_true rfl), trivial, trivial, ?_⟩
 show K1 [(0, .slice false (l.map actAV)), (3, .ptr ⟨b1, 0, none⟩), (4, .ptr ⟨b4, 0, none⟩), (5, .err 108 0)] (AMem.wth m [(b4, cObj b1 b7 b6 b5 cZ), (b5, fObj cZ.fails), (b6, oObj cZ.tokens), (b7, tObj cZ.things), (b1, .cells [.map b3, .map b2, .slice true (s0.wait.map chgAV), .int .i64 s0.fuse, .bool s0.down, .int .i64 s0.steps])])
 refine hK1 _ _ ?_; clear hK1 K1
 refine awp_seq_k ?_; intro K2 hK2
 refine awp_reg2_seq [] [0, 4, 34] (by decide) ?_
 intro K1 hK1
 suffices key : K1 [(0, .slice false (l.map actAV)), (4, .ptr ⟨b4, 0, none⟩), (34, .bool false)] (AMem.wth m [(b4, cObj b1 b7 b6 b5 cZ), (b5, fObj cZ.fails), (b6, oObj cZ.tokens), (b7, tObj cZ.things), (b1, .cells [.map b3, .map b2, .slice true (s0.wait.map chgAV), .int .i64 s0.fuse, .bool s0.down, .int .i64 s0.steps])]) by
  refine ⟨trivial, rfl, trivial, trivial, ⟨rfl, rfl⟩, ?_⟩
  refine ⟨trivial, trivial, rfl, ?_⟩
  exact key
 refine hK1 _ _ ?_; clear hK1 K1
 refine awp_cond rfl rfl (fun hcz => ?_) (fun hcz => ?_)
 ·
  cases hcz
 clear hcz
 refine awp_skip ?_
 refine hK2 _ _ ?_; clear hK2
 refine awp_reg2_seq [] [0, 4, 6, 7] (by decide) ?_
 intro K1 hK1
 refine ⟨trivial, ⟨rfl, by simp only [List.forall_mem_cons]; exact ⟨rfl, rfl, rfl, rfl, rfl, fun _ h => by cases h⟩, by simp only [List.forall_mem_cons]; exact ⟨rfl, fun _ h => by cases h⟩⟩, ?_⟩
 refine ar_mem (wth_split hNb4 (pick_perm [0, 3, 2, 1, 0] _)) ?_
 refine u_CreateK b4 b1 b7 b6 b5 b3 b2 cZ s0 ([102, 105, 114, 115, 116] : List UInt8) ([118, 109] : List UInt8) vZ 0 (rZ.1, (1, 0)) (Prod.ext rfl (congrArg Prod.snd rZ_eq)) (by have hQ := hNb4; simp at hQ ⊢; omega) TK.start (by decide) (by decide) _ _ ?_
 show aopsR _ _ _ _ _ _ (AMem.wth (AMem.wth m []) [(b4, cObj b1 b7 b6 b5 c1), (b1, .cells [.map b3, .map b2, .slice true (s1.wait.map chgAV), .int .i64 s1.fuse, .bool s1.down, .int .i64 s1.steps]), (b7, tObj c1.things), (b6, oObj c1.tokens), (b5, fObj c1.fails)])
 refine ar_mem (wth_split (m := m) (L := [(b4, cObj b1 b7 b6 b5 c1), (b5, fObj c1.fails), (b6, oObj c1.tokens), (b7, tObj c1.things), (b1, .cells [.map b3, .map b2, .slice true (s1.wait.map chgAV), .int .i64 s1.fuse, .bool s1.down, .int .i64 s1.steps])]) hNb4 (pick_perm [0, 3, 2, 1, 0] _)).symm ?_
 refine ⟨trivial, (Nat.le_of_ble_eq_true rfl), (Nat.le_of_ble_eq_true rfl), trivial, trivial, ?_⟩
 show K1 [(0, .slice false (l.map actAV)), (4, .ptr ⟨b4, 0, none⟩), (6, .int .i64 1), (7, .err 108 0)] (AMem.wth m [(b4, cObj b1 b7 b6 b5 c1), (b5, fObj c1.fails), (b6, oObj c1.tokens), (b7, tObj c1.things), (b1, .cells [.map b3, .map b2, .slice true (s1.wait.map chgAV), .int .i64 s1.fuse, .bool s1.down, .int .i64 s1.steps])])
 refine hK1 _ _ ?_; clear hK1 K1
 refine awp_seq_k ?_; intro K3 hK3
 refine awp_reg2_seq [] [0, 4, 46] (by decide) ?_
 intro K1 hK1
 suffices key : K1 [(0, .slice false (l.map actAV)), (4, .ptr ⟨b4, 0, none⟩), (46, .bool false)] (AMem.wth m [(b4, cObj b1 b7 b6 b5 c1), (b5, fObj c1.fails), (b6, oObj c1.tokens), (b7, tObj c1.things), (b1, .cells [.map b3, .map b2, .slice true (s1.wait.map chgAV), .int .i64 s1.fuse, .bool s1.down, .int .i64 s1.steps])]) by
  refine ⟨trivial, ⟨rfl, rfl⟩, trivial, trivial, trivial, ?_⟩
  refine ar_top 45 (.bool false) (congrArg AV.bool (by simp)) ?_
  exact key
 refine hK1 _ _ ?_; clear hK1 K1
 refine awp_cond rfl rfl (fun hcz => ?_) (fun hcz => ?_)
 ·
  cases hcz
 clear hcz
 refine awp_skip ?_
 refine hK3 _ _ ?_; clear hK3
 refine awp_seq_k ?_; intro K4 hK4
 refine awp_reg2_seq [] [0, 4, 49] (by decide) ?_
 intro K1 hK1
 refine ⟨trivial, ?_⟩
 refine u_LightActs l 60 9000 _ _ ?_
 refine ⟨trivial, ?_⟩
 show K1 [(0, .slice false (l.map actAV)), (4, .ptr ⟨b4, 0, none⟩), (49, .bool (!(lightA l 60 9000)))] (AMem.wth m [(b4, cObj b1 b7 b6 b5 c1), (b5, fObj c1.fails), (b6, oObj c1.tokens), (b7, tObj c1.things), (b1, .cells [.map b3, .map b2, .slice true (s1.wait.map chgAV), .int .i64 s1.fuse, .bool s1.down, .int .i64 s1.steps])])
 refine hK1 _ _ ?_; clear hK1 K1
 refine awp_cond rfl rfl (fun h1 => ?_) (fun h1 => ?_)
 ·
  replace h1 : lightA l 60 9000 = false := (bnT h1)
  refine awp_reg2_seq [] [2] (by decide) ?_
  intro K1 hK1
  refine ⟨trivial, ?_⟩
  show K1 [(2, .bool true)] (AMem.wth m [(b4, cObj b1 b7 b6 b5 c1), (b5, fObj c1.fails), (b6, oObj c1.tokens), (b7, tObj c1.things), (b1, .cells [.map b3, .map b2, .slice true (s1.wait.map chgAV), .int .i64 s1.fuse, .bool s1.down, .int .i64 s1.steps])])
  refine hK1 _ _ ?_; clear hK1 K1
  refine awp_ret ?_
  refine ⟨trivial, m, (wth_sub2 (m := m) [(b4, cObj b1 b7 b6 b5 c1), (b5, fObj c1.fails), (b6, oObj c1.tokens), (b7, tObj c1.things), (b1, .cells [.map b3, .map b2, .slice true (s1.wait.map chgAV), .int .i64 s1.fuse, .bool s1.down, .int .i64 s1.steps])] [] hNb4 (by simp only [List.map_cons, List.map_nil, List.forall_mem_cons]; exact ⟨hFb4, hFb5, hFb6, hFb7, hFb1, fun _ h => by cases h⟩)), ?_⟩
  show K (.bool true) m
 
  first | exact hK | (exfalso; have q := hT.new hc (by assumption); have := hI.2.2.2.2; omega) | (exfalso; have q0 := eq_of_beq hc; have q := hT.id q0; simp_all; done) | (exfalso; have q0 := eq_of_beq hc; simp_all; done) | (exfalso; have q0 := ne_of_beq_false hc; simp_all; done)
 replace h1 : lightA l 60 9000 = true := (bnF h1)
 have hlen := lightA_len h1
 refine awp_bdL 0 (o := false) (l := l.map actAV) rfl (fun hbl => ?_)
 have hbs := acts_bdC hbl
 refine awp_skip ?_
 refine hK4 _ _ ?_; clear hK4
 refine awp_reg2_seq [] [0, 4, 8] (by decide) ?_
 intro K1 hK1
 refine ⟨trivial, ?_⟩
 show K1 [(0, .slice false (l.map actAV)), (4, .ptr ⟨b4, 0, none⟩), (8, .int .i64 1)] (AMem.wth m [(b4, cObj b1 b7 b6 b5 c1), (b5, fObj c1.fails), (b6, oObj c1.tokens), (b7, tObj c1.things), (b1, .cells [.map b3, .map b2, .slice true (s1.wait.map chgAV), .int .i64 s1.fuse, .bool s1.down, .int .i64 s1.steps])])
 refine hK1 _ _ ?_; clear hK1 K1
 refine awp_seq_k ?_; intro K5 hK5
 refine awp_reg2_seq [] [0, 4, 8, 9] (by decide) ?_
 intro K1 hK1
 refine ⟨trivial, ?_⟩
 show K1 [(0, .slice false (l.map actAV)), (4, .ptr ⟨b4, 0, none⟩), (8, .int .i64 1), (9, .int .i64 0)] (AMem.wth m [(b4, cObj b1 b7 b6 b5 c1), (b5, fObj c1.fails), (b6, oObj c1.tokens), (b7, tObj c1.things), (b1, .cells [.map b3, .map b2, .slice true (s1.wait.map chgAV), .int .i64 s1.fuse, .bool s1.down, .int .i64 s1.steps])])
 refine hK1 _ _ ?_; clear hK1 K1
 refine awp_block ?_
 refine awp_keep [0, 4, 8, 9] (by decide) ?_
 refine awp_loop_st (σ := Int × Int × ClSt × DSt) (fun ⟨last, i, c, s⟩ => [(0, .slice false (l.map actAV)), (4, .ptr ⟨b4, 0, none⟩), (8, .int .i64 last), (9, .int .i64 i)]) (fun ⟨last, i, c, s⟩ => (AMem.wth m [(b4, cObj b1 b7 b6 b5 c), (b5, fObj c.fails), (b6, oObj c.tokens), (b7, tObj c.things), (b1, .cells [.map b3, .map b2, .slice true (s.wait.map chgAV), .int .i64 s.fuse, .bool s.down, .int .i64 s.steps])])) (fun ⟨last, i, c, s⟩ => 0 ≤ i ∧ i ≤ l.length ∧ TK c s (2 * i.toNat + 1) ∧ 1 ≤ last ∧ last < c.next) (fun ⟨last, i, c, s⟩ => l.length - i.toNat) (1, 0, c1, s1) rfl rfl ?_ ?_
 ·
  show 0 ≤ ((0 : Int)) ∧ ((0 : Int)) ≤ l.length ∧ TK ((c1 : ClSt)) ((s1 : DSt)) (2 * ((0 : Int)).toNat + 1) ∧ 1 ≤ ((1 : Int)) ∧ ((1 : Int)) < ((c1 : ClSt)).next
  exact ⟨by omega, by omega, TK.one.1, by decide, by rw [TK.one.2]; decide⟩
 rintro ⟨last, i, c, s⟩ hI
 replace hI : 0 ≤ i ∧ i ≤ l.length ∧ TK c s (2 * i.toNat + 1) ∧ 1 ≤ last ∧ last < c.next := hI
 show AWP _ _ _ _ [(0, .slice false (l.map actAV)), (4, .ptr ⟨b4, 0, none⟩), (8, .int .i64 last), (9, .int .i64 i)] (AMem.wth m [(b4, cObj b1 b7 b6 b5 c), (b5, fObj c.fails), (b6, oObj c.tokens), (b7, tObj c.things), (b1, .cells [.map b3, .map b2, .slice true (s.wait.map chgAV), .int .i64 s.fuse, .bool s.down, .int .i64 s.steps])])
 refine awp_seq_k ?_; intro K6 hK6
 refine awp_reg2_seq [] [0, 4, 8, 9, 53] (by decide) ?_
 intro K1 hK1
 refine ⟨trivial, trivial, ?_⟩
 refine ar_len rfl actAV l rfl rfl rfl ?_
 refine ⟨trivial, ?_⟩
 show K1 [(0, .slice false (l.map actAV)), (4, .ptr ⟨b4, 0, none⟩), (8, .int .i64 last), (9, .int .i64 i), (53, .bool (decide (i < (l.length : Int))))] (AMem.wth m [(b4, cObj b1 b7 b6 b5 c), (b5, fObj c.fails), (b6, oObj c.tokens), (b7, tObj c.things), (b1, .cells [.map b3, .map b2, .slice true (s.wait.map chgAV), .int .i64 s.fuse, .bool s.down, .int .i64 s.steps])])
 refine hK1 _ _ ?_; clear hK1 K1
 refine awp_cond rfl rfl (fun h2 => ?_) (fun h2 => ?_)
 ·
  replace h2 : i < (l.length : Int) := (of_decide_eq_true h2)
  refine awp_skip ?_
  refine hK6 _ _ ?_; clear hK6
  refine awp_seq_k ?_; intro K7 hK7
  refine awp_block ?_
  refine awp_reg2_seq [] [0, 4, 8, 9, 10] (by decide) ?_
  intro K1 hK1
  refine ⟨trivial, trivial, ?_⟩
  refine ar_index rfl actAV l i rfl rfl rfl rfl rfl (by decide) (fun _ => rfl) (by omega) (by omega) ?_
  refine ⟨(apartOk_agg rfl rfl (Nat.le_of_ble_eq_true rfl)), ?_⟩
  refine ar_alloc rfl (z := .agg [.str ([]), .str ([]), .str ([]), .int .i64 0, .int .i64 0, .int .i64 0, .int .i64 0, .str ([]), .slice true [], .slice true [], .slice true []]) rfl rfl ?_
  intro b8 hb8
  have hFb8 : m b8 = none := wth_none hb8
  have hNb8 : ([b8, b4, b5, b6, b7, b1] : List Nat).Nodup := wth_nodup hb8 hNb4
  refine ar_storep rfl 0 (v := actAV (gI l i)) (l' := [.str ((gI l i).kind), .str ((gI l i).s), .str ((gI l i).t), .int .i64 ((gI l i).a), .int .i64 ((gI l i).b), .int .i64 (((gI l i).v).kind), .int .i64 (((gI l i).v).n), .str (((gI l i).v).s), .slice false ((((gI l i).v).l).map valIn), .slice false ((((gI l i).v).f).map fldIn), .slice false (((gI l i).names).map strAV)]) rfl (by rfl) hNb8 rfl rfl rfl rfl rfl (Nat.le_of_ble_eq_true rfl) rfl ?_
  show K1 [(0, .slice false (l.map actAV)), (4, .ptr ⟨b4, 0, none⟩), (8, .int .i64 last), (9, .int .i64 i), (10, .ptr ⟨b8, 0, none⟩)] (AMem.wth m [(b8, actObj (gI l i)), (b4, cObj b1 b7 b6 b5 c), (b5, fObj c.fails), (b6, oObj c.tokens), (b7, tObj c.things), (b1, .cells [.map b3, .map b2, .slice true (s.wait.map chgAV), .int .i64 s.fuse, .bool s.down, .int .i64 s.steps])])
  refine hK1 _ _ ?_; clear hK1 K1
  refine awp_reg2_seq [] [0, 4, 8, 9, 10, 11] (by decide) ?_
  intro K1 hK1
  refine ⟨trivial, ?_⟩
  refine ar_mem (wth_split hNb8 (pick_perm [1, 3] _)) ?_
  refine u_AllK b4 b1 b7 b6 b5 c s _ (allT c) rfl (by have hQ := hNb8; simp at hQ ⊢; omega) hI.2.2.1 (by omega) _ _ ?_
  show aopsR _ _ _ _ _ _ (AMem.wth (AMem.wth m [(b8, actObj (gI l i)), (b5, fObj c.fails), (b6, oObj c.tokens), (b1, .cells [.map b3, .map b2, .slice true (s.wait.map chgAV), .int .i64 s.fuse, .bool s.down, .int .i64 s.steps])]) [(b4, cObj b1 b7 b6 b5 c), (b7, tObj c.things)])
  refine ar_mem (wth_split (m := m) (L := [(b8, actObj (gI l i)), (b4, cObj b1 b7 b6 b5 c), (b5, fObj c.fails), (b6, oObj c.tokens), (b7, tObj c.things), (b1, .cells [.map b3, .map b2, .slice true (s.wait.map chgAV), .int .i64 s.fuse, .bool s.down, .int .i64 s.steps])]) hNb8 (pick_perm [1, 3] _)).symm ?_
  refine ⟨trivial, ?_⟩
  show K1 [(0, .slice false (l.map actAV)), (4, .ptr ⟨b4, 0, none⟩), (8, .int .i64 last), (9, .int .i64 i), (10, .ptr ⟨b8, 0, none⟩), (11, .slice false ((allT c).map thgAV))] (AMem.wth m [(b8, actObj (gI l i)), (b4, cObj b1 b7 b6 b5 c), (b5, fObj c.fails), (b6, oObj c.tokens), (b7, tObj c.things), (b1, .cells [.map b3, .map b2, .slice true (s.wait.map chgAV), .int .i64 s.fuse, .bool s.down, .int .i64 s.steps])])
  refine hK1 _ _ ?_; clear hK1 K1
  refine awp_reg2_seq [] [0, 4, 8, 9, 10, 11, 12] (by decide) ?_
  intro K1 hK1
  refine ⟨trivial, trivial, ?_⟩
  show K1 [(0, .slice false (l.map actAV)), (4, .ptr ⟨b4, 0, none⟩), (8, .int .i64 last), (9, .int .i64 i), (10, .ptr ⟨b8, 0, none⟩), (11, .slice false ((allT c).map thgAV)), (12, .int .i64 0)] (AMem.wth m [(b8, actObj (gI l i)), (b4, cObj b1 b7 b6 b5 c), (b5, fObj c.fails), (b6, oObj c.tokens), (b7, tObj c.things), (b1, .cells [.map b3, .map b2, .slice true (s.wait.map chgAV), .int .i64 s.fuse, .bool s.down, .int .i64 s.steps])])
  refine hK1 _ _ ?_; clear hK1 K1
  refine awp_reg2_seq [] [0, 4, 8, 9, 10, 11, 12, 14] (by decide) ?_
  intro K1 hK1
  refine ⟨trivial, trivial, ?_⟩
  show K1 [(0, .slice false (l.map actAV)), (4, .ptr ⟨b4, 0, none⟩), (8, .int .i64 last), (9, .int .i64 i), (10, .ptr ⟨b8, 0, none⟩), (11, .slice false ((allT c).map thgAV)), (12, .int .i64 0), (14, .int .i64 0)] (AMem.wth m [(b8, actObj (gI l i)), (b4, cObj b1 b7 b6 b5 c), (b5, fObj c.fails), (b6, oObj c.tokens), (b7, tObj c.things), (b1, .cells [.map b3, .map b2, .slice true (s.wait.map chgAV), .int .i64 s.fuse, .bool s.down, .int .i64 s.steps])])
  refine hK1 _ _ ?_; clear hK1 K1
  refine awp_seq_k ?_; intro K8 hK8
  refine awp_reg2_seq [] [0, 4, 8, 9, 10, 11, 12, 14, 63] (by decide) ?_
  intro K1 hK1
  refine ⟨⟨rfl, by decide⟩, ?_⟩
  refine ar_loadp rfl (v := .str ((gI l i).kind)) rfl (wth_get 0 hNb8 rfl) rfl (apartOk_one rfl rfl (Nat.le_of_ble_eq_true rfl)) rfl ?_
  show K1 [(0, .slice false (l.map actAV)), (4, .ptr ⟨b4, 0, none⟩), (8, .int .i64 last), (9, .int .i64 i), (10, .ptr ⟨b8, 0, none⟩), (11, .slice false ((allT c).map thgAV)), (12, .int .i64 0), (14, .int .i64 0), (63, .str ((gI l i).kind))] (AMem.wth m [(b8, actObj (gI l i)), (b4, cObj b1 b7 b6 b5 c), (b5, fObj c.fails), (b6, oObj c.tokens), (b7, tObj c.things), (b1, .cells [.map b3, .map b2, .slice true (s.wait.map chgAV), .int .i64 s.fuse, .bool s.down, .int .i64 s.steps])])
  refine hK1 _ _ ?_; clear hK1 K1
  refine awp_block ?_
  refine awp_reg2_seq [] [0, 4, 8, 9, 10, 11, 12, 14, 63, 64] (by decide) ?_
  intro K1 hK1
  refine ⟨trivial, trivial, ?_⟩
  show K1 [(0, .slice false (l.map actAV)), (4, .ptr ⟨b4, 0, none⟩), (8, .int .i64 last), (9, .int .i64 i), (10, .ptr ⟨b8, 0, none⟩), (11, .slice false ((allT c).map thgAV)), (12, .int .i64 0), (14, .int .i64 0), (63, .str ((gI l i).kind)), (64, .bool (((gI l i).kind) == ([99, 114, 101, 97, 116, 101] : List UInt8)))] (AMem.wth m [(b8, actObj (gI l i)), (b4, cObj b1 b7 b6 b5 c), (b5, fObj c.fails), (b6, oObj c.tokens), (b7, tObj c.things), (b1, .cells [.map b3, .map b2, .slice true (s.wait.map chgAV), .int .i64 s.fuse, .bool s.down, .int .i64 s.steps])])
  refine hK1 _ _ ?_; clear hK1 K1
  refine awp_cond rfl rfl (fun h3 => ?_) (fun h3 => ?_)
  ·
   replace h3 : (gI l i).kind = ([99, 114, 101, 97, 116, 101] : List UInt8) := (eq_of_beq h3)
   refine awp_reg2_seq [] [0, 4, 8, 9, 10, 11, 12, 13] (by decide) ?_
   intro K1 hK1
   refine ⟨trivial, ⟨rfl, by decide⟩, ?_⟩
   refine ar_loadp rfl (v := .str ((gI l i).s)) rfl (wth_get 0 hNb8 rfl) rfl (apartOk_one rfl rfl (Nat.le_of_ble_eq_true rfl)) rfl ?_
   refine ⟨⟨rfl, by decide⟩, ?_⟩
   refine ar_loadp rfl (v := .str ((gI l i).t)) rfl (wth_get 0 hNb8 rfl) rfl (apartOk_one rfl rfl (Nat.le_of_ble_eq_true rfl)) rfl ?_
   refine ⟨⟨rfl, by decide⟩, ?_⟩
   refine ar_loadp rfl (v := .agg [.int .i64 (((gI l i).v).kind), .int .i64 (((gI l i).v).n), .str (((gI l i).v).s), .slice false ((((gI l i).v).l).map valIn), .slice false ((((gI l i).v).f).map fldIn)]) rfl (wth_get 0 hNb8 rfl) rfl (apartOk_agg rfl rfl (Nat.le_of_ble_eq_true rfl)) rfl ?_
   refine ar_mem (wth_split hNb8 (pick_perm [1, 4, 3, 2, 1] _)) ?_
   refine u_CreateK b4 b1 b7 b6 b5 b3 b2 c s ((gI l i).s) ((gI l i).t) ((gI l i).v) _ _ rfl (by have hQ := hNb8; simp at hQ ⊢; omega) hI.2.2.1 (by omega) (hbs _ (gI_mem hI.1 (by assumption))).2.1 _ _ ?_
   show aopsR _ _ _ _ _ _ (AMem.wth (AMem.wth m [(b8, actObj (gI l i))]) [(b4, cObj b1 b7 b6 b5 ((createR c s ((gI l i).s) ((gI l i).t) ((gI l i).v)).1.1)), (b1, .cells [.map b3, .map b2, .slice true ((((createR c s ((gI l i).s) ((gI l i).t) ((gI l i).v)).1.2).wait).map chgAV), .int .i64 (((createR c s ((gI l i).s) ((gI l i).t) ((gI l i).v)).1.2).fuse), .bool (((createR c s ((gI l i).s) ((gI l i).t) ((gI l i).v)).1.2).down), .int .i64 (((createR c s ((gI l i).s) ((gI l i).t) ((gI l i).v)).1.2).steps)]), (b7, tObj ((createR c s ((gI l i).s) ((gI l i).t) ((gI l i).v)).1.1.things)), (b6, oObj ((createR c s ((gI l i).s) ((gI l i).t) ((gI l i).v)).1.1.tokens)), (b5, fObj ((createR c s ((gI l i).s) ((gI l i).t) ((gI l i).v)).1.1.fails))])
   refine ar_mem (wth_split (m := m) (L := [(b8, actObj (gI l i)), (b4, cObj b1 b7 b6 b5 ((createR c s ((gI l i).s) ((gI l i).t) ((gI l i).v)).1.1)), (b5, fObj ((createR c s ((gI l i).s) ((gI l i).t) ((gI l i).v)).1.1.fails)), (b6, oObj ((createR c s ((gI l i).s) ((gI l i).t) ((gI l i).v)).1.1.tokens)), (b7, tObj ((createR c s ((gI l i).s) ((gI l i).t) ((gI l i).v)).1.1.things)), (b1, .cells [.map b3, .map b2, .slice true ((((createR c s ((gI l i).s) ((gI l i).t) ((gI l i).v)).1.2).wait).map chgAV), .int .i64 (((createR c s ((gI l i).s) ((gI l i).t) ((gI l i).v)).1.2).fuse), .bool (((createR c s ((gI l i).s) ((gI l i).t) ((gI l i).v)).1.2).down), .int .i64 (((createR c s ((gI l i).s) ((gI l i).t) ((gI l i).v)).1.2).steps)])]) hNb8 (pick_perm [1, 4, 3, 2, 1] _)).symm ?_
   refine ⟨trivial, (Nat.le_of_ble_eq_true rfl), (Nat.le_of_ble_eq_true rfl), trivial, trivial, ?_⟩
   show K1 [(0, .slice false (l.map actAV)), (4, .ptr ⟨b4, 0, none⟩), (8, .int .i64 last), (9, .int .i64 i), (10, .ptr ⟨b8, 0, none⟩), (11, .slice false ((allT c).map thgAV)), (12, .int .i64 ((createR c s ((gI l i).s) ((gI l i).t) ((gI l i).v)).2.1)), (13, .err 108 ((createR c s ((gI l i).s) ((gI l i).t) ((gI l i).v)).2.2))] (AMem.wth m [(b8, actObj (gI l i)), (b4, cObj b1 b7 b6 b5 ((createR c s ((gI l i).s) ((gI l i).t) ((gI l i).v)).1.1)), (b5, fObj ((createR c s ((gI l i).s) ((gI l i).t) ((gI l i).v)).1.1.fails)), (b6, oObj ((createR c s ((gI l i).s) ((gI l i).t) ((gI l i).v)).1.1.tokens)), (b7, tObj ((createR c s ((gI l i).s) ((gI l i).t) ((gI l i).v)).1.1.things)), (b1, .cells [.map b3, .map b2, .slice true ((((createR c s ((gI l i).s) ((gI l i).t) ((gI l i).v)).1.2).wait).map chgAV), .int .i64 (((createR c s ((gI l i).s) ((gI l i).t) ((gI l i).v)).1.2).fuse), .bool (((createR c s ((gI l i).s) ((gI l i).t) ((gI l i).v)).1.2).down), .int .i64 (((createR c s ((gI l i).s) ((gI l i).t) ((gI l i).v)).1.2).steps)])])
   refine hK1 _ _ ?_; clear hK1 K1
   have hT := TK.create2 (token := (gI l i).s) (kind := (gI l i).t) (v := (gI l i).v) hI.2.2.1
   generalize (createR c s ((gI l i).s) ((gI l i).t) ((gI l i).v)) = r1 at hT ⊢
   refine awp_reg2_seq [] [0, 4, 8, 9, 10, 11, 12, 13, 16] (by decide) ?_
   intro K1 hK1
   refine ⟨trivial, ?_⟩
   refine ar_mem (wth_split hNb8 (pick_perm [1, 3] _)) ?_
   refine u_AllK b4 b1 b7 b6 b5 r1.1.1 r1.1.2 _ (allT r1.1.1) rfl (by have hQ := hNb8; simp at hQ ⊢; omega) hT.k1 (by omega) _ _ ?_
   show aopsR _ _ _ _ _ _ (AMem.wth (AMem.wth m [(b8, actObj (gI l i)), (b5, fObj r1.1.1.fails), (b6, oObj r1.1.1.tokens), (b1, .cells [.map b3, .map b2, .slice true (r1.1.2.wait.map chgAV), .int .i64 r1.1.2.fuse, .bool r1.1.2.down, .int .i64 r1.1.2.steps])]) [(b4, cObj b1 b7 b6 b5 r1.1.1), (b7, tObj r1.1.1.things)])
   refine ar_mem (wth_split (m := m) (L := [(b8, actObj (gI l i)), (b4, cObj b1 b7 b6 b5 r1.1.1), (b5, fObj r1.1.1.fails), (b6, oObj r1.1.1.tokens), (b7, tObj r1.1.1.things), (b1, .cells [.map b3, .map b2, .slice true (r1.1.2.wait.map chgAV), .int .i64 r1.1.2.fuse, .bool r1.1.2.down, .int .i64 r1.1.2.steps])]) hNb8 (pick_perm [1, 3] _)).symm ?_
   refine ⟨trivial, ?_⟩
   show K1 [(0, .slice false (l.map actAV)), (4, .ptr ⟨b4, 0, none⟩), (8, .int .i64 last), (9, .int .i64 i), (10, .ptr ⟨b8, 0, none⟩), (11, .slice false ((allT c).map thgAV)), (12, .int .i64 r1.2.1), (13, .err 108 r1.2.2), (16, .slice false ((allT r1.1.1).map thgAV))] (AMem.wth m [(b8, actObj (gI l i)), (b4, cObj b1 b7 b6 b5 r1.1.1), (b5, fObj r1.1.1.fails), (b6, oObj r1.1.1.tokens), (b7, tObj r1.1.1.things), (b1, .cells [.map b3, .map b2, .slice true (r1.1.2.wait.map chgAV), .int .i64 r1.1.2.fuse, .bool r1.1.2.down, .int .i64 r1.1.2.steps])])
   refine hK1 _ _ ?_; clear hK1 K1
   refine awp_reg2_seq [] [0, 4, 8, 9, 11, 12, 13, 14, 15, 16] (by decide) ?_
   intro K1 hK1
   refine ⟨trivial, ⟨rfl, by decide⟩, ?_⟩
   refine ar_loadp rfl (v := .str ((gI l i).s)) rfl (wth_get 0 hNb8 rfl) rfl (apartOk_one rfl rfl (Nat.le_of_ble_eq_true rfl)) rfl ?_
   refine ⟨⟨rfl, by decide⟩, ?_⟩
   refine ar_loadp rfl (v := .str ((gI l i).t)) rfl (wth_get 0 hNb8 rfl) rfl (apartOk_one rfl rfl (Nat.le_of_ble_eq_true rfl)) rfl ?_
   refine ⟨⟨rfl, by decide⟩, ?_⟩
   refine ar_loadp rfl (v := .agg [.int .i64 (((gI l i).v).kind), .int .i64 (((gI l i).v).n), .str (((gI l i).v).s), .slice false ((((gI l i).v).l).map valIn), .slice false ((((gI l i).v).f).map fldIn)]) rfl (wth_get 0 hNb8 rfl) rfl (apartOk_agg rfl rfl (Nat.le_of_ble_eq_true rfl)) rfl ?_
   refine ar_mem (wth_split hNb8 (pick_perm [1, 4, 3, 2, 1] _)) ?_
   refine u_CreateK b4 b1 b7 b6 b5 b3 b2 r1.1.1 r1.1.2 ((gI l i).s) ((gI l i).t) ((gI l i).v) _ _ rfl (by have hQ := hNb8; simp at hQ ⊢; omega) hT.k1 (by omega) (hbs _ (gI_mem hI.1 (by assumption))).2.1 _ _ ?_
   show aopsR _ _ _ _ _ _ (AMem.wth (AMem.wth m [(b8, actObj (gI l i))]) [(b4, cObj b1 b7 b6 b5 ((createR r1.1.1 r1.1.2 ((gI l i).s) ((gI l i).t) ((gI l i).v)).1.1)), (b1, .cells [.map b3, .map b2, .slice true ((((createR r1.1.1 r1.1.2 ((gI l i).s) ((gI l i).t) ((gI l i).v)).1.2).wait).map chgAV), .int .i64 (((createR r1.1.1 r1.1.2 ((gI l i).s) ((gI l i).t) ((gI l i).v)).1.2).fuse), .bool (((createR r1.1.1 r1.1.2 ((gI l i).s) ((gI l i).t) ((gI l i).v)).1.2).down), .int .i64 (((createR r1.1.1 r1.1.2 ((gI l i).s) ((gI l i).t) ((gI l i).v)).1.2).steps)]), (b7, tObj ((createR r1.1.1 r1.1.2 ((gI l i).s) ((gI l i).t) ((gI l i).v)).1.1.things)), (b6, oObj ((createR r1.1.1 r1.1.2 ((gI l i).s) ((gI l i).t) ((gI l i).v)).1.1.tokens)), (b5, fObj ((createR r1.1.1 r1.1.2 ((gI l i).s) ((gI l i).t) ((gI l i).v)).1.1.fails))])
   refine ar_mem (wth_split (m := m) (L := [(b8, actObj (gI l i)), (b4, cObj b1 b7 b6 b5 ((createR r1.1.1 r1.1.2 ((gI l i).s) ((gI l i).t) ((gI l i).v)).1.1)), (b5, fObj ((createR r1.1.1 r1.1.2 ((gI l i).s) ((gI l i).t) ((gI l i).v)).1.1.fails)), (b6, oObj ((createR r1.1.1 r1.1.2 ((gI l i).s) ((gI l i).t) ((gI l i).v)).1.1.tokens)), (b7, tObj ((createR r1.1.1 r1.1.2 ((gI l i).s) ((gI l i).t) ((gI l i).v)).1.1.things)), (b1, .cells [.map b3, .map b2, .slice true ((((createR r1.1.1 r1.1.2 ((gI l i).s) ((gI l i).t) ((gI l i).v)).1.2).wait).map chgAV), .int .i64 (((createR r1.1.1 r1.1.2 ((gI l i).s) ((gI l i).t) ((gI l i).v)).1.2).fuse), .bool (((createR r1.1.1 r1.1.2 ((gI l i).s) ((gI l i).t) ((gI l i).v)).1.2).down), .int .i64 (((createR r1.1.1 r1.1.2 ((gI l i).s) ((gI l i).t) ((gI l i).v)).1.2).steps)])]) hNb8 (pick_perm [1, 4, 3, 2, 1] _)).symm ?_
   refine ⟨trivial, (Nat.le_of_ble_eq_true rfl), (Nat.le_of_ble_eq_true rfl), trivial, trivial, ?_⟩
   show K1 [(0, .slice false (l.map actAV)), (4, .ptr ⟨b4, 0, none⟩), (8, .int .i64 last), (9, .int .i64 i), (11, .slice false ((allT c).map thgAV)), (12, .int .i64 r1.2.1), (13, .err 108 r1.2.2), (14, .int .i64 ((createR r1.1.1 r1.1.2 ((gI l i).s) ((gI l i).t) ((gI l i).v)).2.1)), (15, .err 108 ((createR r1.1.1 r1.1.2 ((gI l i).s) ((gI l i).t) ((gI l i).v)).2.2)), (16, .slice false ((allT r1.1.1).map thgAV))] (AMem.wth m [(b8, actObj (gI l i)), (b4, cObj b1 b7 b6 b5 ((createR r1.1.1 r1.1.2 ((gI l i).s) ((gI l i).t) ((gI l i).v)).1.1)), (b5, fObj ((createR r1.1.1 r1.1.2 ((gI l i).s) ((gI l i).t) ((gI l i).v)).1.1.fails)), (b6, oObj ((createR r1.1.1 r1.1.2 ((gI l i).s) ((gI l i).t) ((gI l i).v)).1.1.tokens)), (b7, tObj ((createR r1.1.1 r1.1.2 ((gI l i).s) ((gI l i).t) ((gI l i).v)).1.1.things)), (b1, .cells [.map b3, .map b2, .slice true ((((createR r1.1.1 r1.1.2 ((gI l i).s) ((gI l i).t) ((gI l i).v)).1.2).wait).map chgAV), .int .i64 (((createR r1.1.1 r1.1.2 ((gI l i).s) ((gI l i).t) ((gI l i).v)).1.2).fuse), .bool (((createR r1.1.1 r1.1.2 ((gI l i).s) ((gI l i).t) ((gI l i).v)).1.2).down), .int .i64 (((createR r1.1.1 r1.1.2 ((gI l i).s) ((gI l i).t) ((gI l i).v)).1.2).steps)])])
   refine hK1 _ _ ?_; clear hK1 K1
   generalize (createR r1.1.1 r1.1.2 ((gI l i).s) ((gI l i).t) ((gI l i).v)) = r2 at hT ⊢
   have hTe := hT.er
   rw [hTe]
   refine awp_seq_k ?_; intro K9 hK9
   refine casesB (r1.2.2 == 0) (fun hc => ?_) (fun hc => ?_)
   ·
    skip
    refine awp_reg2_seq [] [0, 4, 8, 9, 11, 12, 13, 14, 15, 16, 98] (by decide) ?_
    intro K1 hK1
    suffices key : K1 [(0, .slice false (l.map actAV)), (4, .ptr ⟨b4, 0, none⟩), (8, .int .i64 last), (9, .int .i64 i), (11, .slice false ((allT c).map thgAV)), (12, .int .i64 r1.2.1), (13, .err 108 r1.2.2), (14, .int .i64 r2.2.1), (15, .err 108 r1.2.2), (16, .slice false ((allT r1.1.1).map thgAV)), (98, .bool false)] (AMem.wth m [(b8, actObj (gI l i)), (b4, cObj b1 b7 b6 b5 r2.1.1), (b5, fObj r2.1.1.fails), (b6, oObj r2.1.1.tokens), (b7, tObj r2.1.1.things), (b1, .cells [.map b3, .map b2, .slice true (r2.1.2.wait.map chgAV), .int .i64 r2.1.2.fuse, .bool r2.1.2.down, .int .i64 r2.1.2.steps])]) by
     refine ⟨trivial, ⟨rfl, rfl⟩, ?_⟩
     refine ar_top 91 (.bool true) (congrArg AV.bool hc) ?_
     refine ⟨trivial, trivial, trivial, ?_⟩
     refine ar_mem (wth_split hNb8 (pick_perm [1, 3] _)) ?_
     refine u_AllK b4 b1 b7 b6 b5 r2.1.1 r2.1.2 _ (allT r1.1.1) (allT_eq (hT.th (eq_of_beq hc))) (by have hQ := hNb8; simp at hQ ⊢; omega) hT.k2 (by omega) _ _ ?_
     show aopsR _ _ _ _ _ _ (AMem.wth (AMem.wth m [(b8, actObj (gI l i)), (b5, fObj r2.1.1.fails), (b6, oObj r2.1.1.tokens), (b1, .cells [.map b3, .map b2, .slice true (r2.1.2.wait.map chgAV), .int .i64 r2.1.2.fuse, .bool r2.1.2.down, .int .i64 r2.1.2.steps])]) [(b4, cObj b1 b7 b6 b5 r2.1.1), (b7, tObj r2.1.1.things)])
     refine ar_mem (wth_split (m := m) (L := [(b8, actObj (gI l i)), (b4, cObj b1 b7 b6 b5 r2.1.1), (b5, fObj r2.1.1.fails), (b6, oObj r2.1.1.tokens), (b7, tObj r2.1.1.things), (b1, .cells [.map b3, .map b2, .slice true (r2.1.2.wait.map chgAV), .int .i64 r2.1.2.fuse, .bool r2.1.2.down, .int .i64 r2.1.2.steps])]) hNb8 (pick_perm [1, 3] _)).symm ?_
     refine u_SameThings1 (allT r1.1.1) _ _ ?_
     refine ⟨trivial, ?_⟩
     exact key
    refine hK1 _ _ ?_; clear hK1 K1
    refine awp_cond rfl rfl (fun hcz => ?_) (fun hcz => ?_)
    ·
     cases hcz
    clear hcz
    refine awp_skip ?_
    refine hK9 _ _ ?_; clear hK9
    refine awp_reg2_seq [] [0, 4, 8, 9, 12, 13, 14, 15, 107] (by decide) ?_
    intro K1 hK1
    suffices key : K1 [(0, .slice false (l.map actAV)), (4, .ptr ⟨b4, 0, none⟩), (8, .int .i64 last), (9, .int .i64 i), (12, .int .i64 r1.2.1), (13, .err 108 r1.2.2), (14, .int .i64 r2.2.1), (15, .err 108 r1.2.2), (107, .bool (decide (((allT c).length : Int) < ((allT r1.1.1).length : Int))))] (AMem.wth m [(b8, actObj (gI l i)), (b4, cObj b1 b7 b6 b5 r2.1.1), (b5, fObj r2.1.1.fails), (b6, oObj r2.1.1.tokens), (b7, tObj r2.1.1.things), (b1, .cells [.map b3, .map b2, .slice true (r2.1.2.wait.map chgAV), .int .i64 r2.1.2.fuse, .bool r2.1.2.down, .int .i64 r2.1.2.steps])]) by
     refine ⟨trivial, ⟨rfl, rfl⟩, ?_⟩
     refine ar_top 100 (.bool true) (congrArg AV.bool hc) ?_
     refine ⟨trivial, trivial, ?_⟩
     refine ar_len rfl thgAV (allT r1.1.1) rfl rfl rfl ?_
     refine ⟨trivial, ?_⟩
     refine ar_len rfl thgAV (allT c) rfl rfl rfl ?_
     refine ⟨trivial, ?_⟩
     exact key
    refine hK1 _ _ ?_; clear hK1 K1
    refine awp_cond rfl rfl (fun h4 => ?_) (fun h4 => ?_)
    ·
     replace h4 : ((allT c).length : Int) < ((allT r1.1.1).length : Int) := (of_decide_eq_true h4)
     refine awp_seq_k ?_; intro K10 hK10
     refine awp_reg2_seq [] [0, 4, 9, 12, 13, 14, 15, 110] (by decide) ?_
     intro K1 hK1
     refine ⟨trivial, trivial, trivial, ?_⟩
     show K1 [(0, .slice false (l.map actAV)), (4, .ptr ⟨b4, 0, none⟩), (9, .int .i64 i), (12, .int .i64 r1.2.1), (13, .err 108 r1.2.2), (14, .int .i64 r2.2.1), (15, .err 108 r1.2.2), (110, .bool (decide (r1.2.1 ≤ last)))] (AMem.wth m [(b8, actObj (gI l i)), (b4, cObj b1 b7 b6 b5 r2.1.1), (b5, fObj r2.1.1.fails), (b6, oObj r2.1.1.tokens), (b7, tObj r2.1.1.things), (b1, .cells [.map b3, .map b2, .slice true (r2.1.2.wait.map chgAV), .int .i64 r2.1.2.fuse, .bool r2.1.2.down, .int .i64 r2.1.2.steps])])
     refine hK1 _ _ ?_; clear hK1 K1
     refine awp_cond rfl rfl (fun h5 => ?_) (fun h5 => ?_)
     ·
      replace h5 : r1.2.1 ≤ last := (of_decide_eq_true h5)
      refine awp_reg2_seq [] [2] (by decide) ?_
      intro K1 hK1
      refine ⟨trivial, ?_⟩
      show K1 [(2, .bool false)] (AMem.wth m [(b8, actObj (gI l i)), (b4, cObj b1 b7 b6 b5 r2.1.1), (b5, fObj r2.1.1.fails), (b6, oObj r2.1.1.tokens), (b7, tObj r2.1.1.things), (b1, .cells [.map b3, .map b2, .slice true (r2.1.2.wait.map chgAV), .int .i64 r2.1.2.fuse, .bool r2.1.2.down, .int .i64 r2.1.2.steps])])
      refine hK1 _ _ ?_; clear hK1 K1
      refine awp_ret ?_
      refine ⟨trivial, m, (wth_sub2 (m := m) [(b8, actObj (gI l i)), (b4, cObj b1 b7 b6 b5 r2.1.1), (b5, fObj r2.1.1.fails), (b6, oObj r2.1.1.tokens), (b7, tObj r2.1.1.things), (b1, .cells [.map b3, .map b2, .slice true (r2.1.2.wait.map chgAV), .int .i64 r2.1.2.fuse, .bool r2.1.2.down, .int .i64 r2.1.2.steps])] [] hNb8 (by simp only [List.map_cons, List.map_nil, List.forall_mem_cons]; exact ⟨hFb8, hFb4, hFb5, hFb6, hFb7, hFb1, fun _ h => by cases h⟩)), ?_⟩
      show K (.bool false) m
     
      first | exact hK | (exfalso; have q := hT.new hc (by assumption); have := hI.2.2.2.2; omega) | (exfalso; have q0 := eq_of_beq hc; have q := hT.id q0; simp_all; done) | (exfalso; have q0 := eq_of_beq hc; simp_all; done) | (exfalso; have q0 := ne_of_beq_false hc; simp_all; done)
     replace h5 : last < r1.2.1 := (Int.not_le.1 (of_decide_eq_false h5))
     refine awp_skip ?_
     refine hK10 _ _ ?_; clear hK10
     refine awp_reg2 [] [0, 4, 8, 9, 12, 13, 14, 15] (by decide) ?_
     intro K1 hK1
     refine ⟨trivial, trivial, ?_⟩
     show K1 [(0, .slice false (l.map actAV)), (4, .ptr ⟨b4, 0, none⟩), (8, .int .i64 r1.2.1), (9, .int .i64 i), (12, .int .i64 r1.2.1), (13, .err 108 r1.2.2), (14, .int .i64 r2.2.1), (15, .err 108 r1.2.2)] (AMem.wth m [(b8, actObj (gI l i)), (b4, cObj b1 b7 b6 b5 r2.1.1), (b5, fObj r2.1.1.fails), (b6, oObj r2.1.1.tokens), (b7, tObj r2.1.1.things), (b1, .cells [.map b3, .map b2, .slice true (r2.1.2.wait.map chgAV), .int .i64 r2.1.2.fuse, .bool r2.1.2.down, .int .i64 r2.1.2.steps])])
     refine hK1 _ _ ?_; clear hK1 K1
     refine hK8 _ _ ?_; clear hK8
     refine awp_reg2_seq [] [0, 4, 8, 9, 188] (by decide) ?_
     intro K1 hK1
     suffices key : K1 [(0, .slice false (l.map actAV)), (4, .ptr ⟨b4, 0, none⟩), (8, .int .i64 r1.2.1), (9, .int .i64 i), (188, .bool (((!(r1.2.2 == 0)) || (!(r1.2.1 == r2.2.1))) || ((!(!(r1.2.2 == 0))) && false)))] (AMem.wth m [(b8, actObj (gI l i)), (b4, cObj b1 b7 b6 b5 r2.1.1), (b5, fObj r2.1.1.fails), (b6, oObj r2.1.1.tokens), (b7, tObj r2.1.1.things), (b1, .cells [.map b3, .map b2, .slice true (r2.1.2.wait.map chgAV), .int .i64 r2.1.2.fuse, .bool r2.1.2.down, .int .i64 r2.1.2.steps])]) by
      refine ⟨trivial, ⟨rfl, rfl⟩, ?_⟩
      refine ar_top 167 (.bool true) (congrArg AV.bool hc) ?_
      refine ⟨trivial, trivial, ?_⟩
      refine u_number r1.2.2 _ _ ?_
      refine ⟨trivial, trivial, ?_⟩
      show aopsR _ _ _ _ _ [(172, .bool (!(r1.2.2 == 0))), (171, .bool (!(r1.2.2 == 0))), (170, .int .i64 r1.2.2), (169, .err 108 r1.2.2), (168, .bool true), (167, .bool true), (166, .err 108 r1.2.2), (0, .slice false (l.map actAV)), (4, .ptr ⟨b4, 0, none⟩), (8, .int .i64 r1.2.1), (9, .int .i64 i), (12, .int .i64 r1.2.1), (13, .err 108 r1.2.2), (14, .int .i64 r2.2.1), (15, .err 108 r1.2.2)] _
      refine (bool_ff ((r1.2.2 == 0))).elim (fun h6 => ?_) (fun h6 => ?_)
      ·
       refine ar_frame [(172, .bool true), (171, .bool true), (170, .int .i64 r1.2.2), (169, .err 108 r1.2.2), (168, .bool true), (167, .bool true), (166, .err 108 r1.2.2), (0, .slice false (l.map actAV)), (4, .ptr ⟨b4, 0, none⟩), (8, .int .i64 r1.2.1), (9, .int .i64 i), (12, .int .i64 r1.2.1), (13, .err 108 r1.2.2), (14, .int .i64 r2.2.1), (15, .err 108 r1.2.2)] (by first | (rw [h6]; done) | (rw [h6]; rfl)) ?_
       try rw [h6] at key
       replace h6 : r1.2.2 ≠ 0 := (ne_of_beq_false h6)
       refine ar_off rfl (ar_off rfl (ar_off rfl ?_))
       refine ⟨trivial, ?_⟩
       refine ar_off rfl (ar_off rfl (ar_off rfl (ar_off rfl (ar_off rfl (ar_off rfl (ar_off rfl (ar_off rfl (ar_off rfl ?_))))))))
       exact key
      ·
       refine ar_frame [(172, .bool false), (171, .bool false), (170, .int .i64 r1.2.2), (169, .err 108 r1.2.2), (168, .bool true), (167, .bool true), (166, .err 108 r1.2.2), (0, .slice false (l.map actAV)), (4, .ptr ⟨b4, 0, none⟩), (8, .int .i64 r1.2.1), (9, .int .i64 i), (12, .int .i64 r1.2.1), (13, .err 108 r1.2.2), (14, .int .i64 r2.2.1), (15, .err 108 r1.2.2)] (by first | (rw [h6]; done) | (rw [h6]; rfl)) ?_
       try rw [h6] at key
       replace h6 : r1.2.2 = 0 := (eq_of_beq h6)
       refine ⟨trivial, trivial, trivial, ?_⟩
       refine ⟨trivial, ?_⟩
       show aopsR _ _ _ _ _ [(178, .bool (!(r1.2.1 == r2.2.1))), (177, .bool (!(r1.2.1 == r2.2.1))), (176, .bool (!(r1.2.1 == r2.2.1))), (175, .bool (!(r1.2.1 == r2.2.1))), (174, .int .i64 r2.2.1), (173, .int .i64 r1.2.1), (172, .bool false), (171, .bool false), (170, .int .i64 r1.2.2), (169, .err 108 r1.2.2), (168, .bool true), (167, .bool true), (166, .err 108 r1.2.2), (0, .slice false (l.map actAV)), (4, .ptr ⟨b4, 0, none⟩), (8, .int .i64 r1.2.1), (9, .int .i64 i), (12, .int .i64 r1.2.1), (13, .err 108 r1.2.2), (14, .int .i64 r2.2.1), (15, .err 108 r1.2.2)] _
       refine (bool_ff ((r1.2.1 == r2.2.1))).elim (fun h7 => ?_) (fun h7 => ?_)
       ·
        refine ar_frame [(178, .bool true), (177, .bool true), (176, .bool true), (175, .bool true), (174, .int .i64 r2.2.1), (173, .int .i64 r1.2.1), (172, .bool false), (171, .bool false), (170, .int .i64 r1.2.2), (169, .err 108 r1.2.2), (168, .bool true), (167, .bool true), (166, .err 108 r1.2.2), (0, .slice false (l.map actAV)), (4, .ptr ⟨b4, 0, none⟩), (8, .int .i64 r1.2.1), (9, .int .i64 i), (12, .int .i64 r1.2.1), (13, .err 108 r1.2.2), (14, .int .i64 r2.2.1), (15, .err 108 r1.2.2)] (by first | (rw [h7]; done) | (rw [h7]; rfl)) ?_
        try rw [h7] at key
        replace h7 : r1.2.1 ≠ r2.2.1 := (ne_of_beq_false h7)
        refine ar_off rfl (ar_off rfl (ar_off rfl (ar_off rfl (ar_off rfl (ar_off rfl (ar_off rfl (ar_off rfl (ar_off rfl ?_))))))))
        exact key
       ·
        refine ar_frame [(178, .bool false), (177, .bool false), (176, .bool false), (175, .bool false), (174, .int .i64 r2.2.1), (173, .int .i64 r1.2.1), (172, .bool false), (171, .bool false), (170, .int .i64 r1.2.2), (169, .err 108 r1.2.2), (168, .bool true), (167, .bool true), (166, .err 108 r1.2.2), (0, .slice false (l.map actAV)), (4, .ptr ⟨b4, 0, none⟩), (8, .int .i64 r1.2.1), (9, .int .i64 i), (12, .int .i64 r1.2.1), (13, .err 108 r1.2.2), (14, .int .i64 r2.2.1), (15, .err 108 r1.2.2)] (by first | (rw [h7]; done) | (rw [h7]; rfl)) ?_
        try rw [h7] at key
        replace h7 : r1.2.1 = r2.2.1 := (eq_of_beq h7)
        refine ⟨trivial, ⟨rfl, rfl⟩, trivial, ?_⟩
        show aopsR _ _ _ _ _ [(181, .bool (!(r1.2.2 == 0))), (180, .bool (!(r1.2.2 == 0))), (179, .err 108 r1.2.2), (178, .bool false), (177, .bool false), (176, .bool false), (175, .bool false), (174, .int .i64 r2.2.1), (173, .int .i64 r1.2.1), (172, .bool false), (171, .bool false), (170, .int .i64 r1.2.2), (169, .err 108 r1.2.2), (168, .bool true), (167, .bool true), (166, .err 108 r1.2.2), (0, .slice false (l.map actAV)), (4, .ptr ⟨b4, 0, none⟩), (8, .int .i64 r1.2.1), (9, .int .i64 i), (12, .int .i64 r1.2.1), (13, .err 108 r1.2.2), (14, .int .i64 r2.2.1), (15, .err 108 r1.2.2)] _
        refine (bool_ff ((r1.2.2 == 0))).elim (fun h8 => ?_) (fun h8 => ?_)
        ·
         refine ar_frame [(181, .bool true), (180, .bool true), (179, .err 108 r1.2.2), (178, .bool false), (177, .bool false), (176, .bool false), (175, .bool false), (174, .int .i64 r2.2.1), (173, .int .i64 r1.2.1), (172, .bool false), (171, .bool false), (170, .int .i64 r1.2.2), (169, .err 108 r1.2.2), (168, .bool true), (167, .bool true), (166, .err 108 r1.2.2), (0, .slice false (l.map actAV)), (4, .ptr ⟨b4, 0, none⟩), (8, .int .i64 r1.2.1), (9, .int .i64 i), (12, .int .i64 r1.2.1), (13, .err 108 r1.2.2), (14, .int .i64 r2.2.1), (15, .err 108 r1.2.2)] (by first | (rw [h8]; done) | (rw [h8]; rfl)) ?_
         try rw [h8] at key
         replace h8 : r1.2.2 ≠ 0 := (ne_of_beq_false h8)
         refine ⟨trivial, ?_⟩
         refine u_number r1.2.2 _ _ ?_
         refine ⟨trivial, ?_⟩
         refine u_number r1.2.2 _ _ ?_
         refine ⟨trivial, ?_⟩
         refine ar_top 186 (.bool false) (congrArg AV.bool (by simp)) ?_
         exact key
        ·
         refine ar_frame [(181, .bool false), (180, .bool false), (179, .err 108 r1.2.2), (178, .bool false), (177, .bool false), (176, .bool false), (175, .bool false), (174, .int .i64 r2.2.1), (173, .int .i64 r1.2.1), (172, .bool false), (171, .bool false), (170, .int .i64 r1.2.2), (169, .err 108 r1.2.2), (168, .bool true), (167, .bool true), (166, .err 108 r1.2.2), (0, .slice false (l.map actAV)), (4, .ptr ⟨b4, 0, none⟩), (8, .int .i64 r1.2.1), (9, .int .i64 i), (12, .int .i64 r1.2.1), (13, .err 108 r1.2.2), (14, .int .i64 r2.2.1), (15, .err 108 r1.2.2)] (by first | (rw [h8]; done) | (rw [h8]; rfl)) ?_
         try rw [h8] at key
         replace h8 : r1.2.2 = 0 := (eq_of_beq h8)
         refine ar_off rfl (ar_off rfl (ar_off rfl (ar_off rfl (ar_off rfl ?_))))
         exact key
     refine hK1 _ _ ?_; clear hK1 K1
     refine awp_cond rfl rfl (fun h9 => ?_) (fun h9 => ?_)
     ·
      replace h9 : ((r1.2.2 ≠ 0) ∨ (r1.2.1 ≠ r2.2.1)) ∨ ((r1.2.2 = 0) ∧ (False)) := ((borT h9).imp (fun q => ((borT q).imp (fun q => (ne_of_beq_false (bnT q))) (fun q => (ne_of_beq_false (bnT q))))) (fun q => ⟨(eq_of_beq (bnF (bnT (bandL q)))), (by cases (bandR q))⟩))
      refine awp_reg2_seq [] [2] (by decide) ?_
      intro K1 hK1
      refine ⟨trivial, ?_⟩
      show K1 [(2, .bool false)] (AMem.wth m [(b8, actObj (gI l i)), (b4, cObj b1 b7 b6 b5 r2.1.1), (b5, fObj r2.1.1.fails), (b6, oObj r2.1.1.tokens), (b7, tObj r2.1.1.things), (b1, .cells [.map b3, .map b2, .slice true (r2.1.2.wait.map chgAV), .int .i64 r2.1.2.fuse, .bool r2.1.2.down, .int .i64 r2.1.2.steps])])
      refine hK1 _ _ ?_; clear hK1 K1
      refine awp_ret ?_
      refine ⟨trivial, m, (wth_sub2 (m := m) [(b8, actObj (gI l i)), (b4, cObj b1 b7 b6 b5 r2.1.1), (b5, fObj r2.1.1.fails), (b6, oObj r2.1.1.tokens), (b7, tObj r2.1.1.things), (b1, .cells [.map b3, .map b2, .slice true (r2.1.2.wait.map chgAV), .int .i64 r2.1.2.fuse, .bool r2.1.2.down, .int .i64 r2.1.2.steps])] [] hNb8 (by simp only [List.map_cons, List.map_nil, List.forall_mem_cons]; exact ⟨hFb8, hFb4, hFb5, hFb6, hFb7, hFb1, fun _ h => by cases h⟩)), ?_⟩
      show K (.bool false) m
     
      first | exact hK | (exfalso; have q := hT.new hc (by assumption); have := hI.2.2.2.2; omega) | (exfalso; have q0 := eq_of_beq hc; have q := hT.id q0; simp_all; done) | (exfalso; have q0 := eq_of_beq hc; simp_all; done) | (exfalso; have q0 := ne_of_beq_false hc; simp_all; done)
     replace h9 : ((r1.2.2 = 0) ∧ (r1.2.1 = r2.2.1)) ∧ ((r1.2.2 ≠ 0) ∨ (True)) := ⟨⟨(eq_of_beq (bnF (borL (borL h9)))), (eq_of_beq (bnF (borR (borL h9))))⟩, ((bandF (borR h9)).imp (fun q => (ne_of_beq_false (bnT (bnF q)))) (fun q => trivial))⟩
     refine awp_skip ?_
     refine hK7 _ _ ?_; clear hK7
     have hNd2 : ([b4, b5, b6, b7, b1] : List Nat).Nodup := drop_nodup (L := [(b8, actObj (gI l i)), (b4, cObj b1 b7 b6 b5 r2.1.1), (b5, fObj r2.1.1.fails), (b6, oObj r2.1.1.tokens), (b7, tObj r2.1.1.things), (b1, .cells [.map b3, .map b2, .slice true (r2.1.2.wait.map chgAV), .int .i64 r2.1.2.fuse, .bool r2.1.2.down, .int .i64 r2.1.2.steps])]) hNb8 (pick_perm [0] _)
     refine awp_dropP [(b8, actObj (gI l i))] [(b4, cObj b1 b7 b6 b5 r2.1.1), (b5, fObj r2.1.1.fails), (b6, oObj r2.1.1.tokens), (b7, tObj r2.1.1.things), (b1, .cells [.map b3, .map b2, .slice true (r2.1.2.wait.map chgAV), .int .i64 r2.1.2.fuse, .bool r2.1.2.down, .int .i64 r2.1.2.steps])] hNb8 (pick_perm [0] _) (by simp only [List.map_cons, List.map_nil, List.forall_mem_cons]; exact ⟨hFb8, fun _ h => by cases h⟩) ?_
     refine awp_reg2 [] [0, 4, 8, 9] (by decide) ?_
     intro K1 hK1
     refine ⟨trivial, ?_⟩
     refine ar_add rfl (a := i) (b := 1) rfl rfl (by omega) (by omega) ?_
     refine ⟨trivial, ?_⟩
     show K1 [(0, .slice false (l.map actAV)), (4, .ptr ⟨b4, 0, none⟩), (8, .int .i64 r1.2.1), (9, .int .i64 (i + 1))] (AMem.wth m [(b4, cObj b1 b7 b6 b5 r2.1.1), (b5, fObj r2.1.1.fails), (b6, oObj r2.1.1.tokens), (b7, tObj r2.1.1.things), (b1, .cells [.map b3, .map b2, .slice true (r2.1.2.wait.map chgAV), .int .i64 r2.1.2.fuse, .bool r2.1.2.down, .int .i64 r2.1.2.steps])])
     refine hK1 _ _ ?_; clear hK1 K1
     refine ⟨(r1.2.1, i + 1, r2.1.1, r2.1.2), rfl, rfl, ?_, ?_⟩
     ·
      show 0 ≤ ((i + 1 : Int)) ∧ ((i + 1 : Int)) ≤ l.length ∧ TK ((r2.1.1 : ClSt)) ((r2.1.2 : DSt)) (2 * ((i + 1 : Int)).toNat + 1) ∧ 1 ≤ ((r1.2.1 : Int)) ∧ ((r1.2.1 : Int)) < ((r2.1.1 : ClSt)).next
      refine ⟨by omega, by omega, ?_⟩
      first | exact hT.back2 hc (by assumption) hI.2.2.2 (by omega) | exact hT.back hI.2.2.2 (by omega) | exact ⟨hI.2.2.1.mono (by omega), hI.2.2.2⟩
     ·
      show l.length - ((i + 1 : Int)).toNat < l.length - i.toNat
      omega
    replace h4 : ((allT r1.1.1).length : Int) ≤ ((allT c).length : Int) := (Int.not_lt.1 (of_decide_eq_false h4))
    refine awp_skip ?_
    refine hK8 _ _ ?_; clear hK8
    refine awp_reg2_seq [] [0, 4, 8, 9, 188] (by decide) ?_
    intro K1 hK1
    suffices key : K1 [(0, .slice false (l.map actAV)), (4, .ptr ⟨b4, 0, none⟩), (8, .int .i64 last), (9, .int .i64 i), (188, .bool (((!(r1.2.2 == 0)) || (!(r1.2.1 == r2.2.1))) || ((!(!(r1.2.2 == 0))) && false)))] (AMem.wth m [(b8, actObj (gI l i)), (b4, cObj b1 b7 b6 b5 r2.1.1), (b5, fObj r2.1.1.fails), (b6, oObj r2.1.1.tokens), (b7, tObj r2.1.1.things), (b1, .cells [.map b3, .map b2, .slice true (r2.1.2.wait.map chgAV), .int .i64 r2.1.2.fuse, .bool r2.1.2.down, .int .i64 r2.1.2.steps])]) by
     refine ⟨trivial, ⟨rfl, rfl⟩, ?_⟩
     refine ar_top 167 (.bool true) (congrArg AV.bool hc) ?_
     refine ⟨trivial, trivial, ?_⟩
     refine u_number r1.2.2 _ _ ?_
     refine ⟨trivial, trivial, ?_⟩
     show aopsR _ _ _ _ _ [(172, .bool (!(r1.2.2 == 0))), (171, .bool (!(r1.2.2 == 0))), (170, .int .i64 r1.2.2), (169, .err 108 r1.2.2), (168, .bool true), (167, .bool true), (166, .err 108 r1.2.2), (0, .slice false (l.map actAV)), (4, .ptr ⟨b4, 0, none⟩), (8, .int .i64 last), (9, .int .i64 i), (12, .int .i64 r1.2.1), (13, .err 108 r1.2.2), (14, .int .i64 r2.2.1), (15, .err 108 r1.2.2), (107, .bool (decide (((allT c).length : Int) < ((allT r1.1.1).length : Int))))] _
     refine (bool_ff ((r1.2.2 == 0))).elim (fun h10 => ?_) (fun h10 => ?_)
     ·
      refine ar_frame [(172, .bool true), (171, .bool true), (170, .int .i64 r1.2.2), (169, .err 108 r1.2.2), (168, .bool true), (167, .bool true), (166, .err 108 r1.2.2), (0, .slice false (l.map actAV)), (4, .ptr ⟨b4, 0, none⟩), (8, .int .i64 last), (9, .int .i64 i), (12, .int .i64 r1.2.1), (13, .err 108 r1.2.2), (14, .int .i64 r2.2.1), (15, .err 108 r1.2.2), (107, .bool (decide (((allT c).length : Int) < ((allT r1.1.1).length : Int))))] (by first | (rw [h10]; done) | (rw [h10]; rfl)) ?_
      try rw [h10] at key
      replace h10 : r1.2.2 ≠ 0 := (ne_of_beq_false h10)
      refine ar_off rfl (ar_off rfl (ar_off rfl ?_))
      refine ⟨trivial, ?_⟩
      refine ar_off rfl (ar_off rfl (ar_off rfl (ar_off rfl (ar_off rfl (ar_off rfl (ar_off rfl (ar_off rfl (ar_off rfl ?_))))))))
      exact key
     ·
      refine ar_frame [(172, .bool false), (171, .bool false), (170, .int .i64 r1.2.2), (169, .err 108 r1.2.2), (168, .bool true), (167, .bool true), (166, .err 108 r1.2.2), (0, .slice false (l.map actAV)), (4, .ptr ⟨b4, 0, none⟩), (8, .int .i64 last), (9, .int .i64 i), (12, .int .i64 r1.2.1), (13, .err 108 r1.2.2), (14, .int .i64 r2.2.1), (15, .err 108 r1.2.2), (107, .bool (decide (((allT c).length : Int) < ((allT r1.1.1).length : Int))))] (by first | (rw [h10]; done) | (rw [h10]; rfl)) ?_
      try rw [h10] at key
      replace h10 : r1.2.2 = 0 := (eq_of_beq h10)
      refine ⟨trivial, trivial, trivial, ?_⟩
      refine ⟨trivial, ?_⟩
      show aopsR _ _ _ _ _ [(178, .bool (!(r1.2.1 == r2.2.1))), (177, .bool (!(r1.2.1 == r2.2.1))), (176, .bool (!(r1.2.1 == r2.2.1))), (175, .bool (!(r1.2.1 == r2.2.1))), (174, .int .i64 r2.2.1), (173, .int .i64 r1.2.1), (172, .bool false), (171, .bool false), (170, .int .i64 r1.2.2), (169, .err 108 r1.2.2), (168, .bool true), (167, .bool true), (166, .err 108 r1.2.2), (0, .slice false (l.map actAV)), (4, .ptr ⟨b4, 0, none⟩), (8, .int .i64 last), (9, .int .i64 i), (12, .int .i64 r1.2.1), (13, .err 108 r1.2.2), (14, .int .i64 r2.2.1), (15, .err 108 r1.2.2), (107, .bool (decide (((allT c).length : Int) < ((allT r1.1.1).length : Int))))] _
      refine (bool_ff ((r1.2.1 == r2.2.1))).elim (fun h11 => ?_) (fun h11 => ?_)
      ·
       refine ar_frame [(178, .bool true), (177, .bool true), (176, .bool true), (175, .bool true), (174, .int .i64 r2.2.1), (173, .int .i64 r1.2.1), (172, .bool false), (171, .bool false), (170, .int .i64 r1.2.2), (169, .err 108 r1.2.2), (168, .bool true), (167, .bool true), (166, .err 108 r1.2.2), (0, .slice false (l.map actAV)), (4, .ptr ⟨b4, 0, none⟩), (8, .int .i64 last), (9, .int .i64 i), (12, .int .i64 r1.2.1), (13, .err 108 r1.2.2), (14, .int .i64 r2.2.1), (15, .err 108 r1.2.2), (107, .bool (decide (((allT c).length : Int) < ((allT r1.1.1).length : Int))))] (by first | (rw [h11]; done) | (rw [h11]; rfl)) ?_
       try rw [h11] at key
       replace h11 : r1.2.1 ≠ r2.2.1 := (ne_of_beq_false h11)
       refine ar_off rfl (ar_off rfl (ar_off rfl (ar_off rfl (ar_off rfl (ar_off rfl (ar_off rfl (ar_off rfl (ar_off rfl ?_))))))))
       exact key
      ·
       refine ar_frame [(178, .bool false), (177, .bool false), (176, .bool false), (175, .bool false), (174, .int .i64 r2.2.1), (173, .int .i64 r1.2.1), (172, .bool false), (171, .bool false), (170, .int .i64 r1.2.2), (169, .err 108 r1.2.2), (168, .bool true), (167, .bool true), (166, .err 108 r1.2.2), (0, .slice false (l.map actAV)), (4, .ptr ⟨b4, 0, none⟩), (8, .int .i64 last), (9, .int .i64 i), (12, .int .i64 r1.2.1), (13, .err 108 r1.2.2), (14, .int .i64 r2.2.1), (15, .err 108 r1.2.2), (107, .bool (decide (((allT c).length : Int) < ((allT r1.1.1).length : Int))))] (by first | (rw [h11]; done) | (rw [h11]; rfl)) ?_
       try rw [h11] at key
       replace h11 : r1.2.1 = r2.2.1 := (eq_of_beq h11)
       refine ⟨trivial, ⟨rfl, rfl⟩, trivial, ?_⟩
       show aopsR _ _ _ _ _ [(181, .bool (!(r1.2.2 == 0))), (180, .bool (!(r1.2.2 == 0))), (179, .err 108 r1.2.2), (178, .bool false), (177, .bool false), (176, .bool false), (175, .bool false), (174, .int .i64 r2.2.1), (173, .int .i64 r1.2.1), (172, .bool false), (171, .bool false), (170, .int .i64 r1.2.2), (169, .err 108 r1.2.2), (168, .bool true), (167, .bool true), (166, .err 108 r1.2.2), (0, .slice false (l.map actAV)), (4, .ptr ⟨b4, 0, none⟩), (8, .int .i64 last), (9, .int .i64 i), (12, .int .i64 r1.2.1), (13, .err 108 r1.2.2), (14, .int .i64 r2.2.1), (15, .err 108 r1.2.2), (107, .bool (decide (((allT c).length : Int) < ((allT r1.1.1).length : Int))))] _
       refine (bool_ff ((r1.2.2 == 0))).elim (fun h12 => ?_) (fun h12 => ?_)
       ·
        refine ar_frame [(181, .bool true), (180, .bool true), (179, .err 108 r1.2.2), (178, .bool false), (177, .bool false), (176, .bool false), (175, .bool false), (174, .int .i64 r2.2.1), (173, .int .i64 r1.2.1), (172, .bool false), (171, .bool false), (170, .int .i64 r1.2.2), (169, .err 108 r1.2.2), (168, .bool true), (167, .bool true), (166, .err 108 r1.2.2), (0, .slice false (l.map actAV)), (4, .ptr ⟨b4, 0, none⟩), (8, .int .i64 last), (9, .int .i64 i), (12, .int .i64 r1.2.1), (13, .err 108 r1.2.2), (14, .int .i64 r2.2.1), (15, .err 108 r1.2.2), (107, .bool (decide (((allT c).length : Int) < ((allT r1.1.1).length : Int))))] (by first | (rw [h12]; done) | (rw [h12]; rfl)) ?_
        try rw [h12] at key
        replace h12 : r1.2.2 ≠ 0 := (ne_of_beq_false h12)
        refine ⟨trivial, ?_⟩
        refine u_number r1.2.2 _ _ ?_
        refine ⟨trivial, ?_⟩
        refine u_number r1.2.2 _ _ ?_
        refine ⟨trivial, ?_⟩
        refine ar_top 186 (.bool false) (congrArg AV.bool (by simp)) ?_
        exact key
       ·
        refine ar_frame [(181, .bool false), (180, .bool false), (179, .err 108 r1.2.2), (178, .bool false), (177, .bool false), (176, .bool false), (175, .bool false), (174, .int .i64 r2.2.1), (173, .int .i64 r1.2.1), (172, .bool false), (171, .bool false), (170, .int .i64 r1.2.2), (169, .err 108 r1.2.2), (168, .bool true), (167, .bool true), (166, .err 108 r1.2.2), (0, .slice false (l.map actAV)), (4, .ptr ⟨b4, 0, none⟩), (8, .int .i64 last), (9, .int .i64 i), (12, .int .i64 r1.2.1), (13, .err 108 r1.2.2), (14, .int .i64 r2.2.1), (15, .err 108 r1.2.2), (107, .bool (decide (((allT c).length : Int) < ((allT r1.1.1).length : Int))))] (by first | (rw [h12]; done) | (rw [h12]; rfl)) ?_
        try rw [h12] at key
        replace h12 : r1.2.2 = 0 := (eq_of_beq h12)
        refine ar_off rfl (ar_off rfl (ar_off rfl (ar_off rfl (ar_off rfl ?_))))
        exact key
    refine hK1 _ _ ?_; clear hK1 K1
    refine awp_cond rfl rfl (fun h13 => ?_) (fun h13 => ?_)
    ·
     replace h13 : ((r1.2.2 ≠ 0) ∨ (r1.2.1 ≠ r2.2.1)) ∨ ((r1.2.2 = 0) ∧ (False)) := ((borT h13).imp (fun q => ((borT q).imp (fun q => (ne_of_beq_false (bnT q))) (fun q => (ne_of_beq_false (bnT q))))) (fun q => ⟨(eq_of_beq (bnF (bnT (bandL q)))), (by cases (bandR q))⟩))
     refine awp_reg2_seq [] [2] (by decide) ?_
     intro K1 hK1
     refine ⟨trivial, ?_⟩
     show K1 [(2, .bool false)] (AMem.wth m [(b8, actObj (gI l i)), (b4, cObj b1 b7 b6 b5 r2.1.1), (b5, fObj r2.1.1.fails), (b6, oObj r2.1.1.tokens), (b7, tObj r2.1.1.things), (b1, .cells [.map b3, .map b2, .slice true (r2.1.2.wait.map chgAV), .int .i64 r2.1.2.fuse, .bool r2.1.2.down, .int .i64 r2.1.2.steps])])
     refine hK1 _ _ ?_; clear hK1 K1
     refine awp_ret ?_
     refine ⟨trivial, m, (wth_sub2 (m := m) [(b8, actObj (gI l i)), (b4, cObj b1 b7 b6 b5 r2.1.1), (b5, fObj r2.1.1.fails), (b6, oObj r2.1.1.tokens), (b7, tObj r2.1.1.things), (b1, .cells [.map b3, .map b2, .slice true (r2.1.2.wait.map chgAV), .int .i64 r2.1.2.fuse, .bool r2.1.2.down, .int .i64 r2.1.2.steps])] [] hNb8 (by simp only [List.map_cons, List.map_nil, List.forall_mem_cons]; exact ⟨hFb8, hFb4, hFb5, hFb6, hFb7, hFb1, fun _ h => by cases h⟩)), ?_⟩
     show K (.bool false) m
    
     first | exact hK | (exfalso; have q := hT.new hc (by assumption); have := hI.2.2.2.2; omega) | (exfalso; have q0 := eq_of_beq hc; have q := hT.id q0; simp_all; done) | (exfalso; have q0 := eq_of_beq hc; simp_all; done) | (exfalso; have q0 := ne_of_beq_false hc; simp_all; done)
    replace h13 : ((r1.2.2 = 0) ∧ (r1.2.1 = r2.2.1)) ∧ ((r1.2.2 ≠ 0) ∨ (True)) := ⟨⟨(eq_of_beq (bnF (borL (borL h13)))), (eq_of_beq (bnF (borR (borL h13))))⟩, ((bandF (borR h13)).imp (fun q => (ne_of_beq_false (bnT (bnF q)))) (fun q => trivial))⟩
    refine awp_skip ?_
    refine hK7 _ _ ?_; clear hK7
    have hNd3 : ([b4, b5, b6, b7, b1] : List Nat).Nodup := drop_nodup (L := [(b8, actObj (gI l i)), (b4, cObj b1 b7 b6 b5 r2.1.1), (b5, fObj r2.1.1.fails), (b6, oObj r2.1.1.tokens), (b7, tObj r2.1.1.things), (b1, .cells [.map b3, .map b2, .slice true (r2.1.2.wait.map chgAV), .int .i64 r2.1.2.fuse, .bool r2.1.2.down, .int .i64 r2.1.2.steps])]) hNb8 (pick_perm [0] _)
    refine awp_dropP [(b8, actObj (gI l i))] [(b4, cObj b1 b7 b6 b5 r2.1.1), (b5, fObj r2.1.1.fails), (b6, oObj r2.1.1.tokens), (b7, tObj r2.1.1.things), (b1, .cells [.map b3, .map b2, .slice true (r2.1.2.wait.map chgAV), .int .i64 r2.1.2.fuse, .bool r2.1.2.down, .int .i64 r2.1.2.steps])] hNb8 (pick_perm [0] _) (by simp only [List.map_cons, List.map_nil, List.forall_mem_cons]; exact ⟨hFb8, fun _ h => by cases h⟩) ?_
    refine awp_reg2 [] [0, 4, 8, 9] (by decide) ?_
    intro K1 hK1
    refine ⟨trivial, ?_⟩
    refine ar_add rfl (a := i) (b := 1) rfl rfl (by omega) (by omega) ?_
    refine ⟨trivial, ?_⟩
    show K1 [(0, .slice false (l.map actAV)), (4, .ptr ⟨b4, 0, none⟩), (8, .int .i64 last), (9, .int .i64 (i + 1))] (AMem.wth m [(b4, cObj b1 b7 b6 b5 r2.1.1), (b5, fObj r2.1.1.fails), (b6, oObj r2.1.1.tokens), (b7, tObj r2.1.1.things), (b1, .cells [.map b3, .map b2, .slice true (r2.1.2.wait.map chgAV), .int .i64 r2.1.2.fuse, .bool r2.1.2.down, .int .i64 r2.1.2.steps])])
    refine hK1 _ _ ?_; clear hK1 K1
    refine ⟨(last, i + 1, r2.1.1, r2.1.2), rfl, rfl, ?_, ?_⟩
    ·
     show 0 ≤ ((i + 1 : Int)) ∧ ((i + 1 : Int)) ≤ l.length ∧ TK ((r2.1.1 : ClSt)) ((r2.1.2 : DSt)) (2 * ((i + 1 : Int)).toNat + 1) ∧ 1 ≤ last ∧ last < ((r2.1.1 : ClSt)).next
     refine ⟨by omega, by omega, ?_⟩
     first | exact hT.back2 hc (by assumption) hI.2.2.2 (by omega) | exact hT.back hI.2.2.2 (by omega) | exact ⟨hI.2.2.1.mono (by omega), hI.2.2.2⟩
    ·
     show l.length - ((i + 1 : Int)).toNat < l.length - i.toNat
     omega
   ·
    skip
    refine awp_reg2_seq [] [0, 4, 8, 9, 11, 12, 13, 14, 15, 16, 98] (by decide) ?_
    intro K1 hK1
    suffices key : K1 [(0, .slice false (l.map actAV)), (4, .ptr ⟨b4, 0, none⟩), (8, .int .i64 last), (9, .int .i64 i), (11, .slice false ((allT c).map thgAV)), (12, .int .i64 r1.2.1), (13, .err 108 r1.2.2), (14, .int .i64 r2.2.1), (15, .err 108 r1.2.2), (16, .slice false ((allT r1.1.1).map thgAV)), (98, .bool false)] (AMem.wth m [(b8, actObj (gI l i)), (b4, cObj b1 b7 b6 b5 r2.1.1), (b5, fObj r2.1.1.fails), (b6, oObj r2.1.1.tokens), (b7, tObj r2.1.1.things), (b1, .cells [.map b3, .map b2, .slice true (r2.1.2.wait.map chgAV), .int .i64 r2.1.2.fuse, .bool r2.1.2.down, .int .i64 r2.1.2.steps])]) by
     refine ⟨trivial, ⟨rfl, rfl⟩, ?_⟩
     refine ar_top 91 (.bool false) (congrArg AV.bool hc) ?_
     refine ⟨trivial, ?_⟩
     refine ar_off rfl (ar_off rfl (ar_off rfl (ar_off rfl (ar_off rfl ?_))))
     exact key
    refine hK1 _ _ ?_; clear hK1 K1
    refine awp_cond rfl rfl (fun hcz => ?_) (fun hcz => ?_)
    ·
     cases hcz
    clear hcz
    refine awp_skip ?_
    refine hK9 _ _ ?_; clear hK9
    refine awp_reg2_seq [] [0, 4, 8, 9, 12, 13, 14, 15, 107] (by decide) ?_
    intro K1 hK1
    suffices key : K1 [(0, .slice false (l.map actAV)), (4, .ptr ⟨b4, 0, none⟩), (8, .int .i64 last), (9, .int .i64 i), (12, .int .i64 r1.2.1), (13, .err 108 r1.2.2), (14, .int .i64 r2.2.1), (15, .err 108 r1.2.2), (107, .bool false)] (AMem.wth m [(b8, actObj (gI l i)), (b4, cObj b1 b7 b6 b5 r2.1.1), (b5, fObj r2.1.1.fails), (b6, oObj r2.1.1.tokens), (b7, tObj r2.1.1.things), (b1, .cells [.map b3, .map b2, .slice true (r2.1.2.wait.map chgAV), .int .i64 r2.1.2.fuse, .bool r2.1.2.down, .int .i64 r2.1.2.steps])]) by
     refine ⟨trivial, ⟨rfl, rfl⟩, ?_⟩
     refine ar_top 100 (.bool false) (congrArg AV.bool hc) ?_
     refine ⟨trivial, ?_⟩
     refine ar_off rfl (ar_off rfl (ar_off rfl (ar_off rfl (ar_off rfl ?_))))
     exact key
    refine hK1 _ _ ?_; clear hK1 K1
    refine awp_cond rfl rfl (fun hcz => ?_) (fun hcz => ?_)
    ·
     cases hcz
    clear hcz
    refine awp_skip ?_
    refine hK8 _ _ ?_; clear hK8
    refine awp_reg2_seq [] [0, 4, 8, 9, 188] (by decide) ?_
    intro K1 hK1
    suffices key : K1 [(0, .slice false (l.map actAV)), (4, .ptr ⟨b4, 0, none⟩), (8, .int .i64 last), (9, .int .i64 i), (188, .bool ((!(!(r1.2.2 == 0))) && false))] (AMem.wth m [(b8, actObj (gI l i)), (b4, cObj b1 b7 b6 b5 r2.1.1), (b5, fObj r2.1.1.fails), (b6, oObj r2.1.1.tokens), (b7, tObj r2.1.1.things), (b1, .cells [.map b3, .map b2, .slice true (r2.1.2.wait.map chgAV), .int .i64 r2.1.2.fuse, .bool r2.1.2.down, .int .i64 r2.1.2.steps])]) by
     refine ⟨trivial, ⟨rfl, rfl⟩, ?_⟩
     refine ar_top 167 (.bool false) (congrArg AV.bool hc) ?_
     refine ⟨trivial, ?_⟩
     refine ar_off rfl (ar_off rfl (ar_off rfl (ar_off rfl (ar_off rfl (ar_off rfl (ar_off rfl (ar_off rfl ?_)))))))
     refine ⟨trivial, trivial, ⟨rfl, rfl⟩, trivial, ?_⟩
     show aopsR _ _ _ _ _ [(181, .bool (!(r1.2.2 == 0))), (180, .bool (!(r1.2.2 == 0))), (179, .err 108 r1.2.2), (178, .bool false), (177, .bool false), (176, .lazy false (.junk)), (175, .lazy false (.junk)), (174, .lazy false (.junk)), (173, .lazy false (.junk)), (172, .lazy false (.junk)), (171, .lazy false (.junk)), (170, .lazy false (.junk)), (169, .lazy false (.junk)), (168, .bool false), (167, .bool false), (166, .err 108 r1.2.2), (0, .slice false (l.map actAV)), (4, .ptr ⟨b4, 0, none⟩), (8, .int .i64 last), (9, .int .i64 i), (12, .int .i64 r1.2.1), (13, .err 108 r1.2.2), (14, .int .i64 r2.2.1), (15, .err 108 r1.2.2), (107, .bool false)] _
     refine (bool_ff ((r1.2.2 == 0))).elim (fun h14 => ?_) (fun h14 => ?_)
     ·
      refine ar_frame [(181, .bool true), (180, .bool true), (179, .err 108 r1.2.2), (178, .bool false), (177, .bool false), (176, .lazy false (.junk)), (175, .lazy false (.junk)), (174, .lazy false (.junk)), (173, .lazy false (.junk)), (172, .lazy false (.junk)), (171, .lazy false (.junk)), (170, .lazy false (.junk)), (169, .lazy false (.junk)), (168, .bool false), (167, .bool false), (166, .err 108 r1.2.2), (0, .slice false (l.map actAV)), (4, .ptr ⟨b4, 0, none⟩), (8, .int .i64 last), (9, .int .i64 i), (12, .int .i64 r1.2.1), (13, .err 108 r1.2.2), (14, .int .i64 r2.2.1), (15, .err 108 r1.2.2), (107, .bool false)] (by first | (rw [h14]; done) | (rw [h14]; rfl)) ?_
      try rw [h14] at key
      replace h14 : r1.2.2 ≠ 0 := (ne_of_beq_false h14)
      refine ⟨trivial, ?_⟩
      refine u_number r1.2.2 _ _ ?_
      refine ⟨trivial, ?_⟩
      refine u_number r1.2.2 _ _ ?_
      refine ⟨trivial, ?_⟩
      refine ar_top 186 (.bool false) (congrArg AV.bool (by simp)) ?_
      exact key
     ·
      refine ar_frame [(181, .bool false), (180, .bool false), (179, .err 108 r1.2.2), (178, .bool false), (177, .bool false), (176, .lazy false (.junk)), (175, .lazy false (.junk)), (174, .lazy false (.junk)), (173, .lazy false (.junk)), (172, .lazy false (.junk)), (171, .lazy false (.junk)), (170, .lazy false (.junk)), (169, .lazy false (.junk)), (168, .bool false), (167, .bool false), (166, .err 108 r1.2.2), (0, .slice false (l.map actAV)), (4, .ptr ⟨b4, 0, none⟩), (8, .int .i64 last), (9, .int .i64 i), (12, .int .i64 r1.2.1), (13, .err 108 r1.2.2), (14, .int .i64 r2.2.1), (15, .err 108 r1.2.2), (107, .bool false)] (by first | (rw [h14]; done) | (rw [h14]; rfl)) ?_
      try rw [h14] at key
      replace h14 : r1.2.2 = 0 := (eq_of_beq h14)
      refine ar_off rfl (ar_off rfl (ar_off rfl (ar_off rfl (ar_off rfl ?_))))
      exact key
    refine hK1 _ _ ?_; clear hK1 K1
    refine awp_cond rfl rfl (fun h15 => ?_) (fun h15 => ?_)
    ·
     replace h15 : (r1.2.2 = 0) ∧ (False) := ⟨(eq_of_beq (bnF (bnT (bandL h15)))), (by cases (bandR h15))⟩
     refine awp_reg2_seq [] [2] (by decide) ?_
     intro K1 hK1
     refine ⟨trivial, ?_⟩
     show K1 [(2, .bool false)] (AMem.wth m [(b8, actObj (gI l i)), (b4, cObj b1 b7 b6 b5 r2.1.1), (b5, fObj r2.1.1.fails), (b6, oObj r2.1.1.tokens), (b7, tObj r2.1.1.things), (b1, .cells [.map b3, .map b2, .slice true (r2.1.2.wait.map chgAV), .int .i64 r2.1.2.fuse, .bool r2.1.2.down, .int .i64 r2.1.2.steps])])
     refine hK1 _ _ ?_; clear hK1 K1
     refine awp_ret ?_
     refine ⟨trivial, m, (wth_sub2 (m := m) [(b8, actObj (gI l i)), (b4, cObj b1 b7 b6 b5 r2.1.1), (b5, fObj r2.1.1.fails), (b6, oObj r2.1.1.tokens), (b7, tObj r2.1.1.things), (b1, .cells [.map b3, .map b2, .slice true (r2.1.2.wait.map chgAV), .int .i64 r2.1.2.fuse, .bool r2.1.2.down, .int .i64 r2.1.2.steps])] [] hNb8 (by simp only [List.map_cons, List.map_nil, List.forall_mem_cons]; exact ⟨hFb8, hFb4, hFb5, hFb6, hFb7, hFb1, fun _ h => by cases h⟩)), ?_⟩
     show K (.bool false) m
    
     first | exact hK | (exfalso; have q := hT.new hc (by assumption); have := hI.2.2.2.2; omega) | (exfalso; have q0 := eq_of_beq hc; have q := hT.id q0; simp_all; done) | (exfalso; have q0 := eq_of_beq hc; simp_all; done) | (exfalso; have q0 := ne_of_beq_false hc; simp_all; done)
    replace h15 : (r1.2.2 ≠ 0) ∨ (True) := ((bandF h15).imp (fun q => (ne_of_beq_false (bnT (bnF q)))) (fun q => trivial))
    refine awp_skip ?_
    refine hK7 _ _ ?_; clear hK7
    have hNd4 : ([b4, b5, b6, b7, b1] : List Nat).Nodup := drop_nodup (L := [(b8, actObj (gI l i)), (b4, cObj b1 b7 b6 b5 r2.1.1), (b5, fObj r2.1.1.fails), (b6, oObj r2.1.1.tokens), (b7, tObj r2.1.1.things), (b1, .cells [.map b3, .map b2, .slice true (r2.1.2.wait.map chgAV), .int .i64 r2.1.2.fuse, .bool r2.1.2.down, .int .i64 r2.1.2.steps])]) hNb8 (pick_perm [0] _)
    refine awp_dropP [(b8, actObj (gI l i))] [(b4, cObj b1 b7 b6 b5 r2.1.1), (b5, fObj r2.1.1.fails), (b6, oObj r2.1.1.tokens), (b7, tObj r2.1.1.things), (b1, .cells [.map b3, .map b2, .slice true (r2.1.2.wait.map chgAV), .int .i64 r2.1.2.fuse, .bool r2.1.2.down, .int .i64 r2.1.2.steps])] hNb8 (pick_perm [0] _) (by simp only [List.map_cons, List.map_nil, List.forall_mem_cons]; exact ⟨hFb8, fun _ h => by cases h⟩) ?_
    refine awp_reg2 [] [0, 4, 8, 9] (by decide) ?_
    intro K1 hK1
    refine ⟨trivial, ?_⟩
    refine ar_add rfl (a := i) (b := 1) rfl rfl (by omega) (by omega) ?_
    refine ⟨trivial, ?_⟩
    show K1 [(0, .slice false (l.map actAV)), (4, .ptr ⟨b4, 0, none⟩), (8, .int .i64 last), (9, .int .i64 (i + 1))] (AMem.wth m [(b4, cObj b1 b7 b6 b5 r2.1.1), (b5, fObj r2.1.1.fails), (b6, oObj r2.1.1.tokens), (b7, tObj r2.1.1.things), (b1, .cells [.map b3, .map b2, .slice true (r2.1.2.wait.map chgAV), .int .i64 r2.1.2.fuse, .bool r2.1.2.down, .int .i64 r2.1.2.steps])])
    refine hK1 _ _ ?_; clear hK1 K1
    refine ⟨(last, i + 1, r2.1.1, r2.1.2), rfl, rfl, ?_, ?_⟩
    ·
     show 0 ≤ ((i + 1 : Int)) ∧ ((i + 1 : Int)) ≤ l.length ∧ TK ((r2.1.1 : ClSt)) ((r2.1.2 : DSt)) (2 * ((i + 1 : Int)).toNat + 1) ∧ 1 ≤ last ∧ last < ((r2.1.1 : ClSt)).next
     refine ⟨by omega, by omega, ?_⟩
     first | exact hT.back2 hc (by assumption) hI.2.2.2 (by omega) | exact hT.back hI.2.2.2 (by omega) | exact ⟨hI.2.2.1.mono (by omega), hI.2.2.2⟩
    ·
     show l.length - ((i + 1 : Int)).toNat < l.length - i.toNat
     omega
  replace h3 : (gI l i).kind ≠ ([99, 114, 101, 97, 116, 101] : List UInt8) := (ne_of_beq_false h3)
  refine awp_reg2_seq [] [0, 4, 8, 9, 10, 12, 14, 63, 112] (by decide) ?_
  intro K1 hK1
  refine ⟨trivial, trivial, ?_⟩
  show K1 [(0, .slice false (l.map actAV)), (4, .ptr ⟨b4, 0, none⟩), (8, .int .i64 last), (9, .int .i64 i), (10, .ptr ⟨b8, 0, none⟩), (12, .int .i64 0), (14, .int .i64 0), (63, .str ((gI l i).kind)), (112, .bool (((gI l i).kind) == ([117, 112, 100, 97, 116, 101] : List UInt8)))] (AMem.wth m [(b8, actObj (gI l i)), (b4, cObj b1 b7 b6 b5 c), (b5, fObj c.fails), (b6, oObj c.tokens), (b7, tObj c.things), (b1, .cells [.map b3, .map b2, .slice true (s.wait.map chgAV), .int .i64 s.fuse, .bool s.down, .int .i64 s.steps])])
  refine hK1 _ _ ?_; clear hK1 K1
  refine awp_cond rfl rfl (fun h16 => ?_) (fun h16 => ?_)
  ·
   replace h16 : (gI l i).kind = ([117, 112, 100, 97, 116, 101] : List UInt8) := (eq_of_beq h16)
   refine awp_reg2_seq [] [0, 4, 8, 9, 10, 12, 13, 14] (by decide) ?_
   intro K1 hK1
   refine ⟨trivial, ⟨rfl, by decide⟩, ?_⟩
   refine ar_loadp rfl (v := .str ((gI l i).s)) rfl (wth_get 0 hNb8 rfl) rfl (apartOk_one rfl rfl (Nat.le_of_ble_eq_true rfl)) rfl ?_
   refine ⟨⟨rfl, by decide⟩, ?_⟩
   refine ar_loadp rfl (v := .int .i64 ((gI l i).a)) rfl (wth_get 0 hNb8 rfl) rfl (apartOk_one rfl rfl (Nat.le_of_ble_eq_true rfl)) rfl ?_
   refine ⟨⟨rfl, by decide⟩, ?_⟩
   refine ar_loadp rfl (v := .agg [.int .i64 (((gI l i).v).kind), .int .i64 (((gI l i).v).n), .str (((gI l i).v).s), .slice false ((((gI l i).v).l).map valIn), .slice false ((((gI l i).v).f).map fldIn)]) rfl (wth_get 0 hNb8 rfl) rfl (apartOk_agg rfl rfl (Nat.le_of_ble_eq_true rfl)) rfl ?_
   refine ar_mem (wth_split hNb8 (pick_perm [1, 4, 3, 2, 1] _)) ?_
   refine u_UpdateK b4 b1 b7 b6 b5 b3 b2 c s ((gI l i).s) ((gI l i).a) ((gI l i).v) _ (by have hQ := hNb8; simp at hQ ⊢; omega) hI.2.2.1 (by omega) _ _ ?_
   show aopsR _ _ _ _ _ _ (AMem.wth (AMem.wth m [(b8, actObj (gI l i))]) [(b4, cObj b1 b7 b6 b5 ((updateR c s ((gI l i).s) ((gI l i).a) ((gI l i).v)).1.1)), (b1, .cells [.map b3, .map b2, .slice true ((((updateR c s ((gI l i).s) ((gI l i).a) ((gI l i).v)).1.2).wait).map chgAV), .int .i64 (((updateR c s ((gI l i).s) ((gI l i).a) ((gI l i).v)).1.2).fuse), .bool (((updateR c s ((gI l i).s) ((gI l i).a) ((gI l i).v)).1.2).down), .int .i64 (((updateR c s ((gI l i).s) ((gI l i).a) ((gI l i).v)).1.2).steps)]), (b7, tObj ((updateR c s ((gI l i).s) ((gI l i).a) ((gI l i).v)).1.1.things)), (b6, oObj ((updateR c s ((gI l i).s) ((gI l i).a) ((gI l i).v)).1.1.tokens)), (b5, fObj ((updateR c s ((gI l i).s) ((gI l i).a) ((gI l i).v)).1.1.fails))])
   refine ar_mem (wth_split (m := m) (L := [(b8, actObj (gI l i)), (b4, cObj b1 b7 b6 b5 ((updateR c s ((gI l i).s) ((gI l i).a) ((gI l i).v)).1.1)), (b5, fObj ((updateR c s ((gI l i).s) ((gI l i).a) ((gI l i).v)).1.1.fails)), (b6, oObj ((updateR c s ((gI l i).s) ((gI l i).a) ((gI l i).v)).1.1.tokens)), (b7, tObj ((updateR c s ((gI l i).s) ((gI l i).a) ((gI l i).v)).1.1.things)), (b1, .cells [.map b3, .map b2, .slice true ((((updateR c s ((gI l i).s) ((gI l i).a) ((gI l i).v)).1.2).wait).map chgAV), .int .i64 (((updateR c s ((gI l i).s) ((gI l i).a) ((gI l i).v)).1.2).fuse), .bool (((updateR c s ((gI l i).s) ((gI l i).a) ((gI l i).v)).1.2).down), .int .i64 (((updateR c s ((gI l i).s) ((gI l i).a) ((gI l i).v)).1.2).steps)])]) hNb8 (pick_perm [1, 4, 3, 2, 1] _)).symm ?_
   refine ⟨trivial, ?_⟩
   show K1 [(0, .slice false (l.map actAV)), (4, .ptr ⟨b4, 0, none⟩), (8, .int .i64 last), (9, .int .i64 i), (10, .ptr ⟨b8, 0, none⟩), (12, .int .i64 0), (13, .err 108 ((updateR c s ((gI l i).s) ((gI l i).a) ((gI l i).v)).2)), (14, .int .i64 0)] (AMem.wth m [(b8, actObj (gI l i)), (b4, cObj b1 b7 b6 b5 ((updateR c s ((gI l i).s) ((gI l i).a) ((gI l i).v)).1.1)), (b5, fObj ((updateR c s ((gI l i).s) ((gI l i).a) ((gI l i).v)).1.1.fails)), (b6, oObj ((updateR c s ((gI l i).s) ((gI l i).a) ((gI l i).v)).1.1.tokens)), (b7, tObj ((updateR c s ((gI l i).s) ((gI l i).a) ((gI l i).v)).1.1.things)), (b1, .cells [.map b3, .map b2, .slice true ((((updateR c s ((gI l i).s) ((gI l i).a) ((gI l i).v)).1.2).wait).map chgAV), .int .i64 (((updateR c s ((gI l i).s) ((gI l i).a) ((gI l i).v)).1.2).fuse), .bool (((updateR c s ((gI l i).s) ((gI l i).a) ((gI l i).v)).1.2).down), .int .i64 (((updateR c s ((gI l i).s) ((gI l i).a) ((gI l i).v)).1.2).steps)])])
   refine hK1 _ _ ?_; clear hK1 K1
   have hT := TK.update2 (token := (gI l i).s) (id := (gI l i).a) (v := (gI l i).v) hI.2.2.1
   generalize (updateR c s ((gI l i).s) ((gI l i).a) ((gI l i).v)) = r1 at hT ⊢
   refine awp_reg2_seq [] [0, 4, 8, 9, 10, 12, 13, 14, 17] (by decide) ?_
   intro K1 hK1
   refine ⟨trivial, ?_⟩
   refine ar_mem (wth_split hNb8 (pick_perm [1, 3] _)) ?_
   refine u_AllK b4 b1 b7 b6 b5 r1.1.1 r1.1.2 _ (allT r1.1.1) rfl (by have hQ := hNb8; simp at hQ ⊢; omega) hT.k1 (by omega) _ _ ?_
   show aopsR _ _ _ _ _ _ (AMem.wth (AMem.wth m [(b8, actObj (gI l i)), (b5, fObj r1.1.1.fails), (b6, oObj r1.1.1.tokens), (b1, .cells [.map b3, .map b2, .slice true (r1.1.2.wait.map chgAV), .int .i64 r1.1.2.fuse, .bool r1.1.2.down, .int .i64 r1.1.2.steps])]) [(b4, cObj b1 b7 b6 b5 r1.1.1), (b7, tObj r1.1.1.things)])
   refine ar_mem (wth_split (m := m) (L := [(b8, actObj (gI l i)), (b4, cObj b1 b7 b6 b5 r1.1.1), (b5, fObj r1.1.1.fails), (b6, oObj r1.1.1.tokens), (b7, tObj r1.1.1.things), (b1, .cells [.map b3, .map b2, .slice true (r1.1.2.wait.map chgAV), .int .i64 r1.1.2.fuse, .bool r1.1.2.down, .int .i64 r1.1.2.steps])]) hNb8 (pick_perm [1, 3] _)).symm ?_
   refine ⟨trivial, ?_⟩
   show K1 [(0, .slice false (l.map actAV)), (4, .ptr ⟨b4, 0, none⟩), (8, .int .i64 last), (9, .int .i64 i), (10, .ptr ⟨b8, 0, none⟩), (12, .int .i64 0), (13, .err 108 r1.2), (14, .int .i64 0), (17, .slice false ((allT r1.1.1).map thgAV))] (AMem.wth m [(b8, actObj (gI l i)), (b4, cObj b1 b7 b6 b5 r1.1.1), (b5, fObj r1.1.1.fails), (b6, oObj r1.1.1.tokens), (b7, tObj r1.1.1.things), (b1, .cells [.map b3, .map b2, .slice true (r1.1.2.wait.map chgAV), .int .i64 r1.1.2.fuse, .bool r1.1.2.down, .int .i64 r1.1.2.steps])])
   refine hK1 _ _ ?_; clear hK1 K1
   refine awp_reg2_seq [] [0, 4, 8, 9, 12, 13, 14, 15, 17] (by decide) ?_
   intro K1 hK1
   refine ⟨trivial, ⟨rfl, by decide⟩, ?_⟩
   refine ar_loadp rfl (v := .str ((gI l i).s)) rfl (wth_get 0 hNb8 rfl) rfl (apartOk_one rfl rfl (Nat.le_of_ble_eq_true rfl)) rfl ?_
   refine ⟨⟨rfl, by decide⟩, ?_⟩
   refine ar_loadp rfl (v := .int .i64 ((gI l i).a)) rfl (wth_get 0 hNb8 rfl) rfl (apartOk_one rfl rfl (Nat.le_of_ble_eq_true rfl)) rfl ?_
   refine ⟨⟨rfl, by decide⟩, ?_⟩
   refine ar_loadp rfl (v := .agg [.int .i64 (((gI l i).v).kind), .int .i64 (((gI l i).v).n), .str (((gI l i).v).s), .slice false ((((gI l i).v).l).map valIn), .slice false ((((gI l i).v).f).map fldIn)]) rfl (wth_get 0 hNb8 rfl) rfl (apartOk_agg rfl rfl (Nat.le_of_ble_eq_true rfl)) rfl ?_
   refine ar_mem (wth_split hNb8 (pick_perm [1, 4, 3, 2, 1] _)) ?_
   refine u_UpdateK b4 b1 b7 b6 b5 b3 b2 r1.1.1 r1.1.2 ((gI l i).s) ((gI l i).a) ((gI l i).v) _ (by have hQ := hNb8; simp at hQ ⊢; omega) hT.k1 (by omega) _ _ ?_
   show aopsR _ _ _ _ _ _ (AMem.wth (AMem.wth m [(b8, actObj (gI l i))]) [(b4, cObj b1 b7 b6 b5 ((updateR r1.1.1 r1.1.2 ((gI l i).s) ((gI l i).a) ((gI l i).v)).1.1)), (b1, .cells [.map b3, .map b2, .slice true ((((updateR r1.1.1 r1.1.2 ((gI l i).s) ((gI l i).a) ((gI l i).v)).1.2).wait).map chgAV), .int .i64 (((updateR r1.1.1 r1.1.2 ((gI l i).s) ((gI l i).a) ((gI l i).v)).1.2).fuse), .bool (((updateR r1.1.1 r1.1.2 ((gI l i).s) ((gI l i).a) ((gI l i).v)).1.2).down), .int .i64 (((updateR r1.1.1 r1.1.2 ((gI l i).s) ((gI l i).a) ((gI l i).v)).1.2).steps)]), (b7, tObj ((updateR r1.1.1 r1.1.2 ((gI l i).s) ((gI l i).a) ((gI l i).v)).1.1.things)), (b6, oObj ((updateR r1.1.1 r1.1.2 ((gI l i).s) ((gI l i).a) ((gI l i).v)).1.1.tokens)), (b5, fObj ((updateR r1.1.1 r1.1.2 ((gI l i).s) ((gI l i).a) ((gI l i).v)).1.1.fails))])
   refine ar_mem (wth_split (m := m) (L := [(b8, actObj (gI l i)), (b4, cObj b1 b7 b6 b5 ((updateR r1.1.1 r1.1.2 ((gI l i).s) ((gI l i).a) ((gI l i).v)).1.1)), (b5, fObj ((updateR r1.1.1 r1.1.2 ((gI l i).s) ((gI l i).a) ((gI l i).v)).1.1.fails)), (b6, oObj ((updateR r1.1.1 r1.1.2 ((gI l i).s) ((gI l i).a) ((gI l i).v)).1.1.tokens)), (b7, tObj ((updateR r1.1.1 r1.1.2 ((gI l i).s) ((gI l i).a) ((gI l i).v)).1.1.things)), (b1, .cells [.map b3, .map b2, .slice true ((((updateR r1.1.1 r1.1.2 ((gI l i).s) ((gI l i).a) ((gI l i).v)).1.2).wait).map chgAV), .int .i64 (((updateR r1.1.1 r1.1.2 ((gI l i).s) ((gI l i).a) ((gI l i).v)).1.2).fuse), .bool (((updateR r1.1.1 r1.1.2 ((gI l i).s) ((gI l i).a) ((gI l i).v)).1.2).down), .int .i64 (((updateR r1.1.1 r1.1.2 ((gI l i).s) ((gI l i).a) ((gI l i).v)).1.2).steps)])]) hNb8 (pick_perm [1, 4, 3, 2, 1] _)).symm ?_
   refine ⟨trivial, ?_⟩
   show K1 [(0, .slice false (l.map actAV)), (4, .ptr ⟨b4, 0, none⟩), (8, .int .i64 last), (9, .int .i64 i), (12, .int .i64 0), (13, .err 108 r1.2), (14, .int .i64 0), (15, .err 108 ((updateR r1.1.1 r1.1.2 ((gI l i).s) ((gI l i).a) ((gI l i).v)).2)), (17, .slice false ((allT r1.1.1).map thgAV))] (AMem.wth m [(b8, actObj (gI l i)), (b4, cObj b1 b7 b6 b5 ((updateR r1.1.1 r1.1.2 ((gI l i).s) ((gI l i).a) ((gI l i).v)).1.1)), (b5, fObj ((updateR r1.1.1 r1.1.2 ((gI l i).s) ((gI l i).a) ((gI l i).v)).1.1.fails)), (b6, oObj ((updateR r1.1.1 r1.1.2 ((gI l i).s) ((gI l i).a) ((gI l i).v)).1.1.tokens)), (b7, tObj ((updateR r1.1.1 r1.1.2 ((gI l i).s) ((gI l i).a) ((gI l i).v)).1.1.things)), (b1, .cells [.map b3, .map b2, .slice true ((((updateR r1.1.1 r1.1.2 ((gI l i).s) ((gI l i).a) ((gI l i).v)).1.2).wait).map chgAV), .int .i64 (((updateR r1.1.1 r1.1.2 ((gI l i).s) ((gI l i).a) ((gI l i).v)).1.2).fuse), .bool (((updateR r1.1.1 r1.1.2 ((gI l i).s) ((gI l i).a) ((gI l i).v)).1.2).down), .int .i64 (((updateR r1.1.1 r1.1.2 ((gI l i).s) ((gI l i).a) ((gI l i).v)).1.2).steps)])])
   refine hK1 _ _ ?_; clear hK1 K1
   generalize (updateR r1.1.1 r1.1.2 ((gI l i).s) ((gI l i).a) ((gI l i).v)) = r2 at hT ⊢
   have hTe := hT.er
   rw [hTe]
   refine casesB (r1.2 == 0) (fun hc => ?_) (fun hc => ?_)
   ·
    skip
    refine awp_reg2_seq [] [0, 4, 8, 9, 12, 13, 14, 15, 140] (by decide) ?_
    intro K1 hK1
    suffices key : K1 [(0, .slice false (l.map actAV)), (4, .ptr ⟨b4, 0, none⟩), (8, .int .i64 last), (9, .int .i64 i), (12, .int .i64 0), (13, .err 108 r1.2), (14, .int .i64 0), (15, .err 108 r1.2), (140, .bool false)] (AMem.wth m [(b8, actObj (gI l i)), (b4, cObj b1 b7 b6 b5 r2.1.1), (b5, fObj r2.1.1.fails), (b6, oObj r2.1.1.tokens), (b7, tObj r2.1.1.things), (b1, .cells [.map b3, .map b2, .slice true (r2.1.2.wait.map chgAV), .int .i64 r2.1.2.fuse, .bool r2.1.2.down, .int .i64 r2.1.2.steps])]) by
     refine ⟨trivial, ⟨rfl, rfl⟩, ?_⟩
     refine ar_top 133 (.bool true) (congrArg AV.bool hc) ?_
     refine ⟨trivial, trivial, trivial, ?_⟩
     refine ar_mem (wth_split hNb8 (pick_perm [1, 3] _)) ?_
     refine u_AllK b4 b1 b7 b6 b5 r2.1.1 r2.1.2 _ (allT r1.1.1) (allT_eq (hT.th (eq_of_beq hc))) (by have hQ := hNb8; simp at hQ ⊢; omega) hT.k2 (by omega) _ _ ?_
     show aopsR _ _ _ _ _ _ (AMem.wth (AMem.wth m [(b8, actObj (gI l i)), (b5, fObj r2.1.1.fails), (b6, oObj r2.1.1.tokens), (b1, .cells [.map b3, .map b2, .slice true (r2.1.2.wait.map chgAV), .int .i64 r2.1.2.fuse, .bool r2.1.2.down, .int .i64 r2.1.2.steps])]) [(b4, cObj b1 b7 b6 b5 r2.1.1), (b7, tObj r2.1.1.things)])
     refine ar_mem (wth_split (m := m) (L := [(b8, actObj (gI l i)), (b4, cObj b1 b7 b6 b5 r2.1.1), (b5, fObj r2.1.1.fails), (b6, oObj r2.1.1.tokens), (b7, tObj r2.1.1.things), (b1, .cells [.map b3, .map b2, .slice true (r2.1.2.wait.map chgAV), .int .i64 r2.1.2.fuse, .bool r2.1.2.down, .int .i64 r2.1.2.steps])]) hNb8 (pick_perm [1, 3] _)).symm ?_
     refine u_SameThings1 (allT r1.1.1) _ _ ?_
     refine ⟨trivial, ?_⟩
     exact key
    refine hK1 _ _ ?_; clear hK1 K1
    refine awp_cond rfl rfl (fun hcz => ?_) (fun hcz => ?_)
    ·
     cases hcz
    clear hcz
    refine awp_skip ?_
    refine hK8 _ _ ?_; clear hK8
    refine awp_reg2_seq [] [0, 4, 8, 9, 188] (by decide) ?_
    intro K1 hK1
    suffices key : K1 [(0, .slice false (l.map actAV)), (4, .ptr ⟨b4, 0, none⟩), (8, .int .i64 last), (9, .int .i64 i), (188, .bool ((!(r1.2 == 0)) || ((!(!(r1.2 == 0))) && false)))] (AMem.wth m [(b8, actObj (gI l i)), (b4, cObj b1 b7 b6 b5 r2.1.1), (b5, fObj r2.1.1.fails), (b6, oObj r2.1.1.tokens), (b7, tObj r2.1.1.things), (b1, .cells [.map b3, .map b2, .slice true (r2.1.2.wait.map chgAV), .int .i64 r2.1.2.fuse, .bool r2.1.2.down, .int .i64 r2.1.2.steps])]) by
     refine ⟨trivial, ⟨rfl, rfl⟩, ?_⟩
     refine ar_top 167 (.bool true) (congrArg AV.bool hc) ?_
     refine ⟨trivial, trivial, ?_⟩
     refine u_number r1.2 _ _ ?_
     refine ⟨trivial, trivial, ?_⟩
     show aopsR _ _ _ _ _ [(172, .bool (!(r1.2 == 0))), (171, .bool (!(r1.2 == 0))), (170, .int .i64 r1.2), (169, .err 108 r1.2), (168, .bool true), (167, .bool true), (166, .err 108 r1.2), (0, .slice false (l.map actAV)), (4, .ptr ⟨b4, 0, none⟩), (8, .int .i64 last), (9, .int .i64 i), (12, .int .i64 0), (13, .err 108 r1.2), (14, .int .i64 0), (15, .err 108 r1.2), (140, .bool false)] _
     refine (bool_ff ((r1.2 == 0))).elim (fun h17 => ?_) (fun h17 => ?_)
     ·
      refine ar_frame [(172, .bool true), (171, .bool true), (170, .int .i64 r1.2), (169, .err 108 r1.2), (168, .bool true), (167, .bool true), (166, .err 108 r1.2), (0, .slice false (l.map actAV)), (4, .ptr ⟨b4, 0, none⟩), (8, .int .i64 last), (9, .int .i64 i), (12, .int .i64 0), (13, .err 108 r1.2), (14, .int .i64 0), (15, .err 108 r1.2), (140, .bool false)] (by first | (rw [h17]; done) | (rw [h17]; rfl)) ?_
      try rw [h17] at key
      replace h17 : r1.2 ≠ 0 := (ne_of_beq_false h17)
      refine ar_off rfl (ar_off rfl (ar_off rfl ?_))
      refine ⟨trivial, ?_⟩
      refine ar_off rfl (ar_off rfl (ar_off rfl (ar_off rfl (ar_off rfl (ar_off rfl (ar_off rfl (ar_off rfl (ar_off rfl ?_))))))))
      exact key
     ·
      refine ar_frame [(172, .bool false), (171, .bool false), (170, .int .i64 r1.2), (169, .err 108 r1.2), (168, .bool true), (167, .bool true), (166, .err 108 r1.2), (0, .slice false (l.map actAV)), (4, .ptr ⟨b4, 0, none⟩), (8, .int .i64 last), (9, .int .i64 i), (12, .int .i64 0), (13, .err 108 r1.2), (14, .int .i64 0), (15, .err 108 r1.2), (140, .bool false)] (by first | (rw [h17]; done) | (rw [h17]; rfl)) ?_
      try rw [h17] at key
      replace h17 : r1.2 = 0 := (eq_of_beq h17)
      refine ⟨trivial, trivial, trivial, ?_⟩
      refine ar_top 175 (.bool false) (congrArg AV.bool (by simp)) ?_
      refine ⟨trivial, trivial, ⟨rfl, rfl⟩, trivial, ?_⟩
      show aopsR _ _ _ _ _ [(181, .bool (!(r1.2 == 0))), (180, .bool (!(r1.2 == 0))), (179, .err 108 r1.2), (178, .bool false), (177, .bool false), (176, .bool false), (175, .bool false), (174, .int .i64 0), (173, .int .i64 0), (172, .bool false), (171, .bool false), (170, .int .i64 r1.2), (169, .err 108 r1.2), (168, .bool true), (167, .bool true), (166, .err 108 r1.2), (0, .slice false (l.map actAV)), (4, .ptr ⟨b4, 0, none⟩), (8, .int .i64 last), (9, .int .i64 i), (12, .int .i64 0), (13, .err 108 r1.2), (14, .int .i64 0), (15, .err 108 r1.2), (140, .bool false)] _
      refine (bool_ff ((r1.2 == 0))).elim (fun h18 => ?_) (fun h18 => ?_)
      ·
       refine ar_frame [(181, .bool true), (180, .bool true), (179, .err 108 r1.2), (178, .bool false), (177, .bool false), (176, .bool false), (175, .bool false), (174, .int .i64 0), (173, .int .i64 0), (172, .bool false), (171, .bool false), (170, .int .i64 r1.2), (169, .err 108 r1.2), (168, .bool true), (167, .bool true), (166, .err 108 r1.2), (0, .slice false (l.map actAV)), (4, .ptr ⟨b4, 0, none⟩), (8, .int .i64 last), (9, .int .i64 i), (12, .int .i64 0), (13, .err 108 r1.2), (14, .int .i64 0), (15, .err 108 r1.2), (140, .bool false)] (by first | (rw [h18]; done) | (rw [h18]; rfl)) ?_
       try rw [h18] at key
       replace h18 : r1.2 ≠ 0 := (ne_of_beq_false h18)
       refine ⟨trivial, ?_⟩
       refine u_number r1.2 _ _ ?_
       refine ⟨trivial, ?_⟩
       refine u_number r1.2 _ _ ?_
       refine ⟨trivial, ?_⟩
       refine ar_top 186 (.bool false) (congrArg AV.bool (by simp)) ?_
       exact key
      ·
       refine ar_frame [(181, .bool false), (180, .bool false), (179, .err 108 r1.2), (178, .bool false), (177, .bool false), (176, .bool false), (175, .bool false), (174, .int .i64 0), (173, .int .i64 0), (172, .bool false), (171, .bool false), (170, .int .i64 r1.2), (169, .err 108 r1.2), (168, .bool true), (167, .bool true), (166, .err 108 r1.2), (0, .slice false (l.map actAV)), (4, .ptr ⟨b4, 0, none⟩), (8, .int .i64 last), (9, .int .i64 i), (12, .int .i64 0), (13, .err 108 r1.2), (14, .int .i64 0), (15, .err 108 r1.2), (140, .bool false)] (by first | (rw [h18]; done) | (rw [h18]; rfl)) ?_
       try rw [h18] at key
       replace h18 : r1.2 = 0 := (eq_of_beq h18)
       refine ar_off rfl (ar_off rfl (ar_off rfl (ar_off rfl (ar_off rfl ?_))))
       exact key
    refine hK1 _ _ ?_; clear hK1 K1
    refine awp_cond rfl rfl (fun h19 => ?_) (fun h19 => ?_)
    ·
     replace h19 : (r1.2 ≠ 0) ∨ ((r1.2 = 0) ∧ (False)) := ((borT h19).imp (fun q => (ne_of_beq_false (bnT q))) (fun q => ⟨(eq_of_beq (bnF (bnT (bandL q)))), (by cases (bandR q))⟩))
     refine awp_reg2_seq [] [2] (by decide) ?_
     intro K1 hK1
     refine ⟨trivial, ?_⟩
     show K1 [(2, .bool false)] (AMem.wth m [(b8, actObj (gI l i)), (b4, cObj b1 b7 b6 b5 r2.1.1), (b5, fObj r2.1.1.fails), (b6, oObj r2.1.1.tokens), (b7, tObj r2.1.1.things), (b1, .cells [.map b3, .map b2, .slice true (r2.1.2.wait.map chgAV), .int .i64 r2.1.2.fuse, .bool r2.1.2.down, .int .i64 r2.1.2.steps])])
     refine hK1 _ _ ?_; clear hK1 K1
     refine awp_ret ?_
     refine ⟨trivial, m, (wth_sub2 (m := m) [(b8, actObj (gI l i)), (b4, cObj b1 b7 b6 b5 r2.1.1), (b5, fObj r2.1.1.fails), (b6, oObj r2.1.1.tokens), (b7, tObj r2.1.1.things), (b1, .cells [.map b3, .map b2, .slice true (r2.1.2.wait.map chgAV), .int .i64 r2.1.2.fuse, .bool r2.1.2.down, .int .i64 r2.1.2.steps])] [] hNb8 (by simp only [List.map_cons, List.map_nil, List.forall_mem_cons]; exact ⟨hFb8, hFb4, hFb5, hFb6, hFb7, hFb1, fun _ h => by cases h⟩)), ?_⟩
     show K (.bool false) m
    
     first | exact hK | (exfalso; have q := hT.new hc (by assumption); have := hI.2.2.2.2; omega) | (exfalso; have q0 := eq_of_beq hc; have q := hT.id q0; simp_all; done) | (exfalso; have q0 := eq_of_beq hc; simp_all; done) | (exfalso; have q0 := ne_of_beq_false hc; simp_all; done)
    replace h19 : (r1.2 = 0) ∧ ((r1.2 ≠ 0) ∨ (True)) := ⟨(eq_of_beq (bnF (borL h19))), ((bandF (borR h19)).imp (fun q => (ne_of_beq_false (bnT (bnF q)))) (fun q => trivial))⟩
    refine awp_skip ?_
    refine hK7 _ _ ?_; clear hK7
    have hNd5 : ([b4, b5, b6, b7, b1] : List Nat).Nodup := drop_nodup (L := [(b8, actObj (gI l i)), (b4, cObj b1 b7 b6 b5 r2.1.1), (b5, fObj r2.1.1.fails), (b6, oObj r2.1.1.tokens), (b7, tObj r2.1.1.things), (b1, .cells [.map b3, .map b2, .slice true (r2.1.2.wait.map chgAV), .int .i64 r2.1.2.fuse, .bool r2.1.2.down, .int .i64 r2.1.2.steps])]) hNb8 (pick_perm [0] _)
    refine awp_dropP [(b8, actObj (gI l i))] [(b4, cObj b1 b7 b6 b5 r2.1.1), (b5, fObj r2.1.1.fails), (b6, oObj r2.1.1.tokens), (b7, tObj r2.1.1.things), (b1, .cells [.map b3, .map b2, .slice true (r2.1.2.wait.map chgAV), .int .i64 r2.1.2.fuse, .bool r2.1.2.down, .int .i64 r2.1.2.steps])] hNb8 (pick_perm [0] _) (by simp only [List.map_cons, List.map_nil, List.forall_mem_cons]; exact ⟨hFb8, fun _ h => by cases h⟩) ?_
    refine awp_reg2 [] [0, 4, 8, 9] (by decide) ?_
    intro K1 hK1
    refine ⟨trivial, ?_⟩
    refine ar_add rfl (a := i) (b := 1) rfl rfl (by omega) (by omega) ?_
    refine ⟨trivial, ?_⟩
    show K1 [(0, .slice false (l.map actAV)), (4, .ptr ⟨b4, 0, none⟩), (8, .int .i64 last), (9, .int .i64 (i + 1))] (AMem.wth m [(b4, cObj b1 b7 b6 b5 r2.1.1), (b5, fObj r2.1.1.fails), (b6, oObj r2.1.1.tokens), (b7, tObj r2.1.1.things), (b1, .cells [.map b3, .map b2, .slice true (r2.1.2.wait.map chgAV), .int .i64 r2.1.2.fuse, .bool r2.1.2.down, .int .i64 r2.1.2.steps])])
    refine hK1 _ _ ?_; clear hK1 K1
    refine ⟨(last, i + 1, r2.1.1, r2.1.2), rfl, rfl, ?_, ?_⟩
    ·
     show 0 ≤ ((i + 1 : Int)) ∧ ((i + 1 : Int)) ≤ l.length ∧ TK ((r2.1.1 : ClSt)) ((r2.1.2 : DSt)) (2 * ((i + 1 : Int)).toNat + 1) ∧ 1 ≤ last ∧ last < ((r2.1.1 : ClSt)).next
     refine ⟨by omega, by omega, ?_⟩
     first | exact hT.back2 hc (by assumption) hI.2.2.2 (by omega) | exact hT.back hI.2.2.2 (by omega) | exact ⟨hI.2.2.1.mono (by omega), hI.2.2.2⟩
    ·
     show l.length - ((i + 1 : Int)).toNat < l.length - i.toNat
     omega
   ·
    skip
    refine awp_reg2_seq [] [0, 4, 8, 9, 12, 13, 14, 15, 140] (by decide) ?_
    intro K1 hK1
    suffices key : K1 [(0, .slice false (l.map actAV)), (4, .ptr ⟨b4, 0, none⟩), (8, .int .i64 last), (9, .int .i64 i), (12, .int .i64 0), (13, .err 108 r1.2), (14, .int .i64 0), (15, .err 108 r1.2), (140, .bool false)] (AMem.wth m [(b8, actObj (gI l i)), (b4, cObj b1 b7 b6 b5 r2.1.1), (b5, fObj r2.1.1.fails), (b6, oObj r2.1.1.tokens), (b7, tObj r2.1.1.things), (b1, .cells [.map b3, .map b2, .slice true (r2.1.2.wait.map chgAV), .int .i64 r2.1.2.fuse, .bool r2.1.2.down, .int .i64 r2.1.2.steps])]) by
     refine ⟨trivial, ⟨rfl, rfl⟩, ?_⟩
     refine ar_top 133 (.bool false) (congrArg AV.bool hc) ?_
     refine ⟨trivial, ?_⟩
     refine ar_off rfl (ar_off rfl (ar_off rfl (ar_off rfl (ar_off rfl ?_))))
     exact key
    refine hK1 _ _ ?_; clear hK1 K1
    refine awp_cond rfl rfl (fun hcz => ?_) (fun hcz => ?_)
    ·
     cases hcz
    clear hcz
    refine awp_skip ?_
    refine hK8 _ _ ?_; clear hK8
    refine awp_reg2_seq [] [0, 4, 8, 9, 188] (by decide) ?_
    intro K1 hK1
    suffices key : K1 [(0, .slice false (l.map actAV)), (4, .ptr ⟨b4, 0, none⟩), (8, .int .i64 last), (9, .int .i64 i), (188, .bool ((!(!(r1.2 == 0))) && false))] (AMem.wth m [(b8, actObj (gI l i)), (b4, cObj b1 b7 b6 b5 r2.1.1), (b5, fObj r2.1.1.fails), (b6, oObj r2.1.1.tokens), (b7, tObj r2.1.1.things), (b1, .cells [.map b3, .map b2, .slice true (r2.1.2.wait.map chgAV), .int .i64 r2.1.2.fuse, .bool r2.1.2.down, .int .i64 r2.1.2.steps])]) by
     refine ⟨trivial, ⟨rfl, rfl⟩, ?_⟩
     refine ar_top 167 (.bool false) (congrArg AV.bool hc) ?_
     refine ⟨trivial, ?_⟩
     refine ar_off rfl (ar_off rfl (ar_off rfl (ar_off rfl (ar_off rfl (ar_off rfl (ar_off rfl (ar_off rfl ?_)))))))
     refine ⟨trivial, trivial, ⟨rfl, rfl⟩, trivial, ?_⟩
     show aopsR _ _ _ _ _ [(181, .bool (!(r1.2 == 0))), (180, .bool (!(r1.2 == 0))), (179, .err 108 r1.2), (178, .bool false), (177, .bool false), (176, .lazy false (.junk)), (175, .lazy false (.junk)), (174, .lazy false (.junk)), (173, .lazy false (.junk)), (172, .lazy false (.junk)), (171, .lazy false (.junk)), (170, .lazy false (.junk)), (169, .lazy false (.junk)), (168, .bool false), (167, .bool false), (166, .err 108 r1.2), (0, .slice false (l.map actAV)), (4, .ptr ⟨b4, 0, none⟩), (8, .int .i64 last), (9, .int .i64 i), (12, .int .i64 0), (13, .err 108 r1.2), (14, .int .i64 0), (15, .err 108 r1.2), (140, .bool false)] _
     refine (bool_ff ((r1.2 == 0))).elim (fun h20 => ?_) (fun h20 => ?_)
     ·
      refine ar_frame [(181, .bool true), (180, .bool true), (179, .err 108 r1.2), (178, .bool false), (177, .bool false), (176, .lazy false (.junk)), (175, .lazy false (.junk)), (174, .lazy false (.junk)), (173, .lazy false (.junk)), (172, .lazy false (.junk)), (171, .lazy false (.junk)), (170, .lazy false (.junk)), (169, .lazy false (.junk)), (168, .bool false), (167, .bool false), (166, .err 108 r1.2), (0, .slice false (l.map actAV)), (4, .ptr ⟨b4, 0, none⟩), (8, .int .i64 last), (9, .int .i64 i), (12, .int .i64 0), (13, .err 108 r1.2), (14, .int .i64 0), (15, .err 108 r1.2), (140, .bool false)] (by first | (rw [h20]; done) | (rw [h20]; rfl)) ?_
      try rw [h20] at key
      replace h20 : r1.2 ≠ 0 := (ne_of_beq_false h20)
      refine ⟨trivial, ?_⟩
      refine u_number r1.2 _ _ ?_
      refine ⟨trivial, ?_⟩
      refine u_number r1.2 _ _ ?_
      refine ⟨trivial, ?_⟩
      refine ar_top 186 (.bool false) (congrArg AV.bool (by simp)) ?_
      exact key
     ·
      refine ar_frame [(181, .bool false), (180, .bool false), (179, .err 108 r1.2), (178, .bool false), (177, .bool false), (176, .lazy false (.junk)), (175, .lazy false (.junk)), (174, .lazy false (.junk)), (173, .lazy false (.junk)), (172, .lazy false (.junk)), (171, .lazy false (.junk)), (170, .lazy false (.junk)), (169, .lazy false (.junk)), (168, .bool false), (167, .bool false), (166, .err 108 r1.2), (0, .slice false (l.map actAV)), (4, .ptr ⟨b4, 0, none⟩), (8, .int .i64 last), (9, .int .i64 i), (12, .int .i64 0), (13, .err 108 r1.2), (14, .int .i64 0), (15, .err 108 r1.2), (140, .bool false)] (by first | (rw [h20]; done) | (rw [h20]; rfl)) ?_
      try rw [h20] at key
      replace h20 : r1.2 = 0 := (eq_of_beq h20)
      refine ar_off rfl (ar_off rfl (ar_off rfl (ar_off rfl (ar_off rfl ?_))))
      exact key
    refine hK1 _ _ ?_; clear hK1 K1
    refine awp_cond rfl rfl (fun h21 => ?_) (fun h21 => ?_)
    ·
     replace h21 : (r1.2 = 0) ∧ (False) := ⟨(eq_of_beq (bnF (bnT (bandL h21)))), (by cases (bandR h21))⟩
     refine awp_reg2_seq [] [2] (by decide) ?_
     intro K1 hK1
     refine ⟨trivial, ?_⟩
     show K1 [(2, .bool false)] (AMem.wth m [(b8, actObj (gI l i)), (b4, cObj b1 b7 b6 b5 r2.1.1), (b5, fObj r2.1.1.fails), (b6, oObj r2.1.1.tokens), (b7, tObj r2.1.1.things), (b1, .cells [.map b3, .map b2, .slice true (r2.1.2.wait.map chgAV), .int .i64 r2.1.2.fuse, .bool r2.1.2.down, .int .i64 r2.1.2.steps])])
     refine hK1 _ _ ?_; clear hK1 K1
     refine awp_ret ?_
     refine ⟨trivial, m, (wth_sub2 (m := m) [(b8, actObj (gI l i)), (b4, cObj b1 b7 b6 b5 r2.1.1), (b5, fObj r2.1.1.fails), (b6, oObj r2.1.1.tokens), (b7, tObj r2.1.1.things), (b1, .cells [.map b3, .map b2, .slice true (r2.1.2.wait.map chgAV), .int .i64 r2.1.2.fuse, .bool r2.1.2.down, .int .i64 r2.1.2.steps])] [] hNb8 (by simp only [List.map_cons, List.map_nil, List.forall_mem_cons]; exact ⟨hFb8, hFb4, hFb5, hFb6, hFb7, hFb1, fun _ h => by cases h⟩)), ?_⟩
     show K (.bool false) m
    
     first | exact hK | (exfalso; have q := hT.new hc (by assumption); have := hI.2.2.2.2; omega) | (exfalso; have q0 := eq_of_beq hc; have q := hT.id q0; simp_all; done) | (exfalso; have q0 := eq_of_beq hc; simp_all; done) | (exfalso; have q0 := ne_of_beq_false hc; simp_all; done)
    replace h21 : (r1.2 ≠ 0) ∨ (True) := ((bandF h21).imp (fun q => (ne_of_beq_false (bnT (bnF q)))) (fun q => trivial))
    refine awp_skip ?_
    refine hK7 _ _ ?_; clear hK7
    have hNd6 : ([b4, b5, b6, b7, b1] : List Nat).Nodup := drop_nodup (L := [(b8, actObj (gI l i)), (b4, cObj b1 b7 b6 b5 r2.1.1), (b5, fObj r2.1.1.fails), (b6, oObj r2.1.1.tokens), (b7, tObj r2.1.1.things), (b1, .cells [.map b3, .map b2, .slice true (r2.1.2.wait.map chgAV), .int .i64 r2.1.2.fuse, .bool r2.1.2.down, .int .i64 r2.1.2.steps])]) hNb8 (pick_perm [0] _)
    refine awp_dropP [(b8, actObj (gI l i))] [(b4, cObj b1 b7 b6 b5 r2.1.1), (b5, fObj r2.1.1.fails), (b6, oObj r2.1.1.tokens), (b7, tObj r2.1.1.things), (b1, .cells [.map b3, .map b2, .slice true (r2.1.2.wait.map chgAV), .int .i64 r2.1.2.fuse, .bool r2.1.2.down, .int .i64 r2.1.2.steps])] hNb8 (pick_perm [0] _) (by simp only [List.map_cons, List.map_nil, List.forall_mem_cons]; exact ⟨hFb8, fun _ h => by cases h⟩) ?_
    refine awp_reg2 [] [0, 4, 8, 9] (by decide) ?_
    intro K1 hK1
    refine ⟨trivial, ?_⟩
    refine ar_add rfl (a := i) (b := 1) rfl rfl (by omega) (by omega) ?_
    refine ⟨trivial, ?_⟩
    show K1 [(0, .slice false (l.map actAV)), (4, .ptr ⟨b4, 0, none⟩), (8, .int .i64 last), (9, .int .i64 (i + 1))] (AMem.wth m [(b4, cObj b1 b7 b6 b5 r2.1.1), (b5, fObj r2.1.1.fails), (b6, oObj r2.1.1.tokens), (b7, tObj r2.1.1.things), (b1, .cells [.map b3, .map b2, .slice true (r2.1.2.wait.map chgAV), .int .i64 r2.1.2.fuse, .bool r2.1.2.down, .int .i64 r2.1.2.steps])])
    refine hK1 _ _ ?_; clear hK1 K1
    refine ⟨(last, i + 1, r2.1.1, r2.1.2), rfl, rfl, ?_, ?_⟩
    ·
     show 0 ≤ ((i + 1 : Int)) ∧ ((i + 1 : Int)) ≤ l.length ∧ TK ((r2.1.1 : ClSt)) ((r2.1.2 : DSt)) (2 * ((i + 1 : Int)).toNat + 1) ∧ 1 ≤ last ∧ last < ((r2.1.1 : ClSt)).next
     refine ⟨by omega, by omega, ?_⟩
     first | exact hT.back2 hc (by assumption) hI.2.2.2 (by omega) | exact hT.back hI.2.2.2 (by omega) | exact ⟨hI.2.2.1.mono (by omega), hI.2.2.2⟩
    ·
     show l.length - ((i + 1 : Int)).toNat < l.length - i.toNat
     omega
  replace h16 : (gI l i).kind ≠ ([117, 112, 100, 97, 116, 101] : List UInt8) := (ne_of_beq_false h16)
  refine awp_reg2_seq [] [0, 4, 8, 9, 10, 12, 14, 141] (by decide) ?_
  intro K1 hK1
  refine ⟨trivial, trivial, ?_⟩
  show K1 [(0, .slice false (l.map actAV)), (4, .ptr ⟨b4, 0, none⟩), (8, .int .i64 last), (9, .int .i64 i), (10, .ptr ⟨b8, 0, none⟩), (12, .int .i64 0), (14, .int .i64 0), (141, .bool (((gI l i).kind) == ([100, 101, 108, 101, 116, 101] : List UInt8)))] (AMem.wth m [(b8, actObj (gI l i)), (b4, cObj b1 b7 b6 b5 c), (b5, fObj c.fails), (b6, oObj c.tokens), (b7, tObj c.things), (b1, .cells [.map b3, .map b2, .slice true (s.wait.map chgAV), .int .i64 s.fuse, .bool s.down, .int .i64 s.steps])])
  refine hK1 _ _ ?_; clear hK1 K1
  refine awp_cond rfl rfl (fun h22 => ?_) (fun h22 => ?_)
  ·
   replace h22 : (gI l i).kind = ([100, 101, 108, 101, 116, 101] : List UInt8) := (eq_of_beq h22)
   refine awp_reg2_seq [] [0, 4, 8, 9, 10, 12, 13, 14] (by decide) ?_
   intro K1 hK1
   refine ⟨trivial, ⟨rfl, by decide⟩, ?_⟩
   refine ar_loadp rfl (v := .str ((gI l i).s)) rfl (wth_get 0 hNb8 rfl) rfl (apartOk_one rfl rfl (Nat.le_of_ble_eq_true rfl)) rfl ?_
   refine ⟨⟨rfl, by decide⟩, ?_⟩
   refine ar_loadp rfl (v := .int .i64 ((gI l i).a)) rfl (wth_get 0 hNb8 rfl) rfl (apartOk_one rfl rfl (Nat.le_of_ble_eq_true rfl)) rfl ?_
   refine ar_mem (wth_split hNb8 (pick_perm [1, 4, 3, 2, 1] _)) ?_
   refine u_DeleteK b4 b1 b7 b6 b5 b3 b2 c s ((gI l i).s) ((gI l i).a) _ (by have hQ := hNb8; simp at hQ ⊢; omega) hI.2.2.1 (by omega) _ _ ?_
   show aopsR _ _ _ _ _ _ (AMem.wth (AMem.wth m [(b8, actObj (gI l i))]) [(b4, cObj b1 b7 b6 b5 ((deleteR c s ((gI l i).s) ((gI l i).a)).1.1)), (b1, .cells [.map b3, .map b2, .slice true ((((deleteR c s ((gI l i).s) ((gI l i).a)).1.2).wait).map chgAV), .int .i64 (((deleteR c s ((gI l i).s) ((gI l i).a)).1.2).fuse), .bool (((deleteR c s ((gI l i).s) ((gI l i).a)).1.2).down), .int .i64 (((deleteR c s ((gI l i).s) ((gI l i).a)).1.2).steps)]), (b7, tObj ((deleteR c s ((gI l i).s) ((gI l i).a)).1.1.things)), (b6, oObj ((deleteR c s ((gI l i).s) ((gI l i).a)).1.1.tokens)), (b5, fObj ((deleteR c s ((gI l i).s) ((gI l i).a)).1.1.fails))])
   refine ar_mem (wth_split (m := m) (L := [(b8, actObj (gI l i)), (b4, cObj b1 b7 b6 b5 ((deleteR c s ((gI l i).s) ((gI l i).a)).1.1)), (b5, fObj ((deleteR c s ((gI l i).s) ((gI l i).a)).1.1.fails)), (b6, oObj ((deleteR c s ((gI l i).s) ((gI l i).a)).1.1.tokens)), (b7, tObj ((deleteR c s ((gI l i).s) ((gI l i).a)).1.1.things)), (b1, .cells [.map b3, .map b2, .slice true ((((deleteR c s ((gI l i).s) ((gI l i).a)).1.2).wait).map chgAV), .int .i64 (((deleteR c s ((gI l i).s) ((gI l i).a)).1.2).fuse), .bool (((deleteR c s ((gI l i).s) ((gI l i).a)).1.2).down), .int .i64 (((deleteR c s ((gI l i).s) ((gI l i).a)).1.2).steps)])]) hNb8 (pick_perm [1, 4, 3, 2, 1] _)).symm ?_
   refine ⟨trivial, ?_⟩
   show K1 [(0, .slice false (l.map actAV)), (4, .ptr ⟨b4, 0, none⟩), (8, .int .i64 last), (9, .int .i64 i), (10, .ptr ⟨b8, 0, none⟩), (12, .int .i64 0), (13, .err 108 ((deleteR c s ((gI l i).s) ((gI l i).a)).2)), (14, .int .i64 0)] (AMem.wth m [(b8, actObj (gI l i)), (b4, cObj b1 b7 b6 b5 ((deleteR c s ((gI l i).s) ((gI l i).a)).1.1)), (b5, fObj ((deleteR c s ((gI l i).s) ((gI l i).a)).1.1.fails)), (b6, oObj ((deleteR c s ((gI l i).s) ((gI l i).a)).1.1.tokens)), (b7, tObj ((deleteR c s ((gI l i).s) ((gI l i).a)).1.1.things)), (b1, .cells [.map b3, .map b2, .slice true ((((deleteR c s ((gI l i).s) ((gI l i).a)).1.2).wait).map chgAV), .int .i64 (((deleteR c s ((gI l i).s) ((gI l i).a)).1.2).fuse), .bool (((deleteR c s ((gI l i).s) ((gI l i).a)).1.2).down), .int .i64 (((deleteR c s ((gI l i).s) ((gI l i).a)).1.2).steps)])])
   refine hK1 _ _ ?_; clear hK1 K1
   have hT := TK.delete2 (token := (gI l i).s) (id := (gI l i).a) hI.2.2.1
   generalize (deleteR c s ((gI l i).s) ((gI l i).a)) = r1 at hT ⊢
   refine awp_reg2_seq [] [0, 4, 8, 9, 10, 12, 13, 14, 18] (by decide) ?_
   intro K1 hK1
   refine ⟨trivial, ?_⟩
   refine ar_mem (wth_split hNb8 (pick_perm [1, 3] _)) ?_
   refine u_AllK b4 b1 b7 b6 b5 r1.1.1 r1.1.2 _ (allT r1.1.1) rfl (by have hQ := hNb8; simp at hQ ⊢; omega) hT.k1 (by omega) _ _ ?_
   show aopsR _ _ _ _ _ _ (AMem.wth (AMem.wth m [(b8, actObj (gI l i)), (b5, fObj r1.1.1.fails), (b6, oObj r1.1.1.tokens), (b1, .cells [.map b3, .map b2, .slice true (r1.1.2.wait.map chgAV), .int .i64 r1.1.2.fuse, .bool r1.1.2.down, .int .i64 r1.1.2.steps])]) [(b4, cObj b1 b7 b6 b5 r1.1.1), (b7, tObj r1.1.1.things)])
   refine ar_mem (wth_split (m := m) (L := [(b8, actObj (gI l i)), (b4, cObj b1 b7 b6 b5 r1.1.1), (b5, fObj r1.1.1.fails), (b6, oObj r1.1.1.tokens), (b7, tObj r1.1.1.things), (b1, .cells [.map b3, .map b2, .slice true (r1.1.2.wait.map chgAV), .int .i64 r1.1.2.fuse, .bool r1.1.2.down, .int .i64 r1.1.2.steps])]) hNb8 (pick_perm [1, 3] _)).symm ?_
   refine ⟨trivial, ?_⟩
   show K1 [(0, .slice false (l.map actAV)), (4, .ptr ⟨b4, 0, none⟩), (8, .int .i64 last), (9, .int .i64 i), (10, .ptr ⟨b8, 0, none⟩), (12, .int .i64 0), (13, .err 108 r1.2), (14, .int .i64 0), (18, .slice false ((allT r1.1.1).map thgAV))] (AMem.wth m [(b8, actObj (gI l i)), (b4, cObj b1 b7 b6 b5 r1.1.1), (b5, fObj r1.1.1.fails), (b6, oObj r1.1.1.tokens), (b7, tObj r1.1.1.things), (b1, .cells [.map b3, .map b2, .slice true (r1.1.2.wait.map chgAV), .int .i64 r1.1.2.fuse, .bool r1.1.2.down, .int .i64 r1.1.2.steps])])
   refine hK1 _ _ ?_; clear hK1 K1
   refine awp_reg2_seq [] [0, 4, 8, 9, 12, 13, 14, 15, 18] (by decide) ?_
   intro K1 hK1
   refine ⟨trivial, ⟨rfl, by decide⟩, ?_⟩
   refine ar_loadp rfl (v := .str ((gI l i).s)) rfl (wth_get 0 hNb8 rfl) rfl (apartOk_one rfl rfl (Nat.le_of_ble_eq_true rfl)) rfl ?_
   refine ⟨⟨rfl, by decide⟩, ?_⟩
   refine ar_loadp rfl (v := .int .i64 ((gI l i).a)) rfl (wth_get 0 hNb8 rfl) rfl (apartOk_one rfl rfl (Nat.le_of_ble_eq_true rfl)) rfl ?_
   refine ar_mem (wth_split hNb8 (pick_perm [1, 4, 3, 2, 1] _)) ?_
   refine u_DeleteK b4 b1 b7 b6 b5 b3 b2 r1.1.1 r1.1.2 ((gI l i).s) ((gI l i).a) _ (by have hQ := hNb8; simp at hQ ⊢; omega) hT.k1 (by omega) _ _ ?_
   show aopsR _ _ _ _ _ _ (AMem.wth (AMem.wth m [(b8, actObj (gI l i))]) [(b4, cObj b1 b7 b6 b5 ((deleteR r1.1.1 r1.1.2 ((gI l i).s) ((gI l i).a)).1.1)), (b1, .cells [.map b3, .map b2, .slice true ((((deleteR r1.1.1 r1.1.2 ((gI l i).s) ((gI l i).a)).1.2).wait).map chgAV), .int .i64 (((deleteR r1.1.1 r1.1.2 ((gI l i).s) ((gI l i).a)).1.2).fuse), .bool (((deleteR r1.1.1 r1.1.2 ((gI l i).s) ((gI l i).a)).1.2).down), .int .i64 (((deleteR r1.1.1 r1.1.2 ((gI l i).s) ((gI l i).a)).1.2).steps)]), (b7, tObj ((deleteR r1.1.1 r1.1.2 ((gI l i).s) ((gI l i).a)).1.1.things)), (b6, oObj ((deleteR r1.1.1 r1.1.2 ((gI l i).s) ((gI l i).a)).1.1.tokens)), (b5, fObj ((deleteR r1.1.1 r1.1.2 ((gI l i).s) ((gI l i).a)).1.1.fails))])
   refine ar_mem (wth_split (m := m) (L := [(b8, actObj (gI l i)), (b4, cObj b1 b7 b6 b5 ((deleteR r1.1.1 r1.1.2 ((gI l i).s) ((gI l i).a)).1.1)), (b5, fObj ((deleteR r1.1.1 r1.1.2 ((gI l i).s) ((gI l i).a)).1.1.fails)), (b6, oObj ((deleteR r1.1.1 r1.1.2 ((gI l i).s) ((gI l i).a)).1.1.tokens)), (b7, tObj ((deleteR r1.1.1 r1.1.2 ((gI l i).s) ((gI l i).a)).1.1.things)), (b1, .cells [.map b3, .map b2, .slice true ((((deleteR r1.1.1 r1.1.2 ((gI l i).s) ((gI l i).a)).1.2).wait).map chgAV), .int .i64 (((deleteR r1.1.1 r1.1.2 ((gI l i).s) ((gI l i).a)).1.2).fuse), .bool (((deleteR r1.1.1 r1.1.2 ((gI l i).s) ((gI l i).a)).1.2).down), .int .i64 (((deleteR r1.1.1 r1.1.2 ((gI l i).s) ((gI l i).a)).1.2).steps)])]) hNb8 (pick_perm [1, 4, 3, 2, 1] _)).symm ?_
   refine ⟨trivial, ?_⟩
   show K1 [(0, .slice false (l.map actAV)), (4, .ptr ⟨b4, 0, none⟩), (8, .int .i64 last), (9, .int .i64 i), (12, .int .i64 0), (13, .err 108 r1.2), (14, .int .i64 0), (15, .err 108 ((deleteR r1.1.1 r1.1.2 ((gI l i).s) ((gI l i).a)).2)), (18, .slice false ((allT r1.1.1).map thgAV))] (AMem.wth m [(b8, actObj (gI l i)), (b4, cObj b1 b7 b6 b5 ((deleteR r1.1.1 r1.1.2 ((gI l i).s) ((gI l i).a)).1.1)), (b5, fObj ((deleteR r1.1.1 r1.1.2 ((gI l i).s) ((gI l i).a)).1.1.fails)), (b6, oObj ((deleteR r1.1.1 r1.1.2 ((gI l i).s) ((gI l i).a)).1.1.tokens)), (b7, tObj ((deleteR r1.1.1 r1.1.2 ((gI l i).s) ((gI l i).a)).1.1.things)), (b1, .cells [.map b3, .map b2, .slice true ((((deleteR r1.1.1 r1.1.2 ((gI l i).s) ((gI l i).a)).1.2).wait).map chgAV), .int .i64 (((deleteR r1.1.1 r1.1.2 ((gI l i).s) ((gI l i).a)).1.2).fuse), .bool (((deleteR r1.1.1 r1.1.2 ((gI l i).s) ((gI l i).a)).1.2).down), .int .i64 (((deleteR r1.1.1 r1.1.2 ((gI l i).s) ((gI l i).a)).1.2).steps)])])
   refine hK1 _ _ ?_; clear hK1 K1
   generalize (deleteR r1.1.1 r1.1.2 ((gI l i).s) ((gI l i).a)) = r2 at hT ⊢
   have hTe := hT.er
   rw [hTe]
   refine casesB (r1.2 == 0) (fun hc => ?_) (fun hc => ?_)
   ·
    skip
    refine awp_reg2_seq [] [0, 4, 8, 9, 12, 13, 14, 15, 165] (by decide) ?_
    intro K1 hK1
    suffices key : K1 [(0, .slice false (l.map actAV)), (4, .ptr ⟨b4, 0, none⟩), (8, .int .i64 last), (9, .int .i64 i), (12, .int .i64 0), (13, .err 108 r1.2), (14, .int .i64 0), (15, .err 108 r1.2), (165, .bool false)] (AMem.wth m [(b8, actObj (gI l i)), (b4, cObj b1 b7 b6 b5 r2.1.1), (b5, fObj r2.1.1.fails), (b6, oObj r2.1.1.tokens), (b7, tObj r2.1.1.things), (b1, .cells [.map b3, .map b2, .slice true (r2.1.2.wait.map chgAV), .int .i64 r2.1.2.fuse, .bool r2.1.2.down, .int .i64 r2.1.2.steps])]) by
     refine ⟨trivial, ⟨rfl, rfl⟩, ?_⟩
     refine ar_top 158 (.bool true) (congrArg AV.bool hc) ?_
     refine ⟨trivial, trivial, trivial, ?_⟩
     refine ar_mem (wth_split hNb8 (pick_perm [1, 3] _)) ?_
     refine u_AllK b4 b1 b7 b6 b5 r2.1.1 r2.1.2 _ (allT r1.1.1) (allT_eq (hT.th (eq_of_beq hc))) (by have hQ := hNb8; simp at hQ ⊢; omega) hT.k2 (by omega) _ _ ?_
     show aopsR _ _ _ _ _ _ (AMem.wth (AMem.wth m [(b8, actObj (gI l i)), (b5, fObj r2.1.1.fails), (b6, oObj r2.1.1.tokens), (b1, .cells [.map b3, .map b2, .slice true (r2.1.2.wait.map chgAV), .int .i64 r2.1.2.fuse, .bool r2.1.2.down, .int .i64 r2.1.2.steps])]) [(b4, cObj b1 b7 b6 b5 r2.1.1), (b7, tObj r2.1.1.things)])
     refine ar_mem (wth_split (m := m) (L := [(b8, actObj (gI l i)), (b4, cObj b1 b7 b6 b5 r2.1.1), (b5, fObj r2.1.1.fails), (b6, oObj r2.1.1.tokens), (b7, tObj r2.1.1.things), (b1, .cells [.map b3, .map b2, .slice true (r2.1.2.wait.map chgAV), .int .i64 r2.1.2.fuse, .bool r2.1.2.down, .int .i64 r2.1.2.steps])]) hNb8 (pick_perm [1, 3] _)).symm ?_
     refine u_SameThings1 (allT r1.1.1) _ _ ?_
     refine ⟨trivial, ?_⟩
     exact key
    refine hK1 _ _ ?_; clear hK1 K1
    refine awp_cond rfl rfl (fun hcz => ?_) (fun hcz => ?_)
    ·
     cases hcz
    clear hcz
    refine awp_skip ?_
    refine hK8 _ _ ?_; clear hK8
    refine awp_reg2_seq [] [0, 4, 8, 9, 188] (by decide) ?_
    intro K1 hK1
    suffices key : K1 [(0, .slice false (l.map actAV)), (4, .ptr ⟨b4, 0, none⟩), (8, .int .i64 last), (9, .int .i64 i), (188, .bool ((!(r1.2 == 0)) || ((!(!(r1.2 == 0))) && false)))] (AMem.wth m [(b8, actObj (gI l i)), (b4, cObj b1 b7 b6 b5 r2.1.1), (b5, fObj r2.1.1.fails), (b6, oObj r2.1.1.tokens), (b7, tObj r2.1.1.things), (b1, .cells [.map b3, .map b2, .slice true (r2.1.2.wait.map chgAV), .int .i64 r2.1.2.fuse, .bool r2.1.2.down, .int .i64 r2.1.2.steps])]) by
     refine ⟨trivial, ⟨rfl, rfl⟩, ?_⟩
     refine ar_top 167 (.bool true) (congrArg AV.bool hc) ?_
     refine ⟨trivial, trivial, ?_⟩
     refine u_number r1.2 _ _ ?_
     refine ⟨trivial, trivial, ?_⟩
     show aopsR _ _ _ _ _ [(172, .bool (!(r1.2 == 0))), (171, .bool (!(r1.2 == 0))), (170, .int .i64 r1.2), (169, .err 108 r1.2), (168, .bool true), (167, .bool true), (166, .err 108 r1.2), (0, .slice false (l.map actAV)), (4, .ptr ⟨b4, 0, none⟩), (8, .int .i64 last), (9, .int .i64 i), (12, .int .i64 0), (13, .err 108 r1.2), (14, .int .i64 0), (15, .err 108 r1.2), (165, .bool false)] _
     refine (bool_ff ((r1.2 == 0))).elim (fun h23 => ?_) (fun h23 => ?_)
     ·
      refine ar_frame [(172, .bool true), (171, .bool true), (170, .int .i64 r1.2), (169, .err 108 r1.2), (168, .bool true), (167, .bool true), (166, .err 108 r1.2), (0, .slice false (l.map actAV)), (4, .ptr ⟨b4, 0, none⟩), (8, .int .i64 last), (9, .int .i64 i), (12, .int .i64 0), (13, .err 108 r1.2), (14, .int .i64 0), (15, .err 108 r1.2), (165, .bool false)] (by first | (rw [h23]; done) | (rw [h23]; rfl)) ?_
      try rw [h23] at key
      replace h23 : r1.2 ≠ 0 := (ne_of_beq_false h23)
      refine ar_off rfl (ar_off rfl (ar_off rfl ?_))
      refine ⟨trivial, ?_⟩
      refine ar_off rfl (ar_off rfl (ar_off rfl (ar_off rfl (ar_off rfl (ar_off rfl (ar_off rfl (ar_off rfl (ar_off rfl ?_))))))))
      exact key
     ·
      refine ar_frame [(172, .bool false), (171, .bool false), (170, .int .i64 r1.2), (169, .err 108 r1.2), (168, .bool true), (167, .bool true), (166, .err 108 r1.2), (0, .slice false (l.map actAV)), (4, .ptr ⟨b4, 0, none⟩), (8, .int .i64 last), (9, .int .i64 i), (12, .int .i64 0), (13, .err 108 r1.2), (14, .int .i64 0), (15, .err 108 r1.2), (165, .bool false)] (by first | (rw [h23]; done) | (rw [h23]; rfl)) ?_
      try rw [h23] at key
      replace h23 : r1.2 = 0 := (eq_of_beq h23)
      refine ⟨trivial, trivial, trivial, ?_⟩
      refine ar_top 175 (.bool false) (congrArg AV.bool (by simp)) ?_
      refine ⟨trivial, trivial, ⟨rfl, rfl⟩, trivial, ?_⟩
      show aopsR _ _ _ _ _ [(181, .bool (!(r1.2 == 0))), (180, .bool (!(r1.2 == 0))), (179, .err 108 r1.2), (178, .bool false), (177, .bool false), (176, .bool false), (175, .bool false), (174, .int .i64 0), (173, .int .i64 0), (172, .bool false), (171, .bool false), (170, .int .i64 r1.2), (169, .err 108 r1.2), (168, .bool true), (167, .bool true), (166, .err 108 r1.2), (0, .slice false (l.map actAV)), (4, .ptr ⟨b4, 0, none⟩), (8, .int .i64 last), (9, .int .i64 i), (12, .int .i64 0), (13, .err 108 r1.2), (14, .int .i64 0), (15, .err 108 r1.2), (165, .bool false)] _
      refine (bool_ff ((r1.2 == 0))).elim (fun h24 => ?_) (fun h24 => ?_)
      ·
       refine ar_frame [(181, .bool true), (180, .bool true), (179, .err 108 r1.2), (178, .bool false), (177, .bool false), (176, .bool false), (175, .bool false), (174, .int .i64 0), (173, .int .i64 0), (172, .bool false), (171, .bool false), (170, .int .i64 r1.2), (169, .err 108 r1.2), (168, .bool true), (167, .bool true), (166, .err 108 r1.2), (0, .slice false (l.map actAV)), (4, .ptr ⟨b4, 0, none⟩), (8, .int .i64 last), (9, .int .i64 i), (12, .int .i64 0), (13, .err 108 r1.2), (14, .int .i64 0), (15, .err 108 r1.2), (165, .bool false)] (by first | (rw [h24]; done) | (rw [h24]; rfl)) ?_
       try rw [h24] at key
       replace h24 : r1.2 ≠ 0 := (ne_of_beq_false h24)
       refine ⟨trivial, ?_⟩
       refine u_number r1.2 _ _ ?_
       refine ⟨trivial, ?_⟩
       refine u_number r1.2 _ _ ?_
       refine ⟨trivial, ?_⟩
       refine ar_top 186 (.bool false) (congrArg AV.bool (by simp)) ?_
       exact key
      ·
       refine ar_frame [(181, .bool false), (180, .bool false), (179, .err 108 r1.2), (178, .bool false), (177, .bool false), (176, .bool false), (175, .bool false), (174, .int .i64 0), (173, .int .i64 0), (172, .bool false), (171, .bool false), (170, .int .i64 r1.2), (169, .err 108 r1.2), (168, .bool true), (167, .bool true), (166, .err 108 r1.2), (0, .slice false (l.map actAV)), (4, .ptr ⟨b4, 0, none⟩), (8, .int .i64 last), (9, .int .i64 i), (12, .int .i64 0), (13, .err 108 r1.2), (14, .int .i64 0), (15, .err 108 r1.2), (165, .bool false)] (by first | (rw [h24]; done) | (rw [h24]; rfl)) ?_
       try rw [h24] at key
       replace h24 : r1.2 = 0 := (eq_of_beq h24)
       refine ar_off rfl (ar_off rfl (ar_off rfl (ar_off rfl (ar_off rfl ?_))))
       exact key
    refine hK1 _ _ ?_; clear hK1 K1
    refine awp_cond rfl rfl (fun h25 => ?_) (fun h25 => ?_)
    ·
     replace h25 : (r1.2 ≠ 0) ∨ ((r1.2 = 0) ∧ (False)) := ((borT h25).imp (fun q => (ne_of_beq_false (bnT q))) (fun q => ⟨(eq_of_beq (bnF (bnT (bandL q)))), (by cases (bandR q))⟩))
     refine awp_reg2_seq [] [2] (by decide) ?_
     intro K1 hK1
     refine ⟨trivial, ?_⟩
     show K1 [(2, .bool false)] (AMem.wth m [(b8, actObj (gI l i)), (b4, cObj b1 b7 b6 b5 r2.1.1), (b5, fObj r2.1.1.fails), (b6, oObj r2.1.1.tokens), (b7, tObj r2.1.1.things), (b1, .cells [.map b3, .map b2, .slice true (r2.1.2.wait.map chgAV), .int .i64 r2.1.2.fuse, .bool r2.1.2.down, .int .i64 r2.1.2.steps])])
     refine hK1 _ _ ?_; clear hK1 K1
     refine awp_ret ?_
     refine ⟨trivial, m, (wth_sub2 (m := m) [(b8, actObj (gI l i)), (b4, cObj b1 b7 b6 b5 r2.1.1), (b5, fObj r2.1.1.fails), (b6, oObj r2.1.1.tokens), (b7, tObj r2.1.1.things), (b1, .cells [.map b3, .map b2, .slice true (r2.1.2.wait.map chgAV), .int .i64 r2.1.2.fuse, .bool r2.1.2.down, .int .i64 r2.1.2.steps])] [] hNb8 (by simp only [List.map_cons, List.map_nil, List.forall_mem_cons]; exact ⟨hFb8, hFb4, hFb5, hFb6, hFb7, hFb1, fun _ h => by cases h⟩)), ?_⟩
     show K (.bool false) m
    
     first | exact hK | (exfalso; have q := hT.new hc (by assumption); have := hI.2.2.2.2; omega) | (exfalso; have q0 := eq_of_beq hc; have q := hT.id q0; simp_all; done) | (exfalso; have q0 := eq_of_beq hc; simp_all; done) | (exfalso; have q0 := ne_of_beq_false hc; simp_all; done)
    replace h25 : (r1.2 = 0) ∧ ((r1.2 ≠ 0) ∨ (True)) := ⟨(eq_of_beq (bnF (borL h25))), ((bandF (borR h25)).imp (fun q => (ne_of_beq_false (bnT (bnF q)))) (fun q => trivial))⟩
    refine awp_skip ?_
    refine hK7 _ _ ?_; clear hK7
    have hNd7 : ([b4, b5, b6, b7, b1] : List Nat).Nodup := drop_nodup (L := [(b8, actObj (gI l i)), (b4, cObj b1 b7 b6 b5 r2.1.1), (b5, fObj r2.1.1.fails), (b6, oObj r2.1.1.tokens), (b7, tObj r2.1.1.things), (b1, .cells [.map b3, .map b2, .slice true (r2.1.2.wait.map chgAV), .int .i64 r2.1.2.fuse, .bool r2.1.2.down, .int .i64 r2.1.2.steps])]) hNb8 (pick_perm [0] _)
    refine awp_dropP [(b8, actObj (gI l i))] [(b4, cObj b1 b7 b6 b5 r2.1.1), (b5, fObj r2.1.1.fails), (b6, oObj r2.1.1.tokens), (b7, tObj r2.1.1.things), (b1, .cells [.map b3, .map b2, .slice true (r2.1.2.wait.map chgAV), .int .i64 r2.1.2.fuse, .bool r2.1.2.down, .int .i64 r2.1.2.steps])] hNb8 (pick_perm [0] _) (by simp only [List.map_cons, List.map_nil, List.forall_mem_cons]; exact ⟨hFb8, fun _ h => by cases h⟩) ?_
    refine awp_reg2 [] [0, 4, 8, 9] (by decide) ?_
    intro K1 hK1
    refine ⟨trivial, ?_⟩
    refine ar_add rfl (a := i) (b := 1) rfl rfl (by omega) (by omega) ?_
    refine ⟨trivial, ?_⟩
    show K1 [(0, .slice false (l.map actAV)), (4, .ptr ⟨b4, 0, none⟩), (8, .int .i64 last), (9, .int .i64 (i + 1))] (AMem.wth m [(b4, cObj b1 b7 b6 b5 r2.1.1), (b5, fObj r2.1.1.fails), (b6, oObj r2.1.1.tokens), (b7, tObj r2.1.1.things), (b1, .cells [.map b3, .map b2, .slice true (r2.1.2.wait.map chgAV), .int .i64 r2.1.2.fuse, .bool r2.1.2.down, .int .i64 r2.1.2.steps])])
    refine hK1 _ _ ?_; clear hK1 K1
    refine ⟨(last, i + 1, r2.1.1, r2.1.2), rfl, rfl, ?_, ?_⟩
    ·
     show 0 ≤ ((i + 1 : Int)) ∧ ((i + 1 : Int)) ≤ l.length ∧ TK ((r2.1.1 : ClSt)) ((r2.1.2 : DSt)) (2 * ((i + 1 : Int)).toNat + 1) ∧ 1 ≤ last ∧ last < ((r2.1.1 : ClSt)).next
     refine ⟨by omega, by omega, ?_⟩
     first | exact hT.back2 hc (by assumption) hI.2.2.2 (by omega) | exact hT.back hI.2.2.2 (by omega) | exact ⟨hI.2.2.1.mono (by omega), hI.2.2.2⟩
    ·
     show l.length - ((i + 1 : Int)).toNat < l.length - i.toNat
     omega
   ·
    skip
    refine awp_reg2_seq [] [0, 4, 8, 9, 12, 13, 14, 15, 165] (by decide) ?_
    intro K1 hK1
    suffices key : K1 [(0, .slice false (l.map actAV)), (4, .ptr ⟨b4, 0, none⟩), (8, .int .i64 last), (9, .int .i64 i), (12, .int .i64 0), (13, .err 108 r1.2), (14, .int .i64 0), (15, .err 108 r1.2), (165, .bool false)] (AMem.wth m [(b8, actObj (gI l i)), (b4, cObj b1 b7 b6 b5 r2.1.1), (b5, fObj r2.1.1.fails), (b6, oObj r2.1.1.tokens), (b7, tObj r2.1.1.things), (b1, .cells [.map b3, .map b2, .slice true (r2.1.2.wait.map chgAV), .int .i64 r2.1.2.fuse, .bool r2.1.2.down, .int .i64 r2.1.2.steps])]) by
     refine ⟨trivial, ⟨rfl, rfl⟩, ?_⟩
     refine ar_top 158 (.bool false) (congrArg AV.bool hc) ?_
     refine ⟨trivial, ?_⟩
     refine ar_off rfl (ar_off rfl (ar_off rfl (ar_off rfl (ar_off rfl ?_))))
     exact key
    refine hK1 _ _ ?_; clear hK1 K1
    refine awp_cond rfl rfl (fun hcz => ?_) (fun hcz => ?_)
    ·
     cases hcz
    clear hcz
    refine awp_skip ?_
    refine hK8 _ _ ?_; clear hK8
    refine awp_reg2_seq [] [0, 4, 8, 9, 188] (by decide) ?_
    intro K1 hK1
    suffices key : K1 [(0, .slice false (l.map actAV)), (4, .ptr ⟨b4, 0, none⟩), (8, .int .i64 last), (9, .int .i64 i), (188, .bool ((!(!(r1.2 == 0))) && false))] (AMem.wth m [(b8, actObj (gI l i)), (b4, cObj b1 b7 b6 b5 r2.1.1), (b5, fObj r2.1.1.fails), (b6, oObj r2.1.1.tokens), (b7, tObj r2.1.1.things), (b1, .cells [.map b3, .map b2, .slice true (r2.1.2.wait.map chgAV), .int .i64 r2.1.2.fuse, .bool r2.1.2.down, .int .i64 r2.1.2.steps])]) by
     refine ⟨trivial, ⟨rfl, rfl⟩, ?_⟩
     refine ar_top 167 (.bool false) (congrArg AV.bool hc) ?_
     refine ⟨trivial, ?_⟩
     refine ar_off rfl (ar_off rfl (ar_off rfl (ar_off rfl (ar_off rfl (ar_off rfl (ar_off rfl (ar_off rfl ?_)))))))
     refine ⟨trivial, trivial, ⟨rfl, rfl⟩, trivial, ?_⟩
     show aopsR _ _ _ _ _ [(181, .bool (!(r1.2 == 0))), (180, .bool (!(r1.2 == 0))), (179, .err 108 r1.2), (178, .bool false), (177, .bool false), (176, .lazy false (.junk)), (175, .lazy false (.junk)), (174, .lazy false (.junk)), (173, .lazy false (.junk)), (172, .lazy false (.junk)), (171, .lazy false (.junk)), (170, .lazy false (.junk)), (169, .lazy false (.junk)), (168, .bool false), (167, .bool false), (166, .err 108 r1.2), (0, .slice false (l.map actAV)), (4, .ptr ⟨b4, 0, none⟩), (8, .int .i64 last), (9, .int .i64 i), (12, .int .i64 0), (13, .err 108 r1.2), (14, .int .i64 0), (15, .err 108 r1.2), (165, .bool false)] _
     refine (bool_ff ((r1.2 == 0))).elim (fun h26 => ?_) (fun h26 => ?_)
     ·
      refine ar_frame [(181, .bool true), (180, .bool true), (179, .err 108 r1.2), (178, .bool false), (177, .bool false), (176, .lazy false (.junk)), (175, .lazy false (.junk)), (174, .lazy false (.junk)), (173, .lazy false (.junk)), (172, .lazy false (.junk)), (171, .lazy false (.junk)), (170, .lazy false (.junk)), (169, .lazy false (.junk)), (168, .bool false), (167, .bool false), (166, .err 108 r1.2), (0, .slice false (l.map actAV)), (4, .ptr ⟨b4, 0, none⟩), (8, .int .i64 last), (9, .int .i64 i), (12, .int .i64 0), (13, .err 108 r1.2), (14, .int .i64 0), (15, .err 108 r1.2), (165, .bool false)] (by first | (rw [h26]; done) | (rw [h26]; rfl)) ?_
      try rw [h26] at key
      replace h26 : r1.2 ≠ 0 := (ne_of_beq_false h26)
      refine ⟨trivial, ?_⟩
      refine u_number r1.2 _ _ ?_
      refine ⟨trivial, ?_⟩
      refine u_number r1.2 _ _ ?_
      refine ⟨trivial, ?_⟩
      refine ar_top 186 (.bool false) (congrArg AV.bool (by simp)) ?_
      exact key
     ·
      refine ar_frame [(181, .bool false), (180, .bool false), (179, .err 108 r1.2), (178, .bool false), (177, .bool false), (176, .lazy false (.junk)), (175, .lazy false (.junk)), (174, .lazy false (.junk)), (173, .lazy false (.junk)), (172, .lazy false (.junk)), (171, .lazy false (.junk)), (170, .lazy false (.junk)), (169, .lazy false (.junk)), (168, .bool false), (167, .bool false), (166, .err 108 r1.2), (0, .slice false (l.map actAV)), (4, .ptr ⟨b4, 0, none⟩), (8, .int .i64 last), (9, .int .i64 i), (12, .int .i64 0), (13, .err 108 r1.2), (14, .int .i64 0), (15, .err 108 r1.2), (165, .bool false)] (by first | (rw [h26]; done) | (rw [h26]; rfl)) ?_
      try rw [h26] at key
      replace h26 : r1.2 = 0 := (eq_of_beq h26)
      refine ar_off rfl (ar_off rfl (ar_off rfl (ar_off rfl (ar_off rfl ?_))))
      exact key
    refine hK1 _ _ ?_; clear hK1 K1
    refine awp_cond rfl rfl (fun h27 => ?_) (fun h27 => ?_)
    ·
     replace h27 : (r1.2 = 0) ∧ (False) := ⟨(eq_of_beq (bnF (bnT (bandL h27)))), (by cases (bandR h27))⟩
     refine awp_reg2_seq [] [2] (by decide) ?_
     intro K1 hK1
     refine ⟨trivial, ?_⟩
     show K1 [(2, .bool false)] (AMem.wth m [(b8, actObj (gI l i)), (b4, cObj b1 b7 b6 b5 r2.1.1), (b5, fObj r2.1.1.fails), (b6, oObj r2.1.1.tokens), (b7, tObj r2.1.1.things), (b1, .cells [.map b3, .map b2, .slice true (r2.1.2.wait.map chgAV), .int .i64 r2.1.2.fuse, .bool r2.1.2.down, .int .i64 r2.1.2.steps])])
     refine hK1 _ _ ?_; clear hK1 K1
     refine awp_ret ?_
     refine ⟨trivial, m, (wth_sub2 (m := m) [(b8, actObj (gI l i)), (b4, cObj b1 b7 b6 b5 r2.1.1), (b5, fObj r2.1.1.fails), (b6, oObj r2.1.1.tokens), (b7, tObj r2.1.1.things), (b1, .cells [.map b3, .map b2, .slice true (r2.1.2.wait.map chgAV), .int .i64 r2.1.2.fuse, .bool r2.1.2.down, .int .i64 r2.1.2.steps])] [] hNb8 (by simp only [List.map_cons, List.map_nil, List.forall_mem_cons]; exact ⟨hFb8, hFb4, hFb5, hFb6, hFb7, hFb1, fun _ h => by cases h⟩)), ?_⟩
     show K (.bool false) m
    
     first | exact hK | (exfalso; have q := hT.new hc (by assumption); have := hI.2.2.2.2; omega) | (exfalso; have q0 := eq_of_beq hc; have q := hT.id q0; simp_all; done) | (exfalso; have q0 := eq_of_beq hc; simp_all; done) | (exfalso; have q0 := ne_of_beq_false hc; simp_all; done)
    replace h27 : (r1.2 ≠ 0) ∨ (True) := ((bandF h27).imp (fun q => (ne_of_beq_false (bnT (bnF q)))) (fun q => trivial))
    refine awp_skip ?_
    refine hK7 _ _ ?_; clear hK7
    have hNd8 : ([b4, b5, b6, b7, b1] : List Nat).Nodup := drop_nodup (L := [(b8, actObj (gI l i)), (b4, cObj b1 b7 b6 b5 r2.1.1), (b5, fObj r2.1.1.fails), (b6, oObj r2.1.1.tokens), (b7, tObj r2.1.1.things), (b1, .cells [.map b3, .map b2, .slice true (r2.1.2.wait.map chgAV), .int .i64 r2.1.2.fuse, .bool r2.1.2.down, .int .i64 r2.1.2.steps])]) hNb8 (pick_perm [0] _)
    refine awp_dropP [(b8, actObj (gI l i))] [(b4, cObj b1 b7 b6 b5 r2.1.1), (b5, fObj r2.1.1.fails), (b6, oObj r2.1.1.tokens), (b7, tObj r2.1.1.things), (b1, .cells [.map b3, .map b2, .slice true (r2.1.2.wait.map chgAV), .int .i64 r2.1.2.fuse, .bool r2.1.2.down, .int .i64 r2.1.2.steps])] hNb8 (pick_perm [0] _) (by simp only [List.map_cons, List.map_nil, List.forall_mem_cons]; exact ⟨hFb8, fun _ h => by cases h⟩) ?_
    refine awp_reg2 [] [0, 4, 8, 9] (by decide) ?_
    intro K1 hK1
    refine ⟨trivial, ?_⟩
    refine ar_add rfl (a := i) (b := 1) rfl rfl (by omega) (by omega) ?_
    refine ⟨trivial, ?_⟩
    show K1 [(0, .slice false (l.map actAV)), (4, .ptr ⟨b4, 0, none⟩), (8, .int .i64 last), (9, .int .i64 (i + 1))] (AMem.wth m [(b4, cObj b1 b7 b6 b5 r2.1.1), (b5, fObj r2.1.1.fails), (b6, oObj r2.1.1.tokens), (b7, tObj r2.1.1.things), (b1, .cells [.map b3, .map b2, .slice true (r2.1.2.wait.map chgAV), .int .i64 r2.1.2.fuse, .bool r2.1.2.down, .int .i64 r2.1.2.steps])])
    refine hK1 _ _ ?_; clear hK1 K1
    refine ⟨(last, i + 1, r2.1.1, r2.1.2), rfl, rfl, ?_, ?_⟩
    ·
     show 0 ≤ ((i + 1 : Int)) ∧ ((i + 1 : Int)) ≤ l.length ∧ TK ((r2.1.1 : ClSt)) ((r2.1.2 : DSt)) (2 * ((i + 1 : Int)).toNat + 1) ∧ 1 ≤ last ∧ last < ((r2.1.1 : ClSt)).next
     refine ⟨by omega, by omega, ?_⟩
     first | exact hT.back2 hc (by assumption) hI.2.2.2 (by omega) | exact hT.back hI.2.2.2 (by omega) | exact ⟨hI.2.2.1.mono (by omega), hI.2.2.2⟩
    ·
     show l.length - ((i + 1 : Int)).toNat < l.length - i.toNat
     omega
  replace h22 : (gI l i).kind ≠ ([100, 101, 108, 101, 116, 101] : List UInt8) := (ne_of_beq_false h22)
  refine awp_exit ?_
  refine hK7 _ _ ?_; clear hK7
  have hNd9 : ([b4, b5, b6, b7, b1] : List Nat).Nodup := drop_nodup (L := [(b8, actObj (gI l i)), (b4, cObj b1 b7 b6 b5 c), (b5, fObj c.fails), (b6, oObj c.tokens), (b7, tObj c.things), (b1, .cells [.map b3, .map b2, .slice true (s.wait.map chgAV), .int .i64 s.fuse, .bool s.down, .int .i64 s.steps])]) hNb8 (pick_perm [0] _)
  refine awp_dropP [(b8, actObj (gI l i))] [(b4, cObj b1 b7 b6 b5 c), (b5, fObj c.fails), (b6, oObj c.tokens), (b7, tObj c.things), (b1, .cells [.map b3, .map b2, .slice true (s.wait.map chgAV), .int .i64 s.fuse, .bool s.down, .int .i64 s.steps])] hNb8 (pick_perm [0] _) (by simp only [List.map_cons, List.map_nil, List.forall_mem_cons]; exact ⟨hFb8, fun _ h => by cases h⟩) ?_
  refine awp_reg2 [] [0, 4, 8, 9] (by decide) ?_
  intro K1 hK1
  refine ⟨trivial, ?_⟩
  refine ar_add rfl (a := i) (b := 1) rfl rfl (by omega) (by omega) ?_
  refine ⟨trivial, ?_⟩
  show K1 [(0, .slice false (l.map actAV)), (4, .ptr ⟨b4, 0, none⟩), (8, .int .i64 last), (9, .int .i64 (i + 1))] (AMem.wth m [(b4, cObj b1 b7 b6 b5 c), (b5, fObj c.fails), (b6, oObj c.tokens), (b7, tObj c.things), (b1, .cells [.map b3, .map b2, .slice true (s.wait.map chgAV), .int .i64 s.fuse, .bool s.down, .int .i64 s.steps])])
  refine hK1 _ _ ?_; clear hK1 K1
  refine ⟨(last, i + 1, c, s), rfl, rfl, ?_, ?_⟩
  ·
   show 0 ≤ ((i + 1 : Int)) ∧ ((i + 1 : Int)) ≤ l.length ∧ TK c s (2 * ((i + 1 : Int)).toNat + 1) ∧ 1 ≤ last ∧ last < c.next
   refine ⟨by omega, by omega, ?_⟩
   first | exact hT.back2 hc (by assumption) hI.2.2.2 (by omega) | exact hT.back hI.2.2.2 (by omega) | exact ⟨hI.2.2.1.mono (by omega), hI.2.2.2⟩
  ·
   show l.length - ((i + 1 : Int)).toNat < l.length - i.toNat
   omega
 replace h2 : (l.length : Int) ≤ i := (Int.not_lt.1 (of_decide_eq_false h2))
 refine awp_exit ?_
 refine hK5 _ _ ?_; clear hK5
 refine awp_reg2_seq [] [2] (by decide) ?_
 intro K1 hK1
 refine ⟨trivial, ?_⟩
 show K1 [(2, .bool true)] (AMem.wth m [(b4, cObj b1 b7 b6 b5 c), (b5, fObj c.fails), (b6, oObj c.tokens), (b7, tObj c.things), (b1, .cells [.map b3, .map b2, .slice true (s.wait.map chgAV), .int .i64 s.fuse, .bool s.down, .int .i64 s.steps])])
 refine hK1 _ _ ?_; clear hK1 K1
 refine awp_ret ?_
 refine ⟨trivial, m, (wth_sub2 (m := m) [(b4, cObj b1 b7 b6 b5 c), (b5, fObj c.fails), (b6, oObj c.tokens), (b7, tObj c.things), (b1, .cells [.map b3, .map b2, .slice true (s.wait.map chgAV), .int .i64 s.fuse, .bool s.down, .int .i64 s.steps])] [] hNb4 (by simp only [List.map_cons, List.map_nil, List.forall_mem_cons]; exact ⟨hFb4, hFb5, hFb6, hFb7, hFb1, fun _ h => by cases h⟩)), ?_⟩
 show K (.bool true) m

 first | exact hK | (exfalso; have q := hT.new hc (by assumption); have := hI.2.2.2.2; omega) | (exfalso; have q0 := eq_of_beq hc; have q := hT.id q0; simp_all; done) | (exfalso; have q0 := eq_of_beq hc; simp_all; done) | (exfalso; have q0 := ne_of_beq_false hc; simp_all; done)

end Go.Proofs

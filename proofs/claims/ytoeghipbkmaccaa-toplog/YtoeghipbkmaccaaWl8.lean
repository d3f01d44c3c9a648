import Derived.Test.YtoeghipbkmaccaaProg
import Derived.Test.YtoeghipbkmaccaaMix
import Derived.Test.YtoeghipbkmaccaaWxe
import Derived.Test.YtoeghipbkmaccaaWl7
namespace Go.Proofs
open Go Go.Aw
set_option maxRecDepth 100000


def s0 : DSt := ⟨[], [], [], -1, false, 0⟩
theorem u_New0 (m : AMem) (K : AV → AMem → Prop) (hK : ∀ d nb kb, ([d, nb, kb] : List Nat).Nodup → m d = none → m nb = none → m kb = none → K (.ptr ⟨d, 0, none⟩) (AMem.wth m [(d, dObj kb nb s0), (nb, mObj s0.now), (kb, mObj s0.kept)])) : ACalls Try.prog 11 [] m K := u_New m K hK
theorem u_OpenE (d kb nb : Nat) (s : DSt) (name : Str) (N : Nat) (r : DSt × Int × (List Str × Int)) (hr : openR s name = r) (h0 : r.2.1 = 0) (hN : [d, nb, kb].Nodup) (hD : DInv N s) (hNN : N ≤ 4000) (hn : name.length ≤ 16777216) (m : AMem) (K : AV → AMem → Prop)
    (hK : ∀ x, ([x, d, nb, kb] : List Nat).Nodup → m x = none → K (.tuple [.ptr ⟨x, 0, none⟩, .err 108 0]) (AMem.wth m [(x, .cells [.ptr ⟨d, 0, none⟩, .str name, .slice true (r.2.2.1.map strAV), .int .i64 r.2.2.2]), (d, dObj kb nb r.1), (nb, mObj r.1.now), (kb, mObj r.1.kept)])) :
    ACalls Try.prog 13 [.ptr ⟨d, 0, none⟩, .str name] (AMem.wth m [(d, dObj kb nb s), (nb, mObj s.now), (kb, mObj s.kept)]) K := by
  subst hr
  exact u_Open d kb nb s name N hN hD hNN hn m K (fun h => absurd h0 h) (fun _ => hK)
theorem u_OpenBad (d kb nb : Nat) (s : DSt) (name : Str) (N : Nat) (hb : nameF name = false) (hN : [d, nb, kb].Nodup) (hD : DInv N s) (hNN : N ≤ 4000) (hn : name.length ≤ 16777216) (m : AMem) (K : AV → AMem → Prop)
    (hK : K (.tuple [.nilptr, .err 108 3]) (AMem.wth m [(d, dObj kb nb s), (nb, mObj s.now), (kb, mObj s.kept)])) :
    ACalls Try.prog 13 [.ptr ⟨d, 0, none⟩, .str name] (AMem.wth m [(d, dObj kb nb s), (nb, mObj s.now), (kb, mObj s.kept)]) K := by
  have e : openR s name = (s, 3, ([], 0)) := by rw [openR, if_pos hb]
  refine u_Open d kb nb s name N hN hD hNN hn m K (fun _ => ?_) (fun h => ?_)
  · rw [e]; exact hK
  · rw [e] at h; exact absurd h (by show ¬ (3 : Int) = 0; decide)
theorem u_AddE (x d kb nb : Nat) (s : DSt) (name : Str) (l : List Str) (z : Int) (t : Str) (N : Nat) (r : DSt × Int × (List Str × Int)) (hr : addR s name l z t = r) (hN : [x, d, nb, kb].Nodup) (hD : DInv N s) (hNN : N ≤ 4000) (hn : name.length ≤ 16777216) (hl : l.length ≤ 1000000) (hz : 0 ≤ z) (hz2 : z ≤ 1000000) (m : AMem) (K : AV → AMem → Prop)
    (hK : K (.err 108 r.2.1) (AMem.wth m [(x, .cells [.ptr ⟨d, 0, none⟩, .str name, .slice true (r.2.2.1.map strAV), .int .i64 r.2.2.2]), (d, dObj kb nb r.1), (nb, mObj r.1.now), (kb, mObj r.1.kept)])) :
    ACalls Try.prog 21 [.ptr ⟨x, 0, none⟩, .str t] (AMem.wth m [(x, .cells [.ptr ⟨d, 0, none⟩, .str name, .slice true (l.map strAV), .int .i64 z]), (d, dObj kb nb s), (nb, mObj s.now), (kb, mObj s.kept)]) K := by
  subst hr
  exact u_Add x d kb nb s name l z t N hN hD hNN hn hl hz hz2 m K hK
theorem u_ClearE (x d kb nb : Nat) (s : DSt) (name : Str) (l : List Str) (z : Int) (N : Nat) (r : DSt × Int × (List Str × Int)) (hr : clearR s name l z = r) (hN : [x, d, nb, kb].Nodup) (hD : DInv N s) (hNN : N ≤ 4000) (hn : name.length ≤ 16777216) (m : AMem) (K : AV → AMem → Prop)
    (hK : K (.err 108 r.2.1) (AMem.wth m [(x, .cells [.ptr ⟨d, 0, none⟩, .str name, .slice true (r.2.2.1.map strAV), .int .i64 r.2.2.2]), (d, dObj kb nb r.1), (nb, mObj r.1.now), (kb, mObj r.1.kept)])) :
    ACalls Try.prog 22 [.ptr ⟨x, 0, none⟩] (AMem.wth m [(x, .cells [.ptr ⟨d, 0, none⟩, .str name, .slice true (l.map strAV), .int .i64 z]), (d, dObj kb nb s), (nb, mObj s.now), (kb, mObj s.kept)]) K := by
  subst hr
  exact u_Clear x d kb nb s name l z N hN hD hNN hn m K hK
theorem u_ReadE (d kb nb : Nat) (s : DSt) (name : Str) (r : Str × Int) (hr : readR s name = r) (hN : [d, nb].Nodup) (m : AMem) (K : AV → AMem → Prop) (hK : K (.tuple [.str r.1, .err 108 r.2]) (AMem.wth m [(d, dObj kb nb s), (nb, mObj s.now)])) :
    ACalls Try.prog 16 [.ptr ⟨d, 0, none⟩, .str name] (AMem.wth m [(d, dObj kb nb s), (nb, mObj s.now)]) K := by
  subst hr; exact u_Read d kb nb s name hN m K hK
theorem open0 : openR s0 [106] = (s0, 0, ([], 0)) := rfl
theorem add0 : addR s0 [106] [] 0 [111, 110, 101] = ((addR s0 [106] [] 0 [111, 110, 101]).1, 0, ([[111, 110, 101]], 9)) := Prod.ext rfl rfl
theorem u_SameTexts_eq (xs : List Str) (m : AMem) (K : AV → AMem → Prop) (hK : K (.bool true) m) : ACalls Try.prog 19 [.slice false (xs.map strAV), .slice false (xs.map strAV)] m K := u_SameTexts xs xs m K (by rw [decide_eq_true rfl]; exact hK)
theorem u_same_eq (e : Int) (he : 0 ≤ e) (m : AMem) (K : AV → AMem → Prop) (hK : K (.bool true) m) : ACalls Try.prog 14 [.err 108 e, .int .i64 e] m K := u_same e e he m K (by rw [show (e == e) = true from by simp]; exact hK)

set_option maxHeartbeats 4000000 in
theorem u_notes   (m : AMem)  (K : AV → AMem → Prop) (hK : K (.bool true) m) : ACalls Try.prog 9 [] m K := by
 refine acalls_enter Try.func9 rfl (by decide) (Nat.le_of_ble_eq_true rfl) ?_
 show AWP _ _ _ _ [] m
 refine awp_reg2_seq [] [] (by decide) ?_
 intro K1 hK1
 refine ⟨trivial, ?_⟩
 show K1 [] m
 refine hK1 _ _ ?_; clear hK1 K1
 refine awp_reg2_seq [] [1] (by decide) ?_
 intro K1 hK1
 refine u_New0 _ _ ?_
 intro b1 b2 b3 hqb1 hb1 hb2 hb3
 have hFb1 : m b1 = none := wth_none (m := m) (L := []) hb1
 have hFb2 : m b2 = none := wth_none (m := m) (L := []) hb2
 have hFb3 : m b3 = none := wth_none (m := m) (L := []) hb3
 have hNb1 : ([b1, b2, b3] : List Nat).Nodup := wth_news (m := m) (L := []) hqb1 (by simp only [List.forall_mem_cons]; exact ⟨hb1, hb2, hb3, fun _ h => by cases h⟩) List.nodup_nil
 show aopsR _ _ _ _ _ _ (AMem.wth m [(b1, dObj b3 b2 s0), (b2, mObj s0.now), (b3, mObj s0.kept)])
 refine ⟨trivial, ?_⟩
 show K1 [(1, .ptr ⟨b1, 0, none⟩)] (AMem.wth m [(b1, dObj b3 b2 s0), (b2, mObj s0.now), (b3, mObj s0.kept)])
 refine hK1 _ _ ?_; clear hK1 K1
 refine awp_seq_k ?_; intro K2 hK2
 refine awp_reg2_seq [] [1, 7] (by decide) ?_
 intro K1 hK1
 refine ⟨trivial, rfl, ?_⟩
 show K1 [(1, .ptr ⟨b1, 0, none⟩), (7, .bool false)] (AMem.wth m [(b1, dObj b3 b2 s0), (b2, mObj s0.now), (b3, mObj s0.kept)])
 refine hK1 _ _ ?_; clear hK1 K1
 refine awp_cond rfl rfl (fun hcz => ?_) (fun hcz => ?_)
 ·
  cases hcz
 clear hcz
 refine awp_skip ?_
 refine hK2 _ _ ?_; clear hK2
 refine awp_reg2_seq [] [2, 3] (by decide) ?_
 intro K1 hK1
 refine ⟨trivial, ?_⟩
 refine u_OpenE b1 b3 b2 s0 ([106] : List UInt8) 0 _ open0 rfl (by have q := hNb1; simp at q ⊢; omega) DInv.start (by omega) (by decide) _ _ ?_
 intro b4 hqb4 hb4
 have hwb4 := wth_new1 (m := m) (L := [(b1, dObj b3 b2 s0), (b2, mObj s0.now), (b3, mObj s0.kept)]) (x := b4) hNb1 (pick_perm [0, 0, 0] _) hqb4 hb4
 have hNb4 : ([b4, b1, b2, b3] : List Nat).Nodup := hwb4.1
 have hFb4 : m b4 = none := hwb4.2
 show aopsR _ _ _ _ _ _ (AMem.wth (AMem.wth m []) [(b4, .cells [.ptr ⟨b1, 0, none⟩, .str ([106] : List UInt8), .slice true (([] : List (List UInt8)).map strAV), .int .i64 0]), (b1, dObj b3 b2 s0), (b2, mObj s0.now), (b3, mObj s0.kept)])
 refine ar_mem (wth_split (m := m) (L := [(b4, .cells [.ptr ⟨b1, 0, none⟩, .str ([106] : List UInt8), .slice true (([] : List (List UInt8)).map strAV), .int .i64 0]), (b1, dObj b3 b2 s0), (b2, mObj s0.now), (b3, mObj s0.kept)]) hNb4 (pick_perm [0, 0, 0, 0] _)).symm ?_
 refine ⟨trivial, (Nat.le_of_ble_eq_true rfl), (Nat.le_of_ble_eq_true rfl), trivial, trivial, ?_⟩
 show K1 [(2, .ptr ⟨b4, 0, none⟩), (3, .err 108 0)] (AMem.wth m [(b4, .cells [.ptr ⟨b1, 0, none⟩, .str ([106] : List UInt8), .slice true (([] : List (List UInt8)).map strAV), .int .i64 0]), (b1, dObj b3 b2 s0), (b2, mObj s0.now), (b3, mObj s0.kept)])
 refine hK1 _ _ ?_; clear hK1 K1
 refine awp_seq_k ?_; intro K3 hK3
 refine awp_reg2_seq [] [2, 18] (by decide) ?_
 intro K1 hK1
 suffices key : K1 [(2, .ptr ⟨b4, 0, none⟩), (18, .bool false)] (AMem.wth m [(b4, .cells [.ptr ⟨b1, 0, none⟩, .str ([106] : List UInt8), .slice true (([] : List (List UInt8)).map strAV), .int .i64 0]), (b1, dObj b3 b2 s0), (b2, mObj s0.now), (b3, mObj s0.kept)]) by
  refine ⟨trivial, ⟨rfl, rfl⟩, trivial, trivial, rfl, ?_⟩
  exact key
 refine hK1 _ _ ?_; clear hK1 K1
 refine awp_cond rfl rfl (fun hcz => ?_) (fun hcz => ?_)
 ·
  cases hcz
 clear hcz
 refine awp_skip ?_
 refine hK3 _ _ ?_; clear hK3
 refine awp_reg2_seq [] [2, 4] (by decide) ?_
 intro K1 hK1
 refine ⟨trivial, ?_⟩
 refine u_AddE b4 b1 b3 b2 s0 [106] [] 0 [111, 110, 101] 0 _ add0 (by have q := hNb4; simp at q ⊢; omega) DInv.start (by decide) (by decide) (by decide) (by decide) (by decide) _ _ ?_
 show aopsR _ _ _ _ _ _ (AMem.wth m [(b4, .cells [.ptr ⟨b1, 0, none⟩, .str ([106] : List UInt8), .slice true (([[111, 110, 101]] : List (List UInt8)).map strAV), .int .i64 9]), (b1, dObj b3 b2 ((addR s0 [106] [] 0 [111, 110, 101]).1)), (b2, mObj (((addR s0 [106] [] 0 [111, 110, 101]).1).now)), (b3, mObj (((addR s0 [106] [] 0 [111, 110, 101]).1).kept))])
 refine ⟨trivial, ?_⟩
 show K1 [(2, .ptr ⟨b4, 0, none⟩), (4, .err 108 0)] (AMem.wth m [(b4, .cells [.ptr ⟨b1, 0, none⟩, .str ([106] : List UInt8), .slice true (([[111, 110, 101]] : List (List UInt8)).map strAV), .int .i64 9]), (b1, dObj b3 b2 ((addR s0 [106] [] 0 [111, 110, 101]).1)), (b2, mObj (((addR s0 [106] [] 0 [111, 110, 101]).1).now)), (b3, mObj (((addR s0 [106] [] 0 [111, 110, 101]).1).kept))])
 refine hK1 _ _ ?_; clear hK1 K1
 refine awp_reg2_seq [] [0] (by decide) ?_
 intro K1 hK1
 refine ⟨trivial, ?_⟩
 refine u_same_eq 0 (by decide) _ _ ?_
 refine ⟨trivial, trivial, ?_⟩
 refine ar_mem (wth_split hNb4 (pick_perm [0] _)) ?_
 refine u_Size b4 b1 ([106] : List UInt8) ([[111, 110, 101]] : List (List UInt8)) 9 _ _ ?_
 show aopsR _ _ _ _ _ _ (AMem.wth (AMem.wth m [(b1, dObj b3 b2 ((addR s0 [106] [] 0 [111, 110, 101]).1)), (b2, mObj (((addR s0 [106] [] 0 [111, 110, 101]).1).now)), (b3, mObj (((addR s0 [106] [] 0 [111, 110, 101]).1).kept))]) [(b4, .cells [.ptr ⟨b1, 0, none⟩, .str ([106] : List UInt8), .slice true (([[111, 110, 101]] : List (List UInt8)).map strAV), .int .i64 9])])
 refine ar_mem (wth_split (m := m) (L := [(b4, .cells [.ptr ⟨b1, 0, none⟩, .str ([106] : List UInt8), .slice true (([[111, 110, 101]] : List (List UInt8)).map strAV), .int .i64 9]), (b1, dObj b3 b2 ((addR s0 [106] [] 0 [111, 110, 101]).1)), (b2, mObj (((addR s0 [106] [] 0 [111, 110, 101]).1).now)), (b3, mObj (((addR s0 [106] [] 0 [111, 110, 101]).1).kept))]) hNb4 (pick_perm [0] _)).symm ?_
 refine ⟨trivial, ?_⟩
 refine ⟨trivial, trivial, ?_⟩
 refine ar_mem (wth_split hNb4 (pick_perm [0] _)) ?_
 refine u_Records b4 b1 ([106] : List UInt8) ([[111, 110, 101]] : List (List UInt8)) 9 (by decide) _ _ ?_
 show aopsR _ _ _ _ _ _ (AMem.wth (AMem.wth m [(b1, dObj b3 b2 ((addR s0 [106] [] 0 [111, 110, 101]).1)), (b2, mObj (((addR s0 [106] [] 0 [111, 110, 101]).1).now)), (b3, mObj (((addR s0 [106] [] 0 [111, 110, 101]).1).kept))]) [(b4, .cells [.ptr ⟨b1, 0, none⟩, .str ([106] : List UInt8), .slice true (([[111, 110, 101]] : List (List UInt8)).map strAV), .int .i64 9])])
 refine ar_mem (wth_split (m := m) (L := [(b4, .cells [.ptr ⟨b1, 0, none⟩, .str ([106] : List UInt8), .slice true (([[111, 110, 101]] : List (List UInt8)).map strAV), .int .i64 9]), (b1, dObj b3 b2 ((addR s0 [106] [] 0 [111, 110, 101]).1)), (b2, mObj (((addR s0 [106] [] 0 [111, 110, 101]).1).now)), (b3, mObj (((addR s0 [106] [] 0 [111, 110, 101]).1).kept))]) hNb4 (pick_perm [0] _)).symm ?_
 refine ⟨⟨rfl, Nat.le_of_ble_eq_true rfl, rfl, Nat.le_of_ble_eq_true rfl, rfl, by simp only [List.forall_mem_cons]; exact ⟨⟨rfl, rfl⟩, fun _ h => by cases h⟩⟩, ?_⟩
 refine u_SameTexts_eq ([[111, 110, 101]] : List (List UInt8)) _ _ ?_
 refine ⟨trivial, ?_⟩
 show K1 [(0, .bool true)] (AMem.wth m [(b4, .cells [.ptr ⟨b1, 0, none⟩, .str ([106] : List UInt8), .slice true (([[111, 110, 101]] : List (List UInt8)).map strAV), .int .i64 9]), (b1, dObj b3 b2 ((addR s0 [106] [] 0 [111, 110, 101]).1)), (b2, mObj (((addR s0 [106] [] 0 [111, 110, 101]).1).now)), (b3, mObj (((addR s0 [106] [] 0 [111, 110, 101]).1).kept))])
 refine hK1 _ _ ?_; clear hK1 K1
 refine awp_ret ?_
 refine ⟨trivial, m, (wth_sub2 (m := m) [(b4, .cells [.ptr ⟨b1, 0, none⟩, .str ([106] : List UInt8), .slice true (([[111, 110, 101]] : List (List UInt8)).map strAV), .int .i64 9]), (b1, dObj b3 b2 ((addR s0 [106] [] 0 [111, 110, 101]).1)), (b2, mObj (((addR s0 [106] [] 0 [111, 110, 101]).1).now)), (b3, mObj (((addR s0 [106] [] 0 [111, 110, 101]).1).kept))] [] hNb4 (by simp only [List.map_cons, List.map_nil, List.forall_mem_cons]; exact ⟨hFb4, hFb1, hFb2, hFb3, fun _ h => by cases h⟩)), ?_⟩
 show K (.bool true) m

 exact hK

end Go.Proofs

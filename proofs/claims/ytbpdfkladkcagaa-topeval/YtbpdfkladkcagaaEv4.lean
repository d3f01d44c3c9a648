import Derived.Test.YtbpdfkladkcagaaProg
import Derived.Test.YtbpdfkladkcagaaWl4
import Derived.Test.YtbpdfkladkcagaaEv3
namespace Go.Proofs
open Go Go.Aw
set_option maxRecDepth 100000


theorem u_eval (bi br bf : Nat) (en rs : VMap) (hN : [bi, br, bf].Nodup) (hen : ∀ p ∈ en, okV p.2) (hrs : ∀ p ∈ rs, okV p.2) : ∀ (k : Nat) (e : Exp), depE e < k → okE e → ∀ (m : AMem) (K : AV → AMem → Prop), K (.tuple [valTop (evF en rs k e).1, .err 67 (evF en rs k e).2]) (AMem.wth m [(bi, vmO en), (br, vmO rs), (bf, nmO)]) → ACalls Try.prog 16 [expTop e, .agg [.map bi, .map br, .map bf]] (AMem.wth m [(bi, vmO en), (br, vmO rs), (bf, nmO)]) K
  | 0, _, h, _ => absurd h (Nat.not_lt_zero _)
  | k + 1, e, h, hok => fun m K hK => u_eval1 k e bi br bf en rs hN hen hrs hok (u_eval bi br bf en rs hN hen hrs k) h m K hK
theorem u_EvalT (e : Exp) (bi br bf : Nat) (en rs : VMap) (hN : [bi, br, bf].Nodup) (hen : ∀ p ∈ en, okV p.2) (hrs : ∀ p ∈ rs, okV p.2) (hok : okE e) : ∀ (m : AMem) (K : AV → AMem → Prop), K (.tuple [valTop (gE en rs (depE e + 1) e).1, .err 67 (gE en rs (depE e + 1) e).2]) (AMem.wth m [(bi, vmO en), (br, vmO rs), (bf, nmO)]) → ACalls Try.prog 5 [expTop e, .agg [.map bi, .map br, .map bf]] (AMem.wth m [(bi, vmO en), (br, vmO rs), (bf, nmO)]) K := fun m K hK =>
  u_Eval1 e bi br bf en rs (evF en rs (depE e + 1) e) hN (u_eval bi br bf en rs hN hen hrs (depE e + 1) e (Nat.lt_succ_self _) hok) m K hK
def v5 : Val := .mk 1 5 [] [] []
theorem okV_v5 : okV v5 := okV_small 2 v5 (by decide) (by decide)
theorem chk_v5 : chk v5 = 0 := by decide +kernel


theorem u_Check5 (m : AMem) (K : AV → AMem → Prop) (hK : K (.err 67 0) m) : ACalls Try.prog 17 [valTop v5] m K := u_Check v5 m K (by rw [chk_v5]; exact hK)

set_option maxHeartbeats 2000000 in
theorem u_eval5   (m : AMem)  (K : AV → AMem → Prop) (hK : K (.tuple [.agg [.int .i64 1, .int .i64 5, .str ([]), .slice false [], .slice false []], .err 67 0]) m) : ACalls Try.prog 16 [.agg [.int .i64 1, .int .i64 1, .int .i64 5, .str ([]), .slice false [], .slice false [], .str ([]), .str ([]), .slice false [], .slice false []], .agg [.nilmap, .nilmap, .nilmap]] m K := by
 refine acalls_enter Try.func16 rfl (by decide) (Nat.le_of_ble_eq_true rfl) ?_
 show AWP _ _ _ _ [(0, .agg [.int .i64 1, .int .i64 1, .int .i64 5, .str ([]), .slice false [], .slice false [], .str ([]), .str ([]), .slice false [], .slice false []]), (1, .agg [.nilmap, .nilmap, .nilmap])] m
 refine awp_reg2_seq [] [2, 3, 4] (by decide) ?_
 intro K1 hK1
 refine ar_box rfl (m := m) (L := []) (v := .agg [.int .i64 1, .int .i64 1, .int .i64 5, .str ([]), .slice false [], .slice false [], .str ([]), .str ([]), .slice false [], .slice false []]) rfl rfl ?_
 intro b1 hb1
 have hFb1 : m b1 = none := wth_none (m := m) (L := []) hb1
 have hNb1 : ([b1] : List Nat).Nodup := wth_nodup (m := m) (L := []) hb1 List.nodup_nil
 refine ar_box rfl (m := m) (L := [(b1, .cells [.int .i64 1, .int .i64 1, .int .i64 5, .str ([]), .slice false [], .slice false [], .str ([]), .str ([]), .slice false [], .slice false []])]) (v := .agg [.nilmap, .nilmap, .nilmap]) rfl rfl ?_
 intro b2 hb2
 have hFb2 : m b2 = none := wth_none hb2
 have hNb2 : ([b2, b1] : List Nat).Nodup := wth_nodup hb2 hNb1
 refine ar_alloc rfl (z := .agg [.int .i64 0, .int .i64 0, .str ([]), .slice true [], .slice true []]) rfl rfl ?_
 intro b3 hb3
 have hFb3 : m b3 = none := wth_none hb3
 have hNb3 : ([b3, b2, b1] : List Nat).Nodup := wth_nodup hb3 hNb2
 refine ⟨trivial, ?_⟩
 show K1 [(2, .ptr ⟨b1, 0, none⟩), (3, .ptr ⟨b2, 0, none⟩), (4, .ptr ⟨b3, 0, none⟩)] (AMem.wth m [(b3, zO), (b2, .cells [.nilmap, .nilmap, .nilmap]), (b1, .cells [.int .i64 1, .int .i64 1, .int .i64 5, .str ([]), .slice false [], .slice false [], .str ([]), .str ([]), .slice false [], .slice false []])])
 refine hK1 _ _ ?_; clear hK1 K1
 refine awp_seq_k ?_; intro K2 hK2
 refine awp_reg2_seq [] [2, 3, 4, 17] (by decide) ?_
 intro K1 hK1
 refine ⟨⟨rfl, by decide⟩, ?_⟩
 refine ar_loadp rfl (v := .int .i64 1) rfl (wth_get 2 hNb3 rfl) rfl (apartOk_one rfl rfl (Nat.le_of_ble_eq_true rfl)) rfl ?_
 show K1 [(2, .ptr ⟨b1, 0, none⟩), (3, .ptr ⟨b2, 0, none⟩), (4, .ptr ⟨b3, 0, none⟩), (17, .int .i64 1)] (AMem.wth m [(b3, zO), (b2, .cells [.nilmap, .nilmap, .nilmap]), (b1, .cells [.int .i64 1, .int .i64 1, .int .i64 5, .str ([]), .slice false [], .slice false [], .str ([]), .str ([]), .slice false [], .slice false []])])
 refine hK1 _ _ ?_; clear hK1 K1
 refine awp_block ?_
 refine awp_reg2_seq [] [2, 3, 4, 17, 18] (by decide) ?_
 intro K1 hK1
 refine ⟨trivial, trivial, ?_⟩
 show K1 [(2, .ptr ⟨b1, 0, none⟩), (3, .ptr ⟨b2, 0, none⟩), (4, .ptr ⟨b3, 0, none⟩), (17, .int .i64 1), (18, .bool true)] (AMem.wth m [(b3, zO), (b2, .cells [.nilmap, .nilmap, .nilmap]), (b1, .cells [.int .i64 1, .int .i64 1, .int .i64 5, .str ([]), .slice false [], .slice false [], .str ([]), .str ([]), .slice false [], .slice false []])])
 refine hK1 _ _ ?_; clear hK1 K1
 refine awp_cond rfl rfl (fun hcz => ?_) (fun hcz => ?_)
 rotate_left; · cases hcz
 clear hcz
 refine awp_reg2_seq [] [4, 5] (by decide) ?_
 intro K1 hK1
 refine ⟨⟨rfl, by decide⟩, ?_⟩
 refine ar_loadp rfl (v := .agg [.int .i64 1, .int .i64 5, .str ([]), .slice false [], .slice false []]) rfl (wth_get 2 hNb3 rfl) rfl (apartOk_agg rfl rfl (Nat.le_of_ble_eq_true rfl)) rfl ?_
 refine u_Copy v5 okV_v5 _ _ ?_
 refine ar_storep rfl 0 (v := .agg [.int .i64 1, .int .i64 5, .str ([]), .slice false [], .slice false []]) (l' := [.int .i64 1, .int .i64 5, .str ([]), .slice false [], .slice false []]) rfl rfl hNb3 rfl rfl rfl rfl rfl (Nat.le_of_ble_eq_true rfl) rfl ?_
 refine ⟨trivial, ?_⟩
 show K1 [(4, .ptr ⟨b3, 0, none⟩), (5, .nilIface)] (AMem.wth m [(b3, .cells [.int .i64 1, .int .i64 5, .str ([]), .slice false [], .slice false []]), (b2, .cells [.nilmap, .nilmap, .nilmap]), (b1, .cells [.int .i64 1, .int .i64 1, .int .i64 5, .str ([]), .slice false [], .slice false [], .str ([]), .str ([]), .slice false [], .slice false []])])
 refine hK1 _ _ ?_; clear hK1 K1
 refine awp_toErr 67 [5] ?_
 show AWP _ _ _ _ [(4, .ptr ⟨b3, 0, none⟩), (5, .err 67 0)] (AMem.wth m [(b3, .cells [.int .i64 1, .int .i64 5, .str ([]), .slice false [], .slice false []]), (b2, .cells [.nilmap, .nilmap, .nilmap]), (b1, .cells [.int .i64 1, .int .i64 1, .int .i64 5, .str ([]), .slice false [], .slice false [], .str ([]), .str ([]), .slice false [], .slice false []])])
 refine awp_ret ?_
 refine resK_cell2 (fn := Try.f16) (a := 4) (t := 25) (s := 5) (b := b3) (off := 0) rfl rfl (wth_get  (m := m) (L := [(b3, .cells [.int .i64 1, .int .i64 5, .str ([]), .slice false [], .slice false []]), (b2, .cells [.nilmap, .nilmap, .nilmap]), (b1, .cells [.int .i64 1, .int .i64 1, .int .i64 5, .str ([]), .slice false [], .slice false [], .str ([]), .str ([]), .slice false [], .slice false []])]) 0 hNb3 rfl) (apartOk_agg rfl rfl (Nat.le_of_ble_eq_true rfl)) (.agg [.int .i64 1, .int .i64 5, .str ([]), .slice false [], .slice false []]) (.err 67 0) rfl rfl (.err 67 0) rfl m ((wth_sub2 (m := m) [(b3, .cells [.int .i64 1, .int .i64 5, .str ([]), .slice false [], .slice false []]), (b2, .cells [.nilmap, .nilmap, .nilmap]), (b1, .cells [.int .i64 1, .int .i64 1, .int .i64 5, .str ([]), .slice false [], .slice false [], .str ([]), .str ([]), .slice false [], .slice false []])] [] hNb3 (by simp only [List.map_cons, List.map_nil, List.forall_mem_cons]; exact ⟨hFb3, hFb2, hFb1, fun _ h => by cases h⟩))) ?_
 show K (.tuple [.agg [.int .i64 1, .int .i64 5, .str ([]), .slice false [], .slice false []], .err 67 0]) m

 exact hK

set_option maxHeartbeats 2000000 in
theorem u_Eval5   (m : AMem)  (K : AV → AMem → Prop) (hK : K (.tuple [.agg [.int .i64 1, .int .i64 5, .str ([]), .slice false [], .slice false []], .err 67 0]) m) : ACalls Try.prog 5 [.agg [.int .i64 1, .int .i64 1, .int .i64 5, .str ([]), .slice false [], .slice false [], .str ([]), .str ([]), .slice false [], .slice false []], .agg [.nilmap, .nilmap, .nilmap]] m K := by
 refine acalls_enter Try.func5 rfl (by decide) (Nat.le_of_ble_eq_true rfl) ?_
 show AWP _ _ _ _ [(0, .agg [.int .i64 1, .int .i64 1, .int .i64 5, .str ([]), .slice false [], .slice false [], .str ([]), .str ([]), .slice false [], .slice false []]), (1, .agg [.nilmap, .nilmap, .nilmap])] m
 refine awp_reg2_seq [] [2, 3, 4] (by decide) ?_
 intro K1 hK1
 refine ar_box rfl (m := m) (L := []) (v := .agg [.int .i64 1, .int .i64 1, .int .i64 5, .str ([]), .slice false [], .slice false [], .str ([]), .str ([]), .slice false [], .slice false []]) rfl rfl ?_
 intro b1 hb1
 have hFb1 : m b1 = none := wth_none (m := m) (L := []) hb1
 have hNb1 : ([b1] : List Nat).Nodup := wth_nodup (m := m) (L := []) hb1 List.nodup_nil
 refine ar_box rfl (m := m) (L := [(b1, .cells [.int .i64 1, .int .i64 1, .int .i64 5, .str ([]), .slice false [], .slice false [], .str ([]), .str ([]), .slice false [], .slice false []])]) (v := .agg [.nilmap, .nilmap, .nilmap]) rfl rfl ?_
 intro b2 hb2
 have hFb2 : m b2 = none := wth_none hb2
 have hNb2 : ([b2, b1] : List Nat).Nodup := wth_nodup hb2 hNb1
 refine ar_alloc rfl (z := .agg [.int .i64 0, .int .i64 0, .str ([]), .slice true [], .slice true []]) rfl rfl ?_
 intro b3 hb3
 have hFb3 : m b3 = none := wth_none hb3
 have hNb3 : ([b3, b2, b1] : List Nat).Nodup := wth_nodup hb3 hNb2
 refine ⟨trivial, ?_⟩
 show K1 [(2, .ptr ⟨b1, 0, none⟩), (3, .ptr ⟨b2, 0, none⟩), (4, .ptr ⟨b3, 0, none⟩)] (AMem.wth m [(b3, zO), (b2, .cells [.nilmap, .nilmap, .nilmap]), (b1, .cells [.int .i64 1, .int .i64 1, .int .i64 5, .str ([]), .slice false [], .slice false [], .str ([]), .str ([]), .slice false [], .slice false []])])
 refine hK1 _ _ ?_; clear hK1 K1
 refine awp_reg2_seq [] [4, 6, 7] (by decide) ?_
 intro K1 hK1
 refine ar_loadp rfl (v := .agg [.int .i64 1, .int .i64 1, .int .i64 5, .str ([]), .slice false [], .slice false [], .str ([]), .str ([]), .slice false [], .slice false []]) rfl (wth_get 2 hNb3 rfl) rfl (apartOk_agg rfl rfl (Nat.le_of_ble_eq_true rfl)) rfl ?_
 refine ar_loadp rfl (v := .agg [.nilmap, .nilmap, .nilmap]) rfl (wth_get 1 hNb3 rfl) rfl (apartOk_agg rfl rfl (Nat.le_of_ble_eq_true rfl)) rfl ?_
 refine u_eval5 _ _ ?_
 refine ⟨trivial, (Nat.le_of_ble_eq_true rfl), (Nat.le_of_ble_eq_true rfl), ?_⟩
 refine ar_alloc rfl (z := .agg [.int .i64 0, .int .i64 0, .str ([]), .slice true [], .slice true []]) rfl rfl ?_
 intro b4 hb4
 have hFb4 : m b4 = none := wth_none hb4
 have hNb4 : ([b4, b3, b2, b1] : List Nat).Nodup := wth_nodup hb4 hNb3
 refine ar_storep rfl 0 (v := .agg [.int .i64 1, .int .i64 5, .str ([]), .slice false [], .slice false []]) (l' := [.int .i64 1, .int .i64 5, .str ([]), .slice false [], .slice false []]) rfl rfl hNb4 rfl rfl rfl rfl rfl (Nat.le_of_ble_eq_true rfl) rfl ?_
 refine ⟨trivial, ?_⟩
 show K1 [(4, .ptr ⟨b3, 0, none⟩), (6, .ptr ⟨b4, 0, none⟩), (7, .err 67 0)] (AMem.wth m [(b4, .cells [.int .i64 1, .int .i64 5, .str ([]), .slice false [], .slice false []]), (b3, zO), (b2, .cells [.nilmap, .nilmap, .nilmap]), (b1, .cells [.int .i64 1, .int .i64 1, .int .i64 5, .str ([]), .slice false [], .slice false [], .str ([]), .str ([]), .slice false [], .slice false []])])
 refine hK1 _ _ ?_; clear hK1 K1
 refine awp_seq_k ?_; intro K2 hK2
 refine awp_reg2_seq [] [4, 6, 7, 15] (by decide) ?_
 intro K1 hK1
 refine ⟨trivial, ⟨rfl, rfl⟩, ?_⟩
 show K1 [(4, .ptr ⟨b3, 0, none⟩), (6, .ptr ⟨b4, 0, none⟩), (7, .err 67 0), (15, .bool true)] (AMem.wth m [(b4, .cells [.int .i64 1, .int .i64 5, .str ([]), .slice false [], .slice false []]), (b3, zO), (b2, .cells [.nilmap, .nilmap, .nilmap]), (b1, .cells [.int .i64 1, .int .i64 1, .int .i64 5, .str ([]), .slice false [], .slice false [], .str ([]), .str ([]), .slice false [], .slice false []])])
 refine hK1 _ _ ?_; clear hK1 K1
 refine awp_cond rfl rfl (fun hcz => ?_) (fun hcz => ?_)
 rotate_left; · cases hcz
 clear hcz
 refine awp_reg2 [] [4, 6, 7] (by decide) ?_
 intro K1 hK1
 refine ar_loadp rfl (v := .agg [.int .i64 1, .int .i64 5, .str ([]), .slice false [], .slice false []]) rfl (wth_get 0 hNb4 rfl) rfl (apartOk_agg rfl rfl (Nat.le_of_ble_eq_true rfl)) rfl ?_
 refine u_Check5 _ _ ?_
 refine ⟨trivial, ?_⟩
 show K1 [(4, .ptr ⟨b3, 0, none⟩), (6, .ptr ⟨b4, 0, none⟩), (7, .err 67 0)] (AMem.wth m [(b4, .cells [.int .i64 1, .int .i64 5, .str ([]), .slice false [], .slice false []]), (b3, zO), (b2, .cells [.nilmap, .nilmap, .nilmap]), (b1, .cells [.int .i64 1, .int .i64 1, .int .i64 5, .str ([]), .slice false [], .slice false [], .str ([]), .str ([]), .slice false [], .slice false []])])
 refine hK1 _ _ ?_; clear hK1 K1
 refine hK2 _ _ ?_; clear hK2
 refine awp_seq_k ?_; intro K3 hK3
 refine awp_reg2_seq [] [4, 6, 7, 19] (by decide) ?_
 intro K1 hK1
 refine ⟨trivial, ⟨rfl, rfl⟩, ?_⟩
 show K1 [(4, .ptr ⟨b3, 0, none⟩), (6, .ptr ⟨b4, 0, none⟩), (7, .err 67 0), (19, .bool false)] (AMem.wth m [(b4, .cells [.int .i64 1, .int .i64 5, .str ([]), .slice false [], .slice false []]), (b3, zO), (b2, .cells [.nilmap, .nilmap, .nilmap]), (b1, .cells [.int .i64 1, .int .i64 1, .int .i64 5, .str ([]), .slice false [], .slice false [], .str ([]), .str ([]), .slice false [], .slice false []])])
 refine hK1 _ _ ?_; clear hK1 K1
 refine awp_cond rfl rfl (fun hcz => ?_) (fun hcz => ?_)
 ·
  cases hcz
 clear hcz
 refine awp_skip ?_
 refine hK3 _ _ ?_; clear hK3
 refine awp_reg2_seq [] [4, 5] (by decide) ?_
 intro K1 hK1
 refine ar_loadp rfl (v := .agg [.int .i64 1, .int .i64 5, .str ([]), .slice false [], .slice false []]) rfl (wth_get 0 hNb4 rfl) rfl (apartOk_agg rfl rfl (Nat.le_of_ble_eq_true rfl)) rfl ?_
 refine ar_storep rfl 1 (v := .agg [.int .i64 1, .int .i64 5, .str ([]), .slice false [], .slice false []]) (l' := [.int .i64 1, .int .i64 5, .str ([]), .slice false [], .slice false []]) rfl rfl hNb4 rfl rfl rfl rfl rfl (Nat.le_of_ble_eq_true rfl) rfl ?_
 refine ⟨trivial, ?_⟩
 show K1 [(4, .ptr ⟨b3, 0, none⟩), (5, .nilIface)] (AMem.wth m [(b4, .cells [.int .i64 1, .int .i64 5, .str ([]), .slice false [], .slice false []]), (b3, .cells [.int .i64 1, .int .i64 5, .str ([]), .slice false [], .slice false []]), (b2, .cells [.nilmap, .nilmap, .nilmap]), (b1, .cells [.int .i64 1, .int .i64 1, .int .i64 5, .str ([]), .slice false [], .slice false [], .str ([]), .str ([]), .slice false [], .slice false []])])
 refine hK1 _ _ ?_; clear hK1 K1
 refine awp_toErr 67 [5] ?_
 show AWP _ _ _ _ [(4, .ptr ⟨b3, 0, none⟩), (5, .err 67 0)] (AMem.wth m [(b4, .cells [.int .i64 1, .int .i64 5, .str ([]), .slice false [], .slice false []]), (b3, .cells [.int .i64 1, .int .i64 5, .str ([]), .slice false [], .slice false []]), (b2, .cells [.nilmap, .nilmap, .nilmap]), (b1, .cells [.int .i64 1, .int .i64 1, .int .i64 5, .str ([]), .slice false [], .slice false [], .str ([]), .str ([]), .slice false [], .slice false []])])
 refine awp_ret ?_
 refine resK_cell2 (fn := Try.f5) (a := 4) (t := 25) (s := 5) (b := b3) (off := 0) rfl rfl (wth_get  (m := m) (L := [(b4, .cells [.int .i64 1, .int .i64 5, .str ([]), .slice false [], .slice false []]), (b3, .cells [.int .i64 1, .int .i64 5, .str ([]), .slice false [], .slice false []]), (b2, .cells [.nilmap, .nilmap, .nilmap]), (b1, .cells [.int .i64 1, .int .i64 1, .int .i64 5, .str ([]), .slice false [], .slice false [], .str ([]), .str ([]), .slice false [], .slice false []])]) 1 hNb4 rfl) (apartOk_agg rfl rfl (Nat.le_of_ble_eq_true rfl)) (.agg [.int .i64 1, .int .i64 5, .str ([]), .slice false [], .slice false []]) (.err 67 0) rfl rfl (.err 67 0) rfl m ((wth_sub2 (m := m) [(b4, .cells [.int .i64 1, .int .i64 5, .str ([]), .slice false [], .slice false []]), (b3, .cells [.int .i64 1, .int .i64 5, .str ([]), .slice false [], .slice false []]), (b2, .cells [.nilmap, .nilmap, .nilmap]), (b1, .cells [.int .i64 1, .int .i64 1, .int .i64 5, .str ([]), .slice false [], .slice false [], .str ([]), .str ([]), .slice false [], .slice false []])] [] hNb4 (by simp only [List.map_cons, List.map_nil, List.forall_mem_cons]; exact ⟨hFb4, hFb3, hFb2, hFb1, fun _ h => by cases h⟩))) ?_
 show K (.tuple [.agg [.int .i64 1, .int .i64 5, .str ([]), .slice false [], .slice false []], .err 67 0]) m

 exact hK

set_option maxHeartbeats 2000000 in
theorem u_number (c : Int)  (m : AMem)  (K : AV → AMem → Prop) (hK : K (.int .i64 c) m) : ACalls Try.prog 11 [.err 67 c] m K := by
 refine acalls_enter Try.func11 rfl (by decide) (Nat.le_of_ble_eq_true rfl) ?_
 show AWP _ _ _ _ [(0, .err 67 c)] m
 refine awp_reg2_seq [] [0] (by decide) ?_
 intro K1 hK1
 refine ⟨trivial, ?_⟩
 show K1 [(0, .err 67 c)] m
 refine hK1 _ _ ?_; clear hK1 K1
 refine awp_seq_k ?_; intro K2 hK2
 refine awp_reg2_seq [] [0, 6] (by decide) ?_
 intro K1 hK1
 refine ⟨trivial, ⟨rfl, rfl⟩, ?_⟩
 show K1 [(0, .err 67 c), (6, .bool (c == 0))] m
 refine hK1 _ _ ?_; clear hK1 K1
 refine awp_cond rfl rfl (fun h1 => ?_) (fun h1 => ?_)
 ·
  replace h1 : c = 0 := (eq_of_beq h1)
  refine awp_reg2_seq [] [2] (by decide) ?_
  intro K1 hK1
  refine ⟨trivial, ?_⟩
  show K1 [(2, .int .i64 0)] m
  refine hK1 _ _ ?_; clear hK1 K1
  refine awp_ret ?_
  refine ⟨trivial, m, fun _ _ h => h, ?_⟩
  show K (.int .i64 0) m
 
  refine K_eq hK (congrArg (AV.int .i64) ?_)
  omega
 replace h1 : c ≠ 0 := (ne_of_beq_false h1)
 refine awp_skip ?_
 refine hK2 _ _ ?_; clear hK2
 refine awp_reg2_seq [] [3, 4] (by decide) ?_
 intro K1 hK1
 refine ⟨trivial, rfl, trivial, (Nat.le_of_ble_eq_true rfl), (Nat.le_of_ble_eq_true rfl), trivial, trivial, ?_⟩
 show K1 [(3, .int .i64 c), (4, .bool (!(c == 0)))] m
 refine hK1 _ _ ?_; clear hK1 K1
 refine awp_seq_k ?_; intro K3 hK3
 refine awp_reg2_seq [] [3, 13] (by decide) ?_
 intro K1 hK1
 refine ⟨trivial, trivial, ?_⟩
 show K1 [(3, .int .i64 c), (13, .bool (!(!(c == 0))))] m
 refine hK1 _ _ ?_; clear hK1 K1
 refine awp_cond rfl rfl (fun h2 => ?_) (fun h2 => ?_)
 ·
  replace h2 : c = 0 := (eq_of_beq (bnF (bnT h2)))
  omega
 replace h2 : c ≠ 0 := (ne_of_beq_false (bnT (bnF h2)))
 refine awp_skip ?_
 refine hK3 _ _ ?_; clear hK3
 refine awp_reg2_seq [] [2] (by decide) ?_
 intro K1 hK1
 refine ⟨trivial, trivial, ?_⟩
 show K1 [(2, .int .i64 c)] m
 refine hK1 _ _ ?_; clear hK1 K1
 refine awp_ret ?_
 refine ⟨trivial, m, fun _ _ h => h, ?_⟩
 show K (.int .i64 c) m

 exact hK

set_option maxHeartbeats 4000000 in
theorem u_Envs (l : List (Str × Val)) (hl : l.length ≤ 1466015503701) (m : AMem)  (K : AV → AMem → Prop) (hK : ∀ bi br bf : Nat, [bi, br, bf].Nodup → m bi = none → m br = none → m bf = none → K (.tuple [.agg [.map bi, .map br, .map bf], .agg [.map bi, .map br, .map bf]]) (AMem.wth m [(bi, vmO (envOf l)), (br, vmO ([] : VMap)), (bf, nmO)])) : ACalls Try.prog 9 [.slice false (l.map fldIn), .slice true [], .slice true []] m K := by
 refine acalls_enter Try.func9 rfl (by decide) (Nat.le_of_ble_eq_true rfl) ?_
 show AWP _ _ _ _ [(0, .slice false (l.map fldIn)), (1, .slice true []), (2, .slice true [])] m
 refine awp_reg2_seq [] [0, 1, 2, 6, 7] (by decide) ?_
 intro K1 hK1
 refine ar_alloc rfl (m := m) (L := []) (z := .agg [.nilmap, .nilmap, .nilmap]) rfl rfl ?_
 intro b1 hb1
 have hFb1 : m b1 = none := wth_none (m := m) (L := []) hb1
 have hNb1 : ([b1] : List Nat).Nodup := wth_nodup (m := m) (L := []) hb1 List.nodup_nil
 refine ar_alloc rfl (z := .agg [.nilmap, .nilmap, .nilmap]) rfl rfl ?_
 intro b2 hb2
 have hFb2 : m b2 = none := wth_none hb2
 have hNb2 : ([b2, b1] : List Nat).Nodup := wth_nodup hb2 hNb1
 show K1 [(0, .slice false (l.map fldIn)), (1, .slice true []), (2, .slice true []), (6, .ptr ⟨b1, 0, none⟩), (7, .ptr ⟨b2, 0, none⟩)] (AMem.wth m [(b2, .cells [.nilmap, .nilmap, .nilmap]), (b1, .cells [.nilmap, .nilmap, .nilmap])])
 refine hK1 _ _ ?_; clear hK1 K1
 refine awp_reg2_seq [] [0, 1, 2, 6, 7, 8] (by decide) ?_
 intro K1 hK1
 refine ar_makeMap rfl (m := m) (L := [(b2, .cells [.nilmap, .nilmap, .nilmap]), (b1, .cells [.nilmap, .nilmap, .nilmap])]) rfl ?_
 intro b3 hb3
 have hFb3 : m b3 = none := wth_none hb3
 have hNb3 : ([b3, b2, b1] : List Nat).Nodup := wth_nodup hb3 hNb2
 refine ar_makeMap rfl (m := m) (L := [(b3, vmO ([] : List ((List UInt8) × Val))), (b2, .cells [.nilmap, .nilmap, .nilmap]), (b1, .cells [.nilmap, .nilmap, .nilmap])]) rfl ?_
 intro b4 hb4
 have hFb4 : m b4 = none := wth_none hb4
 have hNb4 : ([b4, b3, b2, b1] : List Nat).Nodup := wth_nodup hb4 hNb3
 refine ar_makeMap rfl (m := m) (L := [(b4, vmO ([] : List ((List UInt8) × Val))), (b3, vmO ([] : List ((List UInt8) × Val))), (b2, .cells [.nilmap, .nilmap, .nilmap]), (b1, .cells [.nilmap, .nilmap, .nilmap])]) rfl ?_
 intro b5 hb5
 have hFb5 : m b5 = none := wth_none hb5
 have hNb5 : ([b5, b4, b3, b2, b1] : List Nat).Nodup := wth_nodup hb5 hNb4
 refine ⟨⟨rfl, by simp only [List.forall_mem_cons]; exact ⟨rfl, rfl, rfl, fun _ h => by cases h⟩, by simp only [List.forall_mem_cons]; exact ⟨rfl, rfl, rfl, fun _ h => by cases h⟩⟩, ?_⟩
 refine ar_alloc rfl (z := .agg [.nilmap, .nilmap, .nilmap]) rfl rfl ?_
 intro b6 hb6
 have hFb6 : m b6 = none := wth_none hb6
 have hNb6 : ([b6, b5, b4, b3, b2, b1] : List Nat).Nodup := wth_nodup hb6 hNb5
 refine ar_storep rfl 0 (v := .agg [.map b3, .map b4, .map b5]) (l' := [.map b3, .map b4, .map b5]) rfl rfl hNb6 rfl rfl rfl rfl rfl (Nat.le_of_ble_eq_true rfl) rfl ?_
 show K1 [(0, .slice false (l.map fldIn)), (1, .slice true []), (2, .slice true []), (6, .ptr ⟨b1, 0, none⟩), (7, .ptr ⟨b2, 0, none⟩), (8, .ptr ⟨b6, 0, none⟩)] (AMem.wth m [(b6, .cells [.map b3, .map b4, .map b5]), (b5, nmO), (b4, vmO ([] : List ((List UInt8) × Val))), (b3, vmO ([] : List ((List UInt8) × Val))), (b2, .cells [.nilmap, .nilmap, .nilmap]), (b1, .cells [.nilmap, .nilmap, .nilmap])])
 refine hK1 _ _ ?_; clear hK1 K1
 refine awp_seq_k ?_; intro K2 hK2
 refine awp_reg2_seq [] [0, 1, 2, 6, 7, 8, 9] (by decide) ?_
 intro K1 hK1
 refine ⟨trivial, ?_⟩
 show K1 [(0, .slice false (l.map fldIn)), (1, .slice true []), (2, .slice true []), (6, .ptr ⟨b1, 0, none⟩), (7, .ptr ⟨b2, 0, none⟩), (8, .ptr ⟨b6, 0, none⟩), (9, .int .i64 0)] (AMem.wth m [(b6, .cells [.map b3, .map b4, .map b5]), (b5, nmO), (b4, vmO ([] : List ((List UInt8) × Val))), (b3, vmO ([] : List ((List UInt8) × Val))), (b2, .cells [.nilmap, .nilmap, .nilmap]), (b1, .cells [.nilmap, .nilmap, .nilmap])])
 refine hK1 _ _ ?_; clear hK1 K1
 refine awp_block ?_
 refine awp_keep [0, 1, 2, 6, 7, 8, 9] (by decide) ?_
 refine awp_loop_st (σ := Int × VMap) (fun ⟨i, en⟩ => [(0, .slice false (l.map fldIn)), (1, .slice true []), (2, .slice true []), (6, .ptr ⟨b1, 0, none⟩), (7, .ptr ⟨b2, 0, none⟩), (8, .ptr ⟨b6, 0, none⟩), (9, .int .i64 i)]) (fun ⟨i, en⟩ => (AMem.wth m [(b6, .cells [.map b3, .map b4, .map b5]), (b5, nmO), (b4, vmO ([] : List ((List UInt8) × Val))), (b3, vmO en), (b2, .cells [.nilmap, .nilmap, .nilmap]), (b1, .cells [.nilmap, .nilmap, .nilmap])])) (fun ⟨i, en⟩ => 0 ≤ i ∧ i ≤ l.length ∧ en = envOf (l.take i.toNat)) (fun ⟨i, en⟩ => l.length - i.toNat) (0, ([] : List ((List UInt8) × Val))) rfl rfl ?_ ?_
 ·
  show 0 ≤ ((0 : Int)) ∧ ((0 : Int)) ≤ l.length ∧ ((([] : List ((List UInt8) × Val)) : VMap)) = envOf (l.take ((0 : Int)).toNat)
  exact ⟨by omega, by omega, rfl⟩
 rintro ⟨i, en⟩ hI
 replace hI : 0 ≤ i ∧ i ≤ l.length ∧ en = envOf (l.take i.toNat) := hI
 have hel : (en.length : Int) ≤ i := by
  have := envOf_len (l.take i.toNat)
  rw [← hI.2.2, List.length_take] at this
  omega
 show AWP _ _ _ _ [(0, .slice false (l.map fldIn)), (1, .slice true []), (2, .slice true []), (6, .ptr ⟨b1, 0, none⟩), (7, .ptr ⟨b2, 0, none⟩), (8, .ptr ⟨b6, 0, none⟩), (9, .int .i64 i)] (AMem.wth m [(b6, .cells [.map b3, .map b4, .map b5]), (b5, nmO), (b4, vmO ([] : List ((List UInt8) × Val))), (b3, vmO en), (b2, .cells [.nilmap, .nilmap, .nilmap]), (b1, .cells [.nilmap, .nilmap, .nilmap])])
 refine awp_seq_k ?_; intro K3 hK3
 refine awp_reg2_seq [] [0, 1, 2, 6, 7, 8, 9, 21] (by decide) ?_
 intro K1 hK1
 refine ⟨trivial, trivial, ?_⟩
 refine ar_len rfl fldIn l rfl rfl rfl ?_
 refine ⟨trivial, ?_⟩
 show K1 [(0, .slice false (l.map fldIn)), (1, .slice true []), (2, .slice true []), (6, .ptr ⟨b1, 0, none⟩), (7, .ptr ⟨b2, 0, none⟩), (8, .ptr ⟨b6, 0, none⟩), (9, .int .i64 i), (21, .bool (decide (i < (l.length : Int))))] (AMem.wth m [(b6, .cells [.map b3, .map b4, .map b5]), (b5, nmO), (b4, vmO ([] : List ((List UInt8) × Val))), (b3, vmO en), (b2, .cells [.nilmap, .nilmap, .nilmap]), (b1, .cells [.nilmap, .nilmap, .nilmap])])
 refine hK1 _ _ ?_; clear hK1 K1
 refine awp_cond rfl rfl (fun h1 => ?_) (fun h1 => ?_)
 ·
  replace h1 : i < (l.length : Int) := (of_decide_eq_true h1)
  refine awp_skip ?_
  refine hK3 _ _ ?_; clear hK3
  refine awp_seq_k ?_; intro K4 hK4
  refine awp_block ?_
  refine awp_draw_tail2 Try.mixed 12 [] [] [] [0, 1, 2, 6, 7, 8, 9] (by decide) (by decide) ?_
  intro K1 hK1
  refine ⟨⟨rfl, by decide⟩, ?_⟩
  refine pq_loadp rfl (v := .map b3) rfl (wth_get 0 hNb6 rfl) (apartOk_one rfl rfl (Nat.le_of_ble_eq_true rfl)) rfl ?_
  refine ⟨trivial, trivial, ?_⟩
  refine pq_index rfl fldTop l i rfl rfl (fldMap l) rfl rfl (by decide) (fun _ => rfl) (by omega) (by omega) ?_
  refine ⟨⟨rfl, by decide, (Nat.le_of_ble_eq_true rfl)⟩, (apartOk_one rfl rfl (Nat.le_of_ble_eq_true rfl)), trivial, trivial, ?_⟩
  refine pq_index rfl fldTop l i rfl rfl (fldMap l) rfl rfl (by decide) (fun _ => rfl) (by omega) (by omega) ?_
  refine ⟨⟨rfl, by decide, (Nat.le_of_ble_eq_true rfl)⟩, (apartOk_agg rfl rfl (Nat.le_of_ble_eq_true rfl)), ?_⟩
  show aopsR _ _ _ _ _ [(35, .agg [.int .i64 (((gI l i).2).kind), .int .i64 (((gI l i).2).n), .str (((gI l i).2).s), .slice false ((((gI l i).2).l).map valIn), .slice false ((((gI l i).2).f).map fldIn)]), (34, .ref [.int .i64 (((gI l i).2).kind), .int .i64 (((gI l i).2).n), .str (((gI l i).2).s), .slice false ((((gI l i).2).l).map valIn), .slice false ((((gI l i).2).f).map fldIn)]), (33, .ref (AV.cells (fldTop (gI l i)))), (32, .int .i64 i), (31, .slice false (l.map fldIn)), (30, .str ((gI l i).1)), (29, .ref [.str ((gI l i).1), .int .i64 (((gI l i).2).kind), .int .i64 (((gI l i).2).n), .str (((gI l i).2).s), .slice false ((((gI l i).2).l).map valIn), .slice false ((((gI l i).2).f).map fldIn)]), (28, .ref (AV.cells (fldTop (gI l i)))), (27, .int .i64 i), (26, .slice false (l.map fldIn)), (25, .map b3), (24, .ptr ⟨b6, 0, none⟩), (0, .slice false (l.map fldIn)), (1, .slice true []), (2, .slice true []), (6, .ptr ⟨b1, 0, none⟩), (7, .ptr ⟨b2, 0, none⟩), (8, .ptr ⟨b6, 0, none⟩), (9, .int .i64 i), (21, .bool (decide (i < (l.length : Int))))] _
  refine ar_mapUpdate rfl (m := m) (L := [(b6, .cells [.map b3, .map b4, .map b5]), (b5, nmO), (b4, vmO ([] : List ((List UInt8) × Val))), (b3, vmO en), (b2, .cells [.nilmap, .nilmap, .nilmap]), (b1, .cells [.nilmap, .nilmap, .nilmap])]) 3 strAV valTop strKey_ok en ((gI l i).1) ((gI l i).2) rfl rfl rfl rfl rfl rfl hNb6 (by have := mput_len en (gI l i).1 (gI l i).2; omega) ?_
  show K1 [(0, .slice false (l.map fldIn)), (1, .slice true []), (2, .slice true []), (6, .ptr ⟨b1, 0, none⟩), (7, .ptr ⟨b2, 0, none⟩), (8, .ptr ⟨b6, 0, none⟩), (9, .int .i64 i)] (AMem.wth m [(b6, .cells [.map b3, .map b4, .map b5]), (b5, nmO), (b4, vmO ([] : List ((List UInt8) × Val))), (b3, vmO (mput en ((gI l i).1) ((gI l i).2))), (b2, .cells [.nilmap, .nilmap, .nilmap]), (b1, .cells [.nilmap, .nilmap, .nilmap])])
  refine hK1 _ _ ?_; clear hK1 K1
  refine hK4 _ _ ?_; clear hK4
  refine awp_reg2 [] [0, 1, 2, 6, 7, 8, 9] (by decide) ?_
  intro K1 hK1
  refine ⟨trivial, ?_⟩
  refine ar_add rfl (a := i) (b := 1) rfl rfl (by omega) (by omega) ?_
  refine ⟨trivial, ?_⟩
  show K1 [(0, .slice false (l.map fldIn)), (1, .slice true []), (2, .slice true []), (6, .ptr ⟨b1, 0, none⟩), (7, .ptr ⟨b2, 0, none⟩), (8, .ptr ⟨b6, 0, none⟩), (9, .int .i64 (i + 1))] (AMem.wth m [(b6, .cells [.map b3, .map b4, .map b5]), (b5, nmO), (b4, vmO ([] : List ((List UInt8) × Val))), (b3, vmO (mput en ((gI l i).1) ((gI l i).2))), (b2, .cells [.nilmap, .nilmap, .nilmap]), (b1, .cells [.nilmap, .nilmap, .nilmap])])
  refine hK1 _ _ ?_; clear hK1 K1
  refine ⟨(i + 1, mput en ((gI l i).1) ((gI l i).2)), rfl, rfl, ?_, ?_⟩
  ·
   show 0 ≤ ((i + 1 : Int)) ∧ ((i + 1 : Int)) ≤ l.length ∧ ((mput en ((gI l i).1) ((gI l i).2) : VMap)) = envOf (l.take ((i + 1 : Int)).toNat)
   exact ⟨by omega, by omega, by rw [take_succ_gI hI.1 h1, envOf_snoc, ← hI.2.2]⟩
  ·
   show l.length - ((i + 1 : Int)).toNat < l.length - i.toNat
   omega
 replace h1 : (l.length : Int) ≤ i := (Int.not_lt.1 (of_decide_eq_false h1))
 refine awp_exit ?_
 refine hK2 _ _ ?_; clear hK2
 refine awp_seq_k ?_; intro K5 hK5
 refine awp_reg2_seq [] [1, 2, 6, 7, 8, 10] (by decide) ?_
 intro K1 hK1
 refine ⟨trivial, ?_⟩
 show K1 [(1, .slice true []), (2, .slice true []), (6, .ptr ⟨b1, 0, none⟩), (7, .ptr ⟨b2, 0, none⟩), (8, .ptr ⟨b6, 0, none⟩), (10, .int .i64 0)] (AMem.wth m [(b6, .cells [.map b3, .map b4, .map b5]), (b5, nmO), (b4, vmO ([] : List ((List UInt8) × Val))), (b3, vmO en), (b2, .cells [.nilmap, .nilmap, .nilmap]), (b1, .cells [.nilmap, .nilmap, .nilmap])])
 refine hK1 _ _ ?_; clear hK1 K1
 refine awp_block ?_
 refine awp_keep [1, 2, 6, 7, 8, 10] (by decide) ?_
 refine awp_loop_st (σ := Int) (fun j => [(1, .slice true []), (2, .slice true []), (6, .ptr ⟨b1, 0, none⟩), (7, .ptr ⟨b2, 0, none⟩), (8, .ptr ⟨b6, 0, none⟩), (10, .int .i64 j)]) (fun _ => (AMem.wth m [(b6, .cells [.map b3, .map b4, .map b5]), (b5, nmO), (b4, vmO ([] : List ((List UInt8) × Val))), (b3, vmO en), (b2, .cells [.nilmap, .nilmap, .nilmap]), (b1, .cells [.nilmap, .nilmap, .nilmap])])) (fun j => j = 0) (fun j => 0) (0) rfl rfl ?_ ?_
 ·
  show ((0 : Int)) = 0
  first | omega | (refine ⟨?_, ?_⟩ <;> first | omega | simp) | simp
 rintro j hI2
 replace hI2 : j = 0 := hI2
 show AWP _ _ _ _ [(1, .slice true []), (2, .slice true []), (6, .ptr ⟨b1, 0, none⟩), (7, .ptr ⟨b2, 0, none⟩), (8, .ptr ⟨b6, 0, none⟩), (10, .int .i64 j)] (AMem.wth m [(b6, .cells [.map b3, .map b4, .map b5]), (b5, nmO), (b4, vmO ([] : List ((List UInt8) × Val))), (b3, vmO en), (b2, .cells [.nilmap, .nilmap, .nilmap]), (b1, .cells [.nilmap, .nilmap, .nilmap])])
 refine awp_seq_k ?_; intro K6 hK6
 refine awp_reg2_seq [] [1, 2, 6, 7, 8, 10, 39] (by decide) ?_
 intro K1 hK1
 refine ⟨trivial, trivial, trivial, trivial, ?_⟩
 show K1 [(1, .slice true []), (2, .slice true []), (6, .ptr ⟨b1, 0, none⟩), (7, .ptr ⟨b2, 0, none⟩), (8, .ptr ⟨b6, 0, none⟩), (10, .int .i64 j), (39, .bool (decide (j < 0)))] (AMem.wth m [(b6, .cells [.map b3, .map b4, .map b5]), (b5, nmO), (b4, vmO ([] : List ((List UInt8) × Val))), (b3, vmO en), (b2, .cells [.nilmap, .nilmap, .nilmap]), (b1, .cells [.nilmap, .nilmap, .nilmap])])
 refine hK1 _ _ ?_; clear hK1 K1
 refine awp_cond rfl rfl (fun h2 => ?_) (fun h2 => ?_)
 ·
  replace h2 : j < 0 := (of_decide_eq_true h2)
  omega
 replace h2 : 0 ≤ j := (Int.not_lt.1 (of_decide_eq_false h2))
 refine awp_exit ?_
 refine hK5 _ _ ?_; clear hK5
 refine awp_seq_k ?_; intro K7 hK7
 refine awp_reg2_seq [] [2, 6, 7, 8, 11] (by decide) ?_
 intro K1 hK1
 refine ⟨trivial, ?_⟩
 show K1 [(2, .slice true []), (6, .ptr ⟨b1, 0, none⟩), (7, .ptr ⟨b2, 0, none⟩), (8, .ptr ⟨b6, 0, none⟩), (11, .int .i64 0)] (AMem.wth m [(b6, .cells [.map b3, .map b4, .map b5]), (b5, nmO), (b4, vmO ([] : List ((List UInt8) × Val))), (b3, vmO en), (b2, .cells [.nilmap, .nilmap, .nilmap]), (b1, .cells [.nilmap, .nilmap, .nilmap])])
 refine hK1 _ _ ?_; clear hK1 K1
 refine awp_block ?_
 refine awp_keep [2, 6, 7, 8, 11] (by decide) ?_
 refine awp_loop_st (σ := Int) (fun k => [(2, .slice true []), (6, .ptr ⟨b1, 0, none⟩), (7, .ptr ⟨b2, 0, none⟩), (8, .ptr ⟨b6, 0, none⟩), (11, .int .i64 k)]) (fun _ => (AMem.wth m [(b6, .cells [.map b3, .map b4, .map b5]), (b5, nmO), (b4, vmO ([] : List ((List UInt8) × Val))), (b3, vmO en), (b2, .cells [.nilmap, .nilmap, .nilmap]), (b1, .cells [.nilmap, .nilmap, .nilmap])])) (fun k => k = 0) (fun k => 0) (0) rfl rfl ?_ ?_
 ·
  show ((0 : Int)) = 0
  first | omega | (refine ⟨?_, ?_⟩ <;> first | omega | simp) | simp
 rintro k hI3
 replace hI3 : k = 0 := hI3
 show AWP _ _ _ _ [(2, .slice true []), (6, .ptr ⟨b1, 0, none⟩), (7, .ptr ⟨b2, 0, none⟩), (8, .ptr ⟨b6, 0, none⟩), (11, .int .i64 k)] (AMem.wth m [(b6, .cells [.map b3, .map b4, .map b5]), (b5, nmO), (b4, vmO ([] : List ((List UInt8) × Val))), (b3, vmO en), (b2, .cells [.nilmap, .nilmap, .nilmap]), (b1, .cells [.nilmap, .nilmap, .nilmap])])
 refine awp_seq_k ?_; intro K8 hK8
 refine awp_reg2_seq [] [2, 6, 7, 8, 11, 57] (by decide) ?_
 intro K1 hK1
 refine ⟨trivial, trivial, trivial, trivial, ?_⟩
 show K1 [(2, .slice true []), (6, .ptr ⟨b1, 0, none⟩), (7, .ptr ⟨b2, 0, none⟩), (8, .ptr ⟨b6, 0, none⟩), (11, .int .i64 k), (57, .bool (decide (k < 0)))] (AMem.wth m [(b6, .cells [.map b3, .map b4, .map b5]), (b5, nmO), (b4, vmO ([] : List ((List UInt8) × Val))), (b3, vmO en), (b2, .cells [.nilmap, .nilmap, .nilmap]), (b1, .cells [.nilmap, .nilmap, .nilmap])])
 refine hK1 _ _ ?_; clear hK1 K1
 refine awp_cond rfl rfl (fun h3 => ?_) (fun h3 => ?_)
 ·
  replace h3 : k < 0 := (of_decide_eq_true h3)
  omega
 replace h3 : 0 ≤ k := (Int.not_lt.1 (of_decide_eq_false h3))
 refine awp_exit ?_
 refine hK7 _ _ ?_; clear hK7
 refine awp_anyA_seq Try.mixed [6, 7] (by decide) ?_
 intro K1 hK1
 intro A hA
 suffices key : ∀ (_ : True), K1 [(6, .ptr ⟨b1, 0, none⟩), (7, .ptr ⟨b2, 0, none⟩)] (AMem.wth m [(b6, .cells [.map b3, .map b4, .map b5]), (b5, nmO), (b4, vmO ([] : List ((List UInt8) × Val))), (b3, vmO en), (b2, .cells [.map b3, .map b4, .map b5]), (b1, .cells [.map b3, .map b4, .map b5])]) by
  have s0 : ∀ (_ : True), A 0 #[true, true, true, true, true, true, true, true, true, true] (fun fr m => K1 (fr.keep [6, 7]) m) [(6, .ptr ⟨b1, 0, none⟩), (7, .ptr ⟨b2, 0, none⟩)] (AMem.wth m [(b6, .cells [.map b3, .map b4, .map b5]), (b5, nmO), (b4, vmO ([] : List ((List UInt8) × Val))), (b3, vmO en), (b2, .cells [.map b3, .map b4, .map b5]), (b1, .cells [.map b3, .map b4, .map b5])]) := by
   intro _
   subst hA
   exact AAny.done (by decide +kernel) (key trivial)
  have s1 : ∀ (_ : True), A 1 #[true, true, true, true, true, true, true, true, true, false] (fun fr m => K1 (fr.keep [6, 7]) m) [(6, .ptr ⟨b1, 0, none⟩), (7, .ptr ⟨b2, 0, none⟩), (108, .agg [.map b3, .map b4, .map b5])] (AMem.wth m [(b6, .cells [.map b3, .map b4, .map b5]), (b5, nmO), (b4, vmO ([] : List ((List UInt8) × Val))), (b3, vmO en), (b2, .cells [.nilmap, .nilmap, .nilmap]), (b1, .cells [.map b3, .map b4, .map b5])]) := by
   intro _
   subst hA
   refine AAny.step [] [9] (by decide +kernel) (by simp) (by decide) ⟨?_, trivial⟩
   ·
    show aopsR _ _ _ [_] _ _ _
    refine ar_storep rfl 4 (v := .agg [.map b3, .map b4, .map b5]) (l' := [.map b3, .map b4, .map b5]) rfl rfl hNb6 rfl rfl rfl rfl rfl (Nat.le_of_ble_eq_true rfl) rfl ?_
    refine AAny.keep [6, 7] (by decide) ?_
    exact s0 trivial
  clear s0
  have s2 : ∀ (_ : True), A 2 #[true, true, true, true, true, true, true, true, false, false] (fun fr m => K1 (fr.keep [6, 7]) m) [(6, .ptr ⟨b1, 0, none⟩), (7, .ptr ⟨b2, 0, none⟩), (101, .agg [.map b3, .map b4, .map b5]), (108, .agg [.map b3, .map b4, .map b5])] (AMem.wth m [(b6, .cells [.map b3, .map b4, .map b5]), (b5, nmO), (b4, vmO ([] : List ((List UInt8) × Val))), (b3, vmO en), (b2, .cells [.nilmap, .nilmap, .nilmap]), (b1, .cells [.nilmap, .nilmap, .nilmap])]) := by
   intro _
   subst hA
   refine AAny.step [] [8] (by decide +kernel) (by simp) (by decide) ⟨?_, trivial⟩
   ·
    show aopsR _ _ _ [_] _ _ _
    refine ar_storep rfl 5 (v := .agg [.map b3, .map b4, .map b5]) (l' := [.map b3, .map b4, .map b5]) rfl rfl hNb6 rfl rfl rfl rfl rfl (Nat.le_of_ble_eq_true rfl) rfl ?_
    refine AAny.keep [6, 7, 108] (by decide) ?_
    exact s1 trivial
  have s3 : ∀ (_ : True), A 2 #[true, true, true, true, true, true, true, false, true, false] (fun fr m => K1 (fr.keep [6, 7]) m) [(6, .ptr ⟨b1, 0, none⟩), (7, .ptr ⟨b2, 0, none⟩), (103, .map b3), (105, .map b4), (107, .map b5)] (AMem.wth m [(b6, .cells [.map b3, .map b4, .map b5]), (b5, nmO), (b4, vmO ([] : List ((List UInt8) × Val))), (b3, vmO en), (b2, .cells [.nilmap, .nilmap, .nilmap]), (b1, .cells [.map b3, .map b4, .map b5])]) := by
   intro _
   subst hA
   refine AAny.step [] [7] (by decide +kernel) (by simp) (by decide) ⟨?_, trivial⟩
   ·
    show aopsR _ _ _ [_] _ _ _
    refine ⟨⟨rfl, by simp only [List.forall_mem_cons]; exact ⟨rfl, rfl, rfl, fun _ h => by cases h⟩, by simp only [List.forall_mem_cons]; exact ⟨rfl, rfl, rfl, fun _ h => by cases h⟩⟩, ?_⟩
    refine AAny.keep [6, 7, 108] (by decide) ?_
    exact s1 trivial
  clear s1
  have s4 : ∀ (_ : True), A 3 #[true, true, true, true, true, true, true, false, false, false] (fun fr m => K1 (fr.keep [6, 7]) m) [(6, .ptr ⟨b1, 0, none⟩), (7, .ptr ⟨b2, 0, none⟩), (101, .agg [.map b3, .map b4, .map b5]), (103, .map b3), (105, .map b4), (107, .map b5)] (AMem.wth m [(b6, .cells [.map b3, .map b4, .map b5]), (b5, nmO), (b4, vmO ([] : List ((List UInt8) × Val))), (b3, vmO en), (b2, .cells [.nilmap, .nilmap, .nilmap]), (b1, .cells [.nilmap, .nilmap, .nilmap])]) := by
   intro _
   subst hA
   refine AAny.step [] [7, 8] (by decide +kernel) (by simp) (by decide) ⟨?_, ?_, trivial⟩
   ·
    show aopsR _ _ _ [_] _ _ _
    refine ⟨⟨rfl, by simp only [List.forall_mem_cons]; exact ⟨rfl, rfl, rfl, fun _ h => by cases h⟩, by simp only [List.forall_mem_cons]; exact ⟨rfl, rfl, rfl, fun _ h => by cases h⟩⟩, ?_⟩
    refine AAny.keep [6, 7, 101, 108] (by decide) ?_
    exact s2 trivial
   ·
    show aopsR _ _ _ [_] _ _ _
    refine ar_storep rfl 5 (v := .agg [.map b3, .map b4, .map b5]) (l' := [.map b3, .map b4, .map b5]) rfl rfl hNb6 rfl rfl rfl rfl rfl (Nat.le_of_ble_eq_true rfl) rfl ?_
    refine AAny.keep [6, 7, 103, 105, 107] (by decide) ?_
    exact s3 trivial
  have s5 : ∀ (_ : True), A 3 #[true, true, true, true, true, true, false, false, true, false] (fun fr m => K1 (fr.keep [6, 7]) m) [(6, .ptr ⟨b1, 0, none⟩), (7, .ptr ⟨b2, 0, none⟩), (103, .map b3), (105, .map b4), (106, .ptr ⟨b6, 2, none⟩)] (AMem.wth m [(b6, .cells [.map b3, .map b4, .map b5]), (b5, nmO), (b4, vmO ([] : List ((List UInt8) × Val))), (b3, vmO en), (b2, .cells [.nilmap, .nilmap, .nilmap]), (b1, .cells [.map b3, .map b4, .map b5])]) := by
   intro _
   subst hA
   refine AAny.step [] [6] (by decide +kernel) (by simp) (by decide) ⟨?_, trivial⟩
   ·
    show aopsR _ _ _ [_] _ _ _
    refine ar_loadp rfl (v := .map b5) rfl (wth_get 0 hNb6 rfl) rfl (apartOk_one rfl rfl (Nat.le_of_ble_eq_true rfl)) rfl ?_
    refine AAny.keep [6, 7, 103, 105, 107] (by decide) ?_
    exact s3 trivial
  have s6 : ∀ (_ : True), A 3 #[true, true, true, true, false, true, true, false, true, false] (fun fr m => K1 (fr.keep [6, 7]) m) [(6, .ptr ⟨b1, 0, none⟩), (7, .ptr ⟨b2, 0, none⟩), (103, .map b3), (104, .ptr ⟨b6, 1, none⟩), (107, .map b5)] (AMem.wth m [(b6, .cells [.map b3, .map b4, .map b5]), (b5, nmO), (b4, vmO ([] : List ((List UInt8) × Val))), (b3, vmO en), (b2, .cells [.nilmap, .nilmap, .nilmap]), (b1, .cells [.map b3, .map b4, .map b5])]) := by
   intro _
   subst hA
   refine AAny.step [] [4] (by decide +kernel) (by simp) (by decide) ⟨?_, trivial⟩
   ·
    show aopsR _ _ _ [_] _ _ _
    refine ar_loadp rfl (v := .map b4) rfl (wth_get 0 hNb6 rfl) rfl (apartOk_one rfl rfl (Nat.le_of_ble_eq_true rfl)) rfl ?_
    refine AAny.keep [6, 7, 103, 105, 107] (by decide) ?_
    exact s3 trivial
  have s7 : ∀ (_ : True), A 3 #[true, true, false, true, true, true, true, false, true, false] (fun fr m => K1 (fr.keep [6, 7]) m) [(6, .ptr ⟨b1, 0, none⟩), (7, .ptr ⟨b2, 0, none⟩), (102, .ptr ⟨b6, 0, none⟩), (105, .map b4), (107, .map b5)] (AMem.wth m [(b6, .cells [.map b3, .map b4, .map b5]), (b5, nmO), (b4, vmO ([] : List ((List UInt8) × Val))), (b3, vmO en), (b2, .cells [.nilmap, .nilmap, .nilmap]), (b1, .cells [.map b3, .map b4, .map b5])]) := by
   intro _
   subst hA
   refine AAny.step [] [2] (by decide +kernel) (by simp) (by decide) ⟨?_, trivial⟩
   ·
    show aopsR _ _ _ [_] _ _ _
    refine ar_loadp rfl (v := .map b3) rfl (wth_get 0 hNb6 rfl) rfl (apartOk_one rfl rfl (Nat.le_of_ble_eq_true rfl)) rfl ?_
    refine AAny.keep [6, 7, 103, 105, 107] (by decide) ?_
    exact s3 trivial
  clear s3
  have s8 : ∀ (_ : True), A 3 #[false, true, true, true, true, true, true, true, false, false] (fun fr m => K1 (fr.keep [6, 7]) m) [(6, .ptr ⟨b1, 0, none⟩), (7, .ptr ⟨b2, 0, none⟩), (8, .ptr ⟨b6, 0, none⟩), (108, .agg [.map b3, .map b4, .map b5])] (AMem.wth m [(b6, .cells [.map b3, .map b4, .map b5]), (b5, nmO), (b4, vmO ([] : List ((List UInt8) × Val))), (b3, vmO en), (b2, .cells [.nilmap, .nilmap, .nilmap]), (b1, .cells [.nilmap, .nilmap, .nilmap])]) := by
   intro _
   subst hA
   refine AAny.step [] [0] (by decide +kernel) (by simp) (by decide) ⟨?_, trivial⟩
   ·
    show aopsR _ _ _ [_] _ _ _
    refine ar_loadp rfl (v := .agg [.map b3, .map b4, .map b5]) rfl (wth_get 0 hNb6 rfl) rfl (apartOk_agg rfl rfl (Nat.le_of_ble_eq_true rfl)) rfl ?_
    refine AAny.keep [6, 7, 101, 108] (by decide) ?_
    exact s2 trivial
  clear s2
  have s9 : ∀ (_ : True), A 4 #[true, true, true, true, true, true, false, false, false, false] (fun fr m => K1 (fr.keep [6, 7]) m) [(6, .ptr ⟨b1, 0, none⟩), (7, .ptr ⟨b2, 0, none⟩), (101, .agg [.map b3, .map b4, .map b5]), (103, .map b3), (105, .map b4), (106, .ptr ⟨b6, 2, none⟩)] (AMem.wth m [(b6, .cells [.map b3, .map b4, .map b5]), (b5, nmO), (b4, vmO ([] : List ((List UInt8) × Val))), (b3, vmO en), (b2, .cells [.nilmap, .nilmap, .nilmap]), (b1, .cells [.nilmap, .nilmap, .nilmap])]) := by
   intro _
   subst hA
   refine AAny.step [] [6, 8] (by decide +kernel) (by simp) (by decide) ⟨?_, ?_, trivial⟩
   ·
    show aopsR _ _ _ [_] _ _ _
    refine ar_loadp rfl (v := .map b5) rfl (wth_get 0 hNb6 rfl) rfl (apartOk_one rfl rfl (Nat.le_of_ble_eq_true rfl)) rfl ?_
    refine AAny.keep [6, 7, 101, 103, 105, 107] (by decide) ?_
    exact s4 trivial
   ·
    show aopsR _ _ _ [_] _ _ _
    refine ar_storep rfl 5 (v := .agg [.map b3, .map b4, .map b5]) (l' := [.map b3, .map b4, .map b5]) rfl rfl hNb6 rfl rfl rfl rfl rfl (Nat.le_of_ble_eq_true rfl) rfl ?_
    refine AAny.keep [6, 7, 103, 105, 106] (by decide) ?_
    exact s5 trivial
  have s10 : ∀ (_ : True), A 4 #[true, true, true, true, true, false, false, false, true, false] (fun fr m => K1 (fr.keep [6, 7]) m) [(6, .ptr ⟨b1, 0, none⟩), (7, .ptr ⟨b2, 0, none⟩), (8, .ptr ⟨b6, 0, none⟩), (103, .map b3), (105, .map b4)] (AMem.wth m [(b6, .cells [.map b3, .map b4, .map b5]), (b5, nmO), (b4, vmO ([] : List ((List UInt8) × Val))), (b3, vmO en), (b2, .cells [.nilmap, .nilmap, .nilmap]), (b1, .cells [.map b3, .map b4, .map b5])]) := by
   intro _
   subst hA
   refine AAny.step [] [5] (by decide +kernel) (by simp) (by decide) ⟨?_, trivial⟩
   ·
    show aopsR _ _ _ [_] _ _ _
    refine ⟨⟨rfl, by decide⟩, ?_⟩
    refine AAny.keep [6, 7, 103, 105, 106] (by decide) ?_
    exact s5 trivial
  have s11 : ∀ (_ : True), A 4 #[true, true, true, true, false, true, true, false, false, false] (fun fr m => K1 (fr.keep [6, 7]) m) [(6, .ptr ⟨b1, 0, none⟩), (7, .ptr ⟨b2, 0, none⟩), (101, .agg [.map b3, .map b4, .map b5]), (103, .map b3), (104, .ptr ⟨b6, 1, none⟩), (107, .map b5)] (AMem.wth m [(b6, .cells [.map b3, .map b4, .map b5]), (b5, nmO), (b4, vmO ([] : List ((List UInt8) × Val))), (b3, vmO en), (b2, .cells [.nilmap, .nilmap, .nilmap]), (b1, .cells [.nilmap, .nilmap, .nilmap])]) := by
   intro _
   subst hA
   refine AAny.step [] [4, 8] (by decide +kernel) (by simp) (by decide) ⟨?_, ?_, trivial⟩
   ·
    show aopsR _ _ _ [_] _ _ _
    refine ar_loadp rfl (v := .map b4) rfl (wth_get 0 hNb6 rfl) rfl (apartOk_one rfl rfl (Nat.le_of_ble_eq_true rfl)) rfl ?_
    refine AAny.keep [6, 7, 101, 103, 105, 107] (by decide) ?_
    exact s4 trivial
   ·
    show aopsR _ _ _ [_] _ _ _
    refine ar_storep rfl 5 (v := .agg [.map b3, .map b4, .map b5]) (l' := [.map b3, .map b4, .map b5]) rfl rfl hNb6 rfl rfl rfl rfl rfl (Nat.le_of_ble_eq_true rfl) rfl ?_
    refine AAny.keep [6, 7, 103, 104, 107] (by decide) ?_
    exact s6 trivial
  have s12 : ∀ (_ : True), A 4 #[true, true, true, true, false, true, false, false, true, false] (fun fr m => K1 (fr.keep [6, 7]) m) [(6, .ptr ⟨b1, 0, none⟩), (7, .ptr ⟨b2, 0, none⟩), (103, .map b3), (104, .ptr ⟨b6, 1, none⟩), (106, .ptr ⟨b6, 2, none⟩)] (AMem.wth m [(b6, .cells [.map b3, .map b4, .map b5]), (b5, nmO), (b4, vmO ([] : List ((List UInt8) × Val))), (b3, vmO en), (b2, .cells [.nilmap, .nilmap, .nilmap]), (b1, .cells [.map b3, .map b4, .map b5])]) := by
   intro _
   subst hA
   refine AAny.step [] [4, 6] (by decide +kernel) (by simp) (by decide) ⟨?_, ?_, trivial⟩
   ·
    show aopsR _ _ _ [_] _ _ _
    refine ar_loadp rfl (v := .map b4) rfl (wth_get 0 hNb6 rfl) rfl (apartOk_one rfl rfl (Nat.le_of_ble_eq_true rfl)) rfl ?_
    refine AAny.keep [6, 7, 103, 105, 106] (by decide) ?_
    exact s5 trivial
   ·
    show aopsR _ _ _ [_] _ _ _
    refine ar_loadp rfl (v := .map b5) rfl (wth_get 0 hNb6 rfl) rfl (apartOk_one rfl rfl (Nat.le_of_ble_eq_true rfl)) rfl ?_
    refine AAny.keep [6, 7, 103, 104, 107] (by decide) ?_
    exact s6 trivial
  have s13 : ∀ (_ : True), A 4 #[true, true, true, false, false, true, true, false, true, false] (fun fr m => K1 (fr.keep [6, 7]) m) [(6, .ptr ⟨b1, 0, none⟩), (7, .ptr ⟨b2, 0, none⟩), (8, .ptr ⟨b6, 0, none⟩), (103, .map b3), (107, .map b5)] (AMem.wth m [(b6, .cells [.map b3, .map b4, .map b5]), (b5, nmO), (b4, vmO ([] : List ((List UInt8) × Val))), (b3, vmO en), (b2, .cells [.nilmap, .nilmap, .nilmap]), (b1, .cells [.map b3, .map b4, .map b5])]) := by
   intro _
   subst hA
   refine AAny.step [] [3] (by decide +kernel) (by simp) (by decide) ⟨?_, trivial⟩
   ·
    show aopsR _ _ _ [_] _ _ _
    refine ⟨⟨rfl, by decide⟩, ?_⟩
    refine AAny.keep [6, 7, 103, 104, 107] (by decide) ?_
    exact s6 trivial
  have s14 : ∀ (_ : True), A 4 #[true, true, false, true, true, true, true, false, false, false] (fun fr m => K1 (fr.keep [6, 7]) m) [(6, .ptr ⟨b1, 0, none⟩), (7, .ptr ⟨b2, 0, none⟩), (101, .agg [.map b3, .map b4, .map b5]), (102, .ptr ⟨b6, 0, none⟩), (105, .map b4), (107, .map b5)] (AMem.wth m [(b6, .cells [.map b3, .map b4, .map b5]), (b5, nmO), (b4, vmO ([] : List ((List UInt8) × Val))), (b3, vmO en), (b2, .cells [.nilmap, .nilmap, .nilmap]), (b1, .cells [.nilmap, .nilmap, .nilmap])]) := by
   intro _
   subst hA
   refine AAny.step [] [2, 8] (by decide +kernel) (by simp) (by decide) ⟨?_, ?_, trivial⟩
   ·
    show aopsR _ _ _ [_] _ _ _
    refine ar_loadp rfl (v := .map b3) rfl (wth_get 0 hNb6 rfl) rfl (apartOk_one rfl rfl (Nat.le_of_ble_eq_true rfl)) rfl ?_
    refine AAny.keep [6, 7, 101, 103, 105, 107] (by decide) ?_
    exact s4 trivial
   ·
    show aopsR _ _ _ [_] _ _ _
    refine ar_storep rfl 5 (v := .agg [.map b3, .map b4, .map b5]) (l' := [.map b3, .map b4, .map b5]) rfl rfl hNb6 rfl rfl rfl rfl rfl (Nat.le_of_ble_eq_true rfl) rfl ?_
    refine AAny.keep [6, 7, 102, 105, 107] (by decide) ?_
    exact s7 trivial
  have s15 : ∀ (_ : True), A 4 #[true, true, false, true, true, true, false, false, true, false] (fun fr m => K1 (fr.keep [6, 7]) m) [(6, .ptr ⟨b1, 0, none⟩), (7, .ptr ⟨b2, 0, none⟩), (102, .ptr ⟨b6, 0, none⟩), (105, .map b4), (106, .ptr ⟨b6, 2, none⟩)] (AMem.wth m [(b6, .cells [.map b3, .map b4, .map b5]), (b5, nmO), (b4, vmO ([] : List ((List UInt8) × Val))), (b3, vmO en), (b2, .cells [.nilmap, .nilmap, .nilmap]), (b1, .cells [.map b3, .map b4, .map b5])]) := by
   intro _
   subst hA
   refine AAny.step [] [2, 6] (by decide +kernel) (by simp) (by decide) ⟨?_, ?_, trivial⟩
   ·
    show aopsR _ _ _ [_] _ _ _
    refine ar_loadp rfl (v := .map b3) rfl (wth_get 0 hNb6 rfl) rfl (apartOk_one rfl rfl (Nat.le_of_ble_eq_true rfl)) rfl ?_
    refine AAny.keep [6, 7, 103, 105, 106] (by decide) ?_
    exact s5 trivial
   ·
    show aopsR _ _ _ [_] _ _ _
    refine ar_loadp rfl (v := .map b5) rfl (wth_get 0 hNb6 rfl) rfl (apartOk_one rfl rfl (Nat.le_of_ble_eq_true rfl)) rfl ?_
    refine AAny.keep [6, 7, 102, 105, 107] (by decide) ?_
    exact s7 trivial
  clear s5
  have s16 : ∀ (_ : True), A 4 #[true, true, false, true, false, true, true, false, true, false] (fun fr m => K1 (fr.keep [6, 7]) m) [(6, .ptr ⟨b1, 0, none⟩), (7, .ptr ⟨b2, 0, none⟩), (102, .ptr ⟨b6, 0, none⟩), (104, .ptr ⟨b6, 1, none⟩), (107, .map b5)] (AMem.wth m [(b6, .cells [.map b3, .map b4, .map b5]), (b5, nmO), (b4, vmO ([] : List ((List UInt8) × Val))), (b3, vmO en), (b2, .cells [.nilmap, .nilmap, .nilmap]), (b1, .cells [.map b3, .map b4, .map b5])]) := by
   intro _
   subst hA
   refine AAny.step [] [2, 4] (by decide +kernel) (by simp) (by decide) ⟨?_, ?_, trivial⟩
   ·
    show aopsR _ _ _ [_] _ _ _
    refine ar_loadp rfl (v := .map b3) rfl (wth_get 0 hNb6 rfl) rfl (apartOk_one rfl rfl (Nat.le_of_ble_eq_true rfl)) rfl ?_
    refine AAny.keep [6, 7, 103, 104, 107] (by decide) ?_
    exact s6 trivial
   ·
    show aopsR _ _ _ [_] _ _ _
    refine ar_loadp rfl (v := .map b4) rfl (wth_get 0 hNb6 rfl) rfl (apartOk_one rfl rfl (Nat.le_of_ble_eq_true rfl)) rfl ?_
    refine AAny.keep [6, 7, 102, 105, 107] (by decide) ?_
    exact s7 trivial
  clear s6
  have s17 : ∀ (_ : True), A 4 #[true, false, false, true, true, true, true, false, true, false] (fun fr m => K1 (fr.keep [6, 7]) m) [(6, .ptr ⟨b1, 0, none⟩), (7, .ptr ⟨b2, 0, none⟩), (8, .ptr ⟨b6, 0, none⟩), (105, .map b4), (107, .map b5)] (AMem.wth m [(b6, .cells [.map b3, .map b4, .map b5]), (b5, nmO), (b4, vmO ([] : List ((List UInt8) × Val))), (b3, vmO en), (b2, .cells [.nilmap, .nilmap, .nilmap]), (b1, .cells [.map b3, .map b4, .map b5])]) := by
   intro _
   subst hA
   refine AAny.step [] [1] (by decide +kernel) (by simp) (by decide) ⟨?_, trivial⟩
   ·
    show aopsR _ _ _ [_] _ _ _
    refine ⟨⟨rfl, by decide⟩, ?_⟩
    refine AAny.keep [6, 7, 102, 105, 107] (by decide) ?_
    exact s7 trivial
  clear s7
  have s18 : ∀ (_ : True), A 4 #[false, true, true, true, true, true, true, false, false, false] (fun fr m => K1 (fr.keep [6, 7]) m) [(6, .ptr ⟨b1, 0, none⟩), (7, .ptr ⟨b2, 0, none⟩), (8, .ptr ⟨b6, 0, none⟩), (103, .map b3), (105, .map b4), (107, .map b5)] (AMem.wth m [(b6, .cells [.map b3, .map b4, .map b5]), (b5, nmO), (b4, vmO ([] : List ((List UInt8) × Val))), (b3, vmO en), (b2, .cells [.nilmap, .nilmap, .nilmap]), (b1, .cells [.nilmap, .nilmap, .nilmap])]) := by
   intro _
   subst hA
   refine AAny.step [] [0, 7] (by decide +kernel) (by simp) (by decide) ⟨?_, ?_, trivial⟩
   ·
    show aopsR _ _ _ [_] _ _ _
    refine ar_loadp rfl (v := .agg [.map b3, .map b4, .map b5]) rfl (wth_get 0 hNb6 rfl) rfl (apartOk_agg rfl rfl (Nat.le_of_ble_eq_true rfl)) rfl ?_
    refine AAny.keep [6, 7, 101, 103, 105, 107] (by decide) ?_
    exact s4 trivial
   ·
    show aopsR _ _ _ [_] _ _ _
    refine ⟨⟨rfl, by simp only [List.forall_mem_cons]; exact ⟨rfl, rfl, rfl, fun _ h => by cases h⟩, by simp only [List.forall_mem_cons]; exact ⟨rfl, rfl, rfl, fun _ h => by cases h⟩⟩, ?_⟩
    refine AAny.keep [6, 7, 8, 108] (by decide) ?_
    exact s8 trivial
  clear s4 s8
  have s19 : ∀ (_ : True), A 5 #[true, true, true, true, true, false, false, false, false, false] (fun fr m => K1 (fr.keep [6, 7]) m) [(6, .ptr ⟨b1, 0, none⟩), (7, .ptr ⟨b2, 0, none⟩), (8, .ptr ⟨b6, 0, none⟩), (101, .agg [.map b3, .map b4, .map b5]), (103, .map b3), (105, .map b4)] (AMem.wth m [(b6, .cells [.map b3, .map b4, .map b5]), (b5, nmO), (b4, vmO ([] : List ((List UInt8) × Val))), (b3, vmO en), (b2, .cells [.nilmap, .nilmap, .nilmap]), (b1, .cells [.nilmap, .nilmap, .nilmap])]) := by
   intro _
   subst hA
   refine AAny.step [] [5, 8] (by decide +kernel) (by simp) (by decide) ⟨?_, ?_, trivial⟩
   ·
    show aopsR _ _ _ [_] _ _ _
    refine ⟨⟨rfl, by decide⟩, ?_⟩
    refine AAny.keep [6, 7, 101, 103, 105, 106] (by decide) ?_
    exact s9 trivial
   ·
    show aopsR _ _ _ [_] _ _ _
    refine ar_storep rfl 5 (v := .agg [.map b3, .map b4, .map b5]) (l' := [.map b3, .map b4, .map b5]) rfl rfl hNb6 rfl rfl rfl rfl rfl (Nat.le_of_ble_eq_true rfl) rfl ?_
    refine AAny.keep [6, 7, 8, 103, 105] (by decide) ?_
    exact s10 trivial
  have s20 : ∀ (_ : True), A 5 #[true, true, true, true, false, true, false, false, false, false] (fun fr m => K1 (fr.keep [6, 7]) m) [(6, .ptr ⟨b1, 0, none⟩), (7, .ptr ⟨b2, 0, none⟩), (101, .agg [.map b3, .map b4, .map b5]), (103, .map b3), (104, .ptr ⟨b6, 1, none⟩), (106, .ptr ⟨b6, 2, none⟩)] (AMem.wth m [(b6, .cells [.map b3, .map b4, .map b5]), (b5, nmO), (b4, vmO ([] : List ((List UInt8) × Val))), (b3, vmO en), (b2, .cells [.nilmap, .nilmap, .nilmap]), (b1, .cells [.nilmap, .nilmap, .nilmap])]) := by
   intro _
   subst hA
   refine AAny.step [] [4, 6, 8] (by decide +kernel) (by simp) (by decide) ⟨?_, ?_, ?_, trivial⟩
   ·
    show aopsR _ _ _ [_] _ _ _
    refine ar_loadp rfl (v := .map b4) rfl (wth_get 0 hNb6 rfl) rfl (apartOk_one rfl rfl (Nat.le_of_ble_eq_true rfl)) rfl ?_
    refine AAny.keep [6, 7, 101, 103, 105, 106] (by decide) ?_
    exact s9 trivial
   ·
    show aopsR _ _ _ [_] _ _ _
    refine ar_loadp rfl (v := .map b5) rfl (wth_get 0 hNb6 rfl) rfl (apartOk_one rfl rfl (Nat.le_of_ble_eq_true rfl)) rfl ?_
    refine AAny.keep [6, 7, 101, 103, 104, 107] (by decide) ?_
    exact s11 trivial
   ·
    show aopsR _ _ _ [_] _ _ _
    refine ar_storep rfl 5 (v := .agg [.map b3, .map b4, .map b5]) (l' := [.map b3, .map b4, .map b5]) rfl rfl hNb6 rfl rfl rfl rfl rfl (Nat.le_of_ble_eq_true rfl) rfl ?_
    refine AAny.keep [6, 7, 103, 104, 106] (by decide) ?_
    exact s12 trivial
  have s21 : ∀ (_ : True), A 5 #[true, true, true, true, false, false, false, false, true, false] (fun fr m => K1 (fr.keep [6, 7]) m) [(6, .ptr ⟨b1, 0, none⟩), (7, .ptr ⟨b2, 0, none⟩), (8, .ptr ⟨b6, 0, none⟩), (103, .map b3), (104, .ptr ⟨b6, 1, none⟩)] (AMem.wth m [(b6, .cells [.map b3, .map b4, .map b5]), (b5, nmO), (b4, vmO ([] : List ((List UInt8) × Val))), (b3, vmO en), (b2, .cells [.nilmap, .nilmap, .nilmap]), (b1, .cells [.map b3, .map b4, .map b5])]) := by
   intro _
   subst hA
   refine AAny.step [] [4, 5] (by decide +kernel) (by simp) (by decide) ⟨?_, ?_, trivial⟩
   ·
    show aopsR _ _ _ [_] _ _ _
    refine ar_loadp rfl (v := .map b4) rfl (wth_get 0 hNb6 rfl) rfl (apartOk_one rfl rfl (Nat.le_of_ble_eq_true rfl)) rfl ?_
    refine AAny.keep [6, 7, 8, 103, 105] (by decide) ?_
    exact s10 trivial
   ·
    show aopsR _ _ _ [_] _ _ _
    refine ⟨⟨rfl, by decide⟩, ?_⟩
    refine AAny.keep [6, 7, 103, 104, 106] (by decide) ?_
    exact s12 trivial
  have s22 : ∀ (_ : True), A 5 #[true, true, true, false, false, true, true, false, false, false] (fun fr m => K1 (fr.keep [6, 7]) m) [(6, .ptr ⟨b1, 0, none⟩), (7, .ptr ⟨b2, 0, none⟩), (8, .ptr ⟨b6, 0, none⟩), (101, .agg [.map b3, .map b4, .map b5]), (103, .map b3), (107, .map b5)] (AMem.wth m [(b6, .cells [.map b3, .map b4, .map b5]), (b5, nmO), (b4, vmO ([] : List ((List UInt8) × Val))), (b3, vmO en), (b2, .cells [.nilmap, .nilmap, .nilmap]), (b1, .cells [.nilmap, .nilmap, .nilmap])]) := by
   intro _
   subst hA
   refine AAny.step [] [3, 8] (by decide +kernel) (by simp) (by decide) ⟨?_, ?_, trivial⟩
   ·
    show aopsR _ _ _ [_] _ _ _
    refine ⟨⟨rfl, by decide⟩, ?_⟩
    refine AAny.keep [6, 7, 101, 103, 104, 107] (by decide) ?_
    exact s11 trivial
   ·
    show aopsR _ _ _ [_] _ _ _
    refine ar_storep rfl 5 (v := .agg [.map b3, .map b4, .map b5]) (l' := [.map b3, .map b4, .map b5]) rfl rfl hNb6 rfl rfl rfl rfl rfl (Nat.le_of_ble_eq_true rfl) rfl ?_
    refine AAny.keep [6, 7, 8, 103, 107] (by decide) ?_
    exact s13 trivial
  have s23 : ∀ (_ : True), A 5 #[true, true, true, false, false, true, false, false, true, false] (fun fr m => K1 (fr.keep [6, 7]) m) [(6, .ptr ⟨b1, 0, none⟩), (7, .ptr ⟨b2, 0, none⟩), (8, .ptr ⟨b6, 0, none⟩), (103, .map b3), (106, .ptr ⟨b6, 2, none⟩)] (AMem.wth m [(b6, .cells [.map b3, .map b4, .map b5]), (b5, nmO), (b4, vmO ([] : List ((List UInt8) × Val))), (b3, vmO en), (b2, .cells [.nilmap, .nilmap, .nilmap]), (b1, .cells [.map b3, .map b4, .map b5])]) := by
   intro _
   subst hA
   refine AAny.step [] [3, 6] (by decide +kernel) (by simp) (by decide) ⟨?_, ?_, trivial⟩
   ·
    show aopsR _ _ _ [_] _ _ _
    refine ⟨⟨rfl, by decide⟩, ?_⟩
    refine AAny.keep [6, 7, 103, 104, 106] (by decide) ?_
    exact s12 trivial
   ·
    show aopsR _ _ _ [_] _ _ _
    refine ar_loadp rfl (v := .map b5) rfl (wth_get 0 hNb6 rfl) rfl (apartOk_one rfl rfl (Nat.le_of_ble_eq_true rfl)) rfl ?_
    refine AAny.keep [6, 7, 8, 103, 107] (by decide) ?_
    exact s13 trivial
  have s24 : ∀ (_ : True), A 5 #[true, true, false, true, true, true, false, false, false, false] (fun fr m => K1 (fr.keep [6, 7]) m) [(6, .ptr ⟨b1, 0, none⟩), (7, .ptr ⟨b2, 0, none⟩), (101, .agg [.map b3, .map b4, .map b5]), (102, .ptr ⟨b6, 0, none⟩), (105, .map b4), (106, .ptr ⟨b6, 2, none⟩)] (AMem.wth m [(b6, .cells [.map b3, .map b4, .map b5]), (b5, nmO), (b4, vmO ([] : List ((List UInt8) × Val))), (b3, vmO en), (b2, .cells [.nilmap, .nilmap, .nilmap]), (b1, .cells [.nilmap, .nilmap, .nilmap])]) := by
   intro _
   subst hA
   refine AAny.step [] [2, 6, 8] (by decide +kernel) (by simp) (by decide) ⟨?_, ?_, ?_, trivial⟩
   ·
    show aopsR _ _ _ [_] _ _ _
    refine ar_loadp rfl (v := .map b3) rfl (wth_get 0 hNb6 rfl) rfl (apartOk_one rfl rfl (Nat.le_of_ble_eq_true rfl)) rfl ?_
    refine AAny.keep [6, 7, 101, 103, 105, 106] (by decide) ?_
    exact s9 trivial
   ·
    show aopsR _ _ _ [_] _ _ _
    refine ar_loadp rfl (v := .map b5) rfl (wth_get 0 hNb6 rfl) rfl (apartOk_one rfl rfl (Nat.le_of_ble_eq_true rfl)) rfl ?_
    refine AAny.keep [6, 7, 101, 102, 105, 107] (by decide) ?_
    exact s14 trivial
   ·
    show aopsR _ _ _ [_] _ _ _
    refine ar_storep rfl 5 (v := .agg [.map b3, .map b4, .map b5]) (l' := [.map b3, .map b4, .map b5]) rfl rfl hNb6 rfl rfl rfl rfl rfl (Nat.le_of_ble_eq_true rfl) rfl ?_
    refine AAny.keep [6, 7, 102, 105, 106] (by decide) ?_
    exact s15 trivial
  have s25 : ∀ (_ : True), A 5 #[true, true, false, true, true, false, false, false, true, false] (fun fr m => K1 (fr.keep [6, 7]) m) [(6, .ptr ⟨b1, 0, none⟩), (7, .ptr ⟨b2, 0, none⟩), (8, .ptr ⟨b6, 0, none⟩), (102, .ptr ⟨b6, 0, none⟩), (105, .map b4)] (AMem.wth m [(b6, .cells [.map b3, .map b4, .map b5]), (b5, nmO), (b4, vmO ([] : List ((List UInt8) × Val))), (b3, vmO en), (b2, .cells [.nilmap, .nilmap, .nilmap]), (b1, .cells [.map b3, .map b4, .map b5])]) := by
   intro _
   subst hA
   refine AAny.step [] [2, 5] (by decide +kernel) (by simp) (by decide) ⟨?_, ?_, trivial⟩
   ·
    show aopsR _ _ _ [_] _ _ _
    refine ar_loadp rfl (v := .map b3) rfl (wth_get 0 hNb6 rfl) rfl (apartOk_one rfl rfl (Nat.le_of_ble_eq_true rfl)) rfl ?_
    refine AAny.keep [6, 7, 8, 103, 105] (by decide) ?_
    exact s10 trivial
   ·
    show aopsR _ _ _ [_] _ _ _
    refine ⟨⟨rfl, by decide⟩, ?_⟩
    refine AAny.keep [6, 7, 102, 105, 106] (by decide) ?_
    exact s15 trivial
  clear s10
  have s26 : ∀ (_ : True), A 5 #[true, true, false, true, false, true, true, false, false, false] (fun fr m => K1 (fr.keep [6, 7]) m) [(6, .ptr ⟨b1, 0, none⟩), (7, .ptr ⟨b2, 0, none⟩), (101, .agg [.map b3, .map b4, .map b5]), (102, .ptr ⟨b6, 0, none⟩), (104, .ptr ⟨b6, 1, none⟩), (107, .map b5)] (AMem.wth m [(b6, .cells [.map b3, .map b4, .map b5]), (b5, nmO), (b4, vmO ([] : List ((List UInt8) × Val))), (b3, vmO en), (b2, .cells [.nilmap, .nilmap, .nilmap]), (b1, .cells [.nilmap, .nilmap, .nilmap])]) := by
   intro _
   subst hA
   refine AAny.step [] [2, 4, 8] (by decide +kernel) (by simp) (by decide) ⟨?_, ?_, ?_, trivial⟩
   ·
    show aopsR _ _ _ [_] _ _ _
    refine ar_loadp rfl (v := .map b3) rfl (wth_get 0 hNb6 rfl) rfl (apartOk_one rfl rfl (Nat.le_of_ble_eq_true rfl)) rfl ?_
    refine AAny.keep [6, 7, 101, 103, 104, 107] (by decide) ?_
    exact s11 trivial
   ·
    show aopsR _ _ _ [_] _ _ _
    refine ar_loadp rfl (v := .map b4) rfl (wth_get 0 hNb6 rfl) rfl (apartOk_one rfl rfl (Nat.le_of_ble_eq_true rfl)) rfl ?_
    refine AAny.keep [6, 7, 101, 102, 105, 107] (by decide) ?_
    exact s14 trivial
   ·
    show aopsR _ _ _ [_] _ _ _
    refine ar_storep rfl 5 (v := .agg [.map b3, .map b4, .map b5]) (l' := [.map b3, .map b4, .map b5]) rfl rfl hNb6 rfl rfl rfl rfl rfl (Nat.le_of_ble_eq_true rfl) rfl ?_
    refine AAny.keep [6, 7, 102, 104, 107] (by decide) ?_
    exact s16 trivial
  have s27 : ∀ (_ : True), A 5 #[true, true, false, true, false, true, false, false, true, false] (fun fr m => K1 (fr.keep [6, 7]) m) [(6, .ptr ⟨b1, 0, none⟩), (7, .ptr ⟨b2, 0, none⟩), (102, .ptr ⟨b6, 0, none⟩), (104, .ptr ⟨b6, 1, none⟩), (106, .ptr ⟨b6, 2, none⟩)] (AMem.wth m [(b6, .cells [.map b3, .map b4, .map b5]), (b5, nmO), (b4, vmO ([] : List ((List UInt8) × Val))), (b3, vmO en), (b2, .cells [.nilmap, .nilmap, .nilmap]), (b1, .cells [.map b3, .map b4, .map b5])]) := by
   intro _
   subst hA
   refine AAny.step [] [2, 4, 6] (by decide +kernel) (by simp) (by decide) ⟨?_, ?_, ?_, trivial⟩
   ·
    show aopsR _ _ _ [_] _ _ _
    refine ar_loadp rfl (v := .map b3) rfl (wth_get 0 hNb6 rfl) rfl (apartOk_one rfl rfl (Nat.le_of_ble_eq_true rfl)) rfl ?_
    refine AAny.keep [6, 7, 103, 104, 106] (by decide) ?_
    exact s12 trivial
   ·
    show aopsR _ _ _ [_] _ _ _
    refine ar_loadp rfl (v := .map b4) rfl (wth_get 0 hNb6 rfl) rfl (apartOk_one rfl rfl (Nat.le_of_ble_eq_true rfl)) rfl ?_
    refine AAny.keep [6, 7, 102, 105, 106] (by decide) ?_
    exact s15 trivial
   ·
    show aopsR _ _ _ [_] _ _ _
    refine ar_loadp rfl (v := .map b5) rfl (wth_get 0 hNb6 rfl) rfl (apartOk_one rfl rfl (Nat.le_of_ble_eq_true rfl)) rfl ?_
    refine AAny.keep [6, 7, 102, 104, 107] (by decide) ?_
    exact s16 trivial
  clear s12
  have s28 : ∀ (_ : True), A 5 #[true, true, false, false, false, true, true, false, true, false] (fun fr m => K1 (fr.keep [6, 7]) m) [(6, .ptr ⟨b1, 0, none⟩), (7, .ptr ⟨b2, 0, none⟩), (8, .ptr ⟨b6, 0, none⟩), (102, .ptr ⟨b6, 0, none⟩), (107, .map b5)] (AMem.wth m [(b6, .cells [.map b3, .map b4, .map b5]), (b5, nmO), (b4, vmO ([] : List ((List UInt8) × Val))), (b3, vmO en), (b2, .cells [.nilmap, .nilmap, .nilmap]), (b1, .cells [.map b3, .map b4, .map b5])]) := by
   intro _
   subst hA
   refine AAny.step [] [2, 3] (by decide +kernel) (by simp) (by decide) ⟨?_, ?_, trivial⟩
   ·
    show aopsR _ _ _ [_] _ _ _
    refine ar_loadp rfl (v := .map b3) rfl (wth_get 0 hNb6 rfl) rfl (apartOk_one rfl rfl (Nat.le_of_ble_eq_true rfl)) rfl ?_
    refine AAny.keep [6, 7, 8, 103, 107] (by decide) ?_
    exact s13 trivial
   ·
    show aopsR _ _ _ [_] _ _ _
    refine ⟨⟨rfl, by decide⟩, ?_⟩
    refine AAny.keep [6, 7, 102, 104, 107] (by decide) ?_
    exact s16 trivial
  clear s13
  have s29 : ∀ (_ : True), A 5 #[true, false, false, true, true, true, true, false, false, false] (fun fr m => K1 (fr.keep [6, 7]) m) [(6, .ptr ⟨b1, 0, none⟩), (7, .ptr ⟨b2, 0, none⟩), (8, .ptr ⟨b6, 0, none⟩), (101, .agg [.map b3, .map b4, .map b5]), (105, .map b4), (107, .map b5)] (AMem.wth m [(b6, .cells [.map b3, .map b4, .map b5]), (b5, nmO), (b4, vmO ([] : List ((List UInt8) × Val))), (b3, vmO en), (b2, .cells [.nilmap, .nilmap, .nilmap]), (b1, .cells [.nilmap, .nilmap, .nilmap])]) := by
   intro _
   subst hA
   refine AAny.step [] [1, 8] (by decide +kernel) (by simp) (by decide) ⟨?_, ?_, trivial⟩
   ·
    show aopsR _ _ _ [_] _ _ _
    refine ⟨⟨rfl, by decide⟩, ?_⟩
    refine AAny.keep [6, 7, 101, 102, 105, 107] (by decide) ?_
    exact s14 trivial
   ·
    show aopsR _ _ _ [_] _ _ _
    refine ar_storep rfl 5 (v := .agg [.map b3, .map b4, .map b5]) (l' := [.map b3, .map b4, .map b5]) rfl rfl hNb6 rfl rfl rfl rfl rfl (Nat.le_of_ble_eq_true rfl) rfl ?_
    refine AAny.keep [6, 7, 8, 105, 107] (by decide) ?_
    exact s17 trivial
  have s30 : ∀ (_ : True), A 5 #[true, false, false, true, true, true, false, false, true, false] (fun fr m => K1 (fr.keep [6, 7]) m) [(6, .ptr ⟨b1, 0, none⟩), (7, .ptr ⟨b2, 0, none⟩), (8, .ptr ⟨b6, 0, none⟩), (105, .map b4), (106, .ptr ⟨b6, 2, none⟩)] (AMem.wth m [(b6, .cells [.map b3, .map b4, .map b5]), (b5, nmO), (b4, vmO ([] : List ((List UInt8) × Val))), (b3, vmO en), (b2, .cells [.nilmap, .nilmap, .nilmap]), (b1, .cells [.map b3, .map b4, .map b5])]) := by
   intro _
   subst hA
   refine AAny.step [] [1, 6] (by decide +kernel) (by simp) (by decide) ⟨?_, ?_, trivial⟩
   ·
    show aopsR _ _ _ [_] _ _ _
    refine ⟨⟨rfl, by decide⟩, ?_⟩
    refine AAny.keep [6, 7, 102, 105, 106] (by decide) ?_
    exact s15 trivial
   ·
    show aopsR _ _ _ [_] _ _ _
    refine ar_loadp rfl (v := .map b5) rfl (wth_get 0 hNb6 rfl) rfl (apartOk_one rfl rfl (Nat.le_of_ble_eq_true rfl)) rfl ?_
    refine AAny.keep [6, 7, 8, 105, 107] (by decide) ?_
    exact s17 trivial
  clear s15
  have s31 : ∀ (_ : True), A 5 #[true, false, false, true, false, true, true, false, true, false] (fun fr m => K1 (fr.keep [6, 7]) m) [(6, .ptr ⟨b1, 0, none⟩), (7, .ptr ⟨b2, 0, none⟩), (8, .ptr ⟨b6, 0, none⟩), (104, .ptr ⟨b6, 1, none⟩), (107, .map b5)] (AMem.wth m [(b6, .cells [.map b3, .map b4, .map b5]), (b5, nmO), (b4, vmO ([] : List ((List UInt8) × Val))), (b3, vmO en), (b2, .cells [.nilmap, .nilmap, .nilmap]), (b1, .cells [.map b3, .map b4, .map b5])]) := by
   intro _
   subst hA
   refine AAny.step [] [1, 4] (by decide +kernel) (by simp) (by decide) ⟨?_, ?_, trivial⟩
   ·
    show aopsR _ _ _ [_] _ _ _
    refine ⟨⟨rfl, by decide⟩, ?_⟩
    refine AAny.keep [6, 7, 102, 104, 107] (by decide) ?_
    exact s16 trivial
   ·
    show aopsR _ _ _ [_] _ _ _
    refine ar_loadp rfl (v := .map b4) rfl (wth_get 0 hNb6 rfl) rfl (apartOk_one rfl rfl (Nat.le_of_ble_eq_true rfl)) rfl ?_
    refine AAny.keep [6, 7, 8, 105, 107] (by decide) ?_
    exact s17 trivial
  clear s16 s17
  have s32 : ∀ (_ : True), A 5 #[false, true, true, true, true, true, false, false, false, false] (fun fr m => K1 (fr.keep [6, 7]) m) [(6, .ptr ⟨b1, 0, none⟩), (7, .ptr ⟨b2, 0, none⟩), (8, .ptr ⟨b6, 0, none⟩), (103, .map b3), (105, .map b4), (106, .ptr ⟨b6, 2, none⟩)] (AMem.wth m [(b6, .cells [.map b3, .map b4, .map b5]), (b5, nmO), (b4, vmO ([] : List ((List UInt8) × Val))), (b3, vmO en), (b2, .cells [.nilmap, .nilmap, .nilmap]), (b1, .cells [.nilmap, .nilmap, .nilmap])]) := by
   intro _
   subst hA
   refine AAny.step [] [0, 6] (by decide +kernel) (by simp) (by decide) ⟨?_, ?_, trivial⟩
   ·
    show aopsR _ _ _ [_] _ _ _
    refine ar_loadp rfl (v := .agg [.map b3, .map b4, .map b5]) rfl (wth_get 0 hNb6 rfl) rfl (apartOk_agg rfl rfl (Nat.le_of_ble_eq_true rfl)) rfl ?_
    refine AAny.keep [6, 7, 101, 103, 105, 106] (by decide) ?_
    exact s9 trivial
   ·
    show aopsR _ _ _ [_] _ _ _
    refine ar_loadp rfl (v := .map b5) rfl (wth_get 0 hNb6 rfl) rfl (apartOk_one rfl rfl (Nat.le_of_ble_eq_true rfl)) rfl ?_
    refine AAny.keep [6, 7, 8, 103, 105, 107] (by decide) ?_
    exact s18 trivial
  clear s9
  have s33 : ∀ (_ : True), A 5 #[false, true, true, true, false, true, true, false, false, false] (fun fr m => K1 (fr.keep [6, 7]) m) [(6, .ptr ⟨b1, 0, none⟩), (7, .ptr ⟨b2, 0, none⟩), (8, .ptr ⟨b6, 0, none⟩), (103, .map b3), (104, .ptr ⟨b6, 1, none⟩), (107, .map b5)] (AMem.wth m [(b6, .cells [.map b3, .map b4, .map b5]), (b5, nmO), (b4, vmO ([] : List ((List UInt8) × Val))), (b3, vmO en), (b2, .cells [.nilmap, .nilmap, .nilmap]), (b1, .cells [.nilmap, .nilmap, .nilmap])]) := by
   intro _
   subst hA
   refine AAny.step [] [0, 4] (by decide +kernel) (by simp) (by decide) ⟨?_, ?_, trivial⟩
   ·
    show aopsR _ _ _ [_] _ _ _
    refine ar_loadp rfl (v := .agg [.map b3, .map b4, .map b5]) rfl (wth_get 0 hNb6 rfl) rfl (apartOk_agg rfl rfl (Nat.le_of_ble_eq_true rfl)) rfl ?_
    refine AAny.keep [6, 7, 101, 103, 104, 107] (by decide) ?_
    exact s11 trivial
   ·
    show aopsR _ _ _ [_] _ _ _
    refine ar_loadp rfl (v := .map b4) rfl (wth_get 0 hNb6 rfl) rfl (apartOk_one rfl rfl (Nat.le_of_ble_eq_true rfl)) rfl ?_
    refine AAny.keep [6, 7, 8, 103, 105, 107] (by decide) ?_
    exact s18 trivial
  clear s11
  have s34 : ∀ (_ : True), A 5 #[false, true, false, true, true, true, true, false, false, false] (fun fr m => K1 (fr.keep [6, 7]) m) [(6, .ptr ⟨b1, 0, none⟩), (7, .ptr ⟨b2, 0, none⟩), (8, .ptr ⟨b6, 0, none⟩), (102, .ptr ⟨b6, 0, none⟩), (105, .map b4), (107, .map b5)] (AMem.wth m [(b6, .cells [.map b3, .map b4, .map b5]), (b5, nmO), (b4, vmO ([] : List ((List UInt8) × Val))), (b3, vmO en), (b2, .cells [.nilmap, .nilmap, .nilmap]), (b1, .cells [.nilmap, .nilmap, .nilmap])]) := by
   intro _
   subst hA
   refine AAny.step [] [0, 2] (by decide +kernel) (by simp) (by decide) ⟨?_, ?_, trivial⟩
   ·
    show aopsR _ _ _ [_] _ _ _
    refine ar_loadp rfl (v := .agg [.map b3, .map b4, .map b5]) rfl (wth_get 0 hNb6 rfl) rfl (apartOk_agg rfl rfl (Nat.le_of_ble_eq_true rfl)) rfl ?_
    refine AAny.keep [6, 7, 101, 102, 105, 107] (by decide) ?_
    exact s14 trivial
   ·
    show aopsR _ _ _ [_] _ _ _
    refine ar_loadp rfl (v := .map b3) rfl (wth_get 0 hNb6 rfl) rfl (apartOk_one rfl rfl (Nat.le_of_ble_eq_true rfl)) rfl ?_
    refine AAny.keep [6, 7, 8, 103, 105, 107] (by decide) ?_
    exact s18 trivial
  clear s14 s18
  have s35 : ∀ (_ : True), A 6 #[true, true, true, true, false, false, false, false, false, false] (fun fr m => K1 (fr.keep [6, 7]) m) [(6, .ptr ⟨b1, 0, none⟩), (7, .ptr ⟨b2, 0, none⟩), (8, .ptr ⟨b6, 0, none⟩), (101, .agg [.map b3, .map b4, .map b5]), (103, .map b3), (104, .ptr ⟨b6, 1, none⟩)] (AMem.wth m [(b6, .cells [.map b3, .map b4, .map b5]), (b5, nmO), (b4, vmO ([] : List ((List UInt8) × Val))), (b3, vmO en), (b2, .cells [.nilmap, .nilmap, .nilmap]), (b1, .cells [.nilmap, .nilmap, .nilmap])]) := by
   intro _
   subst hA
   refine AAny.step [] [4, 5, 8] (by decide +kernel) (by simp) (by decide) ⟨?_, ?_, ?_, trivial⟩
   ·
    show aopsR _ _ _ [_] _ _ _
    refine ar_loadp rfl (v := .map b4) rfl (wth_get 0 hNb6 rfl) rfl (apartOk_one rfl rfl (Nat.le_of_ble_eq_true rfl)) rfl ?_
    refine AAny.keep [6, 7, 8, 101, 103, 105] (by decide) ?_
    exact s19 trivial
   ·
    show aopsR _ _ _ [_] _ _ _
    refine ⟨⟨rfl, by decide⟩, ?_⟩
    refine AAny.keep [6, 7, 101, 103, 104, 106] (by decide) ?_
    exact s20 trivial
   ·
    show aopsR _ _ _ [_] _ _ _
    refine ar_storep rfl 5 (v := .agg [.map b3, .map b4, .map b5]) (l' := [.map b3, .map b4, .map b5]) rfl rfl hNb6 rfl rfl rfl rfl rfl (Nat.le_of_ble_eq_true rfl) rfl ?_
    refine AAny.keep [6, 7, 8, 103, 104] (by decide) ?_
    exact s21 trivial
  have s36 : ∀ (_ : True), A 6 #[true, true, true, false, false, true, false, false, false, false] (fun fr m => K1 (fr.keep [6, 7]) m) [(6, .ptr ⟨b1, 0, none⟩), (7, .ptr ⟨b2, 0, none⟩), (8, .ptr ⟨b6, 0, none⟩), (101, .agg [.map b3, .map b4, .map b5]), (103, .map b3), (106, .ptr ⟨b6, 2, none⟩)] (AMem.wth m [(b6, .cells [.map b3, .map b4, .map b5]), (b5, nmO), (b4, vmO ([] : List ((List UInt8) × Val))), (b3, vmO en), (b2, .cells [.nilmap, .nilmap, .nilmap]), (b1, .cells [.nilmap, .nilmap, .nilmap])]) := by
   intro _
   subst hA
   refine AAny.step [] [3, 6, 8] (by decide +kernel) (by simp) (by decide) ⟨?_, ?_, ?_, trivial⟩
   ·
    show aopsR _ _ _ [_] _ _ _
    refine ⟨⟨rfl, by decide⟩, ?_⟩
    refine AAny.keep [6, 7, 101, 103, 104, 106] (by decide) ?_
    exact s20 trivial
   ·
    show aopsR _ _ _ [_] _ _ _
    refine ar_loadp rfl (v := .map b5) rfl (wth_get 0 hNb6 rfl) rfl (apartOk_one rfl rfl (Nat.le_of_ble_eq_true rfl)) rfl ?_
    refine AAny.keep [6, 7, 8, 101, 103, 107] (by decide) ?_
    exact s22 trivial
   ·
    show aopsR _ _ _ [_] _ _ _
    refine ar_storep rfl 5 (v := .agg [.map b3, .map b4, .map b5]) (l' := [.map b3, .map b4, .map b5]) rfl rfl hNb6 rfl rfl rfl rfl rfl (Nat.le_of_ble_eq_true rfl) rfl ?_
    refine AAny.keep [6, 7, 8, 103, 106] (by decide) ?_
    exact s23 trivial
  have s37 : ∀ (_ : True), A 6 #[true, true, true, false, false, false, false, false, true, false] (fun fr m => K1 (fr.keep [6, 7]) m) [(6, .ptr ⟨b1, 0, none⟩), (7, .ptr ⟨b2, 0, none⟩), (8, .ptr ⟨b6, 0, none⟩), (103, .map b3)] (AMem.wth m [(b6, .cells [.map b3, .map b4, .map b5]), (b5, nmO), (b4, vmO ([] : List ((List UInt8) × Val))), (b3, vmO en), (b2, .cells [.nilmap, .nilmap, .nilmap]), (b1, .cells [.map b3, .map b4, .map b5])]) := by
   intro _
   subst hA
   refine AAny.step [] [3, 5] (by decide +kernel) (by simp) (by decide) ⟨?_, ?_, trivial⟩
   ·
    show aopsR _ _ _ [_] _ _ _
    refine ⟨⟨rfl, by decide⟩, ?_⟩
    refine AAny.keep [6, 7, 8, 103, 104] (by decide) ?_
    exact s21 trivial
   ·
    show aopsR _ _ _ [_] _ _ _
    refine ⟨⟨rfl, by decide⟩, ?_⟩
    refine AAny.keep [6, 7, 8, 103, 106] (by decide) ?_
    exact s23 trivial
  have s38 : ∀ (_ : True), A 6 #[true, true, false, true, true, false, false, false, false, false] (fun fr m => K1 (fr.keep [6, 7]) m) [(6, .ptr ⟨b1, 0, none⟩), (7, .ptr ⟨b2, 0, none⟩), (8, .ptr ⟨b6, 0, none⟩), (101, .agg [.map b3, .map b4, .map b5]), (102, .ptr ⟨b6, 0, none⟩), (105, .map b4)] (AMem.wth m [(b6, .cells [.map b3, .map b4, .map b5]), (b5, nmO), (b4, vmO ([] : List ((List UInt8) × Val))), (b3, vmO en), (b2, .cells [.nilmap, .nilmap, .nilmap]), (b1, .cells [.nilmap, .nilmap, .nilmap])]) := by
   intro _
   subst hA
   refine AAny.step [] [2, 5, 8] (by decide +kernel) (by simp) (by decide) ⟨?_, ?_, ?_, trivial⟩
   ·
    show aopsR _ _ _ [_] _ _ _
    refine ar_loadp rfl (v := .map b3) rfl (wth_get 0 hNb6 rfl) rfl (apartOk_one rfl rfl (Nat.le_of_ble_eq_true rfl)) rfl ?_
    refine AAny.keep [6, 7, 8, 101, 103, 105] (by decide) ?_
    exact s19 trivial
   ·
    show aopsR _ _ _ [_] _ _ _
    refine ⟨⟨rfl, by decide⟩, ?_⟩
    refine AAny.keep [6, 7, 101, 102, 105, 106] (by decide) ?_
    exact s24 trivial
   ·
    show aopsR _ _ _ [_] _ _ _
    refine ar_storep rfl 5 (v := .agg [.map b3, .map b4, .map b5]) (l' := [.map b3, .map b4, .map b5]) rfl rfl hNb6 rfl rfl rfl rfl rfl (Nat.le_of_ble_eq_true rfl) rfl ?_
    refine AAny.keep [6, 7, 8, 102, 105] (by decide) ?_
    exact s25 trivial
  have s39 : ∀ (_ : True), A 6 #[true, true, false, true, false, true, false, false, false, false] (fun fr m => K1 (fr.keep [6, 7]) m) [(6, .ptr ⟨b1, 0, none⟩), (7, .ptr ⟨b2, 0, none⟩), (101, .agg [.map b3, .map b4, .map b5]), (102, .ptr ⟨b6, 0, none⟩), (104, .ptr ⟨b6, 1, none⟩), (106, .ptr ⟨b6, 2, none⟩)] (AMem.wth m [(b6, .cells [.map b3, .map b4, .map b5]), (b5, nmO), (b4, vmO ([] : List ((List UInt8) × Val))), (b3, vmO en), (b2, .cells [.nilmap, .nilmap, .nilmap]), (b1, .cells [.nilmap, .nilmap, .nilmap])]) := by
   intro _
   subst hA
   refine AAny.step [] [2, 4, 6, 8] (by decide +kernel) (by simp) (by decide) ⟨?_, ?_, ?_, ?_, trivial⟩
   ·
    show aopsR _ _ _ [_] _ _ _
    refine ar_loadp rfl (v := .map b3) rfl (wth_get 0 hNb6 rfl) rfl (apartOk_one rfl rfl (Nat.le_of_ble_eq_true rfl)) rfl ?_
    refine AAny.keep [6, 7, 101, 103, 104, 106] (by decide) ?_
    exact s20 trivial
   ·
    show aopsR _ _ _ [_] _ _ _
    refine ar_loadp rfl (v := .map b4) rfl (wth_get 0 hNb6 rfl) rfl (apartOk_one rfl rfl (Nat.le_of_ble_eq_true rfl)) rfl ?_
    refine AAny.keep [6, 7, 101, 102, 105, 106] (by decide) ?_
    exact s24 trivial
   ·
    show aopsR _ _ _ [_] _ _ _
    refine ar_loadp rfl (v := .map b5) rfl (wth_get 0 hNb6 rfl) rfl (apartOk_one rfl rfl (Nat.le_of_ble_eq_true rfl)) rfl ?_
    refine AAny.keep [6, 7, 101, 102, 104, 107] (by decide) ?_
    exact s26 trivial
   ·
    show aopsR _ _ _ [_] _ _ _
    refine ar_storep rfl 5 (v := .agg [.map b3, .map b4, .map b5]) (l' := [.map b3, .map b4, .map b5]) rfl rfl hNb6 rfl rfl rfl rfl rfl (Nat.le_of_ble_eq_true rfl) rfl ?_
    refine AAny.keep [6, 7, 102, 104, 106] (by decide) ?_
    exact s27 trivial
  have s40 : ∀ (_ : True), A 6 #[true, true, false, true, false, false, false, false, true, false] (fun fr m => K1 (fr.keep [6, 7]) m) [(6, .ptr ⟨b1, 0, none⟩), (7, .ptr ⟨b2, 0, none⟩), (8, .ptr ⟨b6, 0, none⟩), (102, .ptr ⟨b6, 0, none⟩), (104, .ptr ⟨b6, 1, none⟩)] (AMem.wth m [(b6, .cells [.map b3, .map b4, .map b5]), (b5, nmO), (b4, vmO ([] : List ((List UInt8) × Val))), (b3, vmO en), (b2, .cells [.nilmap, .nilmap, .nilmap]), (b1, .cells [.map b3, .map b4, .map b5])]) := by
   intro _
   subst hA
   refine AAny.step [] [2, 4, 5] (by decide +kernel) (by simp) (by decide) ⟨?_, ?_, ?_, trivial⟩
   ·
    show aopsR _ _ _ [_] _ _ _
    refine ar_loadp rfl (v := .map b3) rfl (wth_get 0 hNb6 rfl) rfl (apartOk_one rfl rfl (Nat.le_of_ble_eq_true rfl)) rfl ?_
    refine AAny.keep [6, 7, 8, 103, 104] (by decide) ?_
    exact s21 trivial
   ·
    show aopsR _ _ _ [_] _ _ _
    refine ar_loadp rfl (v := .map b4) rfl (wth_get 0 hNb6 rfl) rfl (apartOk_one rfl rfl (Nat.le_of_ble_eq_true rfl)) rfl ?_
    refine AAny.keep [6, 7, 8, 102, 105] (by decide) ?_
    exact s25 trivial
   ·
    show aopsR _ _ _ [_] _ _ _
    refine ⟨⟨rfl, by decide⟩, ?_⟩
    refine AAny.keep [6, 7, 102, 104, 106] (by decide) ?_
    exact s27 trivial
  clear s21
  have s41 : ∀ (_ : True), A 6 #[true, true, false, false, false, true, true, false, false, false] (fun fr m => K1 (fr.keep [6, 7]) m) [(6, .ptr ⟨b1, 0, none⟩), (7, .ptr ⟨b2, 0, none⟩), (8, .ptr ⟨b6, 0, none⟩), (101, .agg [.map b3, .map b4, .map b5]), (102, .ptr ⟨b6, 0, none⟩), (107, .map b5)] (AMem.wth m [(b6, .cells [.map b3, .map b4, .map b5]), (b5, nmO), (b4, vmO ([] : List ((List UInt8) × Val))), (b3, vmO en), (b2, .cells [.nilmap, .nilmap, .nilmap]), (b1, .cells [.nilmap, .nilmap, .nilmap])]) := by
   intro _
   subst hA
   refine AAny.step [] [2, 3, 8] (by decide +kernel) (by simp) (by decide) ⟨?_, ?_, ?_, trivial⟩
   ·
    show aopsR _ _ _ [_] _ _ _
    refine ar_loadp rfl (v := .map b3) rfl (wth_get 0 hNb6 rfl) rfl (apartOk_one rfl rfl (Nat.le_of_ble_eq_true rfl)) rfl ?_
    refine AAny.keep [6, 7, 8, 101, 103, 107] (by decide) ?_
    exact s22 trivial
   ·
    show aopsR _ _ _ [_] _ _ _
    refine ⟨⟨rfl, by decide⟩, ?_⟩
    refine AAny.keep [6, 7, 101, 102, 104, 107] (by decide) ?_
    exact s26 trivial
   ·
    show aopsR _ _ _ [_] _ _ _
    refine ar_storep rfl 5 (v := .agg [.map b3, .map b4, .map b5]) (l' := [.map b3, .map b4, .map b5]) rfl rfl hNb6 rfl rfl rfl rfl rfl (Nat.le_of_ble_eq_true rfl) rfl ?_
    refine AAny.keep [6, 7, 8, 102, 107] (by decide) ?_
    exact s28 trivial
  have s42 : ∀ (_ : True), A 6 #[true, true, false, false, false, true, false, false, true, false] (fun fr m => K1 (fr.keep [6, 7]) m) [(6, .ptr ⟨b1, 0, none⟩), (7, .ptr ⟨b2, 0, none⟩), (8, .ptr ⟨b6, 0, none⟩), (102, .ptr ⟨b6, 0, none⟩), (106, .ptr ⟨b6, 2, none⟩)] (AMem.wth m [(b6, .cells [.map b3, .map b4, .map b5]), (b5, nmO), (b4, vmO ([] : List ((List UInt8) × Val))), (b3, vmO en), (b2, .cells [.nilmap, .nilmap, .nilmap]), (b1, .cells [.map b3, .map b4, .map b5])]) := by
   intro _
   subst hA
   refine AAny.step [] [2, 3, 6] (by decide +kernel) (by simp) (by decide) ⟨?_, ?_, ?_, trivial⟩
   ·
    show aopsR _ _ _ [_] _ _ _
    refine ar_loadp rfl (v := .map b3) rfl (wth_get 0 hNb6 rfl) rfl (apartOk_one rfl rfl (Nat.le_of_ble_eq_true rfl)) rfl ?_
    refine AAny.keep [6, 7, 8, 103, 106] (by decide) ?_
    exact s23 trivial
   ·
    show aopsR _ _ _ [_] _ _ _
    refine ⟨⟨rfl, by decide⟩, ?_⟩
    refine AAny.keep [6, 7, 102, 104, 106] (by decide) ?_
    exact s27 trivial
   ·
    show aopsR _ _ _ [_] _ _ _
    refine ar_loadp rfl (v := .map b5) rfl (wth_get 0 hNb6 rfl) rfl (apartOk_one rfl rfl (Nat.le_of_ble_eq_true rfl)) rfl ?_
    refine AAny.keep [6, 7, 8, 102, 107] (by decide) ?_
    exact s28 trivial
  clear s23
  have s43 : ∀ (_ : True), A 6 #[true, false, false, true, true, true, false, false, false, false] (fun fr m => K1 (fr.keep [6, 7]) m) [(6, .ptr ⟨b1, 0, none⟩), (7, .ptr ⟨b2, 0, none⟩), (8, .ptr ⟨b6, 0, none⟩), (101, .agg [.map b3, .map b4, .map b5]), (105, .map b4), (106, .ptr ⟨b6, 2, none⟩)] (AMem.wth m [(b6, .cells [.map b3, .map b4, .map b5]), (b5, nmO), (b4, vmO ([] : List ((List UInt8) × Val))), (b3, vmO en), (b2, .cells [.nilmap, .nilmap, .nilmap]), (b1, .cells [.nilmap, .nilmap, .nilmap])]) := by
   intro _
   subst hA
   refine AAny.step [] [1, 6, 8] (by decide +kernel) (by simp) (by decide) ⟨?_, ?_, ?_, trivial⟩
   ·
    show aopsR _ _ _ [_] _ _ _
    refine ⟨⟨rfl, by decide⟩, ?_⟩
    refine AAny.keep [6, 7, 101, 102, 105, 106] (by decide) ?_
    exact s24 trivial
   ·
    show aopsR _ _ _ [_] _ _ _
    refine ar_loadp rfl (v := .map b5) rfl (wth_get 0 hNb6 rfl) rfl (apartOk_one rfl rfl (Nat.le_of_ble_eq_true rfl)) rfl ?_
    refine AAny.keep [6, 7, 8, 101, 105, 107] (by decide) ?_
    exact s29 trivial
   ·
    show aopsR _ _ _ [_] _ _ _
    refine ar_storep rfl 5 (v := .agg [.map b3, .map b4, .map b5]) (l' := [.map b3, .map b4, .map b5]) rfl rfl hNb6 rfl rfl rfl rfl rfl (Nat.le_of_ble_eq_true rfl) rfl ?_
    refine AAny.keep [6, 7, 8, 105, 106] (by decide) ?_
    exact s30 trivial
  have s44 : ∀ (_ : True), A 6 #[true, false, false, true, true, false, false, false, true, false] (fun fr m => K1 (fr.keep [6, 7]) m) [(6, .ptr ⟨b1, 0, none⟩), (7, .ptr ⟨b2, 0, none⟩), (8, .ptr ⟨b6, 0, none⟩), (105, .map b4)] (AMem.wth m [(b6, .cells [.map b3, .map b4, .map b5]), (b5, nmO), (b4, vmO ([] : List ((List UInt8) × Val))), (b3, vmO en), (b2, .cells [.nilmap, .nilmap, .nilmap]), (b1, .cells [.map b3, .map b4, .map b5])]) := by
   intro _
   subst hA
   refine AAny.step [] [1, 5] (by decide +kernel) (by simp) (by decide) ⟨?_, ?_, trivial⟩
   ·
    show aopsR _ _ _ [_] _ _ _
    refine ⟨⟨rfl, by decide⟩, ?_⟩
    refine AAny.keep [6, 7, 8, 102, 105] (by decide) ?_
    exact s25 trivial
   ·
    show aopsR _ _ _ [_] _ _ _
    refine ⟨⟨rfl, by decide⟩, ?_⟩
    refine AAny.keep [6, 7, 8, 105, 106] (by decide) ?_
    exact s30 trivial
  clear s25
  have s45 : ∀ (_ : True), A 6 #[true, false, false, true, false, true, true, false, false, false] (fun fr m => K1 (fr.keep [6, 7]) m) [(6, .ptr ⟨b1, 0, none⟩), (7, .ptr ⟨b2, 0, none⟩), (8, .ptr ⟨b6, 0, none⟩), (101, .agg [.map b3, .map b4, .map b5]), (104, .ptr ⟨b6, 1, none⟩), (107, .map b5)] (AMem.wth m [(b6, .cells [.map b3, .map b4, .map b5]), (b5, nmO), (b4, vmO ([] : List ((List UInt8) × Val))), (b3, vmO en), (b2, .cells [.nilmap, .nilmap, .nilmap]), (b1, .cells [.nilmap, .nilmap, .nilmap])]) := by
   intro _
   subst hA
   refine AAny.step [] [1, 4, 8] (by decide +kernel) (by simp) (by decide) ⟨?_, ?_, ?_, trivial⟩
   ·
    show aopsR _ _ _ [_] _ _ _
    refine ⟨⟨rfl, by decide⟩, ?_⟩
    refine AAny.keep [6, 7, 101, 102, 104, 107] (by decide) ?_
    exact s26 trivial
   ·
    show aopsR _ _ _ [_] _ _ _
    refine ar_loadp rfl (v := .map b4) rfl (wth_get 0 hNb6 rfl) rfl (apartOk_one rfl rfl (Nat.le_of_ble_eq_true rfl)) rfl ?_
    refine AAny.keep [6, 7, 8, 101, 105, 107] (by decide) ?_
    exact s29 trivial
   ·
    show aopsR _ _ _ [_] _ _ _
    refine ar_storep rfl 5 (v := .agg [.map b3, .map b4, .map b5]) (l' := [.map b3, .map b4, .map b5]) rfl rfl hNb6 rfl rfl rfl rfl rfl (Nat.le_of_ble_eq_true rfl) rfl ?_
    refine AAny.keep [6, 7, 8, 104, 107] (by decide) ?_
    exact s31 trivial
  have s46 : ∀ (_ : True), A 6 #[true, false, false, true, false, true, false, false, true, false] (fun fr m => K1 (fr.keep [6, 7]) m) [(6, .ptr ⟨b1, 0, none⟩), (7, .ptr ⟨b2, 0, none⟩), (8, .ptr ⟨b6, 0, none⟩), (104, .ptr ⟨b6, 1, none⟩), (106, .ptr ⟨b6, 2, none⟩)] (AMem.wth m [(b6, .cells [.map b3, .map b4, .map b5]), (b5, nmO), (b4, vmO ([] : List ((List UInt8) × Val))), (b3, vmO en), (b2, .cells [.nilmap, .nilmap, .nilmap]), (b1, .cells [.map b3, .map b4, .map b5])]) := by
   intro _
   subst hA
   refine AAny.step [] [1, 4, 6] (by decide +kernel) (by simp) (by decide) ⟨?_, ?_, ?_, trivial⟩
   ·
    show aopsR _ _ _ [_] _ _ _
    refine ⟨⟨rfl, by decide⟩, ?_⟩
    refine AAny.keep [6, 7, 102, 104, 106] (by decide) ?_
    exact s27 trivial
   ·
    show aopsR _ _ _ [_] _ _ _
    refine ar_loadp rfl (v := .map b4) rfl (wth_get 0 hNb6 rfl) rfl (apartOk_one rfl rfl (Nat.le_of_ble_eq_true rfl)) rfl ?_
    refine AAny.keep [6, 7, 8, 105, 106] (by decide) ?_
    exact s30 trivial
   ·
    show aopsR _ _ _ [_] _ _ _
    refine ar_loadp rfl (v := .map b5) rfl (wth_get 0 hNb6 rfl) rfl (apartOk_one rfl rfl (Nat.le_of_ble_eq_true rfl)) rfl ?_
    refine AAny.keep [6, 7, 8, 104, 107] (by decide) ?_
    exact s31 trivial
  clear s27 s30
  have s47 : ∀ (_ : True), A 6 #[true, false, false, false, false, true, true, false, true, false] (fun fr m => K1 (fr.keep [6, 7]) m) [(6, .ptr ⟨b1, 0, none⟩), (7, .ptr ⟨b2, 0, none⟩), (8, .ptr ⟨b6, 0, none⟩), (107, .map b5)] (AMem.wth m [(b6, .cells [.map b3, .map b4, .map b5]), (b5, nmO), (b4, vmO ([] : List ((List UInt8) × Val))), (b3, vmO en), (b2, .cells [.nilmap, .nilmap, .nilmap]), (b1, .cells [.map b3, .map b4, .map b5])]) := by
   intro _
   subst hA
   refine AAny.step [] [1, 3] (by decide +kernel) (by simp) (by decide) ⟨?_, ?_, trivial⟩
   ·
    show aopsR _ _ _ [_] _ _ _
    refine ⟨⟨rfl, by decide⟩, ?_⟩
    refine AAny.keep [6, 7, 8, 102, 107] (by decide) ?_
    exact s28 trivial
   ·
    show aopsR _ _ _ [_] _ _ _
    refine ⟨⟨rfl, by decide⟩, ?_⟩
    refine AAny.keep [6, 7, 8, 104, 107] (by decide) ?_
    exact s31 trivial
  clear s28 s31
  have s48 : ∀ (_ : True), A 6 #[false, true, true, true, true, false, false, false, false, false] (fun fr m => K1 (fr.keep [6, 7]) m) [(6, .ptr ⟨b1, 0, none⟩), (7, .ptr ⟨b2, 0, none⟩), (8, .ptr ⟨b6, 0, none⟩), (103, .map b3), (105, .map b4)] (AMem.wth m [(b6, .cells [.map b3, .map b4, .map b5]), (b5, nmO), (b4, vmO ([] : List ((List UInt8) × Val))), (b3, vmO en), (b2, .cells [.nilmap, .nilmap, .nilmap]), (b1, .cells [.nilmap, .nilmap, .nilmap])]) := by
   intro _
   subst hA
   refine AAny.step [] [0, 5] (by decide +kernel) (by simp) (by decide) ⟨?_, ?_, trivial⟩
   ·
    show aopsR _ _ _ [_] _ _ _
    refine ar_loadp rfl (v := .agg [.map b3, .map b4, .map b5]) rfl (wth_get 0 hNb6 rfl) rfl (apartOk_agg rfl rfl (Nat.le_of_ble_eq_true rfl)) rfl ?_
    refine AAny.keep [6, 7, 8, 101, 103, 105] (by decide) ?_
    exact s19 trivial
   ·
    show aopsR _ _ _ [_] _ _ _
    refine ⟨⟨rfl, by decide⟩, ?_⟩
    refine AAny.keep [6, 7, 8, 103, 105, 106] (by decide) ?_
    exact s32 trivial
  clear s19
  have s49 : ∀ (_ : True), A 6 #[false, true, true, true, false, true, false, false, false, false] (fun fr m => K1 (fr.keep [6, 7]) m) [(6, .ptr ⟨b1, 0, none⟩), (7, .ptr ⟨b2, 0, none⟩), (8, .ptr ⟨b6, 0, none⟩), (103, .map b3), (104, .ptr ⟨b6, 1, none⟩), (106, .ptr ⟨b6, 2, none⟩)] (AMem.wth m [(b6, .cells [.map b3, .map b4, .map b5]), (b5, nmO), (b4, vmO ([] : List ((List UInt8) × Val))), (b3, vmO en), (b2, .cells [.nilmap, .nilmap, .nilmap]), (b1, .cells [.nilmap, .nilmap, .nilmap])]) := by
   intro _
   subst hA
   refine AAny.step [] [0, 4, 6] (by decide +kernel) (by simp) (by decide) ⟨?_, ?_, ?_, trivial⟩
   ·
    show aopsR _ _ _ [_] _ _ _
    refine ar_loadp rfl (v := .agg [.map b3, .map b4, .map b5]) rfl (wth_get 0 hNb6 rfl) rfl (apartOk_agg rfl rfl (Nat.le_of_ble_eq_true rfl)) rfl ?_
    refine AAny.keep [6, 7, 101, 103, 104, 106] (by decide) ?_
    exact s20 trivial
   ·
    show aopsR _ _ _ [_] _ _ _
    refine ar_loadp rfl (v := .map b4) rfl (wth_get 0 hNb6 rfl) rfl (apartOk_one rfl rfl (Nat.le_of_ble_eq_true rfl)) rfl ?_
    refine AAny.keep [6, 7, 8, 103, 105, 106] (by decide) ?_
    exact s32 trivial
   ·
    show aopsR _ _ _ [_] _ _ _
    refine ar_loadp rfl (v := .map b5) rfl (wth_get 0 hNb6 rfl) rfl (apartOk_one rfl rfl (Nat.le_of_ble_eq_true rfl)) rfl ?_
    refine AAny.keep [6, 7, 8, 103, 104, 107] (by decide) ?_
    exact s33 trivial
  clear s20
  have s50 : ∀ (_ : True), A 6 #[false, true, true, false, false, true, true, false, false, false] (fun fr m => K1 (fr.keep [6, 7]) m) [(6, .ptr ⟨b1, 0, none⟩), (7, .ptr ⟨b2, 0, none⟩), (8, .ptr ⟨b6, 0, none⟩), (103, .map b3), (107, .map b5)] (AMem.wth m [(b6, .cells [.map b3, .map b4, .map b5]), (b5, nmO), (b4, vmO ([] : List ((List UInt8) × Val))), (b3, vmO en), (b2, .cells [.nilmap, .nilmap, .nilmap]), (b1, .cells [.nilmap, .nilmap, .nilmap])]) := by
   intro _
   subst hA
   refine AAny.step [] [0, 3] (by decide +kernel) (by simp) (by decide) ⟨?_, ?_, trivial⟩
   ·
    show aopsR _ _ _ [_] _ _ _
    refine ar_loadp rfl (v := .agg [.map b3, .map b4, .map b5]) rfl (wth_get 0 hNb6 rfl) rfl (apartOk_agg rfl rfl (Nat.le_of_ble_eq_true rfl)) rfl ?_
    refine AAny.keep [6, 7, 8, 101, 103, 107] (by decide) ?_
    exact s22 trivial
   ·
    show aopsR _ _ _ [_] _ _ _
    refine ⟨⟨rfl, by decide⟩, ?_⟩
    refine AAny.keep [6, 7, 8, 103, 104, 107] (by decide) ?_
    exact s33 trivial
  clear s22
  have s51 : ∀ (_ : True), A 6 #[false, true, false, true, true, true, false, false, false, false] (fun fr m => K1 (fr.keep [6, 7]) m) [(6, .ptr ⟨b1, 0, none⟩), (7, .ptr ⟨b2, 0, none⟩), (8, .ptr ⟨b6, 0, none⟩), (102, .ptr ⟨b6, 0, none⟩), (105, .map b4), (106, .ptr ⟨b6, 2, none⟩)] (AMem.wth m [(b6, .cells [.map b3, .map b4, .map b5]), (b5, nmO), (b4, vmO ([] : List ((List UInt8) × Val))), (b3, vmO en), (b2, .cells [.nilmap, .nilmap, .nilmap]), (b1, .cells [.nilmap, .nilmap, .nilmap])]) := by
   intro _
   subst hA
   refine AAny.step [] [0, 2, 6] (by decide +kernel) (by simp) (by decide) ⟨?_, ?_, ?_, trivial⟩
   ·
    show aopsR _ _ _ [_] _ _ _
    refine ar_loadp rfl (v := .agg [.map b3, .map b4, .map b5]) rfl (wth_get 0 hNb6 rfl) rfl (apartOk_agg rfl rfl (Nat.le_of_ble_eq_true rfl)) rfl ?_
    refine AAny.keep [6, 7, 101, 102, 105, 106] (by decide) ?_
    exact s24 trivial
   ·
    show aopsR _ _ _ [_] _ _ _
    refine ar_loadp rfl (v := .map b3) rfl (wth_get 0 hNb6 rfl) rfl (apartOk_one rfl rfl (Nat.le_of_ble_eq_true rfl)) rfl ?_
    refine AAny.keep [6, 7, 8, 103, 105, 106] (by decide) ?_
    exact s32 trivial
   ·
    show aopsR _ _ _ [_] _ _ _
    refine ar_loadp rfl (v := .map b5) rfl (wth_get 0 hNb6 rfl) rfl (apartOk_one rfl rfl (Nat.le_of_ble_eq_true rfl)) rfl ?_
    refine AAny.keep [6, 7, 8, 102, 105, 107] (by decide) ?_
    exact s34 trivial
  clear s24 s32
  have s52 : ∀ (_ : True), A 6 #[false, true, false, true, false, true, true, false, false, false] (fun fr m => K1 (fr.keep [6, 7]) m) [(6, .ptr ⟨b1, 0, none⟩), (7, .ptr ⟨b2, 0, none⟩), (8, .ptr ⟨b6, 0, none⟩), (102, .ptr ⟨b6, 0, none⟩), (104, .ptr ⟨b6, 1, none⟩), (107, .map b5)] (AMem.wth m [(b6, .cells [.map b3, .map b4, .map b5]), (b5, nmO), (b4, vmO ([] : List ((List UInt8) × Val))), (b3, vmO en), (b2, .cells [.nilmap, .nilmap, .nilmap]), (b1, .cells [.nilmap, .nilmap, .nilmap])]) := by
   intro _
   subst hA
   refine AAny.step [] [0, 2, 4] (by decide +kernel) (by simp) (by decide) ⟨?_, ?_, ?_, trivial⟩
   ·
    show aopsR _ _ _ [_] _ _ _
    refine ar_loadp rfl (v := .agg [.map b3, .map b4, .map b5]) rfl (wth_get 0 hNb6 rfl) rfl (apartOk_agg rfl rfl (Nat.le_of_ble_eq_true rfl)) rfl ?_
    refine AAny.keep [6, 7, 101, 102, 104, 107] (by decide) ?_
    exact s26 trivial
   ·
    show aopsR _ _ _ [_] _ _ _
    refine ar_loadp rfl (v := .map b3) rfl (wth_get 0 hNb6 rfl) rfl (apartOk_one rfl rfl (Nat.le_of_ble_eq_true rfl)) rfl ?_
    refine AAny.keep [6, 7, 8, 103, 104, 107] (by decide) ?_
    exact s33 trivial
   ·
    show aopsR _ _ _ [_] _ _ _
    refine ar_loadp rfl (v := .map b4) rfl (wth_get 0 hNb6 rfl) rfl (apartOk_one rfl rfl (Nat.le_of_ble_eq_true rfl)) rfl ?_
    refine AAny.keep [6, 7, 8, 102, 105, 107] (by decide) ?_
    exact s34 trivial
  clear s26 s33
  have s53 : ∀ (_ : True), A 6 #[false, false, false, true, true, true, true, false, false, false] (fun fr m => K1 (fr.keep [6, 7]) m) [(6, .ptr ⟨b1, 0, none⟩), (7, .ptr ⟨b2, 0, none⟩), (8, .ptr ⟨b6, 0, none⟩), (105, .map b4), (107, .map b5)] (AMem.wth m [(b6, .cells [.map b3, .map b4, .map b5]), (b5, nmO), (b4, vmO ([] : List ((List UInt8) × Val))), (b3, vmO en), (b2, .cells [.nilmap, .nilmap, .nilmap]), (b1, .cells [.nilmap, .nilmap, .nilmap])]) := by
   intro _
   subst hA
   refine AAny.step [] [0, 1] (by decide +kernel) (by simp) (by decide) ⟨?_, ?_, trivial⟩
   ·
    show aopsR _ _ _ [_] _ _ _
    refine ar_loadp rfl (v := .agg [.map b3, .map b4, .map b5]) rfl (wth_get 0 hNb6 rfl) rfl (apartOk_agg rfl rfl (Nat.le_of_ble_eq_true rfl)) rfl ?_
    refine AAny.keep [6, 7, 8, 101, 105, 107] (by decide) ?_
    exact s29 trivial
   ·
    show aopsR _ _ _ [_] _ _ _
    refine ⟨⟨rfl, by decide⟩, ?_⟩
    refine AAny.keep [6, 7, 8, 102, 105, 107] (by decide) ?_
    exact s34 trivial
  clear s29 s34
  have s54 : ∀ (_ : True), A 7 #[true, true, true, false, false, false, false, false, false, false] (fun fr m => K1 (fr.keep [6, 7]) m) [(6, .ptr ⟨b1, 0, none⟩), (7, .ptr ⟨b2, 0, none⟩), (8, .ptr ⟨b6, 0, none⟩), (101, .agg [.map b3, .map b4, .map b5]), (103, .map b3)] (AMem.wth m [(b6, .cells [.map b3, .map b4, .map b5]), (b5, nmO), (b4, vmO ([] : List ((List UInt8) × Val))), (b3, vmO en), (b2, .cells [.nilmap, .nilmap, .nilmap]), (b1, .cells [.nilmap, .nilmap, .nilmap])]) := by
   intro _
   subst hA
   refine AAny.step [] [3, 5, 8] (by decide +kernel) (by simp) (by decide) ⟨?_, ?_, ?_, trivial⟩
   ·
    show aopsR _ _ _ [_] _ _ _
    refine ⟨⟨rfl, by decide⟩, ?_⟩
    refine AAny.keep [6, 7, 8, 101, 103, 104] (by decide) ?_
    exact s35 trivial
   ·
    show aopsR _ _ _ [_] _ _ _
    refine ⟨⟨rfl, by decide⟩, ?_⟩
    refine AAny.keep [6, 7, 8, 101, 103, 106] (by decide) ?_
    exact s36 trivial
   ·
    show aopsR _ _ _ [_] _ _ _
    refine ar_storep rfl 5 (v := .agg [.map b3, .map b4, .map b5]) (l' := [.map b3, .map b4, .map b5]) rfl rfl hNb6 rfl rfl rfl rfl rfl (Nat.le_of_ble_eq_true rfl) rfl ?_
    refine AAny.keep [6, 7, 8, 103] (by decide) ?_
    exact s37 trivial
  have s55 : ∀ (_ : True), A 7 #[true, true, false, true, false, false, false, false, false, false] (fun fr m => K1 (fr.keep [6, 7]) m) [(6, .ptr ⟨b1, 0, none⟩), (7, .ptr ⟨b2, 0, none⟩), (8, .ptr ⟨b6, 0, none⟩), (101, .agg [.map b3, .map b4, .map b5]), (102, .ptr ⟨b6, 0, none⟩), (104, .ptr ⟨b6, 1, none⟩)] (AMem.wth m [(b6, .cells [.map b3, .map b4, .map b5]), (b5, nmO), (b4, vmO ([] : List ((List UInt8) × Val))), (b3, vmO en), (b2, .cells [.nilmap, .nilmap, .nilmap]), (b1, .cells [.nilmap, .nilmap, .nilmap])]) := by
   intro _
   subst hA
   refine AAny.step [] [2, 4, 5, 8] (by decide +kernel) (by simp) (by decide) ⟨?_, ?_, ?_, ?_, trivial⟩
   ·
    show aopsR _ _ _ [_] _ _ _
    refine ar_loadp rfl (v := .map b3) rfl (wth_get 0 hNb6 rfl) rfl (apartOk_one rfl rfl (Nat.le_of_ble_eq_true rfl)) rfl ?_
    refine AAny.keep [6, 7, 8, 101, 103, 104] (by decide) ?_
    exact s35 trivial
   ·
    show aopsR _ _ _ [_] _ _ _
    refine ar_loadp rfl (v := .map b4) rfl (wth_get 0 hNb6 rfl) rfl (apartOk_one rfl rfl (Nat.le_of_ble_eq_true rfl)) rfl ?_
    refine AAny.keep [6, 7, 8, 101, 102, 105] (by decide) ?_
    exact s38 trivial
   ·
    show aopsR _ _ _ [_] _ _ _
    refine ⟨⟨rfl, by decide⟩, ?_⟩
    refine AAny.keep [6, 7, 101, 102, 104, 106] (by decide) ?_
    exact s39 trivial
   ·
    show aopsR _ _ _ [_] _ _ _
    refine ar_storep rfl 5 (v := .agg [.map b3, .map b4, .map b5]) (l' := [.map b3, .map b4, .map b5]) rfl rfl hNb6 rfl rfl rfl rfl rfl (Nat.le_of_ble_eq_true rfl) rfl ?_
    refine AAny.keep [6, 7, 8, 102, 104] (by decide) ?_
    exact s40 trivial
  have s56 : ∀ (_ : True), A 7 #[true, true, false, false, false, true, false, false, false, false] (fun fr m => K1 (fr.keep [6, 7]) m) [(6, .ptr ⟨b1, 0, none⟩), (7, .ptr ⟨b2, 0, none⟩), (8, .ptr ⟨b6, 0, none⟩), (101, .agg [.map b3, .map b4, .map b5]), (102, .ptr ⟨b6, 0, none⟩), (106, .ptr ⟨b6, 2, none⟩)] (AMem.wth m [(b6, .cells [.map b3, .map b4, .map b5]), (b5, nmO), (b4, vmO ([] : List ((List UInt8) × Val))), (b3, vmO en), (b2, .cells [.nilmap, .nilmap, .nilmap]), (b1, .cells [.nilmap, .nilmap, .nilmap])]) := by
   intro _
   subst hA
   refine AAny.step [] [2, 3, 6, 8] (by decide +kernel) (by simp) (by decide) ⟨?_, ?_, ?_, ?_, trivial⟩
   ·
    show aopsR _ _ _ [_] _ _ _
    refine ar_loadp rfl (v := .map b3) rfl (wth_get 0 hNb6 rfl) rfl (apartOk_one rfl rfl (Nat.le_of_ble_eq_true rfl)) rfl ?_
    refine AAny.keep [6, 7, 8, 101, 103, 106] (by decide) ?_
    exact s36 trivial
   ·
    show aopsR _ _ _ [_] _ _ _
    refine ⟨⟨rfl, by decide⟩, ?_⟩
    refine AAny.keep [6, 7, 101, 102, 104, 106] (by decide) ?_
    exact s39 trivial
   ·
    show aopsR _ _ _ [_] _ _ _
    refine ar_loadp rfl (v := .map b5) rfl (wth_get 0 hNb6 rfl) rfl (apartOk_one rfl rfl (Nat.le_of_ble_eq_true rfl)) rfl ?_
    refine AAny.keep [6, 7, 8, 101, 102, 107] (by decide) ?_
    exact s41 trivial
   ·
    show aopsR _ _ _ [_] _ _ _
    refine ar_storep rfl 5 (v := .agg [.map b3, .map b4, .map b5]) (l' := [.map b3, .map b4, .map b5]) rfl rfl hNb6 rfl rfl rfl rfl rfl (Nat.le_of_ble_eq_true rfl) rfl ?_
    refine AAny.keep [6, 7, 8, 102, 106] (by decide) ?_
    exact s42 trivial
  have s57 : ∀ (_ : True), A 7 #[true, true, false, false, false, false, false, false, true, false] (fun fr m => K1 (fr.keep [6, 7]) m) [(6, .ptr ⟨b1, 0, none⟩), (7, .ptr ⟨b2, 0, none⟩), (8, .ptr ⟨b6, 0, none⟩), (102, .ptr ⟨b6, 0, none⟩)] (AMem.wth m [(b6, .cells [.map b3, .map b4, .map b5]), (b5, nmO), (b4, vmO ([] : List ((List UInt8) × Val))), (b3, vmO en), (b2, .cells [.nilmap, .nilmap, .nilmap]), (b1, .cells [.map b3, .map b4, .map b5])]) := by
   intro _
   subst hA
   refine AAny.step [] [2, 3, 5] (by decide +kernel) (by simp) (by decide) ⟨?_, ?_, ?_, trivial⟩
   ·
    show aopsR _ _ _ [_] _ _ _
    refine ar_loadp rfl (v := .map b3) rfl (wth_get 0 hNb6 rfl) rfl (apartOk_one rfl rfl (Nat.le_of_ble_eq_true rfl)) rfl ?_
    refine AAny.keep [6, 7, 8, 103] (by decide) ?_
    exact s37 trivial
   ·
    show aopsR _ _ _ [_] _ _ _
    refine ⟨⟨rfl, by decide⟩, ?_⟩
    refine AAny.keep [6, 7, 8, 102, 104] (by decide) ?_
    exact s40 trivial
   ·
    show aopsR _ _ _ [_] _ _ _
    refine ⟨⟨rfl, by decide⟩, ?_⟩
    refine AAny.keep [6, 7, 8, 102, 106] (by decide) ?_
    exact s42 trivial
  clear s37
  have s58 : ∀ (_ : True), A 7 #[true, false, false, true, true, false, false, false, false, false] (fun fr m => K1 (fr.keep [6, 7]) m) [(6, .ptr ⟨b1, 0, none⟩), (7, .ptr ⟨b2, 0, none⟩), (8, .ptr ⟨b6, 0, none⟩), (101, .agg [.map b3, .map b4, .map b5]), (105, .map b4)] (AMem.wth m [(b6, .cells [.map b3, .map b4, .map b5]), (b5, nmO), (b4, vmO ([] : List ((List UInt8) × Val))), (b3, vmO en), (b2, .cells [.nilmap, .nilmap, .nilmap]), (b1, .cells [.nilmap, .nilmap, .nilmap])]) := by
   intro _
   subst hA
   refine AAny.step [] [1, 5, 8] (by decide +kernel) (by simp) (by decide) ⟨?_, ?_, ?_, trivial⟩
   ·
    show aopsR _ _ _ [_] _ _ _
    refine ⟨⟨rfl, by decide⟩, ?_⟩
    refine AAny.keep [6, 7, 8, 101, 102, 105] (by decide) ?_
    exact s38 trivial
   ·
    show aopsR _ _ _ [_] _ _ _
    refine ⟨⟨rfl, by decide⟩, ?_⟩
    refine AAny.keep [6, 7, 8, 101, 105, 106] (by decide) ?_
    exact s43 trivial
   ·
    show aopsR _ _ _ [_] _ _ _
    refine ar_storep rfl 5 (v := .agg [.map b3, .map b4, .map b5]) (l' := [.map b3, .map b4, .map b5]) rfl rfl hNb6 rfl rfl rfl rfl rfl (Nat.le_of_ble_eq_true rfl) rfl ?_
    refine AAny.keep [6, 7, 8, 105] (by decide) ?_
    exact s44 trivial
  have s59 : ∀ (_ : True), A 7 #[true, false, false, true, false, true, false, false, false, false] (fun fr m => K1 (fr.keep [6, 7]) m) [(6, .ptr ⟨b1, 0, none⟩), (7, .ptr ⟨b2, 0, none⟩), (8, .ptr ⟨b6, 0, none⟩), (101, .agg [.map b3, .map b4, .map b5]), (104, .ptr ⟨b6, 1, none⟩), (106, .ptr ⟨b6, 2, none⟩)] (AMem.wth m [(b6, .cells [.map b3, .map b4, .map b5]), (b5, nmO), (b4, vmO ([] : List ((List UInt8) × Val))), (b3, vmO en), (b2, .cells [.nilmap, .nilmap, .nilmap]), (b1, .cells [.nilmap, .nilmap, .nilmap])]) := by
   intro _
   subst hA
   refine AAny.step [] [1, 4, 6, 8] (by decide +kernel) (by simp) (by decide) ⟨?_, ?_, ?_, ?_, trivial⟩
   ·
    show aopsR _ _ _ [_] _ _ _
    refine ⟨⟨rfl, by decide⟩, ?_⟩
    refine AAny.keep [6, 7, 101, 102, 104, 106] (by decide) ?_
    exact s39 trivial
   ·
    show aopsR _ _ _ [_] _ _ _
    refine ar_loadp rfl (v := .map b4) rfl (wth_get 0 hNb6 rfl) rfl (apartOk_one rfl rfl (Nat.le_of_ble_eq_true rfl)) rfl ?_
    refine AAny.keep [6, 7, 8, 101, 105, 106] (by decide) ?_
    exact s43 trivial
   ·
    show aopsR _ _ _ [_] _ _ _
    refine ar_loadp rfl (v := .map b5) rfl (wth_get 0 hNb6 rfl) rfl (apartOk_one rfl rfl (Nat.le_of_ble_eq_true rfl)) rfl ?_
    refine AAny.keep [6, 7, 8, 101, 104, 107] (by decide) ?_
    exact s45 trivial
   ·
    show aopsR _ _ _ [_] _ _ _
    refine ar_storep rfl 5 (v := .agg [.map b3, .map b4, .map b5]) (l' := [.map b3, .map b4, .map b5]) rfl rfl hNb6 rfl rfl rfl rfl rfl (Nat.le_of_ble_eq_true rfl) rfl ?_
    refine AAny.keep [6, 7, 8, 104, 106] (by decide) ?_
    exact s46 trivial
  have s60 : ∀ (_ : True), A 7 #[true, false, false, true, false, false, false, false, true, false] (fun fr m => K1 (fr.keep [6, 7]) m) [(6, .ptr ⟨b1, 0, none⟩), (7, .ptr ⟨b2, 0, none⟩), (8, .ptr ⟨b6, 0, none⟩), (104, .ptr ⟨b6, 1, none⟩)] (AMem.wth m [(b6, .cells [.map b3, .map b4, .map b5]), (b5, nmO), (b4, vmO ([] : List ((List UInt8) × Val))), (b3, vmO en), (b2, .cells [.nilmap, .nilmap, .nilmap]), (b1, .cells [.map b3, .map b4, .map b5])]) := by
   intro _
   subst hA
   refine AAny.step [] [1, 4, 5] (by decide +kernel) (by simp) (by decide) ⟨?_, ?_, ?_, trivial⟩
   ·
    show aopsR _ _ _ [_] _ _ _
    refine ⟨⟨rfl, by decide⟩, ?_⟩
    refine AAny.keep [6, 7, 8, 102, 104] (by decide) ?_
    exact s40 trivial
   ·
    show aopsR _ _ _ [_] _ _ _
    refine ar_loadp rfl (v := .map b4) rfl (wth_get 0 hNb6 rfl) rfl (apartOk_one rfl rfl (Nat.le_of_ble_eq_true rfl)) rfl ?_
    refine AAny.keep [6, 7, 8, 105] (by decide) ?_
    exact s44 trivial
   ·
    show aopsR _ _ _ [_] _ _ _
    refine ⟨⟨rfl, by decide⟩, ?_⟩
    refine AAny.keep [6, 7, 8, 104, 106] (by decide) ?_
    exact s46 trivial
  clear s40 s44
  have s61 : ∀ (_ : True), A 7 #[true, false, false, false, false, true, true, false, false, false] (fun fr m => K1 (fr.keep [6, 7]) m) [(6, .ptr ⟨b1, 0, none⟩), (7, .ptr ⟨b2, 0, none⟩), (8, .ptr ⟨b6, 0, none⟩), (101, .agg [.map b3, .map b4, .map b5]), (107, .map b5)] (AMem.wth m [(b6, .cells [.map b3, .map b4, .map b5]), (b5, nmO), (b4, vmO ([] : List ((List UInt8) × Val))), (b3, vmO en), (b2, .cells [.nilmap, .nilmap, .nilmap]), (b1, .cells [.nilmap, .nilmap, .nilmap])]) := by
   intro _
   subst hA
   refine AAny.step [] [1, 3, 8] (by decide +kernel) (by simp) (by decide) ⟨?_, ?_, ?_, trivial⟩
   ·
    show aopsR _ _ _ [_] _ _ _
    refine ⟨⟨rfl, by decide⟩, ?_⟩
    refine AAny.keep [6, 7, 8, 101, 102, 107] (by decide) ?_
    exact s41 trivial
   ·
    show aopsR _ _ _ [_] _ _ _
    refine ⟨⟨rfl, by decide⟩, ?_⟩
    refine AAny.keep [6, 7, 8, 101, 104, 107] (by decide) ?_
    exact s45 trivial
   ·
    show aopsR _ _ _ [_] _ _ _
    refine ar_storep rfl 5 (v := .agg [.map b3, .map b4, .map b5]) (l' := [.map b3, .map b4, .map b5]) rfl rfl hNb6 rfl rfl rfl rfl rfl (Nat.le_of_ble_eq_true rfl) rfl ?_
    refine AAny.keep [6, 7, 8, 107] (by decide) ?_
    exact s47 trivial
  have s62 : ∀ (_ : True), A 7 #[true, false, false, false, false, true, false, false, true, false] (fun fr m => K1 (fr.keep [6, 7]) m) [(6, .ptr ⟨b1, 0, none⟩), (7, .ptr ⟨b2, 0, none⟩), (8, .ptr ⟨b6, 0, none⟩), (106, .ptr ⟨b6, 2, none⟩)] (AMem.wth m [(b6, .cells [.map b3, .map b4, .map b5]), (b5, nmO), (b4, vmO ([] : List ((List UInt8) × Val))), (b3, vmO en), (b2, .cells [.nilmap, .nilmap, .nilmap]), (b1, .cells [.map b3, .map b4, .map b5])]) := by
   intro _
   subst hA
   refine AAny.step [] [1, 3, 6] (by decide +kernel) (by simp) (by decide) ⟨?_, ?_, ?_, trivial⟩
   ·
    show aopsR _ _ _ [_] _ _ _
    refine ⟨⟨rfl, by decide⟩, ?_⟩
    refine AAny.keep [6, 7, 8, 102, 106] (by decide) ?_
    exact s42 trivial
   ·
    show aopsR _ _ _ [_] _ _ _
    refine ⟨⟨rfl, by decide⟩, ?_⟩
    refine AAny.keep [6, 7, 8, 104, 106] (by decide) ?_
    exact s46 trivial
   ·
    show aopsR _ _ _ [_] _ _ _
    refine ar_loadp rfl (v := .map b5) rfl (wth_get 0 hNb6 rfl) rfl (apartOk_one rfl rfl (Nat.le_of_ble_eq_true rfl)) rfl ?_
    refine AAny.keep [6, 7, 8, 107] (by decide) ?_
    exact s47 trivial
  clear s42 s46 s47
  have s63 : ∀ (_ : True), A 7 #[false, true, true, true, false, false, false, false, false, false] (fun fr m => K1 (fr.keep [6, 7]) m) [(6, .ptr ⟨b1, 0, none⟩), (7, .ptr ⟨b2, 0, none⟩), (8, .ptr ⟨b6, 0, none⟩), (103, .map b3), (104, .ptr ⟨b6, 1, none⟩)] (AMem.wth m [(b6, .cells [.map b3, .map b4, .map b5]), (b5, nmO), (b4, vmO ([] : List ((List UInt8) × Val))), (b3, vmO en), (b2, .cells [.nilmap, .nilmap, .nilmap]), (b1, .cells [.nilmap, .nilmap, .nilmap])]) := by
   intro _
   subst hA
   refine AAny.step [] [0, 4, 5] (by decide +kernel) (by simp) (by decide) ⟨?_, ?_, ?_, trivial⟩
   ·
    show aopsR _ _ _ [_] _ _ _
    refine ar_loadp rfl (v := .agg [.map b3, .map b4, .map b5]) rfl (wth_get 0 hNb6 rfl) rfl (apartOk_agg rfl rfl (Nat.le_of_ble_eq_true rfl)) rfl ?_
    refine AAny.keep [6, 7, 8, 101, 103, 104] (by decide) ?_
    exact s35 trivial
   ·
    show aopsR _ _ _ [_] _ _ _
    refine ar_loadp rfl (v := .map b4) rfl (wth_get 0 hNb6 rfl) rfl (apartOk_one rfl rfl (Nat.le_of_ble_eq_true rfl)) rfl ?_
    refine AAny.keep [6, 7, 8, 103, 105] (by decide) ?_
    exact s48 trivial
   ·
    show aopsR _ _ _ [_] _ _ _
    refine ⟨⟨rfl, by decide⟩, ?_⟩
    refine AAny.keep [6, 7, 8, 103, 104, 106] (by decide) ?_
    exact s49 trivial
  clear s35
  have s64 : ∀ (_ : True), A 7 #[false, true, true, false, false, true, false, false, false, false] (fun fr m => K1 (fr.keep [6, 7]) m) [(6, .ptr ⟨b1, 0, none⟩), (7, .ptr ⟨b2, 0, none⟩), (8, .ptr ⟨b6, 0, none⟩), (103, .map b3), (106, .ptr ⟨b6, 2, none⟩)] (AMem.wth m [(b6, .cells [.map b3, .map b4, .map b5]), (b5, nmO), (b4, vmO ([] : List ((List UInt8) × Val))), (b3, vmO en), (b2, .cells [.nilmap, .nilmap, .nilmap]), (b1, .cells [.nilmap, .nilmap, .nilmap])]) := by
   intro _
   subst hA
   refine AAny.step [] [0, 3, 6] (by decide +kernel) (by simp) (by decide) ⟨?_, ?_, ?_, trivial⟩
   ·
    show aopsR _ _ _ [_] _ _ _
    refine ar_loadp rfl (v := .agg [.map b3, .map b4, .map b5]) rfl (wth_get 0 hNb6 rfl) rfl (apartOk_agg rfl rfl (Nat.le_of_ble_eq_true rfl)) rfl ?_
    refine AAny.keep [6, 7, 8, 101, 103, 106] (by decide) ?_
    exact s36 trivial
   ·
    show aopsR _ _ _ [_] _ _ _
    refine ⟨⟨rfl, by decide⟩, ?_⟩
    refine AAny.keep [6, 7, 8, 103, 104, 106] (by decide) ?_
    exact s49 trivial
   ·
    show aopsR _ _ _ [_] _ _ _
    refine ar_loadp rfl (v := .map b5) rfl (wth_get 0 hNb6 rfl) rfl (apartOk_one rfl rfl (Nat.le_of_ble_eq_true rfl)) rfl ?_
    refine AAny.keep [6, 7, 8, 103, 107] (by decide) ?_
    exact s50 trivial
  clear s36
  have s65 : ∀ (_ : True), A 7 #[false, true, false, true, true, false, false, false, false, false] (fun fr m => K1 (fr.keep [6, 7]) m) [(6, .ptr ⟨b1, 0, none⟩), (7, .ptr ⟨b2, 0, none⟩), (8, .ptr ⟨b6, 0, none⟩), (102, .ptr ⟨b6, 0, none⟩), (105, .map b4)] (AMem.wth m [(b6, .cells [.map b3, .map b4, .map b5]), (b5, nmO), (b4, vmO ([] : List ((List UInt8) × Val))), (b3, vmO en), (b2, .cells [.nilmap, .nilmap, .nilmap]), (b1, .cells [.nilmap, .nilmap, .nilmap])]) := by
   intro _
   subst hA
   refine AAny.step [] [0, 2, 5] (by decide +kernel) (by simp) (by decide) ⟨?_, ?_, ?_, trivial⟩
   ·
    show aopsR _ _ _ [_] _ _ _
    refine ar_loadp rfl (v := .agg [.map b3, .map b4, .map b5]) rfl (wth_get 0 hNb6 rfl) rfl (apartOk_agg rfl rfl (Nat.le_of_ble_eq_true rfl)) rfl ?_
    refine AAny.keep [6, 7, 8, 101, 102, 105] (by decide) ?_
    exact s38 trivial
   ·
    show aopsR _ _ _ [_] _ _ _
    refine ar_loadp rfl (v := .map b3) rfl (wth_get 0 hNb6 rfl) rfl (apartOk_one rfl rfl (Nat.le_of_ble_eq_true rfl)) rfl ?_
    refine AAny.keep [6, 7, 8, 103, 105] (by decide) ?_
    exact s48 trivial
   ·
    show aopsR _ _ _ [_] _ _ _
    refine ⟨⟨rfl, by decide⟩, ?_⟩
    refine AAny.keep [6, 7, 8, 102, 105, 106] (by decide) ?_
    exact s51 trivial
  clear s38 s48
  have s66 : ∀ (_ : True), A 7 #[false, true, false, true, false, true, false, false, false, false] (fun fr m => K1 (fr.keep [6, 7]) m) [(6, .ptr ⟨b1, 0, none⟩), (7, .ptr ⟨b2, 0, none⟩), (8, .ptr ⟨b6, 0, none⟩), (102, .ptr ⟨b6, 0, none⟩), (104, .ptr ⟨b6, 1, none⟩), (106, .ptr ⟨b6, 2, none⟩)] (AMem.wth m [(b6, .cells [.map b3, .map b4, .map b5]), (b5, nmO), (b4, vmO ([] : List ((List UInt8) × Val))), (b3, vmO en), (b2, .cells [.nilmap, .nilmap, .nilmap]), (b1, .cells [.nilmap, .nilmap, .nilmap])]) := by
   intro _
   subst hA
   refine AAny.step [] [0, 2, 4, 6] (by decide +kernel) (by simp) (by decide) ⟨?_, ?_, ?_, ?_, trivial⟩
   ·
    show aopsR _ _ _ [_] _ _ _
    refine ar_loadp rfl (v := .agg [.map b3, .map b4, .map b5]) rfl (wth_get 0 hNb6 rfl) rfl (apartOk_agg rfl rfl (Nat.le_of_ble_eq_true rfl)) rfl ?_
    refine AAny.keep [6, 7, 101, 102, 104, 106] (by decide) ?_
    exact s39 trivial
   ·
    show aopsR _ _ _ [_] _ _ _
    refine ar_loadp rfl (v := .map b3) rfl (wth_get 0 hNb6 rfl) rfl (apartOk_one rfl rfl (Nat.le_of_ble_eq_true rfl)) rfl ?_
    refine AAny.keep [6, 7, 8, 103, 104, 106] (by decide) ?_
    exact s49 trivial
   ·
    show aopsR _ _ _ [_] _ _ _
    refine ar_loadp rfl (v := .map b4) rfl (wth_get 0 hNb6 rfl) rfl (apartOk_one rfl rfl (Nat.le_of_ble_eq_true rfl)) rfl ?_
    refine AAny.keep [6, 7, 8, 102, 105, 106] (by decide) ?_
    exact s51 trivial
   ·
    show aopsR _ _ _ [_] _ _ _
    refine ar_loadp rfl (v := .map b5) rfl (wth_get 0 hNb6 rfl) rfl (apartOk_one rfl rfl (Nat.le_of_ble_eq_true rfl)) rfl ?_
    refine AAny.keep [6, 7, 8, 102, 104, 107] (by decide) ?_
    exact s52 trivial
  clear s39 s49
  have s67 : ∀ (_ : True), A 7 #[false, true, false, false, false, true, true, false, false, false] (fun fr m => K1 (fr.keep [6, 7]) m) [(6, .ptr ⟨b1, 0, none⟩), (7, .ptr ⟨b2, 0, none⟩), (8, .ptr ⟨b6, 0, none⟩), (102, .ptr ⟨b6, 0, none⟩), (107, .map b5)] (AMem.wth m [(b6, .cells [.map b3, .map b4, .map b5]), (b5, nmO), (b4, vmO ([] : List ((List UInt8) × Val))), (b3, vmO en), (b2, .cells [.nilmap, .nilmap, .nilmap]), (b1, .cells [.nilmap, .nilmap, .nilmap])]) := by
   intro _
   subst hA
   refine AAny.step [] [0, 2, 3] (by decide +kernel) (by simp) (by decide) ⟨?_, ?_, ?_, trivial⟩
   ·
    show aopsR _ _ _ [_] _ _ _
    refine ar_loadp rfl (v := .agg [.map b3, .map b4, .map b5]) rfl (wth_get 0 hNb6 rfl) rfl (apartOk_agg rfl rfl (Nat.le_of_ble_eq_true rfl)) rfl ?_
    refine AAny.keep [6, 7, 8, 101, 102, 107] (by decide) ?_
    exact s41 trivial
   ·
    show aopsR _ _ _ [_] _ _ _
    refine ar_loadp rfl (v := .map b3) rfl (wth_get 0 hNb6 rfl) rfl (apartOk_one rfl rfl (Nat.le_of_ble_eq_true rfl)) rfl ?_
    refine AAny.keep [6, 7, 8, 103, 107] (by decide) ?_
    exact s50 trivial
   ·
    show aopsR _ _ _ [_] _ _ _
    refine ⟨⟨rfl, by decide⟩, ?_⟩
    refine AAny.keep [6, 7, 8, 102, 104, 107] (by decide) ?_
    exact s52 trivial
  clear s41 s50
  have s68 : ∀ (_ : True), A 7 #[false, false, false, true, true, true, false, false, false, false] (fun fr m => K1 (fr.keep [6, 7]) m) [(6, .ptr ⟨b1, 0, none⟩), (7, .ptr ⟨b2, 0, none⟩), (8, .ptr ⟨b6, 0, none⟩), (105, .map b4), (106, .ptr ⟨b6, 2, none⟩)] (AMem.wth m [(b6, .cells [.map b3, .map b4, .map b5]), (b5, nmO), (b4, vmO ([] : List ((List UInt8) × Val))), (b3, vmO en), (b2, .cells [.nilmap, .nilmap, .nilmap]), (b1, .cells [.nilmap, .nilmap, .nilmap])]) := by
   intro _
   subst hA
   refine AAny.step [] [0, 1, 6] (by decide +kernel) (by simp) (by decide) ⟨?_, ?_, ?_, trivial⟩
   ·
    show aopsR _ _ _ [_] _ _ _
    refine ar_loadp rfl (v := .agg [.map b3, .map b4, .map b5]) rfl (wth_get 0 hNb6 rfl) rfl (apartOk_agg rfl rfl (Nat.le_of_ble_eq_true rfl)) rfl ?_
    refine AAny.keep [6, 7, 8, 101, 105, 106] (by decide) ?_
    exact s43 trivial
   ·
    show aopsR _ _ _ [_] _ _ _
    refine ⟨⟨rfl, by decide⟩, ?_⟩
    refine AAny.keep [6, 7, 8, 102, 105, 106] (by decide) ?_
    exact s51 trivial
   ·
    show aopsR _ _ _ [_] _ _ _
    refine ar_loadp rfl (v := .map b5) rfl (wth_get 0 hNb6 rfl) rfl (apartOk_one rfl rfl (Nat.le_of_ble_eq_true rfl)) rfl ?_
    refine AAny.keep [6, 7, 8, 105, 107] (by decide) ?_
    exact s53 trivial
  clear s43 s51
  have s69 : ∀ (_ : True), A 7 #[false, false, false, true, false, true, true, false, false, false] (fun fr m => K1 (fr.keep [6, 7]) m) [(6, .ptr ⟨b1, 0, none⟩), (7, .ptr ⟨b2, 0, none⟩), (8, .ptr ⟨b6, 0, none⟩), (104, .ptr ⟨b6, 1, none⟩), (107, .map b5)] (AMem.wth m [(b6, .cells [.map b3, .map b4, .map b5]), (b5, nmO), (b4, vmO ([] : List ((List UInt8) × Val))), (b3, vmO en), (b2, .cells [.nilmap, .nilmap, .nilmap]), (b1, .cells [.nilmap, .nilmap, .nilmap])]) := by
   intro _
   subst hA
   refine AAny.step [] [0, 1, 4] (by decide +kernel) (by simp) (by decide) ⟨?_, ?_, ?_, trivial⟩
   ·
    show aopsR _ _ _ [_] _ _ _
    refine ar_loadp rfl (v := .agg [.map b3, .map b4, .map b5]) rfl (wth_get 0 hNb6 rfl) rfl (apartOk_agg rfl rfl (Nat.le_of_ble_eq_true rfl)) rfl ?_
    refine AAny.keep [6, 7, 8, 101, 104, 107] (by decide) ?_
    exact s45 trivial
   ·
    show aopsR _ _ _ [_] _ _ _
    refine ⟨⟨rfl, by decide⟩, ?_⟩
    refine AAny.keep [6, 7, 8, 102, 104, 107] (by decide) ?_
    exact s52 trivial
   ·
    show aopsR _ _ _ [_] _ _ _
    refine ar_loadp rfl (v := .map b4) rfl (wth_get 0 hNb6 rfl) rfl (apartOk_one rfl rfl (Nat.le_of_ble_eq_true rfl)) rfl ?_
    refine AAny.keep [6, 7, 8, 105, 107] (by decide) ?_
    exact s53 trivial
  clear s45 s52 s53
  have s70 : ∀ (_ : True), A 8 #[true, true, false, false, false, false, false, false, false, false] (fun fr m => K1 (fr.keep [6, 7]) m) [(6, .ptr ⟨b1, 0, none⟩), (7, .ptr ⟨b2, 0, none⟩), (8, .ptr ⟨b6, 0, none⟩), (101, .agg [.map b3, .map b4, .map b5]), (102, .ptr ⟨b6, 0, none⟩)] (AMem.wth m [(b6, .cells [.map b3, .map b4, .map b5]), (b5, nmO), (b4, vmO ([] : List ((List UInt8) × Val))), (b3, vmO en), (b2, .cells [.nilmap, .nilmap, .nilmap]), (b1, .cells [.nilmap, .nilmap, .nilmap])]) := by
   intro _
   subst hA
   refine AAny.step [] [2, 3, 5, 8] (by decide +kernel) (by simp) (by decide) ⟨?_, ?_, ?_, ?_, trivial⟩
   ·
    show aopsR _ _ _ [_] _ _ _
    refine ar_loadp rfl (v := .map b3) rfl (wth_get 0 hNb6 rfl) rfl (apartOk_one rfl rfl (Nat.le_of_ble_eq_true rfl)) rfl ?_
    refine AAny.keep [6, 7, 8, 101, 103] (by decide) ?_
    exact s54 trivial
   ·
    show aopsR _ _ _ [_] _ _ _
    refine ⟨⟨rfl, by decide⟩, ?_⟩
    refine AAny.keep [6, 7, 8, 101, 102, 104] (by decide) ?_
    exact s55 trivial
   ·
    show aopsR _ _ _ [_] _ _ _
    refine ⟨⟨rfl, by decide⟩, ?_⟩
    refine AAny.keep [6, 7, 8, 101, 102, 106] (by decide) ?_
    exact s56 trivial
   ·
    show aopsR _ _ _ [_] _ _ _
    refine ar_storep rfl 5 (v := .agg [.map b3, .map b4, .map b5]) (l' := [.map b3, .map b4, .map b5]) rfl rfl hNb6 rfl rfl rfl rfl rfl (Nat.le_of_ble_eq_true rfl) rfl ?_
    refine AAny.keep [6, 7, 8, 102] (by decide) ?_
    exact s57 trivial
  have s71 : ∀ (_ : True), A 8 #[true, false, false, true, false, false, false, false, false, false] (fun fr m => K1 (fr.keep [6, 7]) m) [(6, .ptr ⟨b1, 0, none⟩), (7, .ptr ⟨b2, 0, none⟩), (8, .ptr ⟨b6, 0, none⟩), (101, .agg [.map b3, .map b4, .map b5]), (104, .ptr ⟨b6, 1, none⟩)] (AMem.wth m [(b6, .cells [.map b3, .map b4, .map b5]), (b5, nmO), (b4, vmO ([] : List ((List UInt8) × Val))), (b3, vmO en), (b2, .cells [.nilmap, .nilmap, .nilmap]), (b1, .cells [.nilmap, .nilmap, .nilmap])]) := by
   intro _
   subst hA
   refine AAny.step [] [1, 4, 5, 8] (by decide +kernel) (by simp) (by decide) ⟨?_, ?_, ?_, ?_, trivial⟩
   ·
    show aopsR _ _ _ [_] _ _ _
    refine ⟨⟨rfl, by decide⟩, ?_⟩
    refine AAny.keep [6, 7, 8, 101, 102, 104] (by decide) ?_
    exact s55 trivial
   ·
    show aopsR _ _ _ [_] _ _ _
    refine ar_loadp rfl (v := .map b4) rfl (wth_get 0 hNb6 rfl) rfl (apartOk_one rfl rfl (Nat.le_of_ble_eq_true rfl)) rfl ?_
    refine AAny.keep [6, 7, 8, 101, 105] (by decide) ?_
    exact s58 trivial
   ·
    show aopsR _ _ _ [_] _ _ _
    refine ⟨⟨rfl, by decide⟩, ?_⟩
    refine AAny.keep [6, 7, 8, 101, 104, 106] (by decide) ?_
    exact s59 trivial
   ·
    show aopsR _ _ _ [_] _ _ _
    refine ar_storep rfl 5 (v := .agg [.map b3, .map b4, .map b5]) (l' := [.map b3, .map b4, .map b5]) rfl rfl hNb6 rfl rfl rfl rfl rfl (Nat.le_of_ble_eq_true rfl) rfl ?_
    refine AAny.keep [6, 7, 8, 104] (by decide) ?_
    exact s60 trivial
  have s72 : ∀ (_ : True), A 8 #[true, false, false, false, false, true, false, false, false, false] (fun fr m => K1 (fr.keep [6, 7]) m) [(6, .ptr ⟨b1, 0, none⟩), (7, .ptr ⟨b2, 0, none⟩), (8, .ptr ⟨b6, 0, none⟩), (101, .agg [.map b3, .map b4, .map b5]), (106, .ptr ⟨b6, 2, none⟩)] (AMem.wth m [(b6, .cells [.map b3, .map b4, .map b5]), (b5, nmO), (b4, vmO ([] : List ((List UInt8) × Val))), (b3, vmO en), (b2, .cells [.nilmap, .nilmap, .nilmap]), (b1, .cells [.nilmap, .nilmap, .nilmap])]) := by
   intro _
   subst hA
   refine AAny.step [] [1, 3, 6, 8] (by decide +kernel) (by simp) (by decide) ⟨?_, ?_, ?_, ?_, trivial⟩
   ·
    show aopsR _ _ _ [_] _ _ _
    refine ⟨⟨rfl, by decide⟩, ?_⟩
    refine AAny.keep [6, 7, 8, 101, 102, 106] (by decide) ?_
    exact s56 trivial
   ·
    show aopsR _ _ _ [_] _ _ _
    refine ⟨⟨rfl, by decide⟩, ?_⟩
    refine AAny.keep [6, 7, 8, 101, 104, 106] (by decide) ?_
    exact s59 trivial
   ·
    show aopsR _ _ _ [_] _ _ _
    refine ar_loadp rfl (v := .map b5) rfl (wth_get 0 hNb6 rfl) rfl (apartOk_one rfl rfl (Nat.le_of_ble_eq_true rfl)) rfl ?_
    refine AAny.keep [6, 7, 8, 101, 107] (by decide) ?_
    exact s61 trivial
   ·
    show aopsR _ _ _ [_] _ _ _
    refine ar_storep rfl 5 (v := .agg [.map b3, .map b4, .map b5]) (l' := [.map b3, .map b4, .map b5]) rfl rfl hNb6 rfl rfl rfl rfl rfl (Nat.le_of_ble_eq_true rfl) rfl ?_
    refine AAny.keep [6, 7, 8, 106] (by decide) ?_
    exact s62 trivial
  have s73 : ∀ (_ : True), A 8 #[true, false, false, false, false, false, false, false, true, false] (fun fr m => K1 (fr.keep [6, 7]) m) [(6, .ptr ⟨b1, 0, none⟩), (7, .ptr ⟨b2, 0, none⟩), (8, .ptr ⟨b6, 0, none⟩)] (AMem.wth m [(b6, .cells [.map b3, .map b4, .map b5]), (b5, nmO), (b4, vmO ([] : List ((List UInt8) × Val))), (b3, vmO en), (b2, .cells [.nilmap, .nilmap, .nilmap]), (b1, .cells [.map b3, .map b4, .map b5])]) := by
   intro _
   subst hA
   refine AAny.step [] [1, 3, 5] (by decide +kernel) (by simp) (by decide) ⟨?_, ?_, ?_, trivial⟩
   ·
    show aopsR _ _ _ [_] _ _ _
    refine ⟨⟨rfl, by decide⟩, ?_⟩
    refine AAny.keep [6, 7, 8, 102] (by decide) ?_
    exact s57 trivial
   ·
    show aopsR _ _ _ [_] _ _ _
    refine ⟨⟨rfl, by decide⟩, ?_⟩
    refine AAny.keep [6, 7, 8, 104] (by decide) ?_
    exact s60 trivial
   ·
    show aopsR _ _ _ [_] _ _ _
    refine ⟨⟨rfl, by decide⟩, ?_⟩
    refine AAny.keep [6, 7, 8, 106] (by decide) ?_
    exact s62 trivial
  clear s57 s60 s62
  have s74 : ∀ (_ : True), A 8 #[false, true, true, false, false, false, false, false, false, false] (fun fr m => K1 (fr.keep [6, 7]) m) [(6, .ptr ⟨b1, 0, none⟩), (7, .ptr ⟨b2, 0, none⟩), (8, .ptr ⟨b6, 0, none⟩), (103, .map b3)] (AMem.wth m [(b6, .cells [.map b3, .map b4, .map b5]), (b5, nmO), (b4, vmO ([] : List ((List UInt8) × Val))), (b3, vmO en), (b2, .cells [.nilmap, .nilmap, .nilmap]), (b1, .cells [.nilmap, .nilmap, .nilmap])]) := by
   intro _
   subst hA
   refine AAny.step [] [0, 3, 5] (by decide +kernel) (by simp) (by decide) ⟨?_, ?_, ?_, trivial⟩
   ·
    show aopsR _ _ _ [_] _ _ _
    refine ar_loadp rfl (v := .agg [.map b3, .map b4, .map b5]) rfl (wth_get 0 hNb6 rfl) rfl (apartOk_agg rfl rfl (Nat.le_of_ble_eq_true rfl)) rfl ?_
    refine AAny.keep [6, 7, 8, 101, 103] (by decide) ?_
    exact s54 trivial
   ·
    show aopsR _ _ _ [_] _ _ _
    refine ⟨⟨rfl, by decide⟩, ?_⟩
    refine AAny.keep [6, 7, 8, 103, 104] (by decide) ?_
    exact s63 trivial
   ·
    show aopsR _ _ _ [_] _ _ _
    refine ⟨⟨rfl, by decide⟩, ?_⟩
    refine AAny.keep [6, 7, 8, 103, 106] (by decide) ?_
    exact s64 trivial
  clear s54
  have s75 : ∀ (_ : True), A 8 #[false, true, false, true, false, false, false, false, false, false] (fun fr m => K1 (fr.keep [6, 7]) m) [(6, .ptr ⟨b1, 0, none⟩), (7, .ptr ⟨b2, 0, none⟩), (8, .ptr ⟨b6, 0, none⟩), (102, .ptr ⟨b6, 0, none⟩), (104, .ptr ⟨b6, 1, none⟩)] (AMem.wth m [(b6, .cells [.map b3, .map b4, .map b5]), (b5, nmO), (b4, vmO ([] : List ((List UInt8) × Val))), (b3, vmO en), (b2, .cells [.nilmap, .nilmap, .nilmap]), (b1, .cells [.nilmap, .nilmap, .nilmap])]) := by
   intro _
   subst hA
   refine AAny.step [] [0, 2, 4, 5] (by decide +kernel) (by simp) (by decide) ⟨?_, ?_, ?_, ?_, trivial⟩
   ·
    show aopsR _ _ _ [_] _ _ _
    refine ar_loadp rfl (v := .agg [.map b3, .map b4, .map b5]) rfl (wth_get 0 hNb6 rfl) rfl (apartOk_agg rfl rfl (Nat.le_of_ble_eq_true rfl)) rfl ?_
    refine AAny.keep [6, 7, 8, 101, 102, 104] (by decide) ?_
    exact s55 trivial
   ·
    show aopsR _ _ _ [_] _ _ _
    refine ar_loadp rfl (v := .map b3) rfl (wth_get 0 hNb6 rfl) rfl (apartOk_one rfl rfl (Nat.le_of_ble_eq_true rfl)) rfl ?_
    refine AAny.keep [6, 7, 8, 103, 104] (by decide) ?_
    exact s63 trivial
   ·
    show aopsR _ _ _ [_] _ _ _
    refine ar_loadp rfl (v := .map b4) rfl (wth_get 0 hNb6 rfl) rfl (apartOk_one rfl rfl (Nat.le_of_ble_eq_true rfl)) rfl ?_
    refine AAny.keep [6, 7, 8, 102, 105] (by decide) ?_
    exact s65 trivial
   ·
    show aopsR _ _ _ [_] _ _ _
    refine ⟨⟨rfl, by decide⟩, ?_⟩
    refine AAny.keep [6, 7, 8, 102, 104, 106] (by decide) ?_
    exact s66 trivial
  clear s55 s63
  have s76 : ∀ (_ : True), A 8 #[false, true, false, false, false, true, false, false, false, false] (fun fr m => K1 (fr.keep [6, 7]) m) [(6, .ptr ⟨b1, 0, none⟩), (7, .ptr ⟨b2, 0, none⟩), (8, .ptr ⟨b6, 0, none⟩), (102, .ptr ⟨b6, 0, none⟩), (106, .ptr ⟨b6, 2, none⟩)] (AMem.wth m [(b6, .cells [.map b3, .map b4, .map b5]), (b5, nmO), (b4, vmO ([] : List ((List UInt8) × Val))), (b3, vmO en), (b2, .cells [.nilmap, .nilmap, .nilmap]), (b1, .cells [.nilmap, .nilmap, .nilmap])]) := by
   intro _
   subst hA
   refine AAny.step [] [0, 2, 3, 6] (by decide +kernel) (by simp) (by decide) ⟨?_, ?_, ?_, ?_, trivial⟩
   ·
    show aopsR _ _ _ [_] _ _ _
    refine ar_loadp rfl (v := .agg [.map b3, .map b4, .map b5]) rfl (wth_get 0 hNb6 rfl) rfl (apartOk_agg rfl rfl (Nat.le_of_ble_eq_true rfl)) rfl ?_
    refine AAny.keep [6, 7, 8, 101, 102, 106] (by decide) ?_
    exact s56 trivial
   ·
    show aopsR _ _ _ [_] _ _ _
    refine ar_loadp rfl (v := .map b3) rfl (wth_get 0 hNb6 rfl) rfl (apartOk_one rfl rfl (Nat.le_of_ble_eq_true rfl)) rfl ?_
    refine AAny.keep [6, 7, 8, 103, 106] (by decide) ?_
    exact s64 trivial
   ·
    show aopsR _ _ _ [_] _ _ _
    refine ⟨⟨rfl, by decide⟩, ?_⟩
    refine AAny.keep [6, 7, 8, 102, 104, 106] (by decide) ?_
    exact s66 trivial
   ·
    show aopsR _ _ _ [_] _ _ _
    refine ar_loadp rfl (v := .map b5) rfl (wth_get 0 hNb6 rfl) rfl (apartOk_one rfl rfl (Nat.le_of_ble_eq_true rfl)) rfl ?_
    refine AAny.keep [6, 7, 8, 102, 107] (by decide) ?_
    exact s67 trivial
  clear s56 s64
  have s77 : ∀ (_ : True), A 8 #[false, false, false, true, true, false, false, false, false, false] (fun fr m => K1 (fr.keep [6, 7]) m) [(6, .ptr ⟨b1, 0, none⟩), (7, .ptr ⟨b2, 0, none⟩), (8, .ptr ⟨b6, 0, none⟩), (105, .map b4)] (AMem.wth m [(b6, .cells [.map b3, .map b4, .map b5]), (b5, nmO), (b4, vmO ([] : List ((List UInt8) × Val))), (b3, vmO en), (b2, .cells [.nilmap, .nilmap, .nilmap]), (b1, .cells [.nilmap, .nilmap, .nilmap])]) := by
   intro _
   subst hA
   refine AAny.step [] [0, 1, 5] (by decide +kernel) (by simp) (by decide) ⟨?_, ?_, ?_, trivial⟩
   ·
    show aopsR _ _ _ [_] _ _ _
    refine ar_loadp rfl (v := .agg [.map b3, .map b4, .map b5]) rfl (wth_get 0 hNb6 rfl) rfl (apartOk_agg rfl rfl (Nat.le_of_ble_eq_true rfl)) rfl ?_
    refine AAny.keep [6, 7, 8, 101, 105] (by decide) ?_
    exact s58 trivial
   ·
    show aopsR _ _ _ [_] _ _ _
    refine ⟨⟨rfl, by decide⟩, ?_⟩
    refine AAny.keep [6, 7, 8, 102, 105] (by decide) ?_
    exact s65 trivial
   ·
    show aopsR _ _ _ [_] _ _ _
    refine ⟨⟨rfl, by decide⟩, ?_⟩
    refine AAny.keep [6, 7, 8, 105, 106] (by decide) ?_
    exact s68 trivial
  clear s58 s65
  have s78 : ∀ (_ : True), A 8 #[false, false, false, true, false, true, false, false, false, false] (fun fr m => K1 (fr.keep [6, 7]) m) [(6, .ptr ⟨b1, 0, none⟩), (7, .ptr ⟨b2, 0, none⟩), (8, .ptr ⟨b6, 0, none⟩), (104, .ptr ⟨b6, 1, none⟩), (106, .ptr ⟨b6, 2, none⟩)] (AMem.wth m [(b6, .cells [.map b3, .map b4, .map b5]), (b5, nmO), (b4, vmO ([] : List ((List UInt8) × Val))), (b3, vmO en), (b2, .cells [.nilmap, .nilmap, .nilmap]), (b1, .cells [.nilmap, .nilmap, .nilmap])]) := by
   intro _
   subst hA
   refine AAny.step [] [0, 1, 4, 6] (by decide +kernel) (by simp) (by decide) ⟨?_, ?_, ?_, ?_, trivial⟩
   ·
    show aopsR _ _ _ [_] _ _ _
    refine ar_loadp rfl (v := .agg [.map b3, .map b4, .map b5]) rfl (wth_get 0 hNb6 rfl) rfl (apartOk_agg rfl rfl (Nat.le_of_ble_eq_true rfl)) rfl ?_
    refine AAny.keep [6, 7, 8, 101, 104, 106] (by decide) ?_
    exact s59 trivial
   ·
    show aopsR _ _ _ [_] _ _ _
    refine ⟨⟨rfl, by decide⟩, ?_⟩
    refine AAny.keep [6, 7, 8, 102, 104, 106] (by decide) ?_
    exact s66 trivial
   ·
    show aopsR _ _ _ [_] _ _ _
    refine ar_loadp rfl (v := .map b4) rfl (wth_get 0 hNb6 rfl) rfl (apartOk_one rfl rfl (Nat.le_of_ble_eq_true rfl)) rfl ?_
    refine AAny.keep [6, 7, 8, 105, 106] (by decide) ?_
    exact s68 trivial
   ·
    show aopsR _ _ _ [_] _ _ _
    refine ar_loadp rfl (v := .map b5) rfl (wth_get 0 hNb6 rfl) rfl (apartOk_one rfl rfl (Nat.le_of_ble_eq_true rfl)) rfl ?_
    refine AAny.keep [6, 7, 8, 104, 107] (by decide) ?_
    exact s69 trivial
  clear s59 s66 s68
  have s79 : ∀ (_ : True), A 8 #[false, false, false, false, false, true, true, false, false, false] (fun fr m => K1 (fr.keep [6, 7]) m) [(6, .ptr ⟨b1, 0, none⟩), (7, .ptr ⟨b2, 0, none⟩), (8, .ptr ⟨b6, 0, none⟩), (107, .map b5)] (AMem.wth m [(b6, .cells [.map b3, .map b4, .map b5]), (b5, nmO), (b4, vmO ([] : List ((List UInt8) × Val))), (b3, vmO en), (b2, .cells [.nilmap, .nilmap, .nilmap]), (b1, .cells [.nilmap, .nilmap, .nilmap])]) := by
   intro _
   subst hA
   refine AAny.step [] [0, 1, 3] (by decide +kernel) (by simp) (by decide) ⟨?_, ?_, ?_, trivial⟩
   ·
    show aopsR _ _ _ [_] _ _ _
    refine ar_loadp rfl (v := .agg [.map b3, .map b4, .map b5]) rfl (wth_get 0 hNb6 rfl) rfl (apartOk_agg rfl rfl (Nat.le_of_ble_eq_true rfl)) rfl ?_
    refine AAny.keep [6, 7, 8, 101, 107] (by decide) ?_
    exact s61 trivial
   ·
    show aopsR _ _ _ [_] _ _ _
    refine ⟨⟨rfl, by decide⟩, ?_⟩
    refine AAny.keep [6, 7, 8, 102, 107] (by decide) ?_
    exact s67 trivial
   ·
    show aopsR _ _ _ [_] _ _ _
    refine ⟨⟨rfl, by decide⟩, ?_⟩
    refine AAny.keep [6, 7, 8, 104, 107] (by decide) ?_
    exact s69 trivial
  clear s61 s67 s69
  have s80 : ∀ (_ : True), A 9 #[true, false, false, false, false, false, false, false, false, false] (fun fr m => K1 (fr.keep [6, 7]) m) [(6, .ptr ⟨b1, 0, none⟩), (7, .ptr ⟨b2, 0, none⟩), (8, .ptr ⟨b6, 0, none⟩), (101, .agg [.map b3, .map b4, .map b5])] (AMem.wth m [(b6, .cells [.map b3, .map b4, .map b5]), (b5, nmO), (b4, vmO ([] : List ((List UInt8) × Val))), (b3, vmO en), (b2, .cells [.nilmap, .nilmap, .nilmap]), (b1, .cells [.nilmap, .nilmap, .nilmap])]) := by
   intro _
   subst hA
   refine AAny.step [] [1, 3, 5, 8] (by decide +kernel) (by simp) (by decide) ⟨?_, ?_, ?_, ?_, trivial⟩
   ·
    show aopsR _ _ _ [_] _ _ _
    refine ⟨⟨rfl, by decide⟩, ?_⟩
    refine AAny.keep [6, 7, 8, 101, 102] (by decide) ?_
    exact s70 trivial
   ·
    show aopsR _ _ _ [_] _ _ _
    refine ⟨⟨rfl, by decide⟩, ?_⟩
    refine AAny.keep [6, 7, 8, 101, 104] (by decide) ?_
    exact s71 trivial
   ·
    show aopsR _ _ _ [_] _ _ _
    refine ⟨⟨rfl, by decide⟩, ?_⟩
    refine AAny.keep [6, 7, 8, 101, 106] (by decide) ?_
    exact s72 trivial
   ·
    show aopsR _ _ _ [_] _ _ _
    refine ar_storep rfl 5 (v := .agg [.map b3, .map b4, .map b5]) (l' := [.map b3, .map b4, .map b5]) rfl rfl hNb6 rfl rfl rfl rfl rfl (Nat.le_of_ble_eq_true rfl) rfl ?_
    refine AAny.keep [6, 7, 8] (by decide) ?_
    exact s73 trivial
  clear s73
  have s81 : ∀ (_ : True), A 9 #[false, true, false, false, false, false, false, false, false, false] (fun fr m => K1 (fr.keep [6, 7]) m) [(6, .ptr ⟨b1, 0, none⟩), (7, .ptr ⟨b2, 0, none⟩), (8, .ptr ⟨b6, 0, none⟩), (102, .ptr ⟨b6, 0, none⟩)] (AMem.wth m [(b6, .cells [.map b3, .map b4, .map b5]), (b5, nmO), (b4, vmO ([] : List ((List UInt8) × Val))), (b3, vmO en), (b2, .cells [.nilmap, .nilmap, .nilmap]), (b1, .cells [.nilmap, .nilmap, .nilmap])]) := by
   intro _
   subst hA
   refine AAny.step [] [0, 2, 3, 5] (by decide +kernel) (by simp) (by decide) ⟨?_, ?_, ?_, ?_, trivial⟩
   ·
    show aopsR _ _ _ [_] _ _ _
    refine ar_loadp rfl (v := .agg [.map b3, .map b4, .map b5]) rfl (wth_get 0 hNb6 rfl) rfl (apartOk_agg rfl rfl (Nat.le_of_ble_eq_true rfl)) rfl ?_
    refine AAny.keep [6, 7, 8, 101, 102] (by decide) ?_
    exact s70 trivial
   ·
    show aopsR _ _ _ [_] _ _ _
    refine ar_loadp rfl (v := .map b3) rfl (wth_get 0 hNb6 rfl) rfl (apartOk_one rfl rfl (Nat.le_of_ble_eq_true rfl)) rfl ?_
    refine AAny.keep [6, 7, 8, 103] (by decide) ?_
    exact s74 trivial
   ·
    show aopsR _ _ _ [_] _ _ _
    refine ⟨⟨rfl, by decide⟩, ?_⟩
    refine AAny.keep [6, 7, 8, 102, 104] (by decide) ?_
    exact s75 trivial
   ·
    show aopsR _ _ _ [_] _ _ _
    refine ⟨⟨rfl, by decide⟩, ?_⟩
    refine AAny.keep [6, 7, 8, 102, 106] (by decide) ?_
    exact s76 trivial
  clear s70 s74
  have s82 : ∀ (_ : True), A 9 #[false, false, false, true, false, false, false, false, false, false] (fun fr m => K1 (fr.keep [6, 7]) m) [(6, .ptr ⟨b1, 0, none⟩), (7, .ptr ⟨b2, 0, none⟩), (8, .ptr ⟨b6, 0, none⟩), (104, .ptr ⟨b6, 1, none⟩)] (AMem.wth m [(b6, .cells [.map b3, .map b4, .map b5]), (b5, nmO), (b4, vmO ([] : List ((List UInt8) × Val))), (b3, vmO en), (b2, .cells [.nilmap, .nilmap, .nilmap]), (b1, .cells [.nilmap, .nilmap, .nilmap])]) := by
   intro _
   subst hA
   refine AAny.step [] [0, 1, 4, 5] (by decide +kernel) (by simp) (by decide) ⟨?_, ?_, ?_, ?_, trivial⟩
   ·
    show aopsR _ _ _ [_] _ _ _
    refine ar_loadp rfl (v := .agg [.map b3, .map b4, .map b5]) rfl (wth_get 0 hNb6 rfl) rfl (apartOk_agg rfl rfl (Nat.le_of_ble_eq_true rfl)) rfl ?_
    refine AAny.keep [6, 7, 8, 101, 104] (by decide) ?_
    exact s71 trivial
   ·
    show aopsR _ _ _ [_] _ _ _
    refine ⟨⟨rfl, by decide⟩, ?_⟩
    refine AAny.keep [6, 7, 8, 102, 104] (by decide) ?_
    exact s75 trivial
   ·
    show aopsR _ _ _ [_] _ _ _
    refine ar_loadp rfl (v := .map b4) rfl (wth_get 0 hNb6 rfl) rfl (apartOk_one rfl rfl (Nat.le_of_ble_eq_true rfl)) rfl ?_
    refine AAny.keep [6, 7, 8, 105] (by decide) ?_
    exact s77 trivial
   ·
    show aopsR _ _ _ [_] _ _ _
    refine ⟨⟨rfl, by decide⟩, ?_⟩
    refine AAny.keep [6, 7, 8, 104, 106] (by decide) ?_
    exact s78 trivial
  clear s71 s75 s77
  have s83 : ∀ (_ : True), A 9 #[false, false, false, false, false, true, false, false, false, false] (fun fr m => K1 (fr.keep [6, 7]) m) [(6, .ptr ⟨b1, 0, none⟩), (7, .ptr ⟨b2, 0, none⟩), (8, .ptr ⟨b6, 0, none⟩), (106, .ptr ⟨b6, 2, none⟩)] (AMem.wth m [(b6, .cells [.map b3, .map b4, .map b5]), (b5, nmO), (b4, vmO ([] : List ((List UInt8) × Val))), (b3, vmO en), (b2, .cells [.nilmap, .nilmap, .nilmap]), (b1, .cells [.nilmap, .nilmap, .nilmap])]) := by
   intro _
   subst hA
   refine AAny.step [] [0, 1, 3, 6] (by decide +kernel) (by simp) (by decide) ⟨?_, ?_, ?_, ?_, trivial⟩
   ·
    show aopsR _ _ _ [_] _ _ _
    refine ar_loadp rfl (v := .agg [.map b3, .map b4, .map b5]) rfl (wth_get 0 hNb6 rfl) rfl (apartOk_agg rfl rfl (Nat.le_of_ble_eq_true rfl)) rfl ?_
    refine AAny.keep [6, 7, 8, 101, 106] (by decide) ?_
    exact s72 trivial
   ·
    show aopsR _ _ _ [_] _ _ _
    refine ⟨⟨rfl, by decide⟩, ?_⟩
    refine AAny.keep [6, 7, 8, 102, 106] (by decide) ?_
    exact s76 trivial
   ·
    show aopsR _ _ _ [_] _ _ _
    refine ⟨⟨rfl, by decide⟩, ?_⟩
    refine AAny.keep [6, 7, 8, 104, 106] (by decide) ?_
    exact s78 trivial
   ·
    show aopsR _ _ _ [_] _ _ _
    refine ar_loadp rfl (v := .map b5) rfl (wth_get 0 hNb6 rfl) rfl (apartOk_one rfl rfl (Nat.le_of_ble_eq_true rfl)) rfl ?_
    refine AAny.keep [6, 7, 8, 107] (by decide) ?_
    exact s79 trivial
  clear s72 s76 s78 s79
  have s84 : ∀ (_ : True), A 10 #[false, false, false, false, false, false, false, false, false, false] (fun fr m => K1 (fr.keep [6, 7]) m) [(2, .slice true []), (6, .ptr ⟨b1, 0, none⟩), (7, .ptr ⟨b2, 0, none⟩), (8, .ptr ⟨b6, 0, none⟩), (11, .int .i64 k), (57, .bool (decide (k < 0)))] (AMem.wth m [(b6, .cells [.map b3, .map b4, .map b5]), (b5, nmO), (b4, vmO ([] : List ((List UInt8) × Val))), (b3, vmO en), (b2, .cells [.nilmap, .nilmap, .nilmap]), (b1, .cells [.nilmap, .nilmap, .nilmap])]) := by
   intro _
   subst hA
   refine AAny.step [] [0, 1, 3, 5] (by decide +kernel) (by simp) (by decide) ⟨?_, ?_, ?_, ?_, trivial⟩
   ·
    show aopsR _ _ _ [_] _ _ _
    refine ar_loadp rfl (v := .agg [.map b3, .map b4, .map b5]) rfl (wth_get 0 hNb6 rfl) rfl (apartOk_agg rfl rfl (Nat.le_of_ble_eq_true rfl)) rfl ?_
    refine AAny.keep [6, 7, 8, 101] (by decide) ?_
    exact s80 trivial
   ·
    show aopsR _ _ _ [_] _ _ _
    refine ⟨⟨rfl, by decide⟩, ?_⟩
    refine AAny.keep [6, 7, 8, 102] (by decide) ?_
    exact s81 trivial
   ·
    show aopsR _ _ _ [_] _ _ _
    refine ⟨⟨rfl, by decide⟩, ?_⟩
    refine AAny.keep [6, 7, 8, 104] (by decide) ?_
    exact s82 trivial
   ·
    show aopsR _ _ _ [_] _ _ _
    refine ⟨⟨rfl, by decide⟩, ?_⟩
    refine AAny.keep [6, 7, 8, 106] (by decide) ?_
    exact s83 trivial
  clear s80 s81 s82 s83
  exact s84 trivial
 intro _
 refine hK1 _ _ ?_; clear hK1 K1
 refine awp_ret ?_
 refine resK_cells (fn := Try.f9) (a := 6) (t := 37) (b := b1) (off := 0) (a2 := 7) (t2 := 41) (b2 := b2) (off2 := 0) rfl rfl (wth_get  (m := m) (L := [(b6, .cells [.map b3, .map b4, .map b5]), (b5, nmO), (b4, vmO ([] : List ((List UInt8) × Val))), (b3, vmO en), (b2, .cells [.map b3, .map b4, .map b5]), (b1, .cells [.map b3, .map b4, .map b5])]) 5 hNb6 rfl) (apartOk_agg rfl rfl (Nat.le_of_ble_eq_true rfl)) rfl (wth_get  (m := m) (L := [(b6, .cells [.map b3, .map b4, .map b5]), (b5, nmO), (b4, vmO ([] : List ((List UInt8) × Val))), (b3, vmO en), (b2, .cells [.map b3, .map b4, .map b5]), (b1, .cells [.map b3, .map b4, .map b5])]) 4 hNb6 rfl) (apartOk_agg rfl rfl (Nat.le_of_ble_eq_true rfl)) (.agg [.map b3, .map b4, .map b5]) (.agg [.map b3, .map b4, .map b5]) rfl rfl (AMem.wth m [(b5, nmO), (b4, vmO ([] : List ((List UInt8) × Val))), (b3, vmO en)]) ((wth_keep (m := m) (L := [(b6, .cells [.map b3, .map b4, .map b5]), (b5, nmO), (b4, vmO ([] : List ((List UInt8) × Val))), (b3, vmO en), (b2, .cells [.map b3, .map b4, .map b5]), (b1, .cells [.map b3, .map b4, .map b5])]) (L1 := [(b5, nmO), (b4, vmO ([] : List ((List UInt8) × Val))), (b3, vmO en)]) (L2 := [(b6, .cells [.map b3, .map b4, .map b5]), (b2, .cells [.map b3, .map b4, .map b5]), (b1, .cells [.map b3, .map b4, .map b5])]) hNb6 (pick_perm [1, 1, 1] _) (by simp only [List.map_cons, List.map_nil, List.forall_mem_cons]; exact ⟨hFb6, hFb2, hFb1, fun _ h => by cases h⟩))) ?_
 show K (.tuple [.agg [.map b3, .map b4, .map b5], .agg [.map b3, .map b4, .map b5]]) (AMem.wth m [(b5, nmO), (b4, vmO ([] : List ((List UInt8) × Val))), (b3, vmO en)])

 have e : en = envOf l := by have := hI.2.2; rwa [take_full (by omega)] at this
 have q : (AMem.wth m [(b5, nmO), (b4, vmO ([] : VMap)), (b3, vmO (envOf l))]) = (AMem.wth m [(b3, vmO (envOf l)), (b4, vmO ([] : VMap)), (b5, nmO)]) := wth_perm (by simp at hNb6 ⊢; omega) (pick_perm [2, 1, 0] _)
 rw [e]
 refine Eq.mpr (congrArg _ q) (hK b3 b4 b5 (by simp at hNb6 ⊢; omega) hFb3 hFb4 hFb5)

end Go.Proofs

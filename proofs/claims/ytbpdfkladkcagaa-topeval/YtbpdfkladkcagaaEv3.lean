import Derived.Test.YtbpdfkladkcagaaProg
import Derived.Test.YtbpdfkladkcagaaWl4
import Derived.Test.YtbpdfkladkcagaaEv2
namespace Go.Proofs
open Go Go.Aw
set_option maxRecDepth 100000

set_option maxHeartbeats 4000000 in
theorem u_Eval1 (e : Exp) (bi br bf : Nat) (en rs : VMap) (r : Val × Int) (hN : [bi, br, bf].Nodup) (ih : ∀ (m : AMem) (K : AV → AMem → Prop), K (.tuple [valTop (r).1, .err 67 (r).2]) (AMem.wth m [(bi, vmO en), (br, vmO rs), (bf, nmO)]) → ACalls Try.prog 16 [expTop e, .agg [.map bi, .map br, .map bf]] (AMem.wth m [(bi, vmO en), (br, vmO rs), (bf, nmO)]) K) (m : AMem)  (K : AV → AMem → Prop) (hK : K (.tuple [valTop (fin r).1, .err 67 (fin r).2]) (AMem.wth m [(bi, vmO en), (br, vmO rs), (bf, nmO)])) : ACalls Try.prog 5 [expTop e, .agg [.map bi, .map br, .map bf]] (AMem.wth m [(bi, vmO en), (br, vmO rs), (bf, nmO)]) K := by
 refine acalls_enter Try.func5 rfl (by decide) (Nat.le_of_ble_eq_true rfl) ?_
 show AWP _ _ _ _ [(0, expTop e), (1, .agg [.map bi, .map br, .map bf])] (AMem.wth m [(bi, vmO en), (br, vmO rs), (bf, nmO)])
 refine awp_reg2_seq [] [2, 3, 4] (by decide) ?_
 intro K1 hK1
 refine ar_box rfl (m := m) (L := [(bi, vmO en), (br, vmO rs), (bf, nmO)]) (v := expTop e) (by rfl) rfl ?_
 intro b1 hb1
 have hFb1 : m b1 = none := wth_none hb1
 have hNb1 : ([b1, bi, br, bf] : List Nat).Nodup := wth_nodup hb1 hN
 refine ar_box rfl (m := m) (L := [(b1, expO e), (bi, vmO en), (br, vmO rs), (bf, nmO)]) (v := .agg [.map bi, .map br, .map bf]) rfl rfl ?_
 intro b2 hb2
 have hFb2 : m b2 = none := wth_none hb2
 have hNb2 : ([b2, b1, bi, br, bf] : List Nat).Nodup := wth_nodup hb2 hNb1
 refine ar_alloc rfl (z := .agg [.int .i64 0, .int .i64 0, .str ([]), .slice true [], .slice true []]) rfl rfl ?_
 intro b3 hb3
 have hFb3 : m b3 = none := wth_none hb3
 have hNb3 : ([b3, b2, b1, bi, br, bf] : List Nat).Nodup := wth_nodup hb3 hNb2
 refine ⟨trivial, ?_⟩
 show K1 [(2, .ptr ⟨b1, 0, none⟩), (3, .ptr ⟨b2, 0, none⟩), (4, .ptr ⟨b3, 0, none⟩)] (AMem.wth m [(b3, zO), (b2, .cells [.map bi, .map br, .map bf]), (b1, expO e), (bi, vmO en), (br, vmO rs), (bf, nmO)])
 refine hK1 _ _ ?_; clear hK1 K1
 refine awp_reg2_seq [] [4, 6, 7] (by decide) ?_
 intro K1 hK1
 refine ar_loadp rfl (v := .agg [.int .i64 e.kind, .int .i64 e.v.kind, .int .i64 e.v.n, .str e.v.s, .slice false (e.v.l.map valIn), .slice false (e.v.f.map fldIn), .str e.s, .str e.t, .slice false (e.a.map expIn), .slice false (e.n.map strAV)]) rfl (wth_get 2 hNb3 rfl) rfl (apartOk_agg rfl rfl (Nat.le_of_ble_eq_true rfl)) rfl ?_
 refine ar_loadp rfl (v := .agg [.map bi, .map br, .map bf]) rfl (wth_get 1 hNb3 rfl) rfl (apartOk_agg rfl rfl (Nat.le_of_ble_eq_true rfl)) rfl ?_
 refine ar_mem (wth_split hNb3 (pick_perm [3, 3, 3] _)) ?_
 refine ih _ _ ?_
 show aopsR _ _ _ _ _ _ (AMem.wth (AMem.wth m [(b3, zO), (b2, .cells [.map bi, .map br, .map bf]), (b1, expO e)]) [(bi, vmO en), (br, vmO rs), (bf, nmO)])
 refine ar_mem (wth_split (m := m) (L := [(b3, zO), (b2, .cells [.map bi, .map br, .map bf]), (b1, expO e), (bi, vmO en), (br, vmO rs), (bf, nmO)]) hNb3 (pick_perm [3, 3, 3] _)).symm ?_
 refine ⟨trivial, (Nat.le_of_ble_eq_true rfl), (Nat.le_of_ble_eq_true rfl), ?_⟩
 refine ar_alloc rfl (z := .agg [.int .i64 0, .int .i64 0, .str ([]), .slice true [], .slice true []]) rfl rfl ?_
 intro b4 hb4
 have hFb4 : m b4 = none := wth_none hb4
 have hNb4 : ([b4, b3, b2, b1, bi, br, bf] : List Nat).Nodup := wth_nodup hb4 hNb3
 refine ar_storep rfl 0 (v := valTop ((r).1)) (l' := [.int .i64 (((r).1).kind), .int .i64 (((r).1).n), .str (((r).1).s), .slice false ((((r).1).l).map valIn), .slice false ((((r).1).f).map fldIn)]) rfl (by rfl) hNb4 rfl rfl rfl rfl rfl (Nat.le_of_ble_eq_true rfl) rfl ?_
 refine ⟨trivial, ?_⟩
 show K1 [(4, .ptr ⟨b3, 0, none⟩), (6, .ptr ⟨b4, 0, none⟩), (7, .err 67 ((r).2))] (AMem.wth m [(b4, valO ((r).1)), (b3, zO), (b2, .cells [.map bi, .map br, .map bf]), (b1, expO e), (bi, vmO en), (br, vmO rs), (bf, nmO)])
 refine hK1 _ _ ?_; clear hK1 K1
 refine awp_seq_k ?_; intro K2 hK2
 refine awp_reg2_seq [] [4, 6, 7, 15] (by decide) ?_
 intro K1 hK1
 refine ⟨trivial, ⟨rfl, rfl⟩, ?_⟩
 show K1 [(4, .ptr ⟨b3, 0, none⟩), (6, .ptr ⟨b4, 0, none⟩), (7, .err 67 ((r).2)), (15, .bool (((r).2) == 0))] (AMem.wth m [(b4, valO ((r).1)), (b3, zO), (b2, .cells [.map bi, .map br, .map bf]), (b1, expO e), (bi, vmO en), (br, vmO rs), (bf, nmO)])
 refine hK1 _ _ ?_; clear hK1 K1
 refine awp_cond rfl rfl (fun h1 => ?_) (fun h1 => ?_)
 ·
  replace h1 : (r).2 = 0 := (eq_of_beq h1)
  refine awp_reg2 [] [4, 6, 7] (by decide) ?_
  intro K1 hK1
  refine ar_loadp rfl (v := .agg [.int .i64 (((r).1).kind), .int .i64 (((r).1).n), .str (((r).1).s), .slice false ((((r).1).l).map valIn), .slice false ((((r).1).f).map fldIn)]) rfl (wth_get 0 hNb4 rfl) rfl (apartOk_agg rfl rfl (Nat.le_of_ble_eq_true rfl)) rfl ?_
  refine u_Check ((r).1) _ _ ?_
  refine ⟨trivial, ?_⟩
  show K1 [(4, .ptr ⟨b3, 0, none⟩), (6, .ptr ⟨b4, 0, none⟩), (7, .err 67 (chk ((r).1)))] (AMem.wth m [(b4, valO ((r).1)), (b3, zO), (b2, .cells [.map bi, .map br, .map bf]), (b1, expO e), (bi, vmO en), (br, vmO rs), (bf, nmO)])
  refine hK1 _ _ ?_; clear hK1 K1
  refine hK2 _ _ ?_; clear hK2
  refine awp_seq_k ?_; intro K3 hK3
  refine awp_reg2_seq [] [4, 6, 7, 19] (by decide) ?_
  intro K1 hK1
  refine ⟨trivial, ⟨rfl, rfl⟩, ?_⟩
  show K1 [(4, .ptr ⟨b3, 0, none⟩), (6, .ptr ⟨b4, 0, none⟩), (7, .err 67 (chk ((r).1))), (19, .bool (!((chk ((r).1)) == 0)))] (AMem.wth m [(b4, valO ((r).1)), (b3, zO), (b2, .cells [.map bi, .map br, .map bf]), (b1, expO e), (bi, vmO en), (br, vmO rs), (bf, nmO)])
  refine hK1 _ _ ?_; clear hK1 K1
  refine awp_cond rfl rfl (fun h2 => ?_) (fun h2 => ?_)
  ·
   replace h2 : chk ((r).1) ≠ 0 := (ne_of_beq_false (bnT h2))
   refine awp_reg2_seq [] [4, 5] (by decide) ?_
   intro K1 hK1
   refine ⟨⟨rfl, by simp only [List.forall_mem_cons]; exact ⟨rfl, rfl, rfl, rfl, rfl, fun _ h => by cases h⟩, fun _ h => by cases h⟩, trivial, ?_⟩
   refine ar_storep rfl 1 (v := .agg [.int .i64 0, .int .i64 0, .str ([]), .slice true [], .slice true []]) (l' := [.int .i64 0, .int .i64 0, .str ([]), .slice true [], .slice true []]) rfl rfl hNb4 rfl rfl rfl rfl rfl (Nat.le_of_ble_eq_true rfl) rfl ?_
   refine ⟨trivial, ?_⟩
   show K1 [(4, .ptr ⟨b3, 0, none⟩), (5, .err 67 (chk ((r).1)))] (AMem.wth m [(b4, valO ((r).1)), (b3, zO), (b2, .cells [.map bi, .map br, .map bf]), (b1, expO e), (bi, vmO en), (br, vmO rs), (bf, nmO)])
   refine hK1 _ _ ?_; clear hK1 K1
   refine awp_ret ?_
   refine resK_cell2 (fn := Try.f5) (a := 4) (t := 25) (s := 5) (b := b3) (off := 0) rfl rfl (wth_get  (m := m) (L := [(b4, valO ((r).1)), (b3, zO), (b2, .cells [.map bi, .map br, .map bf]), (b1, expO e), (bi, vmO en), (br, vmO rs), (bf, nmO)]) 1 hNb4 rfl) (apartOk_agg rfl rfl (Nat.le_of_ble_eq_true rfl)) (.agg [.int .i64 0, .int .i64 0, .str ([]), .slice false [], .slice false []]) (.err 67 (chk ((r).1))) rfl rfl (.err 67 (chk ((r).1))) rfl (AMem.wth m [(bi, vmO en), (br, vmO rs), (bf, nmO)]) ((wth_sub2 (m := m) [(b4, valO ((r).1)), (b3, zO), (b2, .cells [.map bi, .map br, .map bf]), (b1, expO e)] [(bi, vmO en), (br, vmO rs), (bf, nmO)] hNb4 (by simp only [List.map_cons, List.map_nil, List.forall_mem_cons]; exact ⟨hFb4, hFb3, hFb2, hFb1, fun _ h => by cases h⟩))) ?_
   show K (.tuple [.agg [.int .i64 0, .int .i64 0, .str ([]), .slice false [], .slice false []], .err 67 (chk ((r).1))]) (AMem.wth m [(bi, vmO en), (br, vmO rs), (bf, nmO)])
  
   have e0 : fin r = (((⟨0, 0, [], [], []⟩ : Val), chk ((r).1)) : Val × Int) := by
    first | omega | (rw [fin, if_pos (by assumption), if_pos (by assumption)]; done) | (rw [fin, if_pos (by assumption), if_neg (by assumption)]; rfl) | (rw [fin, if_neg (by assumption)]; rfl)
   rw [e0] at hK
   exact hK
  replace h2 : chk ((r).1) = 0 := (eq_of_beq (bnF h2))
  refine awp_skip ?_
  refine hK3 _ _ ?_; clear hK3
  refine awp_reg2_seq [] [4, 5] (by decide) ?_
  intro K1 hK1
  refine ar_loadp rfl (v := .agg [.int .i64 (((r).1).kind), .int .i64 (((r).1).n), .str (((r).1).s), .slice false ((((r).1).l).map valIn), .slice false ((((r).1).f).map fldIn)]) rfl (wth_get 0 hNb4 rfl) rfl (apartOk_agg rfl rfl (Nat.le_of_ble_eq_true rfl)) rfl ?_
  refine ar_storep rfl 1 (v := .agg [.int .i64 (((r).1).kind), .int .i64 (((r).1).n), .str (((r).1).s), .slice false ((((r).1).l).map valIn), .slice false ((((r).1).f).map fldIn)]) (l' := [.int .i64 (((r).1).kind), .int .i64 (((r).1).n), .str (((r).1).s), .slice false ((((r).1).l).map valIn), .slice false ((((r).1).f).map fldIn)]) rfl rfl hNb4 rfl rfl rfl rfl rfl (Nat.le_of_ble_eq_true rfl) rfl ?_
  refine ⟨trivial, ?_⟩
  show K1 [(4, .ptr ⟨b3, 0, none⟩), (5, .nilIface)] (AMem.wth m [(b4, valO ((r).1)), (b3, valO ((r).1)), (b2, .cells [.map bi, .map br, .map bf]), (b1, expO e), (bi, vmO en), (br, vmO rs), (bf, nmO)])
  refine hK1 _ _ ?_; clear hK1 K1
  refine awp_toErr 67 [5] ?_
  show AWP _ _ _ _ [(4, .ptr ⟨b3, 0, none⟩), (5, .err 67 0)] (AMem.wth m [(b4, valO ((r).1)), (b3, valO ((r).1)), (b2, .cells [.map bi, .map br, .map bf]), (b1, expO e), (bi, vmO en), (br, vmO rs), (bf, nmO)])
  refine awp_ret ?_
  refine resK_cell2 (fn := Try.f5) (a := 4) (t := 25) (s := 5) (b := b3) (off := 0) rfl rfl (wth_get  (m := m) (L := [(b4, valO ((r).1)), (b3, valO ((r).1)), (b2, .cells [.map bi, .map br, .map bf]), (b1, expO e), (bi, vmO en), (br, vmO rs), (bf, nmO)]) 1 hNb4 rfl) (apartOk_agg rfl rfl (Nat.le_of_ble_eq_true rfl)) (.agg [.int .i64 (((r).1).kind), .int .i64 (((r).1).n), .str (((r).1).s), .slice false ((((r).1).l).map valIn), .slice false ((((r).1).f).map fldIn)]) (.err 67 0) rfl rfl (.err 67 0) rfl (AMem.wth m [(bi, vmO en), (br, vmO rs), (bf, nmO)]) ((wth_sub2 (m := m) [(b4, valO ((r).1)), (b3, valO ((r).1)), (b2, .cells [.map bi, .map br, .map bf]), (b1, expO e)] [(bi, vmO en), (br, vmO rs), (bf, nmO)] hNb4 (by simp only [List.map_cons, List.map_nil, List.forall_mem_cons]; exact ⟨hFb4, hFb3, hFb2, hFb1, fun _ h => by cases h⟩))) ?_
  show K (.tuple [.agg [.int .i64 (((r).1).kind), .int .i64 (((r).1).n), .str (((r).1).s), .slice false ((((r).1).l).map valIn), .slice false ((((r).1).f).map fldIn)], .err 67 0]) (AMem.wth m [(bi, vmO en), (br, vmO rs), (bf, nmO)])
 
  have e0 : fin r = ((((r).1), 0) : Val × Int) := by
   first | omega | (rw [fin, if_pos (by assumption), if_pos (by assumption)]; done) | (rw [fin, if_pos (by assumption), if_neg (by assumption)]; rfl) | (rw [fin, if_neg (by assumption)]; rfl)
  rw [e0] at hK
  exact hK
 replace h1 : (r).2 ≠ 0 := (ne_of_beq_false h1)
 refine awp_skip ?_
 refine hK2 _ _ ?_; clear hK2
 refine awp_seq_k ?_; intro K4 hK4
 refine awp_reg2_seq [] [4, 6, 7, 19] (by decide) ?_
 intro K1 hK1
 refine ⟨trivial, ⟨rfl, rfl⟩, ?_⟩
 show K1 [(4, .ptr ⟨b3, 0, none⟩), (6, .ptr ⟨b4, 0, none⟩), (7, .err 67 ((r).2)), (19, .bool (!(((r).2) == 0)))] (AMem.wth m [(b4, valO ((r).1)), (b3, zO), (b2, .cells [.map bi, .map br, .map bf]), (b1, expO e), (bi, vmO en), (br, vmO rs), (bf, nmO)])
 refine hK1 _ _ ?_; clear hK1 K1
 refine awp_cond rfl rfl (fun h3 => ?_) (fun h3 => ?_)
 ·
  replace h3 : (r).2 ≠ 0 := (ne_of_beq_false (bnT h3))
  refine awp_reg2_seq [] [4, 5] (by decide) ?_
  intro K1 hK1
  refine ⟨⟨rfl, by simp only [List.forall_mem_cons]; exact ⟨rfl, rfl, rfl, rfl, rfl, fun _ h => by cases h⟩, fun _ h => by cases h⟩, trivial, ?_⟩
  refine ar_storep rfl 1 (v := .agg [.int .i64 0, .int .i64 0, .str ([]), .slice true [], .slice true []]) (l' := [.int .i64 0, .int .i64 0, .str ([]), .slice true [], .slice true []]) rfl rfl hNb4 rfl rfl rfl rfl rfl (Nat.le_of_ble_eq_true rfl) rfl ?_
  refine ⟨trivial, ?_⟩
  show K1 [(4, .ptr ⟨b3, 0, none⟩), (5, .err 67 ((r).2))] (AMem.wth m [(b4, valO ((r).1)), (b3, zO), (b2, .cells [.map bi, .map br, .map bf]), (b1, expO e), (bi, vmO en), (br, vmO rs), (bf, nmO)])
  refine hK1 _ _ ?_; clear hK1 K1
  refine awp_ret ?_
  refine resK_cell2 (fn := Try.f5) (a := 4) (t := 25) (s := 5) (b := b3) (off := 0) rfl rfl (wth_get  (m := m) (L := [(b4, valO ((r).1)), (b3, zO), (b2, .cells [.map bi, .map br, .map bf]), (b1, expO e), (bi, vmO en), (br, vmO rs), (bf, nmO)]) 1 hNb4 rfl) (apartOk_agg rfl rfl (Nat.le_of_ble_eq_true rfl)) (.agg [.int .i64 0, .int .i64 0, .str ([]), .slice false [], .slice false []]) (.err 67 ((r).2)) rfl rfl (.err 67 ((r).2)) rfl (AMem.wth m [(bi, vmO en), (br, vmO rs), (bf, nmO)]) ((wth_sub2 (m := m) [(b4, valO ((r).1)), (b3, zO), (b2, .cells [.map bi, .map br, .map bf]), (b1, expO e)] [(bi, vmO en), (br, vmO rs), (bf, nmO)] hNb4 (by simp only [List.map_cons, List.map_nil, List.forall_mem_cons]; exact ⟨hFb4, hFb3, hFb2, hFb1, fun _ h => by cases h⟩))) ?_
  show K (.tuple [.agg [.int .i64 0, .int .i64 0, .str ([]), .slice false [], .slice false []], .err 67 ((r).2)]) (AMem.wth m [(bi, vmO en), (br, vmO rs), (bf, nmO)])
 
  have e0 : fin r = (((⟨0, 0, [], [], []⟩ : Val), (r).2) : Val × Int) := by
   first | omega | (rw [fin, if_pos (by assumption), if_pos (by assumption)]; done) | (rw [fin, if_pos (by assumption), if_neg (by assumption)]; rfl) | (rw [fin, if_neg (by assumption)]; rfl)
  rw [e0] at hK
  exact hK
 replace h3 : (r).2 = 0 := (eq_of_beq (bnF h3))
 refine awp_skip ?_
 refine hK4 _ _ ?_; clear hK4
 refine awp_reg2_seq [] [4, 5] (by decide) ?_
 intro K1 hK1
 refine ar_loadp rfl (v := .agg [.int .i64 (((r).1).kind), .int .i64 (((r).1).n), .str (((r).1).s), .slice false ((((r).1).l).map valIn), .slice false ((((r).1).f).map fldIn)]) rfl (wth_get 0 hNb4 rfl) rfl (apartOk_agg rfl rfl (Nat.le_of_ble_eq_true rfl)) rfl ?_
 refine ar_storep rfl 1 (v := .agg [.int .i64 (((r).1).kind), .int .i64 (((r).1).n), .str (((r).1).s), .slice false ((((r).1).l).map valIn), .slice false ((((r).1).f).map fldIn)]) (l' := [.int .i64 (((r).1).kind), .int .i64 (((r).1).n), .str (((r).1).s), .slice false ((((r).1).l).map valIn), .slice false ((((r).1).f).map fldIn)]) rfl rfl hNb4 rfl rfl rfl rfl rfl (Nat.le_of_ble_eq_true rfl) rfl ?_
 refine ⟨trivial, ?_⟩
 show K1 [(4, .ptr ⟨b3, 0, none⟩), (5, .nilIface)] (AMem.wth m [(b4, valO ((r).1)), (b3, valO ((r).1)), (b2, .cells [.map bi, .map br, .map bf]), (b1, expO e), (bi, vmO en), (br, vmO rs), (bf, nmO)])
 refine hK1 _ _ ?_; clear hK1 K1
 refine awp_toErr 67 [5] ?_
 show AWP _ _ _ _ [(4, .ptr ⟨b3, 0, none⟩), (5, .err 67 0)] (AMem.wth m [(b4, valO ((r).1)), (b3, valO ((r).1)), (b2, .cells [.map bi, .map br, .map bf]), (b1, expO e), (bi, vmO en), (br, vmO rs), (bf, nmO)])
 refine awp_ret ?_
 refine resK_cell2 (fn := Try.f5) (a := 4) (t := 25) (s := 5) (b := b3) (off := 0) rfl rfl (wth_get  (m := m) (L := [(b4, valO ((r).1)), (b3, valO ((r).1)), (b2, .cells [.map bi, .map br, .map bf]), (b1, expO e), (bi, vmO en), (br, vmO rs), (bf, nmO)]) 1 hNb4 rfl) (apartOk_agg rfl rfl (Nat.le_of_ble_eq_true rfl)) (.agg [.int .i64 (((r).1).kind), .int .i64 (((r).1).n), .str (((r).1).s), .slice false ((((r).1).l).map valIn), .slice false ((((r).1).f).map fldIn)]) (.err 67 0) rfl rfl (.err 67 0) rfl (AMem.wth m [(bi, vmO en), (br, vmO rs), (bf, nmO)]) ((wth_sub2 (m := m) [(b4, valO ((r).1)), (b3, valO ((r).1)), (b2, .cells [.map bi, .map br, .map bf]), (b1, expO e)] [(bi, vmO en), (br, vmO rs), (bf, nmO)] hNb4 (by simp only [List.map_cons, List.map_nil, List.forall_mem_cons]; exact ⟨hFb4, hFb3, hFb2, hFb1, fun _ h => by cases h⟩))) ?_
 show K (.tuple [.agg [.int .i64 (((r).1).kind), .int .i64 (((r).1).n), .str (((r).1).s), .slice false ((((r).1).l).map valIn), .slice false ((((r).1).f).map fldIn)], .err 67 0]) (AMem.wth m [(bi, vmO en), (br, vmO rs), (bf, nmO)])

 have e0 : fin r = ((((r).1), 0) : Val × Int) := by
  first | omega | (rw [fin, if_pos (by assumption), if_pos (by assumption)]; done) | (rw [fin, if_pos (by assumption), if_neg (by assumption)]; rfl) | (rw [fin, if_neg (by assumption)]; rfl)
 rw [e0] at hK
 exact hK

set_option maxHeartbeats 4000000 in
theorem u_all (k : Nat) (l : List Exp) (bi br bf : Nat) (en rs : VMap) (hN : [bi, br, bf].Nodup) (hln : l.length ≤ 837723144972) (ih : ∀ x ∈ l, ∀ (m : AMem) (K : AV → AMem → Prop), K (.tuple [valTop (evF en rs k x).1, .err 67 (evF en rs k x).2]) (AMem.wth m [(bi, vmO en), (br, vmO rs), (bf, nmO)]) → ACalls Try.prog 16 [expTop x, .agg [.map bi, .map br, .map bf]] (AMem.wth m [(bi, vmO en), (br, vmO rs), (bf, nmO)]) K) (m : AMem)  (K : AV → AMem → Prop) (hK : K (.tuple [.slice false ((allL (gE en rs k) l).map valIn), .err 67 (allE (gE en rs k) l)]) (AMem.wth m [(bi, vmO en), (br, vmO rs), (bf, nmO)])) : ACalls Try.prog 24 [.slice false (l.map expIn), .agg [.map bi, .map br, .map bf]] (AMem.wth m [(bi, vmO en), (br, vmO rs), (bf, nmO)]) K := by
 refine acalls_enter Try.func24 rfl (by decide) (Nat.le_of_ble_eq_true rfl) ?_
 refine awp_bd 0 (x := .slice false (l.map expIn)) rfl (fun hbd0 => ?_)
 have hbd0_0 : l.length ≤ 140737488355328 := bd_map (o := false) hbd0
 show AWP _ _ _ _ [(0, .slice false (l.map expIn)), (1, .agg [.map bi, .map br, .map bf])] (AMem.wth m [(bi, vmO en), (br, vmO rs), (bf, nmO)])
 refine awp_reg2_seq [] [0, 3] (by decide) ?_
 intro K1 hK1
 refine ar_box rfl (m := m) (L := [(bi, vmO en), (br, vmO rs), (bf, nmO)]) (v := .agg [.map bi, .map br, .map bf]) rfl rfl ?_
 intro b1 hb1
 have hFb1 : m b1 = none := wth_none hb1
 have hNb1 : ([b1, bi, br, bf] : List Nat).Nodup := wth_nodup hb1 hN
 refine ⟨trivial, trivial, ?_⟩
 show K1 [(0, .slice false (l.map expIn)), (3, .ptr ⟨b1, 0, none⟩)] (AMem.wth m [(b1, .cells [.map bi, .map br, .map bf]), (bi, vmO en), (br, vmO rs), (bf, nmO)])
 refine hK1 _ _ ?_; clear hK1 K1
 refine awp_reg2_seq [] [0, 3, 6] (by decide) ?_
 intro K1 hK1
 refine ⟨trivial, ?_⟩
 show K1 [(0, .slice false (l.map expIn)), (3, .ptr ⟨b1, 0, none⟩), (6, .slice true [])] (AMem.wth m [(b1, .cells [.map bi, .map br, .map bf]), (bi, vmO en), (br, vmO rs), (bf, nmO)])
 refine hK1 _ _ ?_; clear hK1 K1
 refine awp_seq_k ?_; intro K2 hK2
 refine awp_reg2_seq [] [3, 6, 11, 12, 13] (by decide) ?_
 intro K1 hK1
 refine ⟨trivial, ?_⟩
 refine ar_len rfl expIn l rfl rfl rfl ?_
 refine ⟨trivial, ?_⟩
 show K1 [(3, .ptr ⟨b1, 0, none⟩), (6, .slice true []), (11, .slice false (l.map expIn)), (12, .int .i64 (l.length : Int)), (13, .int .i64 0)] (AMem.wth m [(b1, .cells [.map bi, .map br, .map bf]), (bi, vmO en), (br, vmO rs), (bf, nmO)])
 refine hK1 _ _ ?_; clear hK1 K1
 refine awp_block ?_
 refine awp_keep [3, 6, 11, 12, 13] (by decide) ?_
 refine awp_loop_st (σ := (List Val) × Int) (fun ⟨out, i⟩ => [(3, .ptr ⟨b1, 0, none⟩), (6, .slice true (out.map valIn)), (11, .slice false (l.map expIn)), (12, .int .i64 (l.length : Int)), (13, .int .i64 i)]) (fun _ => (AMem.wth m [(b1, .cells [.map bi, .map br, .map bf]), (bi, vmO en), (br, vmO rs), (bf, nmO)])) (fun ⟨out, i⟩ => 0 ≤ i ∧ i ≤ l.length ∧ allE (gE en rs k) l = allE (gE en rs k) (l.drop i.toNat) ∧ out = (l.take i.toNat).map (fun x => (gE en rs k x).1)) (fun ⟨out, i⟩ => l.length - i.toNat) ([], 0) rfl rfl ?_ ?_
 ·
  show 0 ≤ ((0 : Int)) ∧ ((0 : Int)) ≤ l.length ∧ allE (gE en rs k) l = allE (gE en rs k) (l.drop ((0 : Int)).toNat) ∧ (([] : (List Val))) = (l.take ((0 : Int)).toNat).map (fun x => (gE en rs k x).1)
  exact ⟨by omega, by omega, rfl, rfl⟩
 rintro ⟨out, i⟩ hI
 replace hI : 0 ≤ i ∧ i ≤ l.length ∧ allE (gE en rs k) l = allE (gE en rs k) (l.drop i.toNat) ∧ out = (l.take i.toNat).map (fun x => (gE en rs k x).1) := hI
 have hol : (out.length : Int) ≤ i := by rw [hI.2.2.2, List.length_map, List.length_take]; omega
 show AWP _ _ _ _ [(3, .ptr ⟨b1, 0, none⟩), (6, .slice true (out.map valIn)), (11, .slice false (l.map expIn)), (12, .int .i64 (l.length : Int)), (13, .int .i64 i)] (AMem.wth m [(b1, .cells [.map bi, .map br, .map bf]), (bi, vmO en), (br, vmO rs), (bf, nmO)])
 refine awp_reg2_seq [] [3, 6, 11, 12, 13, 14] (by decide) ?_
 intro K1 hK1
 refine ⟨trivial, ?_⟩
 show K1 [(3, .ptr ⟨b1, 0, none⟩), (6, .slice true (out.map valIn)), (11, .slice false (l.map expIn)), (12, .int .i64 (l.length : Int)), (13, .int .i64 i), (14, .bool (decide (i < (l.length : Int))))] (AMem.wth m [(b1, .cells [.map bi, .map br, .map bf]), (bi, vmO en), (br, vmO rs), (bf, nmO)])
 refine hK1 _ _ ?_; clear hK1 K1
 refine awp_seq_k ?_; intro K3 hK3
 refine awp_cond rfl rfl (fun h1 => ?_) (fun h1 => ?_)
 ·
  replace h1 : i < (l.length : Int) := (of_decide_eq_true h1)
  refine awp_skip ?_
  refine hK3 _ _ ?_; clear hK3
  refine awp_seq_k ?_; intro K4 hK4
  refine awp_block ?_
  refine awp_reg2_seq [] [3, 6, 8, 11, 12, 13] (by decide) ?_
  intro K1 hK1
  refine ar_index rfl expTop l i rfl rfl (expMap l) rfl rfl (by decide) (fun _ => rfl) (by omega) (by omega) ?_
  refine ⟨(apartOk_agg rfl rfl (Nat.le_of_ble_eq_true rfl)), ?_⟩
  refine ar_alloc rfl (z := .agg [.int .i64 0, .int .i64 0, .int .i64 0, .str ([]), .slice true [], .slice true [], .str ([]), .str ([]), .slice true [], .slice true []]) rfl rfl ?_
  intro b2 hb2
  have hFb2 : m b2 = none := wth_none hb2
  have hNb2 : ([b2, b1, bi, br, bf] : List Nat).Nodup := wth_nodup hb2 hNb1
  refine ar_storep rfl 0 (v := expTop (gI l i)) (l' := [.int .i64 ((gI l i).kind), .int .i64 (((gI l i).v).kind), .int .i64 (((gI l i).v).n), .str (((gI l i).v).s), .slice false ((((gI l i).v).l).map valIn), .slice false ((((gI l i).v).f).map fldIn), .str ((gI l i).s), .str ((gI l i).t), .slice false (((gI l i).a).map expIn), .slice false (((gI l i).n).map strAV)]) rfl (by rfl) hNb2 rfl rfl rfl rfl rfl (Nat.le_of_ble_eq_true rfl) rfl ?_
  show K1 [(3, .ptr ⟨b1, 0, none⟩), (6, .slice true (out.map valIn)), (8, .ptr ⟨b2, 0, none⟩), (11, .slice false (l.map expIn)), (12, .int .i64 (l.length : Int)), (13, .int .i64 i)] (AMem.wth m [(b2, expO (gI l i)), (b1, .cells [.map bi, .map br, .map bf]), (bi, vmO en), (br, vmO rs), (bf, nmO)])
  refine hK1 _ _ ?_; clear hK1 K1
  refine awp_reg2_seq [] [3, 6, 9, 10, 11, 12, 13] (by decide) ?_
  intro K1 hK1
  refine ar_loadp rfl (v := .agg [.int .i64 ((gI l i).kind), .int .i64 (((gI l i).v).kind), .int .i64 (((gI l i).v).n), .str (((gI l i).v).s), .slice false ((((gI l i).v).l).map valIn), .slice false ((((gI l i).v).f).map fldIn), .str ((gI l i).s), .str ((gI l i).t), .slice false (((gI l i).a).map expIn), .slice false (((gI l i).n).map strAV)]) rfl (wth_get 0 hNb2 rfl) rfl (apartOk_agg rfl rfl (Nat.le_of_ble_eq_true rfl)) rfl ?_
  refine ar_loadp rfl (v := .agg [.map bi, .map br, .map bf]) rfl (wth_get 1 hNb2 rfl) rfl (apartOk_agg rfl rfl (Nat.le_of_ble_eq_true rfl)) rfl ?_
  refine ar_mem (wth_split hNb2 (pick_perm [2, 2, 2] _)) ?_
  refine u_Eval1 (gI l i) bi br bf en rs (evF en rs k (gI l i)) hN (ih _ (gI_mem hI.1 h1)) _ _ ?_
  show aopsR _ _ _ _ _ _ (AMem.wth (AMem.wth m [(b2, expO (gI l i)), (b1, .cells [.map bi, .map br, .map bf])]) [(bi, vmO en), (br, vmO rs), (bf, nmO)])
  refine ar_mem (wth_split (m := m) (L := [(b2, expO (gI l i)), (b1, .cells [.map bi, .map br, .map bf]), (bi, vmO en), (br, vmO rs), (bf, nmO)]) hNb2 (pick_perm [2, 2, 2] _)).symm ?_
  refine ⟨trivial, (Nat.le_of_ble_eq_true rfl), (Nat.le_of_ble_eq_true rfl), ?_⟩
  refine ar_alloc rfl (z := .agg [.int .i64 0, .int .i64 0, .str ([]), .slice true [], .slice true []]) rfl rfl ?_
  intro b3 hb3
  have hFb3 : m b3 = none := wth_none hb3
  have hNb3 : ([b3, b2, b1, bi, br, bf] : List Nat).Nodup := wth_nodup hb3 hNb2
  refine ar_storep rfl 0 (v := valTop ((gE en rs k (gI l i)).1)) (l' := [.int .i64 (((gE en rs k (gI l i)).1).kind), .int .i64 (((gE en rs k (gI l i)).1).n), .str (((gE en rs k (gI l i)).1).s), .slice false ((((gE en rs k (gI l i)).1).l).map valIn), .slice false ((((gE en rs k (gI l i)).1).f).map fldIn)]) rfl (by rfl) hNb3 rfl rfl rfl rfl rfl (Nat.le_of_ble_eq_true rfl) rfl ?_
  refine ⟨trivial, ?_⟩
  show K1 [(3, .ptr ⟨b1, 0, none⟩), (6, .slice true (out.map valIn)), (9, .ptr ⟨b3, 0, none⟩), (10, .err 67 ((gE en rs k (gI l i)).2)), (11, .slice false (l.map expIn)), (12, .int .i64 (l.length : Int)), (13, .int .i64 i)] (AMem.wth m [(b3, valO ((gE en rs k (gI l i)).1)), (b2, expO (gI l i)), (b1, .cells [.map bi, .map br, .map bf]), (bi, vmO en), (br, vmO rs), (bf, nmO)])
  refine hK1 _ _ ?_; clear hK1 K1
  refine awp_seq_k ?_; intro K5 hK5
  refine awp_reg2_seq [] [3, 6, 9, 10, 11, 12, 13, 24] (by decide) ?_
  intro K1 hK1
  refine ⟨trivial, ⟨rfl, rfl⟩, ?_⟩
  show K1 [(3, .ptr ⟨b1, 0, none⟩), (6, .slice true (out.map valIn)), (9, .ptr ⟨b3, 0, none⟩), (10, .err 67 ((gE en rs k (gI l i)).2)), (11, .slice false (l.map expIn)), (12, .int .i64 (l.length : Int)), (13, .int .i64 i), (24, .bool (!(((gE en rs k (gI l i)).2) == 0)))] (AMem.wth m [(b3, valO ((gE en rs k (gI l i)).1)), (b2, expO (gI l i)), (b1, .cells [.map bi, .map br, .map bf]), (bi, vmO en), (br, vmO rs), (bf, nmO)])
  refine hK1 _ _ ?_; clear hK1 K1
  refine awp_cond rfl rfl (fun h2 => ?_) (fun h2 => ?_)
  ·
   replace h2 : (gE en rs k (gI l i)).2 ≠ 0 := (ne_of_beq_false (bnT h2))
   refine awp_reg2_seq [] [4, 5] (by decide) ?_
   intro K1 hK1
   refine ⟨trivial, trivial, trivial, ?_⟩
   show K1 [(4, .slice true []), (5, .err 67 ((gE en rs k (gI l i)).2))] (AMem.wth m [(b3, valO ((gE en rs k (gI l i)).1)), (b2, expO (gI l i)), (b1, .cells [.map bi, .map br, .map bf]), (bi, vmO en), (br, vmO rs), (bf, nmO)])
   refine hK1 _ _ ?_; clear hK1 K1
   refine awp_strip 4 rfl ?_
   refine awp_keep [4, 5] (by decide) ?_
   show AWP _ _ _ _ [(4, .slice false []), (5, .err 67 ((gE en rs k (gI l i)).2))] (AMem.wth m [(b3, valO ((gE en rs k (gI l i)).1)), (b2, expO (gI l i)), (b1, .cells [.map bi, .map br, .map bf]), (bi, vmO en), (br, vmO rs), (bf, nmO)])
   refine awp_ret ?_
   refine ⟨trivial, trivial, (AMem.wth m [(bi, vmO en), (br, vmO rs), (bf, nmO)]), (wth_sub2 (m := m) [(b3, valO ((gE en rs k (gI l i)).1)), (b2, expO (gI l i)), (b1, .cells [.map bi, .map br, .map bf])] [(bi, vmO en), (br, vmO rs), (bf, nmO)] hNb3 (by simp only [List.map_cons, List.map_nil, List.forall_mem_cons]; exact ⟨hFb3, hFb2, hFb1, fun _ h => by cases h⟩)), ?_⟩
   show K (.tuple [.slice false [], .err 67 ((gE en rs k (gI l i)).2)]) (AMem.wth m [(bi, vmO en), (br, vmO rs), (bf, nmO)])
  
   have q : allE (gE en rs k) l = (gE en rs k (gI l i)).2 := by rw [hI.2.2.1, allE_drop hI.1 h1, if_neg h2]
   have q2 : allL (gE en rs k) l = [] := by rw [allL, if_neg (by rw [q]; exact h2)]
   rw [q2, q] at hK; exact hK
  replace h2 : (gE en rs k (gI l i)).2 = 0 := (eq_of_beq (bnF h2))
  refine awp_skip ?_
  refine hK5 _ _ ?_; clear hK5
  refine awp_reg2 [26] [3, 6, 11, 12, 13] (by decide) ?_
  intro K1 hK1
  refine ⟨trivial, ?_⟩
  refine ar_loadp rfl (v := .agg [.int .i64 (((gE en rs k (gI l i)).1).kind), .int .i64 (((gE en rs k (gI l i)).1).n), .str (((gE en rs k (gI l i)).1).s), .slice false ((((gE en rs k (gI l i)).1).l).map valIn), .slice false ((((gE en rs k (gI l i)).1).f).map fldIn)]) rfl (wth_get 0 hNb3 rfl) rfl (apartOk_agg rfl rfl (Nat.le_of_ble_eq_true rfl)) rfl ?_
  refine ⟨⟨rfl, Nat.le_of_ble_eq_true rfl, rfl, Nat.le_of_ble_eq_true rfl, rfl, by simp only [List.forall_mem_cons]; exact ⟨⟨rfl, rfl⟩, fun _ h => by cases h⟩⟩, ?_⟩
  refine ar_append rfl valIn out ([((gE en rs k (gI l i)).1)] : List Val) rfl rfl rfl rfl (by simp only [List.map_cons, List.map_nil, valIn_eq]; try rfl) rfl (Nat.le_of_ble_eq_true rfl) rfl (by (simp only [show Try.prog.bytesOf 25 = 80 from rfl, List.length_append, List.length_cons, List.length_nil]; omega)) (by (first | omega | (simp only [List.length_append, List.length_cons, List.length_nil]; omega))) (fun a => by rw [valIn_eq]; exact ⟨rfl, rfl⟩) ?_
  refine ⟨trivial, ?_⟩
  show K1 [(3, .ptr ⟨b1, 0, none⟩), (6, .slice true ((out ++ ([((gE en rs k (gI l i)).1)] : List Val)).map valIn)), (11, .slice false (l.map expIn)), (12, .int .i64 (l.length : Int)), (13, .int .i64 i)] (AMem.wth m [(b3, valO ((gE en rs k (gI l i)).1)), (b2, expO (gI l i)), (b1, .cells [.map bi, .map br, .map bf]), (bi, vmO en), (br, vmO rs), (bf, nmO)])
  refine hK1 _ _ ?_; clear hK1 K1
  refine hK4 _ _ ?_; clear hK4
  have hNd1 : ([b1, bi, br, bf] : List Nat).Nodup := drop_nodup (L := [(b3, valO ((gE en rs k (gI l i)).1)), (b2, expO (gI l i)), (b1, .cells [.map bi, .map br, .map bf]), (bi, vmO en), (br, vmO rs), (bf, nmO)]) hNb3 (pick_perm [0, 0] _)
  refine awp_dropP [(b3, valO ((gE en rs k (gI l i)).1)), (b2, expO (gI l i))] [(b1, .cells [.map bi, .map br, .map bf]), (bi, vmO en), (br, vmO rs), (bf, nmO)] hNb3 (pick_perm [0, 0] _) (by simp only [List.map_cons, List.map_nil, List.forall_mem_cons]; exact ⟨hFb3, hFb2, fun _ h => by cases h⟩) ?_
  refine awp_reg2 [] [3, 6, 11, 12, 13] (by decide) ?_
  intro K1 hK1
  refine ar_add rfl (a := i) (b := 1) rfl rfl (by omega) (by omega) ?_
  refine ⟨trivial, ?_⟩
  show K1 [(3, .ptr ⟨b1, 0, none⟩), (6, .slice true ((out ++ ([((gE en rs k (gI l i)).1)] : List Val)).map valIn)), (11, .slice false (l.map expIn)), (12, .int .i64 (l.length : Int)), (13, .int .i64 (i + 1))] (AMem.wth m [(b1, .cells [.map bi, .map br, .map bf]), (bi, vmO en), (br, vmO rs), (bf, nmO)])
  refine hK1 _ _ ?_; clear hK1 K1
  refine ⟨(out ++ ([((gE en rs k (gI l i)).1)] : List Val), i + 1), rfl, rfl, ?_, ?_⟩
  ·
   show 0 ≤ ((i + 1 : Int)) ∧ ((i + 1 : Int)) ≤ l.length ∧ allE (gE en rs k) l = allE (gE en rs k) (l.drop ((i + 1 : Int)).toNat) ∧ ((out ++ ([((gE en rs k (gI l i)).1)] : List Val) : (List Val))) = (l.take ((i + 1 : Int)).toNat).map (fun x => (gE en rs k x).1)
   exact ⟨by omega, by omega, by rw [hI.2.2.1, allE_drop hI.1 h1, if_pos h2], by rw [take_succ_gI hI.1 h1, List.map_append, ← hI.2.2.2]; rfl⟩
  ·
   show l.length - ((i + 1 : Int)).toNat < l.length - i.toNat
   omega
 replace h1 : (l.length : Int) ≤ i := (Int.not_lt.1 (of_decide_eq_false h1))
 refine awp_exit ?_
 refine hK2 _ _ ?_; clear hK2
 refine awp_reg2_seq [] [4, 5] (by decide) ?_
 intro K1 hK1
 refine ⟨trivial, trivial, trivial, ?_⟩
 show K1 [(4, .slice false (out.map valIn)), (5, .nilIface)] (AMem.wth m [(b1, .cells [.map bi, .map br, .map bf]), (bi, vmO en), (br, vmO rs), (bf, nmO)])
 refine hK1 _ _ ?_; clear hK1 K1
 refine awp_toErr 67 [5] ?_
 show AWP _ _ _ _ [(4, .slice false (out.map valIn)), (5, .err 67 0)] (AMem.wth m [(b1, .cells [.map bi, .map br, .map bf]), (bi, vmO en), (br, vmO rs), (bf, nmO)])
 refine awp_ret ?_
 refine ⟨trivial, trivial, (AMem.wth m [(bi, vmO en), (br, vmO rs), (bf, nmO)]), (wth_sub2 (m := m) [(b1, .cells [.map bi, .map br, .map bf])] [(bi, vmO en), (br, vmO rs), (bf, nmO)] hNb1 (by simp only [List.map_cons, List.map_nil, List.forall_mem_cons]; exact ⟨hFb1, fun _ h => by cases h⟩)), ?_⟩
 show K (.tuple [.slice false (out.map valIn), .err 67 0]) (AMem.wth m [(bi, vmO en), (br, vmO rs), (bf, nmO)])

 have q : allE (gE en rs k) l = 0 := by rw [hI.2.2.1, List.drop_eq_nil_of_le (by omega)]; rfl
 have q2 : allL (gE en rs k) l = out := by rw [allL, if_pos q, hI.2.2.2, take_full (by omega)]
 rw [q2, q] at hK; exact hK

set_option maxHeartbeats 8000000 in
theorem u_eval1 (k : Nat) (e : Exp) (bi br bf : Nat) (en rs : VMap) (hN : [bi, br, bf].Nodup) (hen : ∀ p ∈ en, okV p.2) (hrs : ∀ p ∈ rs, okV p.2) (hok : okE e) (ih : ∀ x : Exp, depE x < k → okE x → ∀ (m : AMem) (K : AV → AMem → Prop), K (.tuple [valTop (evF en rs k x).1, .err 67 (evF en rs k x).2]) (AMem.wth m [(bi, vmO en), (br, vmO rs), (bf, nmO)]) → ACalls Try.prog 16 [expTop x, .agg [.map bi, .map br, .map bf]] (AMem.wth m [(bi, vmO en), (br, vmO rs), (bf, nmO)]) K) (hd : depE e < k + 1) (m : AMem)  (K : AV → AMem → Prop) (hK : K (.tuple [valTop (evF en rs (k + 1) e).1, .err 67 (evF en rs (k + 1) e).2]) (AMem.wth m [(bi, vmO en), (br, vmO rs), (bf, nmO)])) : ACalls Try.prog 16 [expTop e, .agg [.map bi, .map br, .map bf]] (AMem.wth m [(bi, vmO en), (br, vmO rs), (bf, nmO)]) K := by
 have hoe := (okE_iff e).1 hok
 refine acalls_enter Try.func16 rfl (by decide) (Nat.le_of_ble_eq_true rfl) ?_
 refine awp_bd 0 (x := expTop e) rfl (fun hbd0 => ?_)
 have hbd0_3 : e.v.s.length ≤ 140737488355328 := (hbd0 3 (Nat.le_of_ble_eq_true rfl))
 have hbd0_4 : e.v.l.length ≤ 140737488355328 := bd_map (hbd0 4 (Nat.le_of_ble_eq_true rfl))
 have hbd0_5 : e.v.f.length ≤ 140737488355328 := bd_map (hbd0 5 (Nat.le_of_ble_eq_true rfl))
 have hbd0_6 : e.s.length ≤ 140737488355328 := (hbd0 6 (Nat.le_of_ble_eq_true rfl))
 have hbd0_7 : e.t.length ≤ 140737488355328 := (hbd0 7 (Nat.le_of_ble_eq_true rfl))
 have hbd0_8 : e.a.length ≤ 140737488355328 := bd_map (hbd0 8 (Nat.le_of_ble_eq_true rfl))
 have hbd0_9 : e.n.length ≤ 140737488355328 := bd_map (hbd0 9 (Nat.le_of_ble_eq_true rfl))
 show AWP _ _ _ _ [(0, expTop e), (1, .agg [.map bi, .map br, .map bf])] (AMem.wth m [(bi, vmO en), (br, vmO rs), (bf, nmO)])
 refine awp_reg2_seq [] [2, 3, 4] (by decide) ?_
 intro K1 hK1
 refine ar_box rfl (m := m) (L := [(bi, vmO en), (br, vmO rs), (bf, nmO)]) (v := expTop e) (by rfl) rfl ?_
 intro b1 hb1
 have hFb1 : m b1 = none := wth_none hb1
 have hNb1 : ([b1, bi, br, bf] : List Nat).Nodup := wth_nodup hb1 hN
 refine ar_box rfl (m := m) (L := [(b1, expO e), (bi, vmO en), (br, vmO rs), (bf, nmO)]) (v := .agg [.map bi, .map br, .map bf]) rfl rfl ?_
 intro b2 hb2
 have hFb2 : m b2 = none := wth_none hb2
 have hNb2 : ([b2, b1, bi, br, bf] : List Nat).Nodup := wth_nodup hb2 hNb1
 refine ar_alloc rfl (z := .agg [.int .i64 0, .int .i64 0, .str ([]), .slice true [], .slice true []]) rfl rfl ?_
 intro b3 hb3
 have hFb3 : m b3 = none := wth_none hb3
 have hNb3 : ([b3, b2, b1, bi, br, bf] : List Nat).Nodup := wth_nodup hb3 hNb2
 refine ⟨trivial, ?_⟩
 show K1 [(2, .ptr ⟨b1, 0, none⟩), (3, .ptr ⟨b2, 0, none⟩), (4, .ptr ⟨b3, 0, none⟩)] (AMem.wth m [(b3, zO), (b2, .cells [.map bi, .map br, .map bf]), (b1, expO e), (bi, vmO en), (br, vmO rs), (bf, nmO)])
 refine hK1 _ _ ?_; clear hK1 K1
 refine awp_seq_k ?_; intro K2 hK2
 refine awp_reg2_seq [] [2, 3, 4, 17] (by decide) ?_
 intro K1 hK1
 refine ⟨⟨rfl, by decide⟩, ?_⟩
 refine ar_loadp rfl (v := .int .i64 e.kind) rfl (wth_get 2 hNb3 rfl) rfl (apartOk_one rfl rfl (Nat.le_of_ble_eq_true rfl)) rfl ?_
 show K1 [(2, .ptr ⟨b1, 0, none⟩), (3, .ptr ⟨b2, 0, none⟩), (4, .ptr ⟨b3, 0, none⟩), (17, .int .i64 e.kind)] (AMem.wth m [(b3, zO), (b2, .cells [.map bi, .map br, .map bf]), (b1, expO e), (bi, vmO en), (br, vmO rs), (bf, nmO)])
 refine hK1 _ _ ?_; clear hK1 K1
 refine awp_block ?_
 refine awp_reg2_seq [] [2, 3, 4, 17, 18] (by decide) ?_
 intro K1 hK1
 refine ⟨trivial, trivial, ?_⟩
 show K1 [(2, .ptr ⟨b1, 0, none⟩), (3, .ptr ⟨b2, 0, none⟩), (4, .ptr ⟨b3, 0, none⟩), (17, .int .i64 e.kind), (18, .bool (e.kind == 1))] (AMem.wth m [(b3, zO), (b2, .cells [.map bi, .map br, .map bf]), (b1, expO e), (bi, vmO en), (br, vmO rs), (bf, nmO)])
 refine hK1 _ _ ?_; clear hK1 K1
 refine awp_cond rfl rfl (fun h1 => ?_) (fun h1 => ?_)
 ·
  replace h1 : e.kind = 1 := (eq_of_beq h1)
  refine awp_reg2_seq [] [4, 5] (by decide) ?_
  intro K1 hK1
  refine ⟨⟨rfl, by decide⟩, ?_⟩
  refine ar_loadp rfl (v := .agg [.int .i64 e.v.kind, .int .i64 e.v.n, .str e.v.s, .slice false (e.v.l.map valIn), .slice false (e.v.f.map fldIn)]) rfl (wth_get 2 hNb3 rfl) rfl (apartOk_agg rfl rfl (Nat.le_of_ble_eq_true rfl)) rfl ?_
  refine u_Copy e.v hoe.1.1 _ _ ?_
  refine ar_storep rfl 0 (v := valTop e.v) (l' := [.int .i64 e.v.kind, .int .i64 e.v.n, .str e.v.s, .slice false (e.v.l.map valIn), .slice false (e.v.f.map fldIn)]) rfl (by rfl) hNb3 rfl rfl rfl rfl rfl (Nat.le_of_ble_eq_true rfl) rfl ?_
  refine ⟨trivial, ?_⟩
  show K1 [(4, .ptr ⟨b3, 0, none⟩), (5, .nilIface)] (AMem.wth m [(b3, valO e.v), (b2, .cells [.map bi, .map br, .map bf]), (b1, expO e), (bi, vmO en), (br, vmO rs), (bf, nmO)])
  refine hK1 _ _ ?_; clear hK1 K1
  refine awp_toErr 67 [5] ?_
  show AWP _ _ _ _ [(4, .ptr ⟨b3, 0, none⟩), (5, .err 67 0)] (AMem.wth m [(b3, valO e.v), (b2, .cells [.map bi, .map br, .map bf]), (b1, expO e), (bi, vmO en), (br, vmO rs), (bf, nmO)])
  refine awp_ret ?_
  refine resK_cell2 (fn := Try.f16) (a := 4) (t := 25) (s := 5) (b := b3) (off := 0) rfl rfl (wth_get  (m := m) (L := [(b3, valO e.v), (b2, .cells [.map bi, .map br, .map bf]), (b1, expO e), (bi, vmO en), (br, vmO rs), (bf, nmO)]) 0 hNb3 rfl) (apartOk_agg rfl rfl (Nat.le_of_ble_eq_true rfl)) (.agg [.int .i64 e.v.kind, .int .i64 e.v.n, .str e.v.s, .slice false (e.v.l.map valIn), .slice false (e.v.f.map fldIn)]) (.err 67 0) rfl rfl (.err 67 0) rfl (AMem.wth m [(bi, vmO en), (br, vmO rs), (bf, nmO)]) ((wth_sub2 (m := m) [(b3, valO e.v), (b2, .cells [.map bi, .map br, .map bf]), (b1, expO e)] [(bi, vmO en), (br, vmO rs), (bf, nmO)] hNb3 (by simp only [List.map_cons, List.map_nil, List.forall_mem_cons]; exact ⟨hFb3, hFb2, hFb1, fun _ h => by cases h⟩))) ?_
  show K (.tuple [.agg [.int .i64 e.v.kind, .int .i64 e.v.n, .str e.v.s, .slice false (e.v.l.map valIn), .slice false (e.v.f.map fldIn)], .err 67 0]) (AMem.wth m [(bi, vmO en), (br, vmO rs), (bf, nmO)])
 
  have e0 : evF en rs (k + 1) e = ((e.v, 0) : Val × Int) := by
   first | exact evF_1 (by assumption) | exact evF_2 (by assumption) | exact evF_30 (by assumption) (by assumption) | exact evF_31 (by assumption) (by assumption) | exact evF_4 (by assumption) | exact evF_70 (by assumption) (by assumption) | exact evF_71 (by assumption) (by assumption) (by assumption) | exact evF_72 (by assumption) (by assumption) (by assumption) (by assumption) | exact evF_73 (by assumption) (by assumption) (by assumption) (by assumption) | exact evF_80 (by assumption) (by assumption) (by assumption) (by assumption) (by assumption) (by assumption) | exact evF_81 (by assumption) (by assumption) (by assumption) (by assumption) (by assumption) (by assumption)
  rw [e0] at hK
  exact hK
 replace h1 : e.kind ≠ 1 := (ne_of_beq_false h1)
 refine awp_reg2_seq [] [2, 3, 4, 17, 23] (by decide) ?_
 intro K1 hK1
 refine ⟨trivial, trivial, ?_⟩
 show K1 [(2, .ptr ⟨b1, 0, none⟩), (3, .ptr ⟨b2, 0, none⟩), (4, .ptr ⟨b3, 0, none⟩), (17, .int .i64 e.kind), (23, .bool (e.kind == 2))] (AMem.wth m [(b3, zO), (b2, .cells [.map bi, .map br, .map bf]), (b1, expO e), (bi, vmO en), (br, vmO rs), (bf, nmO)])
 refine hK1 _ _ ?_; clear hK1 K1
 refine awp_cond rfl rfl (fun h2 => ?_) (fun h2 => ?_)
 ·
  replace h2 : e.kind = 2 := (eq_of_beq h2)
  refine awp_reg2_seq [] [4, 6, 7] (by decide) ?_
  intro K1 hK1
  refine ⟨⟨rfl, by decide⟩, ?_⟩
  refine ar_loadp rfl (v := .map bi) rfl (wth_get 1 hNb3 rfl) rfl (apartOk_one rfl rfl (Nat.le_of_ble_eq_true rfl)) rfl ?_
  refine ⟨⟨rfl, by decide⟩, ?_⟩
  refine ar_loadp rfl (v := .str e.s) rfl (wth_get 2 hNb3 rfl) rfl (apartOk_one rfl rfl (Nat.le_of_ble_eq_true rfl)) rfl ?_
  refine ar_lookupOkP rfl (m := m) (L := [(b3, zO), (b2, .cells [.map bi, .map br, .map bf]), (b1, expO e), (bi, vmO en), (br, vmO rs), (bf, nmO)]) strAV valTop strKey_ok en e.s zV rfl rfl rfl rfl rfl rfl (wth_get 3 hNb3 rfl) rfl ?_
  refine ⟨trivial, (Nat.le_of_ble_eq_true rfl), (Nat.le_of_ble_eq_true rfl), ?_⟩
  refine ar_alloc rfl (z := .agg [.int .i64 0, .int .i64 0, .str ([]), .slice true [], .slice true []]) rfl rfl ?_
  intro b4 hb4
  have hFb4 : m b4 = none := wth_none hb4
  have hNb4 : ([b4, b3, b2, b1, bi, br, bf] : List Nat).Nodup := wth_nodup hb4 hNb3
  refine ar_storep rfl 0 (v := valTop ((mget en e.s).getD zV)) (l' := [.int .i64 (((mget en e.s).getD zV).kind), .int .i64 (((mget en e.s).getD zV).n), .str (((mget en e.s).getD zV).s), .slice false ((((mget en e.s).getD zV).l).map valIn), .slice false ((((mget en e.s).getD zV).f).map fldIn)]) rfl (by rfl) hNb4 rfl rfl rfl rfl rfl (Nat.le_of_ble_eq_true rfl) rfl ?_
  refine ⟨trivial, ?_⟩
  show K1 [(4, .ptr ⟨b3, 0, none⟩), (6, .ptr ⟨b4, 0, none⟩), (7, .bool ((mget en e.s).isSome))] (AMem.wth m [(b4, valO ((mget en e.s).getD zV)), (b3, zO), (b2, .cells [.map bi, .map br, .map bf]), (b1, expO e), (bi, vmO en), (br, vmO rs), (bf, nmO)])
  refine hK1 _ _ ?_; clear hK1 K1
  refine awp_reg2_seq [] [4, 5] (by decide) ?_
  intro K1 hK1
  refine ar_loadp rfl (v := .agg [.int .i64 (((mget en e.s).getD zV).kind), .int .i64 (((mget en e.s).getD zV).n), .str (((mget en e.s).getD zV).s), .slice false ((((mget en e.s).getD zV).l).map valIn), .slice false ((((mget en e.s).getD zV).f).map fldIn)]) rfl (wth_get 0 hNb4 rfl) rfl (apartOk_agg rfl rfl (Nat.le_of_ble_eq_true rfl)) rfl ?_
  refine ⟨trivial, ?_⟩
  refine u_named ((mget en e.s).getD zV) ((mget en e.s).isSome) (by first | exact okV_get hen _ | exact okV_zV | exact okV_get ((okV_iff _).1 (okV_get hrs _)).2.2 _) _ _ ?_
  refine ⟨(Nat.le_of_ble_eq_true rfl), (Nat.le_of_ble_eq_true rfl), ?_⟩
  refine ar_storep rfl 1 (v := valTop ((namedB ((mget en e.s).getD zV) ((mget en e.s).isSome)).1)) (l' := [.int .i64 (((namedB ((mget en e.s).getD zV) ((mget en e.s).isSome)).1).kind), .int .i64 (((namedB ((mget en e.s).getD zV) ((mget en e.s).isSome)).1).n), .str (((namedB ((mget en e.s).getD zV) ((mget en e.s).isSome)).1).s), .slice false ((((namedB ((mget en e.s).getD zV) ((mget en e.s).isSome)).1).l).map valIn), .slice false ((((namedB ((mget en e.s).getD zV) ((mget en e.s).isSome)).1).f).map fldIn)]) rfl (by rfl) hNb4 rfl rfl rfl rfl rfl (Nat.le_of_ble_eq_true rfl) rfl ?_
  refine ⟨trivial, ?_⟩
  show K1 [(4, .ptr ⟨b3, 0, none⟩), (5, .err 67 ((namedB ((mget en e.s).getD zV) ((mget en e.s).isSome)).2))] (AMem.wth m [(b4, valO ((mget en e.s).getD zV)), (b3, valO ((namedB ((mget en e.s).getD zV) ((mget en e.s).isSome)).1)), (b2, .cells [.map bi, .map br, .map bf]), (b1, expO e), (bi, vmO en), (br, vmO rs), (bf, nmO)])
  refine hK1 _ _ ?_; clear hK1 K1
  refine awp_ret ?_
  refine resK_cell2 (fn := Try.f16) (a := 4) (t := 25) (s := 5) (b := b3) (off := 0) rfl rfl (wth_get  (m := m) (L := [(b4, valO ((mget en e.s).getD zV)), (b3, valO ((namedB ((mget en e.s).getD zV) ((mget en e.s).isSome)).1)), (b2, .cells [.map bi, .map br, .map bf]), (b1, expO e), (bi, vmO en), (br, vmO rs), (bf, nmO)]) 1 hNb4 rfl) (apartOk_agg rfl rfl (Nat.le_of_ble_eq_true rfl)) (.agg [.int .i64 (((namedB ((mget en e.s).getD zV) ((mget en e.s).isSome)).1).kind), .int .i64 (((namedB ((mget en e.s).getD zV) ((mget en e.s).isSome)).1).n), .str (((namedB ((mget en e.s).getD zV) ((mget en e.s).isSome)).1).s), .slice false ((((namedB ((mget en e.s).getD zV) ((mget en e.s).isSome)).1).l).map valIn), .slice false ((((namedB ((mget en e.s).getD zV) ((mget en e.s).isSome)).1).f).map fldIn)]) (.err 67 ((namedB ((mget en e.s).getD zV) ((mget en e.s).isSome)).2)) rfl rfl (.err 67 ((namedB ((mget en e.s).getD zV) ((mget en e.s).isSome)).2)) rfl (AMem.wth m [(bi, vmO en), (br, vmO rs), (bf, nmO)]) ((wth_sub2 (m := m) [(b4, valO ((mget en e.s).getD zV)), (b3, valO ((namedB ((mget en e.s).getD zV) ((mget en e.s).isSome)).1)), (b2, .cells [.map bi, .map br, .map bf]), (b1, expO e)] [(bi, vmO en), (br, vmO rs), (bf, nmO)] hNb4 (by simp only [List.map_cons, List.map_nil, List.forall_mem_cons]; exact ⟨hFb4, hFb3, hFb2, hFb1, fun _ h => by cases h⟩))) ?_
  show K (.tuple [.agg [.int .i64 (((namedB ((mget en e.s).getD zV) ((mget en e.s).isSome)).1).kind), .int .i64 (((namedB ((mget en e.s).getD zV) ((mget en e.s).isSome)).1).n), .str (((namedB ((mget en e.s).getD zV) ((mget en e.s).isSome)).1).s), .slice false ((((namedB ((mget en e.s).getD zV) ((mget en e.s).isSome)).1).l).map valIn), .slice false ((((namedB ((mget en e.s).getD zV) ((mget en e.s).isSome)).1).f).map fldIn)], .err 67 ((namedB ((mget en e.s).getD zV) ((mget en e.s).isSome)).2)]) (AMem.wth m [(bi, vmO en), (br, vmO rs), (bf, nmO)])
 
  have e0 : evF en rs (k + 1) e = ((((namedB ((mget en e.s).getD zV) ((mget en e.s).isSome)).1), (namedB ((mget en e.s).getD zV) ((mget en e.s).isSome)).2) : Val × Int) := by
   first | exact evF_1 (by assumption) | exact evF_2 (by assumption) | exact evF_30 (by assumption) (by assumption) | exact evF_31 (by assumption) (by assumption) | exact evF_4 (by assumption) | exact evF_70 (by assumption) (by assumption) | exact evF_71 (by assumption) (by assumption) (by assumption) | exact evF_72 (by assumption) (by assumption) (by assumption) (by assumption) | exact evF_73 (by assumption) (by assumption) (by assumption) (by assumption) | exact evF_80 (by assumption) (by assumption) (by assumption) (by assumption) (by assumption) (by assumption) | exact evF_81 (by assumption) (by assumption) (by assumption) (by assumption) (by assumption) (by assumption)
  rw [e0] at hK
  exact hK
 replace h2 : e.kind ≠ 2 := (ne_of_beq_false h2)
 refine awp_reg2_seq [] [2, 3, 4, 17, 38] (by decide) ?_
 intro K1 hK1
 refine ⟨trivial, trivial, ?_⟩
 show K1 [(2, .ptr ⟨b1, 0, none⟩), (3, .ptr ⟨b2, 0, none⟩), (4, .ptr ⟨b3, 0, none⟩), (17, .int .i64 e.kind), (38, .bool (e.kind == 3))] (AMem.wth m [(b3, zO), (b2, .cells [.map bi, .map br, .map bf]), (b1, expO e), (bi, vmO en), (br, vmO rs), (bf, nmO)])
 refine hK1 _ _ ?_; clear hK1 K1
 refine awp_cond rfl rfl (fun h3 => ?_) (fun h3 => ?_)
 ·
  replace h3 : e.kind = 3 := (eq_of_beq h3)
  refine awp_reg2_seq [] [2, 4, 8, 9] (by decide) ?_
  intro K1 hK1
  refine ⟨⟨rfl, by decide⟩, ?_⟩
  refine ar_loadp rfl (v := .map br) rfl (wth_get 1 hNb3 rfl) rfl (apartOk_one rfl rfl (Nat.le_of_ble_eq_true rfl)) rfl ?_
  refine ⟨⟨rfl, by decide⟩, ?_⟩
  refine ar_loadp rfl (v := .str e.s) rfl (wth_get 2 hNb3 rfl) rfl (apartOk_one rfl rfl (Nat.le_of_ble_eq_true rfl)) rfl ?_
  refine ar_lookupOkP rfl (m := m) (L := [(b3, zO), (b2, .cells [.map bi, .map br, .map bf]), (b1, expO e), (bi, vmO en), (br, vmO rs), (bf, nmO)]) strAV valTop strKey_ok rs e.s zV rfl rfl rfl rfl rfl rfl (wth_get 4 hNb3 rfl) rfl ?_
  refine ⟨trivial, (Nat.le_of_ble_eq_true rfl), (Nat.le_of_ble_eq_true rfl), ?_⟩
  refine ar_alloc rfl (z := .agg [.int .i64 0, .int .i64 0, .str ([]), .slice true [], .slice true []]) rfl rfl ?_
  intro b5 hb5
  have hFb5 : m b5 = none := wth_none hb5
  have hNb5 : ([b5, b3, b2, b1, bi, br, bf] : List Nat).Nodup := wth_nodup hb5 hNb3
  refine ar_storep rfl 0 (v := valTop ((mget rs e.s).getD zV)) (l' := [.int .i64 (((mget rs e.s).getD zV).kind), .int .i64 (((mget rs e.s).getD zV).n), .str (((mget rs e.s).getD zV).s), .slice false ((((mget rs e.s).getD zV).l).map valIn), .slice false ((((mget rs e.s).getD zV).f).map fldIn)]) rfl (by rfl) hNb5 rfl rfl rfl rfl rfl (Nat.le_of_ble_eq_true rfl) rfl ?_
  refine ⟨trivial, ?_⟩
  show K1 [(2, .ptr ⟨b1, 0, none⟩), (4, .ptr ⟨b3, 0, none⟩), (8, .ptr ⟨b5, 0, none⟩), (9, .bool ((mget rs e.s).isSome))] (AMem.wth m [(b5, valO ((mget rs e.s).getD zV)), (b3, zO), (b2, .cells [.map bi, .map br, .map bf]), (b1, expO e), (bi, vmO en), (br, vmO rs), (bf, nmO)])
  refine hK1 _ _ ?_; clear hK1 K1
  refine awp_seq_k ?_; intro K3 hK3
  refine awp_reg2_seq [] [2, 4, 8, 49] (by decide) ?_
  intro K1 hK1
  refine ⟨trivial, trivial, ?_⟩
  show K1 [(2, .ptr ⟨b1, 0, none⟩), (4, .ptr ⟨b3, 0, none⟩), (8, .ptr ⟨b5, 0, none⟩), (49, .bool (!((mget rs e.s).isSome)))] (AMem.wth m [(b5, valO ((mget rs e.s).getD zV)), (b3, zO), (b2, .cells [.map bi, .map br, .map bf]), (b1, expO e), (bi, vmO en), (br, vmO rs), (bf, nmO)])
  refine hK1 _ _ ?_; clear hK1 K1
  refine awp_cond rfl rfl (fun h4 => ?_) (fun h4 => ?_)
  ·
   replace h4 : (mget rs e.s).isSome = false := (bnT h4)
   refine awp_reg2_seq [] [4, 5] (by decide) ?_
   intro K1 hK1
   refine ⟨⟨rfl, by simp only [List.forall_mem_cons]; exact ⟨rfl, rfl, rfl, rfl, rfl, fun _ h => by cases h⟩, fun _ h => by cases h⟩, trivial, ?_⟩
   refine ar_storep rfl 1 (v := .agg [.int .i64 0, .int .i64 0, .str ([]), .slice true [], .slice true []]) (l' := [.int .i64 0, .int .i64 0, .str ([]), .slice true [], .slice true []]) rfl rfl hNb5 rfl rfl rfl rfl rfl (Nat.le_of_ble_eq_true rfl) rfl ?_
   refine ⟨trivial, ?_⟩
   show K1 [(4, .ptr ⟨b3, 0, none⟩), (5, .iface 67 (.int .i64 7))] (AMem.wth m [(b5, valO ((mget rs e.s).getD zV)), (b3, zO), (b2, .cells [.map bi, .map br, .map bf]), (b1, expO e), (bi, vmO en), (br, vmO rs), (bf, nmO)])
   refine hK1 _ _ ?_; clear hK1 K1
   refine awp_toErr 67 [5] ?_
   show AWP _ _ _ _ [(4, .ptr ⟨b3, 0, none⟩), (5, .err 67 7)] (AMem.wth m [(b5, valO ((mget rs e.s).getD zV)), (b3, zO), (b2, .cells [.map bi, .map br, .map bf]), (b1, expO e), (bi, vmO en), (br, vmO rs), (bf, nmO)])
   refine awp_ret ?_
   refine resK_cell2 (fn := Try.f16) (a := 4) (t := 25) (s := 5) (b := b3) (off := 0) rfl rfl (wth_get  (m := m) (L := [(b5, valO ((mget rs e.s).getD zV)), (b3, zO), (b2, .cells [.map bi, .map br, .map bf]), (b1, expO e), (bi, vmO en), (br, vmO rs), (bf, nmO)]) 1 hNb5 rfl) (apartOk_agg rfl rfl (Nat.le_of_ble_eq_true rfl)) (.agg [.int .i64 0, .int .i64 0, .str ([]), .slice false [], .slice false []]) (.err 67 7) rfl rfl (.err 67 7) rfl (AMem.wth m [(bi, vmO en), (br, vmO rs), (bf, nmO)]) ((wth_sub2 (m := m) [(b5, valO ((mget rs e.s).getD zV)), (b3, zO), (b2, .cells [.map bi, .map br, .map bf]), (b1, expO e)] [(bi, vmO en), (br, vmO rs), (bf, nmO)] hNb5 (by simp only [List.map_cons, List.map_nil, List.forall_mem_cons]; exact ⟨hFb5, hFb3, hFb2, hFb1, fun _ h => by cases h⟩))) ?_
   show K (.tuple [.agg [.int .i64 0, .int .i64 0, .str ([]), .slice false [], .slice false []], .err 67 7]) (AMem.wth m [(bi, vmO en), (br, vmO rs), (bf, nmO)])
  
   have e0 : evF en rs (k + 1) e = (((⟨0, 0, [], [], []⟩ : Val), 7) : Val × Int) := by
    first | exact evF_1 (by assumption) | exact evF_2 (by assumption) | exact evF_30 (by assumption) (by assumption) | exact evF_31 (by assumption) (by assumption) | exact evF_4 (by assumption) | exact evF_70 (by assumption) (by assumption) | exact evF_71 (by assumption) (by assumption) (by assumption) | exact evF_72 (by assumption) (by assumption) (by assumption) (by assumption) | exact evF_73 (by assumption) (by assumption) (by assumption) (by assumption) | exact evF_80 (by assumption) (by assumption) (by assumption) (by assumption) (by assumption) (by assumption) | exact evF_81 (by assumption) (by assumption) (by assumption) (by assumption) (by assumption) (by assumption)
   rw [e0] at hK
   exact hK
  replace h4 : (mget rs e.s).isSome = true := (bnF h4)
  refine awp_skip ?_
  refine hK3 _ _ ?_; clear hK3
  refine awp_reg2_seq [] [4, 5] (by decide) ?_
  intro K1 hK1
  refine ar_loadp rfl (v := .agg [.int .i64 (((mget rs e.s).getD zV).kind), .int .i64 (((mget rs e.s).getD zV).n), .str (((mget rs e.s).getD zV).s), .slice false ((((mget rs e.s).getD zV).l).map valIn), .slice false ((((mget rs e.s).getD zV).f).map fldIn)]) rfl (wth_get 0 hNb5 rfl) rfl (apartOk_agg rfl rfl (Nat.le_of_ble_eq_true rfl)) rfl ?_
  refine ⟨⟨rfl, by decide⟩, ?_⟩
  refine ar_loadp rfl (v := .str e.t) rfl (wth_get 3 hNb5 rfl) rfl (apartOk_one rfl rfl (Nat.le_of_ble_eq_true rfl)) rfl ?_
  refine u_Get ((mget rs e.s).getD zV) e.t _ _ ?_
  refine ⟨(Nat.le_of_ble_eq_true rfl), (Nat.le_of_ble_eq_true rfl), ?_⟩
  refine u_named ((mget ((mget rs e.s).getD zV).f e.t).getD zV) ((mget ((mget rs e.s).getD zV).f e.t).isSome) (by first | exact okV_get hen _ | exact okV_zV | exact okV_get ((okV_iff _).1 (okV_get hrs _)).2.2 _) _ _ ?_
  refine ⟨(Nat.le_of_ble_eq_true rfl), (Nat.le_of_ble_eq_true rfl), ?_⟩
  refine ar_storep rfl 1 (v := valTop ((namedB ((mget ((mget rs e.s).getD zV).f e.t).getD zV) ((mget ((mget rs e.s).getD zV).f e.t).isSome)).1)) (l' := [.int .i64 (((namedB ((mget ((mget rs e.s).getD zV).f e.t).getD zV) ((mget ((mget rs e.s).getD zV).f e.t).isSome)).1).kind), .int .i64 (((namedB ((mget ((mget rs e.s).getD zV).f e.t).getD zV) ((mget ((mget rs e.s).getD zV).f e.t).isSome)).1).n), .str (((namedB ((mget ((mget rs e.s).getD zV).f e.t).getD zV) ((mget ((mget rs e.s).getD zV).f e.t).isSome)).1).s), .slice false ((((namedB ((mget ((mget rs e.s).getD zV).f e.t).getD zV) ((mget ((mget rs e.s).getD zV).f e.t).isSome)).1).l).map valIn), .slice false ((((namedB ((mget ((mget rs e.s).getD zV).f e.t).getD zV) ((mget ((mget rs e.s).getD zV).f e.t).isSome)).1).f).map fldIn)]) rfl (by rfl) hNb5 rfl rfl rfl rfl rfl (Nat.le_of_ble_eq_true rfl) rfl ?_
  refine ⟨trivial, ?_⟩
  show K1 [(4, .ptr ⟨b3, 0, none⟩), (5, .err 67 ((namedB ((mget ((mget rs e.s).getD zV).f e.t).getD zV) ((mget ((mget rs e.s).getD zV).f e.t).isSome)).2))] (AMem.wth m [(b5, valO ((mget rs e.s).getD zV)), (b3, valO ((namedB ((mget ((mget rs e.s).getD zV).f e.t).getD zV) ((mget ((mget rs e.s).getD zV).f e.t).isSome)).1)), (b2, .cells [.map bi, .map br, .map bf]), (b1, expO e), (bi, vmO en), (br, vmO rs), (bf, nmO)])
  refine hK1 _ _ ?_; clear hK1 K1
  refine awp_ret ?_
  refine resK_cell2 (fn := Try.f16) (a := 4) (t := 25) (s := 5) (b := b3) (off := 0) rfl rfl (wth_get  (m := m) (L := [(b5, valO ((mget rs e.s).getD zV)), (b3, valO ((namedB ((mget ((mget rs e.s).getD zV).f e.t).getD zV) ((mget ((mget rs e.s).getD zV).f e.t).isSome)).1)), (b2, .cells [.map bi, .map br, .map bf]), (b1, expO e), (bi, vmO en), (br, vmO rs), (bf, nmO)]) 1 hNb5 rfl) (apartOk_agg rfl rfl (Nat.le_of_ble_eq_true rfl)) (.agg [.int .i64 (((namedB ((mget ((mget rs e.s).getD zV).f e.t).getD zV) ((mget ((mget rs e.s).getD zV).f e.t).isSome)).1).kind), .int .i64 (((namedB ((mget ((mget rs e.s).getD zV).f e.t).getD zV) ((mget ((mget rs e.s).getD zV).f e.t).isSome)).1).n), .str (((namedB ((mget ((mget rs e.s).getD zV).f e.t).getD zV) ((mget ((mget rs e.s).getD zV).f e.t).isSome)).1).s), .slice false ((((namedB ((mget ((mget rs e.s).getD zV).f e.t).getD zV) ((mget ((mget rs e.s).getD zV).f e.t).isSome)).1).l).map valIn), .slice false ((((namedB ((mget ((mget rs e.s).getD zV).f e.t).getD zV) ((mget ((mget rs e.s).getD zV).f e.t).isSome)).1).f).map fldIn)]) (.err 67 ((namedB ((mget ((mget rs e.s).getD zV).f e.t).getD zV) ((mget ((mget rs e.s).getD zV).f e.t).isSome)).2)) rfl rfl (.err 67 ((namedB ((mget ((mget rs e.s).getD zV).f e.t).getD zV) ((mget ((mget rs e.s).getD zV).f e.t).isSome)).2)) rfl (AMem.wth m [(bi, vmO en), (br, vmO rs), (bf, nmO)]) ((wth_sub2 (m := m) [(b5, valO ((mget rs e.s).getD zV)), (b3, valO ((namedB ((mget ((mget rs e.s).getD zV).f e.t).getD zV) ((mget ((mget rs e.s).getD zV).f e.t).isSome)).1)), (b2, .cells [.map bi, .map br, .map bf]), (b1, expO e)] [(bi, vmO en), (br, vmO rs), (bf, nmO)] hNb5 (by simp only [List.map_cons, List.map_nil, List.forall_mem_cons]; exact ⟨hFb5, hFb3, hFb2, hFb1, fun _ h => by cases h⟩))) ?_
  show K (.tuple [.agg [.int .i64 (((namedB ((mget ((mget rs e.s).getD zV).f e.t).getD zV) ((mget ((mget rs e.s).getD zV).f e.t).isSome)).1).kind), .int .i64 (((namedB ((mget ((mget rs e.s).getD zV).f e.t).getD zV) ((mget ((mget rs e.s).getD zV).f e.t).isSome)).1).n), .str (((namedB ((mget ((mget rs e.s).getD zV).f e.t).getD zV) ((mget ((mget rs e.s).getD zV).f e.t).isSome)).1).s), .slice false ((((namedB ((mget ((mget rs e.s).getD zV).f e.t).getD zV) ((mget ((mget rs e.s).getD zV).f e.t).isSome)).1).l).map valIn), .slice false ((((namedB ((mget ((mget rs e.s).getD zV).f e.t).getD zV) ((mget ((mget rs e.s).getD zV).f e.t).isSome)).1).f).map fldIn)], .err 67 ((namedB ((mget ((mget rs e.s).getD zV).f e.t).getD zV) ((mget ((mget rs e.s).getD zV).f e.t).isSome)).2)]) (AMem.wth m [(bi, vmO en), (br, vmO rs), (bf, nmO)])
 
  have e0 : evF en rs (k + 1) e = ((((namedB ((mget ((mget rs e.s).getD zV).f e.t).getD zV) ((mget ((mget rs e.s).getD zV).f e.t).isSome)).1), (namedB ((mget ((mget rs e.s).getD zV).f e.t).getD zV) ((mget ((mget rs e.s).getD zV).f e.t).isSome)).2) : Val × Int) := by
   first | exact evF_1 (by assumption) | exact evF_2 (by assumption) | exact evF_30 (by assumption) (by assumption) | exact evF_31 (by assumption) (by assumption) | exact evF_4 (by assumption) | exact evF_70 (by assumption) (by assumption) | exact evF_71 (by assumption) (by assumption) (by assumption) | exact evF_72 (by assumption) (by assumption) (by assumption) (by assumption) | exact evF_73 (by assumption) (by assumption) (by assumption) (by assumption) | exact evF_80 (by assumption) (by assumption) (by assumption) (by assumption) (by assumption) (by assumption) | exact evF_81 (by assumption) (by assumption) (by assumption) (by assumption) (by assumption) (by assumption)
  rw [e0] at hK
  exact hK
 replace h3 : e.kind ≠ 3 := (ne_of_beq_false h3)
 refine awp_reg2_seq [] [2, 3, 4, 17, 61] (by decide) ?_
 intro K1 hK1
 refine ⟨trivial, trivial, ?_⟩
 show K1 [(2, .ptr ⟨b1, 0, none⟩), (3, .ptr ⟨b2, 0, none⟩), (4, .ptr ⟨b3, 0, none⟩), (17, .int .i64 e.kind), (61, .bool (e.kind == 4))] (AMem.wth m [(b3, zO), (b2, .cells [.map bi, .map br, .map bf]), (b1, expO e), (bi, vmO en), (br, vmO rs), (bf, nmO)])
 refine hK1 _ _ ?_; clear hK1 K1
 refine awp_cond rfl rfl (fun h5 => ?_) (fun h5 => ?_)
 ·
  replace h5 : e.kind = 4 := (eq_of_beq h5)
  refine awp_reg2_seq [] [4, 10, 11] (by decide) ?_
  intro K1 hK1
  refine ⟨⟨rfl, by decide⟩, ?_⟩
  refine ar_loadp rfl (v := .map bf) rfl (wth_get 1 hNb3 rfl) rfl (apartOk_one rfl rfl (Nat.le_of_ble_eq_true rfl)) rfl ?_
  refine ⟨⟨rfl, by decide⟩, ?_⟩
  refine ar_loadp rfl (v := .str e.s) rfl (wth_get 2 hNb3 rfl) rfl (apartOk_one rfl rfl (Nat.le_of_ble_eq_true rfl)) rfl ?_
  refine ar_lookupP rfl (m := m) (L := [(b3, zO), (b2, .cells [.map bi, .map br, .map bf]), (b1, expO e), (bi, vmO en), (br, vmO rs), (bf, nmO)]) strAV (fun _ : Unit => AV.nilmap) strKey_ok ([] : List (Str × Unit)) e.s () rfl rfl rfl rfl rfl rfl (wth_get 5 hNb3 rfl) rfl ?_
  refine ⟨⟨rfl, by decide⟩, ?_⟩
  refine ar_loadp rfl (v := .str e.t) rfl (wth_get 2 hNb3 rfl) rfl (apartOk_one rfl rfl (Nat.le_of_ble_eq_true rfl)) rfl ?_
  refine ar_lookupNilOk rfl strAV strKey_ok e.t (.agg [.int .i64 0, .int .i64 0, .str ([]), .slice true [], .slice true []]) rfl rfl rfl rfl rfl ?_
  refine ⟨trivial, (Nat.le_of_ble_eq_true rfl), (Nat.le_of_ble_eq_true rfl), ?_⟩
  refine ar_alloc rfl (z := .agg [.int .i64 0, .int .i64 0, .str ([]), .slice true [], .slice true []]) rfl rfl ?_
  intro b6 hb6
  have hFb6 : m b6 = none := wth_none hb6
  have hNb6 : ([b6, b3, b2, b1, bi, br, bf] : List Nat).Nodup := wth_nodup hb6 hNb3
  refine ar_storep rfl 0 (v := .agg [.int .i64 0, .int .i64 0, .str ([]), .slice false [], .slice false []]) (l' := [.int .i64 0, .int .i64 0, .str ([]), .slice false [], .slice false []]) rfl rfl hNb6 rfl rfl rfl rfl rfl (Nat.le_of_ble_eq_true rfl) rfl ?_
  refine ⟨trivial, ?_⟩
  show K1 [(4, .ptr ⟨b3, 0, none⟩), (10, .ptr ⟨b6, 0, none⟩), (11, .bool false)] (AMem.wth m [(b6, .cells [.int .i64 0, .int .i64 0, .str ([]), .slice false [], .slice false []]), (b3, zO), (b2, .cells [.map bi, .map br, .map bf]), (b1, expO e), (bi, vmO en), (br, vmO rs), (bf, nmO)])
  refine hK1 _ _ ?_; clear hK1 K1
  refine awp_reg2_seq [] [4, 5] (by decide) ?_
  intro K1 hK1
  refine ar_loadp rfl (v := .agg [.int .i64 0, .int .i64 0, .str ([]), .slice false [], .slice false []]) rfl (wth_get 0 hNb6 rfl) rfl (apartOk_agg rfl rfl (Nat.le_of_ble_eq_true rfl)) rfl ?_
  refine ⟨trivial, ?_⟩
  refine u_named (⟨0, 0, [], [], []⟩ : Val) false (by first | exact okV_get hen _ | exact okV_zV | exact okV_get ((okV_iff _).1 (okV_get hrs _)).2.2 _) _ _ ?_
  refine ⟨(Nat.le_of_ble_eq_true rfl), (Nat.le_of_ble_eq_true rfl), ?_⟩
  refine ar_storep rfl 1 (v := valTop ((namedB (⟨0, 0, [], [], []⟩ : Val) false).1)) (l' := [.int .i64 (((namedB (⟨0, 0, [], [], []⟩ : Val) false).1).kind), .int .i64 (((namedB (⟨0, 0, [], [], []⟩ : Val) false).1).n), .str (((namedB (⟨0, 0, [], [], []⟩ : Val) false).1).s), .slice false ((((namedB (⟨0, 0, [], [], []⟩ : Val) false).1).l).map valIn), .slice false ((((namedB (⟨0, 0, [], [], []⟩ : Val) false).1).f).map fldIn)]) rfl (by rfl) hNb6 rfl rfl rfl rfl rfl (Nat.le_of_ble_eq_true rfl) rfl ?_
  refine ⟨trivial, ?_⟩
  show K1 [(4, .ptr ⟨b3, 0, none⟩), (5, .err 67 ((namedB (⟨0, 0, [], [], []⟩ : Val) false).2))] (AMem.wth m [(b6, .cells [.int .i64 0, .int .i64 0, .str ([]), .slice false [], .slice false []]), (b3, valO ((namedB (⟨0, 0, [], [], []⟩ : Val) false).1)), (b2, .cells [.map bi, .map br, .map bf]), (b1, expO e), (bi, vmO en), (br, vmO rs), (bf, nmO)])
  refine hK1 _ _ ?_; clear hK1 K1
  refine awp_ret ?_
  refine resK_cell2 (fn := Try.f16) (a := 4) (t := 25) (s := 5) (b := b3) (off := 0) rfl rfl (wth_get  (m := m) (L := [(b6, .cells [.int .i64 0, .int .i64 0, .str ([]), .slice false [], .slice false []]), (b3, valO ((namedB (⟨0, 0, [], [], []⟩ : Val) false).1)), (b2, .cells [.map bi, .map br, .map bf]), (b1, expO e), (bi, vmO en), (br, vmO rs), (bf, nmO)]) 1 hNb6 rfl) (apartOk_agg rfl rfl (Nat.le_of_ble_eq_true rfl)) (.agg [.int .i64 (((namedB (⟨0, 0, [], [], []⟩ : Val) false).1).kind), .int .i64 (((namedB (⟨0, 0, [], [], []⟩ : Val) false).1).n), .str (((namedB (⟨0, 0, [], [], []⟩ : Val) false).1).s), .slice false ((((namedB (⟨0, 0, [], [], []⟩ : Val) false).1).l).map valIn), .slice false ((((namedB (⟨0, 0, [], [], []⟩ : Val) false).1).f).map fldIn)]) (.err 67 ((namedB (⟨0, 0, [], [], []⟩ : Val) false).2)) rfl rfl (.err 67 ((namedB (⟨0, 0, [], [], []⟩ : Val) false).2)) rfl (AMem.wth m [(bi, vmO en), (br, vmO rs), (bf, nmO)]) ((wth_sub2 (m := m) [(b6, .cells [.int .i64 0, .int .i64 0, .str ([]), .slice false [], .slice false []]), (b3, valO ((namedB (⟨0, 0, [], [], []⟩ : Val) false).1)), (b2, .cells [.map bi, .map br, .map bf]), (b1, expO e)] [(bi, vmO en), (br, vmO rs), (bf, nmO)] hNb6 (by simp only [List.map_cons, List.map_nil, List.forall_mem_cons]; exact ⟨hFb6, hFb3, hFb2, hFb1, fun _ h => by cases h⟩))) ?_
  show K (.tuple [.agg [.int .i64 (((namedB (⟨0, 0, [], [], []⟩ : Val) false).1).kind), .int .i64 (((namedB (⟨0, 0, [], [], []⟩ : Val) false).1).n), .str (((namedB (⟨0, 0, [], [], []⟩ : Val) false).1).s), .slice false ((((namedB (⟨0, 0, [], [], []⟩ : Val) false).1).l).map valIn), .slice false ((((namedB (⟨0, 0, [], [], []⟩ : Val) false).1).f).map fldIn)], .err 67 ((namedB (⟨0, 0, [], [], []⟩ : Val) false).2)]) (AMem.wth m [(bi, vmO en), (br, vmO rs), (bf, nmO)])
 
  have e0 : evF en rs (k + 1) e = ((((namedB (⟨0, 0, [], [], []⟩ : Val) false).1), (namedB (⟨0, 0, [], [], []⟩ : Val) false).2) : Val × Int) := by
   first | exact evF_1 (by assumption) | exact evF_2 (by assumption) | exact evF_30 (by assumption) (by assumption) | exact evF_31 (by assumption) (by assumption) | exact evF_4 (by assumption) | exact evF_70 (by assumption) (by assumption) | exact evF_71 (by assumption) (by assumption) (by assumption) | exact evF_72 (by assumption) (by assumption) (by assumption) (by assumption) | exact evF_73 (by assumption) (by assumption) (by assumption) (by assumption) | exact evF_80 (by assumption) (by assumption) (by assumption) (by assumption) (by assumption) (by assumption) | exact evF_81 (by assumption) (by assumption) (by assumption) (by assumption) (by assumption) (by assumption)
  rw [e0] at hK
  exact hK
 replace h5 : e.kind ≠ 4 := (ne_of_beq_false h5)
 refine awp_reg2_seq [] [2, 3, 4, 79] (by decide) ?_
 intro K1 hK1
 refine ⟨trivial, trivial, ?_⟩
 show K1 [(2, .ptr ⟨b1, 0, none⟩), (3, .ptr ⟨b2, 0, none⟩), (4, .ptr ⟨b3, 0, none⟩), (79, .bool (e.kind == 7))] (AMem.wth m [(b3, zO), (b2, .cells [.map bi, .map br, .map bf]), (b1, expO e), (bi, vmO en), (br, vmO rs), (bf, nmO)])
 refine hK1 _ _ ?_; clear hK1 K1
 refine awp_cond rfl rfl (fun h6 => ?_) (fun h6 => ?_)
 ·
  replace h6 : e.kind = 7 := (eq_of_beq h6)
  refine awp_seq_k ?_; intro K4 hK4
  refine awp_reg2_seq [] [2, 3, 4, 84] (by decide) ?_
  intro K1 hK1
  refine ⟨⟨rfl, by decide⟩, ?_⟩
  refine ar_loadp rfl (v := .slice false (e.a.map expIn)) rfl (wth_get 2 hNb3 rfl) rfl (apartOk_one rfl rfl (Nat.le_of_ble_eq_true rfl)) rfl ?_
  refine ar_len rfl expIn e.a rfl rfl rfl ?_
  refine ⟨trivial, ?_⟩
  show K1 [(2, .ptr ⟨b1, 0, none⟩), (3, .ptr ⟨b2, 0, none⟩), (4, .ptr ⟨b3, 0, none⟩), (84, .bool (!((e.a.length : Int) == 3)))] (AMem.wth m [(b3, zO), (b2, .cells [.map bi, .map br, .map bf]), (b1, expO e), (bi, vmO en), (br, vmO rs), (bf, nmO)])
  refine hK1 _ _ ?_; clear hK1 K1
  refine awp_cond rfl rfl (fun h7 => ?_) (fun h7 => ?_)
  ·
   replace h7 : (e.a.length : Int) ≠ 3 := (ne_of_beq_false (bnT h7))
   refine awp_reg2_seq [] [4, 5] (by decide) ?_
   intro K1 hK1
   refine ⟨⟨rfl, by simp only [List.forall_mem_cons]; exact ⟨rfl, rfl, rfl, rfl, rfl, fun _ h => by cases h⟩, fun _ h => by cases h⟩, trivial, ?_⟩
   refine ar_storep rfl 0 (v := .agg [.int .i64 0, .int .i64 0, .str ([]), .slice true [], .slice true []]) (l' := [.int .i64 0, .int .i64 0, .str ([]), .slice true [], .slice true []]) rfl rfl hNb3 rfl rfl rfl rfl rfl (Nat.le_of_ble_eq_true rfl) rfl ?_
   refine ⟨trivial, ?_⟩
   show K1 [(4, .ptr ⟨b3, 0, none⟩), (5, .iface 67 (.int .i64 3))] (AMem.wth m [(b3, zO), (b2, .cells [.map bi, .map br, .map bf]), (b1, expO e), (bi, vmO en), (br, vmO rs), (bf, nmO)])
   refine hK1 _ _ ?_; clear hK1 K1
   refine awp_toErr 67 [5] ?_
   show AWP _ _ _ _ [(4, .ptr ⟨b3, 0, none⟩), (5, .err 67 3)] (AMem.wth m [(b3, zO), (b2, .cells [.map bi, .map br, .map bf]), (b1, expO e), (bi, vmO en), (br, vmO rs), (bf, nmO)])
   refine awp_ret ?_
   refine resK_cell2 (fn := Try.f16) (a := 4) (t := 25) (s := 5) (b := b3) (off := 0) rfl rfl (wth_get  (m := m) (L := [(b3, zO), (b2, .cells [.map bi, .map br, .map bf]), (b1, expO e), (bi, vmO en), (br, vmO rs), (bf, nmO)]) 0 hNb3 rfl) (apartOk_agg rfl rfl (Nat.le_of_ble_eq_true rfl)) (.agg [.int .i64 0, .int .i64 0, .str ([]), .slice false [], .slice false []]) (.err 67 3) rfl rfl (.err 67 3) rfl (AMem.wth m [(bi, vmO en), (br, vmO rs), (bf, nmO)]) ((wth_sub2 (m := m) [(b3, zO), (b2, .cells [.map bi, .map br, .map bf]), (b1, expO e)] [(bi, vmO en), (br, vmO rs), (bf, nmO)] hNb3 (by simp only [List.map_cons, List.map_nil, List.forall_mem_cons]; exact ⟨hFb3, hFb2, hFb1, fun _ h => by cases h⟩))) ?_
   show K (.tuple [.agg [.int .i64 0, .int .i64 0, .str ([]), .slice false [], .slice false []], .err 67 3]) (AMem.wth m [(bi, vmO en), (br, vmO rs), (bf, nmO)])
  
   have e0 : evF en rs (k + 1) e = (((⟨0, 0, [], [], []⟩ : Val), 3) : Val × Int) := by
    first | exact evF_1 (by assumption) | exact evF_2 (by assumption) | exact evF_30 (by assumption) (by assumption) | exact evF_31 (by assumption) (by assumption) | exact evF_4 (by assumption) | exact evF_70 (by assumption) (by assumption) | exact evF_71 (by assumption) (by assumption) (by assumption) | exact evF_72 (by assumption) (by assumption) (by assumption) (by assumption) | exact evF_73 (by assumption) (by assumption) (by assumption) (by assumption) | exact evF_80 (by assumption) (by assumption) (by assumption) (by assumption) (by assumption) (by assumption) | exact evF_81 (by assumption) (by assumption) (by assumption) (by assumption) (by assumption) (by assumption)
   rw [e0] at hK
   exact hK
  replace h7 : (e.a.length : Int) = 3 := (eq_of_beq (bnF h7))
  refine awp_skip ?_
  refine hK4 _ _ ?_; clear hK4
  refine awp_anyA_seq Try.mixed [2, 3, 4, 12, 13] (by decide) ?_
  intro K1 hK1
  intro A hA
  suffices key : ∀ (b43 : Nat) (hFb43 : m b43 = none) (hNv1 : ([b43, b3, b2, b1, bi, br, bf] : List Nat).Nodup), K1 [(2, .ptr ⟨b1, 0, none⟩), (3, .ptr ⟨b2, 0, none⟩), (4, .ptr ⟨b3, 0, none⟩), (12, .ptr ⟨b43, 0, none⟩), (13, .err 67 ((gE en rs k (gI e.a 0)).2))] (AMem.wth m [(b43, valO ((gE en rs k (gI e.a 0)).1)), (b3, zO), (b2, .cells [.map bi, .map br, .map bf]), (b1, expO e), (bi, vmO en), (br, vmO rs), (bf, nmO)]) by
   have s0 : ∀ (b43 : Nat) (hFb43 : m b43 = none) (hNv1 : ([b43, b3, b2, b1, bi, br, bf] : List Nat).Nodup), A 0 #[true, true, true, true, true, true, true, true, true, true, true, true] (fun fr m => K1 (fr.keep [2, 3, 4, 12, 13]) m) [(2, .ptr ⟨b1, 0, none⟩), (3, .ptr ⟨b2, 0, none⟩), (4, .ptr ⟨b3, 0, none⟩), (12, .ptr ⟨b43, 0, none⟩), (13, .err 67 ((gE en rs k (gI e.a 0)).2))] (AMem.wth m [(b43, valO ((gE en rs k (gI e.a 0)).1)), (b3, zO), (b2, .cells [.map bi, .map br, .map bf]), (b1, expO e), (bi, vmO en), (br, vmO rs), (bf, nmO)]) := by
    intro b43 hFb43 hNv1
    subst hA
    exact AAny.done (by decide +kernel) (key b43 hFb43 hNv1)
   have s1 : ∀ (b43 : Nat) (hFb43 : m b43 = none) (hNv1 : ([b43, b3, b2, b1, bi, br, bf] : List Nat).Nodup), A 1 #[true, true, true, true, true, true, true, true, true, true, true, false] (fun fr m => K1 (fr.keep [2, 3, 4, 12, 13]) m) [(2, .ptr ⟨b1, 0, none⟩), (3, .ptr ⟨b2, 0, none⟩), (4, .ptr ⟨b3, 0, none⟩), (12, .ptr ⟨b43, 0, none⟩), (95, .err 67 ((gE en rs k (gI e.a 0)).2))] (AMem.wth m [(b43, valO ((gE en rs k (gI e.a 0)).1)), (b3, zO), (b2, .cells [.map bi, .map br, .map bf]), (b1, expO e), (bi, vmO en), (br, vmO rs), (bf, nmO)]) := by
    intro b43 hFb43 hNv1
    subst hA
    refine AAny.step [] [11] (by decide +kernel) (by simp) (by decide) ⟨?_, trivial⟩
    ·
     show aopsR _ _ _ [_] _ _ _
     refine ⟨trivial, ?_⟩
     refine AAny.keep [2, 3, 4, 12, 13] (by decide) ?_
     exact s0 b43 hFb43 hNv1
   clear s0
   have s2 : ∀ (b43 : Nat) (hFb43 : m b43 = none) (hNv1 : ([b43, b3, b2, b1, bi, br, bf] : List Nat).Nodup), A 2 #[true, true, true, true, true, true, true, true, true, true, false, false] (fun fr m => K1 (fr.keep [2, 3, 4, 12, 13]) m) [(2, .ptr ⟨b1, 0, none⟩), (3, .ptr ⟨b2, 0, none⟩), (4, .ptr ⟨b3, 0, none⟩), (12, .ptr ⟨b43, 0, none⟩), (94, valTop ((gE en rs k (gI e.a 0)).1)), (95, .err 67 ((gE en rs k (gI e.a 0)).2))] (AMem.wth m [(b43, zO), (b3, zO), (b2, .cells [.map bi, .map br, .map bf]), (b1, expO e), (bi, vmO en), (br, vmO rs), (bf, nmO)]) := by
    intro b43 hFb43 hNv1
    subst hA
    refine AAny.step [] [10] (by decide +kernel) (by simp) (by decide) ⟨?_, trivial⟩
    ·
     show aopsR _ _ _ [_] _ _ _
     refine ar_storep rfl 0 (v := valTop ((gE en rs k (gI e.a 0)).1)) (l' := [.int .i64 (((gE en rs k (gI e.a 0)).1).kind), .int .i64 (((gE en rs k (gI e.a 0)).1).n), .str (((gE en rs k (gI e.a 0)).1).s), .slice false ((((gE en rs k (gI e.a 0)).1).l).map valIn), .slice false ((((gE en rs k (gI e.a 0)).1).f).map fldIn)]) rfl (by rfl) hNv1 rfl rfl rfl rfl rfl (Nat.le_of_ble_eq_true rfl) rfl ?_
     refine AAny.keep [2, 3, 4, 12, 95] (by decide) ?_
     exact s1 b43 hFb43 hNv1
   have s3 : ∀ (b43 : Nat) (hFb43 : m b43 = none) (hNv1 : ([b43, b3, b2, b1, bi, br, bf] : List Nat).Nodup), A 2 #[true, true, true, true, true, true, true, true, false, true, true, false] (fun fr m => K1 (fr.keep [2, 3, 4, 12, 13]) m) [(2, .ptr ⟨b1, 0, none⟩), (3, .ptr ⟨b2, 0, none⟩), (4, .ptr ⟨b3, 0, none⟩), (12, .ptr ⟨b43, 0, none⟩), (87, .tuple [valTop ((gE en rs k (gI e.a 0)).1), .err 67 ((gE en rs k (gI e.a 0)).2)])] (AMem.wth m [(b43, valO ((gE en rs k (gI e.a 0)).1)), (b3, zO), (b2, .cells [.map bi, .map br, .map bf]), (b1, expO e), (bi, vmO en), (br, vmO rs), (bf, nmO)]) := by
    intro b43 hFb43 hNv1
    subst hA
    refine AAny.step [] [8] (by decide +kernel) (by simp) (by decide) ⟨?_, trivial⟩
    ·
     show aopsR _ _ _ [_] _ _ _
     refine ⟨(Nat.le_of_ble_eq_true rfl), ?_⟩
     refine AAny.keep [2, 3, 4, 12, 95] (by decide) ?_
     exact s1 b43 hFb43 hNv1
   clear s1
   have s4 : ∀ (_ : True), A 3 #[true, true, true, true, true, true, true, true, true, false, false, false] (fun fr m => K1 (fr.keep [2, 3, 4, 12, 13]) m) [(2, .ptr ⟨b1, 0, none⟩), (3, .ptr ⟨b2, 0, none⟩), (4, .ptr ⟨b3, 0, none⟩), (94, valTop ((gE en rs k (gI e.a 0)).1)), (95, .err 67 ((gE en rs k (gI e.a 0)).2))] (AMem.wth m [(b3, zO), (b2, .cells [.map bi, .map br, .map bf]), (b1, expO e), (bi, vmO en), (br, vmO rs), (bf, nmO)]) := by
    intro _
    subst hA
    refine AAny.step [] [9] (by decide +kernel) (by simp) (by decide) ⟨?_, trivial⟩
    ·
     show aopsR _ _ _ [_] _ _ _
     refine ar_alloc rfl (z := .agg [.int .i64 0, .int .i64 0, .str ([]), .slice true [], .slice true []]) rfl rfl ?_
     intro b43 hb43
     have hFb43 : m b43 = none := wth_none hb43
     have hNb43 : ([b43, b3, b2, b1, bi, br, bf] : List Nat).Nodup := wth_nodup hb43 hNb3
     refine AAny.keep [2, 3, 4, 12, 94, 95] (by decide) ?_
     exact s2 b43 hFb43 hNb43
   have s5 : ∀ (b43 : Nat) (hFb43 : m b43 = none) (hNv1 : ([b43, b3, b2, b1, bi, br, bf] : List Nat).Nodup), A 3 #[true, true, true, true, true, true, true, true, false, true, false, false] (fun fr m => K1 (fr.keep [2, 3, 4, 12, 13]) m) [(2, .ptr ⟨b1, 0, none⟩), (3, .ptr ⟨b2, 0, none⟩), (4, .ptr ⟨b3, 0, none⟩), (12, .ptr ⟨b43, 0, none⟩), (87, .tuple [valTop ((gE en rs k (gI e.a 0)).1), .err 67 ((gE en rs k (gI e.a 0)).2)]), (94, valTop ((gE en rs k (gI e.a 0)).1))] (AMem.wth m [(b43, zO), (b3, zO), (b2, .cells [.map bi, .map br, .map bf]), (b1, expO e), (bi, vmO en), (br, vmO rs), (bf, nmO)]) := by
    intro b43 hFb43 hNv1
    subst hA
    refine AAny.step [] [8, 10] (by decide +kernel) (by simp) (by decide) ⟨?_, ?_, trivial⟩
    ·
     show aopsR _ _ _ [_] _ _ _
     refine ⟨(Nat.le_of_ble_eq_true rfl), ?_⟩
     refine AAny.keep [2, 3, 4, 12, 94, 95] (by decide) ?_
     exact s2 b43 hFb43 hNv1
    ·
     show aopsR _ _ _ [_] _ _ _
     refine ar_storep rfl 0 (v := valTop ((gE en rs k (gI e.a 0)).1)) (l' := [.int .i64 (((gE en rs k (gI e.a 0)).1).kind), .int .i64 (((gE en rs k (gI e.a 0)).1).n), .str (((gE en rs k (gI e.a 0)).1).s), .slice false ((((gE en rs k (gI e.a 0)).1).l).map valIn), .slice false ((((gE en rs k (gI e.a 0)).1).f).map fldIn)]) rfl (by rfl) hNv1 rfl rfl rfl rfl rfl (Nat.le_of_ble_eq_true rfl) rfl ?_
     refine AAny.keep [2, 3, 4, 12, 87] (by decide) ?_
     exact s3 b43 hFb43 hNv1
   clear s3
   have s6 : ∀ (b43 : Nat) (hFb43 : m b43 = none) (hNv1 : ([b43, b3, b2, b1, bi, br, bf] : List Nat).Nodup), A 3 #[true, true, true, true, true, true, true, false, true, true, false, false] (fun fr m => K1 (fr.keep [2, 3, 4, 12, 13]) m) [(2, .ptr ⟨b1, 0, none⟩), (3, .ptr ⟨b2, 0, none⟩), (4, .ptr ⟨b3, 0, none⟩), (12, .ptr ⟨b43, 0, none⟩), (87, .tuple [valTop ((gE en rs k (gI e.a 0)).1), .err 67 ((gE en rs k (gI e.a 0)).2)]), (95, .err 67 ((gE en rs k (gI e.a 0)).2))] (AMem.wth m [(b43, zO), (b3, zO), (b2, .cells [.map bi, .map br, .map bf]), (b1, expO e), (bi, vmO en), (br, vmO rs), (bf, nmO)]) := by
    intro b43 hFb43 hNv1
    subst hA
    refine AAny.step [] [7] (by decide +kernel) (by simp) (by decide) ⟨?_, trivial⟩
    ·
     show aopsR _ _ _ [_] _ _ _
     refine ⟨(Nat.le_of_ble_eq_true rfl), ?_⟩
     refine AAny.keep [2, 3, 4, 12, 94, 95] (by decide) ?_
     exact s2 b43 hFb43 hNv1
   clear s2
   have s7 : ∀ (_ : True), A 4 #[true, true, true, true, true, true, true, true, false, false, false, false] (fun fr m => K1 (fr.keep [2, 3, 4, 12, 13]) m) [(2, .ptr ⟨b1, 0, none⟩), (3, .ptr ⟨b2, 0, none⟩), (4, .ptr ⟨b3, 0, none⟩), (87, .tuple [valTop ((gE en rs k (gI e.a 0)).1), .err 67 ((gE en rs k (gI e.a 0)).2)]), (94, valTop ((gE en rs k (gI e.a 0)).1))] (AMem.wth m [(b3, zO), (b2, .cells [.map bi, .map br, .map bf]), (b1, expO e), (bi, vmO en), (br, vmO rs), (bf, nmO)]) := by
    intro _
    subst hA
    refine AAny.step [] [8, 9] (by decide +kernel) (by simp) (by decide) ⟨?_, ?_, trivial⟩
    ·
     show aopsR _ _ _ [_] _ _ _
     refine ⟨(Nat.le_of_ble_eq_true rfl), ?_⟩
     refine AAny.keep [2, 3, 4, 94, 95] (by decide) ?_
     exact s4 trivial
    ·
     show aopsR _ _ _ [_] _ _ _
     refine ar_alloc rfl (z := .agg [.int .i64 0, .int .i64 0, .str ([]), .slice true [], .slice true []]) rfl rfl ?_
     intro b43 hb43
     have hFb43 : m b43 = none := wth_none hb43
     have hNb43 : ([b43, b3, b2, b1, bi, br, bf] : List Nat).Nodup := wth_nodup hb43 hNb3
     refine AAny.keep [2, 3, 4, 12, 87, 94] (by decide) ?_
     exact s5 b43 hFb43 hNb43
   have s8 : ∀ (_ : True), A 4 #[true, true, true, true, true, true, true, false, true, false, false, false] (fun fr m => K1 (fr.keep [2, 3, 4, 12, 13]) m) [(2, .ptr ⟨b1, 0, none⟩), (3, .ptr ⟨b2, 0, none⟩), (4, .ptr ⟨b3, 0, none⟩), (87, .tuple [valTop ((gE en rs k (gI e.a 0)).1), .err 67 ((gE en rs k (gI e.a 0)).2)]), (95, .err 67 ((gE en rs k (gI e.a 0)).2))] (AMem.wth m [(b3, zO), (b2, .cells [.map bi, .map br, .map bf]), (b1, expO e), (bi, vmO en), (br, vmO rs), (bf, nmO)]) := by
    intro _
    subst hA
    refine AAny.step [] [7, 9] (by decide +kernel) (by simp) (by decide) ⟨?_, ?_, trivial⟩
    ·
     show aopsR _ _ _ [_] _ _ _
     refine ⟨(Nat.le_of_ble_eq_true rfl), ?_⟩
     refine AAny.keep [2, 3, 4, 94, 95] (by decide) ?_
     exact s4 trivial
    ·
     show aopsR _ _ _ [_] _ _ _
     refine ar_alloc rfl (z := .agg [.int .i64 0, .int .i64 0, .str ([]), .slice true [], .slice true []]) rfl rfl ?_
     intro b43 hb43
     have hFb43 : m b43 = none := wth_none hb43
     have hNb43 : ([b43, b3, b2, b1, bi, br, bf] : List Nat).Nodup := wth_nodup hb43 hNb3
     refine AAny.keep [2, 3, 4, 12, 87, 95] (by decide) ?_
     exact s6 b43 hFb43 hNb43
   clear s4
   have s9 : ∀ (b43 : Nat) (hFb43 : m b43 = none) (hNv1 : ([b43, b3, b2, b1, bi, br, bf] : List Nat).Nodup), A 4 #[true, true, true, true, true, true, true, false, false, true, false, false] (fun fr m => K1 (fr.keep [2, 3, 4, 12, 13]) m) [(2, .ptr ⟨b1, 0, none⟩), (3, .ptr ⟨b2, 0, none⟩), (4, .ptr ⟨b3, 0, none⟩), (12, .ptr ⟨b43, 0, none⟩), (87, .tuple [valTop ((gE en rs k (gI e.a 0)).1), .err 67 ((gE en rs k (gI e.a 0)).2)])] (AMem.wth m [(b43, zO), (b3, zO), (b2, .cells [.map bi, .map br, .map bf]), (b1, expO e), (bi, vmO en), (br, vmO rs), (bf, nmO)]) := by
    intro b43 hFb43 hNv1
    subst hA
    refine AAny.step [] [7, 8] (by decide +kernel) (by simp) (by decide) ⟨?_, ?_, trivial⟩
    ·
     show aopsR _ _ _ [_] _ _ _
     refine ⟨(Nat.le_of_ble_eq_true rfl), ?_⟩
     refine AAny.keep [2, 3, 4, 12, 87, 94] (by decide) ?_
     exact s5 b43 hFb43 hNv1
    ·
     show aopsR _ _ _ [_] _ _ _
     refine ⟨(Nat.le_of_ble_eq_true rfl), ?_⟩
     refine AAny.keep [2, 3, 4, 12, 87, 95] (by decide) ?_
     exact s6 b43 hFb43 hNv1
   clear s5 s6
   have s10 : ∀ (_ : True), A 5 #[true, true, true, true, true, true, true, false, false, false, false, false] (fun fr m => K1 (fr.keep [2, 3, 4, 12, 13]) m) [(2, .ptr ⟨b1, 0, none⟩), (3, .ptr ⟨b2, 0, none⟩), (4, .ptr ⟨b3, 0, none⟩), (87, .tuple [valTop ((gE en rs k (gI e.a 0)).1), .err 67 ((gE en rs k (gI e.a 0)).2)])] (AMem.wth m [(b3, zO), (b2, .cells [.map bi, .map br, .map bf]), (b1, expO e), (bi, vmO en), (br, vmO rs), (bf, nmO)]) := by
    intro _
    subst hA
    refine AAny.step [] [7, 8, 9] (by decide +kernel) (by simp) (by decide) ⟨?_, ?_, ?_, trivial⟩
    ·
     show aopsR _ _ _ [_] _ _ _
     refine ⟨(Nat.le_of_ble_eq_true rfl), ?_⟩
     refine AAny.keep [2, 3, 4, 87, 94] (by decide) ?_
     exact s7 trivial
    ·
     show aopsR _ _ _ [_] _ _ _
     refine ⟨(Nat.le_of_ble_eq_true rfl), ?_⟩
     refine AAny.keep [2, 3, 4, 87, 95] (by decide) ?_
     exact s8 trivial
    ·
     show aopsR _ _ _ [_] _ _ _
     refine ar_alloc rfl (z := .agg [.int .i64 0, .int .i64 0, .str ([]), .slice true [], .slice true []]) rfl rfl ?_
     intro b43 hb43
     have hFb43 : m b43 = none := wth_none hb43
     have hNb43 : ([b43, b3, b2, b1, bi, br, bf] : List Nat).Nodup := wth_nodup hb43 hNb3
     refine AAny.keep [2, 3, 4, 12, 87] (by decide) ?_
     exact s9 b43 hFb43 hNb43
   clear s7 s8
   have s11 : ∀ (b43 : Nat) (hFb43 : m b43 = none) (hNv1 : ([b43, b3, b2, b1, bi, br, bf] : List Nat).Nodup), A 5 #[true, true, true, true, true, true, false, false, false, true, false, false] (fun fr m => K1 (fr.keep [2, 3, 4, 12, 13]) m) [(2, .ptr ⟨b1, 0, none⟩), (3, .ptr ⟨b2, 0, none⟩), (4, .ptr ⟨b3, 0, none⟩), (12, .ptr ⟨b43, 0, none⟩), (93, .tuple [valTop ((gE en rs k (gI e.a 0)).1), .err 67 ((gE en rs k (gI e.a 0)).2)])] (AMem.wth m [(b43, zO), (b3, zO), (b2, .cells [.map bi, .map br, .map bf]), (b1, expO e), (bi, vmO en), (br, vmO rs), (bf, nmO)]) := by
    intro b43 hFb43 hNv1
    subst hA
    refine AAny.step [] [6] (by decide +kernel) (by simp) (by decide) ⟨?_, trivial⟩
    ·
     show aopsR _ _ _ [_] _ _ _
     refine ⟨trivial, ?_⟩
     refine AAny.keep [2, 3, 4, 12, 87] (by decide) ?_
     exact s9 b43 hFb43 hNv1
   clear s9
   have s12 : ∀ (_ : True), A 6 #[true, true, true, true, true, true, false, false, false, false, false, false] (fun fr m => K1 (fr.keep [2, 3, 4, 12, 13]) m) [(2, .ptr ⟨b1, 0, none⟩), (3, .ptr ⟨b2, 0, none⟩), (4, .ptr ⟨b3, 0, none⟩), (93, .tuple [valTop ((gE en rs k (gI e.a 0)).1), .err 67 ((gE en rs k (gI e.a 0)).2)])] (AMem.wth m [(b3, zO), (b2, .cells [.map bi, .map br, .map bf]), (b1, expO e), (bi, vmO en), (br, vmO rs), (bf, nmO)]) := by
    intro _
    subst hA
    refine AAny.step [] [6, 9] (by decide +kernel) (by simp) (by decide) ⟨?_, ?_, trivial⟩
    ·
     show aopsR _ _ _ [_] _ _ _
     refine ⟨trivial, ?_⟩
     refine AAny.keep [2, 3, 4, 87] (by decide) ?_
     exact s10 trivial
    ·
     show aopsR _ _ _ [_] _ _ _
     refine ar_alloc rfl (z := .agg [.int .i64 0, .int .i64 0, .str ([]), .slice true [], .slice true []]) rfl rfl ?_
     intro b43 hb43
     have hFb43 : m b43 = none := wth_none hb43
     have hNb43 : ([b43, b3, b2, b1, bi, br, bf] : List Nat).Nodup := wth_nodup hb43 hNb3
     refine AAny.keep [2, 3, 4, 12, 93] (by decide) ?_
     exact s11 b43 hFb43 hNb43
   clear s10
   have s13 : ∀ (b43 : Nat) (hFb43 : m b43 = none) (hNv1 : ([b43, b3, b2, b1, bi, br, bf] : List Nat).Nodup), A 6 #[true, true, true, true, true, false, false, false, false, true, false, false] (fun fr m => K1 (fr.keep [2, 3, 4, 12, 13]) m) [(2, .ptr ⟨b1, 0, none⟩), (3, .ptr ⟨b2, 0, none⟩), (4, .ptr ⟨b3, 0, none⟩), (12, .ptr ⟨b43, 0, none⟩), (91, expTop (gI e.a 0)), (92, .agg [.map bi, .map br, .map bf])] (AMem.wth m [(b43, zO), (b3, zO), (b2, .cells [.map bi, .map br, .map bf]), (b1, expO e), (bi, vmO en), (br, vmO rs), (bf, nmO)]) := by
    intro b43 hFb43 hNv1
    subst hA
    refine AAny.step [] [5] (by decide +kernel) (by simp) (by decide) ⟨?_, trivial⟩
    ·
     show aopsR _ _ _ [_] _ _ _
     refine ar_mem (wth_split hNv1 (pick_perm [4, 4, 4] _)) ?_
     refine u_Eval1 (gI e.a 0) bi br bf en rs (evF en rs k (gI e.a 0)) hN (ih _ (by have := depE_mem (gI_mem (l := e.a) (i := 0) (by omega) (by omega)); omega) (hoe.2 _ (gI_mem (by omega) (by omega)))) _ _ ?_
     show aopsR _ _ _ _ _ _ (AMem.wth (AMem.wth m [(b43, zO), (b3, zO), (b2, .cells [.map bi, .map br, .map bf]), (b1, expO e)]) [(bi, vmO en), (br, vmO rs), (bf, nmO)])
     refine ar_mem (wth_split (m := m) (L := [(b43, zO), (b3, zO), (b2, .cells [.map bi, .map br, .map bf]), (b1, expO e), (bi, vmO en), (br, vmO rs), (bf, nmO)]) hNv1 (pick_perm [4, 4, 4] _)).symm ?_
     refine AAny.keep [2, 3, 4, 12, 93] (by decide) ?_
     exact s11 b43 hFb43 hNv1
   clear s11
   have s14 : ∀ (_ : True), A 7 #[true, true, true, true, true, false, false, false, false, false, false, false] (fun fr m => K1 (fr.keep [2, 3, 4, 12, 13]) m) [(2, .ptr ⟨b1, 0, none⟩), (3, .ptr ⟨b2, 0, none⟩), (4, .ptr ⟨b3, 0, none⟩), (91, expTop (gI e.a 0)), (92, .agg [.map bi, .map br, .map bf])] (AMem.wth m [(b3, zO), (b2, .cells [.map bi, .map br, .map bf]), (b1, expO e), (bi, vmO en), (br, vmO rs), (bf, nmO)]) := by
    intro _
    subst hA
    refine AAny.step [] [5, 9] (by decide +kernel) (by simp) (by decide) ⟨?_, ?_, trivial⟩
    ·
     show aopsR _ _ _ [_] _ _ _
     refine ar_mem (wth_split hNb3 (pick_perm [3, 3, 3] _)) ?_
     refine u_Eval1 (gI e.a 0) bi br bf en rs (evF en rs k (gI e.a 0)) hN (ih _ (by have := depE_mem (gI_mem (l := e.a) (i := 0) (by omega) (by omega)); omega) (hoe.2 _ (gI_mem (by omega) (by omega)))) _ _ ?_
     show aopsR _ _ _ _ _ _ (AMem.wth (AMem.wth m [(b3, zO), (b2, .cells [.map bi, .map br, .map bf]), (b1, expO e)]) [(bi, vmO en), (br, vmO rs), (bf, nmO)])
     refine ar_mem (wth_split (m := m) (L := [(b3, zO), (b2, .cells [.map bi, .map br, .map bf]), (b1, expO e), (bi, vmO en), (br, vmO rs), (bf, nmO)]) hNb3 (pick_perm [3, 3, 3] _)).symm ?_
     refine AAny.keep [2, 3, 4, 93] (by decide) ?_
     exact s12 trivial
    ·
     show aopsR _ _ _ [_] _ _ _
     refine ar_alloc rfl (z := .agg [.int .i64 0, .int .i64 0, .str ([]), .slice true [], .slice true []]) rfl rfl ?_
     intro b43 hb43
     have hFb43 : m b43 = none := wth_none hb43
     have hNb43 : ([b43, b3, b2, b1, bi, br, bf] : List Nat).Nodup := wth_nodup hb43 hNb3
     refine AAny.keep [2, 3, 4, 12, 91, 92] (by decide) ?_
     exact s13 b43 hFb43 hNb43
   clear s12
   have s15 : ∀ (b43 : Nat) (hFb43 : m b43 = none) (hNv1 : ([b43, b3, b2, b1, bi, br, bf] : List Nat).Nodup), A 7 #[true, true, true, true, false, false, false, false, false, true, false, false] (fun fr m => K1 (fr.keep [2, 3, 4, 12, 13]) m) [(2, .ptr ⟨b1, 0, none⟩), (3, .ptr ⟨b2, 0, none⟩), (4, .ptr ⟨b3, 0, none⟩), (12, .ptr ⟨b43, 0, none⟩), (91, expTop (gI e.a 0))] (AMem.wth m [(b43, zO), (b3, zO), (b2, .cells [.map bi, .map br, .map bf]), (b1, expO e), (bi, vmO en), (br, vmO rs), (bf, nmO)]) := by
    intro b43 hFb43 hNv1
    subst hA
    refine AAny.step [] [4] (by decide +kernel) (by simp) (by decide) ⟨?_, trivial⟩
    ·
     show aopsR _ _ _ [_] _ _ _
     refine ar_loadp rfl (v := .agg [.map bi, .map br, .map bf]) rfl (wth_get 2 hNv1 rfl) rfl (apartOk_agg rfl rfl (Nat.le_of_ble_eq_true rfl)) rfl ?_
     refine AAny.keep [2, 3, 4, 12, 91, 92] (by decide) ?_
     exact s13 b43 hFb43 hNv1
   have s16 : ∀ (b43 : Nat) (hFb43 : m b43 = none) (hNv1 : ([b43, b3, b2, b1, bi, br, bf] : List Nat).Nodup), A 7 #[true, true, true, false, true, false, false, false, false, true, false, false] (fun fr m => K1 (fr.keep [2, 3, 4, 12, 13]) m) [(2, .ptr ⟨b1, 0, none⟩), (3, .ptr ⟨b2, 0, none⟩), (4, .ptr ⟨b3, 0, none⟩), (12, .ptr ⟨b43, 0, none⟩), (90, .ref (AV.cells (expTop (gI e.a 0)))), (92, .agg [.map bi, .map br, .map bf])] (AMem.wth m [(b43, zO), (b3, zO), (b2, .cells [.map bi, .map br, .map bf]), (b1, expO e), (bi, vmO en), (br, vmO rs), (bf, nmO)]) := by
    intro b43 hFb43 hNv1
    subst hA
    refine AAny.step [] [3] (by decide +kernel) (by simp) (by decide) ⟨?_, trivial⟩
    ·
     show aopsR _ _ _ [_] _ _ _
     refine ⟨(apartOk_agg rfl rfl (Nat.le_of_ble_eq_true rfl)), ?_⟩
     refine AAny.keep [2, 3, 4, 12, 91, 92] (by decide) ?_
     exact s13 b43 hFb43 hNv1
   clear s13
   have s17 : ∀ (_ : True), A 8 #[true, true, true, true, false, false, false, false, false, false, false, false] (fun fr m => K1 (fr.keep [2, 3, 4, 12, 13]) m) [(2, .ptr ⟨b1, 0, none⟩), (3, .ptr ⟨b2, 0, none⟩), (4, .ptr ⟨b3, 0, none⟩), (91, expTop (gI e.a 0))] (AMem.wth m [(b3, zO), (b2, .cells [.map bi, .map br, .map bf]), (b1, expO e), (bi, vmO en), (br, vmO rs), (bf, nmO)]) := by
    intro _
    subst hA
    refine AAny.step [] [4, 9] (by decide +kernel) (by simp) (by decide) ⟨?_, ?_, trivial⟩
    ·
     show aopsR _ _ _ [_] _ _ _
     refine ar_loadp rfl (v := .agg [.map bi, .map br, .map bf]) rfl (wth_get 1 hNb3 rfl) rfl (apartOk_agg rfl rfl (Nat.le_of_ble_eq_true rfl)) rfl ?_
     refine AAny.keep [2, 3, 4, 91, 92] (by decide) ?_
     exact s14 trivial
    ·
     show aopsR _ _ _ [_] _ _ _
     refine ar_alloc rfl (z := .agg [.int .i64 0, .int .i64 0, .str ([]), .slice true [], .slice true []]) rfl rfl ?_
     intro b43 hb43
     have hFb43 : m b43 = none := wth_none hb43
     have hNb43 : ([b43, b3, b2, b1, bi, br, bf] : List Nat).Nodup := wth_nodup hb43 hNb3
     refine AAny.keep [2, 3, 4, 12, 91] (by decide) ?_
     exact s15 b43 hFb43 hNb43
   have s18 : ∀ (_ : True), A 8 #[true, true, true, false, true, false, false, false, false, false, false, false] (fun fr m => K1 (fr.keep [2, 3, 4, 12, 13]) m) [(2, .ptr ⟨b1, 0, none⟩), (3, .ptr ⟨b2, 0, none⟩), (4, .ptr ⟨b3, 0, none⟩), (90, .ref (AV.cells (expTop (gI e.a 0)))), (92, .agg [.map bi, .map br, .map bf])] (AMem.wth m [(b3, zO), (b2, .cells [.map bi, .map br, .map bf]), (b1, expO e), (bi, vmO en), (br, vmO rs), (bf, nmO)]) := by
    intro _
    subst hA
    refine AAny.step [] [3, 9] (by decide +kernel) (by simp) (by decide) ⟨?_, ?_, trivial⟩
    ·
     show aopsR _ _ _ [_] _ _ _
     refine ⟨(apartOk_agg rfl rfl (Nat.le_of_ble_eq_true rfl)), ?_⟩
     refine AAny.keep [2, 3, 4, 91, 92] (by decide) ?_
     exact s14 trivial
    ·
     show aopsR _ _ _ [_] _ _ _
     refine ar_alloc rfl (z := .agg [.int .i64 0, .int .i64 0, .str ([]), .slice true [], .slice true []]) rfl rfl ?_
     intro b43 hb43
     have hFb43 : m b43 = none := wth_none hb43
     have hNb43 : ([b43, b3, b2, b1, bi, br, bf] : List Nat).Nodup := wth_nodup hb43 hNb3
     refine AAny.keep [2, 3, 4, 12, 90, 92] (by decide) ?_
     exact s16 b43 hFb43 hNb43
   clear s14
   have s19 : ∀ (b43 : Nat) (hFb43 : m b43 = none) (hNv1 : ([b43, b3, b2, b1, bi, br, bf] : List Nat).Nodup), A 8 #[true, true, true, false, false, false, false, false, false, true, false, false] (fun fr m => K1 (fr.keep [2, 3, 4, 12, 13]) m) [(2, .ptr ⟨b1, 0, none⟩), (3, .ptr ⟨b2, 0, none⟩), (4, .ptr ⟨b3, 0, none⟩), (12, .ptr ⟨b43, 0, none⟩), (90, .ref (AV.cells (expTop (gI e.a 0))))] (AMem.wth m [(b43, zO), (b3, zO), (b2, .cells [.map bi, .map br, .map bf]), (b1, expO e), (bi, vmO en), (br, vmO rs), (bf, nmO)]) := by
    intro b43 hFb43 hNv1
    subst hA
    refine AAny.step [] [3, 4] (by decide +kernel) (by simp) (by decide) ⟨?_, ?_, trivial⟩
    ·
     show aopsR _ _ _ [_] _ _ _
     refine ⟨(apartOk_agg rfl rfl (Nat.le_of_ble_eq_true rfl)), ?_⟩
     refine AAny.keep [2, 3, 4, 12, 91] (by decide) ?_
     exact s15 b43 hFb43 hNv1
    ·
     show aopsR _ _ _ [_] _ _ _
     refine ar_loadp rfl (v := .agg [.map bi, .map br, .map bf]) rfl (wth_get 2 hNv1 rfl) rfl (apartOk_agg rfl rfl (Nat.le_of_ble_eq_true rfl)) rfl ?_
     refine AAny.keep [2, 3, 4, 12, 90, 92] (by decide) ?_
     exact s16 b43 hFb43 hNv1
   clear s15
   have s20 : ∀ (b43 : Nat) (hFb43 : m b43 = none) (hNv1 : ([b43, b3, b2, b1, bi, br, bf] : List Nat).Nodup), A 8 #[true, true, false, false, true, false, false, false, false, true, false, false] (fun fr m => K1 (fr.keep [2, 3, 4, 12, 13]) m) [(2, .ptr ⟨b1, 0, none⟩), (3, .ptr ⟨b2, 0, none⟩), (4, .ptr ⟨b3, 0, none⟩), (12, .ptr ⟨b43, 0, none⟩), (89, .slice false (e.a.map expIn)), (92, .agg [.map bi, .map br, .map bf])] (AMem.wth m [(b43, zO), (b3, zO), (b2, .cells [.map bi, .map br, .map bf]), (b1, expO e), (bi, vmO en), (br, vmO rs), (bf, nmO)]) := by
    intro b43 hFb43 hNv1
    subst hA
    refine AAny.step [] [2] (by decide +kernel) (by simp) (by decide) ⟨?_, trivial⟩
    ·
     show aopsR _ _ _ [_] _ _ _
     refine ar_index rfl expTop e.a 0 rfl rfl (expMap e.a) rfl rfl (by decide) (fun _ => rfl) (by omega) (by omega) ?_
     refine AAny.keep [2, 3, 4, 12, 90, 92] (by decide) ?_
     exact s16 b43 hFb43 hNv1
   clear s16
   have s21 : ∀ (_ : True), A 9 #[true, true, true, false, false, false, false, false, false, false, false, false] (fun fr m => K1 (fr.keep [2, 3, 4, 12, 13]) m) [(2, .ptr ⟨b1, 0, none⟩), (3, .ptr ⟨b2, 0, none⟩), (4, .ptr ⟨b3, 0, none⟩), (90, .ref (AV.cells (expTop (gI e.a 0))))] (AMem.wth m [(b3, zO), (b2, .cells [.map bi, .map br, .map bf]), (b1, expO e), (bi, vmO en), (br, vmO rs), (bf, nmO)]) := by
    intro _
    subst hA
    refine AAny.step [] [3, 4, 9] (by decide +kernel) (by simp) (by decide) ⟨?_, ?_, ?_, trivial⟩
    ·
     show aopsR _ _ _ [_] _ _ _
     refine ⟨(apartOk_agg rfl rfl (Nat.le_of_ble_eq_true rfl)), ?_⟩
     refine AAny.keep [2, 3, 4, 91] (by decide) ?_
     exact s17 trivial
    ·
     show aopsR _ _ _ [_] _ _ _
     refine ar_loadp rfl (v := .agg [.map bi, .map br, .map bf]) rfl (wth_get 1 hNb3 rfl) rfl (apartOk_agg rfl rfl (Nat.le_of_ble_eq_true rfl)) rfl ?_
     refine AAny.keep [2, 3, 4, 90, 92] (by decide) ?_
     exact s18 trivial
    ·
     show aopsR _ _ _ [_] _ _ _
     refine ar_alloc rfl (z := .agg [.int .i64 0, .int .i64 0, .str ([]), .slice true [], .slice true []]) rfl rfl ?_
     intro b43 hb43
     have hFb43 : m b43 = none := wth_none hb43
     have hNb43 : ([b43, b3, b2, b1, bi, br, bf] : List Nat).Nodup := wth_nodup hb43 hNb3
     refine AAny.keep [2, 3, 4, 12, 90] (by decide) ?_
     exact s19 b43 hFb43 hNb43
   clear s17
   have s22 : ∀ (_ : True), A 9 #[true, true, false, false, true, false, false, false, false, false, false, false] (fun fr m => K1 (fr.keep [2, 3, 4, 12, 13]) m) [(2, .ptr ⟨b1, 0, none⟩), (3, .ptr ⟨b2, 0, none⟩), (4, .ptr ⟨b3, 0, none⟩), (89, .slice false (e.a.map expIn)), (92, .agg [.map bi, .map br, .map bf])] (AMem.wth m [(b3, zO), (b2, .cells [.map bi, .map br, .map bf]), (b1, expO e), (bi, vmO en), (br, vmO rs), (bf, nmO)]) := by
    intro _
    subst hA
    refine AAny.step [] [2, 9] (by decide +kernel) (by simp) (by decide) ⟨?_, ?_, trivial⟩
    ·
     show aopsR _ _ _ [_] _ _ _
     refine ar_index rfl expTop e.a 0 rfl rfl (expMap e.a) rfl rfl (by decide) (fun _ => rfl) (by omega) (by omega) ?_
     refine AAny.keep [2, 3, 4, 90, 92] (by decide) ?_
     exact s18 trivial
    ·
     show aopsR _ _ _ [_] _ _ _
     refine ar_alloc rfl (z := .agg [.int .i64 0, .int .i64 0, .str ([]), .slice true [], .slice true []]) rfl rfl ?_
     intro b43 hb43
     have hFb43 : m b43 = none := wth_none hb43
     have hNb43 : ([b43, b3, b2, b1, bi, br, bf] : List Nat).Nodup := wth_nodup hb43 hNb3
     refine AAny.keep [2, 3, 4, 12, 89, 92] (by decide) ?_
     exact s20 b43 hFb43 hNb43
   clear s18
   have s23 : ∀ (b43 : Nat) (hFb43 : m b43 = none) (hNv1 : ([b43, b3, b2, b1, bi, br, bf] : List Nat).Nodup), A 9 #[true, true, false, false, false, false, false, false, false, true, false, false] (fun fr m => K1 (fr.keep [2, 3, 4, 12, 13]) m) [(2, .ptr ⟨b1, 0, none⟩), (3, .ptr ⟨b2, 0, none⟩), (4, .ptr ⟨b3, 0, none⟩), (12, .ptr ⟨b43, 0, none⟩), (89, .slice false (e.a.map expIn))] (AMem.wth m [(b43, zO), (b3, zO), (b2, .cells [.map bi, .map br, .map bf]), (b1, expO e), (bi, vmO en), (br, vmO rs), (bf, nmO)]) := by
    intro b43 hFb43 hNv1
    subst hA
    refine AAny.step [] [2, 4] (by decide +kernel) (by simp) (by decide) ⟨?_, ?_, trivial⟩
    ·
     show aopsR _ _ _ [_] _ _ _
     refine ar_index rfl expTop e.a 0 rfl rfl (expMap e.a) rfl rfl (by decide) (fun _ => rfl) (by omega) (by omega) ?_
     refine AAny.keep [2, 3, 4, 12, 90] (by decide) ?_
     exact s19 b43 hFb43 hNv1
    ·
     show aopsR _ _ _ [_] _ _ _
     refine ar_loadp rfl (v := .agg [.map bi, .map br, .map bf]) rfl (wth_get 2 hNv1 rfl) rfl (apartOk_agg rfl rfl (Nat.le_of_ble_eq_true rfl)) rfl ?_
     refine AAny.keep [2, 3, 4, 12, 89, 92] (by decide) ?_
     exact s20 b43 hFb43 hNv1
   clear s19
   have s24 : ∀ (b43 : Nat) (hFb43 : m b43 = none) (hNv1 : ([b43, b3, b2, b1, bi, br, bf] : List Nat).Nodup), A 9 #[true, false, false, false, true, false, false, false, false, true, false, false] (fun fr m => K1 (fr.keep [2, 3, 4, 12, 13]) m) [(2, .ptr ⟨b1, 0, none⟩), (3, .ptr ⟨b2, 0, none⟩), (4, .ptr ⟨b3, 0, none⟩), (12, .ptr ⟨b43, 0, none⟩), (88, .ptr ⟨b1, 8, none⟩), (92, .agg [.map bi, .map br, .map bf])] (AMem.wth m [(b43, zO), (b3, zO), (b2, .cells [.map bi, .map br, .map bf]), (b1, expO e), (bi, vmO en), (br, vmO rs), (bf, nmO)]) := by
    intro b43 hFb43 hNv1
    subst hA
    refine AAny.step [] [1] (by decide +kernel) (by simp) (by decide) ⟨?_, trivial⟩
    ·
     show aopsR _ _ _ [_] _ _ _
     refine ar_loadp rfl (v := .slice false (e.a.map expIn)) rfl (wth_get 3 hNv1 rfl) rfl (apartOk_one rfl rfl (Nat.le_of_ble_eq_true rfl)) rfl ?_
     refine AAny.keep [2, 3, 4, 12, 89, 92] (by decide) ?_
     exact s20 b43 hFb43 hNv1
   clear s20
   have s25 : ∀ (_ : True), A 10 #[true, true, false, false, false, false, false, false, false, false, false, false] (fun fr m => K1 (fr.keep [2, 3, 4, 12, 13]) m) [(2, .ptr ⟨b1, 0, none⟩), (3, .ptr ⟨b2, 0, none⟩), (4, .ptr ⟨b3, 0, none⟩), (89, .slice false (e.a.map expIn))] (AMem.wth m [(b3, zO), (b2, .cells [.map bi, .map br, .map bf]), (b1, expO e), (bi, vmO en), (br, vmO rs), (bf, nmO)]) := by
    intro _
    subst hA
    refine AAny.step [] [2, 4, 9] (by decide +kernel) (by simp) (by decide) ⟨?_, ?_, ?_, trivial⟩
    ·
     show aopsR _ _ _ [_] _ _ _
     refine ar_index rfl expTop e.a 0 rfl rfl (expMap e.a) rfl rfl (by decide) (fun _ => rfl) (by omega) (by omega) ?_
     refine AAny.keep [2, 3, 4, 90] (by decide) ?_
     exact s21 trivial
    ·
     show aopsR _ _ _ [_] _ _ _
     refine ar_loadp rfl (v := .agg [.map bi, .map br, .map bf]) rfl (wth_get 1 hNb3 rfl) rfl (apartOk_agg rfl rfl (Nat.le_of_ble_eq_true rfl)) rfl ?_
     refine AAny.keep [2, 3, 4, 89, 92] (by decide) ?_
     exact s22 trivial
    ·
     show aopsR _ _ _ [_] _ _ _
     refine ar_alloc rfl (z := .agg [.int .i64 0, .int .i64 0, .str ([]), .slice true [], .slice true []]) rfl rfl ?_
     intro b43 hb43
     have hFb43 : m b43 = none := wth_none hb43
     have hNb43 : ([b43, b3, b2, b1, bi, br, bf] : List Nat).Nodup := wth_nodup hb43 hNb3
     refine AAny.keep [2, 3, 4, 12, 89] (by decide) ?_
     exact s23 b43 hFb43 hNb43
   clear s21
   have s26 : ∀ (_ : True), A 10 #[true, false, false, false, true, false, false, false, false, false, false, false] (fun fr m => K1 (fr.keep [2, 3, 4, 12, 13]) m) [(2, .ptr ⟨b1, 0, none⟩), (3, .ptr ⟨b2, 0, none⟩), (4, .ptr ⟨b3, 0, none⟩), (88, .ptr ⟨b1, 8, none⟩), (92, .agg [.map bi, .map br, .map bf])] (AMem.wth m [(b3, zO), (b2, .cells [.map bi, .map br, .map bf]), (b1, expO e), (bi, vmO en), (br, vmO rs), (bf, nmO)]) := by
    intro _
    subst hA
    refine AAny.step [] [1, 9] (by decide +kernel) (by simp) (by decide) ⟨?_, ?_, trivial⟩
    ·
     show aopsR _ _ _ [_] _ _ _
     refine ar_loadp rfl (v := .slice false (e.a.map expIn)) rfl (wth_get 2 hNb3 rfl) rfl (apartOk_one rfl rfl (Nat.le_of_ble_eq_true rfl)) rfl ?_
     refine AAny.keep [2, 3, 4, 89, 92] (by decide) ?_
     exact s22 trivial
    ·
     show aopsR _ _ _ [_] _ _ _
     refine ar_alloc rfl (z := .agg [.int .i64 0, .int .i64 0, .str ([]), .slice true [], .slice true []]) rfl rfl ?_
     intro b43 hb43
     have hFb43 : m b43 = none := wth_none hb43
     have hNb43 : ([b43, b3, b2, b1, bi, br, bf] : List Nat).Nodup := wth_nodup hb43 hNb3
     refine AAny.keep [2, 3, 4, 12, 88, 92] (by decide) ?_
     exact s24 b43 hFb43 hNb43
   clear s22
   have s27 : ∀ (b43 : Nat) (hFb43 : m b43 = none) (hNv1 : ([b43, b3, b2, b1, bi, br, bf] : List Nat).Nodup), A 10 #[true, false, false, false, false, false, false, false, false, true, false, false] (fun fr m => K1 (fr.keep [2, 3, 4, 12, 13]) m) [(2, .ptr ⟨b1, 0, none⟩), (3, .ptr ⟨b2, 0, none⟩), (4, .ptr ⟨b3, 0, none⟩), (12, .ptr ⟨b43, 0, none⟩), (88, .ptr ⟨b1, 8, none⟩)] (AMem.wth m [(b43, zO), (b3, zO), (b2, .cells [.map bi, .map br, .map bf]), (b1, expO e), (bi, vmO en), (br, vmO rs), (bf, nmO)]) := by
    intro b43 hFb43 hNv1
    subst hA
    refine AAny.step [] [1, 4] (by decide +kernel) (by simp) (by decide) ⟨?_, ?_, trivial⟩
    ·
     show aopsR _ _ _ [_] _ _ _
     refine ar_loadp rfl (v := .slice false (e.a.map expIn)) rfl (wth_get 3 hNv1 rfl) rfl (apartOk_one rfl rfl (Nat.le_of_ble_eq_true rfl)) rfl ?_
     refine AAny.keep [2, 3, 4, 12, 89] (by decide) ?_
     exact s23 b43 hFb43 hNv1
    ·
     show aopsR _ _ _ [_] _ _ _
     refine ar_loadp rfl (v := .agg [.map bi, .map br, .map bf]) rfl (wth_get 2 hNv1 rfl) rfl (apartOk_agg rfl rfl (Nat.le_of_ble_eq_true rfl)) rfl ?_
     refine AAny.keep [2, 3, 4, 12, 88, 92] (by decide) ?_
     exact s24 b43 hFb43 hNv1
   clear s23
   have s28 : ∀ (b43 : Nat) (hFb43 : m b43 = none) (hNv1 : ([b43, b3, b2, b1, bi, br, bf] : List Nat).Nodup), A 10 #[false, false, false, false, true, false, false, false, false, true, false, false] (fun fr m => K1 (fr.keep [2, 3, 4, 12, 13]) m) [(2, .ptr ⟨b1, 0, none⟩), (3, .ptr ⟨b2, 0, none⟩), (4, .ptr ⟨b3, 0, none⟩), (12, .ptr ⟨b43, 0, none⟩), (92, .agg [.map bi, .map br, .map bf])] (AMem.wth m [(b43, zO), (b3, zO), (b2, .cells [.map bi, .map br, .map bf]), (b1, expO e), (bi, vmO en), (br, vmO rs), (bf, nmO)]) := by
    intro b43 hFb43 hNv1
    subst hA
    refine AAny.step [] [0] (by decide +kernel) (by simp) (by decide) ⟨?_, trivial⟩
    ·
     show aopsR _ _ _ [_] _ _ _
     refine ⟨⟨rfl, by decide⟩, ?_⟩
     refine AAny.keep [2, 3, 4, 12, 88, 92] (by decide) ?_
     exact s24 b43 hFb43 hNv1
   clear s24
   have s29 : ∀ (_ : True), A 11 #[true, false, false, false, false, false, false, false, false, false, false, false] (fun fr m => K1 (fr.keep [2, 3, 4, 12, 13]) m) [(2, .ptr ⟨b1, 0, none⟩), (3, .ptr ⟨b2, 0, none⟩), (4, .ptr ⟨b3, 0, none⟩), (88, .ptr ⟨b1, 8, none⟩)] (AMem.wth m [(b3, zO), (b2, .cells [.map bi, .map br, .map bf]), (b1, expO e), (bi, vmO en), (br, vmO rs), (bf, nmO)]) := by
    intro _
    subst hA
    refine AAny.step [] [1, 4, 9] (by decide +kernel) (by simp) (by decide) ⟨?_, ?_, ?_, trivial⟩
    ·
     show aopsR _ _ _ [_] _ _ _
     refine ar_loadp rfl (v := .slice false (e.a.map expIn)) rfl (wth_get 2 hNb3 rfl) rfl (apartOk_one rfl rfl (Nat.le_of_ble_eq_true rfl)) rfl ?_
     refine AAny.keep [2, 3, 4, 89] (by decide) ?_
     exact s25 trivial
    ·
     show aopsR _ _ _ [_] _ _ _
     refine ar_loadp rfl (v := .agg [.map bi, .map br, .map bf]) rfl (wth_get 1 hNb3 rfl) rfl (apartOk_agg rfl rfl (Nat.le_of_ble_eq_true rfl)) rfl ?_
     refine AAny.keep [2, 3, 4, 88, 92] (by decide) ?_
     exact s26 trivial
    ·
     show aopsR _ _ _ [_] _ _ _
     refine ar_alloc rfl (z := .agg [.int .i64 0, .int .i64 0, .str ([]), .slice true [], .slice true []]) rfl rfl ?_
     intro b43 hb43
     have hFb43 : m b43 = none := wth_none hb43
     have hNb43 : ([b43, b3, b2, b1, bi, br, bf] : List Nat).Nodup := wth_nodup hb43 hNb3
     refine AAny.keep [2, 3, 4, 12, 88] (by decide) ?_
     exact s27 b43 hFb43 hNb43
   clear s25
   have s30 : ∀ (_ : True), A 11 #[false, false, false, false, true, false, false, false, false, false, false, false] (fun fr m => K1 (fr.keep [2, 3, 4, 12, 13]) m) [(2, .ptr ⟨b1, 0, none⟩), (3, .ptr ⟨b2, 0, none⟩), (4, .ptr ⟨b3, 0, none⟩), (92, .agg [.map bi, .map br, .map bf])] (AMem.wth m [(b3, zO), (b2, .cells [.map bi, .map br, .map bf]), (b1, expO e), (bi, vmO en), (br, vmO rs), (bf, nmO)]) := by
    intro _
    subst hA
    refine AAny.step [] [0, 9] (by decide +kernel) (by simp) (by decide) ⟨?_, ?_, trivial⟩
    ·
     show aopsR _ _ _ [_] _ _ _
     refine ⟨⟨rfl, by decide⟩, ?_⟩
     refine AAny.keep [2, 3, 4, 88, 92] (by decide) ?_
     exact s26 trivial
    ·
     show aopsR _ _ _ [_] _ _ _
     refine ar_alloc rfl (z := .agg [.int .i64 0, .int .i64 0, .str ([]), .slice true [], .slice true []]) rfl rfl ?_
     intro b43 hb43
     have hFb43 : m b43 = none := wth_none hb43
     have hNb43 : ([b43, b3, b2, b1, bi, br, bf] : List Nat).Nodup := wth_nodup hb43 hNb3
     refine AAny.keep [2, 3, 4, 12, 92] (by decide) ?_
     exact s28 b43 hFb43 hNb43
   clear s26
   have s31 : ∀ (b43 : Nat) (hFb43 : m b43 = none) (hNv1 : ([b43, b3, b2, b1, bi, br, bf] : List Nat).Nodup), A 11 #[false, false, false, false, false, false, false, false, false, true, false, false] (fun fr m => K1 (fr.keep [2, 3, 4, 12, 13]) m) [(2, .ptr ⟨b1, 0, none⟩), (3, .ptr ⟨b2, 0, none⟩), (4, .ptr ⟨b3, 0, none⟩), (12, .ptr ⟨b43, 0, none⟩)] (AMem.wth m [(b43, zO), (b3, zO), (b2, .cells [.map bi, .map br, .map bf]), (b1, expO e), (bi, vmO en), (br, vmO rs), (bf, nmO)]) := by
    intro b43 hFb43 hNv1
    subst hA
    refine AAny.step [] [0, 4] (by decide +kernel) (by simp) (by decide) ⟨?_, ?_, trivial⟩
    ·
     show aopsR _ _ _ [_] _ _ _
     refine ⟨⟨rfl, by decide⟩, ?_⟩
     refine AAny.keep [2, 3, 4, 12, 88] (by decide) ?_
     exact s27 b43 hFb43 hNv1
    ·
     show aopsR _ _ _ [_] _ _ _
     refine ar_loadp rfl (v := .agg [.map bi, .map br, .map bf]) rfl (wth_get 2 hNv1 rfl) rfl (apartOk_agg rfl rfl (Nat.le_of_ble_eq_true rfl)) rfl ?_
     refine AAny.keep [2, 3, 4, 12, 92] (by decide) ?_
     exact s28 b43 hFb43 hNv1
   clear s27 s28
   have s32 : ∀ (_ : True), A 12 #[false, false, false, false, false, false, false, false, false, false, false, false] (fun fr m => K1 (fr.keep [2, 3, 4, 12, 13]) m) [(2, .ptr ⟨b1, 0, none⟩), (3, .ptr ⟨b2, 0, none⟩), (4, .ptr ⟨b3, 0, none⟩), (84, .bool (!((e.a.length : Int) == 3)))] (AMem.wth m [(b3, zO), (b2, .cells [.map bi, .map br, .map bf]), (b1, expO e), (bi, vmO en), (br, vmO rs), (bf, nmO)]) := by
    intro _
    subst hA
    refine AAny.step [] [0, 4, 9] (by decide +kernel) (by simp) (by decide) ⟨?_, ?_, ?_, trivial⟩
    ·
     show aopsR _ _ _ [_] _ _ _
     refine ⟨⟨rfl, by decide⟩, ?_⟩
     refine AAny.keep [2, 3, 4, 88] (by decide) ?_
     exact s29 trivial
    ·
     show aopsR _ _ _ [_] _ _ _
     refine ar_loadp rfl (v := .agg [.map bi, .map br, .map bf]) rfl (wth_get 1 hNb3 rfl) rfl (apartOk_agg rfl rfl (Nat.le_of_ble_eq_true rfl)) rfl ?_
     refine AAny.keep [2, 3, 4, 92] (by decide) ?_
     exact s30 trivial
    ·
     show aopsR _ _ _ [_] _ _ _
     refine ar_alloc rfl (z := .agg [.int .i64 0, .int .i64 0, .str ([]), .slice true [], .slice true []]) rfl rfl ?_
     intro b43 hb43
     have hFb43 : m b43 = none := wth_none hb43
     have hNb43 : ([b43, b3, b2, b1, bi, br, bf] : List Nat).Nodup := wth_nodup hb43 hNb3
     refine AAny.keep [2, 3, 4, 12] (by decide) ?_
     exact s31 b43 hFb43 hNb43
   clear s29 s30 s31
   exact s32 trivial
  intro b43 hFb43 hNv1
  refine hK1 _ _ ?_; clear hK1 K1
  refine awp_seq_k ?_; intro K5 hK5
  refine awp_reg2_seq [] [2, 3, 4, 12, 13, 97] (by decide) ?_
  intro K1 hK1
  refine ⟨trivial, ⟨rfl, rfl⟩, ?_⟩
  show K1 [(2, .ptr ⟨b1, 0, none⟩), (3, .ptr ⟨b2, 0, none⟩), (4, .ptr ⟨b3, 0, none⟩), (12, .ptr ⟨b43, 0, none⟩), (13, .err 67 ((gE en rs k (gI e.a 0)).2)), (97, .bool (!(((gE en rs k (gI e.a 0)).2) == 0)))] (AMem.wth m [(b43, valO ((gE en rs k (gI e.a 0)).1)), (b3, zO), (b2, .cells [.map bi, .map br, .map bf]), (b1, expO e), (bi, vmO en), (br, vmO rs), (bf, nmO)])
  refine hK1 _ _ ?_; clear hK1 K1
  refine awp_cond rfl rfl (fun h8 => ?_) (fun h8 => ?_)
  ·
   replace h8 : (gE en rs k (gI e.a 0)).2 ≠ 0 := (ne_of_beq_false (bnT h8))
   refine awp_reg2_seq [] [4, 5] (by decide) ?_
   intro K1 hK1
   refine ⟨⟨rfl, by simp only [List.forall_mem_cons]; exact ⟨rfl, rfl, rfl, rfl, rfl, fun _ h => by cases h⟩, fun _ h => by cases h⟩, trivial, ?_⟩
   refine ar_storep rfl 1 (v := .agg [.int .i64 0, .int .i64 0, .str ([]), .slice true [], .slice true []]) (l' := [.int .i64 0, .int .i64 0, .str ([]), .slice true [], .slice true []]) rfl rfl hNv1 rfl rfl rfl rfl rfl (Nat.le_of_ble_eq_true rfl) rfl ?_
   refine ⟨trivial, ?_⟩
   show K1 [(4, .ptr ⟨b3, 0, none⟩), (5, .err 67 ((gE en rs k (gI e.a 0)).2))] (AMem.wth m [(b43, valO ((gE en rs k (gI e.a 0)).1)), (b3, zO), (b2, .cells [.map bi, .map br, .map bf]), (b1, expO e), (bi, vmO en), (br, vmO rs), (bf, nmO)])
   refine hK1 _ _ ?_; clear hK1 K1
   refine awp_ret ?_
   refine resK_cell2 (fn := Try.f16) (a := 4) (t := 25) (s := 5) (b := b3) (off := 0) rfl rfl (wth_get  (m := m) (L := [(b43, valO ((gE en rs k (gI e.a 0)).1)), (b3, zO), (b2, .cells [.map bi, .map br, .map bf]), (b1, expO e), (bi, vmO en), (br, vmO rs), (bf, nmO)]) 1 hNv1 rfl) (apartOk_agg rfl rfl (Nat.le_of_ble_eq_true rfl)) (.agg [.int .i64 0, .int .i64 0, .str ([]), .slice false [], .slice false []]) (.err 67 ((gE en rs k (gI e.a 0)).2)) rfl rfl (.err 67 ((gE en rs k (gI e.a 0)).2)) rfl (AMem.wth m [(bi, vmO en), (br, vmO rs), (bf, nmO)]) ((wth_sub2 (m := m) [(b43, valO ((gE en rs k (gI e.a 0)).1)), (b3, zO), (b2, .cells [.map bi, .map br, .map bf]), (b1, expO e)] [(bi, vmO en), (br, vmO rs), (bf, nmO)] hNv1 (by simp only [List.map_cons, List.map_nil, List.forall_mem_cons]; exact ⟨hFb43, hFb3, hFb2, hFb1, fun _ h => by cases h⟩))) ?_
   show K (.tuple [.agg [.int .i64 0, .int .i64 0, .str ([]), .slice false [], .slice false []], .err 67 ((gE en rs k (gI e.a 0)).2)]) (AMem.wth m [(bi, vmO en), (br, vmO rs), (bf, nmO)])
  
   have e0 : evF en rs (k + 1) e = (((⟨0, 0, [], [], []⟩ : Val), (gE en rs k (gI e.a 0)).2) : Val × Int) := by
    first | exact evF_1 (by assumption) | exact evF_2 (by assumption) | exact evF_30 (by assumption) (by assumption) | exact evF_31 (by assumption) (by assumption) | exact evF_4 (by assumption) | exact evF_70 (by assumption) (by assumption) | exact evF_71 (by assumption) (by assumption) (by assumption) | exact evF_72 (by assumption) (by assumption) (by assumption) (by assumption) | exact evF_73 (by assumption) (by assumption) (by assumption) (by assumption) | exact evF_80 (by assumption) (by assumption) (by assumption) (by assumption) (by assumption) (by assumption) | exact evF_81 (by assumption) (by assumption) (by assumption) (by assumption) (by assumption) (by assumption)
   rw [e0] at hK
   exact hK
  replace h8 : (gE en rs k (gI e.a 0)).2 = 0 := (eq_of_beq (bnF h8))
  refine awp_skip ?_
  refine hK5 _ _ ?_; clear hK5
  refine awp_seq_k ?_; intro K6 hK6
  refine awp_reg2_seq [] [2, 3, 4, 12, 102] (by decide) ?_
  intro K1 hK1
  refine ⟨⟨rfl, by decide⟩, ?_⟩
  refine ar_loadp rfl (v := .int .i64 (((gE en rs k (gI e.a 0)).1).kind)) rfl (wth_get 0 hNv1 rfl) rfl (apartOk_one rfl rfl (Nat.le_of_ble_eq_true rfl)) rfl ?_
  refine ⟨trivial, ?_⟩
  show K1 [(2, .ptr ⟨b1, 0, none⟩), (3, .ptr ⟨b2, 0, none⟩), (4, .ptr ⟨b3, 0, none⟩), (12, .ptr ⟨b43, 0, none⟩), (102, .bool (!((((gE en rs k (gI e.a 0)).1).kind) == 3)))] (AMem.wth m [(b43, valO ((gE en rs k (gI e.a 0)).1)), (b3, zO), (b2, .cells [.map bi, .map br, .map bf]), (b1, expO e), (bi, vmO en), (br, vmO rs), (bf, nmO)])
  refine hK1 _ _ ?_; clear hK1 K1
  refine awp_cond rfl rfl (fun h9 => ?_) (fun h9 => ?_)
  ·
   replace h9 : ((gE en rs k (gI e.a 0)).1).kind ≠ 3 := (ne_of_beq_false (bnT h9))
   refine awp_reg2_seq [] [4, 5] (by decide) ?_
   intro K1 hK1
   refine ⟨⟨rfl, by simp only [List.forall_mem_cons]; exact ⟨rfl, rfl, rfl, rfl, rfl, fun _ h => by cases h⟩, fun _ h => by cases h⟩, trivial, ?_⟩
   refine ar_storep rfl 1 (v := .agg [.int .i64 0, .int .i64 0, .str ([]), .slice true [], .slice true []]) (l' := [.int .i64 0, .int .i64 0, .str ([]), .slice true [], .slice true []]) rfl rfl hNv1 rfl rfl rfl rfl rfl (Nat.le_of_ble_eq_true rfl) rfl ?_
   refine ⟨trivial, ?_⟩
   show K1 [(4, .ptr ⟨b3, 0, none⟩), (5, .iface 67 (.int .i64 9))] (AMem.wth m [(b43, valO ((gE en rs k (gI e.a 0)).1)), (b3, zO), (b2, .cells [.map bi, .map br, .map bf]), (b1, expO e), (bi, vmO en), (br, vmO rs), (bf, nmO)])
   refine hK1 _ _ ?_; clear hK1 K1
   refine awp_toErr 67 [5] ?_
   show AWP _ _ _ _ [(4, .ptr ⟨b3, 0, none⟩), (5, .err 67 9)] (AMem.wth m [(b43, valO ((gE en rs k (gI e.a 0)).1)), (b3, zO), (b2, .cells [.map bi, .map br, .map bf]), (b1, expO e), (bi, vmO en), (br, vmO rs), (bf, nmO)])
   refine awp_ret ?_
   refine resK_cell2 (fn := Try.f16) (a := 4) (t := 25) (s := 5) (b := b3) (off := 0) rfl rfl (wth_get  (m := m) (L := [(b43, valO ((gE en rs k (gI e.a 0)).1)), (b3, zO), (b2, .cells [.map bi, .map br, .map bf]), (b1, expO e), (bi, vmO en), (br, vmO rs), (bf, nmO)]) 1 hNv1 rfl) (apartOk_agg rfl rfl (Nat.le_of_ble_eq_true rfl)) (.agg [.int .i64 0, .int .i64 0, .str ([]), .slice false [], .slice false []]) (.err 67 9) rfl rfl (.err 67 9) rfl (AMem.wth m [(bi, vmO en), (br, vmO rs), (bf, nmO)]) ((wth_sub2 (m := m) [(b43, valO ((gE en rs k (gI e.a 0)).1)), (b3, zO), (b2, .cells [.map bi, .map br, .map bf]), (b1, expO e)] [(bi, vmO en), (br, vmO rs), (bf, nmO)] hNv1 (by simp only [List.map_cons, List.map_nil, List.forall_mem_cons]; exact ⟨hFb43, hFb3, hFb2, hFb1, fun _ h => by cases h⟩))) ?_
   show K (.tuple [.agg [.int .i64 0, .int .i64 0, .str ([]), .slice false [], .slice false []], .err 67 9]) (AMem.wth m [(bi, vmO en), (br, vmO rs), (bf, nmO)])
  
   have e0 : evF en rs (k + 1) e = (((⟨0, 0, [], [], []⟩ : Val), 9) : Val × Int) := by
    first | exact evF_1 (by assumption) | exact evF_2 (by assumption) | exact evF_30 (by assumption) (by assumption) | exact evF_31 (by assumption) (by assumption) | exact evF_4 (by assumption) | exact evF_70 (by assumption) (by assumption) | exact evF_71 (by assumption) (by assumption) (by assumption) | exact evF_72 (by assumption) (by assumption) (by assumption) (by assumption) | exact evF_73 (by assumption) (by assumption) (by assumption) (by assumption) | exact evF_80 (by assumption) (by assumption) (by assumption) (by assumption) (by assumption) (by assumption) | exact evF_81 (by assumption) (by assumption) (by assumption) (by assumption) (by assumption) (by assumption)
   rw [e0] at hK
   exact hK
  replace h9 : ((gE en rs k (gI e.a 0)).1).kind = 3 := (eq_of_beq (bnF h9))
  have hfl : 0 ≤ (gE en rs k (gI e.a 0)).1.n ∧ (gE en rs k (gI e.a 0)).1.n ≤ 1 := chk_flag (fin_ok h8) h9
  refine awp_skip ?_
  refine hK6 _ _ ?_; clear hK6
  refine awp_anyA_seq Try.mixed [4, 5] (by decide) ?_
  intro K1 hK1
  intro A hA
  suffices key : ∀ (_ : True), K1 [(4, .ptr ⟨b3, 0, none⟩), (5, .err 67 ((evF en rs k (gI e.a (2 - (((gE en rs k (gI e.a 0)).1).n)))).2))] (AMem.wth m [(b43, valO ((gE en rs k (gI e.a 0)).1)), (b3, valO ((evF en rs k (gI e.a (2 - (((gE en rs k (gI e.a 0)).1).n)))).1)), (b2, .cells [.map bi, .map br, .map bf]), (b1, expO e), (bi, vmO en), (br, vmO rs), (bf, nmO)]) by
   have s0 : ∀ (_ : True), A 0 #[true, true, true, true, true, true, true, true, true, true, true, true, true] (fun fr m => K1 (fr.keep [4, 5]) m) [(4, .ptr ⟨b3, 0, none⟩), (5, .err 67 ((evF en rs k (gI e.a (2 - (((gE en rs k (gI e.a 0)).1).n)))).2))] (AMem.wth m [(b43, valO ((gE en rs k (gI e.a 0)).1)), (b3, valO ((evF en rs k (gI e.a (2 - (((gE en rs k (gI e.a 0)).1).n)))).1)), (b2, .cells [.map bi, .map br, .map bf]), (b1, expO e), (bi, vmO en), (br, vmO rs), (bf, nmO)]) := by
    intro _
    subst hA
    exact AAny.done (by decide +kernel) (key trivial)
   have s1 : ∀ (_ : True), A 1 #[true, true, true, true, true, true, true, true, true, true, true, true, false] (fun fr m => K1 (fr.keep [4, 5]) m) [(4, .ptr ⟨b3, 0, none⟩), (115, .err 67 ((evF en rs k (gI e.a (2 - (((gE en rs k (gI e.a 0)).1).n)))).2))] (AMem.wth m [(b43, valO ((gE en rs k (gI e.a 0)).1)), (b3, valO ((evF en rs k (gI e.a (2 - (((gE en rs k (gI e.a 0)).1).n)))).1)), (b2, .cells [.map bi, .map br, .map bf]), (b1, expO e), (bi, vmO en), (br, vmO rs), (bf, nmO)]) := by
    intro _
    subst hA
    refine AAny.step [] [12] (by decide +kernel) (by simp) (by decide) ⟨?_, trivial⟩
    ·
     show aopsR _ _ _ [_] _ _ _
     refine ⟨trivial, ?_⟩
     refine AAny.keep [4, 5] (by decide) ?_
     exact s0 trivial
   clear s0
   have s2 : ∀ (_ : True), A 2 #[true, true, true, true, true, true, true, true, true, true, true, false, false] (fun fr m => K1 (fr.keep [4, 5]) m) [(4, .ptr ⟨b3, 0, none⟩), (114, valTop ((evF en rs k (gI e.a (2 - (((gE en rs k (gI e.a 0)).1).n)))).1)), (115, .err 67 ((evF en rs k (gI e.a (2 - (((gE en rs k (gI e.a 0)).1).n)))).2))] (AMem.wth m [(b43, valO ((gE en rs k (gI e.a 0)).1)), (b3, zO), (b2, .cells [.map bi, .map br, .map bf]), (b1, expO e), (bi, vmO en), (br, vmO rs), (bf, nmO)]) := by
    intro _
    subst hA
    refine AAny.step [] [11] (by decide +kernel) (by simp) (by decide) ⟨?_, trivial⟩
    ·
     show aopsR _ _ _ [_] _ _ _
     refine ar_storep rfl 1 (v := valTop ((evF en rs k (gI e.a (2 - (((gE en rs k (gI e.a 0)).1).n)))).1)) (l' := [.int .i64 (((evF en rs k (gI e.a (2 - (((gE en rs k (gI e.a 0)).1).n)))).1).kind), .int .i64 (((evF en rs k (gI e.a (2 - (((gE en rs k (gI e.a 0)).1).n)))).1).n), .str (((evF en rs k (gI e.a (2 - (((gE en rs k (gI e.a 0)).1).n)))).1).s), .slice false ((((evF en rs k (gI e.a (2 - (((gE en rs k (gI e.a 0)).1).n)))).1).l).map valIn), .slice false ((((evF en rs k (gI e.a (2 - (((gE en rs k (gI e.a 0)).1).n)))).1).f).map fldIn)]) rfl (by rfl) hNv1 rfl rfl rfl rfl rfl (Nat.le_of_ble_eq_true rfl) rfl ?_
     refine AAny.keep [4, 115] (by decide) ?_
     exact s1 trivial
   clear s1
   have s3 : ∀ (_ : True), A 3 #[true, true, true, true, true, true, true, true, true, true, false, false, false] (fun fr m => K1 (fr.keep [4, 5]) m) [(4, .ptr ⟨b3, 0, none⟩), (113, .tuple [valTop ((evF en rs k (gI e.a (2 - (((gE en rs k (gI e.a 0)).1).n)))).1), .err 67 ((evF en rs k (gI e.a (2 - (((gE en rs k (gI e.a 0)).1).n)))).2)]), (114, valTop ((evF en rs k (gI e.a (2 - (((gE en rs k (gI e.a 0)).1).n)))).1))] (AMem.wth m [(b43, valO ((gE en rs k (gI e.a 0)).1)), (b3, zO), (b2, .cells [.map bi, .map br, .map bf]), (b1, expO e), (bi, vmO en), (br, vmO rs), (bf, nmO)]) := by
    intro _
    subst hA
    refine AAny.step [] [10] (by decide +kernel) (by simp) (by decide) ⟨?_, trivial⟩
    ·
     show aopsR _ _ _ [_] _ _ _
     refine ⟨(Nat.le_of_ble_eq_true rfl), ?_⟩
     refine AAny.keep [4, 114, 115] (by decide) ?_
     exact s2 trivial
   have s4 : ∀ (_ : True), A 3 #[true, true, true, true, true, true, true, true, true, false, true, false, false] (fun fr m => K1 (fr.keep [4, 5]) m) [(4, .ptr ⟨b3, 0, none⟩), (113, .tuple [valTop ((evF en rs k (gI e.a (2 - (((gE en rs k (gI e.a 0)).1).n)))).1), .err 67 ((evF en rs k (gI e.a (2 - (((gE en rs k (gI e.a 0)).1).n)))).2)]), (115, .err 67 ((evF en rs k (gI e.a (2 - (((gE en rs k (gI e.a 0)).1).n)))).2))] (AMem.wth m [(b43, valO ((gE en rs k (gI e.a 0)).1)), (b3, zO), (b2, .cells [.map bi, .map br, .map bf]), (b1, expO e), (bi, vmO en), (br, vmO rs), (bf, nmO)]) := by
    intro _
    subst hA
    refine AAny.step [] [9] (by decide +kernel) (by simp) (by decide) ⟨?_, trivial⟩
    ·
     show aopsR _ _ _ [_] _ _ _
     refine ⟨(Nat.le_of_ble_eq_true rfl), ?_⟩
     refine AAny.keep [4, 114, 115] (by decide) ?_
     exact s2 trivial
   clear s2
   have s5 : ∀ (_ : True), A 4 #[true, true, true, true, true, true, true, true, true, false, false, false, false] (fun fr m => K1 (fr.keep [4, 5]) m) [(4, .ptr ⟨b3, 0, none⟩), (113, .tuple [valTop ((evF en rs k (gI e.a (2 - (((gE en rs k (gI e.a 0)).1).n)))).1), .err 67 ((evF en rs k (gI e.a (2 - (((gE en rs k (gI e.a 0)).1).n)))).2)])] (AMem.wth m [(b43, valO ((gE en rs k (gI e.a 0)).1)), (b3, zO), (b2, .cells [.map bi, .map br, .map bf]), (b1, expO e), (bi, vmO en), (br, vmO rs), (bf, nmO)]) := by
    intro _
    subst hA
    refine AAny.step [] [9, 10] (by decide +kernel) (by simp) (by decide) ⟨?_, ?_, trivial⟩
    ·
     show aopsR _ _ _ [_] _ _ _
     refine ⟨(Nat.le_of_ble_eq_true rfl), ?_⟩
     refine AAny.keep [4, 113, 114] (by decide) ?_
     exact s3 trivial
    ·
     show aopsR _ _ _ [_] _ _ _
     refine ⟨(Nat.le_of_ble_eq_true rfl), ?_⟩
     refine AAny.keep [4, 113, 115] (by decide) ?_
     exact s4 trivial
   clear s3 s4
   have s6 : ∀ (_ : True), A 5 #[true, true, true, true, true, true, true, true, false, false, false, false, false] (fun fr m => K1 (fr.keep [4, 5]) m) [(4, .ptr ⟨b3, 0, none⟩), (111, expTop (gI e.a (2 - (((gE en rs k (gI e.a 0)).1).n)))), (112, .agg [.map bi, .map br, .map bf])] (AMem.wth m [(b43, valO ((gE en rs k (gI e.a 0)).1)), (b3, zO), (b2, .cells [.map bi, .map br, .map bf]), (b1, expO e), (bi, vmO en), (br, vmO rs), (bf, nmO)]) := by
    intro _
    subst hA
    refine AAny.step [] [8] (by decide +kernel) (by simp) (by decide) ⟨?_, trivial⟩
    ·
     show aopsR _ _ _ [_] _ _ _
     refine ar_mem (wth_split hNv1 (pick_perm [4, 4, 4] _)) ?_
     refine ih (gI e.a (2 - (((gE en rs k (gI e.a 0)).1).n))) (by have := depE_mem (gI_mem (l := e.a) (i := 2 - (gE en rs k (gI e.a 0)).1.n) (by omega) (by omega)); omega) (hoe.2 _ (gI_mem (by omega) (by omega))) _ _ ?_
     show aopsR _ _ _ _ _ _ (AMem.wth (AMem.wth m [(b43, valO ((gE en rs k (gI e.a 0)).1)), (b3, zO), (b2, .cells [.map bi, .map br, .map bf]), (b1, expO e)]) [(bi, vmO en), (br, vmO rs), (bf, nmO)])
     refine ar_mem (wth_split (m := m) (L := [(b43, valO ((gE en rs k (gI e.a 0)).1)), (b3, zO), (b2, .cells [.map bi, .map br, .map bf]), (b1, expO e), (bi, vmO en), (br, vmO rs), (bf, nmO)]) hNv1 (pick_perm [4, 4, 4] _)).symm ?_
     refine AAny.keep [4, 113] (by decide) ?_
     exact s5 trivial
   clear s5
   have s7 : ∀ (_ : True), A 6 #[true, true, true, true, true, true, true, false, false, false, false, false, false] (fun fr m => K1 (fr.keep [4, 5]) m) [(3, .ptr ⟨b2, 0, none⟩), (4, .ptr ⟨b3, 0, none⟩), (111, expTop (gI e.a (2 - (((gE en rs k (gI e.a 0)).1).n))))] (AMem.wth m [(b43, valO ((gE en rs k (gI e.a 0)).1)), (b3, zO), (b2, .cells [.map bi, .map br, .map bf]), (b1, expO e), (bi, vmO en), (br, vmO rs), (bf, nmO)]) := by
    intro _
    subst hA
    refine AAny.step [] [7] (by decide +kernel) (by simp) (by decide) ⟨?_, trivial⟩
    ·
     show aopsR _ _ _ [_] _ _ _
     refine ar_loadp rfl (v := .agg [.map bi, .map br, .map bf]) rfl (wth_get 2 hNv1 rfl) rfl (apartOk_agg rfl rfl (Nat.le_of_ble_eq_true rfl)) rfl ?_
     refine AAny.keep [4, 111, 112] (by decide) ?_
     exact s6 trivial
   have s8 : ∀ (_ : True), A 6 #[true, true, true, true, true, true, false, true, false, false, false, false, false] (fun fr m => K1 (fr.keep [4, 5]) m) [(4, .ptr ⟨b3, 0, none⟩), (110, .ref (AV.cells (expTop (gI e.a (2 - (((gE en rs k (gI e.a 0)).1).n)))))), (112, .agg [.map bi, .map br, .map bf])] (AMem.wth m [(b43, valO ((gE en rs k (gI e.a 0)).1)), (b3, zO), (b2, .cells [.map bi, .map br, .map bf]), (b1, expO e), (bi, vmO en), (br, vmO rs), (bf, nmO)]) := by
    intro _
    subst hA
    refine AAny.step [] [6] (by decide +kernel) (by simp) (by decide) ⟨?_, trivial⟩
    ·
     show aopsR _ _ _ [_] _ _ _
     refine ⟨(apartOk_agg rfl rfl (Nat.le_of_ble_eq_true rfl)), ?_⟩
     refine AAny.keep [4, 111, 112] (by decide) ?_
     exact s6 trivial
   clear s6
   have s9 : ∀ (_ : True), A 7 #[true, true, true, true, true, true, false, false, false, false, false, false, false] (fun fr m => K1 (fr.keep [4, 5]) m) [(3, .ptr ⟨b2, 0, none⟩), (4, .ptr ⟨b3, 0, none⟩), (110, .ref (AV.cells (expTop (gI e.a (2 - (((gE en rs k (gI e.a 0)).1).n))))))] (AMem.wth m [(b43, valO ((gE en rs k (gI e.a 0)).1)), (b3, zO), (b2, .cells [.map bi, .map br, .map bf]), (b1, expO e), (bi, vmO en), (br, vmO rs), (bf, nmO)]) := by
    intro _
    subst hA
    refine AAny.step [] [6, 7] (by decide +kernel) (by simp) (by decide) ⟨?_, ?_, trivial⟩
    ·
     show aopsR _ _ _ [_] _ _ _
     refine ⟨(apartOk_agg rfl rfl (Nat.le_of_ble_eq_true rfl)), ?_⟩
     refine AAny.keep [3, 4, 111] (by decide) ?_
     exact s7 trivial
    ·
     show aopsR _ _ _ [_] _ _ _
     refine ar_loadp rfl (v := .agg [.map bi, .map br, .map bf]) rfl (wth_get 2 hNv1 rfl) rfl (apartOk_agg rfl rfl (Nat.le_of_ble_eq_true rfl)) rfl ?_
     refine AAny.keep [4, 110, 112] (by decide) ?_
     exact s8 trivial
   clear s7
   have s10 : ∀ (_ : True), A 7 #[true, true, true, true, true, false, false, true, false, false, false, false, false] (fun fr m => K1 (fr.keep [4, 5]) m) [(4, .ptr ⟨b3, 0, none⟩), (106, .slice false (e.a.map expIn)), (109, .int .i64 (2 - (((gE en rs k (gI e.a 0)).1).n))), (112, .agg [.map bi, .map br, .map bf])] (AMem.wth m [(b43, valO ((gE en rs k (gI e.a 0)).1)), (b3, zO), (b2, .cells [.map bi, .map br, .map bf]), (b1, expO e), (bi, vmO en), (br, vmO rs), (bf, nmO)]) := by
    intro _
    subst hA
    refine AAny.step [] [5] (by decide +kernel) (by simp) (by decide) ⟨?_, trivial⟩
    ·
     show aopsR _ _ _ [_] _ _ _
     refine ar_index rfl expTop e.a (2 - (((gE en rs k (gI e.a 0)).1).n)) rfl rfl (expMap e.a) rfl rfl (by decide) (fun _ => rfl) (by omega) (by omega) ?_
     refine AAny.keep [4, 110, 112] (by decide) ?_
     exact s8 trivial
   clear s8
   have s11 : ∀ (_ : True), A 8 #[true, true, true, true, true, false, false, false, false, false, false, false, false] (fun fr m => K1 (fr.keep [4, 5]) m) [(3, .ptr ⟨b2, 0, none⟩), (4, .ptr ⟨b3, 0, none⟩), (106, .slice false (e.a.map expIn)), (109, .int .i64 (2 - (((gE en rs k (gI e.a 0)).1).n)))] (AMem.wth m [(b43, valO ((gE en rs k (gI e.a 0)).1)), (b3, zO), (b2, .cells [.map bi, .map br, .map bf]), (b1, expO e), (bi, vmO en), (br, vmO rs), (bf, nmO)]) := by
    intro _
    subst hA
    refine AAny.step [] [5, 7] (by decide +kernel) (by simp) (by decide) ⟨?_, ?_, trivial⟩
    ·
     show aopsR _ _ _ [_] _ _ _
     refine ar_index rfl expTop e.a (2 - (((gE en rs k (gI e.a 0)).1).n)) rfl rfl (expMap e.a) rfl rfl (by decide) (fun _ => rfl) (by omega) (by omega) ?_
     refine AAny.keep [3, 4, 110] (by decide) ?_
     exact s9 trivial
    ·
     show aopsR _ _ _ [_] _ _ _
     refine ar_loadp rfl (v := .agg [.map bi, .map br, .map bf]) rfl (wth_get 2 hNv1 rfl) rfl (apartOk_agg rfl rfl (Nat.le_of_ble_eq_true rfl)) rfl ?_
     refine AAny.keep [4, 106, 109, 112] (by decide) ?_
     exact s10 trivial
   clear s9
   have s12 : ∀ (_ : True), A 8 #[true, true, true, true, false, false, false, true, false, false, false, false, false] (fun fr m => K1 (fr.keep [4, 5]) m) [(4, .ptr ⟨b3, 0, none⟩), (106, .slice false (e.a.map expIn)), (108, .int .i64 (((gE en rs k (gI e.a 0)).1).n)), (112, .agg [.map bi, .map br, .map bf])] (AMem.wth m [(b43, valO ((gE en rs k (gI e.a 0)).1)), (b3, zO), (b2, .cells [.map bi, .map br, .map bf]), (b1, expO e), (bi, vmO en), (br, vmO rs), (bf, nmO)]) := by
    intro _
    subst hA
    refine AAny.step [] [4] (by decide +kernel) (by simp) (by decide) ⟨?_, trivial⟩
    ·
     show aopsR _ _ _ [_] _ _ _
     refine ar_sub rfl (a := 2) (b := ((gE en rs k (gI e.a 0)).1).n) rfl rfl (by omega) (by omega) ?_
     refine AAny.keep [4, 106, 109, 112] (by decide) ?_
     exact s10 trivial
   have s13 : ∀ (_ : True), A 8 #[true, false, true, true, true, false, false, true, false, false, false, false, false] (fun fr m => K1 (fr.keep [4, 5]) m) [(4, .ptr ⟨b3, 0, none⟩), (105, .ptr ⟨b1, 8, none⟩), (109, .int .i64 (2 - (((gE en rs k (gI e.a 0)).1).n))), (112, .agg [.map bi, .map br, .map bf])] (AMem.wth m [(b43, valO ((gE en rs k (gI e.a 0)).1)), (b3, zO), (b2, .cells [.map bi, .map br, .map bf]), (b1, expO e), (bi, vmO en), (br, vmO rs), (bf, nmO)]) := by
    intro _
    subst hA
    refine AAny.step [] [1] (by decide +kernel) (by simp) (by decide) ⟨?_, trivial⟩
    ·
     show aopsR _ _ _ [_] _ _ _
     refine ar_loadp rfl (v := .slice false (e.a.map expIn)) rfl (wth_get 3 hNv1 rfl) rfl (apartOk_one rfl rfl (Nat.le_of_ble_eq_true rfl)) rfl ?_
     refine AAny.keep [4, 106, 109, 112] (by decide) ?_
     exact s10 trivial
   clear s10
   have s14 : ∀ (_ : True), A 9 #[true, true, true, true, false, false, false, false, false, false, false, false, false] (fun fr m => K1 (fr.keep [4, 5]) m) [(3, .ptr ⟨b2, 0, none⟩), (4, .ptr ⟨b3, 0, none⟩), (106, .slice false (e.a.map expIn)), (108, .int .i64 (((gE en rs k (gI e.a 0)).1).n))] (AMem.wth m [(b43, valO ((gE en rs k (gI e.a 0)).1)), (b3, zO), (b2, .cells [.map bi, .map br, .map bf]), (b1, expO e), (bi, vmO en), (br, vmO rs), (bf, nmO)]) := by
    intro _
    subst hA
    refine AAny.step [] [4, 7] (by decide +kernel) (by simp) (by decide) ⟨?_, ?_, trivial⟩
    ·
     show aopsR _ _ _ [_] _ _ _
     refine ar_sub rfl (a := 2) (b := ((gE en rs k (gI e.a 0)).1).n) rfl rfl (by omega) (by omega) ?_
     refine AAny.keep [3, 4, 106, 109] (by decide) ?_
     exact s11 trivial
    ·
     show aopsR _ _ _ [_] _ _ _
     refine ar_loadp rfl (v := .agg [.map bi, .map br, .map bf]) rfl (wth_get 2 hNv1 rfl) rfl (apartOk_agg rfl rfl (Nat.le_of_ble_eq_true rfl)) rfl ?_
     refine AAny.keep [4, 106, 108, 112] (by decide) ?_
     exact s12 trivial
   have s15 : ∀ (_ : True), A 9 #[true, true, true, false, false, false, false, true, false, false, false, false, false] (fun fr m => K1 (fr.keep [4, 5]) m) [(4, .ptr ⟨b3, 0, none⟩), (106, .slice false (e.a.map expIn)), (107, .ptr ⟨b43, 1, none⟩), (112, .agg [.map bi, .map br, .map bf])] (AMem.wth m [(b43, valO ((gE en rs k (gI e.a 0)).1)), (b3, zO), (b2, .cells [.map bi, .map br, .map bf]), (b1, expO e), (bi, vmO en), (br, vmO rs), (bf, nmO)]) := by
    intro _
    subst hA
    refine AAny.step [] [3] (by decide +kernel) (by simp) (by decide) ⟨?_, trivial⟩
    ·
     show aopsR _ _ _ [_] _ _ _
     refine ar_loadp rfl (v := .int .i64 (((gE en rs k (gI e.a 0)).1).n)) rfl (wth_get 0 hNv1 rfl) rfl (apartOk_one rfl rfl (Nat.le_of_ble_eq_true rfl)) rfl ?_
     refine AAny.keep [4, 106, 108, 112] (by decide) ?_
     exact s12 trivial
   have s16 : ∀ (_ : True), A 9 #[true, false, true, true, true, false, false, false, false, false, false, false, false] (fun fr m => K1 (fr.keep [4, 5]) m) [(3, .ptr ⟨b2, 0, none⟩), (4, .ptr ⟨b3, 0, none⟩), (105, .ptr ⟨b1, 8, none⟩), (109, .int .i64 (2 - (((gE en rs k (gI e.a 0)).1).n)))] (AMem.wth m [(b43, valO ((gE en rs k (gI e.a 0)).1)), (b3, zO), (b2, .cells [.map bi, .map br, .map bf]), (b1, expO e), (bi, vmO en), (br, vmO rs), (bf, nmO)]) := by
    intro _
    subst hA
    refine AAny.step [] [1, 7] (by decide +kernel) (by simp) (by decide) ⟨?_, ?_, trivial⟩
    ·
     show aopsR _ _ _ [_] _ _ _
     refine ar_loadp rfl (v := .slice false (e.a.map expIn)) rfl (wth_get 3 hNv1 rfl) rfl (apartOk_one rfl rfl (Nat.le_of_ble_eq_true rfl)) rfl ?_
     refine AAny.keep [3, 4, 106, 109] (by decide) ?_
     exact s11 trivial
    ·
     show aopsR _ _ _ [_] _ _ _
     refine ar_loadp rfl (v := .agg [.map bi, .map br, .map bf]) rfl (wth_get 2 hNv1 rfl) rfl (apartOk_agg rfl rfl (Nat.le_of_ble_eq_true rfl)) rfl ?_
     refine AAny.keep [4, 105, 109, 112] (by decide) ?_
     exact s13 trivial
   clear s11
   have s17 : ∀ (_ : True), A 9 #[true, false, true, true, false, false, false, true, false, false, false, false, false] (fun fr m => K1 (fr.keep [4, 5]) m) [(4, .ptr ⟨b3, 0, none⟩), (105, .ptr ⟨b1, 8, none⟩), (108, .int .i64 (((gE en rs k (gI e.a 0)).1).n)), (112, .agg [.map bi, .map br, .map bf])] (AMem.wth m [(b43, valO ((gE en rs k (gI e.a 0)).1)), (b3, zO), (b2, .cells [.map bi, .map br, .map bf]), (b1, expO e), (bi, vmO en), (br, vmO rs), (bf, nmO)]) := by
    intro _
    subst hA
    refine AAny.step [] [1, 4] (by decide +kernel) (by simp) (by decide) ⟨?_, ?_, trivial⟩
    ·
     show aopsR _ _ _ [_] _ _ _
     refine ar_loadp rfl (v := .slice false (e.a.map expIn)) rfl (wth_get 3 hNv1 rfl) rfl (apartOk_one rfl rfl (Nat.le_of_ble_eq_true rfl)) rfl ?_
     refine AAny.keep [4, 106, 108, 112] (by decide) ?_
     exact s12 trivial
    ·
     show aopsR _ _ _ [_] _ _ _
     refine ar_sub rfl (a := 2) (b := ((gE en rs k (gI e.a 0)).1).n) rfl rfl (by omega) (by omega) ?_
     refine AAny.keep [4, 105, 109, 112] (by decide) ?_
     exact s13 trivial
   clear s12
   have s18 : ∀ (_ : True), A 9 #[false, false, true, true, true, false, false, true, false, false, false, false, false] (fun fr m => K1 (fr.keep [4, 5]) m) [(2, .ptr ⟨b1, 0, none⟩), (4, .ptr ⟨b3, 0, none⟩), (109, .int .i64 (2 - (((gE en rs k (gI e.a 0)).1).n))), (112, .agg [.map bi, .map br, .map bf])] (AMem.wth m [(b43, valO ((gE en rs k (gI e.a 0)).1)), (b3, zO), (b2, .cells [.map bi, .map br, .map bf]), (b1, expO e), (bi, vmO en), (br, vmO rs), (bf, nmO)]) := by
    intro _
    subst hA
    refine AAny.step [] [0] (by decide +kernel) (by simp) (by decide) ⟨?_, trivial⟩
    ·
     show aopsR _ _ _ [_] _ _ _
     refine ⟨⟨rfl, by decide⟩, ?_⟩
     refine AAny.keep [4, 105, 109, 112] (by decide) ?_
     exact s13 trivial
   clear s13
   have s19 : ∀ (_ : True), A 10 #[true, true, true, false, false, false, false, false, false, false, false, false, false] (fun fr m => K1 (fr.keep [4, 5]) m) [(3, .ptr ⟨b2, 0, none⟩), (4, .ptr ⟨b3, 0, none⟩), (106, .slice false (e.a.map expIn)), (107, .ptr ⟨b43, 1, none⟩)] (AMem.wth m [(b43, valO ((gE en rs k (gI e.a 0)).1)), (b3, zO), (b2, .cells [.map bi, .map br, .map bf]), (b1, expO e), (bi, vmO en), (br, vmO rs), (bf, nmO)]) := by
    intro _
    subst hA
    refine AAny.step [] [3, 7] (by decide +kernel) (by simp) (by decide) ⟨?_, ?_, trivial⟩
    ·
     show aopsR _ _ _ [_] _ _ _
     refine ar_loadp rfl (v := .int .i64 (((gE en rs k (gI e.a 0)).1).n)) rfl (wth_get 0 hNv1 rfl) rfl (apartOk_one rfl rfl (Nat.le_of_ble_eq_true rfl)) rfl ?_
     refine AAny.keep [3, 4, 106, 108] (by decide) ?_
     exact s14 trivial
    ·
     show aopsR _ _ _ [_] _ _ _
     refine ar_loadp rfl (v := .agg [.map bi, .map br, .map bf]) rfl (wth_get 2 hNv1 rfl) rfl (apartOk_agg rfl rfl (Nat.le_of_ble_eq_true rfl)) rfl ?_
     refine AAny.keep [4, 106, 107, 112] (by decide) ?_
     exact s15 trivial
   have s20 : ∀ (_ : True), A 10 #[true, true, false, false, false, false, false, true, false, false, false, false, false] (fun fr m => K1 (fr.keep [4, 5]) m) [(4, .ptr ⟨b3, 0, none⟩), (12, .ptr ⟨b43, 0, none⟩), (106, .slice false (e.a.map expIn)), (112, .agg [.map bi, .map br, .map bf])] (AMem.wth m [(b43, valO ((gE en rs k (gI e.a 0)).1)), (b3, zO), (b2, .cells [.map bi, .map br, .map bf]), (b1, expO e), (bi, vmO en), (br, vmO rs), (bf, nmO)]) := by
    intro _
    subst hA
    refine AAny.step [] [2] (by decide +kernel) (by simp) (by decide) ⟨?_, trivial⟩
    ·
     show aopsR _ _ _ [_] _ _ _
     refine ⟨⟨rfl, by decide⟩, ?_⟩
     refine AAny.keep [4, 106, 107, 112] (by decide) ?_
     exact s15 trivial
   have s21 : ∀ (_ : True), A 10 #[true, false, true, true, false, false, false, false, false, false, false, false, false] (fun fr m => K1 (fr.keep [4, 5]) m) [(3, .ptr ⟨b2, 0, none⟩), (4, .ptr ⟨b3, 0, none⟩), (105, .ptr ⟨b1, 8, none⟩), (108, .int .i64 (((gE en rs k (gI e.a 0)).1).n))] (AMem.wth m [(b43, valO ((gE en rs k (gI e.a 0)).1)), (b3, zO), (b2, .cells [.map bi, .map br, .map bf]), (b1, expO e), (bi, vmO en), (br, vmO rs), (bf, nmO)]) := by
    intro _
    subst hA
    refine AAny.step [] [1, 4, 7] (by decide +kernel) (by simp) (by decide) ⟨?_, ?_, ?_, trivial⟩
    ·
     show aopsR _ _ _ [_] _ _ _
     refine ar_loadp rfl (v := .slice false (e.a.map expIn)) rfl (wth_get 3 hNv1 rfl) rfl (apartOk_one rfl rfl (Nat.le_of_ble_eq_true rfl)) rfl ?_
     refine AAny.keep [3, 4, 106, 108] (by decide) ?_
     exact s14 trivial
    ·
     show aopsR _ _ _ [_] _ _ _
     refine ar_sub rfl (a := 2) (b := ((gE en rs k (gI e.a 0)).1).n) rfl rfl (by omega) (by omega) ?_
     refine AAny.keep [3, 4, 105, 109] (by decide) ?_
     exact s16 trivial
    ·
     show aopsR _ _ _ [_] _ _ _
     refine ar_loadp rfl (v := .agg [.map bi, .map br, .map bf]) rfl (wth_get 2 hNv1 rfl) rfl (apartOk_agg rfl rfl (Nat.le_of_ble_eq_true rfl)) rfl ?_
     refine AAny.keep [4, 105, 108, 112] (by decide) ?_
     exact s17 trivial
   clear s14
   have s22 : ∀ (_ : True), A 10 #[true, false, true, false, false, false, false, true, false, false, false, false, false] (fun fr m => K1 (fr.keep [4, 5]) m) [(4, .ptr ⟨b3, 0, none⟩), (105, .ptr ⟨b1, 8, none⟩), (107, .ptr ⟨b43, 1, none⟩), (112, .agg [.map bi, .map br, .map bf])] (AMem.wth m [(b43, valO ((gE en rs k (gI e.a 0)).1)), (b3, zO), (b2, .cells [.map bi, .map br, .map bf]), (b1, expO e), (bi, vmO en), (br, vmO rs), (bf, nmO)]) := by
    intro _
    subst hA
    refine AAny.step [] [1, 3] (by decide +kernel) (by simp) (by decide) ⟨?_, ?_, trivial⟩
    ·
     show aopsR _ _ _ [_] _ _ _
     refine ar_loadp rfl (v := .slice false (e.a.map expIn)) rfl (wth_get 3 hNv1 rfl) rfl (apartOk_one rfl rfl (Nat.le_of_ble_eq_true rfl)) rfl ?_
     refine AAny.keep [4, 106, 107, 112] (by decide) ?_
     exact s15 trivial
    ·
     show aopsR _ _ _ [_] _ _ _
     refine ar_loadp rfl (v := .int .i64 (((gE en rs k (gI e.a 0)).1).n)) rfl (wth_get 0 hNv1 rfl) rfl (apartOk_one rfl rfl (Nat.le_of_ble_eq_true rfl)) rfl ?_
     refine AAny.keep [4, 105, 108, 112] (by decide) ?_
     exact s17 trivial
   clear s15
   have s23 : ∀ (_ : True), A 10 #[false, false, true, true, true, false, false, false, false, false, false, false, false] (fun fr m => K1 (fr.keep [4, 5]) m) [(2, .ptr ⟨b1, 0, none⟩), (3, .ptr ⟨b2, 0, none⟩), (4, .ptr ⟨b3, 0, none⟩), (109, .int .i64 (2 - (((gE en rs k (gI e.a 0)).1).n)))] (AMem.wth m [(b43, valO ((gE en rs k (gI e.a 0)).1)), (b3, zO), (b2, .cells [.map bi, .map br, .map bf]), (b1, expO e), (bi, vmO en), (br, vmO rs), (bf, nmO)]) := by
    intro _
    subst hA
    refine AAny.step [] [0, 7] (by decide +kernel) (by simp) (by decide) ⟨?_, ?_, trivial⟩
    ·
     show aopsR _ _ _ [_] _ _ _
     refine ⟨⟨rfl, by decide⟩, ?_⟩
     refine AAny.keep [3, 4, 105, 109] (by decide) ?_
     exact s16 trivial
    ·
     show aopsR _ _ _ [_] _ _ _
     refine ar_loadp rfl (v := .agg [.map bi, .map br, .map bf]) rfl (wth_get 2 hNv1 rfl) rfl (apartOk_agg rfl rfl (Nat.le_of_ble_eq_true rfl)) rfl ?_
     refine AAny.keep [2, 4, 109, 112] (by decide) ?_
     exact s18 trivial
   clear s16
   have s24 : ∀ (_ : True), A 10 #[false, false, true, true, false, false, false, true, false, false, false, false, false] (fun fr m => K1 (fr.keep [4, 5]) m) [(2, .ptr ⟨b1, 0, none⟩), (4, .ptr ⟨b3, 0, none⟩), (108, .int .i64 (((gE en rs k (gI e.a 0)).1).n)), (112, .agg [.map bi, .map br, .map bf])] (AMem.wth m [(b43, valO ((gE en rs k (gI e.a 0)).1)), (b3, zO), (b2, .cells [.map bi, .map br, .map bf]), (b1, expO e), (bi, vmO en), (br, vmO rs), (bf, nmO)]) := by
    intro _
    subst hA
    refine AAny.step [] [0, 4] (by decide +kernel) (by simp) (by decide) ⟨?_, ?_, trivial⟩
    ·
     show aopsR _ _ _ [_] _ _ _
     refine ⟨⟨rfl, by decide⟩, ?_⟩
     refine AAny.keep [4, 105, 108, 112] (by decide) ?_
     exact s17 trivial
    ·
     show aopsR _ _ _ [_] _ _ _
     refine ar_sub rfl (a := 2) (b := ((gE en rs k (gI e.a 0)).1).n) rfl rfl (by omega) (by omega) ?_
     refine AAny.keep [2, 4, 109, 112] (by decide) ?_
     exact s18 trivial
   clear s17 s18
   have s25 : ∀ (_ : True), A 11 #[true, true, false, false, false, false, false, false, false, false, false, false, false] (fun fr m => K1 (fr.keep [4, 5]) m) [(3, .ptr ⟨b2, 0, none⟩), (4, .ptr ⟨b3, 0, none⟩), (12, .ptr ⟨b43, 0, none⟩), (106, .slice false (e.a.map expIn))] (AMem.wth m [(b43, valO ((gE en rs k (gI e.a 0)).1)), (b3, zO), (b2, .cells [.map bi, .map br, .map bf]), (b1, expO e), (bi, vmO en), (br, vmO rs), (bf, nmO)]) := by
    intro _
    subst hA
    refine AAny.step [] [2, 7] (by decide +kernel) (by simp) (by decide) ⟨?_, ?_, trivial⟩
    ·
     show aopsR _ _ _ [_] _ _ _
     refine ⟨⟨rfl, by decide⟩, ?_⟩
     refine AAny.keep [3, 4, 106, 107] (by decide) ?_
     exact s19 trivial
    ·
     show aopsR _ _ _ [_] _ _ _
     refine ar_loadp rfl (v := .agg [.map bi, .map br, .map bf]) rfl (wth_get 2 hNv1 rfl) rfl (apartOk_agg rfl rfl (Nat.le_of_ble_eq_true rfl)) rfl ?_
     refine AAny.keep [4, 12, 106, 112] (by decide) ?_
     exact s20 trivial
   have s26 : ∀ (_ : True), A 11 #[true, false, true, false, false, false, false, false, false, false, false, false, false] (fun fr m => K1 (fr.keep [4, 5]) m) [(3, .ptr ⟨b2, 0, none⟩), (4, .ptr ⟨b3, 0, none⟩), (105, .ptr ⟨b1, 8, none⟩), (107, .ptr ⟨b43, 1, none⟩)] (AMem.wth m [(b43, valO ((gE en rs k (gI e.a 0)).1)), (b3, zO), (b2, .cells [.map bi, .map br, .map bf]), (b1, expO e), (bi, vmO en), (br, vmO rs), (bf, nmO)]) := by
    intro _
    subst hA
    refine AAny.step [] [1, 3, 7] (by decide +kernel) (by simp) (by decide) ⟨?_, ?_, ?_, trivial⟩
    ·
     show aopsR _ _ _ [_] _ _ _
     refine ar_loadp rfl (v := .slice false (e.a.map expIn)) rfl (wth_get 3 hNv1 rfl) rfl (apartOk_one rfl rfl (Nat.le_of_ble_eq_true rfl)) rfl ?_
     refine AAny.keep [3, 4, 106, 107] (by decide) ?_
     exact s19 trivial
    ·
     show aopsR _ _ _ [_] _ _ _
     refine ar_loadp rfl (v := .int .i64 (((gE en rs k (gI e.a 0)).1).n)) rfl (wth_get 0 hNv1 rfl) rfl (apartOk_one rfl rfl (Nat.le_of_ble_eq_true rfl)) rfl ?_
     refine AAny.keep [3, 4, 105, 108] (by decide) ?_
     exact s21 trivial
    ·
     show aopsR _ _ _ [_] _ _ _
     refine ar_loadp rfl (v := .agg [.map bi, .map br, .map bf]) rfl (wth_get 2 hNv1 rfl) rfl (apartOk_agg rfl rfl (Nat.le_of_ble_eq_true rfl)) rfl ?_
     refine AAny.keep [4, 105, 107, 112] (by decide) ?_
     exact s22 trivial
   clear s19
   have s27 : ∀ (_ : True), A 11 #[true, false, false, false, false, false, false, true, false, false, false, false, false] (fun fr m => K1 (fr.keep [4, 5]) m) [(4, .ptr ⟨b3, 0, none⟩), (12, .ptr ⟨b43, 0, none⟩), (105, .ptr ⟨b1, 8, none⟩), (112, .agg [.map bi, .map br, .map bf])] (AMem.wth m [(b43, valO ((gE en rs k (gI e.a 0)).1)), (b3, zO), (b2, .cells [.map bi, .map br, .map bf]), (b1, expO e), (bi, vmO en), (br, vmO rs), (bf, nmO)]) := by
    intro _
    subst hA
    refine AAny.step [] [1, 2] (by decide +kernel) (by simp) (by decide) ⟨?_, ?_, trivial⟩
    ·
     show aopsR _ _ _ [_] _ _ _
     refine ar_loadp rfl (v := .slice false (e.a.map expIn)) rfl (wth_get 3 hNv1 rfl) rfl (apartOk_one rfl rfl (Nat.le_of_ble_eq_true rfl)) rfl ?_
     refine AAny.keep [4, 12, 106, 112] (by decide) ?_
     exact s20 trivial
    ·
     show aopsR _ _ _ [_] _ _ _
     refine ⟨⟨rfl, by decide⟩, ?_⟩
     refine AAny.keep [4, 105, 107, 112] (by decide) ?_
     exact s22 trivial
   clear s20
   have s28 : ∀ (_ : True), A 11 #[false, false, true, true, false, false, false, false, false, false, false, false, false] (fun fr m => K1 (fr.keep [4, 5]) m) [(2, .ptr ⟨b1, 0, none⟩), (3, .ptr ⟨b2, 0, none⟩), (4, .ptr ⟨b3, 0, none⟩), (108, .int .i64 (((gE en rs k (gI e.a 0)).1).n))] (AMem.wth m [(b43, valO ((gE en rs k (gI e.a 0)).1)), (b3, zO), (b2, .cells [.map bi, .map br, .map bf]), (b1, expO e), (bi, vmO en), (br, vmO rs), (bf, nmO)]) := by
    intro _
    subst hA
    refine AAny.step [] [0, 4, 7] (by decide +kernel) (by simp) (by decide) ⟨?_, ?_, ?_, trivial⟩
    ·
     show aopsR _ _ _ [_] _ _ _
     refine ⟨⟨rfl, by decide⟩, ?_⟩
     refine AAny.keep [3, 4, 105, 108] (by decide) ?_
     exact s21 trivial
    ·
     show aopsR _ _ _ [_] _ _ _
     refine ar_sub rfl (a := 2) (b := ((gE en rs k (gI e.a 0)).1).n) rfl rfl (by omega) (by omega) ?_
     refine AAny.keep [2, 3, 4, 109] (by decide) ?_
     exact s23 trivial
    ·
     show aopsR _ _ _ [_] _ _ _
     refine ar_loadp rfl (v := .agg [.map bi, .map br, .map bf]) rfl (wth_get 2 hNv1 rfl) rfl (apartOk_agg rfl rfl (Nat.le_of_ble_eq_true rfl)) rfl ?_
     refine AAny.keep [2, 4, 108, 112] (by decide) ?_
     exact s24 trivial
   clear s21 s23
   have s29 : ∀ (_ : True), A 11 #[false, false, true, false, false, false, false, true, false, false, false, false, false] (fun fr m => K1 (fr.keep [4, 5]) m) [(2, .ptr ⟨b1, 0, none⟩), (4, .ptr ⟨b3, 0, none⟩), (107, .ptr ⟨b43, 1, none⟩), (112, .agg [.map bi, .map br, .map bf])] (AMem.wth m [(b43, valO ((gE en rs k (gI e.a 0)).1)), (b3, zO), (b2, .cells [.map bi, .map br, .map bf]), (b1, expO e), (bi, vmO en), (br, vmO rs), (bf, nmO)]) := by
    intro _
    subst hA
    refine AAny.step [] [0, 3] (by decide +kernel) (by simp) (by decide) ⟨?_, ?_, trivial⟩
    ·
     show aopsR _ _ _ [_] _ _ _
     refine ⟨⟨rfl, by decide⟩, ?_⟩
     refine AAny.keep [4, 105, 107, 112] (by decide) ?_
     exact s22 trivial
    ·
     show aopsR _ _ _ [_] _ _ _
     refine ar_loadp rfl (v := .int .i64 (((gE en rs k (gI e.a 0)).1).n)) rfl (wth_get 0 hNv1 rfl) rfl (apartOk_one rfl rfl (Nat.le_of_ble_eq_true rfl)) rfl ?_
     refine AAny.keep [2, 4, 108, 112] (by decide) ?_
     exact s24 trivial
   clear s22 s24
   have s30 : ∀ (_ : True), A 12 #[true, false, false, false, false, false, false, false, false, false, false, false, false] (fun fr m => K1 (fr.keep [4, 5]) m) [(3, .ptr ⟨b2, 0, none⟩), (4, .ptr ⟨b3, 0, none⟩), (12, .ptr ⟨b43, 0, none⟩), (105, .ptr ⟨b1, 8, none⟩)] (AMem.wth m [(b43, valO ((gE en rs k (gI e.a 0)).1)), (b3, zO), (b2, .cells [.map bi, .map br, .map bf]), (b1, expO e), (bi, vmO en), (br, vmO rs), (bf, nmO)]) := by
    intro _
    subst hA
    refine AAny.step [] [1, 2, 7] (by decide +kernel) (by simp) (by decide) ⟨?_, ?_, ?_, trivial⟩
    ·
     show aopsR _ _ _ [_] _ _ _
     refine ar_loadp rfl (v := .slice false (e.a.map expIn)) rfl (wth_get 3 hNv1 rfl) rfl (apartOk_one rfl rfl (Nat.le_of_ble_eq_true rfl)) rfl ?_
     refine AAny.keep [3, 4, 12, 106] (by decide) ?_
     exact s25 trivial
    ·
     show aopsR _ _ _ [_] _ _ _
     refine ⟨⟨rfl, by decide⟩, ?_⟩
     refine AAny.keep [3, 4, 105, 107] (by decide) ?_
     exact s26 trivial
    ·
     show aopsR _ _ _ [_] _ _ _
     refine ar_loadp rfl (v := .agg [.map bi, .map br, .map bf]) rfl (wth_get 2 hNv1 rfl) rfl (apartOk_agg rfl rfl (Nat.le_of_ble_eq_true rfl)) rfl ?_
     refine AAny.keep [4, 12, 105, 112] (by decide) ?_
     exact s27 trivial
   clear s25
   have s31 : ∀ (_ : True), A 12 #[false, false, true, false, false, false, false, false, false, false, false, false, false] (fun fr m => K1 (fr.keep [4, 5]) m) [(2, .ptr ⟨b1, 0, none⟩), (3, .ptr ⟨b2, 0, none⟩), (4, .ptr ⟨b3, 0, none⟩), (107, .ptr ⟨b43, 1, none⟩)] (AMem.wth m [(b43, valO ((gE en rs k (gI e.a 0)).1)), (b3, zO), (b2, .cells [.map bi, .map br, .map bf]), (b1, expO e), (bi, vmO en), (br, vmO rs), (bf, nmO)]) := by
    intro _
    subst hA
    refine AAny.step [] [0, 3, 7] (by decide +kernel) (by simp) (by decide) ⟨?_, ?_, ?_, trivial⟩
    ·
     show aopsR _ _ _ [_] _ _ _
     refine ⟨⟨rfl, by decide⟩, ?_⟩
     refine AAny.keep [3, 4, 105, 107] (by decide) ?_
     exact s26 trivial
    ·
     show aopsR _ _ _ [_] _ _ _
     refine ar_loadp rfl (v := .int .i64 (((gE en rs k (gI e.a 0)).1).n)) rfl (wth_get 0 hNv1 rfl) rfl (apartOk_one rfl rfl (Nat.le_of_ble_eq_true rfl)) rfl ?_
     refine AAny.keep [2, 3, 4, 108] (by decide) ?_
     exact s28 trivial
    ·
     show aopsR _ _ _ [_] _ _ _
     refine ar_loadp rfl (v := .agg [.map bi, .map br, .map bf]) rfl (wth_get 2 hNv1 rfl) rfl (apartOk_agg rfl rfl (Nat.le_of_ble_eq_true rfl)) rfl ?_
     refine AAny.keep [2, 4, 107, 112] (by decide) ?_
     exact s29 trivial
   clear s26 s28
   have s32 : ∀ (_ : True), A 12 #[false, false, false, false, false, false, false, true, false, false, false, false, false] (fun fr m => K1 (fr.keep [4, 5]) m) [(2, .ptr ⟨b1, 0, none⟩), (4, .ptr ⟨b3, 0, none⟩), (12, .ptr ⟨b43, 0, none⟩), (112, .agg [.map bi, .map br, .map bf])] (AMem.wth m [(b43, valO ((gE en rs k (gI e.a 0)).1)), (b3, zO), (b2, .cells [.map bi, .map br, .map bf]), (b1, expO e), (bi, vmO en), (br, vmO rs), (bf, nmO)]) := by
    intro _
    subst hA
    refine AAny.step [] [0, 2] (by decide +kernel) (by simp) (by decide) ⟨?_, ?_, trivial⟩
    ·
     show aopsR _ _ _ [_] _ _ _
     refine ⟨⟨rfl, by decide⟩, ?_⟩
     refine AAny.keep [4, 12, 105, 112] (by decide) ?_
     exact s27 trivial
    ·
     show aopsR _ _ _ [_] _ _ _
     refine ⟨⟨rfl, by decide⟩, ?_⟩
     refine AAny.keep [2, 4, 107, 112] (by decide) ?_
     exact s29 trivial
   clear s27 s29
   have s33 : ∀ (_ : True), A 13 #[false, false, false, false, false, false, false, false, false, false, false, false, false] (fun fr m => K1 (fr.keep [4, 5]) m) [(2, .ptr ⟨b1, 0, none⟩), (3, .ptr ⟨b2, 0, none⟩), (4, .ptr ⟨b3, 0, none⟩), (12, .ptr ⟨b43, 0, none⟩), (102, .bool (!((((gE en rs k (gI e.a 0)).1).kind) == 3)))] (AMem.wth m [(b43, valO ((gE en rs k (gI e.a 0)).1)), (b3, zO), (b2, .cells [.map bi, .map br, .map bf]), (b1, expO e), (bi, vmO en), (br, vmO rs), (bf, nmO)]) := by
    intro _
    subst hA
    refine AAny.step [] [0, 2, 7] (by decide +kernel) (by simp) (by decide) ⟨?_, ?_, ?_, trivial⟩
    ·
     show aopsR _ _ _ [_] _ _ _
     refine ⟨⟨rfl, by decide⟩, ?_⟩
     refine AAny.keep [3, 4, 12, 105] (by decide) ?_
     exact s30 trivial
    ·
     show aopsR _ _ _ [_] _ _ _
     refine ⟨⟨rfl, by decide⟩, ?_⟩
     refine AAny.keep [2, 3, 4, 107] (by decide) ?_
     exact s31 trivial
    ·
     show aopsR _ _ _ [_] _ _ _
     refine ar_loadp rfl (v := .agg [.map bi, .map br, .map bf]) rfl (wth_get 2 hNv1 rfl) rfl (apartOk_agg rfl rfl (Nat.le_of_ble_eq_true rfl)) rfl ?_
     refine AAny.keep [2, 4, 12, 112] (by decide) ?_
     exact s32 trivial
   clear s30 s31 s32
   exact s33 trivial
  intro _
  refine hK1 _ _ ?_; clear hK1 K1
  refine awp_ret ?_
  refine resK_cell2 (fn := Try.f16) (a := 4) (t := 25) (s := 5) (b := b3) (off := 0) rfl rfl (wth_get  (m := m) (L := [(b43, valO ((gE en rs k (gI e.a 0)).1)), (b3, valO ((evF en rs k (gI e.a (2 - (((gE en rs k (gI e.a 0)).1).n)))).1)), (b2, .cells [.map bi, .map br, .map bf]), (b1, expO e), (bi, vmO en), (br, vmO rs), (bf, nmO)]) 1 hNv1 rfl) (apartOk_agg rfl rfl (Nat.le_of_ble_eq_true rfl)) (.agg [.int .i64 (((evF en rs k (gI e.a (2 - (((gE en rs k (gI e.a 0)).1).n)))).1).kind), .int .i64 (((evF en rs k (gI e.a (2 - (((gE en rs k (gI e.a 0)).1).n)))).1).n), .str (((evF en rs k (gI e.a (2 - (((gE en rs k (gI e.a 0)).1).n)))).1).s), .slice false ((((evF en rs k (gI e.a (2 - (((gE en rs k (gI e.a 0)).1).n)))).1).l).map valIn), .slice false ((((evF en rs k (gI e.a (2 - (((gE en rs k (gI e.a 0)).1).n)))).1).f).map fldIn)]) (.err 67 ((evF en rs k (gI e.a (2 - (((gE en rs k (gI e.a 0)).1).n)))).2)) rfl rfl (.err 67 ((evF en rs k (gI e.a (2 - (((gE en rs k (gI e.a 0)).1).n)))).2)) rfl (AMem.wth m [(bi, vmO en), (br, vmO rs), (bf, nmO)]) ((wth_sub2 (m := m) [(b43, valO ((gE en rs k (gI e.a 0)).1)), (b3, valO ((evF en rs k (gI e.a (2 - (((gE en rs k (gI e.a 0)).1).n)))).1)), (b2, .cells [.map bi, .map br, .map bf]), (b1, expO e)] [(bi, vmO en), (br, vmO rs), (bf, nmO)] hNv1 (by simp only [List.map_cons, List.map_nil, List.forall_mem_cons]; exact ⟨hFb43, hFb3, hFb2, hFb1, fun _ h => by cases h⟩))) ?_
  show K (.tuple [.agg [.int .i64 (((evF en rs k (gI e.a (2 - (((gE en rs k (gI e.a 0)).1).n)))).1).kind), .int .i64 (((evF en rs k (gI e.a (2 - (((gE en rs k (gI e.a 0)).1).n)))).1).n), .str (((evF en rs k (gI e.a (2 - (((gE en rs k (gI e.a 0)).1).n)))).1).s), .slice false ((((evF en rs k (gI e.a (2 - (((gE en rs k (gI e.a 0)).1).n)))).1).l).map valIn), .slice false ((((evF en rs k (gI e.a (2 - (((gE en rs k (gI e.a 0)).1).n)))).1).f).map fldIn)], .err 67 ((evF en rs k (gI e.a (2 - (((gE en rs k (gI e.a 0)).1).n)))).2)]) (AMem.wth m [(bi, vmO en), (br, vmO rs), (bf, nmO)])
 
  have e0 : evF en rs (k + 1) e = ((((evF en rs k (gI e.a (2 - (((gE en rs k (gI e.a 0)).1).n)))).1), (evF en rs k (gI e.a (2 - (((gE en rs k (gI e.a 0)).1).n)))).2) : Val × Int) := by
   first | exact evF_1 (by assumption) | exact evF_2 (by assumption) | exact evF_30 (by assumption) (by assumption) | exact evF_31 (by assumption) (by assumption) | exact evF_4 (by assumption) | exact evF_70 (by assumption) (by assumption) | exact evF_71 (by assumption) (by assumption) (by assumption) | exact evF_72 (by assumption) (by assumption) (by assumption) (by assumption) | exact evF_73 (by assumption) (by assumption) (by assumption) (by assumption) | exact evF_80 (by assumption) (by assumption) (by assumption) (by assumption) (by assumption) (by assumption) | exact evF_81 (by assumption) (by assumption) (by assumption) (by assumption) (by assumption) (by assumption)
  rw [e0] at hK
  exact hK
 replace h6 : e.kind ≠ 7 := (ne_of_beq_false h6)
 refine awp_skip ?_
 refine hK2 _ _ ?_; clear hK2
 refine awp_reg2_seq [] [2, 4, 14, 15] (by decide) ?_
 intro K1 hK1
 refine ⟨⟨rfl, by decide⟩, ?_⟩
 refine ar_loadp rfl (v := .slice false (e.a.map expIn)) rfl (wth_get 2 hNb3 rfl) rfl (apartOk_one rfl rfl (Nat.le_of_ble_eq_true rfl)) rfl ?_
 refine ar_loadp rfl (v := .agg [.map bi, .map br, .map bf]) rfl (wth_get 1 hNb3 rfl) rfl (apartOk_agg rfl rfl (Nat.le_of_ble_eq_true rfl)) rfl ?_
 refine ar_mem (wth_split hNb3 (pick_perm [3, 3, 3] _)) ?_
 refine u_all k e.a bi br bf en rs hN hoe.1.2 (fun x hx => ih x (by have := depE_mem hx; omega) (hoe.2 x hx)) _ _ ?_
 show aopsR _ _ _ _ _ _ (AMem.wth (AMem.wth m [(b3, zO), (b2, .cells [.map bi, .map br, .map bf]), (b1, expO e)]) [(bi, vmO en), (br, vmO rs), (bf, nmO)])
 refine ar_mem (wth_split (m := m) (L := [(b3, zO), (b2, .cells [.map bi, .map br, .map bf]), (b1, expO e), (bi, vmO en), (br, vmO rs), (bf, nmO)]) hNb3 (pick_perm [3, 3, 3] _)).symm ?_
 refine ⟨trivial, (Nat.le_of_ble_eq_true rfl), (Nat.le_of_ble_eq_true rfl), trivial, trivial, ?_⟩
 show K1 [(2, .ptr ⟨b1, 0, none⟩), (4, .ptr ⟨b3, 0, none⟩), (14, .slice false ((allL (gE en rs k) e.a).map valIn)), (15, .err 67 (allE (gE en rs k) e.a))] (AMem.wth m [(b3, zO), (b2, .cells [.map bi, .map br, .map bf]), (b1, expO e), (bi, vmO en), (br, vmO rs), (bf, nmO)])
 refine hK1 _ _ ?_; clear hK1 K1
 refine awp_seq_k ?_; intro K7 hK7
 refine awp_reg2_seq [] [2, 4, 14, 15, 124] (by decide) ?_
 intro K1 hK1
 refine ⟨trivial, ⟨rfl, rfl⟩, ?_⟩
 show K1 [(2, .ptr ⟨b1, 0, none⟩), (4, .ptr ⟨b3, 0, none⟩), (14, .slice false ((allL (gE en rs k) e.a).map valIn)), (15, .err 67 (allE (gE en rs k) e.a)), (124, .bool (!((allE (gE en rs k) e.a) == 0)))] (AMem.wth m [(b3, zO), (b2, .cells [.map bi, .map br, .map bf]), (b1, expO e), (bi, vmO en), (br, vmO rs), (bf, nmO)])
 refine hK1 _ _ ?_; clear hK1 K1
 refine awp_cond rfl rfl (fun h10 => ?_) (fun h10 => ?_)
 ·
  replace h10 : allE (gE en rs k) e.a ≠ 0 := (ne_of_beq_false (bnT h10))
  refine awp_reg2_seq [] [4, 5] (by decide) ?_
  intro K1 hK1
  refine ⟨⟨rfl, by simp only [List.forall_mem_cons]; exact ⟨rfl, rfl, rfl, rfl, rfl, fun _ h => by cases h⟩, fun _ h => by cases h⟩, trivial, ?_⟩
  refine ar_storep rfl 0 (v := .agg [.int .i64 0, .int .i64 0, .str ([]), .slice true [], .slice true []]) (l' := [.int .i64 0, .int .i64 0, .str ([]), .slice true [], .slice true []]) rfl rfl hNb3 rfl rfl rfl rfl rfl (Nat.le_of_ble_eq_true rfl) rfl ?_
  refine ⟨trivial, ?_⟩
  show K1 [(4, .ptr ⟨b3, 0, none⟩), (5, .err 67 (allE (gE en rs k) e.a))] (AMem.wth m [(b3, zO), (b2, .cells [.map bi, .map br, .map bf]), (b1, expO e), (bi, vmO en), (br, vmO rs), (bf, nmO)])
  refine hK1 _ _ ?_; clear hK1 K1
  refine awp_ret ?_
  refine resK_cell2 (fn := Try.f16) (a := 4) (t := 25) (s := 5) (b := b3) (off := 0) rfl rfl (wth_get  (m := m) (L := [(b3, zO), (b2, .cells [.map bi, .map br, .map bf]), (b1, expO e), (bi, vmO en), (br, vmO rs), (bf, nmO)]) 0 hNb3 rfl) (apartOk_agg rfl rfl (Nat.le_of_ble_eq_true rfl)) (.agg [.int .i64 0, .int .i64 0, .str ([]), .slice false [], .slice false []]) (.err 67 (allE (gE en rs k) e.a)) rfl rfl (.err 67 (allE (gE en rs k) e.a)) rfl (AMem.wth m [(bi, vmO en), (br, vmO rs), (bf, nmO)]) ((wth_sub2 (m := m) [(b3, zO), (b2, .cells [.map bi, .map br, .map bf]), (b1, expO e)] [(bi, vmO en), (br, vmO rs), (bf, nmO)] hNb3 (by simp only [List.map_cons, List.map_nil, List.forall_mem_cons]; exact ⟨hFb3, hFb2, hFb1, fun _ h => by cases h⟩))) ?_
  show K (.tuple [.agg [.int .i64 0, .int .i64 0, .str ([]), .slice false [], .slice false []], .err 67 (allE (gE en rs k) e.a)]) (AMem.wth m [(bi, vmO en), (br, vmO rs), (bf, nmO)])
 
  have e0 : evF en rs (k + 1) e = (((⟨0, 0, [], [], []⟩ : Val), allE (gE en rs k) e.a) : Val × Int) := by
   first | exact evF_1 (by assumption) | exact evF_2 (by assumption) | exact evF_30 (by assumption) (by assumption) | exact evF_31 (by assumption) (by assumption) | exact evF_4 (by assumption) | exact evF_70 (by assumption) (by assumption) | exact evF_71 (by assumption) (by assumption) (by assumption) | exact evF_72 (by assumption) (by assumption) (by assumption) (by assumption) | exact evF_73 (by assumption) (by assumption) (by assumption) (by assumption) | exact evF_80 (by assumption) (by assumption) (by assumption) (by assumption) (by assumption) (by assumption) | exact evF_81 (by assumption) (by assumption) (by assumption) (by assumption) (by assumption) (by assumption)
  rw [e0] at hK
  exact hK
 replace h10 : allE (gE en rs k) e.a = 0 := (eq_of_beq (bnF h10))
 refine awp_skip ?_
 refine hK7 _ _ ?_; clear hK7
 refine awp_reg2_seq [] [4, 5] (by decide) ?_
 intro K1 hK1
 refine ar_loadp rfl (v := .agg [.int .i64 e.kind, .int .i64 e.v.kind, .int .i64 e.v.n, .str e.v.s, .slice false (e.v.l.map valIn), .slice false (e.v.f.map fldIn), .str e.s, .str e.t, .slice false (e.a.map expIn), .slice false (e.n.map strAV)]) rfl (wth_get 2 hNb3 rfl) rfl (apartOk_agg rfl rfl (Nat.le_of_ble_eq_true rfl)) rfl ?_
 refine ⟨trivial, ?_⟩
 refine u_join e (allL (gE en rs k) e.a) (allL_ok (fun x h => fin_ok h)) (by have := allL_len (gE en rs k) e.a; omega) _ _ ?_
 refine ⟨(Nat.le_of_ble_eq_true rfl), (Nat.le_of_ble_eq_true rfl), ?_⟩
 refine ar_storep rfl 0 (v := valTop ((joinR e (allL (gE en rs k) e.a)).1)) (l' := [.int .i64 (((joinR e (allL (gE en rs k) e.a)).1).kind), .int .i64 (((joinR e (allL (gE en rs k) e.a)).1).n), .str (((joinR e (allL (gE en rs k) e.a)).1).s), .slice false ((((joinR e (allL (gE en rs k) e.a)).1).l).map valIn), .slice false ((((joinR e (allL (gE en rs k) e.a)).1).f).map fldIn)]) rfl (by rfl) hNb3 rfl rfl rfl rfl rfl (Nat.le_of_ble_eq_true rfl) rfl ?_
 refine ⟨trivial, ?_⟩
 show K1 [(4, .ptr ⟨b3, 0, none⟩), (5, .err 67 ((joinR e (allL (gE en rs k) e.a)).2))] (AMem.wth m [(b3, valO ((joinR e (allL (gE en rs k) e.a)).1)), (b2, .cells [.map bi, .map br, .map bf]), (b1, expO e), (bi, vmO en), (br, vmO rs), (bf, nmO)])
 refine hK1 _ _ ?_; clear hK1 K1
 refine awp_ret ?_
 refine resK_cell2 (fn := Try.f16) (a := 4) (t := 25) (s := 5) (b := b3) (off := 0) rfl rfl (wth_get  (m := m) (L := [(b3, valO ((joinR e (allL (gE en rs k) e.a)).1)), (b2, .cells [.map bi, .map br, .map bf]), (b1, expO e), (bi, vmO en), (br, vmO rs), (bf, nmO)]) 0 hNb3 rfl) (apartOk_agg rfl rfl (Nat.le_of_ble_eq_true rfl)) (.agg [.int .i64 (((joinR e (allL (gE en rs k) e.a)).1).kind), .int .i64 (((joinR e (allL (gE en rs k) e.a)).1).n), .str (((joinR e (allL (gE en rs k) e.a)).1).s), .slice false ((((joinR e (allL (gE en rs k) e.a)).1).l).map valIn), .slice false ((((joinR e (allL (gE en rs k) e.a)).1).f).map fldIn)]) (.err 67 ((joinR e (allL (gE en rs k) e.a)).2)) rfl rfl (.err 67 ((joinR e (allL (gE en rs k) e.a)).2)) rfl (AMem.wth m [(bi, vmO en), (br, vmO rs), (bf, nmO)]) ((wth_sub2 (m := m) [(b3, valO ((joinR e (allL (gE en rs k) e.a)).1)), (b2, .cells [.map bi, .map br, .map bf]), (b1, expO e)] [(bi, vmO en), (br, vmO rs), (bf, nmO)] hNb3 (by simp only [List.map_cons, List.map_nil, List.forall_mem_cons]; exact ⟨hFb3, hFb2, hFb1, fun _ h => by cases h⟩))) ?_
 show K (.tuple [.agg [.int .i64 (((joinR e (allL (gE en rs k) e.a)).1).kind), .int .i64 (((joinR e (allL (gE en rs k) e.a)).1).n), .str (((joinR e (allL (gE en rs k) e.a)).1).s), .slice false ((((joinR e (allL (gE en rs k) e.a)).1).l).map valIn), .slice false ((((joinR e (allL (gE en rs k) e.a)).1).f).map fldIn)], .err 67 ((joinR e (allL (gE en rs k) e.a)).2)]) (AMem.wth m [(bi, vmO en), (br, vmO rs), (bf, nmO)])

 have e0 : evF en rs (k + 1) e = ((((joinR e (allL (gE en rs k) e.a)).1), (joinR e (allL (gE en rs k) e.a)).2) : Val × Int) := by
  first | exact evF_1 (by assumption) | exact evF_2 (by assumption) | exact evF_30 (by assumption) (by assumption) | exact evF_31 (by assumption) (by assumption) | exact evF_4 (by assumption) | exact evF_70 (by assumption) (by assumption) | exact evF_71 (by assumption) (by assumption) (by assumption) | exact evF_72 (by assumption) (by assumption) (by assumption) (by assumption) | exact evF_73 (by assumption) (by assumption) (by assumption) (by assumption) | exact evF_80 (by assumption) (by assumption) (by assumption) (by assumption) (by assumption) (by assumption) | exact evF_81 (by assumption) (by assumption) (by assumption) (by assumption) (by assumption) (by assumption)
 rw [e0] at hK
 exact hK

end Go.Proofs

import Derived.Test.YtbpdfkladkcagaaProg
import Derived.Test.YtbpdfkladkcagaaWl4
import Derived.Test.YtbpdfkladkcagaaEv1
namespace Go.Proofs
open Go Go.Aw
set_option maxRecDepth 100000

set_option maxHeartbeats 2000000 in
theorem u_named (v : Val) (is : Bool) (hz : okV v) (m : AMem)  (K : AV → AMem → Prop) (hK : K (.tuple [valTop (namedB v is).1, .err 67 (namedB v is).2]) m) : ACalls Try.prog 22 [valTop v, .bool is] m K := by
 refine acalls_enter Try.func22 rfl (by decide) (Nat.le_of_ble_eq_true rfl) ?_
 show AWP _ _ _ _ [(0, valTop v), (1, .bool is)] m
 refine awp_reg2_seq [] [1, 2, 4] (by decide) ?_
 intro K1 hK1
 refine ar_box rfl (m := m) (L := []) (v := valTop v) (by rfl) rfl ?_
 intro b1 hb1
 have hFb1 : m b1 = none := wth_none (m := m) (L := []) hb1
 have hNb1 : ([b1] : List Nat).Nodup := wth_nodup (m := m) (L := []) hb1 List.nodup_nil
 refine ar_alloc rfl (z := .agg [.int .i64 0, .int .i64 0, .str ([]), .slice true [], .slice true []]) rfl rfl ?_
 intro b2 hb2
 have hFb2 : m b2 = none := wth_none hb2
 have hNb2 : ([b2, b1] : List Nat).Nodup := wth_nodup hb2 hNb1
 refine ⟨trivial, ?_⟩
 show K1 [(1, .bool is), (2, .ptr ⟨b1, 0, none⟩), (4, .ptr ⟨b2, 0, none⟩)] (AMem.wth m [(b2, zO), (b1, valO v)])
 refine hK1 _ _ ?_; clear hK1 K1
 refine awp_seq_k ?_; intro K2 hK2
 refine awp_reg2_seq [] [2, 4, 7] (by decide) ?_
 intro K1 hK1
 refine ⟨trivial, trivial, ?_⟩
 show K1 [(2, .ptr ⟨b1, 0, none⟩), (4, .ptr ⟨b2, 0, none⟩), (7, .bool (!is))] (AMem.wth m [(b2, zO), (b1, valO v)])
 refine hK1 _ _ ?_; clear hK1 K1
 refine awp_cond rfl rfl (fun h1 => ?_) (fun h1 => ?_)
 ·
  replace h1 : is = false := (bnT h1)
  refine awp_reg2_seq [] [4, 5] (by decide) ?_
  intro K1 hK1
  refine ⟨⟨rfl, by simp only [List.forall_mem_cons]; exact ⟨rfl, rfl, rfl, rfl, rfl, fun _ h => by cases h⟩, fun _ h => by cases h⟩, trivial, ?_⟩
  refine ar_storep rfl 0 (v := .agg [.int .i64 0, .int .i64 0, .str ([]), .slice true [], .slice true []]) (l' := [.int .i64 0, .int .i64 0, .str ([]), .slice true [], .slice true []]) rfl rfl hNb2 rfl rfl rfl rfl rfl (Nat.le_of_ble_eq_true rfl) rfl ?_
  refine ⟨trivial, ?_⟩
  show K1 [(4, .ptr ⟨b2, 0, none⟩), (5, .iface 67 (.int .i64 7))] (AMem.wth m [(b2, zO), (b1, valO v)])
  refine hK1 _ _ ?_; clear hK1 K1
  refine awp_toErr 67 [5] ?_
  show AWP _ _ _ _ [(4, .ptr ⟨b2, 0, none⟩), (5, .err 67 7)] (AMem.wth m [(b2, zO), (b1, valO v)])
  refine awp_ret ?_
  refine resK_cell2 (fn := Try.f22) (a := 4) (t := 25) (s := 5) (b := b2) (off := 0) rfl rfl (wth_get  (m := m) (L := [(b2, zO), (b1, valO v)]) 0 hNb2 rfl) (apartOk_agg rfl rfl (Nat.le_of_ble_eq_true rfl)) (.agg [.int .i64 0, .int .i64 0, .str ([]), .slice false [], .slice false []]) (.err 67 7) rfl rfl (.err 67 7) rfl m ((wth_sub2 (m := m) [(b2, zO), (b1, valO v)] [] hNb2 (by simp only [List.map_cons, List.map_nil, List.forall_mem_cons]; exact ⟨hFb2, hFb1, fun _ h => by cases h⟩))) ?_
  show K (.tuple [.agg [.int .i64 0, .int .i64 0, .str ([]), .slice false [], .slice false []], .err 67 7]) m
 
  have e0 : namedB v is = (((⟨0, 0, [], [], []⟩ : Val), 7) : Val × Int) := by
   first | (rw [namedB, if_pos (by assumption)]; done) | (rw [namedB, if_neg (by simp [*])]; rfl)
  rw [e0] at hK
  exact hK
 replace h1 : is = true := (bnF h1)
 refine awp_skip ?_
 refine hK2 _ _ ?_; clear hK2
 refine awp_reg2_seq [] [4, 5] (by decide) ?_
 intro K1 hK1
 refine ar_loadp rfl (v := .agg [.int .i64 v.kind, .int .i64 v.n, .str v.s, .slice false (v.l.map valIn), .slice false (v.f.map fldIn)]) rfl (wth_get 1 hNb2 rfl) rfl (apartOk_agg rfl rfl (Nat.le_of_ble_eq_true rfl)) rfl ?_
 refine u_Copy v hz _ _ ?_
 refine ar_storep rfl 0 (v := valTop v) (l' := [.int .i64 v.kind, .int .i64 v.n, .str v.s, .slice false (v.l.map valIn), .slice false (v.f.map fldIn)]) rfl (by rfl) hNb2 rfl rfl rfl rfl rfl (Nat.le_of_ble_eq_true rfl) rfl ?_
 refine ⟨trivial, ?_⟩
 show K1 [(4, .ptr ⟨b2, 0, none⟩), (5, .nilIface)] (AMem.wth m [(b2, valO v), (b1, valO v)])
 refine hK1 _ _ ?_; clear hK1 K1
 refine awp_toErr 67 [5] ?_
 show AWP _ _ _ _ [(4, .ptr ⟨b2, 0, none⟩), (5, .err 67 0)] (AMem.wth m [(b2, valO v), (b1, valO v)])
 refine awp_ret ?_
 refine resK_cell2 (fn := Try.f22) (a := 4) (t := 25) (s := 5) (b := b2) (off := 0) rfl rfl (wth_get  (m := m) (L := [(b2, valO v), (b1, valO v)]) 0 hNb2 rfl) (apartOk_agg rfl rfl (Nat.le_of_ble_eq_true rfl)) (.agg [.int .i64 v.kind, .int .i64 v.n, .str v.s, .slice false (v.l.map valIn), .slice false (v.f.map fldIn)]) (.err 67 0) rfl rfl (.err 67 0) rfl m ((wth_sub2 (m := m) [(b2, valO v), (b1, valO v)] [] hNb2 (by simp only [List.map_cons, List.map_nil, List.forall_mem_cons]; exact ⟨hFb2, hFb1, fun _ h => by cases h⟩))) ?_
 show K (.tuple [.agg [.int .i64 v.kind, .int .i64 v.n, .str v.s, .slice false (v.l.map valIn), .slice false (v.f.map fldIn)], .err 67 0]) m

 have e0 : namedB v is = ((v, 0) : Val × Int) := by
  first | (rw [namedB, if_pos (by assumption)]; done) | (rw [namedB, if_neg (by simp [*])]; rfl)
 rw [e0] at hK
 exact hK

set_option maxHeartbeats 4000000 in
theorem u_plus (a b : Val) (ha : chk a = 0) (hb : chk b = 0) (m : AMem)  (K : AV → AMem → Prop) (hK : K (.tuple [valTop (plusR a b).1, .err 67 (plusR a b).2]) m) : ACalls Try.prog 40 [valTop a, valTop b] m K := by
 have hna := chk_num ha
 have hnb := chk_num hb
 have hla := chk_len ha
 have hlb := chk_len hb
 refine acalls_enter Try.func40 rfl (by decide) (Nat.le_of_ble_eq_true rfl) ?_
 refine awp_bd 0 (x := valTop a) rfl (fun hbd0 => ?_)
 have hbd0_2 : a.s.length ≤ 140737488355328 := (hbd0 2 (Nat.le_of_ble_eq_true rfl))
 have hbd0_3 : a.l.length ≤ 140737488355328 := bd_map (hbd0 3 (Nat.le_of_ble_eq_true rfl))
 have hbd0_4 : a.f.length ≤ 140737488355328 := bd_map (hbd0 4 (Nat.le_of_ble_eq_true rfl))
 refine awp_bd 1 (x := valTop b) rfl (fun hbd1 => ?_)
 have hbd1_2 : b.s.length ≤ 140737488355328 := (hbd1 2 (Nat.le_of_ble_eq_true rfl))
 have hbd1_3 : b.l.length ≤ 140737488355328 := bd_map (hbd1 3 (Nat.le_of_ble_eq_true rfl))
 have hbd1_4 : b.f.length ≤ 140737488355328 := bd_map (hbd1 4 (Nat.le_of_ble_eq_true rfl))
 show AWP _ _ _ _ [(0, valTop a), (1, valTop b)] m
 refine awp_reg2_seq [] [2, 3, 4] (by decide) ?_
 intro K1 hK1
 refine ar_box rfl (m := m) (L := []) (v := valTop a) (by rfl) rfl ?_
 intro b1 hb1
 have hFb1 : m b1 = none := wth_none (m := m) (L := []) hb1
 have hNb1 : ([b1] : List Nat).Nodup := wth_nodup (m := m) (L := []) hb1 List.nodup_nil
 refine ar_box rfl (m := m) (L := [(b1, valO a)]) (v := valTop b) (by rfl) rfl ?_
 intro b2 hb2
 have hFb2 : m b2 = none := wth_none hb2
 have hNb2 : ([b2, b1] : List Nat).Nodup := wth_nodup hb2 hNb1
 refine ar_alloc rfl (z := .agg [.int .i64 0, .int .i64 0, .str ([]), .slice true [], .slice true []]) rfl rfl ?_
 intro b3 hb3
 have hFb3 : m b3 = none := wth_none hb3
 have hNb3 : ([b3, b2, b1] : List Nat).Nodup := wth_nodup hb3 hNb2
 refine ⟨trivial, ?_⟩
 show K1 [(2, .ptr ⟨b1, 0, none⟩), (3, .ptr ⟨b2, 0, none⟩), (4, .ptr ⟨b3, 0, none⟩)] (AMem.wth m [(b3, zO), (b2, valO b), (b1, valO a)])
 refine hK1 _ _ ?_; clear hK1 K1
 refine awp_seq_k ?_; intro K2 hK2
 refine awp_block ?_
 refine awp_reg2_seq [] [2, 3, 4, 7] (by decide) ?_
 intro K1 hK1
 refine ⟨⟨rfl, by decide⟩, ?_⟩
 refine ar_loadp rfl (v := .int .i64 a.kind) rfl (wth_get 2 hNb3 rfl) rfl (apartOk_one rfl rfl (Nat.le_of_ble_eq_true rfl)) rfl ?_
 refine ⟨⟨rfl, by decide⟩, ?_⟩
 refine ar_loadp rfl (v := .int .i64 b.kind) rfl (wth_get 1 hNb3 rfl) rfl (apartOk_one rfl rfl (Nat.le_of_ble_eq_true rfl)) rfl ?_
 refine ⟨trivial, trivial, ?_⟩
 show K1 [(2, .ptr ⟨b1, 0, none⟩), (3, .ptr ⟨b2, 0, none⟩), (4, .ptr ⟨b3, 0, none⟩), (7, .bool (!(a.kind == b.kind)))] (AMem.wth m [(b3, zO), (b2, valO b), (b1, valO a)])
 refine hK1 _ _ ?_; clear hK1 K1
 refine awp_cond rfl rfl (fun h1 => ?_) (fun h1 => ?_)
 ·
  replace h1 : a.kind ≠ b.kind := (ne_of_beq_false (bnT h1))
  refine awp_skip ?_
  refine hK2 _ _ ?_; clear hK2
  refine awp_reg2_seq [] [4, 5] (by decide) ?_
  intro K1 hK1
  refine ⟨⟨rfl, by simp only [List.forall_mem_cons]; exact ⟨rfl, rfl, rfl, rfl, rfl, fun _ h => by cases h⟩, fun _ h => by cases h⟩, trivial, ?_⟩
  refine ar_storep rfl 0 (v := .agg [.int .i64 0, .int .i64 0, .str ([]), .slice true [], .slice true []]) (l' := [.int .i64 0, .int .i64 0, .str ([]), .slice true [], .slice true []]) rfl rfl hNb3 rfl rfl rfl rfl rfl (Nat.le_of_ble_eq_true rfl) rfl ?_
  refine ⟨trivial, ?_⟩
  show K1 [(4, .ptr ⟨b3, 0, none⟩), (5, .iface 67 (.int .i64 9))] (AMem.wth m [(b3, zO), (b2, valO b), (b1, valO a)])
  refine hK1 _ _ ?_; clear hK1 K1
  refine awp_toErr 67 [5] ?_
  show AWP _ _ _ _ [(4, .ptr ⟨b3, 0, none⟩), (5, .err 67 9)] (AMem.wth m [(b3, zO), (b2, valO b), (b1, valO a)])
  refine awp_ret ?_
  refine resK_cell2 (fn := Try.f40) (a := 4) (t := 25) (s := 5) (b := b3) (off := 0) rfl rfl (wth_get  (m := m) (L := [(b3, zO), (b2, valO b), (b1, valO a)]) 0 hNb3 rfl) (apartOk_agg rfl rfl (Nat.le_of_ble_eq_true rfl)) (.agg [.int .i64 0, .int .i64 0, .str ([]), .slice false [], .slice false []]) (.err 67 9) rfl rfl (.err 67 9) rfl m ((wth_sub2 (m := m) [(b3, zO), (b2, valO b), (b1, valO a)] [] hNb3 (by simp only [List.map_cons, List.map_nil, List.forall_mem_cons]; exact ⟨hFb3, hFb2, hFb1, fun _ h => by cases h⟩))) ?_
  show K (.tuple [.agg [.int .i64 0, .int .i64 0, .str ([]), .slice false [], .slice false []], .err 67 9]) m
 
  have e0 : plusR a b = (((⟨0, 0, [], [], []⟩ : Val), 9) : Val × Int) := by
   unfold plusR
   simp only [zV]
   first | (rw [if_pos (by omega)]; done) | (rw [if_neg (by omega), if_pos (by omega), if_pos (by omega)]; done) | (rw [if_neg (by omega), if_pos (by omega), if_neg (by omega)]; done) | (rw [if_neg (by omega), if_neg (by omega), if_pos (by omega), if_pos (by omega)]; done) | (rw [if_neg (by omega), if_neg (by omega), if_pos (by omega), if_neg (by omega)]; done) | (rw [if_neg (by omega), if_neg (by omega), if_neg (by omega), if_pos (by omega)]; done) | (rw [if_neg (by omega), if_neg (by omega), if_neg (by omega), if_neg (by omega)]; done)
  rw [e0] at hK
  exact hK
 replace h1 : a.kind = b.kind := (eq_of_beq (bnF h1))
 refine awp_reg2_seq [] [2, 3, 4, 13] (by decide) ?_
 intro K1 hK1
 refine ⟨⟨rfl, by decide⟩, ?_⟩
 refine ar_loadp rfl (v := .int .i64 a.kind) rfl (wth_get 2 hNb3 rfl) rfl (apartOk_one rfl rfl (Nat.le_of_ble_eq_true rfl)) rfl ?_
 refine ⟨trivial, trivial, ?_⟩
 show K1 [(2, .ptr ⟨b1, 0, none⟩), (3, .ptr ⟨b2, 0, none⟩), (4, .ptr ⟨b3, 0, none⟩), (13, .bool (a.kind == 1))] (AMem.wth m [(b3, zO), (b2, valO b), (b1, valO a)])
 refine hK1 _ _ ?_; clear hK1 K1
 refine awp_cond rfl rfl (fun h2 => ?_) (fun h2 => ?_)
 ·
  replace h2 : a.kind = 1 := (eq_of_beq h2)
  refine awp_reg2_seq [] [4, 6] (by decide) ?_
  intro K1 hK1
  refine ⟨⟨rfl, by decide⟩, ?_⟩
  refine ar_loadp rfl (v := .int .i64 a.n) rfl (wth_get 2 hNb3 rfl) rfl (apartOk_one rfl rfl (Nat.le_of_ble_eq_true rfl)) rfl ?_
  refine ⟨⟨rfl, by decide⟩, ?_⟩
  refine ar_loadp rfl (v := .int .i64 b.n) rfl (wth_get 1 hNb3 rfl) rfl (apartOk_one rfl rfl (Nat.le_of_ble_eq_true rfl)) rfl ?_
  refine ar_add rfl (a := a.n) (b := b.n) rfl rfl (by omega) (by omega) ?_
  refine ⟨trivial, ?_⟩
  show K1 [(4, .ptr ⟨b3, 0, none⟩), (6, .int .i64 (a.n + b.n))] (AMem.wth m [(b3, zO), (b2, valO b), (b1, valO a)])
  refine hK1 _ _ ?_; clear hK1 K1
  refine awp_seq_k ?_; intro K3 hK3
  refine awp_reg2_seq [] [4, 6, 27] (by decide) ?_
  intro K1 hK1
  suffices key : K1 [(4, .ptr ⟨b3, 0, none⟩), (6, .int .i64 (a.n + b.n)), (27, .bool ((decide (1000000000 < a.n + b.n)) || (decide (a.n + b.n < -1000000000))))] (AMem.wth m [(b3, zO), (b2, valO b), (b1, valO a)]) by
   refine ⟨trivial, trivial, trivial, ?_⟩
   show aopsR _ _ _ _ _ [(24, .bool (decide (1000000000 < a.n + b.n))), (23, .bool (decide (1000000000 < a.n + b.n))), (22, .int .i64 (a.n + b.n)), (4, .ptr ⟨b3, 0, none⟩), (6, .int .i64 (a.n + b.n))] _
   revert key
   cases h3 : (decide (1000000000 < a.n + b.n))
   ·
    replace h3 : a.n + b.n ≤ 1000000000 := (Int.not_lt.1 (of_decide_eq_false h3))
    intro key
    refine ⟨trivial, trivial, ?_⟩
    exact key
   ·
    replace h3 : 1000000000 < a.n + b.n := (of_decide_eq_true h3)
    intro key
    refine ar_off rfl (ar_off rfl ?_)
    exact key
  refine hK1 _ _ ?_; clear hK1 K1
  refine awp_cond rfl rfl (fun h4 => ?_) (fun h4 => ?_)
  ·
   replace h4 : (1000000000 < a.n + b.n) ∨ (a.n + b.n < -1000000000) := ((borT h4).imp (fun q => (of_decide_eq_true q)) (fun q => (of_decide_eq_true q)))
   refine awp_reg2_seq [] [4, 5] (by decide) ?_
   intro K1 hK1
   refine ⟨⟨rfl, by simp only [List.forall_mem_cons]; exact ⟨rfl, rfl, rfl, rfl, rfl, fun _ h => by cases h⟩, fun _ h => by cases h⟩, trivial, ?_⟩
   refine ar_storep rfl 0 (v := .agg [.int .i64 0, .int .i64 0, .str ([]), .slice true [], .slice true []]) (l' := [.int .i64 0, .int .i64 0, .str ([]), .slice true [], .slice true []]) rfl rfl hNb3 rfl rfl rfl rfl rfl (Nat.le_of_ble_eq_true rfl) rfl ?_
   refine ⟨trivial, ?_⟩
   show K1 [(4, .ptr ⟨b3, 0, none⟩), (5, .iface 67 (.int .i64 1))] (AMem.wth m [(b3, zO), (b2, valO b), (b1, valO a)])
   refine hK1 _ _ ?_; clear hK1 K1
   refine awp_toErr 67 [5] ?_
   show AWP _ _ _ _ [(4, .ptr ⟨b3, 0, none⟩), (5, .err 67 1)] (AMem.wth m [(b3, zO), (b2, valO b), (b1, valO a)])
   refine awp_ret ?_
   refine resK_cell2 (fn := Try.f40) (a := 4) (t := 25) (s := 5) (b := b3) (off := 0) rfl rfl (wth_get  (m := m) (L := [(b3, zO), (b2, valO b), (b1, valO a)]) 0 hNb3 rfl) (apartOk_agg rfl rfl (Nat.le_of_ble_eq_true rfl)) (.agg [.int .i64 0, .int .i64 0, .str ([]), .slice false [], .slice false []]) (.err 67 1) rfl rfl (.err 67 1) rfl m ((wth_sub2 (m := m) [(b3, zO), (b2, valO b), (b1, valO a)] [] hNb3 (by simp only [List.map_cons, List.map_nil, List.forall_mem_cons]; exact ⟨hFb3, hFb2, hFb1, fun _ h => by cases h⟩))) ?_
   show K (.tuple [.agg [.int .i64 0, .int .i64 0, .str ([]), .slice false [], .slice false []], .err 67 1]) m
  
   have e0 : plusR a b = (((⟨0, 0, [], [], []⟩ : Val), 1) : Val × Int) := by
    unfold plusR
    simp only [zV]
    first | (rw [if_pos (by omega)]; done) | (rw [if_neg (by omega), if_pos (by omega), if_pos (by omega)]; done) | (rw [if_neg (by omega), if_pos (by omega), if_neg (by omega)]; done) | (rw [if_neg (by omega), if_neg (by omega), if_pos (by omega), if_pos (by omega)]; done) | (rw [if_neg (by omega), if_neg (by omega), if_pos (by omega), if_neg (by omega)]; done) | (rw [if_neg (by omega), if_neg (by omega), if_neg (by omega), if_pos (by omega)]; done) | (rw [if_neg (by omega), if_neg (by omega), if_neg (by omega), if_neg (by omega)]; done)
   rw [e0] at hK
   exact hK
  replace h4 : (a.n + b.n ≤ 1000000000) ∧ (-1000000000 ≤ a.n + b.n) := ⟨(Int.not_lt.1 (of_decide_eq_false (borL h4))), (Int.not_lt.1 (of_decide_eq_false (borR h4)))⟩
  refine awp_skip ?_
  refine hK3 _ _ ?_; clear hK3
  refine awp_reg2_seq [] [4, 5] (by decide) ?_
  intro K1 hK1
  refine ⟨trivial, ⟨rfl, by simp only [List.forall_mem_cons]; exact ⟨rfl, rfl, rfl, rfl, rfl, fun _ h => by cases h⟩, by simp only [List.forall_mem_cons]; exact ⟨rfl, rfl, fun _ h => by cases h⟩⟩, ?_⟩
  refine ar_storep rfl 0 (v := .agg [.int .i64 1, .int .i64 (a.n + b.n), .str ([]), .slice true [], .slice true []]) (l' := [.int .i64 1, .int .i64 (a.n + b.n), .str ([]), .slice true [], .slice true []]) rfl rfl hNb3 rfl rfl rfl rfl rfl (Nat.le_of_ble_eq_true rfl) rfl ?_
  refine ⟨trivial, ?_⟩
  show K1 [(4, .ptr ⟨b3, 0, none⟩), (5, .nilIface)] (AMem.wth m [(b3, .cells [.int .i64 1, .int .i64 (a.n + b.n), .str ([]), .slice true [], .slice true []]), (b2, valO b), (b1, valO a)])
  refine hK1 _ _ ?_; clear hK1 K1
  refine awp_toErr 67 [5] ?_
  show AWP _ _ _ _ [(4, .ptr ⟨b3, 0, none⟩), (5, .err 67 0)] (AMem.wth m [(b3, .cells [.int .i64 1, .int .i64 (a.n + b.n), .str ([]), .slice true [], .slice true []]), (b2, valO b), (b1, valO a)])
  refine awp_ret ?_
  refine resK_cell2 (fn := Try.f40) (a := 4) (t := 25) (s := 5) (b := b3) (off := 0) rfl rfl (wth_get  (m := m) (L := [(b3, .cells [.int .i64 1, .int .i64 (a.n + b.n), .str ([]), .slice true [], .slice true []]), (b2, valO b), (b1, valO a)]) 0 hNb3 rfl) (apartOk_agg rfl rfl (Nat.le_of_ble_eq_true rfl)) (.agg [.int .i64 1, .int .i64 (a.n + b.n), .str ([]), .slice false [], .slice false []]) (.err 67 0) rfl rfl (.err 67 0) rfl m ((wth_sub2 (m := m) [(b3, .cells [.int .i64 1, .int .i64 (a.n + b.n), .str ([]), .slice true [], .slice true []]), (b2, valO b), (b1, valO a)] [] hNb3 (by simp only [List.map_cons, List.map_nil, List.forall_mem_cons]; exact ⟨hFb3, hFb2, hFb1, fun _ h => by cases h⟩))) ?_
  show K (.tuple [.agg [.int .i64 1, .int .i64 (a.n + b.n), .str ([]), .slice false [], .slice false []], .err 67 0]) m
 
  have e0 : plusR a b = (((⟨1, a.n + b.n, [], [], []⟩ : Val), 0) : Val × Int) := by
   unfold plusR
   simp only [zV]
   first | (rw [if_pos (by omega)]; done) | (rw [if_neg (by omega), if_pos (by omega), if_pos (by omega)]; done) | (rw [if_neg (by omega), if_pos (by omega), if_neg (by omega)]; done) | (rw [if_neg (by omega), if_neg (by omega), if_pos (by omega), if_pos (by omega)]; done) | (rw [if_neg (by omega), if_neg (by omega), if_pos (by omega), if_neg (by omega)]; done) | (rw [if_neg (by omega), if_neg (by omega), if_neg (by omega), if_pos (by omega)]; done) | (rw [if_neg (by omega), if_neg (by omega), if_neg (by omega), if_neg (by omega)]; done)
  rw [e0] at hK
  exact hK
 replace h2 : a.kind ≠ 1 := (ne_of_beq_false h2)
 refine awp_reg2_seq [] [2, 3, 4, 32] (by decide) ?_
 intro K1 hK1
 refine ⟨⟨rfl, by decide⟩, ?_⟩
 refine ar_loadp rfl (v := .int .i64 a.kind) rfl (wth_get 2 hNb3 rfl) rfl (apartOk_one rfl rfl (Nat.le_of_ble_eq_true rfl)) rfl ?_
 refine ⟨trivial, trivial, ?_⟩
 show K1 [(2, .ptr ⟨b1, 0, none⟩), (3, .ptr ⟨b2, 0, none⟩), (4, .ptr ⟨b3, 0, none⟩), (32, .bool (a.kind == 2))] (AMem.wth m [(b3, zO), (b2, valO b), (b1, valO a)])
 refine hK1 _ _ ?_; clear hK1 K1
 refine awp_cond rfl rfl (fun h5 => ?_) (fun h5 => ?_)
 ·
  replace h5 : a.kind = 2 := (eq_of_beq h5)
  refine awp_seq_k ?_; intro K4 hK4
  refine awp_reg2_seq [] [2, 3, 4, 43] (by decide) ?_
  intro K1 hK1
  refine ⟨⟨rfl, by decide⟩, ?_⟩
  refine ar_loadp rfl (v := .str a.s) rfl (wth_get 2 hNb3 rfl) rfl (apartOk_one rfl rfl (Nat.le_of_ble_eq_true rfl)) rfl ?_
  refine ⟨trivial, ⟨rfl, by decide⟩, ?_⟩
  refine ar_loadp rfl (v := .str b.s) rfl (wth_get 1 hNb3 rfl) rfl (apartOk_one rfl rfl (Nat.le_of_ble_eq_true rfl)) rfl ?_
  refine ⟨trivial, ?_⟩
  refine ar_add rfl (a := (a.s.length : Int)) (b := (b.s.length : Int)) rfl rfl (by omega) (by omega) ?_
  refine ⟨trivial, ?_⟩
  show K1 [(2, .ptr ⟨b1, 0, none⟩), (3, .ptr ⟨b2, 0, none⟩), (4, .ptr ⟨b3, 0, none⟩), (43, .bool (decide (40 < (a.s.length : Int) + (b.s.length : Int))))] (AMem.wth m [(b3, zO), (b2, valO b), (b1, valO a)])
  refine hK1 _ _ ?_; clear hK1 K1
  refine awp_cond rfl rfl (fun h6 => ?_) (fun h6 => ?_)
  ·
   replace h6 : 40 < (a.s.length : Int) + (b.s.length : Int) := (of_decide_eq_true h6)
   refine awp_reg2_seq [] [4, 5] (by decide) ?_
   intro K1 hK1
   refine ⟨⟨rfl, by simp only [List.forall_mem_cons]; exact ⟨rfl, rfl, rfl, rfl, rfl, fun _ h => by cases h⟩, fun _ h => by cases h⟩, trivial, ?_⟩
   refine ar_storep rfl 0 (v := .agg [.int .i64 0, .int .i64 0, .str ([]), .slice true [], .slice true []]) (l' := [.int .i64 0, .int .i64 0, .str ([]), .slice true [], .slice true []]) rfl rfl hNb3 rfl rfl rfl rfl rfl (Nat.le_of_ble_eq_true rfl) rfl ?_
   refine ⟨trivial, ?_⟩
   show K1 [(4, .ptr ⟨b3, 0, none⟩), (5, .iface 67 (.int .i64 1))] (AMem.wth m [(b3, zO), (b2, valO b), (b1, valO a)])
   refine hK1 _ _ ?_; clear hK1 K1
   refine awp_toErr 67 [5] ?_
   show AWP _ _ _ _ [(4, .ptr ⟨b3, 0, none⟩), (5, .err 67 1)] (AMem.wth m [(b3, zO), (b2, valO b), (b1, valO a)])
   refine awp_ret ?_
   refine resK_cell2 (fn := Try.f40) (a := 4) (t := 25) (s := 5) (b := b3) (off := 0) rfl rfl (wth_get  (m := m) (L := [(b3, zO), (b2, valO b), (b1, valO a)]) 0 hNb3 rfl) (apartOk_agg rfl rfl (Nat.le_of_ble_eq_true rfl)) (.agg [.int .i64 0, .int .i64 0, .str ([]), .slice false [], .slice false []]) (.err 67 1) rfl rfl (.err 67 1) rfl m ((wth_sub2 (m := m) [(b3, zO), (b2, valO b), (b1, valO a)] [] hNb3 (by simp only [List.map_cons, List.map_nil, List.forall_mem_cons]; exact ⟨hFb3, hFb2, hFb1, fun _ h => by cases h⟩))) ?_
   show K (.tuple [.agg [.int .i64 0, .int .i64 0, .str ([]), .slice false [], .slice false []], .err 67 1]) m
  
   have e0 : plusR a b = (((⟨0, 0, [], [], []⟩ : Val), 1) : Val × Int) := by
    unfold plusR
    simp only [zV]
    first | (rw [if_pos (by omega)]; done) | (rw [if_neg (by omega), if_pos (by omega), if_pos (by omega)]; done) | (rw [if_neg (by omega), if_pos (by omega), if_neg (by omega)]; done) | (rw [if_neg (by omega), if_neg (by omega), if_pos (by omega), if_pos (by omega)]; done) | (rw [if_neg (by omega), if_neg (by omega), if_pos (by omega), if_neg (by omega)]; done) | (rw [if_neg (by omega), if_neg (by omega), if_neg (by omega), if_pos (by omega)]; done) | (rw [if_neg (by omega), if_neg (by omega), if_neg (by omega), if_neg (by omega)]; done)
   rw [e0] at hK
   exact hK
  replace h6 : (a.s.length : Int) + (b.s.length : Int) ≤ 40 := (Int.not_lt.1 (of_decide_eq_false h6))
  refine awp_skip ?_
  refine hK4 _ _ ?_; clear hK4
  refine awp_reg2_seq [] [4, 5] (by decide) ?_
  intro K1 hK1
  refine ⟨⟨rfl, by decide⟩, ?_⟩
  refine ar_loadp rfl (v := .str a.s) rfl (wth_get 2 hNb3 rfl) rfl (apartOk_one rfl rfl (Nat.le_of_ble_eq_true rfl)) rfl ?_
  refine ⟨⟨rfl, by decide⟩, ?_⟩
  refine ar_loadp rfl (v := .str b.s) rfl (wth_get 1 hNb3 rfl) rfl (apartOk_one rfl rfl (Nat.le_of_ble_eq_true rfl)) rfl ?_
  refine ⟨(by (first | omega | (simp only [List.length_append, List.length_cons, List.length_nil]; omega))), ⟨rfl, by simp only [List.forall_mem_cons]; exact ⟨rfl, rfl, rfl, rfl, rfl, fun _ h => by cases h⟩, by simp only [List.forall_mem_cons]; exact ⟨rfl, rfl, fun _ h => by cases h⟩⟩, ?_⟩
  refine ar_storep rfl 0 (v := .agg [.int .i64 2, .int .i64 0, .str (a.s ++ b.s), .slice true [], .slice true []]) (l' := [.int .i64 2, .int .i64 0, .str (a.s ++ b.s), .slice true [], .slice true []]) rfl rfl hNb3 rfl rfl rfl rfl rfl (Nat.le_of_ble_eq_true rfl) rfl ?_
  refine ⟨trivial, ?_⟩
  show K1 [(4, .ptr ⟨b3, 0, none⟩), (5, .nilIface)] (AMem.wth m [(b3, .cells [.int .i64 2, .int .i64 0, .str (a.s ++ b.s), .slice true [], .slice true []]), (b2, valO b), (b1, valO a)])
  refine hK1 _ _ ?_; clear hK1 K1
  refine awp_toErr 67 [5] ?_
  show AWP _ _ _ _ [(4, .ptr ⟨b3, 0, none⟩), (5, .err 67 0)] (AMem.wth m [(b3, .cells [.int .i64 2, .int .i64 0, .str (a.s ++ b.s), .slice true [], .slice true []]), (b2, valO b), (b1, valO a)])
  refine awp_ret ?_
  refine resK_cell2 (fn := Try.f40) (a := 4) (t := 25) (s := 5) (b := b3) (off := 0) rfl rfl (wth_get  (m := m) (L := [(b3, .cells [.int .i64 2, .int .i64 0, .str (a.s ++ b.s), .slice true [], .slice true []]), (b2, valO b), (b1, valO a)]) 0 hNb3 rfl) (apartOk_agg rfl rfl (Nat.le_of_ble_eq_true rfl)) (.agg [.int .i64 2, .int .i64 0, .str (a.s ++ b.s), .slice false [], .slice false []]) (.err 67 0) rfl rfl (.err 67 0) rfl m ((wth_sub2 (m := m) [(b3, .cells [.int .i64 2, .int .i64 0, .str (a.s ++ b.s), .slice true [], .slice true []]), (b2, valO b), (b1, valO a)] [] hNb3 (by simp only [List.map_cons, List.map_nil, List.forall_mem_cons]; exact ⟨hFb3, hFb2, hFb1, fun _ h => by cases h⟩))) ?_
  show K (.tuple [.agg [.int .i64 2, .int .i64 0, .str (a.s ++ b.s), .slice false [], .slice false []], .err 67 0]) m
 
  have e0 : plusR a b = (((⟨2, 0, a.s ++ b.s, [], []⟩ : Val), 0) : Val × Int) := by
   unfold plusR
   simp only [zV]
   first | (rw [if_pos (by omega)]; done) | (rw [if_neg (by omega), if_pos (by omega), if_pos (by omega)]; done) | (rw [if_neg (by omega), if_pos (by omega), if_neg (by omega)]; done) | (rw [if_neg (by omega), if_neg (by omega), if_pos (by omega), if_pos (by omega)]; done) | (rw [if_neg (by omega), if_neg (by omega), if_pos (by omega), if_neg (by omega)]; done) | (rw [if_neg (by omega), if_neg (by omega), if_neg (by omega), if_pos (by omega)]; done) | (rw [if_neg (by omega), if_neg (by omega), if_neg (by omega), if_neg (by omega)]; done)
  rw [e0] at hK
  exact hK
 replace h5 : a.kind ≠ 2 := (ne_of_beq_false h5)
 refine awp_reg2_seq [] [2, 3, 4, 52] (by decide) ?_
 intro K1 hK1
 refine ⟨⟨rfl, by decide⟩, ?_⟩
 refine ar_loadp rfl (v := .int .i64 a.kind) rfl (wth_get 2 hNb3 rfl) rfl (apartOk_one rfl rfl (Nat.le_of_ble_eq_true rfl)) rfl ?_
 refine ⟨trivial, trivial, ?_⟩
 show K1 [(2, .ptr ⟨b1, 0, none⟩), (3, .ptr ⟨b2, 0, none⟩), (4, .ptr ⟨b3, 0, none⟩), (52, .bool (a.kind == 4))] (AMem.wth m [(b3, zO), (b2, valO b), (b1, valO a)])
 refine hK1 _ _ ?_; clear hK1 K1
 refine awp_cond rfl rfl (fun h7 => ?_) (fun h7 => ?_)
 ·
  replace h7 : a.kind = 4 := (eq_of_beq h7)
  refine awp_anyA_seq Try.mixed [4, 5] (by decide) ?_
  intro K1 hK1
  intro A hA
  suffices key : ∀ (_ : True), K1 [(4, .ptr ⟨b3, 0, none⟩), (5, .nilIface)] (AMem.wth m [(b3, .cells [.int .i64 4, .int .i64 0, .str ([]), .slice false ((a.l ++ b.l).map valIn), .slice true []]), (b2, valO b), (b1, valO a)]) by
   have s0 : ∀ (_ : True), A 0 #[true, true, true, true, true, true, true, true, true] (fun fr m => K1 (fr.keep [4, 5]) m) [(4, .ptr ⟨b3, 0, none⟩), (5, .nilIface)] (AMem.wth m [(b3, .cells [.int .i64 4, .int .i64 0, .str ([]), .slice false ((a.l ++ b.l).map valIn), .slice true []]), (b2, valO b), (b1, valO a)]) := by
    intro _
    subst hA
    exact AAny.done (by decide +kernel) (key trivial)
   have s1 : ∀ (_ : True), A 1 #[true, true, true, true, true, true, true, true, false] (fun fr m => K1 (fr.keep [4, 5]) m) [(4, .ptr ⟨b3, 0, none⟩)] (AMem.wth m [(b3, .cells [.int .i64 4, .int .i64 0, .str ([]), .slice false ((a.l ++ b.l).map valIn), .slice true []]), (b2, valO b), (b1, valO a)]) := by
    intro _
    subst hA
    refine AAny.step [] [8] (by decide +kernel) (by simp) (by decide) ⟨?_, trivial⟩
    ·
     show aopsR _ _ _ [_] _ _ _
     refine ⟨trivial, ?_⟩
     refine AAny.keep [4, 5] (by decide) ?_
     exact s0 trivial
   clear s0
   have s2 : ∀ (_ : True), A 2 #[true, true, true, true, true, true, true, false, false] (fun fr m => K1 (fr.keep [4, 5]) m) [(4, .ptr ⟨b3, 0, none⟩), (62, .agg [.int .i64 4, .int .i64 0, .str ([]), .slice false ((a.l ++ b.l).map valIn), .slice true []])] (AMem.wth m [(b3, zO), (b2, valO b), (b1, valO a)]) := by
    intro _
    subst hA
    refine AAny.step [] [7] (by decide +kernel) (by simp) (by decide) ⟨?_, trivial⟩
    ·
     show aopsR _ _ _ [_] _ _ _
     refine ar_storep rfl 0 (v := .agg [.int .i64 4, .int .i64 0, .str ([]), .slice false ((a.l ++ b.l).map valIn), .slice true []]) (l' := [.int .i64 4, .int .i64 0, .str ([]), .slice false ((a.l ++ b.l).map valIn), .slice true []]) rfl rfl hNb3 rfl rfl rfl rfl rfl (Nat.le_of_ble_eq_true rfl) rfl ?_
     refine AAny.keep [4] (by decide) ?_
     exact s1 trivial
   clear s1
   have s3 : ∀ (_ : True), A 3 #[true, true, true, true, true, true, false, false, false] (fun fr m => K1 (fr.keep [4, 5]) m) [(4, .ptr ⟨b3, 0, none⟩), (61, .slice true ((a.l ++ b.l).map valIn))] (AMem.wth m [(b3, zO), (b2, valO b), (b1, valO a)]) := by
    intro _
    subst hA
    refine AAny.step [] [6] (by decide +kernel) (by simp) (by decide) ⟨?_, trivial⟩
    ·
     show aopsR _ _ _ [_] _ _ _
     refine ⟨⟨rfl, by simp only [List.forall_mem_cons]; exact ⟨rfl, rfl, rfl, rfl, rfl, fun _ h => by cases h⟩, by simp only [List.forall_mem_cons]; exact ⟨rfl, rfl, fun _ h => by cases h⟩⟩, ?_⟩
     refine AAny.keep [4, 62] (by decide) ?_
     exact s2 trivial
   clear s2
   have s4 : ∀ (_ : True), A 4 #[true, true, true, true, true, false, false, false, false] (fun fr m => K1 (fr.keep [4, 5]) m) [(4, .ptr ⟨b3, 0, none⟩), (58, .slice true (a.l.map valIn)), (60, .slice false (b.l.map valIn))] (AMem.wth m [(b3, zO), (b2, valO b), (b1, valO a)]) := by
    intro _
    subst hA
    refine AAny.step [] [5] (by decide +kernel) (by simp) (by decide) ⟨?_, trivial⟩
    ·
     show aopsR _ _ _ [_] _ _ _
     refine ar_append rfl valIn a.l b.l rfl rfl rfl rfl rfl rfl (Nat.le_of_ble_eq_true rfl) rfl (by (simp only [show Try.prog.bytesOf 25 = 80 from rfl, List.length_append, List.length_cons, List.length_nil]; omega)) (by (first | omega | (simp only [List.length_append, List.length_cons, List.length_nil]; omega))) (fun a => by rw [valIn_eq]; exact ⟨rfl, rfl⟩) ?_
     refine AAny.keep [4, 61] (by decide) ?_
     exact s3 trivial
   clear s3
   have s5 : ∀ (_ : True), A 5 #[true, true, true, true, false, false, false, false, false] (fun fr m => K1 (fr.keep [4, 5]) m) [(4, .ptr ⟨b3, 0, none⟩), (58, .slice true (a.l.map valIn)), (59, .ptr ⟨b2, 3, none⟩)] (AMem.wth m [(b3, zO), (b2, valO b), (b1, valO a)]) := by
    intro _
    subst hA
    refine AAny.step [] [4] (by decide +kernel) (by simp) (by decide) ⟨?_, trivial⟩
    ·
     show aopsR _ _ _ [_] _ _ _
     refine ar_loadp rfl (v := .slice false (b.l.map valIn)) rfl (wth_get 1 hNb3 rfl) rfl (apartOk_one rfl rfl (Nat.le_of_ble_eq_true rfl)) rfl ?_
     refine AAny.keep [4, 58, 60] (by decide) ?_
     exact s4 trivial
   have s6 : ∀ (_ : True), A 5 #[true, true, false, true, true, false, false, false, false] (fun fr m => K1 (fr.keep [4, 5]) m) [(4, .ptr ⟨b3, 0, none⟩), (57, .slice false (a.l.map valIn)), (60, .slice false (b.l.map valIn))] (AMem.wth m [(b3, zO), (b2, valO b), (b1, valO a)]) := by
    intro _
    subst hA
    refine AAny.step [] [2] (by decide +kernel) (by simp) (by decide) ⟨?_, trivial⟩
    ·
     show aopsR _ _ _ [_] _ _ _
     refine ar_append0 rfl valIn a.l rfl rfl rfl rfl (Nat.le_of_ble_eq_true rfl) rfl (by (simp only [show Try.prog.bytesOf 25 = 80 from rfl, List.length_append, List.length_cons, List.length_nil]; omega)) (fun a => by rw [valIn_eq]; exact ⟨rfl, rfl⟩) ?_
     refine AAny.keep [4, 58, 60] (by decide) ?_
     exact s4 trivial
   clear s4
   have s7 : ∀ (_ : True), A 6 #[true, true, true, false, false, false, false, false, false] (fun fr m => K1 (fr.keep [4, 5]) m) [(3, .ptr ⟨b2, 0, none⟩), (4, .ptr ⟨b3, 0, none⟩), (58, .slice true (a.l.map valIn))] (AMem.wth m [(b3, zO), (b2, valO b), (b1, valO a)]) := by
    intro _
    subst hA
    refine AAny.step [] [3] (by decide +kernel) (by simp) (by decide) ⟨?_, trivial⟩
    ·
     show aopsR _ _ _ [_] _ _ _
     refine ⟨⟨rfl, by decide⟩, ?_⟩
     refine AAny.keep [4, 58, 59] (by decide) ?_
     exact s5 trivial
   have s8 : ∀ (_ : True), A 6 #[true, true, false, true, false, false, false, false, false] (fun fr m => K1 (fr.keep [4, 5]) m) [(4, .ptr ⟨b3, 0, none⟩), (57, .slice false (a.l.map valIn)), (59, .ptr ⟨b2, 3, none⟩)] (AMem.wth m [(b3, zO), (b2, valO b), (b1, valO a)]) := by
    intro _
    subst hA
    refine AAny.step [] [2, 4] (by decide +kernel) (by simp) (by decide) ⟨?_, ?_, trivial⟩
    ·
     show aopsR _ _ _ [_] _ _ _
     refine ar_append0 rfl valIn a.l rfl rfl rfl rfl (Nat.le_of_ble_eq_true rfl) rfl (by (simp only [show Try.prog.bytesOf 25 = 80 from rfl, List.length_append, List.length_cons, List.length_nil]; omega)) (fun a => by rw [valIn_eq]; exact ⟨rfl, rfl⟩) ?_
     refine AAny.keep [4, 58, 59] (by decide) ?_
     exact s5 trivial
    ·
     show aopsR _ _ _ [_] _ _ _
     refine ar_loadp rfl (v := .slice false (b.l.map valIn)) rfl (wth_get 1 hNb3 rfl) rfl (apartOk_one rfl rfl (Nat.le_of_ble_eq_true rfl)) rfl ?_
     refine AAny.keep [4, 57, 60] (by decide) ?_
     exact s6 trivial
   clear s5
   have s9 : ∀ (_ : True), A 6 #[true, false, false, true, true, false, false, false, false] (fun fr m => K1 (fr.keep [4, 5]) m) [(4, .ptr ⟨b3, 0, none⟩), (56, .ptr ⟨b1, 3, none⟩), (60, .slice false (b.l.map valIn))] (AMem.wth m [(b3, zO), (b2, valO b), (b1, valO a)]) := by
    intro _
    subst hA
    refine AAny.step [] [1] (by decide +kernel) (by simp) (by decide) ⟨?_, trivial⟩
    ·
     show aopsR _ _ _ [_] _ _ _
     refine ar_loadp rfl (v := .slice false (a.l.map valIn)) rfl (wth_get 2 hNb3 rfl) rfl (apartOk_one rfl rfl (Nat.le_of_ble_eq_true rfl)) rfl ?_
     refine AAny.keep [4, 57, 60] (by decide) ?_
     exact s6 trivial
   clear s6
   have s10 : ∀ (_ : True), A 7 #[true, true, false, false, false, false, false, false, false] (fun fr m => K1 (fr.keep [4, 5]) m) [(3, .ptr ⟨b2, 0, none⟩), (4, .ptr ⟨b3, 0, none⟩), (57, .slice false (a.l.map valIn))] (AMem.wth m [(b3, zO), (b2, valO b), (b1, valO a)]) := by
    intro _
    subst hA
    refine AAny.step [] [2, 3] (by decide +kernel) (by simp) (by decide) ⟨?_, ?_, trivial⟩
    ·
     show aopsR _ _ _ [_] _ _ _
     refine ar_append0 rfl valIn a.l rfl rfl rfl rfl (Nat.le_of_ble_eq_true rfl) rfl (by (simp only [show Try.prog.bytesOf 25 = 80 from rfl, List.length_append, List.length_cons, List.length_nil]; omega)) (fun a => by rw [valIn_eq]; exact ⟨rfl, rfl⟩) ?_
     refine AAny.keep [3, 4, 58] (by decide) ?_
     exact s7 trivial
    ·
     show aopsR _ _ _ [_] _ _ _
     refine ⟨⟨rfl, by decide⟩, ?_⟩
     refine AAny.keep [4, 57, 59] (by decide) ?_
     exact s8 trivial
   clear s7
   have s11 : ∀ (_ : True), A 7 #[true, false, false, true, false, false, false, false, false] (fun fr m => K1 (fr.keep [4, 5]) m) [(4, .ptr ⟨b3, 0, none⟩), (56, .ptr ⟨b1, 3, none⟩), (59, .ptr ⟨b2, 3, none⟩)] (AMem.wth m [(b3, zO), (b2, valO b), (b1, valO a)]) := by
    intro _
    subst hA
    refine AAny.step [] [1, 4] (by decide +kernel) (by simp) (by decide) ⟨?_, ?_, trivial⟩
    ·
     show aopsR _ _ _ [_] _ _ _
     refine ar_loadp rfl (v := .slice false (a.l.map valIn)) rfl (wth_get 2 hNb3 rfl) rfl (apartOk_one rfl rfl (Nat.le_of_ble_eq_true rfl)) rfl ?_
     refine AAny.keep [4, 57, 59] (by decide) ?_
     exact s8 trivial
    ·
     show aopsR _ _ _ [_] _ _ _
     refine ar_loadp rfl (v := .slice false (b.l.map valIn)) rfl (wth_get 1 hNb3 rfl) rfl (apartOk_one rfl rfl (Nat.le_of_ble_eq_true rfl)) rfl ?_
     refine AAny.keep [4, 56, 60] (by decide) ?_
     exact s9 trivial
   clear s8
   have s12 : ∀ (_ : True), A 7 #[false, false, false, true, true, false, false, false, false] (fun fr m => K1 (fr.keep [4, 5]) m) [(2, .ptr ⟨b1, 0, none⟩), (4, .ptr ⟨b3, 0, none⟩), (60, .slice false (b.l.map valIn))] (AMem.wth m [(b3, zO), (b2, valO b), (b1, valO a)]) := by
    intro _
    subst hA
    refine AAny.step [] [0] (by decide +kernel) (by simp) (by decide) ⟨?_, trivial⟩
    ·
     show aopsR _ _ _ [_] _ _ _
     refine ⟨⟨rfl, by decide⟩, ?_⟩
     refine AAny.keep [4, 56, 60] (by decide) ?_
     exact s9 trivial
   clear s9
   have s13 : ∀ (_ : True), A 8 #[true, false, false, false, false, false, false, false, false] (fun fr m => K1 (fr.keep [4, 5]) m) [(3, .ptr ⟨b2, 0, none⟩), (4, .ptr ⟨b3, 0, none⟩), (56, .ptr ⟨b1, 3, none⟩)] (AMem.wth m [(b3, zO), (b2, valO b), (b1, valO a)]) := by
    intro _
    subst hA
    refine AAny.step [] [1, 3] (by decide +kernel) (by simp) (by decide) ⟨?_, ?_, trivial⟩
    ·
     show aopsR _ _ _ [_] _ _ _
     refine ar_loadp rfl (v := .slice false (a.l.map valIn)) rfl (wth_get 2 hNb3 rfl) rfl (apartOk_one rfl rfl (Nat.le_of_ble_eq_true rfl)) rfl ?_
     refine AAny.keep [3, 4, 57] (by decide) ?_
     exact s10 trivial
    ·
     show aopsR _ _ _ [_] _ _ _
     refine ⟨⟨rfl, by decide⟩, ?_⟩
     refine AAny.keep [4, 56, 59] (by decide) ?_
     exact s11 trivial
   clear s10
   have s14 : ∀ (_ : True), A 8 #[false, false, false, true, false, false, false, false, false] (fun fr m => K1 (fr.keep [4, 5]) m) [(2, .ptr ⟨b1, 0, none⟩), (4, .ptr ⟨b3, 0, none⟩), (59, .ptr ⟨b2, 3, none⟩)] (AMem.wth m [(b3, zO), (b2, valO b), (b1, valO a)]) := by
    intro _
    subst hA
    refine AAny.step [] [0, 4] (by decide +kernel) (by simp) (by decide) ⟨?_, ?_, trivial⟩
    ·
     show aopsR _ _ _ [_] _ _ _
     refine ⟨⟨rfl, by decide⟩, ?_⟩
     refine AAny.keep [4, 56, 59] (by decide) ?_
     exact s11 trivial
    ·
     show aopsR _ _ _ [_] _ _ _
     refine ar_loadp rfl (v := .slice false (b.l.map valIn)) rfl (wth_get 1 hNb3 rfl) rfl (apartOk_one rfl rfl (Nat.le_of_ble_eq_true rfl)) rfl ?_
     refine AAny.keep [2, 4, 60] (by decide) ?_
     exact s12 trivial
   clear s11 s12
   have s15 : ∀ (_ : True), A 9 #[false, false, false, false, false, false, false, false, false] (fun fr m => K1 (fr.keep [4, 5]) m) [(2, .ptr ⟨b1, 0, none⟩), (3, .ptr ⟨b2, 0, none⟩), (4, .ptr ⟨b3, 0, none⟩), (52, .bool (a.kind == 4))] (AMem.wth m [(b3, zO), (b2, valO b), (b1, valO a)]) := by
    intro _
    subst hA
    refine AAny.step [] [0, 3] (by decide +kernel) (by simp) (by decide) ⟨?_, ?_, trivial⟩
    ·
     show aopsR _ _ _ [_] _ _ _
     refine ⟨⟨rfl, by decide⟩, ?_⟩
     refine AAny.keep [3, 4, 56] (by decide) ?_
     exact s13 trivial
    ·
     show aopsR _ _ _ [_] _ _ _
     refine ⟨⟨rfl, by decide⟩, ?_⟩
     refine AAny.keep [2, 4, 59] (by decide) ?_
     exact s14 trivial
   clear s13 s14
   exact s15 trivial
  intro _
  refine hK1 _ _ ?_; clear hK1 K1
  refine awp_toErr 67 [5] ?_
  show AWP _ _ _ _ [(4, .ptr ⟨b3, 0, none⟩), (5, .err 67 0)] (AMem.wth m [(b3, .cells [.int .i64 4, .int .i64 0, .str ([]), .slice false ((a.l ++ b.l).map valIn), .slice true []]), (b2, valO b), (b1, valO a)])
  refine awp_ret ?_
  refine resK_cell2 (fn := Try.f40) (a := 4) (t := 25) (s := 5) (b := b3) (off := 0) rfl rfl (wth_get  (m := m) (L := [(b3, .cells [.int .i64 4, .int .i64 0, .str ([]), .slice false ((a.l ++ b.l).map valIn), .slice true []]), (b2, valO b), (b1, valO a)]) 0 hNb3 rfl) (apartOk_agg rfl rfl (Nat.le_of_ble_eq_true rfl)) (.agg [.int .i64 4, .int .i64 0, .str ([]), .slice false ((a.l ++ b.l).map valIn), .slice false []]) (.err 67 0) rfl rfl (.err 67 0) rfl m ((wth_sub2 (m := m) [(b3, .cells [.int .i64 4, .int .i64 0, .str ([]), .slice false ((a.l ++ b.l).map valIn), .slice true []]), (b2, valO b), (b1, valO a)] [] hNb3 (by simp only [List.map_cons, List.map_nil, List.forall_mem_cons]; exact ⟨hFb3, hFb2, hFb1, fun _ h => by cases h⟩))) ?_
  show K (.tuple [.agg [.int .i64 4, .int .i64 0, .str ([]), .slice false ((a.l ++ b.l).map valIn), .slice false []], .err 67 0]) m
 
  have e0 : plusR a b = (((⟨4, 0, [], a.l ++ b.l, []⟩ : Val), 0) : Val × Int) := by
   unfold plusR
   simp only [zV]
   first | (rw [if_pos (by omega)]; done) | (rw [if_neg (by omega), if_pos (by omega), if_pos (by omega)]; done) | (rw [if_neg (by omega), if_pos (by omega), if_neg (by omega)]; done) | (rw [if_neg (by omega), if_neg (by omega), if_pos (by omega), if_pos (by omega)]; done) | (rw [if_neg (by omega), if_neg (by omega), if_pos (by omega), if_neg (by omega)]; done) | (rw [if_neg (by omega), if_neg (by omega), if_neg (by omega), if_pos (by omega)]; done) | (rw [if_neg (by omega), if_neg (by omega), if_neg (by omega), if_neg (by omega)]; done)
  rw [e0] at hK
  exact hK
 replace h7 : a.kind ≠ 4 := (ne_of_beq_false h7)
 refine awp_skip ?_
 refine hK2 _ _ ?_; clear hK2
 refine awp_reg2_seq [] [4, 5] (by decide) ?_
 intro K1 hK1
 refine ⟨⟨rfl, by simp only [List.forall_mem_cons]; exact ⟨rfl, rfl, rfl, rfl, rfl, fun _ h => by cases h⟩, fun _ h => by cases h⟩, trivial, ?_⟩
 refine ar_storep rfl 0 (v := .agg [.int .i64 0, .int .i64 0, .str ([]), .slice true [], .slice true []]) (l' := [.int .i64 0, .int .i64 0, .str ([]), .slice true [], .slice true []]) rfl rfl hNb3 rfl rfl rfl rfl rfl (Nat.le_of_ble_eq_true rfl) rfl ?_
 refine ⟨trivial, ?_⟩
 show K1 [(4, .ptr ⟨b3, 0, none⟩), (5, .iface 67 (.int .i64 9))] (AMem.wth m [(b3, zO), (b2, valO b), (b1, valO a)])
 refine hK1 _ _ ?_; clear hK1 K1
 refine awp_toErr 67 [5] ?_
 show AWP _ _ _ _ [(4, .ptr ⟨b3, 0, none⟩), (5, .err 67 9)] (AMem.wth m [(b3, zO), (b2, valO b), (b1, valO a)])
 refine awp_ret ?_
 refine resK_cell2 (fn := Try.f40) (a := 4) (t := 25) (s := 5) (b := b3) (off := 0) rfl rfl (wth_get  (m := m) (L := [(b3, zO), (b2, valO b), (b1, valO a)]) 0 hNb3 rfl) (apartOk_agg rfl rfl (Nat.le_of_ble_eq_true rfl)) (.agg [.int .i64 0, .int .i64 0, .str ([]), .slice false [], .slice false []]) (.err 67 9) rfl rfl (.err 67 9) rfl m ((wth_sub2 (m := m) [(b3, zO), (b2, valO b), (b1, valO a)] [] hNb3 (by simp only [List.map_cons, List.map_nil, List.forall_mem_cons]; exact ⟨hFb3, hFb2, hFb1, fun _ h => by cases h⟩))) ?_
 show K (.tuple [.agg [.int .i64 0, .int .i64 0, .str ([]), .slice false [], .slice false []], .err 67 9]) m

 have e0 : plusR a b = (((⟨0, 0, [], [], []⟩ : Val), 9) : Val × Int) := by
  unfold plusR
  simp only [zV]
  first | (rw [if_pos (by omega)]; done) | (rw [if_neg (by omega), if_pos (by omega), if_pos (by omega)]; done) | (rw [if_neg (by omega), if_pos (by omega), if_neg (by omega)]; done) | (rw [if_neg (by omega), if_neg (by omega), if_pos (by omega), if_pos (by omega)]; done) | (rw [if_neg (by omega), if_neg (by omega), if_pos (by omega), if_neg (by omega)]; done) | (rw [if_neg (by omega), if_neg (by omega), if_neg (by omega), if_pos (by omega)]; done) | (rw [if_neg (by omega), if_neg (by omega), if_neg (by omega), if_neg (by omega)]; done)
 rw [e0] at hK
 exact hK

set_option maxHeartbeats 8000000 in
theorem u_join (e : Exp) (l : List Val) (hl : ∀ v ∈ l, chk v = 0) (hln : l.length ≤ 837723144972) (m : AMem)  (K : AV → AMem → Prop) (hK : K (.tuple [valTop (joinR e l).1, .err 67 (joinR e l).2]) m) : ACalls Try.prog 25 [expTop e, .slice false (l.map valIn)] m K := by
 refine acalls_enter Try.func25 rfl (by decide) (Nat.le_of_ble_eq_true rfl) ?_
 refine awp_bd 0 (x := expTop e) rfl (fun hbd0 => ?_)
 have hbd0_3 : e.v.s.length ≤ 140737488355328 := (hbd0 3 (Nat.le_of_ble_eq_true rfl))
 have hbd0_4 : e.v.l.length ≤ 140737488355328 := bd_map (hbd0 4 (Nat.le_of_ble_eq_true rfl))
 have hbd0_5 : e.v.f.length ≤ 140737488355328 := bd_map (hbd0 5 (Nat.le_of_ble_eq_true rfl))
 have hbd0_6 : e.s.length ≤ 140737488355328 := (hbd0 6 (Nat.le_of_ble_eq_true rfl))
 have hbd0_7 : e.t.length ≤ 140737488355328 := (hbd0 7 (Nat.le_of_ble_eq_true rfl))
 have hbd0_8 : e.a.length ≤ 140737488355328 := bd_map (hbd0 8 (Nat.le_of_ble_eq_true rfl))
 have hbd0_9 : e.n.length ≤ 140737488355328 := bd_map (hbd0 9 (Nat.le_of_ble_eq_true rfl))
 refine awp_bd 1 (x := .slice false (l.map valIn)) rfl (fun hbd1 => ?_)
 have hbd1_0 : l.length ≤ 140737488355328 := bd_map (o := false) hbd1
 show AWP _ _ _ _ [(0, expTop e), (1, .slice false (l.map valIn))] m
 refine awp_reg2_seq [] [1, 2, 4] (by decide) ?_
 intro K1 hK1
 refine ar_box rfl (m := m) (L := []) (v := expTop e) (by rfl) rfl ?_
 intro b1 hb1
 have hFb1 : m b1 = none := wth_none (m := m) (L := []) hb1
 have hNb1 : ([b1] : List Nat).Nodup := wth_nodup (m := m) (L := []) hb1 List.nodup_nil
 refine ar_alloc rfl (z := .agg [.int .i64 0, .int .i64 0, .str ([]), .slice true [], .slice true []]) rfl rfl ?_
 intro b2 hb2
 have hFb2 : m b2 = none := wth_none hb2
 have hNb2 : ([b2, b1] : List Nat).Nodup := wth_nodup hb2 hNb1
 refine ⟨trivial, ?_⟩
 show K1 [(1, .slice false (l.map valIn)), (2, .ptr ⟨b1, 0, none⟩), (4, .ptr ⟨b2, 0, none⟩)] (AMem.wth m [(b2, zO), (b1, expO e)])
 refine hK1 _ _ ?_; clear hK1 K1
 refine awp_seq_k ?_; intro K2 hK2
 refine awp_block ?_
 refine awp_reg2_seq [] [1, 2, 4, 10] (by decide) ?_
 intro K1 hK1
 suffices key : K1 [(1, .slice false (l.map valIn)), (2, .ptr ⟨b1, 0, none⟩), (4, .ptr ⟨b2, 0, none⟩), (10, .bool ((e.kind == 5) && ((l.length : Int) == 2)))] (AMem.wth m [(b2, zO), (b1, expO e)]) by
  refine ⟨⟨rfl, by decide⟩, ?_⟩
  refine ar_loadp rfl (v := .int .i64 e.kind) rfl (wth_get 1 hNb2 rfl) rfl (apartOk_one rfl rfl (Nat.le_of_ble_eq_true rfl)) rfl ?_
  refine ⟨trivial, trivial, ?_⟩
  show aopsR _ _ _ _ _ [(14, .bool (e.kind == 5)), (13, .bool (e.kind == 5)), (12, .int .i64 e.kind), (11, .ptr ⟨b1, 0, none⟩), (1, .slice false (l.map valIn)), (2, .ptr ⟨b1, 0, none⟩), (4, .ptr ⟨b2, 0, none⟩)] _
  revert key
  cases h1 : (e.kind == 5)
  ·
   replace h1 : e.kind ≠ 5 := (ne_of_beq_false h1)
   intro key
   refine ar_off rfl (ar_off rfl (ar_off rfl ?_))
   refine ⟨trivial, ?_⟩
   exact key
  ·
   replace h1 : e.kind = 5 := (eq_of_beq h1)
   intro key
   refine ⟨trivial, ?_⟩
   refine ar_len rfl valIn l rfl rfl rfl ?_
   refine ⟨trivial, ?_⟩
   refine ⟨trivial, ?_⟩
   exact key
 refine hK1 _ _ ?_; clear hK1 K1
 refine awp_cond rfl rfl (fun h2 => ?_) (fun h2 => ?_)
 ·
  replace h2 : (e.kind = 5) ∧ ((l.length : Int) = 2) := ⟨(eq_of_beq (bandL h2)), (eq_of_beq (bandR h2))⟩
  refine awp_anyA_seq Try.mixed [4, 5] (by decide) ?_
  intro K1 hK1
  intro A hA
  suffices key : ∀ (_ : True), K1 [(4, .ptr ⟨b2, 0, none⟩), (5, .err 67 ((plusR (gI l 0) (gI l 1)).2))] (AMem.wth m [(b2, valO ((plusR (gI l 0) (gI l 1)).1)), (b1, expO e)]) by
   have s0 : ∀ (_ : True), A 0 #[true, true, true, true, true, true, true, true, true, true, true] (fun fr m => K1 (fr.keep [4, 5]) m) [(4, .ptr ⟨b2, 0, none⟩), (5, .err 67 ((plusR (gI l 0) (gI l 1)).2))] (AMem.wth m [(b2, valO ((plusR (gI l 0) (gI l 1)).1)), (b1, expO e)]) := by
    intro _
    subst hA
    exact AAny.done (by decide +kernel) (key trivial)
   have s1 : ∀ (_ : True), A 1 #[true, true, true, true, true, true, true, true, true, true, false] (fun fr m => K1 (fr.keep [4, 5]) m) [(4, .ptr ⟨b2, 0, none⟩), (27, .err 67 ((plusR (gI l 0) (gI l 1)).2))] (AMem.wth m [(b2, valO ((plusR (gI l 0) (gI l 1)).1)), (b1, expO e)]) := by
    intro _
    subst hA
    refine AAny.step [] [10] (by decide +kernel) (by simp) (by decide) ⟨?_, trivial⟩
    ·
     show aopsR _ _ _ [_] _ _ _
     refine ⟨trivial, ?_⟩
     refine AAny.keep [4, 5] (by decide) ?_
     exact s0 trivial
   clear s0
   have s2 : ∀ (_ : True), A 2 #[true, true, true, true, true, true, true, true, true, false, false] (fun fr m => K1 (fr.keep [4, 5]) m) [(4, .ptr ⟨b2, 0, none⟩), (26, valTop ((plusR (gI l 0) (gI l 1)).1)), (27, .err 67 ((plusR (gI l 0) (gI l 1)).2))] (AMem.wth m [(b2, zO), (b1, expO e)]) := by
    intro _
    subst hA
    refine AAny.step [] [9] (by decide +kernel) (by simp) (by decide) ⟨?_, trivial⟩
    ·
     show aopsR _ _ _ [_] _ _ _
     refine ar_storep rfl 0 (v := valTop ((plusR (gI l 0) (gI l 1)).1)) (l' := [.int .i64 (((plusR (gI l 0) (gI l 1)).1).kind), .int .i64 (((plusR (gI l 0) (gI l 1)).1).n), .str (((plusR (gI l 0) (gI l 1)).1).s), .slice false ((((plusR (gI l 0) (gI l 1)).1).l).map valIn), .slice false ((((plusR (gI l 0) (gI l 1)).1).f).map fldIn)]) rfl (by rfl) hNb2 rfl rfl rfl rfl rfl (Nat.le_of_ble_eq_true rfl) rfl ?_
     refine AAny.keep [4, 27] (by decide) ?_
     exact s1 trivial
   clear s1
   have s3 : ∀ (_ : True), A 3 #[true, true, true, true, true, true, true, true, false, false, false] (fun fr m => K1 (fr.keep [4, 5]) m) [(4, .ptr ⟨b2, 0, none⟩), (25, .tuple [valTop ((plusR (gI l 0) (gI l 1)).1), .err 67 ((plusR (gI l 0) (gI l 1)).2)]), (26, valTop ((plusR (gI l 0) (gI l 1)).1))] (AMem.wth m [(b2, zO), (b1, expO e)]) := by
    intro _
    subst hA
    refine AAny.step [] [8] (by decide +kernel) (by simp) (by decide) ⟨?_, trivial⟩
    ·
     show aopsR _ _ _ [_] _ _ _
     refine ⟨(Nat.le_of_ble_eq_true rfl), ?_⟩
     refine AAny.keep [4, 26, 27] (by decide) ?_
     exact s2 trivial
   have s4 : ∀ (_ : True), A 3 #[true, true, true, true, true, true, true, false, true, false, false] (fun fr m => K1 (fr.keep [4, 5]) m) [(4, .ptr ⟨b2, 0, none⟩), (25, .tuple [valTop ((plusR (gI l 0) (gI l 1)).1), .err 67 ((plusR (gI l 0) (gI l 1)).2)]), (27, .err 67 ((plusR (gI l 0) (gI l 1)).2))] (AMem.wth m [(b2, zO), (b1, expO e)]) := by
    intro _
    subst hA
    refine AAny.step [] [7] (by decide +kernel) (by simp) (by decide) ⟨?_, trivial⟩
    ·
     show aopsR _ _ _ [_] _ _ _
     refine ⟨(Nat.le_of_ble_eq_true rfl), ?_⟩
     refine AAny.keep [4, 26, 27] (by decide) ?_
     exact s2 trivial
   clear s2
   have s5 : ∀ (_ : True), A 4 #[true, true, true, true, true, true, true, false, false, false, false] (fun fr m => K1 (fr.keep [4, 5]) m) [(4, .ptr ⟨b2, 0, none⟩), (25, .tuple [valTop ((plusR (gI l 0) (gI l 1)).1), .err 67 ((plusR (gI l 0) (gI l 1)).2)])] (AMem.wth m [(b2, zO), (b1, expO e)]) := by
    intro _
    subst hA
    refine AAny.step [] [7, 8] (by decide +kernel) (by simp) (by decide) ⟨?_, ?_, trivial⟩
    ·
     show aopsR _ _ _ [_] _ _ _
     refine ⟨(Nat.le_of_ble_eq_true rfl), ?_⟩
     refine AAny.keep [4, 25, 26] (by decide) ?_
     exact s3 trivial
    ·
     show aopsR _ _ _ [_] _ _ _
     refine ⟨(Nat.le_of_ble_eq_true rfl), ?_⟩
     refine AAny.keep [4, 25, 27] (by decide) ?_
     exact s4 trivial
   clear s3 s4
   have s6 : ∀ (_ : True), A 5 #[true, true, true, true, true, true, false, false, false, false, false] (fun fr m => K1 (fr.keep [4, 5]) m) [(4, .ptr ⟨b2, 0, none⟩), (21, valTop (gI l 0)), (24, valTop (gI l 1))] (AMem.wth m [(b2, zO), (b1, expO e)]) := by
    intro _
    subst hA
    refine AAny.step [] [6] (by decide +kernel) (by simp) (by decide) ⟨?_, trivial⟩
    ·
     show aopsR _ _ _ [_] _ _ _
     refine u_plus (gI l 0) (gI l 1) (hl _ (gI_mem (l := l) (i := 0) (by omega) (by omega))) (hl _ (gI_mem (l := l) (i := 1) (by omega) (by omega))) _ _ ?_
     refine AAny.keep [4, 25] (by decide) ?_
     exact s5 trivial
   clear s5
   have s7 : ∀ (_ : True), A 6 #[true, true, true, true, true, false, false, false, false, false, false] (fun fr m => K1 (fr.keep [4, 5]) m) [(4, .ptr ⟨b2, 0, none⟩), (21, valTop (gI l 0)), (23, .ref (AV.cells (valTop (gI l 1))))] (AMem.wth m [(b2, zO), (b1, expO e)]) := by
    intro _
    subst hA
    refine AAny.step [] [5] (by decide +kernel) (by simp) (by decide) ⟨?_, trivial⟩
    ·
     show aopsR _ _ _ [_] _ _ _
     refine ⟨(apartOk_agg rfl rfl (Nat.le_of_ble_eq_true rfl)), ?_⟩
     refine AAny.keep [4, 21, 24] (by decide) ?_
     exact s6 trivial
   have s8 : ∀ (_ : True), A 6 #[true, true, false, true, true, true, false, false, false, false, false] (fun fr m => K1 (fr.keep [4, 5]) m) [(4, .ptr ⟨b2, 0, none⟩), (20, .ref (AV.cells (valTop (gI l 0)))), (24, valTop (gI l 1))] (AMem.wth m [(b2, zO), (b1, expO e)]) := by
    intro _
    subst hA
    refine AAny.step [] [2] (by decide +kernel) (by simp) (by decide) ⟨?_, trivial⟩
    ·
     show aopsR _ _ _ [_] _ _ _
     refine ⟨(apartOk_agg rfl rfl (Nat.le_of_ble_eq_true rfl)), ?_⟩
     refine AAny.keep [4, 21, 24] (by decide) ?_
     exact s6 trivial
   clear s6
   have s9 : ∀ (_ : True), A 7 #[true, true, true, true, false, false, false, false, false, false, false] (fun fr m => K1 (fr.keep [4, 5]) m) [(4, .ptr ⟨b2, 0, none⟩), (21, valTop (gI l 0)), (22, .slice false (l.map valIn))] (AMem.wth m [(b2, zO), (b1, expO e)]) := by
    intro _
    subst hA
    refine AAny.step [] [4] (by decide +kernel) (by simp) (by decide) ⟨?_, trivial⟩
    ·
     show aopsR _ _ _ [_] _ _ _
     refine ar_index rfl valTop l 1 rfl rfl (valMap l) rfl rfl (by decide) (fun _ => rfl) (by omega) (by omega) ?_
     refine AAny.keep [4, 21, 23] (by decide) ?_
     exact s7 trivial
   have s10 : ∀ (_ : True), A 7 #[true, true, false, true, true, false, false, false, false, false, false] (fun fr m => K1 (fr.keep [4, 5]) m) [(4, .ptr ⟨b2, 0, none⟩), (20, .ref (AV.cells (valTop (gI l 0)))), (23, .ref (AV.cells (valTop (gI l 1))))] (AMem.wth m [(b2, zO), (b1, expO e)]) := by
    intro _
    subst hA
    refine AAny.step [] [2, 5] (by decide +kernel) (by simp) (by decide) ⟨?_, ?_, trivial⟩
    ·
     show aopsR _ _ _ [_] _ _ _
     refine ⟨(apartOk_agg rfl rfl (Nat.le_of_ble_eq_true rfl)), ?_⟩
     refine AAny.keep [4, 21, 23] (by decide) ?_
     exact s7 trivial
    ·
     show aopsR _ _ _ [_] _ _ _
     refine ⟨(apartOk_agg rfl rfl (Nat.le_of_ble_eq_true rfl)), ?_⟩
     refine AAny.keep [4, 20, 24] (by decide) ?_
     exact s8 trivial
   clear s7
   have s11 : ∀ (_ : True), A 7 #[true, false, false, true, true, true, false, false, false, false, false] (fun fr m => K1 (fr.keep [4, 5]) m) [(4, .ptr ⟨b2, 0, none⟩), (19, .slice false (l.map valIn)), (24, valTop (gI l 1))] (AMem.wth m [(b2, zO), (b1, expO e)]) := by
    intro _
    subst hA
    refine AAny.step [] [1] (by decide +kernel) (by simp) (by decide) ⟨?_, trivial⟩
    ·
     show aopsR _ _ _ [_] _ _ _
     refine ar_index rfl valTop l 0 rfl rfl (valMap l) rfl rfl (by decide) (fun _ => rfl) (by omega) (by omega) ?_
     refine AAny.keep [4, 20, 24] (by decide) ?_
     exact s8 trivial
   clear s8
   have s12 : ∀ (_ : True), A 8 #[true, true, true, false, false, false, false, false, false, false, false] (fun fr m => K1 (fr.keep [4, 5]) m) [(1, .slice false (l.map valIn)), (4, .ptr ⟨b2, 0, none⟩), (21, valTop (gI l 0))] (AMem.wth m [(b2, zO), (b1, expO e)]) := by
    intro _
    subst hA
    refine AAny.step [] [3] (by decide +kernel) (by simp) (by decide) ⟨?_, trivial⟩
    ·
     show aopsR _ _ _ [_] _ _ _
     refine ⟨trivial, ?_⟩
     refine AAny.keep [4, 21, 22] (by decide) ?_
     exact s9 trivial
   have s13 : ∀ (_ : True), A 8 #[true, true, false, true, false, false, false, false, false, false, false] (fun fr m => K1 (fr.keep [4, 5]) m) [(4, .ptr ⟨b2, 0, none⟩), (20, .ref (AV.cells (valTop (gI l 0)))), (22, .slice false (l.map valIn))] (AMem.wth m [(b2, zO), (b1, expO e)]) := by
    intro _
    subst hA
    refine AAny.step [] [2, 4] (by decide +kernel) (by simp) (by decide) ⟨?_, ?_, trivial⟩
    ·
     show aopsR _ _ _ [_] _ _ _
     refine ⟨(apartOk_agg rfl rfl (Nat.le_of_ble_eq_true rfl)), ?_⟩
     refine AAny.keep [4, 21, 22] (by decide) ?_
     exact s9 trivial
    ·
     show aopsR _ _ _ [_] _ _ _
     refine ar_index rfl valTop l 1 rfl rfl (valMap l) rfl rfl (by decide) (fun _ => rfl) (by omega) (by omega) ?_
     refine AAny.keep [4, 20, 23] (by decide) ?_
     exact s10 trivial
   clear s9
   have s14 : ∀ (_ : True), A 8 #[true, false, false, true, true, false, false, false, false, false, false] (fun fr m => K1 (fr.keep [4, 5]) m) [(4, .ptr ⟨b2, 0, none⟩), (19, .slice false (l.map valIn)), (23, .ref (AV.cells (valTop (gI l 1))))] (AMem.wth m [(b2, zO), (b1, expO e)]) := by
    intro _
    subst hA
    refine AAny.step [] [1, 5] (by decide +kernel) (by simp) (by decide) ⟨?_, ?_, trivial⟩
    ·
     show aopsR _ _ _ [_] _ _ _
     refine ar_index rfl valTop l 0 rfl rfl (valMap l) rfl rfl (by decide) (fun _ => rfl) (by omega) (by omega) ?_
     refine AAny.keep [4, 20, 23] (by decide) ?_
     exact s10 trivial
    ·
     show aopsR _ _ _ [_] _ _ _
     refine ⟨(apartOk_agg rfl rfl (Nat.le_of_ble_eq_true rfl)), ?_⟩
     refine AAny.keep [4, 19, 24] (by decide) ?_
     exact s11 trivial
   clear s10
   have s15 : ∀ (_ : True), A 8 #[false, false, false, true, true, true, false, false, false, false, false] (fun fr m => K1 (fr.keep [4, 5]) m) [(1, .slice false (l.map valIn)), (4, .ptr ⟨b2, 0, none⟩), (24, valTop (gI l 1))] (AMem.wth m [(b2, zO), (b1, expO e)]) := by
    intro _
    subst hA
    refine AAny.step [] [0] (by decide +kernel) (by simp) (by decide) ⟨?_, trivial⟩
    ·
     show aopsR _ _ _ [_] _ _ _
     refine ⟨trivial, ?_⟩
     refine AAny.keep [4, 19, 24] (by decide) ?_
     exact s11 trivial
   clear s11
   have s16 : ∀ (_ : True), A 9 #[true, true, false, false, false, false, false, false, false, false, false] (fun fr m => K1 (fr.keep [4, 5]) m) [(1, .slice false (l.map valIn)), (4, .ptr ⟨b2, 0, none⟩), (20, .ref (AV.cells (valTop (gI l 0))))] (AMem.wth m [(b2, zO), (b1, expO e)]) := by
    intro _
    subst hA
    refine AAny.step [] [2, 3] (by decide +kernel) (by simp) (by decide) ⟨?_, ?_, trivial⟩
    ·
     show aopsR _ _ _ [_] _ _ _
     refine ⟨(apartOk_agg rfl rfl (Nat.le_of_ble_eq_true rfl)), ?_⟩
     refine AAny.keep [1, 4, 21] (by decide) ?_
     exact s12 trivial
    ·
     show aopsR _ _ _ [_] _ _ _
     refine ⟨trivial, ?_⟩
     refine AAny.keep [4, 20, 22] (by decide) ?_
     exact s13 trivial
   clear s12
   have s17 : ∀ (_ : True), A 9 #[true, false, false, true, false, false, false, false, false, false, false] (fun fr m => K1 (fr.keep [4, 5]) m) [(4, .ptr ⟨b2, 0, none⟩), (19, .slice false (l.map valIn)), (22, .slice false (l.map valIn))] (AMem.wth m [(b2, zO), (b1, expO e)]) := by
    intro _
    subst hA
    refine AAny.step [] [1, 4] (by decide +kernel) (by simp) (by decide) ⟨?_, ?_, trivial⟩
    ·
     show aopsR _ _ _ [_] _ _ _
     refine ar_index rfl valTop l 0 rfl rfl (valMap l) rfl rfl (by decide) (fun _ => rfl) (by omega) (by omega) ?_
     refine AAny.keep [4, 20, 22] (by decide) ?_
     exact s13 trivial
    ·
     show aopsR _ _ _ [_] _ _ _
     refine ar_index rfl valTop l 1 rfl rfl (valMap l) rfl rfl (by decide) (fun _ => rfl) (by omega) (by omega) ?_
     refine AAny.keep [4, 19, 23] (by decide) ?_
     exact s14 trivial
   clear s13
   have s18 : ∀ (_ : True), A 9 #[false, false, false, true, true, false, false, false, false, false, false] (fun fr m => K1 (fr.keep [4, 5]) m) [(1, .slice false (l.map valIn)), (4, .ptr ⟨b2, 0, none⟩), (23, .ref (AV.cells (valTop (gI l 1))))] (AMem.wth m [(b2, zO), (b1, expO e)]) := by
    intro _
    subst hA
    refine AAny.step [] [0, 5] (by decide +kernel) (by simp) (by decide) ⟨?_, ?_, trivial⟩
    ·
     show aopsR _ _ _ [_] _ _ _
     refine ⟨trivial, ?_⟩
     refine AAny.keep [4, 19, 23] (by decide) ?_
     exact s14 trivial
    ·
     show aopsR _ _ _ [_] _ _ _
     refine ⟨(apartOk_agg rfl rfl (Nat.le_of_ble_eq_true rfl)), ?_⟩
     refine AAny.keep [1, 4, 24] (by decide) ?_
     exact s15 trivial
   clear s14 s15
   have s19 : ∀ (_ : True), A 10 #[true, false, false, false, false, false, false, false, false, false, false] (fun fr m => K1 (fr.keep [4, 5]) m) [(1, .slice false (l.map valIn)), (4, .ptr ⟨b2, 0, none⟩), (19, .slice false (l.map valIn))] (AMem.wth m [(b2, zO), (b1, expO e)]) := by
    intro _
    subst hA
    refine AAny.step [] [1, 3] (by decide +kernel) (by simp) (by decide) ⟨?_, ?_, trivial⟩
    ·
     show aopsR _ _ _ [_] _ _ _
     refine ar_index rfl valTop l 0 rfl rfl (valMap l) rfl rfl (by decide) (fun _ => rfl) (by omega) (by omega) ?_
     refine AAny.keep [1, 4, 20] (by decide) ?_
     exact s16 trivial
    ·
     show aopsR _ _ _ [_] _ _ _
     refine ⟨trivial, ?_⟩
     refine AAny.keep [4, 19, 22] (by decide) ?_
     exact s17 trivial
   clear s16
   have s20 : ∀ (_ : True), A 10 #[false, false, false, true, false, false, false, false, false, false, false] (fun fr m => K1 (fr.keep [4, 5]) m) [(1, .slice false (l.map valIn)), (4, .ptr ⟨b2, 0, none⟩), (22, .slice false (l.map valIn))] (AMem.wth m [(b2, zO), (b1, expO e)]) := by
    intro _
    subst hA
    refine AAny.step [] [0, 4] (by decide +kernel) (by simp) (by decide) ⟨?_, ?_, trivial⟩
    ·
     show aopsR _ _ _ [_] _ _ _
     refine ⟨trivial, ?_⟩
     refine AAny.keep [4, 19, 22] (by decide) ?_
     exact s17 trivial
    ·
     show aopsR _ _ _ [_] _ _ _
     refine ar_index rfl valTop l 1 rfl rfl (valMap l) rfl rfl (by decide) (fun _ => rfl) (by omega) (by omega) ?_
     refine AAny.keep [1, 4, 23] (by decide) ?_
     exact s18 trivial
   clear s17 s18
   have s21 : ∀ (_ : True), A 11 #[false, false, false, false, false, false, false, false, false, false, false] (fun fr m => K1 (fr.keep [4, 5]) m) [(1, .slice false (l.map valIn)), (2, .ptr ⟨b1, 0, none⟩), (4, .ptr ⟨b2, 0, none⟩), (10, .bool ((e.kind == 5) && ((l.length : Int) == 2)))] (AMem.wth m [(b2, zO), (b1, expO e)]) := by
    intro _
    subst hA
    refine AAny.step [] [0, 3] (by decide +kernel) (by simp) (by decide) ⟨?_, ?_, trivial⟩
    ·
     show aopsR _ _ _ [_] _ _ _
     refine ⟨trivial, ?_⟩
     refine AAny.keep [1, 4, 19] (by decide) ?_
     exact s19 trivial
    ·
     show aopsR _ _ _ [_] _ _ _
     refine ⟨trivial, ?_⟩
     refine AAny.keep [1, 4, 22] (by decide) ?_
     exact s20 trivial
   clear s19 s20
   exact s21 trivial
  intro _
  refine hK1 _ _ ?_; clear hK1 K1
  refine awp_ret ?_
  refine resK_cell2 (fn := Try.f25) (a := 4) (t := 25) (s := 5) (b := b2) (off := 0) rfl rfl (wth_get  (m := m) (L := [(b2, valO ((plusR (gI l 0) (gI l 1)).1)), (b1, expO e)]) 0 hNb2 rfl) (apartOk_agg rfl rfl (Nat.le_of_ble_eq_true rfl)) (.agg [.int .i64 (((plusR (gI l 0) (gI l 1)).1).kind), .int .i64 (((plusR (gI l 0) (gI l 1)).1).n), .str (((plusR (gI l 0) (gI l 1)).1).s), .slice false ((((plusR (gI l 0) (gI l 1)).1).l).map valIn), .slice false ((((plusR (gI l 0) (gI l 1)).1).f).map fldIn)]) (.err 67 ((plusR (gI l 0) (gI l 1)).2)) rfl rfl (.err 67 ((plusR (gI l 0) (gI l 1)).2)) rfl m ((wth_sub2 (m := m) [(b2, valO ((plusR (gI l 0) (gI l 1)).1)), (b1, expO e)] [] hNb2 (by simp only [List.map_cons, List.map_nil, List.forall_mem_cons]; exact ⟨hFb2, hFb1, fun _ h => by cases h⟩))) ?_
  show K (.tuple [.agg [.int .i64 (((plusR (gI l 0) (gI l 1)).1).kind), .int .i64 (((plusR (gI l 0) (gI l 1)).1).n), .str (((plusR (gI l 0) (gI l 1)).1).s), .slice false ((((plusR (gI l 0) (gI l 1)).1).l).map valIn), .slice false ((((plusR (gI l 0) (gI l 1)).1).f).map fldIn)], .err 67 ((plusR (gI l 0) (gI l 1)).2)]) m
 
  have e0 : joinR e l = ((((plusR (gI l 0) (gI l 1)).1), (plusR (gI l 0) (gI l 1)).2) : Val × Int) := by
   unfold joinR
   simp only [zV]
   first | (rw [if_pos (by omega)]; done) | (rw [if_neg (by omega), if_pos (by omega)]; simp [*]; done) | (rw [if_neg (by omega), if_neg (by omega), if_pos (by omega)]; done) | (rw [if_neg (by omega), if_neg (by omega), if_neg (by omega), if_pos (by omega), hI.2.2, List.take_of_length_le (by rw [List.length_zip]; omega)]; done) | (rw [if_neg (by omega), if_neg (by omega), if_neg (by omega), if_neg (by omega), if_pos (by omega), if_pos (by assumption)]; done) | (rw [if_neg (by omega), if_neg (by omega), if_neg (by omega), if_neg (by omega), if_pos (by omega), if_neg (by simp [*])]; rfl) | (rw [if_neg (by omega), if_neg (by omega), if_neg (by omega), if_neg (by omega), if_neg (by omega)]; done)
  rw [e0] at hK
  exact hK
 replace h2 : (e.kind ≠ 5) ∨ ((l.length : Int) ≠ 2) := ((bandF h2).imp (fun q => (ne_of_beq_false q)) (fun q => (ne_of_beq_false q)))
 refine awp_reg2_seq [] [1, 2, 4, 28] (by decide) ?_
 intro K1 hK1
 suffices key : K1 [(1, .slice false (l.map valIn)), (2, .ptr ⟨b1, 0, none⟩), (4, .ptr ⟨b2, 0, none⟩), (28, .bool ((e.kind == 6) && ((l.length : Int) == 2)))] (AMem.wth m [(b2, zO), (b1, expO e)]) by
  refine ⟨⟨rfl, by decide⟩, ?_⟩
  refine ar_loadp rfl (v := .int .i64 e.kind) rfl (wth_get 1 hNb2 rfl) rfl (apartOk_one rfl rfl (Nat.le_of_ble_eq_true rfl)) rfl ?_
  refine ⟨trivial, trivial, ?_⟩
  show aopsR _ _ _ _ _ [(32, .bool (e.kind == 6)), (31, .bool (e.kind == 6)), (30, .int .i64 e.kind), (29, .ptr ⟨b1, 0, none⟩), (1, .slice false (l.map valIn)), (2, .ptr ⟨b1, 0, none⟩), (4, .ptr ⟨b2, 0, none⟩), (10, .bool ((e.kind == 5) && ((l.length : Int) == 2)))] _
  revert key
  cases h3 : (e.kind == 6)
  ·
   replace h3 : e.kind ≠ 6 := (ne_of_beq_false h3)
   intro key
   refine ar_off rfl (ar_off rfl (ar_off rfl ?_))
   refine ⟨trivial, ?_⟩
   exact key
  ·
   replace h3 : e.kind = 6 := (eq_of_beq h3)
   intro key
   refine ⟨trivial, ?_⟩
   refine ar_len rfl valIn l rfl rfl rfl ?_
   refine ⟨trivial, ?_⟩
   refine ⟨trivial, ?_⟩
   exact key
 refine hK1 _ _ ?_; clear hK1 K1
 refine awp_cond rfl rfl (fun h4 => ?_) (fun h4 => ?_)
 ·
  replace h4 : (e.kind = 6) ∧ ((l.length : Int) = 2) := ⟨(eq_of_beq (bandL h4)), (eq_of_beq (bandR h4))⟩
  refine awp_reg2_seq [] [1, 4, 6] (by decide) ?_
  intro K1 hK1
  refine ⟨⟨rfl, by simp only [List.forall_mem_cons]; exact ⟨rfl, rfl, rfl, rfl, rfl, fun _ h => by cases h⟩, by simp only [List.forall_mem_cons]; exact ⟨rfl, fun _ h => by cases h⟩⟩, ?_⟩
  refine ar_alloc rfl (z := .agg [.int .i64 0, .int .i64 0, .str ([]), .slice true [], .slice true []]) rfl rfl ?_
  intro b3 hb3
  have hFb3 : m b3 = none := wth_none hb3
  have hNb3 : ([b3, b2, b1] : List Nat).Nodup := wth_nodup hb3 hNb2
  refine ar_storep rfl 0 (v := .agg [.int .i64 3, .int .i64 0, .str ([]), .slice true [], .slice true []]) (l' := [.int .i64 3, .int .i64 0, .str ([]), .slice true [], .slice true []]) rfl rfl hNb3 rfl rfl rfl rfl rfl (Nat.le_of_ble_eq_true rfl) rfl ?_
  show K1 [(1, .slice false (l.map valIn)), (4, .ptr ⟨b2, 0, none⟩), (6, .ptr ⟨b3, 0, none⟩)] (AMem.wth m [(b3, .cells [.int .i64 3, .int .i64 0, .str ([]), .slice true [], .slice true []]), (b2, zO), (b1, expO e)])
  refine hK1 _ _ ?_; clear hK1 K1
  refine awp_seq_k ?_; intro K3 hK3
  refine awp_draw_seq Try.mixed [(.bool (vEq (gI l 0) (gI l 1)))] [4, 6, 44] (by decide) (by decide) ?_
  intro K1 hK1
  refine ⟨trivial, ?_⟩
  refine pq_index rfl valTop l 0 rfl rfl (valMap l) rfl rfl (by decide) (fun _ => rfl) (by omega) (by omega) ?_
  refine ⟨(apartOk_agg rfl rfl (Nat.le_of_ble_eq_true rfl)), trivial, ?_⟩
  refine pq_index rfl valTop l 1 rfl rfl (valMap l) rfl rfl (by decide) (fun _ => rfl) (by omega) (by omega) ?_
  refine ⟨(apartOk_agg rfl rfl (Nat.le_of_ble_eq_true rfl)), (fun Kc hKc => u_Alike (gI l 0) (gI l 1) _ Kc hKc), ?_⟩
  show K1 [(4, .ptr ⟨b2, 0, none⟩), (6, .ptr ⟨b3, 0, none⟩), (44, .bool (vEq (gI l 0) (gI l 1)))] (AMem.wth m [(b3, .cells [.int .i64 3, .int .i64 0, .str ([]), .slice true [], .slice true []]), (b2, zO), (b1, expO e)])
  refine hK1 _ _ ?_; clear hK1 K1
  refine awp_cond rfl rfl (fun h5 => ?_) (fun h5 => ?_)
  ·
   replace h5 : vEq (gI l 0) (gI l 1) = true := h5
   refine awp_reg2 [] [4, 6] (by decide) ?_
   intro K1 hK1
   refine ⟨⟨rfl, by decide⟩, ?_⟩
   refine ar_storep rfl 0 (v := .int .i64 1) (l' := [.int .i64 3, .int .i64 1, .str ([]), .slice true [], .slice true []]) rfl rfl hNb3 rfl rfl rfl rfl rfl (Nat.le_of_ble_eq_true rfl) rfl ?_
   show K1 [(4, .ptr ⟨b2, 0, none⟩), (6, .ptr ⟨b3, 0, none⟩)] (AMem.wth m [(b3, .cells [.int .i64 3, .int .i64 1, .str ([]), .slice true [], .slice true []]), (b2, zO), (b1, expO e)])
   refine hK1 _ _ ?_; clear hK1 K1
   refine hK3 _ _ ?_; clear hK3
   refine awp_reg2_seq [] [4, 5] (by decide) ?_
   intro K1 hK1
   refine ar_loadp rfl (v := .agg [.int .i64 3, .int .i64 1, .str ([]), .slice false [], .slice false []]) rfl (wth_get 0 hNb3 rfl) rfl (apartOk_agg rfl rfl (Nat.le_of_ble_eq_true rfl)) rfl ?_
   refine ar_storep rfl 1 (v := .agg [.int .i64 3, .int .i64 1, .str ([]), .slice false [], .slice false []]) (l' := [.int .i64 3, .int .i64 1, .str ([]), .slice false [], .slice false []]) rfl rfl hNb3 rfl rfl rfl rfl rfl (Nat.le_of_ble_eq_true rfl) rfl ?_
   refine ⟨trivial, ?_⟩
   show K1 [(4, .ptr ⟨b2, 0, none⟩), (5, .nilIface)] (AMem.wth m [(b3, .cells [.int .i64 3, .int .i64 1, .str ([]), .slice true [], .slice true []]), (b2, .cells [.int .i64 3, .int .i64 1, .str ([]), .slice false [], .slice false []]), (b1, expO e)])
   refine hK1 _ _ ?_; clear hK1 K1
   refine awp_toErr 67 [5] ?_
   show AWP _ _ _ _ [(4, .ptr ⟨b2, 0, none⟩), (5, .err 67 0)] (AMem.wth m [(b3, .cells [.int .i64 3, .int .i64 1, .str ([]), .slice true [], .slice true []]), (b2, .cells [.int .i64 3, .int .i64 1, .str ([]), .slice false [], .slice false []]), (b1, expO e)])
   refine awp_ret ?_
   refine resK_cell2 (fn := Try.f25) (a := 4) (t := 25) (s := 5) (b := b2) (off := 0) rfl rfl (wth_get  (m := m) (L := [(b3, .cells [.int .i64 3, .int .i64 1, .str ([]), .slice true [], .slice true []]), (b2, .cells [.int .i64 3, .int .i64 1, .str ([]), .slice false [], .slice false []]), (b1, expO e)]) 1 hNb3 rfl) (apartOk_agg rfl rfl (Nat.le_of_ble_eq_true rfl)) (.agg [.int .i64 3, .int .i64 1, .str ([]), .slice false [], .slice false []]) (.err 67 0) rfl rfl (.err 67 0) rfl m ((wth_sub2 (m := m) [(b3, .cells [.int .i64 3, .int .i64 1, .str ([]), .slice true [], .slice true []]), (b2, .cells [.int .i64 3, .int .i64 1, .str ([]), .slice false [], .slice false []]), (b1, expO e)] [] hNb3 (by simp only [List.map_cons, List.map_nil, List.forall_mem_cons]; exact ⟨hFb3, hFb2, hFb1, fun _ h => by cases h⟩))) ?_
   show K (.tuple [.agg [.int .i64 3, .int .i64 1, .str ([]), .slice false [], .slice false []], .err 67 0]) m
  
   have e0 : joinR e l = (((⟨3, 1, [], [], []⟩ : Val), 0) : Val × Int) := by
    unfold joinR
    simp only [zV]
    first | (rw [if_pos (by omega)]; done) | (rw [if_neg (by omega), if_pos (by omega)]; simp [*]; done) | (rw [if_neg (by omega), if_neg (by omega), if_pos (by omega)]; done) | (rw [if_neg (by omega), if_neg (by omega), if_neg (by omega), if_pos (by omega), hI.2.2, List.take_of_length_le (by rw [List.length_zip]; omega)]; done) | (rw [if_neg (by omega), if_neg (by omega), if_neg (by omega), if_neg (by omega), if_pos (by omega), if_pos (by assumption)]; done) | (rw [if_neg (by omega), if_neg (by omega), if_neg (by omega), if_neg (by omega), if_pos (by omega), if_neg (by simp [*])]; rfl) | (rw [if_neg (by omega), if_neg (by omega), if_neg (by omega), if_neg (by omega), if_neg (by omega)]; done)
   rw [e0] at hK
   exact hK
  replace h5 : vEq (gI l 0) (gI l 1) = false := h5
  refine awp_skip ?_
  refine hK3 _ _ ?_; clear hK3
  refine awp_reg2_seq [] [4, 5] (by decide) ?_
  intro K1 hK1
  refine ar_loadp rfl (v := .agg [.int .i64 3, .int .i64 0, .str ([]), .slice false [], .slice false []]) rfl (wth_get 0 hNb3 rfl) rfl (apartOk_agg rfl rfl (Nat.le_of_ble_eq_true rfl)) rfl ?_
  refine ar_storep rfl 1 (v := .agg [.int .i64 3, .int .i64 0, .str ([]), .slice false [], .slice false []]) (l' := [.int .i64 3, .int .i64 0, .str ([]), .slice false [], .slice false []]) rfl rfl hNb3 rfl rfl rfl rfl rfl (Nat.le_of_ble_eq_true rfl) rfl ?_
  refine ⟨trivial, ?_⟩
  show K1 [(4, .ptr ⟨b2, 0, none⟩), (5, .nilIface)] (AMem.wth m [(b3, .cells [.int .i64 3, .int .i64 0, .str ([]), .slice true [], .slice true []]), (b2, .cells [.int .i64 3, .int .i64 0, .str ([]), .slice false [], .slice false []]), (b1, expO e)])
  refine hK1 _ _ ?_; clear hK1 K1
  refine awp_toErr 67 [5] ?_
  show AWP _ _ _ _ [(4, .ptr ⟨b2, 0, none⟩), (5, .err 67 0)] (AMem.wth m [(b3, .cells [.int .i64 3, .int .i64 0, .str ([]), .slice true [], .slice true []]), (b2, .cells [.int .i64 3, .int .i64 0, .str ([]), .slice false [], .slice false []]), (b1, expO e)])
  refine awp_ret ?_
  refine resK_cell2 (fn := Try.f25) (a := 4) (t := 25) (s := 5) (b := b2) (off := 0) rfl rfl (wth_get  (m := m) (L := [(b3, .cells [.int .i64 3, .int .i64 0, .str ([]), .slice true [], .slice true []]), (b2, .cells [.int .i64 3, .int .i64 0, .str ([]), .slice false [], .slice false []]), (b1, expO e)]) 1 hNb3 rfl) (apartOk_agg rfl rfl (Nat.le_of_ble_eq_true rfl)) (.agg [.int .i64 3, .int .i64 0, .str ([]), .slice false [], .slice false []]) (.err 67 0) rfl rfl (.err 67 0) rfl m ((wth_sub2 (m := m) [(b3, .cells [.int .i64 3, .int .i64 0, .str ([]), .slice true [], .slice true []]), (b2, .cells [.int .i64 3, .int .i64 0, .str ([]), .slice false [], .slice false []]), (b1, expO e)] [] hNb3 (by simp only [List.map_cons, List.map_nil, List.forall_mem_cons]; exact ⟨hFb3, hFb2, hFb1, fun _ h => by cases h⟩))) ?_
  show K (.tuple [.agg [.int .i64 3, .int .i64 0, .str ([]), .slice false [], .slice false []], .err 67 0]) m
 
  have e0 : joinR e l = (((⟨3, 0, [], [], []⟩ : Val), 0) : Val × Int) := by
   unfold joinR
   simp only [zV]
   first | (rw [if_pos (by omega)]; done) | (rw [if_neg (by omega), if_pos (by omega)]; simp [*]; done) | (rw [if_neg (by omega), if_neg (by omega), if_pos (by omega)]; done) | (rw [if_neg (by omega), if_neg (by omega), if_neg (by omega), if_pos (by omega), hI.2.2, List.take_of_length_le (by rw [List.length_zip]; omega)]; done) | (rw [if_neg (by omega), if_neg (by omega), if_neg (by omega), if_neg (by omega), if_pos (by omega), if_pos (by assumption)]; done) | (rw [if_neg (by omega), if_neg (by omega), if_neg (by omega), if_neg (by omega), if_pos (by omega), if_neg (by simp [*])]; rfl) | (rw [if_neg (by omega), if_neg (by omega), if_neg (by omega), if_neg (by omega), if_neg (by omega)]; done)
  rw [e0] at hK
  exact hK
 replace h4 : (e.kind ≠ 6) ∨ ((l.length : Int) ≠ 2) := ((bandF h4).imp (fun q => (ne_of_beq_false q)) (fun q => (ne_of_beq_false q)))
 refine awp_reg2_seq [] [1, 2, 4, 47] (by decide) ?_
 intro K1 hK1
 refine ⟨⟨rfl, by decide⟩, ?_⟩
 refine ar_loadp rfl (v := .int .i64 e.kind) rfl (wth_get 1 hNb2 rfl) rfl (apartOk_one rfl rfl (Nat.le_of_ble_eq_true rfl)) rfl ?_
 refine ⟨trivial, trivial, ?_⟩
 show K1 [(1, .slice false (l.map valIn)), (2, .ptr ⟨b1, 0, none⟩), (4, .ptr ⟨b2, 0, none⟩), (47, .bool (e.kind == 8))] (AMem.wth m [(b2, zO), (b1, expO e)])
 refine hK1 _ _ ?_; clear hK1 K1
 refine awp_cond rfl rfl (fun h6 => ?_) (fun h6 => ?_)
 ·
  replace h6 : e.kind = 8 := (eq_of_beq h6)
  refine awp_reg2_seq [] [4, 5] (by decide) ?_
  intro K1 hK1
  refine ⟨trivial, ⟨rfl, by simp only [List.forall_mem_cons]; exact ⟨rfl, rfl, rfl, rfl, rfl, fun _ h => by cases h⟩, by simp only [List.forall_mem_cons]; exact ⟨rfl, rfl, fun _ h => by cases h⟩⟩, ?_⟩
  refine ar_storep rfl 0 (v := .agg [.int .i64 4, .int .i64 0, .str ([]), .slice false (l.map valIn), .slice true []]) (l' := [.int .i64 4, .int .i64 0, .str ([]), .slice false (l.map valIn), .slice true []]) rfl rfl hNb2 rfl rfl rfl rfl rfl (Nat.le_of_ble_eq_true rfl) rfl ?_
  refine ⟨trivial, ?_⟩
  show K1 [(4, .ptr ⟨b2, 0, none⟩), (5, .nilIface)] (AMem.wth m [(b2, .cells [.int .i64 4, .int .i64 0, .str ([]), .slice false (l.map valIn), .slice true []]), (b1, expO e)])
  refine hK1 _ _ ?_; clear hK1 K1
  refine awp_toErr 67 [5] ?_
  show AWP _ _ _ _ [(4, .ptr ⟨b2, 0, none⟩), (5, .err 67 0)] (AMem.wth m [(b2, .cells [.int .i64 4, .int .i64 0, .str ([]), .slice false (l.map valIn), .slice true []]), (b1, expO e)])
  refine awp_ret ?_
  refine resK_cell2 (fn := Try.f25) (a := 4) (t := 25) (s := 5) (b := b2) (off := 0) rfl rfl (wth_get  (m := m) (L := [(b2, .cells [.int .i64 4, .int .i64 0, .str ([]), .slice false (l.map valIn), .slice true []]), (b1, expO e)]) 0 hNb2 rfl) (apartOk_agg rfl rfl (Nat.le_of_ble_eq_true rfl)) (.agg [.int .i64 4, .int .i64 0, .str ([]), .slice false (l.map valIn), .slice false []]) (.err 67 0) rfl rfl (.err 67 0) rfl m ((wth_sub2 (m := m) [(b2, .cells [.int .i64 4, .int .i64 0, .str ([]), .slice false (l.map valIn), .slice true []]), (b1, expO e)] [] hNb2 (by simp only [List.map_cons, List.map_nil, List.forall_mem_cons]; exact ⟨hFb2, hFb1, fun _ h => by cases h⟩))) ?_
  show K (.tuple [.agg [.int .i64 4, .int .i64 0, .str ([]), .slice false (l.map valIn), .slice false []], .err 67 0]) m
 
  have e0 : joinR e l = (((⟨4, 0, [], l, []⟩ : Val), 0) : Val × Int) := by
   unfold joinR
   simp only [zV]
   first | (rw [if_pos (by omega)]; done) | (rw [if_neg (by omega), if_pos (by omega)]; simp [*]; done) | (rw [if_neg (by omega), if_neg (by omega), if_pos (by omega)]; done) | (rw [if_neg (by omega), if_neg (by omega), if_neg (by omega), if_pos (by omega), hI.2.2, List.take_of_length_le (by rw [List.length_zip]; omega)]; done) | (rw [if_neg (by omega), if_neg (by omega), if_neg (by omega), if_neg (by omega), if_pos (by omega), if_pos (by assumption)]; done) | (rw [if_neg (by omega), if_neg (by omega), if_neg (by omega), if_neg (by omega), if_pos (by omega), if_neg (by simp [*])]; rfl) | (rw [if_neg (by omega), if_neg (by omega), if_neg (by omega), if_neg (by omega), if_neg (by omega)]; done)
  rw [e0] at hK
  exact hK
 replace h6 : e.kind ≠ 8 := (ne_of_beq_false h6)
 refine awp_reg2_seq [] [1, 2, 4, 53] (by decide) ?_
 intro K1 hK1
 suffices key : K1 [(1, .slice false (l.map valIn)), (2, .ptr ⟨b1, 0, none⟩), (4, .ptr ⟨b2, 0, none⟩), (53, .bool ((e.kind == 9) && ((e.n.length : Int) == (l.length : Int))))] (AMem.wth m [(b2, zO), (b1, expO e)]) by
  refine ⟨⟨rfl, by decide⟩, ?_⟩
  refine ar_loadp rfl (v := .int .i64 e.kind) rfl (wth_get 1 hNb2 rfl) rfl (apartOk_one rfl rfl (Nat.le_of_ble_eq_true rfl)) rfl ?_
  refine ⟨trivial, trivial, ?_⟩
  show aopsR _ _ _ _ _ [(57, .bool (e.kind == 9)), (56, .bool (e.kind == 9)), (55, .int .i64 e.kind), (54, .ptr ⟨b1, 0, none⟩), (1, .slice false (l.map valIn)), (2, .ptr ⟨b1, 0, none⟩), (4, .ptr ⟨b2, 0, none⟩), (47, .bool (e.kind == 8))] _
  revert key
  cases h7 : (e.kind == 9)
  ·
   replace h7 : e.kind ≠ 9 := (ne_of_beq_false h7)
   intro key
   refine ar_off rfl (ar_off rfl (ar_off rfl (ar_off rfl (ar_off rfl (ar_off rfl ?_)))))
   refine ⟨trivial, ?_⟩
   exact key
  ·
   replace h7 : e.kind = 9 := (eq_of_beq h7)
   intro key
   refine ⟨⟨rfl, by decide⟩, ?_⟩
   refine ar_loadp rfl (v := .slice false (e.n.map strAV)) rfl (wth_get 1 hNb2 rfl) rfl (apartOk_one rfl rfl (Nat.le_of_ble_eq_true rfl)) rfl ?_
   refine ar_len rfl strAV e.n rfl rfl rfl ?_
   refine ⟨trivial, ?_⟩
   refine ar_len rfl valIn l rfl rfl rfl ?_
   refine ⟨trivial, ?_⟩
   refine ⟨trivial, ?_⟩
   exact key
 refine hK1 _ _ ?_; clear hK1 K1
 refine awp_cond rfl rfl (fun h8 => ?_) (fun h8 => ?_)
 ·
  replace h8 : (e.kind = 9) ∧ ((e.n.length : Int) = (l.length : Int)) := ⟨(eq_of_beq (bandL h8)), (eq_of_beq (bandR h8))⟩
  refine awp_reg2_seq [] [1, 2, 4, 7] (by decide) ?_
  intro K1 hK1
  refine ⟨trivial, ?_⟩
  show K1 [(1, .slice false (l.map valIn)), (2, .ptr ⟨b1, 0, none⟩), (4, .ptr ⟨b2, 0, none⟩), (7, .slice true [])] (AMem.wth m [(b2, zO), (b1, expO e)])
  refine hK1 _ _ ?_; clear hK1 K1
  refine awp_seq_k ?_; intro K4 hK4
  refine awp_reg2_seq [] [2, 4, 7, 65, 66, 67] (by decide) ?_
  intro K1 hK1
  refine ⟨trivial, ?_⟩
  refine ar_len rfl valIn l rfl rfl rfl ?_
  refine ⟨trivial, ?_⟩
  show K1 [(2, .ptr ⟨b1, 0, none⟩), (4, .ptr ⟨b2, 0, none⟩), (7, .slice true []), (65, .slice false (l.map valIn)), (66, .int .i64 (l.length : Int)), (67, .int .i64 0)] (AMem.wth m [(b2, zO), (b1, expO e)])
  refine hK1 _ _ ?_; clear hK1 K1
  refine awp_block ?_
  refine awp_keep [2, 4, 7, 65, 66, 67] (by decide) ?_
  refine awp_loop_st (σ := (List (Str × Val)) × Int) (fun ⟨of, i⟩ => [(2, .ptr ⟨b1, 0, none⟩), (4, .ptr ⟨b2, 0, none⟩), (7, .slice true (of.map fldIn)), (65, .slice false (l.map valIn)), (66, .int .i64 (l.length : Int)), (67, .int .i64 i)]) (fun _ => (AMem.wth m [(b2, zO), (b1, expO e)])) (fun ⟨of, i⟩ => 0 ≤ i ∧ i ≤ l.length ∧ of = (e.n.zip l).take i.toNat) (fun ⟨of, i⟩ => l.length - i.toNat) ([], 0) rfl rfl ?_ ?_
  ·
   show 0 ≤ ((0 : Int)) ∧ ((0 : Int)) ≤ l.length ∧ (([] : (List (Str × Val)))) = (e.n.zip l).take ((0 : Int)).toNat
   exact ⟨by omega, by omega, rfl⟩
  rintro ⟨of, i⟩ hI
  replace hI : 0 ≤ i ∧ i ≤ l.length ∧ of = (e.n.zip l).take i.toNat := hI
  have hof2 : (of.length : Int) ≤ i := by rw [hI.2.2, List.length_take]; omega
  show AWP _ _ _ _ [(2, .ptr ⟨b1, 0, none⟩), (4, .ptr ⟨b2, 0, none⟩), (7, .slice true (of.map fldIn)), (65, .slice false (l.map valIn)), (66, .int .i64 (l.length : Int)), (67, .int .i64 i)] (AMem.wth m [(b2, zO), (b1, expO e)])
  refine awp_reg2_seq [] [2, 4, 7, 65, 66, 67, 68] (by decide) ?_
  intro K1 hK1
  refine ⟨trivial, ?_⟩
  show K1 [(2, .ptr ⟨b1, 0, none⟩), (4, .ptr ⟨b2, 0, none⟩), (7, .slice true (of.map fldIn)), (65, .slice false (l.map valIn)), (66, .int .i64 (l.length : Int)), (67, .int .i64 i), (68, .bool (decide (i < (l.length : Int))))] (AMem.wth m [(b2, zO), (b1, expO e)])
  refine hK1 _ _ ?_; clear hK1 K1
  refine awp_seq_k ?_; intro K5 hK5
  refine awp_cond rfl rfl (fun h9 => ?_) (fun h9 => ?_)
  ·
   replace h9 : i < (l.length : Int) := (of_decide_eq_true h9)
   refine awp_skip ?_
   refine hK5 _ _ ?_; clear hK5
   refine awp_seq_k ?_; intro K6 hK6
   refine awp_block ?_
   refine awp_reg2_seq [] [2, 4, 7, 8, 9, 65, 66, 67] (by decide) ?_
   intro K1 hK1
   refine ⟨trivial, ?_⟩
   refine ar_index rfl valTop l i rfl rfl (valMap l) rfl rfl (by decide) (fun _ => rfl) (by omega) (by omega) ?_
   refine ⟨(apartOk_agg rfl rfl (Nat.le_of_ble_eq_true rfl)), ?_⟩
   refine ar_alloc rfl (z := .agg [.int .i64 0, .int .i64 0, .str ([]), .slice true [], .slice true []]) rfl rfl ?_
   intro b4 hb4
   have hFb4 : m b4 = none := wth_none hb4
   have hNb4 : ([b4, b2, b1] : List Nat).Nodup := wth_nodup hb4 hNb2
   refine ⟨trivial, ?_⟩
   refine ar_storep rfl 0 (v := valTop (gI l i)) (l' := [.int .i64 ((gI l i).kind), .int .i64 ((gI l i).n), .str ((gI l i).s), .slice false (((gI l i).l).map valIn), .slice false (((gI l i).f).map fldIn)]) rfl (by rfl) hNb4 rfl rfl rfl rfl rfl (Nat.le_of_ble_eq_true rfl) rfl ?_
   show K1 [(2, .ptr ⟨b1, 0, none⟩), (4, .ptr ⟨b2, 0, none⟩), (7, .slice true (of.map fldIn)), (8, .int .i64 i), (9, .ptr ⟨b4, 0, none⟩), (65, .slice false (l.map valIn)), (66, .int .i64 (l.length : Int)), (67, .int .i64 i)] (AMem.wth m [(b4, valO (gI l i)), (b2, zO), (b1, expO e)])
   refine hK1 _ _ ?_; clear hK1 K1
   refine awp_anyA Try.mixed [2, 4, 7, 65, 66, 67] (by decide) ?_
   intro K1 hK1
   intro A hA
   suffices key : ∀ (_ : True), K1 [(2, .ptr ⟨b1, 0, none⟩), (4, .ptr ⟨b2, 0, none⟩), (7, .slice true ((of ++ ([(⟨gI e.n i, (gI l i)⟩ : (Str × Val))] : List (Str × Val))).map fldIn)), (65, .slice false (l.map valIn)), (66, .int .i64 (l.length : Int)), (67, .int .i64 i)] (AMem.wth m [(b4, valO (gI l i)), (b2, zO), (b1, expO e)]) by
    have s0 : ∀ (_ : True), A 0 #[true, true, true, true, true, true, true, true, true, true, true] (fun fr m => K1 (fr.keep [2, 4, 7, 65, 66, 67]) m) [(2, .ptr ⟨b1, 0, none⟩), (4, .ptr ⟨b2, 0, none⟩), (7, .slice true ((of ++ ([(⟨gI e.n i, (gI l i)⟩ : (Str × Val))] : List (Str × Val))).map fldIn)), (65, .slice false (l.map valIn)), (66, .int .i64 (l.length : Int)), (67, .int .i64 i)] (AMem.wth m [(b4, valO (gI l i)), (b2, zO), (b1, expO e)]) := by
     intro _
     subst hA
     exact AAny.done (by decide +kernel) (key trivial)
    have s1 : ∀ (_ : True), A 1 #[true, true, true, true, true, true, true, true, true, true, false] (fun fr m => K1 (fr.keep [2, 4, 7, 65, 66, 67]) m) [(2, .ptr ⟨b1, 0, none⟩), (4, .ptr ⟨b2, 0, none⟩), (7, .slice false (of.map fldIn)), (65, .slice false (l.map valIn)), (66, .int .i64 (l.length : Int)), (67, .int .i64 i), (81, .slice true ((of ++ ([(⟨gI e.n i, (gI l i)⟩ : (Str × Val))] : List (Str × Val))).map fldIn))] (AMem.wth m [(b4, valO (gI l i)), (b2, zO), (b1, expO e)]) := by
     intro _
     subst hA
     refine AAny.step [72] [10] (by decide +kernel) (by simp) (by decide) ⟨?_, trivial⟩
     ·
      show aopsR _ _ _ [_] _ _ _
      refine ⟨trivial, ?_⟩
      refine AAny.keep [2, 4, 7, 65, 66, 67] (by decide) ?_
      exact s0 trivial
    clear s0
    have s2 : ∀ (_ : True), A 2 #[true, true, true, true, true, true, true, true, true, false, false] (fun fr m => K1 (fr.keep [2, 4, 7, 65, 66, 67]) m) [(2, .ptr ⟨b1, 0, none⟩), (4, .ptr ⟨b2, 0, none⟩), (7, .slice false (of.map fldIn)), (65, .slice false (l.map valIn)), (66, .int .i64 (l.length : Int)), (67, .int .i64 i), (72, .slice true (of.map fldIn)), (80, .slice true [.agg [.str (gI e.n i), .int .i64 ((gI l i).kind), .int .i64 ((gI l i).n), .str ((gI l i).s), .slice false (((gI l i).l).map valIn), .slice false (((gI l i).f).map fldIn)]])] (AMem.wth m [(b4, valO (gI l i)), (b2, zO), (b1, expO e)]) := by
     intro _
     subst hA
     refine AAny.step [72] [9] (by decide +kernel) (by simp) (by decide) ⟨?_, trivial⟩
     ·
      show aopsR _ _ _ [_] _ _ _
      refine ar_append rfl fldIn of ([(⟨gI e.n i, (gI l i)⟩ : (Str × Val))] : List (Str × Val)) rfl rfl rfl rfl (by simp only [List.map_cons, List.map_nil, fldIn_eq]; try rfl) rfl (Nat.le_of_ble_eq_true rfl) rfl (by (simp only [show Try.prog.bytesOf 46 = 96 from rfl, List.length_append, List.length_cons, List.length_nil]; omega)) (by (first | omega | (simp only [List.length_append, List.length_cons, List.length_nil]; omega))) (fun a => by rw [fldIn_eq]; exact ⟨rfl, rfl⟩) ?_
      refine AAny.keep [2, 4, 7, 65, 66, 67, 81] (by decide) ?_
      exact s1 trivial
    clear s1
    have s3 : ∀ (_ : True), A 3 #[true, true, true, true, true, true, true, true, false, false, false] (fun fr m => K1 (fr.keep [2, 4, 7, 65, 66, 67]) m) [(2, .ptr ⟨b1, 0, none⟩), (4, .ptr ⟨b2, 0, none⟩), (7, .slice false (of.map fldIn)), (65, .slice false (l.map valIn)), (66, .int .i64 (l.length : Int)), (67, .int .i64 i), (72, .slice true (of.map fldIn)), (79, .agg [.str (gI e.n i), .int .i64 ((gI l i).kind), .int .i64 ((gI l i).n), .str ((gI l i).s), .slice false (((gI l i).l).map valIn), .slice false (((gI l i).f).map fldIn)])] (AMem.wth m [(b4, valO (gI l i)), (b2, zO), (b1, expO e)]) := by
     intro _
     subst hA
     refine AAny.step [72] [8] (by decide +kernel) (by simp) (by decide) ⟨?_, trivial⟩
     ·
      show aopsR _ _ _ [_] _ _ _
      refine ⟨⟨rfl, Nat.le_of_ble_eq_true rfl, rfl, Nat.le_of_ble_eq_true rfl, rfl, by simp only [List.forall_mem_cons]; exact ⟨⟨rfl, rfl⟩, fun _ h => by cases h⟩⟩, ?_⟩
      refine AAny.keep [2, 4, 7, 65, 66, 67, 72, 80] (by decide) ?_
      exact s2 trivial
    have s4 : ∀ (_ : True), A 3 #[false, true, true, true, true, true, true, true, true, false, false] (fun fr m => K1 (fr.keep [2, 4, 7, 65, 66, 67]) m) [(2, .ptr ⟨b1, 0, none⟩), (4, .ptr ⟨b2, 0, none⟩), (7, .slice true (of.map fldIn)), (65, .slice false (l.map valIn)), (66, .int .i64 (l.length : Int)), (67, .int .i64 i), (80, .slice true [.agg [.str (gI e.n i), .int .i64 ((gI l i).kind), .int .i64 ((gI l i).n), .str ((gI l i).s), .slice false (((gI l i).l).map valIn), .slice false (((gI l i).f).map fldIn)]])] (AMem.wth m [(b4, valO (gI l i)), (b2, zO), (b1, expO e)]) := by
     intro _
     subst hA
     refine AAny.step [72] [0] (by decide +kernel) (by simp) (by decide) ⟨?_, trivial⟩
     ·
      show aopsR _ _ _ [_] _ _ _
      refine ⟨trivial, ?_⟩
      refine AAny.keep [2, 4, 7, 65, 66, 67, 72, 80] (by decide) ?_
      exact s2 trivial
    clear s2
    have s5 : ∀ (_ : True), A 4 #[true, true, true, true, true, true, true, false, false, false, false] (fun fr m => K1 (fr.keep [2, 4, 7, 65, 66, 67]) m) [(2, .ptr ⟨b1, 0, none⟩), (4, .ptr ⟨b2, 0, none⟩), (7, .slice false (of.map fldIn)), (65, .slice false (l.map valIn)), (66, .int .i64 (l.length : Int)), (67, .int .i64 i), (72, .slice true (of.map fldIn)), (77, .str (gI e.n i)), (78, .agg [.int .i64 ((gI l i).kind), .int .i64 ((gI l i).n), .str ((gI l i).s), .slice false (((gI l i).l).map valIn), .slice false (((gI l i).f).map fldIn)])] (AMem.wth m [(b4, valO (gI l i)), (b2, zO), (b1, expO e)]) := by
     intro _
     subst hA
     refine AAny.step [72] [7] (by decide +kernel) (by simp) (by decide) ⟨?_, trivial⟩
     ·
      show aopsR _ _ _ [_] _ _ _
      refine ⟨⟨rfl, by simp only [List.forall_mem_cons]; exact ⟨rfl, rfl, fun _ h => by cases h⟩, by simp only [List.forall_mem_cons]; exact ⟨rfl, rfl, fun _ h => by cases h⟩⟩, ?_⟩
      refine AAny.keep [2, 4, 7, 65, 66, 67, 72, 79] (by decide) ?_
      exact s3 trivial
    have s6 : ∀ (_ : True), A 4 #[false, true, true, true, true, true, true, true, false, false, false] (fun fr m => K1 (fr.keep [2, 4, 7, 65, 66, 67]) m) [(2, .ptr ⟨b1, 0, none⟩), (4, .ptr ⟨b2, 0, none⟩), (7, .slice true (of.map fldIn)), (65, .slice false (l.map valIn)), (66, .int .i64 (l.length : Int)), (67, .int .i64 i), (79, .agg [.str (gI e.n i), .int .i64 ((gI l i).kind), .int .i64 ((gI l i).n), .str ((gI l i).s), .slice false (((gI l i).l).map valIn), .slice false (((gI l i).f).map fldIn)])] (AMem.wth m [(b4, valO (gI l i)), (b2, zO), (b1, expO e)]) := by
     intro _
     subst hA
     refine AAny.step [72] [0, 8] (by decide +kernel) (by simp) (by decide) ⟨?_, ?_, trivial⟩
     ·
      show aopsR _ _ _ [_] _ _ _
      refine ⟨trivial, ?_⟩
      refine AAny.keep [2, 4, 7, 65, 66, 67, 72, 79] (by decide) ?_
      exact s3 trivial
     ·
      show aopsR _ _ _ [_] _ _ _
      refine ⟨⟨rfl, Nat.le_of_ble_eq_true rfl, rfl, Nat.le_of_ble_eq_true rfl, rfl, by simp only [List.forall_mem_cons]; exact ⟨⟨rfl, rfl⟩, fun _ h => by cases h⟩⟩, ?_⟩
      refine AAny.keep [2, 4, 7, 65, 66, 67, 80] (by decide) ?_
      exact s4 trivial
    clear s3 s4
    have s7 : ∀ (_ : True), A 5 #[true, true, true, true, true, true, false, false, false, false, false] (fun fr m => K1 (fr.keep [2, 4, 7, 65, 66, 67]) m) [(2, .ptr ⟨b1, 0, none⟩), (4, .ptr ⟨b2, 0, none⟩), (7, .slice false (of.map fldIn)), (9, .ptr ⟨b4, 0, none⟩), (65, .slice false (l.map valIn)), (66, .int .i64 (l.length : Int)), (67, .int .i64 i), (72, .slice true (of.map fldIn)), (77, .str (gI e.n i))] (AMem.wth m [(b4, valO (gI l i)), (b2, zO), (b1, expO e)]) := by
     intro _
     subst hA
     refine AAny.step [72] [6] (by decide +kernel) (by simp) (by decide) ⟨?_, trivial⟩
     ·
      show aopsR _ _ _ [_] _ _ _
      refine ar_loadp rfl (v := .agg [.int .i64 ((gI l i).kind), .int .i64 ((gI l i).n), .str ((gI l i).s), .slice false (((gI l i).l).map valIn), .slice false (((gI l i).f).map fldIn)]) rfl (wth_get 0 hNb4 rfl) rfl (apartOk_agg rfl rfl (Nat.le_of_ble_eq_true rfl)) rfl ?_
      refine AAny.keep [2, 4, 7, 65, 66, 67, 72, 77, 78] (by decide) ?_
      exact s5 trivial
    have s8 : ∀ (_ : True), A 5 #[true, true, true, true, true, false, true, false, false, false, false] (fun fr m => K1 (fr.keep [2, 4, 7, 65, 66, 67]) m) [(2, .ptr ⟨b1, 0, none⟩), (4, .ptr ⟨b2, 0, none⟩), (7, .slice false (of.map fldIn)), (65, .slice false (l.map valIn)), (66, .int .i64 (l.length : Int)), (67, .int .i64 i), (72, .slice true (of.map fldIn)), (76, .ref (AV.cells (.str (gI e.n i)))), (78, .agg [.int .i64 ((gI l i).kind), .int .i64 ((gI l i).n), .str ((gI l i).s), .slice false (((gI l i).l).map valIn), .slice false (((gI l i).f).map fldIn)])] (AMem.wth m [(b4, valO (gI l i)), (b2, zO), (b1, expO e)]) := by
     intro _
     subst hA
     refine AAny.step [72] [5] (by decide +kernel) (by simp) (by decide) ⟨?_, trivial⟩
     ·
      show aopsR _ _ _ [_] _ _ _
      refine ⟨(apartOk_one rfl rfl (Nat.le_of_ble_eq_true rfl)), ?_⟩
      refine AAny.keep [2, 4, 7, 65, 66, 67, 72, 77, 78] (by decide) ?_
      exact s5 trivial
    have s9 : ∀ (_ : True), A 5 #[false, true, true, true, true, true, true, false, false, false, false] (fun fr m => K1 (fr.keep [2, 4, 7, 65, 66, 67]) m) [(2, .ptr ⟨b1, 0, none⟩), (4, .ptr ⟨b2, 0, none⟩), (7, .slice true (of.map fldIn)), (65, .slice false (l.map valIn)), (66, .int .i64 (l.length : Int)), (67, .int .i64 i), (77, .str (gI e.n i)), (78, .agg [.int .i64 ((gI l i).kind), .int .i64 ((gI l i).n), .str ((gI l i).s), .slice false (((gI l i).l).map valIn), .slice false (((gI l i).f).map fldIn)])] (AMem.wth m [(b4, valO (gI l i)), (b2, zO), (b1, expO e)]) := by
     intro _
     subst hA
     refine AAny.step [72] [0, 7] (by decide +kernel) (by simp) (by decide) ⟨?_, ?_, trivial⟩
     ·
      show aopsR _ _ _ [_] _ _ _
      refine ⟨trivial, ?_⟩
      refine AAny.keep [2, 4, 7, 65, 66, 67, 72, 77, 78] (by decide) ?_
      exact s5 trivial
     ·
      show aopsR _ _ _ [_] _ _ _
      refine ⟨⟨rfl, by simp only [List.forall_mem_cons]; exact ⟨rfl, rfl, fun _ h => by cases h⟩, by simp only [List.forall_mem_cons]; exact ⟨rfl, rfl, fun _ h => by cases h⟩⟩, ?_⟩
      refine AAny.keep [2, 4, 7, 65, 66, 67, 79] (by decide) ?_
      exact s6 trivial
    clear s5 s6
    have s10 : ∀ (_ : True), A 6 #[true, true, true, true, true, false, false, false, false, false, false] (fun fr m => K1 (fr.keep [2, 4, 7, 65, 66, 67]) m) [(2, .ptr ⟨b1, 0, none⟩), (4, .ptr ⟨b2, 0, none⟩), (7, .slice false (of.map fldIn)), (9, .ptr ⟨b4, 0, none⟩), (65, .slice false (l.map valIn)), (66, .int .i64 (l.length : Int)), (67, .int .i64 i), (72, .slice true (of.map fldIn)), (76, .ref (AV.cells (.str (gI e.n i))))] (AMem.wth m [(b4, valO (gI l i)), (b2, zO), (b1, expO e)]) := by
     intro _
     subst hA
     refine AAny.step [72] [5, 6] (by decide +kernel) (by simp) (by decide) ⟨?_, ?_, trivial⟩
     ·
      show aopsR _ _ _ [_] _ _ _
      refine ⟨(apartOk_one rfl rfl (Nat.le_of_ble_eq_true rfl)), ?_⟩
      refine AAny.keep [2, 4, 7, 9, 65, 66, 67, 72, 77] (by decide) ?_
      exact s7 trivial
     ·
      show aopsR _ _ _ [_] _ _ _
      refine ar_loadp rfl (v := .agg [.int .i64 ((gI l i).kind), .int .i64 ((gI l i).n), .str ((gI l i).s), .slice false (((gI l i).l).map valIn), .slice false (((gI l i).f).map fldIn)]) rfl (wth_get 0 hNb4 rfl) rfl (apartOk_agg rfl rfl (Nat.le_of_ble_eq_true rfl)) rfl ?_
      refine AAny.keep [2, 4, 7, 65, 66, 67, 72, 76, 78] (by decide) ?_
      exact s8 trivial
    have s11 : ∀ (_ : True), A 6 #[true, true, true, true, false, false, true, false, false, false, false] (fun fr m => K1 (fr.keep [2, 4, 7, 65, 66, 67]) m) [(2, .ptr ⟨b1, 0, none⟩), (4, .ptr ⟨b2, 0, none⟩), (7, .slice false (of.map fldIn)), (65, .slice false (l.map valIn)), (66, .int .i64 (l.length : Int)), (67, .int .i64 i), (72, .slice true (of.map fldIn)), (74, .slice false (e.n.map strAV)), (75, .int .i64 i), (78, .agg [.int .i64 ((gI l i).kind), .int .i64 ((gI l i).n), .str ((gI l i).s), .slice false (((gI l i).l).map valIn), .slice false (((gI l i).f).map fldIn)])] (AMem.wth m [(b4, valO (gI l i)), (b2, zO), (b1, expO e)]) := by
     intro _
     subst hA
     refine AAny.step [72] [4] (by decide +kernel) (by simp) (by decide) ⟨?_, trivial⟩
     ·
      show aopsR _ _ _ [_] _ _ _
      refine ar_index rfl strAV e.n i rfl rfl rfl rfl rfl (by decide) (fun _ => rfl) (by omega) (by omega) ?_
      refine AAny.keep [2, 4, 7, 65, 66, 67, 72, 76, 78] (by decide) ?_
      exact s8 trivial
    have s12 : ∀ (_ : True), A 6 #[false, true, true, true, true, true, false, false, false, false, false] (fun fr m => K1 (fr.keep [2, 4, 7, 65, 66, 67]) m) [(2, .ptr ⟨b1, 0, none⟩), (4, .ptr ⟨b2, 0, none⟩), (7, .slice true (of.map fldIn)), (9, .ptr ⟨b4, 0, none⟩), (65, .slice false (l.map valIn)), (66, .int .i64 (l.length : Int)), (67, .int .i64 i), (77, .str (gI e.n i))] (AMem.wth m [(b4, valO (gI l i)), (b2, zO), (b1, expO e)]) := by
     intro _
     subst hA
     refine AAny.step [72] [0, 6] (by decide +kernel) (by simp) (by decide) ⟨?_, ?_, trivial⟩
     ·
      show aopsR _ _ _ [_] _ _ _
      refine ⟨trivial, ?_⟩
      refine AAny.keep [2, 4, 7, 9, 65, 66, 67, 72, 77] (by decide) ?_
      exact s7 trivial
     ·
      show aopsR _ _ _ [_] _ _ _
      refine ar_loadp rfl (v := .agg [.int .i64 ((gI l i).kind), .int .i64 ((gI l i).n), .str ((gI l i).s), .slice false (((gI l i).l).map valIn), .slice false (((gI l i).f).map fldIn)]) rfl (wth_get 0 hNb4 rfl) rfl (apartOk_agg rfl rfl (Nat.le_of_ble_eq_true rfl)) rfl ?_
      refine AAny.keep [2, 4, 7, 65, 66, 67, 77, 78] (by decide) ?_
      exact s9 trivial
    clear s7
    have s13 : ∀ (_ : True), A 6 #[false, true, true, true, true, false, true, false, false, false, false] (fun fr m => K1 (fr.keep [2, 4, 7, 65, 66, 67]) m) [(2, .ptr ⟨b1, 0, none⟩), (4, .ptr ⟨b2, 0, none⟩), (7, .slice true (of.map fldIn)), (65, .slice false (l.map valIn)), (66, .int .i64 (l.length : Int)), (67, .int .i64 i), (76, .ref (AV.cells (.str (gI e.n i)))), (78, .agg [.int .i64 ((gI l i).kind), .int .i64 ((gI l i).n), .str ((gI l i).s), .slice false (((gI l i).l).map valIn), .slice false (((gI l i).f).map fldIn)])] (AMem.wth m [(b4, valO (gI l i)), (b2, zO), (b1, expO e)]) := by
     intro _
     subst hA
     refine AAny.step [72] [0, 5] (by decide +kernel) (by simp) (by decide) ⟨?_, ?_, trivial⟩
     ·
      show aopsR _ _ _ [_] _ _ _
      refine ⟨trivial, ?_⟩
      refine AAny.keep [2, 4, 7, 65, 66, 67, 72, 76, 78] (by decide) ?_
      exact s8 trivial
     ·
      show aopsR _ _ _ [_] _ _ _
      refine ⟨(apartOk_one rfl rfl (Nat.le_of_ble_eq_true rfl)), ?_⟩
      refine AAny.keep [2, 4, 7, 65, 66, 67, 77, 78] (by decide) ?_
      exact s9 trivial
    clear s8 s9
    have s14 : ∀ (_ : True), A 7 #[true, true, true, true, false, false, false, false, false, false, false] (fun fr m => K1 (fr.keep [2, 4, 7, 65, 66, 67]) m) [(2, .ptr ⟨b1, 0, none⟩), (4, .ptr ⟨b2, 0, none⟩), (7, .slice false (of.map fldIn)), (9, .ptr ⟨b4, 0, none⟩), (65, .slice false (l.map valIn)), (66, .int .i64 (l.length : Int)), (67, .int .i64 i), (72, .slice true (of.map fldIn)), (74, .slice false (e.n.map strAV)), (75, .int .i64 i)] (AMem.wth m [(b4, valO (gI l i)), (b2, zO), (b1, expO e)]) := by
     intro _
     subst hA
     refine AAny.step [72] [4, 6] (by decide +kernel) (by simp) (by decide) ⟨?_, ?_, trivial⟩
     ·
      show aopsR _ _ _ [_] _ _ _
      refine ar_index rfl strAV e.n i rfl rfl rfl rfl rfl (by decide) (fun _ => rfl) (by omega) (by omega) ?_
      refine AAny.keep [2, 4, 7, 9, 65, 66, 67, 72, 76] (by decide) ?_
      exact s10 trivial
     ·
      show aopsR _ _ _ [_] _ _ _
      refine ar_loadp rfl (v := .agg [.int .i64 ((gI l i).kind), .int .i64 ((gI l i).n), .str ((gI l i).s), .slice false (((gI l i).l).map valIn), .slice false (((gI l i).f).map fldIn)]) rfl (wth_get 0 hNb4 rfl) rfl (apartOk_agg rfl rfl (Nat.le_of_ble_eq_true rfl)) rfl ?_
      refine AAny.keep [2, 4, 7, 65, 66, 67, 72, 74, 75, 78] (by decide) ?_
      exact s11 trivial
    have s15 : ∀ (_ : True), A 7 #[true, true, true, false, false, false, true, false, false, false, false] (fun fr m => K1 (fr.keep [2, 4, 7, 65, 66, 67]) m) [(2, .ptr ⟨b1, 0, none⟩), (4, .ptr ⟨b2, 0, none⟩), (7, .slice false (of.map fldIn)), (8, .int .i64 i), (65, .slice false (l.map valIn)), (66, .int .i64 (l.length : Int)), (67, .int .i64 i), (72, .slice true (of.map fldIn)), (74, .slice false (e.n.map strAV)), (78, .agg [.int .i64 ((gI l i).kind), .int .i64 ((gI l i).n), .str ((gI l i).s), .slice false (((gI l i).l).map valIn), .slice false (((gI l i).f).map fldIn)])] (AMem.wth m [(b4, valO (gI l i)), (b2, zO), (b1, expO e)]) := by
     intro _
     subst hA
     refine AAny.step [72] [3] (by decide +kernel) (by simp) (by decide) ⟨?_, trivial⟩
     ·
      show aopsR _ _ _ [_] _ _ _
      refine ⟨trivial, ?_⟩
      refine AAny.keep [2, 4, 7, 65, 66, 67, 72, 74, 75, 78] (by decide) ?_
      exact s11 trivial
    have s16 : ∀ (_ : True), A 7 #[true, true, false, true, false, false, true, false, false, false, false] (fun fr m => K1 (fr.keep [2, 4, 7, 65, 66, 67]) m) [(2, .ptr ⟨b1, 0, none⟩), (4, .ptr ⟨b2, 0, none⟩), (7, .slice false (of.map fldIn)), (65, .slice false (l.map valIn)), (66, .int .i64 (l.length : Int)), (67, .int .i64 i), (72, .slice true (of.map fldIn)), (73, .ptr ⟨b1, 9, none⟩), (75, .int .i64 i), (78, .agg [.int .i64 ((gI l i).kind), .int .i64 ((gI l i).n), .str ((gI l i).s), .slice false (((gI l i).l).map valIn), .slice false (((gI l i).f).map fldIn)])] (AMem.wth m [(b4, valO (gI l i)), (b2, zO), (b1, expO e)]) := by
     intro _
     subst hA
     refine AAny.step [72] [2] (by decide +kernel) (by simp) (by decide) ⟨?_, trivial⟩
     ·
      show aopsR _ _ _ [_] _ _ _
      refine ar_loadp rfl (v := .slice false (e.n.map strAV)) rfl (wth_get 2 hNb4 rfl) rfl (apartOk_one rfl rfl (Nat.le_of_ble_eq_true rfl)) rfl ?_
      refine AAny.keep [2, 4, 7, 65, 66, 67, 72, 74, 75, 78] (by decide) ?_
      exact s11 trivial
    have s17 : ∀ (_ : True), A 7 #[false, true, true, true, true, false, false, false, false, false, false] (fun fr m => K1 (fr.keep [2, 4, 7, 65, 66, 67]) m) [(2, .ptr ⟨b1, 0, none⟩), (4, .ptr ⟨b2, 0, none⟩), (7, .slice true (of.map fldIn)), (9, .ptr ⟨b4, 0, none⟩), (65, .slice false (l.map valIn)), (66, .int .i64 (l.length : Int)), (67, .int .i64 i), (76, .ref (AV.cells (.str (gI e.n i))))] (AMem.wth m [(b4, valO (gI l i)), (b2, zO), (b1, expO e)]) := by
     intro _
     subst hA
     refine AAny.step [72] [0, 5, 6] (by decide +kernel) (by simp) (by decide) ⟨?_, ?_, ?_, trivial⟩
     ·
      show aopsR _ _ _ [_] _ _ _
      refine ⟨trivial, ?_⟩
      refine AAny.keep [2, 4, 7, 9, 65, 66, 67, 72, 76] (by decide) ?_
      exact s10 trivial
     ·
      show aopsR _ _ _ [_] _ _ _
      refine ⟨(apartOk_one rfl rfl (Nat.le_of_ble_eq_true rfl)), ?_⟩
      refine AAny.keep [2, 4, 7, 9, 65, 66, 67, 77] (by decide) ?_
      exact s12 trivial
     ·
      show aopsR _ _ _ [_] _ _ _
      refine ar_loadp rfl (v := .agg [.int .i64 ((gI l i).kind), .int .i64 ((gI l i).n), .str ((gI l i).s), .slice false (((gI l i).l).map valIn), .slice false (((gI l i).f).map fldIn)]) rfl (wth_get 0 hNb4 rfl) rfl (apartOk_agg rfl rfl (Nat.le_of_ble_eq_true rfl)) rfl ?_
      refine AAny.keep [2, 4, 7, 65, 66, 67, 76, 78] (by decide) ?_
      exact s13 trivial
    clear s10 s12
    have s18 : ∀ (_ : True), A 7 #[false, true, true, true, false, false, true, false, false, false, false] (fun fr m => K1 (fr.keep [2, 4, 7, 65, 66, 67]) m) [(2, .ptr ⟨b1, 0, none⟩), (4, .ptr ⟨b2, 0, none⟩), (7, .slice true (of.map fldIn)), (65, .slice false (l.map valIn)), (66, .int .i64 (l.length : Int)), (67, .int .i64 i), (74, .slice false (e.n.map strAV)), (75, .int .i64 i), (78, .agg [.int .i64 ((gI l i).kind), .int .i64 ((gI l i).n), .str ((gI l i).s), .slice false (((gI l i).l).map valIn), .slice false (((gI l i).f).map fldIn)])] (AMem.wth m [(b4, valO (gI l i)), (b2, zO), (b1, expO e)]) := by
     intro _
     subst hA
     refine AAny.step [72] [0, 4] (by decide +kernel) (by simp) (by decide) ⟨?_, ?_, trivial⟩
     ·
      show aopsR _ _ _ [_] _ _ _
      refine ⟨trivial, ?_⟩
      refine AAny.keep [2, 4, 7, 65, 66, 67, 72, 74, 75, 78] (by decide) ?_
      exact s11 trivial
     ·
      show aopsR _ _ _ [_] _ _ _
      refine ar_index rfl strAV e.n i rfl rfl rfl rfl rfl (by decide) (fun _ => rfl) (by omega) (by omega) ?_
      refine AAny.keep [2, 4, 7, 65, 66, 67, 76, 78] (by decide) ?_
      exact s13 trivial
    clear s11 s13
    have s19 : ∀ (_ : True), A 8 #[true, true, true, false, false, false, false, false, false, false, false] (fun fr m => K1 (fr.keep [2, 4, 7, 65, 66, 67]) m) [(2, .ptr ⟨b1, 0, none⟩), (4, .ptr ⟨b2, 0, none⟩), (7, .slice false (of.map fldIn)), (8, .int .i64 i), (9, .ptr ⟨b4, 0, none⟩), (65, .slice false (l.map valIn)), (66, .int .i64 (l.length : Int)), (67, .int .i64 i), (72, .slice true (of.map fldIn)), (74, .slice false (e.n.map strAV))] (AMem.wth m [(b4, valO (gI l i)), (b2, zO), (b1, expO e)]) := by
     intro _
     subst hA
     refine AAny.step [72] [3, 6] (by decide +kernel) (by simp) (by decide) ⟨?_, ?_, trivial⟩
     ·
      show aopsR _ _ _ [_] _ _ _
      refine ⟨trivial, ?_⟩
      refine AAny.keep [2, 4, 7, 9, 65, 66, 67, 72, 74, 75] (by decide) ?_
      exact s14 trivial
     ·
      show aopsR _ _ _ [_] _ _ _
      refine ar_loadp rfl (v := .agg [.int .i64 ((gI l i).kind), .int .i64 ((gI l i).n), .str ((gI l i).s), .slice false (((gI l i).l).map valIn), .slice false (((gI l i).f).map fldIn)]) rfl (wth_get 0 hNb4 rfl) rfl (apartOk_agg rfl rfl (Nat.le_of_ble_eq_true rfl)) rfl ?_
      refine AAny.keep [2, 4, 7, 8, 65, 66, 67, 72, 74, 78] (by decide) ?_
      exact s15 trivial
    have s20 : ∀ (_ : True), A 8 #[true, true, false, true, false, false, false, false, false, false, false] (fun fr m => K1 (fr.keep [2, 4, 7, 65, 66, 67]) m) [(2, .ptr ⟨b1, 0, none⟩), (4, .ptr ⟨b2, 0, none⟩), (7, .slice false (of.map fldIn)), (9, .ptr ⟨b4, 0, none⟩), (65, .slice false (l.map valIn)), (66, .int .i64 (l.length : Int)), (67, .int .i64 i), (72, .slice true (of.map fldIn)), (73, .ptr ⟨b1, 9, none⟩), (75, .int .i64 i)] (AMem.wth m [(b4, valO (gI l i)), (b2, zO), (b1, expO e)]) := by
     intro _
     subst hA
     refine AAny.step [72] [2, 6] (by decide +kernel) (by simp) (by decide) ⟨?_, ?_, trivial⟩
     ·
      show aopsR _ _ _ [_] _ _ _
      refine ar_loadp rfl (v := .slice false (e.n.map strAV)) rfl (wth_get 2 hNb4 rfl) rfl (apartOk_one rfl rfl (Nat.le_of_ble_eq_true rfl)) rfl ?_
      refine AAny.keep [2, 4, 7, 9, 65, 66, 67, 72, 74, 75] (by decide) ?_
      exact s14 trivial
     ·
      show aopsR _ _ _ [_] _ _ _
      refine ar_loadp rfl (v := .agg [.int .i64 ((gI l i).kind), .int .i64 ((gI l i).n), .str ((gI l i).s), .slice false (((gI l i).l).map valIn), .slice false (((gI l i).f).map fldIn)]) rfl (wth_get 0 hNb4 rfl) rfl (apartOk_agg rfl rfl (Nat.le_of_ble_eq_true rfl)) rfl ?_
      refine AAny.keep [2, 4, 7, 65, 66, 67, 72, 73, 75, 78] (by decide) ?_
      exact s16 trivial
    have s21 : ∀ (_ : True), A 8 #[true, true, false, false, false, false, true, false, false, false, false] (fun fr m => K1 (fr.keep [2, 4, 7, 65, 66, 67]) m) [(2, .ptr ⟨b1, 0, none⟩), (4, .ptr ⟨b2, 0, none⟩), (7, .slice false (of.map fldIn)), (8, .int .i64 i), (65, .slice false (l.map valIn)), (66, .int .i64 (l.length : Int)), (67, .int .i64 i), (72, .slice true (of.map fldIn)), (73, .ptr ⟨b1, 9, none⟩), (78, .agg [.int .i64 ((gI l i).kind), .int .i64 ((gI l i).n), .str ((gI l i).s), .slice false (((gI l i).l).map valIn), .slice false (((gI l i).f).map fldIn)])] (AMem.wth m [(b4, valO (gI l i)), (b2, zO), (b1, expO e)]) := by
     intro _
     subst hA
     refine AAny.step [72] [2, 3] (by decide +kernel) (by simp) (by decide) ⟨?_, ?_, trivial⟩
     ·
      show aopsR _ _ _ [_] _ _ _
      refine ar_loadp rfl (v := .slice false (e.n.map strAV)) rfl (wth_get 2 hNb4 rfl) rfl (apartOk_one rfl rfl (Nat.le_of_ble_eq_true rfl)) rfl ?_
      refine AAny.keep [2, 4, 7, 8, 65, 66, 67, 72, 74, 78] (by decide) ?_
      exact s15 trivial
     ·
      show aopsR _ _ _ [_] _ _ _
      refine ⟨trivial, ?_⟩
      refine AAny.keep [2, 4, 7, 65, 66, 67, 72, 73, 75, 78] (by decide) ?_
      exact s16 trivial
    have s22 : ∀ (_ : True), A 8 #[true, false, false, true, false, false, true, false, false, false, false] (fun fr m => K1 (fr.keep [2, 4, 7, 65, 66, 67]) m) [(2, .ptr ⟨b1, 0, none⟩), (4, .ptr ⟨b2, 0, none⟩), (7, .slice false (of.map fldIn)), (65, .slice false (l.map valIn)), (66, .int .i64 (l.length : Int)), (67, .int .i64 i), (72, .slice true (of.map fldIn)), (75, .int .i64 i), (78, .agg [.int .i64 ((gI l i).kind), .int .i64 ((gI l i).n), .str ((gI l i).s), .slice false (((gI l i).l).map valIn), .slice false (((gI l i).f).map fldIn)])] (AMem.wth m [(b4, valO (gI l i)), (b2, zO), (b1, expO e)]) := by
     intro _
     subst hA
     refine AAny.step [72] [1] (by decide +kernel) (by simp) (by decide) ⟨?_, trivial⟩
     ·
      show aopsR _ _ _ [_] _ _ _
      refine ⟨⟨rfl, by decide⟩, ?_⟩
      refine AAny.keep [2, 4, 7, 65, 66, 67, 72, 73, 75, 78] (by decide) ?_
      exact s16 trivial
    have s23 : ∀ (_ : True), A 8 #[false, true, true, true, false, false, false, false, false, false, false] (fun fr m => K1 (fr.keep [2, 4, 7, 65, 66, 67]) m) [(2, .ptr ⟨b1, 0, none⟩), (4, .ptr ⟨b2, 0, none⟩), (7, .slice true (of.map fldIn)), (9, .ptr ⟨b4, 0, none⟩), (65, .slice false (l.map valIn)), (66, .int .i64 (l.length : Int)), (67, .int .i64 i), (74, .slice false (e.n.map strAV)), (75, .int .i64 i)] (AMem.wth m [(b4, valO (gI l i)), (b2, zO), (b1, expO e)]) := by
     intro _
     subst hA
     refine AAny.step [72] [0, 4, 6] (by decide +kernel) (by simp) (by decide) ⟨?_, ?_, ?_, trivial⟩
     ·
      show aopsR _ _ _ [_] _ _ _
      refine ⟨trivial, ?_⟩
      refine AAny.keep [2, 4, 7, 9, 65, 66, 67, 72, 74, 75] (by decide) ?_
      exact s14 trivial
     ·
      show aopsR _ _ _ [_] _ _ _
      refine ar_index rfl strAV e.n i rfl rfl rfl rfl rfl (by decide) (fun _ => rfl) (by omega) (by omega) ?_
      refine AAny.keep [2, 4, 7, 9, 65, 66, 67, 76] (by decide) ?_
      exact s17 trivial
     ·
      show aopsR _ _ _ [_] _ _ _
      refine ar_loadp rfl (v := .agg [.int .i64 ((gI l i).kind), .int .i64 ((gI l i).n), .str ((gI l i).s), .slice false (((gI l i).l).map valIn), .slice false (((gI l i).f).map fldIn)]) rfl (wth_get 0 hNb4 rfl) rfl (apartOk_agg rfl rfl (Nat.le_of_ble_eq_true rfl)) rfl ?_
      refine AAny.keep [2, 4, 7, 65, 66, 67, 74, 75, 78] (by decide) ?_
      exact s18 trivial
    clear s14 s17
    have s24 : ∀ (_ : True), A 8 #[false, true, true, false, false, false, true, false, false, false, false] (fun fr m => K1 (fr.keep [2, 4, 7, 65, 66, 67]) m) [(2, .ptr ⟨b1, 0, none⟩), (4, .ptr ⟨b2, 0, none⟩), (7, .slice true (of.map fldIn)), (8, .int .i64 i), (65, .slice false (l.map valIn)), (66, .int .i64 (l.length : Int)), (67, .int .i64 i), (74, .slice false (e.n.map strAV)), (78, .agg [.int .i64 ((gI l i).kind), .int .i64 ((gI l i).n), .str ((gI l i).s), .slice false (((gI l i).l).map valIn), .slice false (((gI l i).f).map fldIn)])] (AMem.wth m [(b4, valO (gI l i)), (b2, zO), (b1, expO e)]) := by
     intro _
     subst hA
     refine AAny.step [72] [0, 3] (by decide +kernel) (by simp) (by decide) ⟨?_, ?_, trivial⟩
     ·
      show aopsR _ _ _ [_] _ _ _
      refine ⟨trivial, ?_⟩
      refine AAny.keep [2, 4, 7, 8, 65, 66, 67, 72, 74, 78] (by decide) ?_
      exact s15 trivial
     ·
      show aopsR _ _ _ [_] _ _ _
      refine ⟨trivial, ?_⟩
      refine AAny.keep [2, 4, 7, 65, 66, 67, 74, 75, 78] (by decide) ?_
      exact s18 trivial
    clear s15
    have s25 : ∀ (_ : True), A 8 #[false, true, false, true, false, false, true, false, false, false, false] (fun fr m => K1 (fr.keep [2, 4, 7, 65, 66, 67]) m) [(2, .ptr ⟨b1, 0, none⟩), (4, .ptr ⟨b2, 0, none⟩), (7, .slice true (of.map fldIn)), (65, .slice false (l.map valIn)), (66, .int .i64 (l.length : Int)), (67, .int .i64 i), (73, .ptr ⟨b1, 9, none⟩), (75, .int .i64 i), (78, .agg [.int .i64 ((gI l i).kind), .int .i64 ((gI l i).n), .str ((gI l i).s), .slice false (((gI l i).l).map valIn), .slice false (((gI l i).f).map fldIn)])] (AMem.wth m [(b4, valO (gI l i)), (b2, zO), (b1, expO e)]) := by
     intro _
     subst hA
     refine AAny.step [72] [0, 2] (by decide +kernel) (by simp) (by decide) ⟨?_, ?_, trivial⟩
     ·
      show aopsR _ _ _ [_] _ _ _
      refine ⟨trivial, ?_⟩
      refine AAny.keep [2, 4, 7, 65, 66, 67, 72, 73, 75, 78] (by decide) ?_
      exact s16 trivial
     ·
      show aopsR _ _ _ [_] _ _ _
      refine ar_loadp rfl (v := .slice false (e.n.map strAV)) rfl (wth_get 2 hNb4 rfl) rfl (apartOk_one rfl rfl (Nat.le_of_ble_eq_true rfl)) rfl ?_
      refine AAny.keep [2, 4, 7, 65, 66, 67, 74, 75, 78] (by decide) ?_
      exact s18 trivial
    clear s16 s18
    have s26 : ∀ (_ : True), A 9 #[true, true, false, false, false, false, false, false, false, false, false] (fun fr m => K1 (fr.keep [2, 4, 7, 65, 66, 67]) m) [(2, .ptr ⟨b1, 0, none⟩), (4, .ptr ⟨b2, 0, none⟩), (7, .slice false (of.map fldIn)), (8, .int .i64 i), (9, .ptr ⟨b4, 0, none⟩), (65, .slice false (l.map valIn)), (66, .int .i64 (l.length : Int)), (67, .int .i64 i), (72, .slice true (of.map fldIn)), (73, .ptr ⟨b1, 9, none⟩)] (AMem.wth m [(b4, valO (gI l i)), (b2, zO), (b1, expO e)]) := by
     intro _
     subst hA
     refine AAny.step [72] [2, 3, 6] (by decide +kernel) (by simp) (by decide) ⟨?_, ?_, ?_, trivial⟩
     ·
      show aopsR _ _ _ [_] _ _ _
      refine ar_loadp rfl (v := .slice false (e.n.map strAV)) rfl (wth_get 2 hNb4 rfl) rfl (apartOk_one rfl rfl (Nat.le_of_ble_eq_true rfl)) rfl ?_
      refine AAny.keep [2, 4, 7, 8, 9, 65, 66, 67, 72, 74] (by decide) ?_
      exact s19 trivial
     ·
      show aopsR _ _ _ [_] _ _ _
      refine ⟨trivial, ?_⟩
      refine AAny.keep [2, 4, 7, 9, 65, 66, 67, 72, 73, 75] (by decide) ?_
      exact s20 trivial
     ·
      show aopsR _ _ _ [_] _ _ _
      refine ar_loadp rfl (v := .agg [.int .i64 ((gI l i).kind), .int .i64 ((gI l i).n), .str ((gI l i).s), .slice false (((gI l i).l).map valIn), .slice false (((gI l i).f).map fldIn)]) rfl (wth_get 0 hNb4 rfl) rfl (apartOk_agg rfl rfl (Nat.le_of_ble_eq_true rfl)) rfl ?_
      refine AAny.keep [2, 4, 7, 8, 65, 66, 67, 72, 73, 78] (by decide) ?_
      exact s21 trivial
    have s27 : ∀ (_ : True), A 9 #[true, false, false, true, false, false, false, false, false, false, false] (fun fr m => K1 (fr.keep [2, 4, 7, 65, 66, 67]) m) [(2, .ptr ⟨b1, 0, none⟩), (4, .ptr ⟨b2, 0, none⟩), (7, .slice false (of.map fldIn)), (9, .ptr ⟨b4, 0, none⟩), (65, .slice false (l.map valIn)), (66, .int .i64 (l.length : Int)), (67, .int .i64 i), (72, .slice true (of.map fldIn)), (75, .int .i64 i)] (AMem.wth m [(b4, valO (gI l i)), (b2, zO), (b1, expO e)]) := by
     intro _
     subst hA
     refine AAny.step [72] [1, 6] (by decide +kernel) (by simp) (by decide) ⟨?_, ?_, trivial⟩
     ·
      show aopsR _ _ _ [_] _ _ _
      refine ⟨⟨rfl, by decide⟩, ?_⟩
      refine AAny.keep [2, 4, 7, 9, 65, 66, 67, 72, 73, 75] (by decide) ?_
      exact s20 trivial
     ·
      show aopsR _ _ _ [_] _ _ _
      refine ar_loadp rfl (v := .agg [.int .i64 ((gI l i).kind), .int .i64 ((gI l i).n), .str ((gI l i).s), .slice false (((gI l i).l).map valIn), .slice false (((gI l i).f).map fldIn)]) rfl (wth_get 0 hNb4 rfl) rfl (apartOk_agg rfl rfl (Nat.le_of_ble_eq_true rfl)) rfl ?_
      refine AAny.keep [2, 4, 7, 65, 66, 67, 72, 75, 78] (by decide) ?_
      exact s22 trivial
    have s28 : ∀ (_ : True), A 9 #[true, false, false, false, false, false, true, false, false, false, false] (fun fr m => K1 (fr.keep [2, 4, 7, 65, 66, 67]) m) [(2, .ptr ⟨b1, 0, none⟩), (4, .ptr ⟨b2, 0, none⟩), (7, .slice false (of.map fldIn)), (8, .int .i64 i), (65, .slice false (l.map valIn)), (66, .int .i64 (l.length : Int)), (67, .int .i64 i), (72, .slice true (of.map fldIn)), (78, .agg [.int .i64 ((gI l i).kind), .int .i64 ((gI l i).n), .str ((gI l i).s), .slice false (((gI l i).l).map valIn), .slice false (((gI l i).f).map fldIn)])] (AMem.wth m [(b4, valO (gI l i)), (b2, zO), (b1, expO e)]) := by
     intro _
     subst hA
     refine AAny.step [72] [1, 3] (by decide +kernel) (by simp) (by decide) ⟨?_, ?_, trivial⟩
     ·
      show aopsR _ _ _ [_] _ _ _
      refine ⟨⟨rfl, by decide⟩, ?_⟩
      refine AAny.keep [2, 4, 7, 8, 65, 66, 67, 72, 73, 78] (by decide) ?_
      exact s21 trivial
     ·
      show aopsR _ _ _ [_] _ _ _
      refine ⟨trivial, ?_⟩
      refine AAny.keep [2, 4, 7, 65, 66, 67, 72, 75, 78] (by decide) ?_
      exact s22 trivial
    have s29 : ∀ (_ : True), A 9 #[false, true, true, false, false, false, false, false, false, false, false] (fun fr m => K1 (fr.keep [2, 4, 7, 65, 66, 67]) m) [(2, .ptr ⟨b1, 0, none⟩), (4, .ptr ⟨b2, 0, none⟩), (7, .slice true (of.map fldIn)), (8, .int .i64 i), (9, .ptr ⟨b4, 0, none⟩), (65, .slice false (l.map valIn)), (66, .int .i64 (l.length : Int)), (67, .int .i64 i), (74, .slice false (e.n.map strAV))] (AMem.wth m [(b4, valO (gI l i)), (b2, zO), (b1, expO e)]) := by
     intro _
     subst hA
     refine AAny.step [72] [0, 3, 6] (by decide +kernel) (by simp) (by decide) ⟨?_, ?_, ?_, trivial⟩
     ·
      show aopsR _ _ _ [_] _ _ _
      refine ⟨trivial, ?_⟩
      refine AAny.keep [2, 4, 7, 8, 9, 65, 66, 67, 72, 74] (by decide) ?_
      exact s19 trivial
     ·
      show aopsR _ _ _ [_] _ _ _
      refine ⟨trivial, ?_⟩
      refine AAny.keep [2, 4, 7, 9, 65, 66, 67, 74, 75] (by decide) ?_
      exact s23 trivial
     ·
      show aopsR _ _ _ [_] _ _ _
      refine ar_loadp rfl (v := .agg [.int .i64 ((gI l i).kind), .int .i64 ((gI l i).n), .str ((gI l i).s), .slice false (((gI l i).l).map valIn), .slice false (((gI l i).f).map fldIn)]) rfl (wth_get 0 hNb4 rfl) rfl (apartOk_agg rfl rfl (Nat.le_of_ble_eq_true rfl)) rfl ?_
      refine AAny.keep [2, 4, 7, 8, 65, 66, 67, 74, 78] (by decide) ?_
      exact s24 trivial
    clear s19
    have s30 : ∀ (_ : True), A 9 #[false, true, false, true, false, false, false, false, false, false, false] (fun fr m => K1 (fr.keep [2, 4, 7, 65, 66, 67]) m) [(2, .ptr ⟨b1, 0, none⟩), (4, .ptr ⟨b2, 0, none⟩), (7, .slice true (of.map fldIn)), (9, .ptr ⟨b4, 0, none⟩), (65, .slice false (l.map valIn)), (66, .int .i64 (l.length : Int)), (67, .int .i64 i), (73, .ptr ⟨b1, 9, none⟩), (75, .int .i64 i)] (AMem.wth m [(b4, valO (gI l i)), (b2, zO), (b1, expO e)]) := by
     intro _
     subst hA
     refine AAny.step [72] [0, 2, 6] (by decide +kernel) (by simp) (by decide) ⟨?_, ?_, ?_, trivial⟩
     ·
      show aopsR _ _ _ [_] _ _ _
      refine ⟨trivial, ?_⟩
      refine AAny.keep [2, 4, 7, 9, 65, 66, 67, 72, 73, 75] (by decide) ?_
      exact s20 trivial
     ·
      show aopsR _ _ _ [_] _ _ _
      refine ar_loadp rfl (v := .slice false (e.n.map strAV)) rfl (wth_get 2 hNb4 rfl) rfl (apartOk_one rfl rfl (Nat.le_of_ble_eq_true rfl)) rfl ?_
      refine AAny.keep [2, 4, 7, 9, 65, 66, 67, 74, 75] (by decide) ?_
      exact s23 trivial
     ·
      show aopsR _ _ _ [_] _ _ _
      refine ar_loadp rfl (v := .agg [.int .i64 ((gI l i).kind), .int .i64 ((gI l i).n), .str ((gI l i).s), .slice false (((gI l i).l).map valIn), .slice false (((gI l i).f).map fldIn)]) rfl (wth_get 0 hNb4 rfl) rfl (apartOk_agg rfl rfl (Nat.le_of_ble_eq_true rfl)) rfl ?_
      refine AAny.keep [2, 4, 7, 65, 66, 67, 73, 75, 78] (by decide) ?_
      exact s25 trivial
    clear s20 s23
    have s31 : ∀ (_ : True), A 9 #[false, true, false, false, false, false, true, false, false, false, false] (fun fr m => K1 (fr.keep [2, 4, 7, 65, 66, 67]) m) [(2, .ptr ⟨b1, 0, none⟩), (4, .ptr ⟨b2, 0, none⟩), (7, .slice true (of.map fldIn)), (8, .int .i64 i), (65, .slice false (l.map valIn)), (66, .int .i64 (l.length : Int)), (67, .int .i64 i), (73, .ptr ⟨b1, 9, none⟩), (78, .agg [.int .i64 ((gI l i).kind), .int .i64 ((gI l i).n), .str ((gI l i).s), .slice false (((gI l i).l).map valIn), .slice false (((gI l i).f).map fldIn)])] (AMem.wth m [(b4, valO (gI l i)), (b2, zO), (b1, expO e)]) := by
     intro _
     subst hA
     refine AAny.step [72] [0, 2, 3] (by decide +kernel) (by simp) (by decide) ⟨?_, ?_, ?_, trivial⟩
     ·
      show aopsR _ _ _ [_] _ _ _
      refine ⟨trivial, ?_⟩
      refine AAny.keep [2, 4, 7, 8, 65, 66, 67, 72, 73, 78] (by decide) ?_
      exact s21 trivial
     ·
      show aopsR _ _ _ [_] _ _ _
      refine ar_loadp rfl (v := .slice false (e.n.map strAV)) rfl (wth_get 2 hNb4 rfl) rfl (apartOk_one rfl rfl (Nat.le_of_ble_eq_true rfl)) rfl ?_
      refine AAny.keep [2, 4, 7, 8, 65, 66, 67, 74, 78] (by decide) ?_
      exact s24 trivial
     ·
      show aopsR _ _ _ [_] _ _ _
      refine ⟨trivial, ?_⟩
      refine AAny.keep [2, 4, 7, 65, 66, 67, 73, 75, 78] (by decide) ?_
      exact s25 trivial
    clear s21 s24
    have s32 : ∀ (_ : True), A 9 #[false, false, false, true, false, false, true, false, false, false, false] (fun fr m => K1 (fr.keep [2, 4, 7, 65, 66, 67]) m) [(2, .ptr ⟨b1, 0, none⟩), (4, .ptr ⟨b2, 0, none⟩), (7, .slice true (of.map fldIn)), (65, .slice false (l.map valIn)), (66, .int .i64 (l.length : Int)), (67, .int .i64 i), (75, .int .i64 i), (78, .agg [.int .i64 ((gI l i).kind), .int .i64 ((gI l i).n), .str ((gI l i).s), .slice false (((gI l i).l).map valIn), .slice false (((gI l i).f).map fldIn)])] (AMem.wth m [(b4, valO (gI l i)), (b2, zO), (b1, expO e)]) := by
     intro _
     subst hA
     refine AAny.step [72] [0, 1] (by decide +kernel) (by simp) (by decide) ⟨?_, ?_, trivial⟩
     ·
      show aopsR _ _ _ [_] _ _ _
      refine ⟨trivial, ?_⟩
      refine AAny.keep [2, 4, 7, 65, 66, 67, 72, 75, 78] (by decide) ?_
      exact s22 trivial
     ·
      show aopsR _ _ _ [_] _ _ _
      refine ⟨⟨rfl, by decide⟩, ?_⟩
      refine AAny.keep [2, 4, 7, 65, 66, 67, 73, 75, 78] (by decide) ?_
      exact s25 trivial
    clear s22 s25
    have s33 : ∀ (_ : True), A 10 #[true, false, false, false, false, false, false, false, false, false, false] (fun fr m => K1 (fr.keep [2, 4, 7, 65, 66, 67]) m) [(2, .ptr ⟨b1, 0, none⟩), (4, .ptr ⟨b2, 0, none⟩), (7, .slice false (of.map fldIn)), (8, .int .i64 i), (9, .ptr ⟨b4, 0, none⟩), (65, .slice false (l.map valIn)), (66, .int .i64 (l.length : Int)), (67, .int .i64 i), (72, .slice true (of.map fldIn))] (AMem.wth m [(b4, valO (gI l i)), (b2, zO), (b1, expO e)]) := by
     intro _
     subst hA
     refine AAny.step [72] [1, 3, 6] (by decide +kernel) (by simp) (by decide) ⟨?_, ?_, ?_, trivial⟩
     ·
      show aopsR _ _ _ [_] _ _ _
      refine ⟨⟨rfl, by decide⟩, ?_⟩
      refine AAny.keep [2, 4, 7, 8, 9, 65, 66, 67, 72, 73] (by decide) ?_
      exact s26 trivial
     ·
      show aopsR _ _ _ [_] _ _ _
      refine ⟨trivial, ?_⟩
      refine AAny.keep [2, 4, 7, 9, 65, 66, 67, 72, 75] (by decide) ?_
      exact s27 trivial
     ·
      show aopsR _ _ _ [_] _ _ _
      refine ar_loadp rfl (v := .agg [.int .i64 ((gI l i).kind), .int .i64 ((gI l i).n), .str ((gI l i).s), .slice false (((gI l i).l).map valIn), .slice false (((gI l i).f).map fldIn)]) rfl (wth_get 0 hNb4 rfl) rfl (apartOk_agg rfl rfl (Nat.le_of_ble_eq_true rfl)) rfl ?_
      refine AAny.keep [2, 4, 7, 8, 65, 66, 67, 72, 78] (by decide) ?_
      exact s28 trivial
    have s34 : ∀ (_ : True), A 10 #[false, true, false, false, false, false, false, false, false, false, false] (fun fr m => K1 (fr.keep [2, 4, 7, 65, 66, 67]) m) [(2, .ptr ⟨b1, 0, none⟩), (4, .ptr ⟨b2, 0, none⟩), (7, .slice true (of.map fldIn)), (8, .int .i64 i), (9, .ptr ⟨b4, 0, none⟩), (65, .slice false (l.map valIn)), (66, .int .i64 (l.length : Int)), (67, .int .i64 i), (73, .ptr ⟨b1, 9, none⟩)] (AMem.wth m [(b4, valO (gI l i)), (b2, zO), (b1, expO e)]) := by
     intro _
     subst hA
     refine AAny.step [72] [0, 2, 3, 6] (by decide +kernel) (by simp) (by decide) ⟨?_, ?_, ?_, ?_, trivial⟩
     ·
      show aopsR _ _ _ [_] _ _ _
      refine ⟨trivial, ?_⟩
      refine AAny.keep [2, 4, 7, 8, 9, 65, 66, 67, 72, 73] (by decide) ?_
      exact s26 trivial
     ·
      show aopsR _ _ _ [_] _ _ _
      refine ar_loadp rfl (v := .slice false (e.n.map strAV)) rfl (wth_get 2 hNb4 rfl) rfl (apartOk_one rfl rfl (Nat.le_of_ble_eq_true rfl)) rfl ?_
      refine AAny.keep [2, 4, 7, 8, 9, 65, 66, 67, 74] (by decide) ?_
      exact s29 trivial
     ·
      show aopsR _ _ _ [_] _ _ _
      refine ⟨trivial, ?_⟩
      refine AAny.keep [2, 4, 7, 9, 65, 66, 67, 73, 75] (by decide) ?_
      exact s30 trivial
     ·
      show aopsR _ _ _ [_] _ _ _
      refine ar_loadp rfl (v := .agg [.int .i64 ((gI l i).kind), .int .i64 ((gI l i).n), .str ((gI l i).s), .slice false (((gI l i).l).map valIn), .slice false (((gI l i).f).map fldIn)]) rfl (wth_get 0 hNb4 rfl) rfl (apartOk_agg rfl rfl (Nat.le_of_ble_eq_true rfl)) rfl ?_
      refine AAny.keep [2, 4, 7, 8, 65, 66, 67, 73, 78] (by decide) ?_
      exact s31 trivial
    clear s26 s29
    have s35 : ∀ (_ : True), A 10 #[false, false, false, true, false, false, false, false, false, false, false] (fun fr m => K1 (fr.keep [2, 4, 7, 65, 66, 67]) m) [(2, .ptr ⟨b1, 0, none⟩), (4, .ptr ⟨b2, 0, none⟩), (7, .slice true (of.map fldIn)), (9, .ptr ⟨b4, 0, none⟩), (65, .slice false (l.map valIn)), (66, .int .i64 (l.length : Int)), (67, .int .i64 i), (75, .int .i64 i)] (AMem.wth m [(b4, valO (gI l i)), (b2, zO), (b1, expO e)]) := by
     intro _
     subst hA
     refine AAny.step [72] [0, 1, 6] (by decide +kernel) (by simp) (by decide) ⟨?_, ?_, ?_, trivial⟩
     ·
      show aopsR _ _ _ [_] _ _ _
      refine ⟨trivial, ?_⟩
      refine AAny.keep [2, 4, 7, 9, 65, 66, 67, 72, 75] (by decide) ?_
      exact s27 trivial
     ·
      show aopsR _ _ _ [_] _ _ _
      refine ⟨⟨rfl, by decide⟩, ?_⟩
      refine AAny.keep [2, 4, 7, 9, 65, 66, 67, 73, 75] (by decide) ?_
      exact s30 trivial
     ·
      show aopsR _ _ _ [_] _ _ _
      refine ar_loadp rfl (v := .agg [.int .i64 ((gI l i).kind), .int .i64 ((gI l i).n), .str ((gI l i).s), .slice false (((gI l i).l).map valIn), .slice false (((gI l i).f).map fldIn)]) rfl (wth_get 0 hNb4 rfl) rfl (apartOk_agg rfl rfl (Nat.le_of_ble_eq_true rfl)) rfl ?_
      refine AAny.keep [2, 4, 7, 65, 66, 67, 75, 78] (by decide) ?_
      exact s32 trivial
    clear s27 s30
    have s36 : ∀ (_ : True), A 10 #[false, false, false, false, false, false, true, false, false, false, false] (fun fr m => K1 (fr.keep [2, 4, 7, 65, 66, 67]) m) [(2, .ptr ⟨b1, 0, none⟩), (4, .ptr ⟨b2, 0, none⟩), (7, .slice true (of.map fldIn)), (8, .int .i64 i), (65, .slice false (l.map valIn)), (66, .int .i64 (l.length : Int)), (67, .int .i64 i), (78, .agg [.int .i64 ((gI l i).kind), .int .i64 ((gI l i).n), .str ((gI l i).s), .slice false (((gI l i).l).map valIn), .slice false (((gI l i).f).map fldIn)])] (AMem.wth m [(b4, valO (gI l i)), (b2, zO), (b1, expO e)]) := by
     intro _
     subst hA
     refine AAny.step [72] [0, 1, 3] (by decide +kernel) (by simp) (by decide) ⟨?_, ?_, ?_, trivial⟩
     ·
      show aopsR _ _ _ [_] _ _ _
      refine ⟨trivial, ?_⟩
      refine AAny.keep [2, 4, 7, 8, 65, 66, 67, 72, 78] (by decide) ?_
      exact s28 trivial
     ·
      show aopsR _ _ _ [_] _ _ _
      refine ⟨⟨rfl, by decide⟩, ?_⟩
      refine AAny.keep [2, 4, 7, 8, 65, 66, 67, 73, 78] (by decide) ?_
      exact s31 trivial
     ·
      show aopsR _ _ _ [_] _ _ _
      refine ⟨trivial, ?_⟩
      refine AAny.keep [2, 4, 7, 65, 66, 67, 75, 78] (by decide) ?_
      exact s32 trivial
    clear s28 s31 s32
    have s37 : ∀ (_ : True), A 11 #[false, false, false, false, false, false, false, false, false, false, false] (fun fr m => K1 (fr.keep [2, 4, 7, 65, 66, 67]) m) [(2, .ptr ⟨b1, 0, none⟩), (4, .ptr ⟨b2, 0, none⟩), (7, .slice true (of.map fldIn)), (8, .int .i64 i), (9, .ptr ⟨b4, 0, none⟩), (65, .slice false (l.map valIn)), (66, .int .i64 (l.length : Int)), (67, .int .i64 i)] (AMem.wth m [(b4, valO (gI l i)), (b2, zO), (b1, expO e)]) := by
     intro _
     subst hA
     refine AAny.step [72] [0, 1, 3, 6] (by decide +kernel) (by simp) (by decide) ⟨?_, ?_, ?_, ?_, trivial⟩
     ·
      show aopsR _ _ _ [_] _ _ _
      refine ⟨trivial, ?_⟩
      refine AAny.keep [2, 4, 7, 8, 9, 65, 66, 67, 72] (by decide) ?_
      exact s33 trivial
     ·
      show aopsR _ _ _ [_] _ _ _
      refine ⟨⟨rfl, by decide⟩, ?_⟩
      refine AAny.keep [2, 4, 7, 8, 9, 65, 66, 67, 73] (by decide) ?_
      exact s34 trivial
     ·
      show aopsR _ _ _ [_] _ _ _
      refine ⟨trivial, ?_⟩
      refine AAny.keep [2, 4, 7, 9, 65, 66, 67, 75] (by decide) ?_
      exact s35 trivial
     ·
      show aopsR _ _ _ [_] _ _ _
      refine ar_loadp rfl (v := .agg [.int .i64 ((gI l i).kind), .int .i64 ((gI l i).n), .str ((gI l i).s), .slice false (((gI l i).l).map valIn), .slice false (((gI l i).f).map fldIn)]) rfl (wth_get 0 hNb4 rfl) rfl (apartOk_agg rfl rfl (Nat.le_of_ble_eq_true rfl)) rfl ?_
      refine AAny.keep [2, 4, 7, 8, 65, 66, 67, 78] (by decide) ?_
      exact s36 trivial
    clear s33 s34 s35 s36
    exact s37 trivial
   intro _
   refine hK1 _ _ ?_; clear hK1 K1
   refine hK6 _ _ ?_; clear hK6
   have hNd1 : ([b2, b1] : List Nat).Nodup := drop_nodup (L := [(b4, valO (gI l i)), (b2, zO), (b1, expO e)]) hNb4 (pick_perm [0] _)
   refine awp_dropP [(b4, valO (gI l i))] [(b2, zO), (b1, expO e)] hNb4 (pick_perm [0] _) (by simp only [List.map_cons, List.map_nil, List.forall_mem_cons]; exact ⟨hFb4, fun _ h => by cases h⟩) ?_
   refine awp_reg2 [] [2, 4, 7, 65, 66, 67] (by decide) ?_
   intro K1 hK1
   refine ar_add rfl (a := i) (b := 1) rfl rfl (by omega) (by omega) ?_
   refine ⟨trivial, ?_⟩
   show K1 [(2, .ptr ⟨b1, 0, none⟩), (4, .ptr ⟨b2, 0, none⟩), (7, .slice true ((of ++ ([(⟨gI e.n i, (gI l i)⟩ : (Str × Val))] : List (Str × Val))).map fldIn)), (65, .slice false (l.map valIn)), (66, .int .i64 (l.length : Int)), (67, .int .i64 (i + 1))] (AMem.wth m [(b2, zO), (b1, expO e)])
   refine hK1 _ _ ?_; clear hK1 K1
   refine ⟨(of ++ ([(⟨gI e.n i, (gI l i)⟩ : (Str × Val))] : List (Str × Val)), i + 1), rfl, rfl, ?_, ?_⟩
   ·
    show 0 ≤ ((i + 1 : Int)) ∧ ((i + 1 : Int)) ≤ l.length ∧ ((of ++ ([(⟨gI e.n i, (gI l i)⟩ : (Str × Val))] : List (Str × Val)) : (List (Str × Val)))) = (e.n.zip l).take ((i + 1 : Int)).toNat
    exact ⟨by omega, by omega, by rw [take_succ_gI hI.1 (by rw [List.length_zip]; omega), ← hI.2.2, gI_zip hI.1 (by omega) (by omega)]⟩
   ·
    show l.length - ((i + 1 : Int)).toNat < l.length - i.toNat
    omega
  replace h9 : (l.length : Int) ≤ i := (Int.not_lt.1 (of_decide_eq_false h9))
  refine awp_exit ?_
  refine hK4 _ _ ?_; clear hK4
  refine awp_reg2_seq [] [4, 5] (by decide) ?_
  intro K1 hK1
  refine ⟨trivial, ⟨rfl, by simp only [List.forall_mem_cons]; exact ⟨rfl, rfl, rfl, rfl, rfl, fun _ h => by cases h⟩, by simp only [List.forall_mem_cons]; exact ⟨rfl, rfl, fun _ h => by cases h⟩⟩, ?_⟩
  refine ar_storep rfl 0 (v := .agg [.int .i64 5, .int .i64 0, .str ([]), .slice true [], .slice false (of.map fldIn)]) (l' := [.int .i64 5, .int .i64 0, .str ([]), .slice true [], .slice false (of.map fldIn)]) rfl rfl hNb2 rfl rfl rfl rfl rfl (Nat.le_of_ble_eq_true rfl) rfl ?_
  refine ⟨trivial, ?_⟩
  show K1 [(4, .ptr ⟨b2, 0, none⟩), (5, .nilIface)] (AMem.wth m [(b2, .cells [.int .i64 5, .int .i64 0, .str ([]), .slice true [], .slice false (of.map fldIn)]), (b1, expO e)])
  refine hK1 _ _ ?_; clear hK1 K1
  refine awp_toErr 67 [5] ?_
  show AWP _ _ _ _ [(4, .ptr ⟨b2, 0, none⟩), (5, .err 67 0)] (AMem.wth m [(b2, .cells [.int .i64 5, .int .i64 0, .str ([]), .slice true [], .slice false (of.map fldIn)]), (b1, expO e)])
  refine awp_ret ?_
  refine resK_cell2 (fn := Try.f25) (a := 4) (t := 25) (s := 5) (b := b2) (off := 0) rfl rfl (wth_get  (m := m) (L := [(b2, .cells [.int .i64 5, .int .i64 0, .str ([]), .slice true [], .slice false (of.map fldIn)]), (b1, expO e)]) 0 hNb2 rfl) (apartOk_agg rfl rfl (Nat.le_of_ble_eq_true rfl)) (.agg [.int .i64 5, .int .i64 0, .str ([]), .slice false [], .slice false (of.map fldIn)]) (.err 67 0) rfl rfl (.err 67 0) rfl m ((wth_sub2 (m := m) [(b2, .cells [.int .i64 5, .int .i64 0, .str ([]), .slice true [], .slice false (of.map fldIn)]), (b1, expO e)] [] hNb2 (by simp only [List.map_cons, List.map_nil, List.forall_mem_cons]; exact ⟨hFb2, hFb1, fun _ h => by cases h⟩))) ?_
  show K (.tuple [.agg [.int .i64 5, .int .i64 0, .str ([]), .slice false [], .slice false (of.map fldIn)], .err 67 0]) m
 
  have e0 : joinR e l = (((⟨5, 0, [], [], of⟩ : Val), 0) : Val × Int) := by
   unfold joinR
   simp only [zV]
   first | (rw [if_pos (by omega)]; done) | (rw [if_neg (by omega), if_pos (by omega)]; simp [*]; done) | (rw [if_neg (by omega), if_neg (by omega), if_pos (by omega)]; done) | (rw [if_neg (by omega), if_neg (by omega), if_neg (by omega), if_pos (by omega), hI.2.2, List.take_of_length_le (by rw [List.length_zip]; omega)]; done) | (rw [if_neg (by omega), if_neg (by omega), if_neg (by omega), if_neg (by omega), if_pos (by omega), if_pos (by assumption)]; done) | (rw [if_neg (by omega), if_neg (by omega), if_neg (by omega), if_neg (by omega), if_pos (by omega), if_neg (by simp [*])]; rfl) | (rw [if_neg (by omega), if_neg (by omega), if_neg (by omega), if_neg (by omega), if_neg (by omega)]; done)
  rw [e0] at hK
  exact hK
 replace h8 : (e.kind ≠ 9) ∨ ((e.n.length : Int) ≠ (l.length : Int)) := ((bandF h8).imp (fun q => (ne_of_beq_false q)) (fun q => (ne_of_beq_false q)))
 refine awp_reg2_seq [] [1, 2, 4, 85] (by decide) ?_
 intro K1 hK1
 suffices key : K1 [(1, .slice false (l.map valIn)), (2, .ptr ⟨b1, 0, none⟩), (4, .ptr ⟨b2, 0, none⟩), (85, .bool ((e.kind == 10) && ((l.length : Int) == 1)))] (AMem.wth m [(b2, zO), (b1, expO e)]) by
  refine ⟨⟨rfl, by decide⟩, ?_⟩
  refine ar_loadp rfl (v := .int .i64 e.kind) rfl (wth_get 1 hNb2 rfl) rfl (apartOk_one rfl rfl (Nat.le_of_ble_eq_true rfl)) rfl ?_
  refine ⟨trivial, trivial, ?_⟩
  show aopsR _ _ _ _ _ [(89, .bool (e.kind == 10)), (88, .bool (e.kind == 10)), (87, .int .i64 e.kind), (86, .ptr ⟨b1, 0, none⟩), (1, .slice false (l.map valIn)), (2, .ptr ⟨b1, 0, none⟩), (4, .ptr ⟨b2, 0, none⟩), (53, .bool ((e.kind == 9) && ((e.n.length : Int) == (l.length : Int))))] _
  revert key
  cases h10 : (e.kind == 10)
  ·
   replace h10 : e.kind ≠ 10 := (ne_of_beq_false h10)
   intro key
   refine ar_off rfl (ar_off rfl (ar_off rfl ?_))
   refine ⟨trivial, ?_⟩
   exact key
  ·
   replace h10 : e.kind = 10 := (eq_of_beq h10)
   intro key
   refine ⟨trivial, ?_⟩
   refine ar_len rfl valIn l rfl rfl rfl ?_
   refine ⟨trivial, ?_⟩
   refine ⟨trivial, ?_⟩
   exact key
 refine hK1 _ _ ?_; clear hK1 K1
 refine awp_cond rfl rfl (fun h11 => ?_) (fun h11 => ?_)
 ·
  replace h11 : (e.kind = 10) ∧ ((l.length : Int) = 1) := ⟨(eq_of_beq (bandL h11)), (eq_of_beq (bandR h11))⟩
  refine awp_seq_k ?_; intro K7 hK7
  refine awp_reg2_seq [] [1, 2, 4, 98] (by decide) ?_
  intro K1 hK1
  refine ⟨trivial, ?_⟩
  refine ar_index rfl valTop l 0 rfl rfl (valMap l) rfl rfl (by decide) (fun _ => rfl) (by omega) (by omega) ?_
  refine ⟨⟨rfl, by decide, (Nat.le_of_ble_eq_true rfl)⟩, (apartOk_one rfl rfl (Nat.le_of_ble_eq_true rfl)), trivial, ?_⟩
  show K1 [(1, .slice false (l.map valIn)), (2, .ptr ⟨b1, 0, none⟩), (4, .ptr ⟨b2, 0, none⟩), (98, .bool (!(((gI l 0).kind) == 5)))] (AMem.wth m [(b2, zO), (b1, expO e)])
  refine hK1 _ _ ?_; clear hK1 K1
  refine awp_cond rfl rfl (fun h12 => ?_) (fun h12 => ?_)
  ·
   replace h12 : (gI l 0).kind ≠ 5 := (ne_of_beq_false (bnT h12))
   refine awp_reg2_seq [] [4, 5] (by decide) ?_
   intro K1 hK1
   refine ⟨⟨rfl, by simp only [List.forall_mem_cons]; exact ⟨rfl, rfl, rfl, rfl, rfl, fun _ h => by cases h⟩, fun _ h => by cases h⟩, trivial, ?_⟩
   refine ar_storep rfl 0 (v := .agg [.int .i64 0, .int .i64 0, .str ([]), .slice true [], .slice true []]) (l' := [.int .i64 0, .int .i64 0, .str ([]), .slice true [], .slice true []]) rfl rfl hNb2 rfl rfl rfl rfl rfl (Nat.le_of_ble_eq_true rfl) rfl ?_
   refine ⟨trivial, ?_⟩
   show K1 [(4, .ptr ⟨b2, 0, none⟩), (5, .iface 67 (.int .i64 9))] (AMem.wth m [(b2, zO), (b1, expO e)])
   refine hK1 _ _ ?_; clear hK1 K1
   refine awp_toErr 67 [5] ?_
   show AWP _ _ _ _ [(4, .ptr ⟨b2, 0, none⟩), (5, .err 67 9)] (AMem.wth m [(b2, zO), (b1, expO e)])
   refine awp_ret ?_
   refine resK_cell2 (fn := Try.f25) (a := 4) (t := 25) (s := 5) (b := b2) (off := 0) rfl rfl (wth_get  (m := m) (L := [(b2, zO), (b1, expO e)]) 0 hNb2 rfl) (apartOk_agg rfl rfl (Nat.le_of_ble_eq_true rfl)) (.agg [.int .i64 0, .int .i64 0, .str ([]), .slice false [], .slice false []]) (.err 67 9) rfl rfl (.err 67 9) rfl m ((wth_sub2 (m := m) [(b2, zO), (b1, expO e)] [] hNb2 (by simp only [List.map_cons, List.map_nil, List.forall_mem_cons]; exact ⟨hFb2, hFb1, fun _ h => by cases h⟩))) ?_
   show K (.tuple [.agg [.int .i64 0, .int .i64 0, .str ([]), .slice false [], .slice false []], .err 67 9]) m
  
   have e0 : joinR e l = (((⟨0, 0, [], [], []⟩ : Val), 9) : Val × Int) := by
    unfold joinR
    simp only [zV]
    first | (rw [if_pos (by omega)]; done) | (rw [if_neg (by omega), if_pos (by omega)]; simp [*]; done) | (rw [if_neg (by omega), if_neg (by omega), if_pos (by omega)]; done) | (rw [if_neg (by omega), if_neg (by omega), if_neg (by omega), if_pos (by omega), hI.2.2, List.take_of_length_le (by rw [List.length_zip]; omega)]; done) | (rw [if_neg (by omega), if_neg (by omega), if_neg (by omega), if_neg (by omega), if_pos (by omega), if_pos (by assumption)]; done) | (rw [if_neg (by omega), if_neg (by omega), if_neg (by omega), if_neg (by omega), if_pos (by omega), if_neg (by simp [*])]; rfl) | (rw [if_neg (by omega), if_neg (by omega), if_neg (by omega), if_neg (by omega), if_neg (by omega)]; done)
   rw [e0] at hK
   exact hK
  replace h12 : (gI l 0).kind = 5 := (eq_of_beq (bnF h12))
  refine awp_skip ?_
  refine hK7 _ _ ?_; clear hK7
  refine awp_anyA_seq Try.mixed [4, 5] (by decide) ?_
  intro K1 hK1
  intro A hA
  suffices key : ∀ (_ : True), K1 [(4, .ptr ⟨b2, 0, none⟩), (5, .err 67 ((namedB ((mget (gI l 0).f e.s).getD zV) ((mget (gI l 0).f e.s).isSome)).2))] (AMem.wth m [(b2, valO ((namedB ((mget (gI l 0).f e.s).getD zV) ((mget (gI l 0).f e.s).isSome)).1)), (b1, expO e)]) by
   have s0 : ∀ (_ : True), A 0 #[true, true, true, true, true, true, true, true, true, true, true, true, true] (fun fr m => K1 (fr.keep [4, 5]) m) [(4, .ptr ⟨b2, 0, none⟩), (5, .err 67 ((namedB ((mget (gI l 0).f e.s).getD zV) ((mget (gI l 0).f e.s).isSome)).2))] (AMem.wth m [(b2, valO ((namedB ((mget (gI l 0).f e.s).getD zV) ((mget (gI l 0).f e.s).isSome)).1)), (b1, expO e)]) := by
    intro _
    subst hA
    exact AAny.done (by decide +kernel) (key trivial)
   have s1 : ∀ (_ : True), A 1 #[true, true, true, true, true, true, true, true, true, true, true, true, false] (fun fr m => K1 (fr.keep [4, 5]) m) [(4, .ptr ⟨b2, 0, none⟩), (111, .err 67 ((namedB ((mget (gI l 0).f e.s).getD zV) ((mget (gI l 0).f e.s).isSome)).2))] (AMem.wth m [(b2, valO ((namedB ((mget (gI l 0).f e.s).getD zV) ((mget (gI l 0).f e.s).isSome)).1)), (b1, expO e)]) := by
    intro _
    subst hA
    refine AAny.step [] [12] (by decide +kernel) (by simp) (by decide) ⟨?_, trivial⟩
    ·
     show aopsR _ _ _ [_] _ _ _
     refine ⟨trivial, ?_⟩
     refine AAny.keep [4, 5] (by decide) ?_
     exact s0 trivial
   clear s0
   have s2 : ∀ (_ : True), A 2 #[true, true, true, true, true, true, true, true, true, true, true, false, false] (fun fr m => K1 (fr.keep [4, 5]) m) [(4, .ptr ⟨b2, 0, none⟩), (110, valTop ((namedB ((mget (gI l 0).f e.s).getD zV) ((mget (gI l 0).f e.s).isSome)).1)), (111, .err 67 ((namedB ((mget (gI l 0).f e.s).getD zV) ((mget (gI l 0).f e.s).isSome)).2))] (AMem.wth m [(b2, zO), (b1, expO e)]) := by
    intro _
    subst hA
    refine AAny.step [] [11] (by decide +kernel) (by simp) (by decide) ⟨?_, trivial⟩
    ·
     show aopsR _ _ _ [_] _ _ _
     refine ar_storep rfl 0 (v := valTop ((namedB ((mget (gI l 0).f e.s).getD zV) ((mget (gI l 0).f e.s).isSome)).1)) (l' := [.int .i64 (((namedB ((mget (gI l 0).f e.s).getD zV) ((mget (gI l 0).f e.s).isSome)).1).kind), .int .i64 (((namedB ((mget (gI l 0).f e.s).getD zV) ((mget (gI l 0).f e.s).isSome)).1).n), .str (((namedB ((mget (gI l 0).f e.s).getD zV) ((mget (gI l 0).f e.s).isSome)).1).s), .slice false ((((namedB ((mget (gI l 0).f e.s).getD zV) ((mget (gI l 0).f e.s).isSome)).1).l).map valIn), .slice false ((((namedB ((mget (gI l 0).f e.s).getD zV) ((mget (gI l 0).f e.s).isSome)).1).f).map fldIn)]) rfl (by rfl) hNb2 rfl rfl rfl rfl rfl (Nat.le_of_ble_eq_true rfl) rfl ?_
     refine AAny.keep [4, 111] (by decide) ?_
     exact s1 trivial
   clear s1
   have s3 : ∀ (_ : True), A 3 #[true, true, true, true, true, true, true, true, true, true, false, false, false] (fun fr m => K1 (fr.keep [4, 5]) m) [(4, .ptr ⟨b2, 0, none⟩), (109, .tuple [valTop ((namedB ((mget (gI l 0).f e.s).getD zV) ((mget (gI l 0).f e.s).isSome)).1), .err 67 ((namedB ((mget (gI l 0).f e.s).getD zV) ((mget (gI l 0).f e.s).isSome)).2)]), (110, valTop ((namedB ((mget (gI l 0).f e.s).getD zV) ((mget (gI l 0).f e.s).isSome)).1))] (AMem.wth m [(b2, zO), (b1, expO e)]) := by
    intro _
    subst hA
    refine AAny.step [] [10] (by decide +kernel) (by simp) (by decide) ⟨?_, trivial⟩
    ·
     show aopsR _ _ _ [_] _ _ _
     refine ⟨(Nat.le_of_ble_eq_true rfl), ?_⟩
     refine AAny.keep [4, 110, 111] (by decide) ?_
     exact s2 trivial
   have s4 : ∀ (_ : True), A 3 #[true, true, true, true, true, true, true, true, true, false, true, false, false] (fun fr m => K1 (fr.keep [4, 5]) m) [(4, .ptr ⟨b2, 0, none⟩), (109, .tuple [valTop ((namedB ((mget (gI l 0).f e.s).getD zV) ((mget (gI l 0).f e.s).isSome)).1), .err 67 ((namedB ((mget (gI l 0).f e.s).getD zV) ((mget (gI l 0).f e.s).isSome)).2)]), (111, .err 67 ((namedB ((mget (gI l 0).f e.s).getD zV) ((mget (gI l 0).f e.s).isSome)).2))] (AMem.wth m [(b2, zO), (b1, expO e)]) := by
    intro _
    subst hA
    refine AAny.step [] [9] (by decide +kernel) (by simp) (by decide) ⟨?_, trivial⟩
    ·
     show aopsR _ _ _ [_] _ _ _
     refine ⟨(Nat.le_of_ble_eq_true rfl), ?_⟩
     refine AAny.keep [4, 110, 111] (by decide) ?_
     exact s2 trivial
   clear s2
   have s5 : ∀ (_ : True), A 4 #[true, true, true, true, true, true, true, true, true, false, false, false, false] (fun fr m => K1 (fr.keep [4, 5]) m) [(4, .ptr ⟨b2, 0, none⟩), (109, .tuple [valTop ((namedB ((mget (gI l 0).f e.s).getD zV) ((mget (gI l 0).f e.s).isSome)).1), .err 67 ((namedB ((mget (gI l 0).f e.s).getD zV) ((mget (gI l 0).f e.s).isSome)).2)])] (AMem.wth m [(b2, zO), (b1, expO e)]) := by
    intro _
    subst hA
    refine AAny.step [] [9, 10] (by decide +kernel) (by simp) (by decide) ⟨?_, ?_, trivial⟩
    ·
     show aopsR _ _ _ [_] _ _ _
     refine ⟨(Nat.le_of_ble_eq_true rfl), ?_⟩
     refine AAny.keep [4, 109, 110] (by decide) ?_
     exact s3 trivial
    ·
     show aopsR _ _ _ [_] _ _ _
     refine ⟨(Nat.le_of_ble_eq_true rfl), ?_⟩
     refine AAny.keep [4, 109, 111] (by decide) ?_
     exact s4 trivial
   clear s3 s4
   have s6 : ∀ (_ : True), A 5 #[true, true, true, true, true, true, true, true, false, false, false, false, false] (fun fr m => K1 (fr.keep [4, 5]) m) [(4, .ptr ⟨b2, 0, none⟩), (107, valTop ((mget (gI l 0).f e.s).getD zV)), (108, .bool ((mget (gI l 0).f e.s).isSome))] (AMem.wth m [(b2, zO), (b1, expO e)]) := by
    intro _
    subst hA
    refine AAny.step [] [8] (by decide +kernel) (by simp) (by decide) ⟨?_, trivial⟩
    ·
     show aopsR _ _ _ [_] _ _ _
     refine u_named ((mget (gI l 0).f e.s).getD zV) ((mget (gI l 0).f e.s).isSome) (okV_get ((okV_iff _).1 (chk_okV (hl _ (gI_mem (l := l) (i := 0) (by omega) (by omega))))).2.2 _) _ _ ?_
     refine AAny.keep [4, 109] (by decide) ?_
     exact s5 trivial
   clear s5
   have s7 : ∀ (_ : True), A 6 #[true, true, true, true, true, true, true, false, false, false, false, false, false] (fun fr m => K1 (fr.keep [4, 5]) m) [(4, .ptr ⟨b2, 0, none⟩), (106, .tuple [valTop ((mget (gI l 0).f e.s).getD zV), .bool ((mget (gI l 0).f e.s).isSome)]), (107, valTop ((mget (gI l 0).f e.s).getD zV))] (AMem.wth m [(b2, zO), (b1, expO e)]) := by
    intro _
    subst hA
    refine AAny.step [] [7] (by decide +kernel) (by simp) (by decide) ⟨?_, trivial⟩
    ·
     show aopsR _ _ _ [_] _ _ _
     refine ⟨(Nat.le_of_ble_eq_true rfl), ?_⟩
     refine AAny.keep [4, 107, 108] (by decide) ?_
     exact s6 trivial
   have s8 : ∀ (_ : True), A 6 #[true, true, true, true, true, true, false, true, false, false, false, false, false] (fun fr m => K1 (fr.keep [4, 5]) m) [(4, .ptr ⟨b2, 0, none⟩), (106, .tuple [valTop ((mget (gI l 0).f e.s).getD zV), .bool ((mget (gI l 0).f e.s).isSome)]), (108, .bool ((mget (gI l 0).f e.s).isSome))] (AMem.wth m [(b2, zO), (b1, expO e)]) := by
    intro _
    subst hA
    refine AAny.step [] [6] (by decide +kernel) (by simp) (by decide) ⟨?_, trivial⟩
    ·
     show aopsR _ _ _ [_] _ _ _
     refine ⟨(Nat.le_of_ble_eq_true rfl), ?_⟩
     refine AAny.keep [4, 107, 108] (by decide) ?_
     exact s6 trivial
   clear s6
   have s9 : ∀ (_ : True), A 7 #[true, true, true, true, true, true, false, false, false, false, false, false, false] (fun fr m => K1 (fr.keep [4, 5]) m) [(4, .ptr ⟨b2, 0, none⟩), (106, .tuple [valTop ((mget (gI l 0).f e.s).getD zV), .bool ((mget (gI l 0).f e.s).isSome)])] (AMem.wth m [(b2, zO), (b1, expO e)]) := by
    intro _
    subst hA
    refine AAny.step [] [6, 7] (by decide +kernel) (by simp) (by decide) ⟨?_, ?_, trivial⟩
    ·
     show aopsR _ _ _ [_] _ _ _
     refine ⟨(Nat.le_of_ble_eq_true rfl), ?_⟩
     refine AAny.keep [4, 106, 107] (by decide) ?_
     exact s7 trivial
    ·
     show aopsR _ _ _ [_] _ _ _
     refine ⟨(Nat.le_of_ble_eq_true rfl), ?_⟩
     refine AAny.keep [4, 106, 108] (by decide) ?_
     exact s8 trivial
   clear s7 s8
   have s10 : ∀ (_ : True), A 8 #[true, true, true, true, true, false, false, false, false, false, false, false, false] (fun fr m => K1 (fr.keep [4, 5]) m) [(4, .ptr ⟨b2, 0, none⟩), (103, valTop (gI l 0)), (105, .str e.s)] (AMem.wth m [(b2, zO), (b1, expO e)]) := by
    intro _
    subst hA
    refine AAny.step [] [5] (by decide +kernel) (by simp) (by decide) ⟨?_, trivial⟩
    ·
     show aopsR _ _ _ [_] _ _ _
     refine u_Get (gI l 0) e.s _ _ ?_
     refine AAny.keep [4, 106] (by decide) ?_
     exact s9 trivial
   clear s9
   have s11 : ∀ (_ : True), A 9 #[true, true, true, true, false, false, false, false, false, false, false, false, false] (fun fr m => K1 (fr.keep [4, 5]) m) [(4, .ptr ⟨b2, 0, none⟩), (103, valTop (gI l 0)), (104, .ptr ⟨b1, 6, none⟩)] (AMem.wth m [(b2, zO), (b1, expO e)]) := by
    intro _
    subst hA
    refine AAny.step [] [4] (by decide +kernel) (by simp) (by decide) ⟨?_, trivial⟩
    ·
     show aopsR _ _ _ [_] _ _ _
     refine ar_loadp rfl (v := .str e.s) rfl (wth_get 1 hNb2 rfl) rfl (apartOk_one rfl rfl (Nat.le_of_ble_eq_true rfl)) rfl ?_
     refine AAny.keep [4, 103, 105] (by decide) ?_
     exact s10 trivial
   have s12 : ∀ (_ : True), A 9 #[true, true, false, true, true, false, false, false, false, false, false, false, false] (fun fr m => K1 (fr.keep [4, 5]) m) [(4, .ptr ⟨b2, 0, none⟩), (102, .ref (AV.cells (valTop (gI l 0)))), (105, .str e.s)] (AMem.wth m [(b2, zO), (b1, expO e)]) := by
    intro _
    subst hA
    refine AAny.step [] [2] (by decide +kernel) (by simp) (by decide) ⟨?_, trivial⟩
    ·
     show aopsR _ _ _ [_] _ _ _
     refine ⟨(apartOk_agg rfl rfl (Nat.le_of_ble_eq_true rfl)), ?_⟩
     refine AAny.keep [4, 103, 105] (by decide) ?_
     exact s10 trivial
   clear s10
   have s13 : ∀ (_ : True), A 10 #[true, true, true, false, false, false, false, false, false, false, false, false, false] (fun fr m => K1 (fr.keep [4, 5]) m) [(2, .ptr ⟨b1, 0, none⟩), (4, .ptr ⟨b2, 0, none⟩), (103, valTop (gI l 0))] (AMem.wth m [(b2, zO), (b1, expO e)]) := by
    intro _
    subst hA
    refine AAny.step [] [3] (by decide +kernel) (by simp) (by decide) ⟨?_, trivial⟩
    ·
     show aopsR _ _ _ [_] _ _ _
     refine ⟨⟨rfl, by decide⟩, ?_⟩
     refine AAny.keep [4, 103, 104] (by decide) ?_
     exact s11 trivial
   have s14 : ∀ (_ : True), A 10 #[true, true, false, true, false, false, false, false, false, false, false, false, false] (fun fr m => K1 (fr.keep [4, 5]) m) [(4, .ptr ⟨b2, 0, none⟩), (102, .ref (AV.cells (valTop (gI l 0)))), (104, .ptr ⟨b1, 6, none⟩)] (AMem.wth m [(b2, zO), (b1, expO e)]) := by
    intro _
    subst hA
    refine AAny.step [] [2, 4] (by decide +kernel) (by simp) (by decide) ⟨?_, ?_, trivial⟩
    ·
     show aopsR _ _ _ [_] _ _ _
     refine ⟨(apartOk_agg rfl rfl (Nat.le_of_ble_eq_true rfl)), ?_⟩
     refine AAny.keep [4, 103, 104] (by decide) ?_
     exact s11 trivial
    ·
     show aopsR _ _ _ [_] _ _ _
     refine ar_loadp rfl (v := .str e.s) rfl (wth_get 1 hNb2 rfl) rfl (apartOk_one rfl rfl (Nat.le_of_ble_eq_true rfl)) rfl ?_
     refine AAny.keep [4, 102, 105] (by decide) ?_
     exact s12 trivial
   clear s11
   have s15 : ∀ (_ : True), A 10 #[true, false, false, true, true, false, false, false, false, false, false, false, false] (fun fr m => K1 (fr.keep [4, 5]) m) [(4, .ptr ⟨b2, 0, none⟩), (101, .slice false (l.map valIn)), (105, .str e.s)] (AMem.wth m [(b2, zO), (b1, expO e)]) := by
    intro _
    subst hA
    refine AAny.step [] [1] (by decide +kernel) (by simp) (by decide) ⟨?_, trivial⟩
    ·
     show aopsR _ _ _ [_] _ _ _
     refine ar_index rfl valTop l 0 rfl rfl (valMap l) rfl rfl (by decide) (fun _ => rfl) (by omega) (by omega) ?_
     refine AAny.keep [4, 102, 105] (by decide) ?_
     exact s12 trivial
   clear s12
   have s16 : ∀ (_ : True), A 11 #[true, true, false, false, false, false, false, false, false, false, false, false, false] (fun fr m => K1 (fr.keep [4, 5]) m) [(2, .ptr ⟨b1, 0, none⟩), (4, .ptr ⟨b2, 0, none⟩), (102, .ref (AV.cells (valTop (gI l 0))))] (AMem.wth m [(b2, zO), (b1, expO e)]) := by
    intro _
    subst hA
    refine AAny.step [] [2, 3] (by decide +kernel) (by simp) (by decide) ⟨?_, ?_, trivial⟩
    ·
     show aopsR _ _ _ [_] _ _ _
     refine ⟨(apartOk_agg rfl rfl (Nat.le_of_ble_eq_true rfl)), ?_⟩
     refine AAny.keep [2, 4, 103] (by decide) ?_
     exact s13 trivial
    ·
     show aopsR _ _ _ [_] _ _ _
     refine ⟨⟨rfl, by decide⟩, ?_⟩
     refine AAny.keep [4, 102, 104] (by decide) ?_
     exact s14 trivial
   clear s13
   have s17 : ∀ (_ : True), A 11 #[true, false, false, true, false, false, false, false, false, false, false, false, false] (fun fr m => K1 (fr.keep [4, 5]) m) [(4, .ptr ⟨b2, 0, none⟩), (101, .slice false (l.map valIn)), (104, .ptr ⟨b1, 6, none⟩)] (AMem.wth m [(b2, zO), (b1, expO e)]) := by
    intro _
    subst hA
    refine AAny.step [] [1, 4] (by decide +kernel) (by simp) (by decide) ⟨?_, ?_, trivial⟩
    ·
     show aopsR _ _ _ [_] _ _ _
     refine ar_index rfl valTop l 0 rfl rfl (valMap l) rfl rfl (by decide) (fun _ => rfl) (by omega) (by omega) ?_
     refine AAny.keep [4, 102, 104] (by decide) ?_
     exact s14 trivial
    ·
     show aopsR _ _ _ [_] _ _ _
     refine ar_loadp rfl (v := .str e.s) rfl (wth_get 1 hNb2 rfl) rfl (apartOk_one rfl rfl (Nat.le_of_ble_eq_true rfl)) rfl ?_
     refine AAny.keep [4, 101, 105] (by decide) ?_
     exact s15 trivial
   clear s14
   have s18 : ∀ (_ : True), A 11 #[false, false, false, true, true, false, false, false, false, false, false, false, false] (fun fr m => K1 (fr.keep [4, 5]) m) [(1, .slice false (l.map valIn)), (4, .ptr ⟨b2, 0, none⟩), (105, .str e.s)] (AMem.wth m [(b2, zO), (b1, expO e)]) := by
    intro _
    subst hA
    refine AAny.step [] [0] (by decide +kernel) (by simp) (by decide) ⟨?_, trivial⟩
    ·
     show aopsR _ _ _ [_] _ _ _
     refine ⟨trivial, ?_⟩
     refine AAny.keep [4, 101, 105] (by decide) ?_
     exact s15 trivial
   clear s15
   have s19 : ∀ (_ : True), A 12 #[true, false, false, false, false, false, false, false, false, false, false, false, false] (fun fr m => K1 (fr.keep [4, 5]) m) [(2, .ptr ⟨b1, 0, none⟩), (4, .ptr ⟨b2, 0, none⟩), (101, .slice false (l.map valIn))] (AMem.wth m [(b2, zO), (b1, expO e)]) := by
    intro _
    subst hA
    refine AAny.step [] [1, 3] (by decide +kernel) (by simp) (by decide) ⟨?_, ?_, trivial⟩
    ·
     show aopsR _ _ _ [_] _ _ _
     refine ar_index rfl valTop l 0 rfl rfl (valMap l) rfl rfl (by decide) (fun _ => rfl) (by omega) (by omega) ?_
     refine AAny.keep [2, 4, 102] (by decide) ?_
     exact s16 trivial
    ·
     show aopsR _ _ _ [_] _ _ _
     refine ⟨⟨rfl, by decide⟩, ?_⟩
     refine AAny.keep [4, 101, 104] (by decide) ?_
     exact s17 trivial
   clear s16
   have s20 : ∀ (_ : True), A 12 #[false, false, false, true, false, false, false, false, false, false, false, false, false] (fun fr m => K1 (fr.keep [4, 5]) m) [(1, .slice false (l.map valIn)), (4, .ptr ⟨b2, 0, none⟩), (104, .ptr ⟨b1, 6, none⟩)] (AMem.wth m [(b2, zO), (b1, expO e)]) := by
    intro _
    subst hA
    refine AAny.step [] [0, 4] (by decide +kernel) (by simp) (by decide) ⟨?_, ?_, trivial⟩
    ·
     show aopsR _ _ _ [_] _ _ _
     refine ⟨trivial, ?_⟩
     refine AAny.keep [4, 101, 104] (by decide) ?_
     exact s17 trivial
    ·
     show aopsR _ _ _ [_] _ _ _
     refine ar_loadp rfl (v := .str e.s) rfl (wth_get 1 hNb2 rfl) rfl (apartOk_one rfl rfl (Nat.le_of_ble_eq_true rfl)) rfl ?_
     refine AAny.keep [1, 4, 105] (by decide) ?_
     exact s18 trivial
   clear s17 s18
   have s21 : ∀ (_ : True), A 13 #[false, false, false, false, false, false, false, false, false, false, false, false, false] (fun fr m => K1 (fr.keep [4, 5]) m) [(1, .slice false (l.map valIn)), (2, .ptr ⟨b1, 0, none⟩), (4, .ptr ⟨b2, 0, none⟩), (98, .bool (!(((gI l 0).kind) == 5)))] (AMem.wth m [(b2, zO), (b1, expO e)]) := by
    intro _
    subst hA
    refine AAny.step [] [0, 3] (by decide +kernel) (by simp) (by decide) ⟨?_, ?_, trivial⟩
    ·
     show aopsR _ _ _ [_] _ _ _
     refine ⟨trivial, ?_⟩
     refine AAny.keep [2, 4, 101] (by decide) ?_
     exact s19 trivial
    ·
     show aopsR _ _ _ [_] _ _ _
     refine ⟨⟨rfl, by decide⟩, ?_⟩
     refine AAny.keep [1, 4, 104] (by decide) ?_
     exact s20 trivial
   clear s19 s20
   exact s21 trivial
  intro _
  refine hK1 _ _ ?_; clear hK1 K1
  refine awp_ret ?_
  refine resK_cell2 (fn := Try.f25) (a := 4) (t := 25) (s := 5) (b := b2) (off := 0) rfl rfl (wth_get  (m := m) (L := [(b2, valO ((namedB ((mget (gI l 0).f e.s).getD zV) ((mget (gI l 0).f e.s).isSome)).1)), (b1, expO e)]) 0 hNb2 rfl) (apartOk_agg rfl rfl (Nat.le_of_ble_eq_true rfl)) (.agg [.int .i64 (((namedB ((mget (gI l 0).f e.s).getD zV) ((mget (gI l 0).f e.s).isSome)).1).kind), .int .i64 (((namedB ((mget (gI l 0).f e.s).getD zV) ((mget (gI l 0).f e.s).isSome)).1).n), .str (((namedB ((mget (gI l 0).f e.s).getD zV) ((mget (gI l 0).f e.s).isSome)).1).s), .slice false ((((namedB ((mget (gI l 0).f e.s).getD zV) ((mget (gI l 0).f e.s).isSome)).1).l).map valIn), .slice false ((((namedB ((mget (gI l 0).f e.s).getD zV) ((mget (gI l 0).f e.s).isSome)).1).f).map fldIn)]) (.err 67 ((namedB ((mget (gI l 0).f e.s).getD zV) ((mget (gI l 0).f e.s).isSome)).2)) rfl rfl (.err 67 ((namedB ((mget (gI l 0).f e.s).getD zV) ((mget (gI l 0).f e.s).isSome)).2)) rfl m ((wth_sub2 (m := m) [(b2, valO ((namedB ((mget (gI l 0).f e.s).getD zV) ((mget (gI l 0).f e.s).isSome)).1)), (b1, expO e)] [] hNb2 (by simp only [List.map_cons, List.map_nil, List.forall_mem_cons]; exact ⟨hFb2, hFb1, fun _ h => by cases h⟩))) ?_
  show K (.tuple [.agg [.int .i64 (((namedB ((mget (gI l 0).f e.s).getD zV) ((mget (gI l 0).f e.s).isSome)).1).kind), .int .i64 (((namedB ((mget (gI l 0).f e.s).getD zV) ((mget (gI l 0).f e.s).isSome)).1).n), .str (((namedB ((mget (gI l 0).f e.s).getD zV) ((mget (gI l 0).f e.s).isSome)).1).s), .slice false ((((namedB ((mget (gI l 0).f e.s).getD zV) ((mget (gI l 0).f e.s).isSome)).1).l).map valIn), .slice false ((((namedB ((mget (gI l 0).f e.s).getD zV) ((mget (gI l 0).f e.s).isSome)).1).f).map fldIn)], .err 67 ((namedB ((mget (gI l 0).f e.s).getD zV) ((mget (gI l 0).f e.s).isSome)).2)]) m
 
  have e0 : joinR e l = ((((namedB ((mget (gI l 0).f e.s).getD zV) ((mget (gI l 0).f e.s).isSome)).1), (namedB ((mget (gI l 0).f e.s).getD zV) ((mget (gI l 0).f e.s).isSome)).2) : Val × Int) := by
   unfold joinR
   simp only [zV]
   first | (rw [if_pos (by omega)]; done) | (rw [if_neg (by omega), if_pos (by omega)]; simp [*]; done) | (rw [if_neg (by omega), if_neg (by omega), if_pos (by omega)]; done) | (rw [if_neg (by omega), if_neg (by omega), if_neg (by omega), if_pos (by omega), hI.2.2, List.take_of_length_le (by rw [List.length_zip]; omega)]; done) | (rw [if_neg (by omega), if_neg (by omega), if_neg (by omega), if_neg (by omega), if_pos (by omega), if_pos (by assumption)]; done) | (rw [if_neg (by omega), if_neg (by omega), if_neg (by omega), if_neg (by omega), if_pos (by omega), if_neg (by simp [*])]; rfl) | (rw [if_neg (by omega), if_neg (by omega), if_neg (by omega), if_neg (by omega), if_neg (by omega)]; done)
  rw [e0] at hK
  exact hK
 replace h11 : (e.kind ≠ 10) ∨ ((l.length : Int) ≠ 1) := ((bandF h11).imp (fun q => (ne_of_beq_false q)) (fun q => (ne_of_beq_false q)))
 refine awp_skip ?_
 refine hK2 _ _ ?_; clear hK2
 refine awp_reg2_seq [] [4, 5] (by decide) ?_
 intro K1 hK1
 refine ⟨⟨rfl, by simp only [List.forall_mem_cons]; exact ⟨rfl, rfl, rfl, rfl, rfl, fun _ h => by cases h⟩, fun _ h => by cases h⟩, trivial, ?_⟩
 refine ar_storep rfl 0 (v := .agg [.int .i64 0, .int .i64 0, .str ([]), .slice true [], .slice true []]) (l' := [.int .i64 0, .int .i64 0, .str ([]), .slice true [], .slice true []]) rfl rfl hNb2 rfl rfl rfl rfl rfl (Nat.le_of_ble_eq_true rfl) rfl ?_
 refine ⟨trivial, ?_⟩
 show K1 [(4, .ptr ⟨b2, 0, none⟩), (5, .iface 67 (.int .i64 3))] (AMem.wth m [(b2, zO), (b1, expO e)])
 refine hK1 _ _ ?_; clear hK1 K1
 refine awp_toErr 67 [5] ?_
 show AWP _ _ _ _ [(4, .ptr ⟨b2, 0, none⟩), (5, .err 67 3)] (AMem.wth m [(b2, zO), (b1, expO e)])
 refine awp_ret ?_
 refine resK_cell2 (fn := Try.f25) (a := 4) (t := 25) (s := 5) (b := b2) (off := 0) rfl rfl (wth_get  (m := m) (L := [(b2, zO), (b1, expO e)]) 0 hNb2 rfl) (apartOk_agg rfl rfl (Nat.le_of_ble_eq_true rfl)) (.agg [.int .i64 0, .int .i64 0, .str ([]), .slice false [], .slice false []]) (.err 67 3) rfl rfl (.err 67 3) rfl m ((wth_sub2 (m := m) [(b2, zO), (b1, expO e)] [] hNb2 (by simp only [List.map_cons, List.map_nil, List.forall_mem_cons]; exact ⟨hFb2, hFb1, fun _ h => by cases h⟩))) ?_
 show K (.tuple [.agg [.int .i64 0, .int .i64 0, .str ([]), .slice false [], .slice false []], .err 67 3]) m

 have e0 : joinR e l = (((⟨0, 0, [], [], []⟩ : Val), 3) : Val × Int) := by
  unfold joinR
  simp only [zV]
  first | (rw [if_pos (by omega)]; done) | (rw [if_neg (by omega), if_pos (by omega)]; simp [*]; done) | (rw [if_neg (by omega), if_neg (by omega), if_pos (by omega)]; done) | (rw [if_neg (by omega), if_neg (by omega), if_neg (by omega), if_pos (by omega), hI.2.2, List.take_of_length_le (by rw [List.length_zip]; omega)]; done) | (rw [if_neg (by omega), if_neg (by omega), if_neg (by omega), if_neg (by omega), if_pos (by omega), if_pos (by assumption)]; done) | (rw [if_neg (by omega), if_neg (by omega), if_neg (by omega), if_neg (by omega), if_pos (by omega), if_neg (by simp [*])]; rfl) | (rw [if_neg (by omega), if_neg (by omega), if_neg (by omega), if_neg (by omega), if_neg (by omega)]; done)
 rw [e0] at hK
 exact hK

end Go.Proofs

import Derived.Test.YtoeghipbkmaccaaProg
import Derived.Test.YtoeghipbkmaccaaWl8
import Derived.Test.YtoeghipbkmaccaaWxw
import Derived.Test.YtoeghipbkmaccaaCl3
section
namespace Go.Proofs
open Go Go.Aw
set_option maxRecDepth 100000


theorem sortT_take {zs : List Thg} {k : Nat} (h : k ≤ zs.length) : (sortT (zs.take k) ++ zs.drop k).take k = sortT (zs.take k) := by
  have hl : (sortT (zs.take k)).length = k := by rw [sortT_len, List.length_take]; omega
  rw [List.take_append_of_le_length (by omega), List.take_of_length_le (by omega)]
theorem sortT_of_perm {l l' : List Thg} (hp : l.Perm l') (hn : (l'.map Thg.id).Nodup) : sortT l = sortT l' := by
  refine sortT_eq ((List.mergeSort_perm l _).trans hp) ?_ hn
  have to : ∀ a b : Thg, (decide (a.id ≤ b.id) || decide (b.id ≤ a.id)) = true := fun a b => by
    rcases Int.le_total a.id b.id with h | h <;> simp [h]
  have tr : ∀ a b c : Thg, decide (a.id ≤ b.id) = true → decide (b.id ≤ c.id) = true → decide (a.id ≤ c.id) = true := fun a b c h1 h2 => by
    simp only [decide_eq_true_eq] at *; omega
  exact (List.pairwise_mergeSort tr to l).imp fun h => by simpa using h
theorem allT_nil {c : ClSt} (hE : ∀ k, k < c.things.length → k ∈ ([] : List Nat)) : allT c = [] := by
  have hz : c.things = [] := by
    rcases hq : c.things with _ | ⟨p, r⟩
    · rfl
    · exact absurd (hE 0 (by rw [hq]; simp)) (by simp)
  unfold allT
  rw [hz]; simp [sortT]
theorem ids_nodup {l : List (Int × Thg)} (hn : (l.map Prod.fst).Nodup) (hi : ∀ p ∈ l, p.2.id = p.1) : ((l.map Prod.snd).map Thg.id).Nodup := by
  have e : (l.map Prod.snd).map Thg.id = l.map Prod.fst := by
    rw [List.map_map]
    exact List.map_congr_left fun p hp => hi p hp
  rw [e]; exact hn
theorem thgsAt_nd {l : List (Int × Thg)} {seen : List Nat} (hn : (l.map Prod.fst).Nodup) (hi : ∀ p ∈ l, p.2.id = p.1) (h1 : seen.Nodup) (h2 : ∀ i ∈ seen, i < l.length) : ((thgsAt l seen).map Thg.id).Nodup := by
  have e : (thgsAt l seen).map Thg.id = seen.map (fun i => (l.getD i (0, zT)).1) := by
    unfold thgsAt
    rw [List.map_map]
    refine List.map_congr_left fun i hi2 => ?_
    have h3 := h2 i hi2
    have := hi l[i] (List.getElem_mem h3)
    simpa [List.getD_eq_getElem?_getD, h3] using this
  rw [e]
  refine List.pairwise_map.2 (List.Pairwise.imp_of_mem (fun {i j} hi2 hj2 hne hij => hne ?_) h1)
  have h3 := h2 i hi2
  have h4 := h2 j hj2
  have h5 : (l.map Prod.fst)[i]'(by simpa using h3) = (l.map Prod.fst)[j]'(by simpa using h4) := by simpa [List.getD_eq_getElem?_getD, h3, h4] using hij
  exact (List.getElem_inj hn).1 h5

set_option maxHeartbeats 4000000 in
theorem u_All (x d tb ob fb : Nat) (c : ClSt) (hN : [x, tb].Nodup) (htl : c.things.length ≤ 1000000) (hnd : (c.things.map Prod.fst).Nodup) (hids : ∀ p ∈ c.things, p.2.id = p.1 ∧ (1 ≤ p.1 ∧ p.1 ≤ 1000000) ∧ chk p.2.v = 0) (m : AMem)  (K : AV → AMem → Prop) (hK : K (.slice false ((allT c).map thgAV)) (AMem.wth m [(x, cObj d tb ob fb c), (tb, tObj c.things)])) : ACalls Try.prog 62 [.ptr ⟨x, 0, none⟩] (AMem.wth m [(x, cObj d tb ob fb c), (tb, tObj c.things)]) K := by
 refine acalls_enter Try.func62 rfl (by decide) (Nat.le_of_ble_eq_true rfl) ?_
 show AWP _ _ _ _ [(0, .ptr ⟨x, 0, none⟩)] (AMem.wth m [(x, cObj d tb ob fb c), (tb, tObj c.things)])
 refine awp_reg2_seq [] [0] (by decide) ?_
 intro K1 hK1
 refine ⟨trivial, ?_⟩
 show K1 [(0, .ptr ⟨x, 0, none⟩)] _
 refine hK1 _ _ ?_; clear hK1 K1
 refine awp_reg2_seq [] [0, 3] (by decide) ?_
 intro K1 hK1
 refine ⟨trivial, ?_⟩
 show K1 [(0, .ptr ⟨x, 0, none⟩), (3, .slice true [])] _
 refine hK1 _ _ ?_; clear hK1 K1
 refine awp_seq_k ?_; intro K2 hK2
 refine awp_reg2_seq [] [3, 10] (by decide) ?_
 intro K1 hK1
 refine ⟨trivial, trivial, ⟨rfl, by decide⟩, ?_⟩
 refine ar_loadp rfl (v := .map tb) rfl (wth_get 0 hN rfl) rfl (apartOk_one rfl rfl (Nat.le_of_ble_eq_true rfl)) rfl ?_
 refine ar_range rfl (m := m) (L := [(x, cObj d tb ob fb c), (tb, tObj c.things)]) 1 rfl rfl rfl hN ?_
 intro q1 _
 show K1 [(3, .slice true []), (10, .ptr ⟨q1, 0, none⟩)] (AMem.wth m [(x, cObj d tb ob fb c), (tb, AObj.iter q1 (List.map (mapAV intAV thgAV) c.things) [])])
 refine hK1 _ _ ?_; clear hK1 K1
 refine awp_block ?_
 refine awp_conv1 3 (.slice true []) .nils rfl nils_of_own ?_
 refine awp_keep [3, 10] (by decide) ?_
 refine awp_loop_st (σ := (Unit) ⊕ (Nat × List Nat × List Thg)) (Sum.elim (fun _ => [(3, .nils), (10, .ptr ⟨q1, 0, none⟩)]) (fun ⟨b, seen, zs⟩ => [(3, .ms ⟨b, 0, none⟩ seen.length zs.length), (10, .ptr ⟨q1, 0, none⟩)])) (Sum.elim (fun _ => (AMem.wth m [(x, cObj d tb ob fb c), (tb, AObj.iter q1 (List.map (mapAV intAV thgAV) c.things) [])])) (fun ⟨b, seen, zs⟩ => (AMem.wth m [(b, .cells (flatK thgAV zs)), (x, cObj d tb ob fb c), (tb, AObj.iter q1 (List.map (mapAV intAV thgAV) c.things) seen)]))) (Sum.elim (fun _ => True) (fun ⟨b, seen, zs⟩ => ([b, x, tb] : List Nat).Nodup ∧ m b = none ∧ (seen).Nodup ∧ (∀ i ∈ seen, i < c.things.length) ∧ (zs).take (seen).length = thgsAt c.things seen ∧ (seen).length ≤ (zs).length)) (Sum.elim (fun _ => c.things.length + 1) (fun ⟨b, seen, zs⟩ => c.things.length - (seen).length)) (.inl ()) rfl rfl ?_ ?_
 ·
  show True
  trivial
 ·
  rintro (_ | ⟨b, seen, zs⟩) hI
  ·
   replace hI : True := hI
   show AWP _ _ _ _ [(3, .nils), (10, .ptr ⟨q1, 0, none⟩)] (AMem.wth m [(x, cObj d tb ob fb c), (tb, AObj.iter q1 (List.map (mapAV intAV thgAV) c.things) [])])
   refine awp_reg2_seq [] [3, 10, 12] (by decide) ?_
   intro K1 hK1
   refine ar_nextT rfl (m := m) (L := [(x, cObj d tb ob fb c), (tb, AObj.iter q1 (List.map (mapAV intAV thgAV) c.things) [])]) 1 intAV thgAV c.things [] rfl rfl hN ?_ ?_
   ·
    intro hE1
    refine ⟨(Nat.le_of_ble_eq_true rfl), ?_⟩
    show K1 [(3, .nils), (10, .ptr ⟨q1, 0, none⟩), (12, .bool false)] (AMem.wth m [(x, cObj d tb ob fb c), (tb, AObj.iter q1 (List.map (mapAV intAV thgAV) c.things) [])])
    refine hK1 _ _ ?_; clear hK1 K1
    refine awp_unrange (m := m) (L := [(x, cObj d tb ob fb c), (tb, AObj.iter q1 (List.map (mapAV intAV thgAV) c.things) [])]) 1 hN rfl ?_
    show AWP _ _ _ _ [(3, .nils), (10, .ptr ⟨q1, 0, none⟩), (12, .bool false)] (AMem.wth m [(x, cObj d tb ob fb c), (tb, tObj c.things)])
    refine awp_seq_k ?_; intro K3 hK3
    refine awp_cond rfl rfl (fun hcz => ?_) (fun hcz => ?_)
    ·
     cases hcz
    clear hcz
    refine awp_exit ?_
    refine hK2 _ _ ?_; clear hK2
    refine awp_reg2_seq [] [3] (by decide) ?_
    intro K1 hK1
    refine ⟨trivial, ?_⟩
    refine u_SortT0 _ _ ?_
    show K1 [(3, .nils)] (AMem.wth m [(x, cObj d tb ob fb c), (tb, tObj c.things)])
    refine hK1 _ _ ?_; clear hK1 K1
    refine awp_conv1 3 .nils (.slice false []) rfl own_of_nils ?_
    show AWP _ _ _ _ [(3, .slice false [])] _
    refine awp_reg2_seq [] [2] (by decide) ?_
    intro K1 hK1
    refine ⟨trivial, trivial, ?_⟩
    show K1 [(2, .slice false [])] _
    refine hK1 _ _ ?_; clear hK1 K1
    refine awp_ret ?_
    refine ⟨trivial, (AMem.wth m [(x, cObj d tb ob fb c), (tb, tObj c.things)]), fun _ _ h => h, ?_⟩
    show K (.slice false []) _
   
    have e0 : allT c = ([] : List Thg) := by
     first | (exact allT_nil hE1) | (rw [hs3]; exact (sortT_of_perm (thgsAt_perm hs1 hs2 hE2) (ids_nodup hnd fun p hp => (hids p hp).1)).symm)
    rw [e0] at hK
    exact hK
   ·
    rintro k1 ⟨ek1, ev1⟩ hp1 hn1
    refine ⟨(Nat.le_of_ble_eq_true rfl), ?_⟩
    show K1 [(3, .nils), (10, .ptr ⟨q1, 0, none⟩), (12, .bool true)] (AMem.wth m [(x, cObj d tb ob fb c), (tb, AObj.iter q1 (List.map (mapAV intAV thgAV) c.things) ([] ++ [k1]))])
    refine hK1 _ _ ?_; clear hK1 K1
    refine awp_seq_k ?_; intro K4 hK4
    refine awp_cond rfl rfl (fun hcz => ?_) (fun hcz => ?_)
    rotate_left; · cases hcz
    clear hcz
    refine awp_skip ?_
    refine hK4 _ _ ?_; clear hK4
    refine awp_block ?_
    refine awp_reg2_seq [] [3, 5, 10] (by decide) ?_
    intro K1 hK1
    refine ar_entryT rfl (m := m) (L := [(x, cObj d tb ob fb c), (tb, AObj.iter q1 (List.map (mapAV intAV thgAV) c.things) ([] ++ [k1]))]) 1 intAV thgAV c.things [] hp1 rfl rfl hN ?_
    refine ⟨(Nat.le_of_ble_eq_true rfl), ?_⟩
    refine ar_alloc rfl (z := .agg [.int .i64 0, .str ([]), .int .i64 0, .int .i64 0, .str ([]), .slice true [], .slice true []]) rfl rfl ?_
    intro b1 hb1
    have hFb1 : m b1 = none := wth_none hb1
    have hNb1 : ([b1, x, tb] : List Nat).Nodup := wth_nodup hb1 hN
    refine ar_storep rfl 0 (v := thgAV ev1) (l' := [.int .i64 ev1.id, .str ev1.kind, .int .i64 ev1.v.kind, .int .i64 ev1.v.n, .str ev1.v.s, .slice false (ev1.v.l.map valIn), .slice false (ev1.v.f.map fldIn)]) rfl (by rfl) hNb1 rfl rfl rfl rfl rfl (Nat.le_of_ble_eq_true rfl) rfl ?_
    show K1 [(3, .nils), (5, .ptr ⟨b1, 0, none⟩), (10, .ptr ⟨q1, 0, none⟩)] (AMem.wth m [(b1, .cells [.int .i64 ev1.id, .str ev1.kind, .int .i64 ev1.v.kind, .int .i64 ev1.v.n, .str ev1.v.s, .slice false (ev1.v.l.map valIn), .slice false (ev1.v.f.map fldIn)]), (x, cObj d tb ob fb c), (tb, AObj.iter q1 (List.map (mapAV intAV thgAV) c.things) ([] ++ [k1]))])
    refine hK1 _ _ ?_; clear hK1 K1
    refine awp_reg2_seq [] [3, 5, 10] (by decide) ?_
    intro K1 hK1
    refine ⟨⟨rfl, by decide⟩, ?_⟩
    refine ar_loadp rfl (v := .agg [.int .i64 ev1.v.kind, .int .i64 ev1.v.n, .str ev1.v.s, .slice false (ev1.v.l.map valIn), .slice false (ev1.v.f.map fldIn)]) rfl (wth_get 0 hNb1 rfl) rfl (apartOk_agg rfl rfl (Nat.le_of_ble_eq_true rfl)) rfl ?_
    refine u_Copy ev1.v (chk_okV (hids _ (List.mem_of_getElem? hp1)).2.2) _ _ ?_
    refine ⟨⟨rfl, by decide⟩, ?_⟩
    refine ar_storep rfl 0 (v := valTop ev1.v) (l' := [.int .i64 ev1.id, .str ev1.kind, .int .i64 ev1.v.kind, .int .i64 ev1.v.n, .str ev1.v.s, .slice false (ev1.v.l.map valIn), .slice false (ev1.v.f.map fldIn)]) rfl (by rfl) hNb1 rfl rfl rfl rfl rfl (Nat.le_of_ble_eq_true rfl) rfl ?_
    show K1 [(3, .nils), (5, .ptr ⟨b1, 0, none⟩), (10, .ptr ⟨q1, 0, none⟩)] _
    refine hK1 _ _ ?_; clear hK1 K1
    refine awp_subQ ?_
    refine awp_reg2 [19] [3, 10] (by decide) ?_
    intro K1 hK1
    refine ⟨trivial, ?_⟩
    refine ar_loadp rfl (v := .agg [.int .i64 ev1.id, .str ev1.kind, .int .i64 ev1.v.kind, .int .i64 ev1.v.n, .str ev1.v.s, .slice false (ev1.v.l.map valIn), .slice false (ev1.v.f.map fldIn)]) rfl (wth_get 0 hNb1 rfl) rfl (apartOk_agg rfl rfl (Nat.le_of_ble_eq_true rfl)) rfl ?_
    refine ⟨⟨rfl, Nat.le_of_ble_eq_true rfl, rfl, Nat.le_of_ble_eq_true rfl, rfl, by simp only [List.forall_mem_cons]; exact ⟨⟨rfl, rfl⟩, fun _ h => by cases h⟩⟩, ?_⟩
    refine ar_append0MsK rfl thgAV 7 ([ev1] : List Thg) zT rfl rfl rfl rfl rfl rfl rfl rfl (by decide) hNb1 (fun _ => rfl) (fun _ => rfl) (fun _ => rfl) rfl (by simp) (by (simp only [show Try.prog.bytesOf 80 = 104 from rfl, List.length_cons, List.length_nil]; omega)) (by simp) ?_
    intro b2 zs2 hFb2 hNb2 htb2 hlb2
    replace hNb2 : ([b2, b1, x, tb] : List Nat).Nodup := hNb2
    refine ⟨trivial, ?_⟩
    show K1 [(3, .ms ⟨b2, 0, none⟩ (([ev1] : List Thg).length) zs2.length), (10, .ptr ⟨q1, 0, none⟩)] (AMem.wth m [(b2, .cells (flatK thgAV zs2)), (b1, .cells [.int .i64 ev1.id, .str ev1.kind, .int .i64 ev1.v.kind, .int .i64 ev1.v.n, .str ev1.v.s, .slice false (ev1.v.l.map valIn), .slice false (ev1.v.f.map fldIn)]), (x, cObj d tb ob fb c), (tb, AObj.iter q1 (List.map (mapAV intAV thgAV) c.things) ([] ++ [k1]))])
    refine hK1 _ _ ?_; clear hK1 K1
    have hNd1 : ([b2, x, tb] : List Nat).Nodup := drop_nodup (L := [(b2, .cells (flatK thgAV zs2)), (b1, .cells [.int .i64 ev1.id, .str ev1.kind, .int .i64 ev1.v.kind, .int .i64 ev1.v.n, .str ev1.v.s, .slice false (ev1.v.l.map valIn), .slice false (ev1.v.f.map fldIn)]), (x, cObj d tb ob fb c), (tb, AObj.iter q1 (List.map (mapAV intAV thgAV) c.things) ([] ++ [k1]))]) hNb2 (pick_perm [1] _)
    refine ⟨(AMem.wth m [(b2, .cells (flatK thgAV zs2)), (x, cObj d tb ob fb c), (tb, AObj.iter q1 (List.map (mapAV intAV thgAV) c.things) ([] ++ [k1]))]), (wth_keep (m := m) (L := [(b2, .cells (flatK thgAV zs2)), (b1, .cells [.int .i64 ev1.id, .str ev1.kind, .int .i64 ev1.v.kind, .int .i64 ev1.v.n, .str ev1.v.s, .slice false (ev1.v.l.map valIn), .slice false (ev1.v.f.map fldIn)]), (x, cObj d tb ob fb c), (tb, AObj.iter q1 (List.map (mapAV intAV thgAV) c.things) ([] ++ [k1]))]) (L1 := [(b2, .cells (flatK thgAV zs2)), (x, cObj d tb ob fb c), (tb, AObj.iter q1 (List.map (mapAV intAV thgAV) c.things) ([] ++ [k1]))]) (L2 := [(b1, .cells [.int .i64 ev1.id, .str ev1.kind, .int .i64 ev1.v.kind, .int .i64 ev1.v.n, .str ev1.v.s, .slice false (ev1.v.l.map valIn), .slice false (ev1.v.f.map fldIn)])]) hNb2 (pick_perm [0, 1, 1] _) (by simp only [List.map_cons, List.map_nil, List.forall_mem_cons]; exact ⟨hFb1, fun _ h => by cases h⟩)), ?_⟩
    refine ⟨.inr (b2, [k1], zs2), rfl, rfl, ?_, ?_⟩
    ·
     show ([b2, x, tb] : List Nat).Nodup ∧ m b2 = none ∧ ([k1]).Nodup ∧ (∀ i ∈ ([k1]), i < c.things.length) ∧ (zs2).take ([k1]).length = thgsAt c.things ([k1]) ∧ ([k1]).length ≤ (zs2).length
     exact ⟨hNd1, hFb2, by simp, fun i hi => by simp at hi; subst hi; exact (List.getElem?_eq_some_iff.1 hp1).1, by rw [show ([k1] : List Nat) = [] ++ [k1] from rfl, thgsAt_snoc hp1]; exact htb2, hlb2⟩
    ·
     show c.things.length - ([k1]).length < c.things.length + 1
     simp; omega
  ·
   replace hI : ([b, x, tb] : List Nat).Nodup ∧ m b = none ∧ (seen).Nodup ∧ (∀ i ∈ seen, i < c.things.length) ∧ (zs).take (seen).length = thgsAt c.things seen ∧ (seen).length ≤ (zs).length := hI
   obtain ⟨hNb, hFb, hs1, hs2, hs3, hs4⟩ := hI
   have hsl := seenT_len hs1 hs2
   have hnodT := thgsAt_nd hnd (fun p hp => (hids p hp).1) hs1 hs2
   show AWP _ _ _ _ [(3, .ms ⟨b, 0, none⟩ seen.length zs.length), (10, .ptr ⟨q1, 0, none⟩)] (AMem.wth m [(b, .cells (flatK thgAV zs)), (x, cObj d tb ob fb c), (tb, AObj.iter q1 (List.map (mapAV intAV thgAV) c.things) seen)])
   refine awp_reg2_seq [] [3, 10, 12] (by decide) ?_
   intro K1 hK1
   refine ar_nextT rfl (m := m) (L := [(b, .cells (flatK thgAV zs)), (x, cObj d tb ob fb c), (tb, AObj.iter q1 (List.map (mapAV intAV thgAV) c.things) seen)]) 2 intAV thgAV c.things seen rfl rfl hNb ?_ ?_
   ·
    intro hE2
    refine ⟨(Nat.le_of_ble_eq_true rfl), ?_⟩
    show K1 [(3, .ms ⟨b, 0, none⟩ seen.length zs.length), (10, .ptr ⟨q1, 0, none⟩), (12, .bool false)] (AMem.wth m [(b, .cells (flatK thgAV zs)), (x, cObj d tb ob fb c), (tb, AObj.iter q1 (List.map (mapAV intAV thgAV) c.things) seen)])
    refine hK1 _ _ ?_; clear hK1 K1
    refine awp_unrange (m := m) (L := [(b, .cells (flatK thgAV zs)), (x, cObj d tb ob fb c), (tb, AObj.iter q1 (List.map (mapAV intAV thgAV) c.things) seen)]) 2 hNb rfl ?_
    show AWP _ _ _ _ [(3, .ms ⟨b, 0, none⟩ seen.length zs.length), (10, .ptr ⟨q1, 0, none⟩), (12, .bool false)] (AMem.wth m [(b, .cells (flatK thgAV zs)), (x, cObj d tb ob fb c), (tb, tObj c.things)])
    refine awp_seq_k ?_; intro K5 hK5
    refine awp_cond rfl rfl (fun hcz => ?_) (fun hcz => ?_)
    ·
     cases hcz
    clear hcz
    refine awp_exit ?_
    refine hK2 _ _ ?_; clear hK2
    refine awp_reg2_seq [] [3] (by decide) ?_
    intro K1 hK1
    refine ⟨trivial, ?_⟩
    refine ar_mem (wth_split hNb (pick_perm [0] _)) ?_
    refine u_SortT b seen.length zs.length zs hs4 (by omega) (by rw [hs3]; exact fun a ha => by obtain ⟨p, hp, rfl⟩ := thgsAt_mem hs2 a ha; have := hids p hp; omega) (by rw [hs3]; exact hnodT) _ _ ?_
    show aopsR _ _ _ _ _ _ (AMem.wth (AMem.wth m [(x, cObj d tb ob fb c), (tb, tObj c.things)]) [(b, .cells (flatK thgAV (sortT (zs.take seen.length) ++ zs.drop seen.length)))])
    refine ar_mem (wth_split (m := m) (L := [(b, .cells (flatK thgAV (sortT (zs.take seen.length) ++ zs.drop seen.length))), (x, cObj d tb ob fb c), (tb, tObj c.things)]) hNb (pick_perm [0] _)).symm ?_
    show K1 [(3, .ms ⟨b, 0, none⟩ seen.length zs.length)] (AMem.wth m [(b, .cells (flatK thgAV (sortT (zs.take seen.length) ++ zs.drop seen.length))), (x, cObj d tb ob fb c), (tb, tObj c.things)])
    refine hK1 _ _ ?_; clear hK1 K1
    refine awp_freezeK 3 0 (sortT (zs.take seen.length) ++ zs.drop seen.length) (sz := 7) (fun _ => rfl) (by decide) (fun _ => rfl) rfl rfl hNb hFb (by rw [List.length_append, sortT_len, List.length_take, List.length_drop]; omega) (by omega) ?_
    rw [sortT_take hs4]
    have hNd2 : ([x, tb] : List Nat).Nodup := drop_nodup (L := [(b, .cells (flatK thgAV (sortT (zs.take seen.length) ++ zs.drop seen.length))), (x, cObj d tb ob fb c), (tb, tObj c.things)]) hNb (pick_perm [0] _)
    show AWP _ _ _ _ [(3, .slice false ((sortT (zs.take seen.length)).map thgAV))] (AMem.wth m [(x, cObj d tb ob fb c), (tb, tObj c.things)])
    refine awp_reg2_seq [] [2] (by decide) ?_
    intro K1 hK1
    refine ⟨trivial, trivial, ?_⟩
    show K1 [(2, .slice false ((sortT (zs.take seen.length)).map thgAV))] _
    refine hK1 _ _ ?_; clear hK1 K1
    refine awp_ret ?_
    refine ⟨trivial, (AMem.wth m [(x, cObj d tb ob fb c), (tb, tObj c.things)]), fun _ _ h => h, ?_⟩
    show K (.slice false ((sortT (zs.take seen.length)).map thgAV)) _
   
    have e0 : allT c = (sortT (zs.take seen.length) : List Thg) := by
     first | (exact allT_nil hE1) | (rw [hs3]; exact (sortT_of_perm (thgsAt_perm hs1 hs2 hE2) (ids_nodup hnd fun p hp => (hids p hp).1)).symm)
    rw [e0] at hK
    exact hK
   ·
    rintro k2 ⟨ek2, ev2⟩ hp2 hn2
    refine ⟨(Nat.le_of_ble_eq_true rfl), ?_⟩
    show K1 [(3, .ms ⟨b, 0, none⟩ seen.length zs.length), (10, .ptr ⟨q1, 0, none⟩), (12, .bool true)] (AMem.wth m [(b, .cells (flatK thgAV zs)), (x, cObj d tb ob fb c), (tb, AObj.iter q1 (List.map (mapAV intAV thgAV) c.things) (seen ++ [k2]))])
    refine hK1 _ _ ?_; clear hK1 K1
    refine awp_seq_k ?_; intro K6 hK6
    refine awp_cond rfl rfl (fun hcz => ?_) (fun hcz => ?_)
    rotate_left; · cases hcz
    clear hcz
    refine awp_skip ?_
    refine hK6 _ _ ?_; clear hK6
    refine awp_block ?_
    refine awp_reg2_seq [] [3, 5, 10] (by decide) ?_
    intro K1 hK1
    refine ar_entryT rfl (m := m) (L := [(b, .cells (flatK thgAV zs)), (x, cObj d tb ob fb c), (tb, AObj.iter q1 (List.map (mapAV intAV thgAV) c.things) (seen ++ [k2]))]) 2 intAV thgAV c.things seen hp2 rfl rfl hNb ?_
    refine ⟨(Nat.le_of_ble_eq_true rfl), ?_⟩
    refine ar_alloc rfl (z := .agg [.int .i64 0, .str ([]), .int .i64 0, .int .i64 0, .str ([]), .slice true [], .slice true []]) rfl rfl ?_
    intro b3 hb3
    have hFb3 : m b3 = none := wth_none hb3
    have hNb3 : ([b3, b, x, tb] : List Nat).Nodup := wth_nodup hb3 hNb
    refine ar_storep rfl 0 (v := thgAV ev2) (l' := [.int .i64 ev2.id, .str ev2.kind, .int .i64 ev2.v.kind, .int .i64 ev2.v.n, .str ev2.v.s, .slice false (ev2.v.l.map valIn), .slice false (ev2.v.f.map fldIn)]) rfl (by rfl) hNb3 rfl rfl rfl rfl rfl (Nat.le_of_ble_eq_true rfl) rfl ?_
    show K1 [(3, .ms ⟨b, 0, none⟩ seen.length zs.length), (5, .ptr ⟨b3, 0, none⟩), (10, .ptr ⟨q1, 0, none⟩)] (AMem.wth m [(b3, .cells [.int .i64 ev2.id, .str ev2.kind, .int .i64 ev2.v.kind, .int .i64 ev2.v.n, .str ev2.v.s, .slice false (ev2.v.l.map valIn), .slice false (ev2.v.f.map fldIn)]), (b, .cells (flatK thgAV zs)), (x, cObj d tb ob fb c), (tb, AObj.iter q1 (List.map (mapAV intAV thgAV) c.things) (seen ++ [k2]))])
    refine hK1 _ _ ?_; clear hK1 K1
    refine awp_reg2_seq [] [3, 5, 10] (by decide) ?_
    intro K1 hK1
    refine ⟨⟨rfl, by decide⟩, ?_⟩
    refine ar_loadp rfl (v := .agg [.int .i64 ev2.v.kind, .int .i64 ev2.v.n, .str ev2.v.s, .slice false (ev2.v.l.map valIn), .slice false (ev2.v.f.map fldIn)]) rfl (wth_get 0 hNb3 rfl) rfl (apartOk_agg rfl rfl (Nat.le_of_ble_eq_true rfl)) rfl ?_
    refine u_Copy ev2.v (chk_okV (hids _ (List.mem_of_getElem? hp2)).2.2) _ _ ?_
    refine ⟨⟨rfl, by decide⟩, ?_⟩
    refine ar_storep rfl 0 (v := valTop ev2.v) (l' := [.int .i64 ev2.id, .str ev2.kind, .int .i64 ev2.v.kind, .int .i64 ev2.v.n, .str ev2.v.s, .slice false (ev2.v.l.map valIn), .slice false (ev2.v.f.map fldIn)]) rfl (by rfl) hNb3 rfl rfl rfl rfl rfl (Nat.le_of_ble_eq_true rfl) rfl ?_
    show K1 [(3, .ms ⟨b, 0, none⟩ seen.length zs.length), (5, .ptr ⟨b3, 0, none⟩), (10, .ptr ⟨q1, 0, none⟩)] _
    refine hK1 _ _ ?_; clear hK1 K1
    refine awp_subQ ?_
    refine awp_reg2 [19] [3, 10] (by decide) ?_
    intro K1 hK1
    refine ⟨trivial, ?_⟩
    refine ar_loadp rfl (v := .agg [.int .i64 ev2.id, .str ev2.kind, .int .i64 ev2.v.kind, .int .i64 ev2.v.n, .str ev2.v.s, .slice false (ev2.v.l.map valIn), .slice false (ev2.v.f.map fldIn)]) rfl (wth_get 0 hNb3 rfl) rfl (apartOk_agg rfl rfl (Nat.le_of_ble_eq_true rfl)) rfl ?_
    refine ⟨⟨rfl, Nat.le_of_ble_eq_true rfl, rfl, Nat.le_of_ble_eq_true rfl, rfl, by simp only [List.forall_mem_cons]; exact ⟨⟨rfl, rfl⟩, fun _ h => by cases h⟩⟩, ?_⟩
    refine ar_appendMsK rfl 1 thgAV 7 zs ([ev2] : List Thg) zT seen.length rfl rfl rfl rfl rfl rfl rfl rfl (by decide) rfl hNb3 hFb (fun _ => rfl) (fun _ => rfl) (fun _ => rfl) rfl (by (first | omega | (simp only [List.length_append, List.length_cons, List.length_nil]; omega))) (by (simp only [show Try.prog.bytesOf 80 = 104 from rfl, List.length_append, List.length_cons, List.length_nil]; omega)) (by (first | omega | (simp only [List.length_append, List.length_cons, List.length_nil]; omega))) ?_
    intro b4 zs4 hFb4 hNb4 htb4 hlb4
    replace htb4 : zs4.take (seen.length + ([ev2] : List Thg).length) = zs.take seen.length ++ ([ev2] : List Thg) := htb4
    replace hlb4 : seen.length + ([ev2] : List Thg).length ≤ zs4.length := hlb4
    refine ⟨trivial, ?_⟩
    show K1 [(3, .ms ⟨b4, 0, none⟩ (seen.length + ([ev2] : List Thg).length) zs4.length), (10, .ptr ⟨q1, 0, none⟩)] (AMem.wth m [(b4, .cells (flatK thgAV zs4)), (b3, .cells [.int .i64 ev2.id, .str ev2.kind, .int .i64 ev2.v.kind, .int .i64 ev2.v.n, .str ev2.v.s, .slice false (ev2.v.l.map valIn), .slice false (ev2.v.f.map fldIn)]), (x, cObj d tb ob fb c), (tb, AObj.iter q1 (List.map (mapAV intAV thgAV) c.things) (seen ++ [k2]))])
    refine hK1 _ _ ?_; clear hK1 K1
    have hNd3 : ([b4, x, tb] : List Nat).Nodup := drop_nodup (L := [(b4, .cells (flatK thgAV zs4)), (b3, .cells [.int .i64 ev2.id, .str ev2.kind, .int .i64 ev2.v.kind, .int .i64 ev2.v.n, .str ev2.v.s, .slice false (ev2.v.l.map valIn), .slice false (ev2.v.f.map fldIn)]), (x, cObj d tb ob fb c), (tb, AObj.iter q1 (List.map (mapAV intAV thgAV) c.things) (seen ++ [k2]))]) hNb4 (pick_perm [1] _)
    refine ⟨(AMem.wth m [(b4, .cells (flatK thgAV zs4)), (x, cObj d tb ob fb c), (tb, AObj.iter q1 (List.map (mapAV intAV thgAV) c.things) (seen ++ [k2]))]), (wth_keep (m := m) (L := [(b4, .cells (flatK thgAV zs4)), (b3, .cells [.int .i64 ev2.id, .str ev2.kind, .int .i64 ev2.v.kind, .int .i64 ev2.v.n, .str ev2.v.s, .slice false (ev2.v.l.map valIn), .slice false (ev2.v.f.map fldIn)]), (x, cObj d tb ob fb c), (tb, AObj.iter q1 (List.map (mapAV intAV thgAV) c.things) (seen ++ [k2]))]) (L1 := [(b4, .cells (flatK thgAV zs4)), (x, cObj d tb ob fb c), (tb, AObj.iter q1 (List.map (mapAV intAV thgAV) c.things) (seen ++ [k2]))]) (L2 := [(b3, .cells [.int .i64 ev2.id, .str ev2.kind, .int .i64 ev2.v.kind, .int .i64 ev2.v.n, .str ev2.v.s, .slice false (ev2.v.l.map valIn), .slice false (ev2.v.f.map fldIn)])]) hNb4 (pick_perm [0, 1, 1] _) (by simp only [List.map_cons, List.map_nil, List.forall_mem_cons]; exact ⟨hFb3, fun _ h => by cases h⟩)), ?_⟩
    refine ⟨.inr (b4, seen ++ [k2], zs4), (by simp), rfl, ?_, ?_⟩
    ·
     show ([b4, x, tb] : List Nat).Nodup ∧ m b4 = none ∧ (seen ++ [k2]).Nodup ∧ (∀ i ∈ (seen ++ [k2]), i < c.things.length) ∧ (zs4).take (seen ++ [k2]).length = thgsAt c.things (seen ++ [k2]) ∧ (seen ++ [k2]).length ≤ (zs4).length
     have hss := sstepT hs1 hs2 hp2 hn2
     exact ⟨hNd3, hFb4, hss.1, hss.2, by rw [thgsAt_snoc hp2, ← hs3, List.length_append]; exact htb4, by rw [List.length_append]; exact hlb4⟩
    ·
     show c.things.length - (seen ++ [k2]).length < c.things.length - (seen).length
     have hss := sstepT hs1 hs2 hp2 hn2
     have := seenT_len hss.1 hss.2
     rw [List.length_append, List.length_singleton] at *
     omega

end Go.Proofs
end
section
namespace Go.Proofs
open Go Go.Aw
set_option maxRecDepth 100000

set_option maxHeartbeats 4000000 in
theorem u_RAlike1 (a b : Val) (ih : ∀ v w : Val, depV v < depV a → ∀ (m : AMem) (K : AV → AMem → Prop), K (.bool (vEq v w)) m → ACalls Try.prog 86 [valTop v, valTop w] m K) (m : AMem)  (K : AV → AMem → Prop) (hK : K (.bool (vEq a b)) m) : ACalls Try.prog 86 [valTop a, valTop b] m K := by
 refine acalls_enter Try.func86 rfl (by decide) (Nat.le_of_ble_eq_true rfl) ?_
 refine awp_bd 0 (x := valTop a) rfl (fun hbd0 => ?_)
 have hbd0_2 : a.s.length ≤ 140737488355328 := (hbd0 2 (Nat.le_of_ble_eq_true rfl))
 have hbd0_3 : a.l.length ≤ 140737488355328 := bd_map (hbd0 3 (Nat.le_of_ble_eq_true rfl))
 have hbd0_4 : a.f.length ≤ 140737488355328 := bd_map (hbd0 4 (Nat.le_of_ble_eq_true rfl))
 refine awp_bd 1 (x := valTop b) rfl (fun hbd1 => ?_)
 have hbd1_2 : b.s.length ≤ 140737488355328 := (hbd1 2 (Nat.le_of_ble_eq_true rfl))
 have hbd1_3 : b.l.length ≤ 140737488355328 := bd_map (hbd1 3 (Nat.le_of_ble_eq_true rfl))
 have hbd1_4 : b.f.length ≤ 140737488355328 := bd_map (hbd1 4 (Nat.le_of_ble_eq_true rfl))
 show AWP _ _ _ _ [(0, valTop a), (1, valTop b)] m
 refine awp_reg2_seq [] [2, 3] (by decide) ?_
 intro K1 hK1
 refine ar_box rfl (m := m) (L := []) (v := valTop a) (by rfl) rfl ?_
 intro b1 hb1
 have hFb1 : m b1 = none := wth_none (m := m) (L := []) hb1
 have hNb1 : ([b1] : List Nat).Nodup := wth_nodup (m := m) (L := []) hb1 List.nodup_nil
 refine ar_box rfl (m := m) (L := [(b1, .cells [.int .i64 a.kind, .int .i64 a.n, .str a.s, .slice false (a.l.map valIn), .slice false (a.f.map fldIn)])]) (v := valTop b) (by rfl) rfl ?_
 intro b2 hb2
 have hFb2 : m b2 = none := wth_none hb2
 have hNb2 : ([b2, b1] : List Nat).Nodup := wth_nodup hb2 hNb1
 refine ⟨trivial, ?_⟩
 show K1 [(2, .ptr ⟨b1, 0, none⟩), (3, .ptr ⟨b2, 0, none⟩)] (AMem.wth m [(b2, .cells [.int .i64 b.kind, .int .i64 b.n, .str b.s, .slice false (b.l.map valIn), .slice false (b.f.map fldIn)]), (b1, .cells [.int .i64 a.kind, .int .i64 a.n, .str a.s, .slice false (a.l.map valIn), .slice false (a.f.map fldIn)])])
 refine hK1 _ _ ?_; clear hK1 K1
 refine awp_seq_k ?_; intro K2 hK2
 refine awp_reg2_seq [] [2, 3, 45] (by decide) ?_
 intro K1 hK1
 suffices key : K1 [(2, .ptr ⟨b1, 0, none⟩), (3, .ptr ⟨b2, 0, none⟩), (45, .bool (((((!(a.kind == b.kind)) || (!(a.n == b.n))) || (!(a.s == b.s))) || (!((a.l.length : Int) == (b.l.length : Int)))) || (!((a.f.length : Int) == (b.f.length : Int)))))] (AMem.wth m [(b2, .cells [.int .i64 b.kind, .int .i64 b.n, .str b.s, .slice false (b.l.map valIn), .slice false (b.f.map fldIn)]), (b1, .cells [.int .i64 a.kind, .int .i64 a.n, .str a.s, .slice false (a.l.map valIn), .slice false (a.f.map fldIn)])]) by
  refine ⟨⟨rfl, by decide⟩, ?_⟩
  refine ar_loadp rfl (v := .int .i64 a.kind) rfl (wth_get 1 hNb2 rfl) rfl (apartOk_one rfl rfl (Nat.le_of_ble_eq_true rfl)) rfl ?_
  refine ⟨⟨rfl, by decide⟩, ?_⟩
  refine ar_loadp rfl (v := .int .i64 b.kind) rfl (wth_get 0 hNb2 rfl) rfl (apartOk_one rfl rfl (Nat.le_of_ble_eq_true rfl)) rfl ?_
  refine ⟨trivial, trivial, ?_⟩
  show aopsR _ _ _ _ _ [(14, .bool (!(a.kind == b.kind))), (13, .bool (!(a.kind == b.kind))), (12, .int .i64 b.kind), (11, .ptr ⟨b2, 0, none⟩), (10, .int .i64 a.kind), (9, .ptr ⟨b1, 0, none⟩), (2, .ptr ⟨b1, 0, none⟩), (3, .ptr ⟨b2, 0, none⟩)] _
  revert key
  cases h1 : (a.kind == b.kind)
  ·
   replace h1 : a.kind ≠ b.kind := (ne_of_beq_false h1)
   intro key
   refine ar_off rfl (ar_off rfl (ar_off rfl (ar_off rfl (ar_off rfl ?_))))
   refine ⟨trivial, ?_⟩
   refine ar_off rfl (ar_off rfl (ar_off rfl (ar_off rfl (ar_off rfl ?_))))
   refine ⟨trivial, ?_⟩
   refine ar_off rfl (ar_off rfl (ar_off rfl (ar_off rfl (ar_off rfl (ar_off rfl (ar_off rfl ?_))))))
   refine ⟨trivial, ?_⟩
   refine ar_off rfl (ar_off rfl (ar_off rfl (ar_off rfl (ar_off rfl (ar_off rfl (ar_off rfl ?_))))))
   exact key
  ·
   replace h1 : a.kind = b.kind := (eq_of_beq h1)
   intro key
   refine ⟨⟨rfl, by decide⟩, ?_⟩
   refine ar_loadp rfl (v := .int .i64 a.n) rfl (wth_get 1 hNb2 rfl) rfl (apartOk_one rfl rfl (Nat.le_of_ble_eq_true rfl)) rfl ?_
   refine ⟨⟨rfl, by decide⟩, ?_⟩
   refine ar_loadp rfl (v := .int .i64 b.n) rfl (wth_get 0 hNb2 rfl) rfl (apartOk_one rfl rfl (Nat.le_of_ble_eq_true rfl)) rfl ?_
   refine ⟨trivial, ?_⟩
   refine ⟨trivial, ?_⟩
   show aopsR _ _ _ _ _ [(21, .bool (!(a.n == b.n))), (20, .bool (!(a.n == b.n))), (19, .bool (!(a.n == b.n))), (18, .int .i64 b.n), (17, .ptr ⟨b2, 1, none⟩), (16, .int .i64 a.n), (15, .ptr ⟨b1, 1, none⟩), (14, .bool false), (13, .bool false), (12, .int .i64 b.kind), (11, .ptr ⟨b2, 0, none⟩), (10, .int .i64 a.kind), (9, .ptr ⟨b1, 0, none⟩), (2, .ptr ⟨b1, 0, none⟩), (3, .ptr ⟨b2, 0, none⟩)] _
   revert key
   cases h2 : (a.n == b.n)
   ·
    replace h2 : a.n ≠ b.n := (ne_of_beq_false h2)
    intro key
    refine ar_off rfl (ar_off rfl (ar_off rfl (ar_off rfl (ar_off rfl ?_))))
    refine ⟨trivial, ?_⟩
    refine ar_off rfl (ar_off rfl (ar_off rfl (ar_off rfl (ar_off rfl (ar_off rfl (ar_off rfl ?_))))))
    refine ⟨trivial, ?_⟩
    refine ar_off rfl (ar_off rfl (ar_off rfl (ar_off rfl (ar_off rfl (ar_off rfl (ar_off rfl ?_))))))
    exact key
   ·
    replace h2 : a.n = b.n := (eq_of_beq h2)
    intro key
    refine ⟨⟨rfl, by decide⟩, ?_⟩
    refine ar_loadp rfl (v := .str a.s) rfl (wth_get 1 hNb2 rfl) rfl (apartOk_one rfl rfl (Nat.le_of_ble_eq_true rfl)) rfl ?_
    refine ⟨⟨rfl, by decide⟩, ?_⟩
    refine ar_loadp rfl (v := .str b.s) rfl (wth_get 0 hNb2 rfl) rfl (apartOk_one rfl rfl (Nat.le_of_ble_eq_true rfl)) rfl ?_
    refine ⟨trivial, ?_⟩
    refine ⟨trivial, ?_⟩
    show aopsR _ _ _ _ _ [(28, .bool (!(a.s == b.s))), (27, .bool (!(a.s == b.s))), (26, .bool (!(a.s == b.s))), (25, .str b.s), (24, .ptr ⟨b2, 2, none⟩), (23, .str a.s), (22, .ptr ⟨b1, 2, none⟩), (21, .bool false), (20, .bool false), (19, .bool false), (18, .int .i64 b.n), (17, .ptr ⟨b2, 1, none⟩), (16, .int .i64 a.n), (15, .ptr ⟨b1, 1, none⟩), (14, .bool false), (13, .bool false), (12, .int .i64 b.kind), (11, .ptr ⟨b2, 0, none⟩), (10, .int .i64 a.kind), (9, .ptr ⟨b1, 0, none⟩), (2, .ptr ⟨b1, 0, none⟩), (3, .ptr ⟨b2, 0, none⟩)] _
    revert key
    cases h3 : (a.s == b.s)
    ·
     replace h3 : a.s ≠ b.s := (ne_of_beq_false h3)
     intro key
     refine ar_off rfl (ar_off rfl (ar_off rfl (ar_off rfl (ar_off rfl (ar_off rfl (ar_off rfl ?_))))))
     refine ⟨trivial, ?_⟩
     refine ar_off rfl (ar_off rfl (ar_off rfl (ar_off rfl (ar_off rfl (ar_off rfl (ar_off rfl ?_))))))
     exact key
    ·
     replace h3 : a.s = b.s := (eq_of_beq h3)
     intro key
     refine ⟨⟨rfl, by decide⟩, ?_⟩
     refine ar_loadp rfl (v := .slice false (a.l.map valIn)) rfl (wth_get 1 hNb2 rfl) rfl (apartOk_one rfl rfl (Nat.le_of_ble_eq_true rfl)) rfl ?_
     refine ar_len rfl valIn a.l rfl rfl rfl ?_
     refine ⟨⟨rfl, by decide⟩, ?_⟩
     refine ar_loadp rfl (v := .slice false (b.l.map valIn)) rfl (wth_get 0 hNb2 rfl) rfl (apartOk_one rfl rfl (Nat.le_of_ble_eq_true rfl)) rfl ?_
     refine ar_len rfl valIn b.l rfl rfl rfl ?_
     refine ⟨trivial, ?_⟩
     refine ⟨trivial, ?_⟩
     show aopsR _ _ _ _ _ [(37, .bool (!((a.l.length : Int) == (b.l.length : Int)))), (36, .bool (!((a.l.length : Int) == (b.l.length : Int)))), (35, .bool (!((a.l.length : Int) == (b.l.length : Int)))), (34, .int .i64 (b.l.length : Int)), (33, .slice false (b.l.map valIn)), (32, .ptr ⟨b2, 3, none⟩), (31, .int .i64 (a.l.length : Int)), (30, .slice false (a.l.map valIn)), (29, .ptr ⟨b1, 3, none⟩), (28, .bool false), (27, .bool false), (26, .bool false), (25, .str b.s), (24, .ptr ⟨b2, 2, none⟩), (23, .str a.s), (22, .ptr ⟨b1, 2, none⟩), (21, .bool false), (20, .bool false), (19, .bool false), (18, .int .i64 b.n), (17, .ptr ⟨b2, 1, none⟩), (16, .int .i64 a.n), (15, .ptr ⟨b1, 1, none⟩), (14, .bool false), (13, .bool false), (12, .int .i64 b.kind), (11, .ptr ⟨b2, 0, none⟩), (10, .int .i64 a.kind), (9, .ptr ⟨b1, 0, none⟩), (2, .ptr ⟨b1, 0, none⟩), (3, .ptr ⟨b2, 0, none⟩)] _
     revert key
     cases h4 : ((a.l.length : Int) == (b.l.length : Int))
     ·
      replace h4 : (a.l.length : Int) ≠ (b.l.length : Int) := (ne_of_beq_false h4)
      intro key
      refine ar_off rfl (ar_off rfl (ar_off rfl (ar_off rfl (ar_off rfl (ar_off rfl (ar_off rfl ?_))))))
      exact key
     ·
      replace h4 : (a.l.length : Int) = (b.l.length : Int) := (eq_of_beq h4)
      intro key
      refine ⟨⟨rfl, by decide⟩, ?_⟩
      refine ar_loadp rfl (v := .slice false (a.f.map fldIn)) rfl (wth_get 1 hNb2 rfl) rfl (apartOk_one rfl rfl (Nat.le_of_ble_eq_true rfl)) rfl ?_
      refine ar_len rfl fldIn a.f rfl rfl rfl ?_
      refine ⟨⟨rfl, by decide⟩, ?_⟩
      refine ar_loadp rfl (v := .slice false (b.f.map fldIn)) rfl (wth_get 0 hNb2 rfl) rfl (apartOk_one rfl rfl (Nat.le_of_ble_eq_true rfl)) rfl ?_
      refine ar_len rfl fldIn b.f rfl rfl rfl ?_
      refine ⟨trivial, ?_⟩
      exact key
 refine hK1 _ _ ?_; clear hK1 K1
 refine awp_cond rfl rfl (fun h5 => ?_) (fun h5 => ?_)
 ·
  replace h5 : ((((a.kind ≠ b.kind) ∨ (a.n ≠ b.n)) ∨ (a.s ≠ b.s)) ∨ ((a.l.length : Int) ≠ (b.l.length : Int))) ∨ ((a.f.length : Int) ≠ (b.f.length : Int)) := ((borT h5).imp (fun q => ((borT q).imp (fun q => ((borT q).imp (fun q => ((borT q).imp (fun q => (ne_of_beq_false (bnT q))) (fun q => (ne_of_beq_false (bnT q))))) (fun q => (ne_of_beq_false (bnT q))))) (fun q => (ne_of_beq_false (bnT q))))) (fun q => (ne_of_beq_false (bnT q))))
  refine awp_reg2_seq [] [4] (by decide) ?_
  intro K1 hK1
  refine ⟨trivial, ?_⟩
  show K1 [(4, .bool false)] (AMem.wth m [(b2, .cells [.int .i64 b.kind, .int .i64 b.n, .str b.s, .slice false (b.l.map valIn), .slice false (b.f.map fldIn)]), (b1, .cells [.int .i64 a.kind, .int .i64 a.n, .str a.s, .slice false (a.l.map valIn), .slice false (a.f.map fldIn)])])
  refine hK1 _ _ ?_; clear hK1 K1
  refine awp_ret ?_
  refine ⟨trivial, m, (wth_sub2 (m := m) [(b2, .cells [.int .i64 b.kind, .int .i64 b.n, .str b.s, .slice false (b.l.map valIn), .slice false (b.f.map fldIn)]), (b1, .cells [.int .i64 a.kind, .int .i64 a.n, .str a.s, .slice false (a.l.map valIn), .slice false (a.f.map fldIn)])] [] hNb2 (by simp only [List.map_cons, List.map_nil, List.forall_mem_cons]; exact ⟨hFb2, hFb1, fun _ h => by cases h⟩)), ?_⟩
  show K (.bool false) m
 
  rw [vEq_false (by intro hh; subst hh; simp at h5)] at hK; exact hK
 replace h5 : ((((a.kind = b.kind) ∧ (a.n = b.n)) ∧ (a.s = b.s)) ∧ ((a.l.length : Int) = (b.l.length : Int))) ∧ ((a.f.length : Int) = (b.f.length : Int)) := ⟨⟨⟨⟨(eq_of_beq (bnF (borL (borL (borL (borL h5)))))), (eq_of_beq (bnF (borR (borL (borL (borL h5))))))⟩, (eq_of_beq (bnF (borR (borL (borL h5)))))⟩, (eq_of_beq (bnF (borR (borL h5))))⟩, (eq_of_beq (bnF (borR h5)))⟩
 obtain ⟨⟨⟨⟨hk, hn⟩, hs⟩, hl⟩, hf⟩ := h5
 refine awp_skip ?_
 refine hK2 _ _ ?_; clear hK2
 refine awp_seq_k ?_; intro K3 hK3
 refine awp_reg2_seq [] [2, 3, 5] (by decide) ?_
 intro K1 hK1
 refine ⟨trivial, ?_⟩
 show K1 [(2, .ptr ⟨b1, 0, none⟩), (3, .ptr ⟨b2, 0, none⟩), (5, .int .i64 0)] (AMem.wth m [(b2, .cells [.int .i64 b.kind, .int .i64 b.n, .str b.s, .slice false (b.l.map valIn), .slice false (b.f.map fldIn)]), (b1, .cells [.int .i64 a.kind, .int .i64 a.n, .str a.s, .slice false (a.l.map valIn), .slice false (a.f.map fldIn)])])
 refine hK1 _ _ ?_; clear hK1 K1
 refine awp_block ?_
 refine awp_keep [2, 3, 5] (by decide) ?_
 refine awp_loop_st (σ := Int) (fun i => [(2, .ptr ⟨b1, 0, none⟩), (3, .ptr ⟨b2, 0, none⟩), (5, .int .i64 i)]) (fun _ => (AMem.wth m [(b2, .cells [.int .i64 b.kind, .int .i64 b.n, .str b.s, .slice false (b.l.map valIn), .slice false (b.f.map fldIn)]), (b1, .cells [.int .i64 a.kind, .int .i64 a.n, .str a.s, .slice false (a.l.map valIn), .slice false (a.f.map fldIn)])])) (fun i => 0 ≤ i ∧ i ≤ a.l.length ∧ a.l.take i.toNat = b.l.take i.toNat) (fun i => a.l.length - i.toNat) (0) rfl rfl ?_ ?_
 ·
  show 0 ≤ ((0 : Int)) ∧ ((0 : Int)) ≤ a.l.length ∧ a.l.take ((0 : Int)).toNat = b.l.take ((0 : Int)).toNat
  exact ⟨by omega, by omega, rfl⟩
 rintro i hI
 replace hI : 0 ≤ i ∧ i ≤ a.l.length ∧ a.l.take i.toNat = b.l.take i.toNat := hI
 show AWP _ _ _ _ [(2, .ptr ⟨b1, 0, none⟩), (3, .ptr ⟨b2, 0, none⟩), (5, .int .i64 i)] (AMem.wth m [(b2, .cells [.int .i64 b.kind, .int .i64 b.n, .str b.s, .slice false (b.l.map valIn), .slice false (b.f.map fldIn)]), (b1, .cells [.int .i64 a.kind, .int .i64 a.n, .str a.s, .slice false (a.l.map valIn), .slice false (a.f.map fldIn)])])
 refine awp_seq_k ?_; intro K4 hK4
 refine awp_reg2_seq [] [2, 3, 5, 50] (by decide) ?_
 intro K1 hK1
 refine ⟨trivial, ⟨rfl, by decide⟩, ?_⟩
 refine ar_loadp rfl (v := .slice false (a.l.map valIn)) rfl (wth_get 1 hNb2 rfl) rfl (apartOk_one rfl rfl (Nat.le_of_ble_eq_true rfl)) rfl ?_
 refine ar_len rfl valIn a.l rfl rfl rfl ?_
 refine ⟨trivial, ?_⟩
 show K1 [(2, .ptr ⟨b1, 0, none⟩), (3, .ptr ⟨b2, 0, none⟩), (5, .int .i64 i), (50, .bool (decide (i < (a.l.length : Int))))] _
 refine hK1 _ _ ?_; clear hK1 K1
 refine awp_cond rfl rfl (fun h6 => ?_) (fun h6 => ?_)
 ·
  replace h6 : i < (a.l.length : Int) := (of_decide_eq_true h6)
  refine awp_skip ?_
  refine hK4 _ _ ?_; clear hK4
  refine awp_seq_k ?_; intro K5 hK5
  refine awp_block ?_
  refine awp_draw_seq Try.mixed [(.bool (vEq (gI a.l i) (gI b.l i)))] [2, 3, 5, 6] (by decide) (by decide) ?_
  intro K1 hK1
  refine ⟨⟨rfl, by decide⟩, ?_⟩
  refine pq_loadp rfl (v := .slice false (a.l.map valIn)) rfl (wth_get 1 hNb2 rfl) (apartOk_one rfl rfl (Nat.le_of_ble_eq_true rfl)) rfl ?_
  refine ⟨trivial, ?_⟩
  refine pq_index rfl valTop a.l i rfl rfl (valMap a.l) rfl rfl (by decide) (fun _ => rfl) (by omega) (by omega) ?_
  refine ⟨(apartOk_agg rfl rfl (Nat.le_of_ble_eq_true rfl)), ⟨rfl, by decide⟩, ?_⟩
  refine pq_loadp rfl (v := .slice false (b.l.map valIn)) rfl (wth_get 0 hNb2 rfl) (apartOk_one rfl rfl (Nat.le_of_ble_eq_true rfl)) rfl ?_
  refine ⟨trivial, ?_⟩
  refine pq_index rfl valTop b.l i rfl rfl (valMap b.l) rfl rfl (by decide) (fun _ => rfl) (by omega) (by omega) ?_
  refine ⟨(apartOk_agg rfl rfl (Nat.le_of_ble_eq_true rfl)), (fun Kc hKc => ih (gI a.l i) (gI b.l i) (by have := depV_eq a; first | (have := depL_mem (gI_mem (l := a.l) (i := i) hI.1 (by assumption)); omega) | (have := depF_mem (gI_mem (l := a.f) (i := i2) hI2.1 (by assumption)); omega)) _ Kc hKc), trivial, ?_⟩
  show K1 [(2, .ptr ⟨b1, 0, none⟩), (3, .ptr ⟨b2, 0, none⟩), (5, .int .i64 i), (6, .bool (vEq (gI a.l i) (gI b.l i)))] (AMem.wth m [(b2, .cells [.int .i64 b.kind, .int .i64 b.n, .str b.s, .slice false (b.l.map valIn), .slice false (b.f.map fldIn)]), (b1, .cells [.int .i64 a.kind, .int .i64 a.n, .str a.s, .slice false (a.l.map valIn), .slice false (a.f.map fldIn)])])
  refine hK1 _ _ ?_; clear hK1 K1
  refine awp_reg2_seq [] [2, 3, 5, 65] (by decide) ?_
  intro K1 hK1
  refine ⟨trivial, trivial, ?_⟩
  show K1 [(2, .ptr ⟨b1, 0, none⟩), (3, .ptr ⟨b2, 0, none⟩), (5, .int .i64 i), (65, .bool (!(vEq (gI a.l i) (gI b.l i))))] _
  refine hK1 _ _ ?_; clear hK1 K1
  refine awp_cond rfl rfl (fun h7 => ?_) (fun h7 => ?_)
  ·
   replace h7 : vEq (gI a.l i) (gI b.l i) = false := (bnT h7)
   refine awp_reg2_seq [] [4] (by decide) ?_
   intro K1 hK1
   refine ⟨trivial, ?_⟩
   show K1 [(4, .bool false)] (AMem.wth m [(b2, .cells [.int .i64 b.kind, .int .i64 b.n, .str b.s, .slice false (b.l.map valIn), .slice false (b.f.map fldIn)]), (b1, .cells [.int .i64 a.kind, .int .i64 a.n, .str a.s, .slice false (a.l.map valIn), .slice false (a.f.map fldIn)])])
   refine hK1 _ _ ?_; clear hK1 K1
   refine awp_ret ?_
   refine ⟨trivial, m, (wth_sub2 (m := m) [(b2, .cells [.int .i64 b.kind, .int .i64 b.n, .str b.s, .slice false (b.l.map valIn), .slice false (b.f.map fldIn)]), (b1, .cells [.int .i64 a.kind, .int .i64 a.n, .str a.s, .slice false (a.l.map valIn), .slice false (a.f.map fldIn)])] [] hNb2 (by simp only [List.map_cons, List.map_nil, List.forall_mem_cons]; exact ⟨hFb2, hFb1, fun _ h => by cases h⟩)), ?_⟩
   show K (.bool false) m
  
   rw [vEq_false (by intro hh; subst hh; rw [vEq_true rfl] at h7; cases h7)] at hK; exact hK
  replace h7 : vEq (gI a.l i) (gI b.l i) = true := (bnF h7)
  refine awp_skip ?_
  refine hK5 _ _ ?_; clear hK5
  refine awp_reg2 [] [2, 3, 5] (by decide) ?_
  intro K1 hK1
  refine ⟨trivial, ?_⟩
  refine ar_add rfl (a := i) (b := 1) rfl rfl (by omega) (by omega) ?_
  refine ⟨trivial, ?_⟩
  show K1 [(2, .ptr ⟨b1, 0, none⟩), (3, .ptr ⟨b2, 0, none⟩), (5, .int .i64 (i + 1))] (AMem.wth m [(b2, .cells [.int .i64 b.kind, .int .i64 b.n, .str b.s, .slice false (b.l.map valIn), .slice false (b.f.map fldIn)]), (b1, .cells [.int .i64 a.kind, .int .i64 a.n, .str a.s, .slice false (a.l.map valIn), .slice false (a.f.map fldIn)])])
  refine hK1 _ _ ?_; clear hK1 K1
  refine ⟨(i + 1), rfl, rfl, ?_, ?_⟩
  ·
   show 0 ≤ ((i + 1 : Int)) ∧ ((i + 1 : Int)) ≤ a.l.length ∧ a.l.take ((i + 1 : Int)).toNat = b.l.take ((i + 1 : Int)).toNat
   exact ⟨by omega, by omega, by rw [take_succ_gI hI.1 h6, take_succ_gI hI.1 (by omega), hI.2.2, vEq_iff.1 h7]⟩
  ·
   show a.l.length - ((i + 1 : Int)).toNat < a.l.length - i.toNat
   omega
 replace h6 : (a.l.length : Int) ≤ i := (Int.not_lt.1 (of_decide_eq_false h6))
 refine awp_exit ?_
 refine hK3 _ _ ?_; clear hK3
 refine awp_seq_k ?_; intro K6 hK6
 refine awp_reg2_seq [] [2, 3, 7] (by decide) ?_
 intro K1 hK1
 refine ⟨trivial, ?_⟩
 show K1 [(2, .ptr ⟨b1, 0, none⟩), (3, .ptr ⟨b2, 0, none⟩), (7, .int .i64 0)] (AMem.wth m [(b2, .cells [.int .i64 b.kind, .int .i64 b.n, .str b.s, .slice false (b.l.map valIn), .slice false (b.f.map fldIn)]), (b1, .cells [.int .i64 a.kind, .int .i64 a.n, .str a.s, .slice false (a.l.map valIn), .slice false (a.f.map fldIn)])])
 refine hK1 _ _ ?_; clear hK1 K1
 refine awp_block ?_
 refine awp_keep [2, 3, 7] (by decide) ?_
 refine awp_loop_st (σ := Int) (fun i2 => [(2, .ptr ⟨b1, 0, none⟩), (3, .ptr ⟨b2, 0, none⟩), (7, .int .i64 i2)]) (fun _ => (AMem.wth m [(b2, .cells [.int .i64 b.kind, .int .i64 b.n, .str b.s, .slice false (b.l.map valIn), .slice false (b.f.map fldIn)]), (b1, .cells [.int .i64 a.kind, .int .i64 a.n, .str a.s, .slice false (a.l.map valIn), .slice false (a.f.map fldIn)])])) (fun i2 => 0 ≤ i2 ∧ i2 ≤ a.f.length ∧ a.f.take i2.toNat = b.f.take i2.toNat) (fun i2 => a.f.length - i2.toNat) (0) rfl rfl ?_ ?_
 ·
  show 0 ≤ ((0 : Int)) ∧ ((0 : Int)) ≤ a.f.length ∧ a.f.take ((0 : Int)).toNat = b.f.take ((0 : Int)).toNat
  exact ⟨by omega, by omega, rfl⟩
 rintro i2 hI2
 replace hI2 : 0 ≤ i2 ∧ i2 ≤ a.f.length ∧ a.f.take i2.toNat = b.f.take i2.toNat := hI2
 show AWP _ _ _ _ [(2, .ptr ⟨b1, 0, none⟩), (3, .ptr ⟨b2, 0, none⟩), (7, .int .i64 i2)] (AMem.wth m [(b2, .cells [.int .i64 b.kind, .int .i64 b.n, .str b.s, .slice false (b.l.map valIn), .slice false (b.f.map fldIn)]), (b1, .cells [.int .i64 a.kind, .int .i64 a.n, .str a.s, .slice false (a.l.map valIn), .slice false (a.f.map fldIn)])])
 refine awp_seq_k ?_; intro K7 hK7
 refine awp_reg2_seq [] [2, 3, 7, 70] (by decide) ?_
 intro K1 hK1
 refine ⟨trivial, ⟨rfl, by decide⟩, ?_⟩
 refine ar_loadp rfl (v := .slice false (a.f.map fldIn)) rfl (wth_get 1 hNb2 rfl) rfl (apartOk_one rfl rfl (Nat.le_of_ble_eq_true rfl)) rfl ?_
 refine ar_len rfl fldIn a.f rfl rfl rfl ?_
 refine ⟨trivial, ?_⟩
 show K1 [(2, .ptr ⟨b1, 0, none⟩), (3, .ptr ⟨b2, 0, none⟩), (7, .int .i64 i2), (70, .bool (decide (i2 < (a.f.length : Int))))] _
 refine hK1 _ _ ?_; clear hK1 K1
 refine awp_cond rfl rfl (fun h8 => ?_) (fun h8 => ?_)
 ·
  replace h8 : i2 < (a.f.length : Int) := (of_decide_eq_true h8)
  refine awp_skip ?_
  refine hK7 _ _ ?_; clear hK7
  refine awp_seq_k ?_; intro K8 hK8
  refine awp_block ?_
  refine awp_draw_seq Try.mixed [(.bool (vEq ((gI a.f i2).2) ((gI b.f i2).2)))] [2, 3, 7, 8] (by decide) (by decide) ?_
  intro K1 hK1
  refine ⟨⟨rfl, by decide⟩, ?_⟩
  refine pq_loadp rfl (v := .slice false (a.f.map fldIn)) rfl (wth_get 1 hNb2 rfl) (apartOk_one rfl rfl (Nat.le_of_ble_eq_true rfl)) rfl ?_
  refine ⟨trivial, ?_⟩
  refine pq_index rfl fldTop a.f i2 rfl rfl (fldMap a.f) rfl rfl (by decide) (fun _ => rfl) (by omega) (by omega) ?_
  refine ⟨⟨rfl, by decide, (Nat.le_of_ble_eq_true rfl)⟩, (apartOk_agg rfl rfl (Nat.le_of_ble_eq_true rfl)), ⟨rfl, by decide⟩, ?_⟩
  refine pq_loadp rfl (v := .slice false (b.f.map fldIn)) rfl (wth_get 0 hNb2 rfl) (apartOk_one rfl rfl (Nat.le_of_ble_eq_true rfl)) rfl ?_
  refine ⟨trivial, ?_⟩
  refine pq_index rfl fldTop b.f i2 rfl rfl (fldMap b.f) rfl rfl (by decide) (fun _ => rfl) (by omega) (by omega) ?_
  refine ⟨⟨rfl, by decide, (Nat.le_of_ble_eq_true rfl)⟩, (apartOk_agg rfl rfl (Nat.le_of_ble_eq_true rfl)), (fun Kc hKc => ih ((gI a.f i2).2) ((gI b.f i2).2) (by have := depV_eq a; first | (have := depL_mem (gI_mem (l := a.l) (i := i) hI.1 (by assumption)); omega) | (have := depF_mem (gI_mem (l := a.f) (i := i2) hI2.1 (by assumption)); omega)) _ Kc hKc), trivial, ?_⟩
  show K1 [(2, .ptr ⟨b1, 0, none⟩), (3, .ptr ⟨b2, 0, none⟩), (7, .int .i64 i2), (8, .bool (vEq ((gI a.f i2).2) ((gI b.f i2).2)))] (AMem.wth m [(b2, .cells [.int .i64 b.kind, .int .i64 b.n, .str b.s, .slice false (b.l.map valIn), .slice false (b.f.map fldIn)]), (b1, .cells [.int .i64 a.kind, .int .i64 a.n, .str a.s, .slice false (a.l.map valIn), .slice false (a.f.map fldIn)])])
  refine hK1 _ _ ?_; clear hK1 K1
  refine awp_draw_seq Try.mixed [] [2, 3, 7, 102] (by decide) (by decide) ?_
  intro K1 hK1
  suffices key : K1 [(2, .ptr ⟨b1, 0, none⟩), (3, .ptr ⟨b2, 0, none⟩), (7, .int .i64 i2), (102, .bool ((!(vEq ((gI a.f i2).2) ((gI b.f i2).2))) || (!(((gI a.f i2).1) == ((gI b.f i2).1)))))] (AMem.wth m [(b2, .cells [.int .i64 b.kind, .int .i64 b.n, .str b.s, .slice false (b.l.map valIn), .slice false (b.f.map fldIn)]), (b1, .cells [.int .i64 a.kind, .int .i64 a.n, .str a.s, .slice false (a.l.map valIn), .slice false (a.f.map fldIn)])]) by
   refine ⟨trivial, trivial, trivial, ?_⟩
   show pseq _ _ _ _ _ [(88, .bool (!(vEq ((gI a.f i2).2) ((gI b.f i2).2)))), (87, .bool (!(vEq ((gI a.f i2).2) ((gI b.f i2).2)))), (86, .bool (vEq ((gI a.f i2).2) ((gI b.f i2).2))), (2, .ptr ⟨b1, 0, none⟩), (3, .ptr ⟨b2, 0, none⟩), (7, .int .i64 i2), (8, .bool (vEq ((gI a.f i2).2) ((gI b.f i2).2)))] _
   revert key
   cases h9 : (vEq ((gI a.f i2).2) ((gI b.f i2).2))
   ·
    replace h9 : vEq ((gI a.f i2).2) ((gI b.f i2).2) = false := h9
    intro key
    refine pq_off rfl rfl ?_
    refine pq_off rfl rfl ?_
    refine pq_off rfl rfl ?_
    refine pq_off rfl rfl ?_
    refine pq_off rfl rfl ?_
    refine pq_off rfl rfl ?_
    refine pq_off rfl rfl ?_
    refine pq_off rfl rfl ?_
    refine pq_off rfl rfl ?_
    refine pq_off rfl rfl ?_
    refine pq_off rfl rfl ?_
    refine pq_off rfl rfl ?_
    refine pq_off rfl rfl ?_
    refine ⟨trivial, ?_⟩
    exact key
   ·
    replace h9 : vEq ((gI a.f i2).2) ((gI b.f i2).2) = true := h9
    intro key
    refine ⟨⟨rfl, by decide⟩, ?_⟩
    refine pq_loadp rfl (v := .slice false (a.f.map fldIn)) rfl (wth_get 1 hNb2 rfl) (apartOk_one rfl rfl (Nat.le_of_ble_eq_true rfl)) rfl ?_
    refine ⟨trivial, ?_⟩
    refine pq_index rfl fldTop a.f i2 rfl rfl (fldMap a.f) rfl rfl (by decide) (fun _ => rfl) (by omega) (by omega) ?_
    refine ⟨⟨rfl, by decide, (Nat.le_of_ble_eq_true rfl)⟩, (apartOk_one rfl rfl (Nat.le_of_ble_eq_true rfl)), ⟨rfl, by decide⟩, ?_⟩
    refine pq_loadp rfl (v := .slice false (b.f.map fldIn)) rfl (wth_get 0 hNb2 rfl) (apartOk_one rfl rfl (Nat.le_of_ble_eq_true rfl)) rfl ?_
    refine ⟨trivial, ?_⟩
    refine pq_index rfl fldTop b.f i2 rfl rfl (fldMap b.f) rfl rfl (by decide) (fun _ => rfl) (by omega) (by omega) ?_
    refine ⟨⟨rfl, by decide, (Nat.le_of_ble_eq_true rfl)⟩, (apartOk_one rfl rfl (Nat.le_of_ble_eq_true rfl)), trivial, trivial, ?_⟩
    exact key
  refine hK1 _ _ ?_; clear hK1 K1
  refine awp_cond rfl rfl (fun h10 => ?_) (fun h10 => ?_)
  ·
   replace h10 : (vEq ((gI a.f i2).2) ((gI b.f i2).2) = false) ∨ ((gI a.f i2).1 ≠ (gI b.f i2).1) := ((borT h10).imp (fun q => (bnT q)) (fun q => (ne_of_beq_false (bnT q))))
   refine awp_reg2_seq [] [4] (by decide) ?_
   intro K1 hK1
   refine ⟨trivial, ?_⟩
   show K1 [(4, .bool false)] (AMem.wth m [(b2, .cells [.int .i64 b.kind, .int .i64 b.n, .str b.s, .slice false (b.l.map valIn), .slice false (b.f.map fldIn)]), (b1, .cells [.int .i64 a.kind, .int .i64 a.n, .str a.s, .slice false (a.l.map valIn), .slice false (a.f.map fldIn)])])
   refine hK1 _ _ ?_; clear hK1 K1
   refine awp_ret ?_
   refine ⟨trivial, m, (wth_sub2 (m := m) [(b2, .cells [.int .i64 b.kind, .int .i64 b.n, .str b.s, .slice false (b.l.map valIn), .slice false (b.f.map fldIn)]), (b1, .cells [.int .i64 a.kind, .int .i64 a.n, .str a.s, .slice false (a.l.map valIn), .slice false (a.f.map fldIn)])] [] hNb2 (by simp only [List.map_cons, List.map_nil, List.forall_mem_cons]; exact ⟨hFb2, hFb1, fun _ h => by cases h⟩)), ?_⟩
   show K (.bool false) m
  
   rw [vEq_false (by intro hh; subst hh; rw [vEq_true rfl] at h10; simp at h10)] at hK; exact hK
  replace h10 : (vEq ((gI a.f i2).2) ((gI b.f i2).2) = true) ∧ ((gI a.f i2).1 = (gI b.f i2).1) := ⟨(bnF (borL h10)), (eq_of_beq (bnF (borR h10)))⟩
  refine awp_skip ?_
  refine hK8 _ _ ?_; clear hK8
  refine awp_reg2 [] [2, 3, 7] (by decide) ?_
  intro K1 hK1
  refine ⟨trivial, ?_⟩
  refine ar_add rfl (a := i2) (b := 1) rfl rfl (by omega) (by omega) ?_
  refine ⟨trivial, ?_⟩
  show K1 [(2, .ptr ⟨b1, 0, none⟩), (3, .ptr ⟨b2, 0, none⟩), (7, .int .i64 (i2 + 1))] (AMem.wth m [(b2, .cells [.int .i64 b.kind, .int .i64 b.n, .str b.s, .slice false (b.l.map valIn), .slice false (b.f.map fldIn)]), (b1, .cells [.int .i64 a.kind, .int .i64 a.n, .str a.s, .slice false (a.l.map valIn), .slice false (a.f.map fldIn)])])
  refine hK1 _ _ ?_; clear hK1 K1
  refine ⟨(i2 + 1), rfl, rfl, ?_, ?_⟩
  ·
   show 0 ≤ ((i2 + 1 : Int)) ∧ ((i2 + 1 : Int)) ≤ a.f.length ∧ a.f.take ((i2 + 1 : Int)).toNat = b.f.take ((i2 + 1 : Int)).toNat
   exact ⟨by omega, by omega, by rw [take_succ_gI hI2.1 h8, take_succ_gI hI2.1 (by omega), hI2.2.2, Prod.ext h10.2 (vEq_iff.1 h10.1)]⟩
  ·
   show a.f.length - ((i2 + 1 : Int)).toNat < a.f.length - i2.toNat
   omega
 replace h8 : (a.f.length : Int) ≤ i2 := (Int.not_lt.1 (of_decide_eq_false h8))
 refine awp_exit ?_
 refine hK6 _ _ ?_; clear hK6
 refine awp_reg2_seq [] [4] (by decide) ?_
 intro K1 hK1
 refine ⟨trivial, ?_⟩
 show K1 [(4, .bool true)] (AMem.wth m [(b2, .cells [.int .i64 b.kind, .int .i64 b.n, .str b.s, .slice false (b.l.map valIn), .slice false (b.f.map fldIn)]), (b1, .cells [.int .i64 a.kind, .int .i64 a.n, .str a.s, .slice false (a.l.map valIn), .slice false (a.f.map fldIn)])])
 refine hK1 _ _ ?_; clear hK1 K1
 refine awp_ret ?_
 refine ⟨trivial, m, (wth_sub2 (m := m) [(b2, .cells [.int .i64 b.kind, .int .i64 b.n, .str b.s, .slice false (b.l.map valIn), .slice false (b.f.map fldIn)]), (b1, .cells [.int .i64 a.kind, .int .i64 a.n, .str a.s, .slice false (a.l.map valIn), .slice false (a.f.map fldIn)])] [] hNb2 (by simp only [List.map_cons, List.map_nil, List.forall_mem_cons]; exact ⟨hFb2, hFb1, fun _ h => by cases h⟩)), ?_⟩
 show K (.bool true) m

 rw [vEq_true (Val.ext' hk hn hs (by have := hI.2.2; rwa [take_full (by omega), take_full (by omega)] at this) (by have := hI2.2.2; rwa [take_full (by omega), take_full (by omega)] at this))] at hK; exact hK


theorem u_RAlike2 : ∀ (n : Nat) (a b : Val), depV a < n → ∀ (m : AMem) (K : AV → AMem → Prop), K (.bool (vEq a b)) m → ACalls Try.prog 86 [valTop a, valTop b] m K
  | 0, _, _, h => absurd h (Nat.not_lt_zero _)
  | n + 1, a, b, h => fun m K hK => u_RAlike1 a b (fun v w hv => u_RAlike2 n v w (by omega)) m K hK
theorem u_RAlike (a b : Val) (m : AMem) (K : AV → AMem → Prop) (hK : K (.bool (vEq a b)) m) : ACalls Try.prog 86 [valTop a, valTop b] m K := u_RAlike2 (depV a + 1) a b (Nat.lt_succ_self _) m K hK

set_option maxHeartbeats 2000000 in
theorem u_SameThing (a b : Thg)  (m : AMem)  (K : AV → AMem → Prop) (hK : K (.bool (((a.id == b.id) && (a.kind == b.kind)) && vEq a.v b.v)) m) : ACalls Try.prog 54 [thgAV a, thgAV b] m K := by
 refine acalls_enter Try.func54 rfl (by decide) (Nat.le_of_ble_eq_true rfl) ?_
 show AWP _ _ _ _ [(0, thgAV a), (1, thgAV b)] m
 refine awp_reg2_seq [] [2, 3] (by decide) ?_
 intro K1 hK1
 refine ar_box rfl (m := m) (L := []) (v := thgAV a) (by rfl) rfl ?_
 intro b1 hb1
 have hFb1 : m b1 = none := wth_none (m := m) (L := []) hb1
 have hNb1 : ([b1] : List Nat).Nodup := wth_nodup (m := m) (L := []) hb1 List.nodup_nil
 refine ar_box rfl (m := m) (L := [(b1, .cells [.int .i64 a.id, .str a.kind, .int .i64 a.v.kind, .int .i64 a.v.n, .str a.v.s, .slice false (a.v.l.map valIn), .slice false (a.v.f.map fldIn)])]) (v := thgAV b) (by rfl) rfl ?_
 intro b2 hb2
 have hFb2 : m b2 = none := wth_none hb2
 have hNb2 : ([b2, b1] : List Nat).Nodup := wth_nodup hb2 hNb1
 refine ⟨trivial, ?_⟩
 show K1 [(2, .ptr ⟨b1, 0, none⟩), (3, .ptr ⟨b2, 0, none⟩)] (AMem.wth m [(b2, .cells [.int .i64 b.id, .str b.kind, .int .i64 b.v.kind, .int .i64 b.v.n, .str b.v.s, .slice false (b.v.l.map valIn), .slice false (b.v.f.map fldIn)]), (b1, .cells [.int .i64 a.id, .str a.kind, .int .i64 a.v.kind, .int .i64 a.v.n, .str a.v.s, .slice false (a.v.l.map valIn), .slice false (a.v.f.map fldIn)])])
 refine hK1 _ _ ?_; clear hK1 K1
 refine awp_reg2_seq [] [2, 3, 5] (by decide) ?_
 intro K1 hK1
 refine ⟨⟨rfl, by decide⟩, ?_⟩
 refine ar_loadp rfl (v := .agg [.int .i64 a.v.kind, .int .i64 a.v.n, .str a.v.s, .slice false (a.v.l.map valIn), .slice false (a.v.f.map fldIn)]) rfl (wth_get 1 hNb2 rfl) rfl (apartOk_agg rfl rfl (Nat.le_of_ble_eq_true rfl)) rfl ?_
 refine ⟨⟨rfl, by decide⟩, ?_⟩
 refine ar_loadp rfl (v := .agg [.int .i64 b.v.kind, .int .i64 b.v.n, .str b.v.s, .slice false (b.v.l.map valIn), .slice false (b.v.f.map fldIn)]) rfl (wth_get 0 hNb2 rfl) rfl (apartOk_agg rfl rfl (Nat.le_of_ble_eq_true rfl)) rfl ?_
 refine u_RAlike a.v b.v _ _ ?_
 refine ⟨trivial, ?_⟩
 show K1 [(2, .ptr ⟨b1, 0, none⟩), (3, .ptr ⟨b2, 0, none⟩), (5, .bool (vEq a.v b.v))] _
 refine hK1 _ _ ?_; clear hK1 K1
 refine awp_reg2_seq [] [4] (by decide) ?_
 intro K1 hK1
 suffices key : K1 [(4, .bool (((a.id == b.id) && (a.kind == b.kind)) && (vEq a.v b.v)))] (AMem.wth m [(b2, .cells [.int .i64 b.id, .str b.kind, .int .i64 b.v.kind, .int .i64 b.v.n, .str b.v.s, .slice false (b.v.l.map valIn), .slice false (b.v.f.map fldIn)]), (b1, .cells [.int .i64 a.id, .str a.kind, .int .i64 a.v.kind, .int .i64 a.v.n, .str a.v.s, .slice false (a.v.l.map valIn), .slice false (a.v.f.map fldIn)])]) by
  refine ⟨⟨rfl, by decide⟩, ?_⟩
  refine ar_loadp rfl (v := .int .i64 a.id) rfl (wth_get 1 hNb2 rfl) rfl (apartOk_one rfl rfl (Nat.le_of_ble_eq_true rfl)) rfl ?_
  refine ⟨⟨rfl, by decide⟩, ?_⟩
  refine ar_loadp rfl (v := .int .i64 b.id) rfl (wth_get 0 hNb2 rfl) rfl (apartOk_one rfl rfl (Nat.le_of_ble_eq_true rfl)) rfl ?_
  refine ⟨trivial, trivial, ?_⟩
  show aopsR _ _ _ _ _ [(16, .bool (a.id == b.id)), (15, .bool (a.id == b.id)), (14, .int .i64 b.id), (13, .ptr ⟨b2, 0, none⟩), (12, .int .i64 a.id), (11, .ptr ⟨b1, 0, none⟩), (2, .ptr ⟨b1, 0, none⟩), (3, .ptr ⟨b2, 0, none⟩), (5, .bool (vEq a.v b.v))] _
  revert key
  cases h1 : (a.id == b.id)
  ·
   replace h1 : a.id ≠ b.id := (ne_of_beq_false h1)
   intro key
   refine ar_off rfl (ar_off rfl (ar_off rfl (ar_off rfl (ar_off rfl ?_))))
   refine ⟨trivial, ?_⟩
   refine ar_off rfl ?_
   refine ⟨trivial, ?_⟩
   exact key
  ·
   replace h1 : a.id = b.id := (eq_of_beq h1)
   intro key
   refine ⟨⟨rfl, by decide⟩, ?_⟩
   refine ar_loadp rfl (v := .str a.kind) rfl (wth_get 1 hNb2 rfl) rfl (apartOk_one rfl rfl (Nat.le_of_ble_eq_true rfl)) rfl ?_
   refine ⟨⟨rfl, by decide⟩, ?_⟩
   refine ar_loadp rfl (v := .str b.kind) rfl (wth_get 0 hNb2 rfl) rfl (apartOk_one rfl rfl (Nat.le_of_ble_eq_true rfl)) rfl ?_
   refine ⟨trivial, ?_⟩
   refine ⟨trivial, ?_⟩
   show aopsR _ _ _ _ _ [(23, .bool (a.kind == b.kind)), (22, .bool (a.kind == b.kind)), (21, .bool (a.kind == b.kind)), (20, .str b.kind), (19, .ptr ⟨b2, 1, none⟩), (18, .str a.kind), (17, .ptr ⟨b1, 1, none⟩), (16, .bool true), (15, .bool true), (14, .int .i64 b.id), (13, .ptr ⟨b2, 0, none⟩), (12, .int .i64 a.id), (11, .ptr ⟨b1, 0, none⟩), (2, .ptr ⟨b1, 0, none⟩), (3, .ptr ⟨b2, 0, none⟩), (5, .bool (vEq a.v b.v))] _
   revert key
   cases h2 : (a.kind == b.kind)
   ·
    replace h2 : a.kind ≠ b.kind := (ne_of_beq_false h2)
    intro key
    refine ar_off rfl ?_
    refine ⟨trivial, ?_⟩
    exact key
   ·
    replace h2 : a.kind = b.kind := (eq_of_beq h2)
    intro key
    refine ⟨trivial, ?_⟩
    refine ⟨trivial, ?_⟩
    exact key
 refine hK1 _ _ ?_; clear hK1 K1
 refine awp_ret ?_
 refine ⟨trivial, m, (wth_sub2 (m := m) [(b2, .cells [.int .i64 b.id, .str b.kind, .int .i64 b.v.kind, .int .i64 b.v.n, .str b.v.s, .slice false (b.v.l.map valIn), .slice false (b.v.f.map fldIn)]), (b1, .cells [.int .i64 a.id, .str a.kind, .int .i64 a.v.kind, .int .i64 a.v.n, .str a.v.s, .slice false (a.v.l.map valIn), .slice false (a.v.f.map fldIn)])] [] hNb2 (by simp only [List.map_cons, List.map_nil, List.forall_mem_cons]; exact ⟨hFb2, hFb1, fun _ h => by cases h⟩)), ?_⟩
 show K (.bool (((a.id == b.id) && (a.kind == b.kind)) && (vEq a.v b.v))) m

 exact hK

end Go.Proofs
end
section
namespace Go.Proofs
open Go Go.Aw
set_option maxRecDepth 100000


/-- What TopToken knows of its cloud and its disk behind n calls. -/
structure TK (c : ClSt) (s : DSt) (n : Nat) : Prop where
  okd : Okd s
  st0 : 0 ≤ s.steps
  st1 : s.steps ≤ n
  fl : c.fails = []
  nx0 : 1 ≤ c.next
  nx1 : c.next ≤ n + 1
  ca0 : 0 ≤ c.calls
  ca1 : c.calls ≤ n
  tl : c.things.length ≤ n
  ol : c.tokens.length ≤ n
  nd : (c.things.map Prod.fst).Nodup
  ids : ∀ p ∈ c.things, p.2.id = p.1 ∧ (1 ≤ p.1 ∧ p.1 < c.next) ∧ chk p.2.v = 0
theorem TK.mono {c : ClSt} {s : DSt} {n m : Nat} (h : TK c s n) (hm : n ≤ m) : TK c s m :=
  ⟨h.okd, h.st0, by have := h.st1; omega, h.fl, h.nx0, by have := h.nx1; omega, h.ca0, by have := h.ca1; omega, by have := h.tl; omega, by have := h.ol; omega, h.nd, h.ids⟩
/-- What a token did. -/
def tokX (c : ClSt) (t : Str) (op : Int) : Dn × Bool × Int :=
  if (mget c.tokens t).isSome = false then (zD, false, 0) else if ((mget c.tokens t).getD zD).op = op then ((mget c.tokens t).getD zD, true, 0) else (zD, false, 15)
theorem TK.call {c : ClSt} {s : DSt} {n : Nat} (h : TK c s n) (t : Str) (op : Int) : callR c s t op = (({ c with calls := c.calls + 1 }, (stepF s).1), tokX c t op) := by
  have k := stepF_ok h.okd
  have e : (mget c.fails c.calls).getD false = false := by rw [h.fl]; rfl
  unfold tokX
  cases q : mget c.tokens t with
  | none => rw [callR_4 k.1 e (.inl (by rw [q]; rfl)), q]; rfl
  | some d =>
    by_cases hd : d.op = op
    · rw [callR_4 k.1 e (.inr (by rw [q]; exact hd)), q]
      rw [if_neg (by simp), if_pos (show ((some d).getD zD).op = op from hd)]; rfl
    · rw [callR_3 k.1 e (by rw [q]; exact ⟨rfl, hd⟩)]
      rw [if_neg (by simp), if_neg (show ¬ ((some d).getD zD).op = op from hd)]
theorem TK.callsE {c : ClSt} {s : DSt} {n : Nat} (h : TK c s n) (t : Str) (op : Int) : ccalls c s t op = c.calls + 1 := by rw [ccalls, h.call]
theorem TK.callT {c : ClSt} {s : DSt} {n : Nat} (h : TK c s n) (t : Str) (op : Int) : Go.Proofs.callT c s t op = tokX c t op := by rw [Go.Proofs.callT, h.call]
theorem TK.step {c : ClSt} {s : DSt} {n : Nat} (h : TK c s n) : TK { c with calls := c.calls + 1 } (stepF s).1 (n + 1) := by
  have k := stepF_ok h.okd
  have q := stepF_steps s
  exact ⟨k.2, by have := h.st0; omega, by have := h.st1; omega, h.fl, h.nx0, by show c.next ≤ _; have := h.nx1; omega, by show 0 ≤ c.calls + 1; have := h.ca0; omega, by show c.calls + 1 ≤ _; have := h.ca1; omega, by show c.things.length ≤ _; have := h.tl; omega, by show c.tokens.length ≤ _; have := h.ol; omega, h.nd, h.ids⟩
/-- A call of which something comes. -/
structure Twice (c : ClSt) (s : DSt) (r1 r2 : (ClSt × DSt) × Int) (n : Nat) : Prop where
  k1 : TK r1.1.1 r1.1.2 (n + 1)
  k2 : TK r2.1.1 r2.1.2 (n + 2)
  er : r2.2 = r1.2
  th : r1.2 = 0 → r2.1.1.things = r1.1.1.things
  m1 : c.next ≤ r1.1.1.next
  m2 : r1.1.1.next ≤ r2.1.1.next
structure Twice2 (c : ClSt) (s : DSt) (r1 r2 : (ClSt × DSt) × (Int × Int)) (n : Nat) : Prop where
  k1 : TK r1.1.1 r1.1.2 (n + 1)
  k2 : TK r2.1.1 r2.1.2 (n + 2)
  er : r2.2.2 = r1.2.2
  th : r1.2.2 = 0 → r2.1.1.things = r1.1.1.things
  m1 : c.next ≤ r1.1.1.next
  m2 : r1.1.1.next ≤ r2.1.1.next
  id : r1.2.2 = 0 → r2.2.1 = r1.2.1
  nw : r1.2.2 = 0 → c.things.length < r1.1.1.things.length → r1.2.1 = c.next ∧ r1.1.1.next = c.next + 1
theorem tokX_put {c c' : ClSt} {t : Str} {op id : Int} (h : c'.tokens = mput c.tokens t ⟨op, id⟩) : tokX c' t op = (⟨op, id⟩, true, 0) := by
  unfold tokX
  rw [h, mget_mputG, if_pos rfl]
  rw [if_neg (by simp), if_pos (by rfl)]; rfl
theorem tokX_eq {c c' : ClSt} {t : Str} {op : Int} (h : c'.tokens = c.tokens) : tokX c' t op = tokX c t op := by unfold tokX; rw [h]
section
variable {c : ClSt} {s : DSt} {n : Nat} {token kind : Str} {v : Val} {id : Int}
theorem TK.create_1 (h : TK c s n) (ha : attrE v = 0) (hk : nameV kind = true) (hx : (tokX c token 1).2.2 ≠ 0 ∨ (tokX c token 1).2.1 = true) : createR c s token kind v = (({ c with calls := c.calls + 1 }, (stepF s).1), ((tokX c token 1).1.id, (tokX c token 1).2.2)) := by
  rw [createR_3 ha hk (by rw [h.callT]; exact hx), h.callT, h.callsE]
theorem TK.create_2 (h : TK c s n) (ha : attrE v = 0) (hk : nameV kind = true) (hx : (tokX c token 1).2.2 = 0 ∧ (tokX c token 1).2.1 = false) (hq : c.quota ≤ c.things.length) : createR c s token kind v = (({ c with calls := c.calls + 1 }, (stepF s).1), (0, 13)) := by
  rw [createR_4 ha hk (by rw [h.callT]; exact hx) hq, h.callsE]
theorem TK.create_3 (h : TK c s n) (ha : attrE v = 0) (hk : nameV kind = true) (hx : (tokX c token 1).2.2 = 0 ∧ (tokX c token 1).2.1 = false) (hq : (c.things.length : Int) < c.quota) : createR c s token kind v = (({ c with calls := c.calls + 1, next := c.next + 1, things := mput c.things c.next ⟨c.next, kind, v⟩, tokens := mput c.tokens token ⟨1, c.next⟩ }, (stepF s).1), (c.next, 0)) := by
  rw [createR_5 ha hk (by rw [h.callT]; exact hx) hq, h.callsE]
theorem TK.twiceSame2 (h : TK c s n) {e : Int} (he : e ≠ 0) : Twice2 c s ((c, s), (0, e)) ((c, s), (0, e)) n :=
  ⟨h.mono (by omega), h.mono (by omega), rfl, fun _ => rfl, Int.le_refl _, Int.le_refl _, fun _ => rfl, fun k => absurd k he⟩
theorem TK.put (h : TK c s n) {t : Thg} {op : Int} (ht : t.id = id) (h1 : 1 ≤ id) (h2 : id < c.next) (hv : chk t.v = 0) (hl : (mget c.things id).isSome = true) : TK { c with calls := c.calls + 1, things := mput c.things id t, tokens := mput c.tokens token ⟨op, id⟩ } (stepF s).1 (n + 1) := by
  have k := h.step
  refine ⟨k.okd, k.st0, k.st1, k.fl, k.nx0, k.nx1, k.ca0, k.ca1, ?_, ?_, mput_ndG h.nd, ?_⟩
  · show (mput c.things id t).length ≤ _
    rw [mput_len_some hl]; have := h.tl; omega
  · show (mput c.tokens token _).length ≤ _
    have := mput_len c.tokens token ⟨op, id⟩; have := h.ol; omega
  · intro p hp
    rcases mput_memG hp with rfl | hp
    · exact ⟨ht, ⟨h1, h2⟩, hv⟩
    · exact h.ids p hp
theorem TK.new (h : TK c s n) (hv : chk v = 0) : TK { c with calls := c.calls + 1, next := c.next + 1, things := mput c.things c.next ⟨c.next, kind, v⟩, tokens := mput c.tokens token ⟨1, c.next⟩ } (stepF s).1 (n + 1) := by
  have k := h.step
  refine ⟨k.okd, k.st0, k.st1, k.fl, ?_, ?_, k.ca0, k.ca1, ?_, ?_, mput_ndG h.nd, ?_⟩
  · show 1 ≤ c.next + 1; have := h.nx0; omega
  · show c.next + 1 ≤ _; have := h.nx1; omega
  · show (mput c.things c.next _).length ≤ _
    have := mput_len c.things c.next ⟨c.next, kind, v⟩; have := h.tl; omega
  · show (mput c.tokens token _).length ≤ _
    have := mput_len c.tokens token ⟨1, c.next⟩; have := h.ol; omega
  · intro p hp
    have hnx := h.nx0
    rcases mput_memG hp with rfl | hp
    · exact ⟨rfl, ⟨hnx, by show c.next < c.next + 1; omega⟩, hv⟩
    · have := h.ids p hp
      exact ⟨this.1, ⟨this.2.1.1, by show p.1 < c.next + 1; omega⟩, this.2.2⟩
theorem TK.del (h : TK c s n) {op : Int} : TK { c with calls := c.calls + 1, things := mdel c.things id, tokens := mput c.tokens token ⟨op, id⟩ } (stepF s).1 (n + 1) := by
  have k := h.step
  refine ⟨k.okd, k.st0, k.st1, k.fl, k.nx0, k.nx1, k.ca0, k.ca1, ?_, ?_, mdel_ndG h.nd, ?_⟩
  · show (mdel c.things id).length ≤ _
    have := mdel_len c.things id; have := h.tl; omega
  · show (mput c.tokens token _).length ≤ _
    have := mput_len c.tokens token ⟨op, id⟩; have := h.ol; omega
  · intro p hp
    exact h.ids p ((mdel_subG _ _).subset hp)
theorem TK.create2 (h : TK c s n) : Twice2 c s (createR c s token kind v) (createR (createR c s token kind v).1.1 (createR c s token kind v).1.2 token kind v) n := by
  by_cases ha : attrE v = 0
  · cases hk : nameV kind
    · rw [createR_2 ha hk, createR_2 ha hk]; exact h.twiceSame2 (by decide)
    · by_cases hx : (tokX c token 1).2.2 ≠ 0 ∨ (tokX c token 1).2.1 = true
      · rw [h.create_1 ha hk hx, h.step.create_1 ha hk (by rw [tokX_eq rfl]; exact hx), tokX_eq rfl]
        exact ⟨h.step, h.step.step, rfl, fun _ => rfl, Int.le_refl _, Int.le_refl _, fun _ => rfl, fun _ k => absurd k (Nat.lt_irrefl _)⟩
      · have hx : (tokX c token 1).2.2 = 0 ∧ (tokX c token 1).2.1 = false := by simpa [not_or] using hx
        by_cases hq : c.quota ≤ c.things.length
        · rw [h.create_2 ha hk hx hq, h.step.create_2 ha hk (by rw [tokX_eq rfl]; exact hx) hq]
          exact ⟨h.step, h.step.step, rfl, fun _ => rfl, Int.le_refl _, Int.le_refl _, fun _ => rfl, fun k => absurd k (show ¬ (13 : Int) = 0 by decide)⟩
        · have k1 := h.new (token := token) (kind := kind) (attrE_0 ha)
          rw [h.create_3 ha hk hx (by omega), k1.create_1 ha hk (by rw [tokX_put rfl]; exact .inr rfl), tokX_put rfl]
          exact ⟨k1, k1.step, rfl, fun _ => rfl, by show c.next ≤ c.next + 1; omega, Int.le_refl _, fun _ => rfl, fun _ _ => ⟨rfl, rfl⟩⟩
  · rw [createR_1 ha, createR_1 ha]; exact h.twiceSame2 ha
end

end Go.Proofs
end
section
namespace Go.Proofs
open Go Go.Aw
set_option maxRecDepth 100000


def cZ : ClSt := ⟨[], [], 1, 20, 0, []⟩
def vZ : Val := ⟨5, 0, [], [], []⟩
def rZ : (ClSt × DSt) × (Int × Int) := createR cZ s0 ([102, 105, 114, 115, 116] : List UInt8) ([118, 109] : List UInt8) vZ
def c1 : ClSt := rZ.1.1
def s1 : DSt := rZ.1.2
theorem TK.start : TK cZ s0 0 := ⟨⟨rfl, rfl⟩, Int.le_refl _, Int.le_refl _, rfl, by decide, by decide, Int.le_refl _, Int.le_refl _, Nat.le_refl _, Nat.le_refl _, List.nodup_nil, fun p hp => by cases hp⟩
theorem rZ_eq : rZ = (({ cZ with calls := 1, next := 2, things := [(1, ⟨1, ([118, 109] : List UInt8), vZ⟩)], tokens := [(([102, 105, 114, 115, 116] : List UInt8), ⟨1, 1⟩)] }, (stepF s0).1), (1, 0)) := by
  unfold rZ
  rw [TK.start.create_3 (by rfl) (by decide) ⟨rfl, rfl⟩ (by decide)]
  rfl
theorem TK.one : TK c1 s1 1 ∧ c1.next = 2 := ⟨(TK.start.create2 (token := ([102, 105, 114, 115, 116] : List UInt8)) (kind := ([118, 109] : List UInt8)) (v := vZ)).k1, by show rZ.1.1.next = 2; rw [rZ_eq]⟩
theorem acts_bdC {l : List ActT} (h : bdL (l.map actAV)) : ∀ a ∈ l, a.s.length ≤ 140737488355328 ∧ a.t.length ≤ 140737488355328 ∧ a.a ≤ 9223372036854775807 := fun a ha =>
  ⟨bdL_map (f := actAV) h ha 1 (by simp [actAV, AV.cells]), bdL_map (f := actAV) h ha 2 (by simp [actAV, AV.cells]), (bdL_map (f := actAV) h ha 3 (by simp [actAV, AV.cells])).2⟩
theorem allT_len (c : ClSt) : (allT c).length = c.things.length := by unfold allT; rw [sortT_len, List.length_map]
theorem u_CreateK (x d tb ob fb kb nb : Nat) (c : ClSt) (s : DSt) (token kind : Str) (v : Val) (n : Nat) (r : (ClSt × DSt) × (Int × Int)) (hr : createR c s token kind v = r) (hN : [x, d, tb, ob, fb].Nodup) (h : TK c s n) (hn : n ≤ 1000) (hkd : kind.length ≤ 140737488355328) (m : AMem) (K : AV → AMem → Prop)
    (hK : K (.tuple [.int .i64 r.2.1, .err 108 r.2.2]) (AMem.wth m [(x, cObj d tb ob fb r.1.1), (d, dObj kb nb r.1.2), (tb, tObj r.1.1.things), (ob, oObj r.1.1.tokens), (fb, fObj r.1.1.fails)])) :
    ACalls Try.prog 48 [.ptr ⟨x, 0, none⟩, .str token, .str kind, valTop v] (AMem.wth m [(x, cObj d tb ob fb c), (d, dObj kb nb s), (tb, tObj c.things), (ob, oObj c.tokens), (fb, fObj c.fails)]) K := by
  subst hr
  have h1 := h.st1; have h2 := h.ca1; have h3 := h.nx1; have h4 := h.tl; have h5 := h.ol; have h6 := h.okd.2; have h7 := h.nx0
  exact u_Create x d tb ob fb kb nb c s token kind v hN hkd h.st0 (by omega) (by omega) (by omega) h.ca0 (by omega) (by omega) (by omega) (by omega) (by omega) m K hK
theorem u_AllK (x d tb ob fb : Nat) (c : ClSt) (s : DSt) (n : Nat) (l : List Thg) (hl : allT c = l) (hN : [x, tb].Nodup) (h : TK c s n) (hn : n ≤ 1000) (m : AMem) (K : AV → AMem → Prop) (hK : K (.slice false (l.map thgAV)) (AMem.wth m [(x, cObj d tb ob fb c), (tb, tObj c.things)])) :
    ACalls Try.prog 62 [.ptr ⟨x, 0, none⟩] (AMem.wth m [(x, cObj d tb ob fb c), (tb, tObj c.things)]) K := by
  subst hl
  have h4 := h.tl; have h3 := h.nx1
  exact u_All x d tb ob fb c hN (by omega) h.nd (fun p hp => by have q := h.ids p hp; exact ⟨q.1, ⟨q.2.1.1, by omega⟩, q.2.2⟩) m K hK
theorem Twice.back {c : ClSt} {s : DSt} {r1 r2 : (ClSt × DSt) × Int} {n N : Nat} {last : Int} (h : Twice c s r1 r2 n) (hl : 1 ≤ last ∧ last < c.next) (hm : n + 2 ≤ N) : TK r2.1.1 r2.1.2 N ∧ 1 ≤ last ∧ last < r2.1.1.next :=
  ⟨h.k2.mono hm, hl.1, by have := h.m1; have := h.m2; omega⟩
theorem Twice2.back {c : ClSt} {s : DSt} {r1 r2 : (ClSt × DSt) × (Int × Int)} {n N : Nat} {last : Int} (h : Twice2 c s r1 r2 n) (hl : 1 ≤ last ∧ last < c.next) (hm : n + 2 ≤ N) : TK r2.1.1 r2.1.2 N ∧ 1 ≤ last ∧ last < r2.1.1.next :=
  ⟨h.k2.mono hm, hl.1, by have := h.m1; have := h.m2; omega⟩
theorem Twice2.new {c : ClSt} {s : DSt} {r1 r2 : (ClSt × DSt) × (Int × Int)} {n : Nat} (h : Twice2 c s r1 r2 n) (hc : (r1.2.2 == 0) = true) (hl : ((allT c).length : Int) < (allT r1.1.1).length) : r1.2.1 = c.next ∧ r1.1.1.next = c.next + 1 := by
  rw [allT_len, allT_len] at hl
  exact h.nw (eq_of_beq hc) (by omega)
theorem casesB {p : Prop} (b : Bool) (h1 : b = true → p) (h2 : b = false → p) : p := by
  cases q : b
  · exact h2 q
  · exact h1 q
def actObj (x : ActT) : AObj := .cells [.str x.kind, .str x.s, .str x.t, .int .i64 x.a, .int .i64 x.b, .int .i64 x.v.kind, .int .i64 x.v.n, .str x.v.s, .slice false (x.v.l.map valIn), .slice false (x.v.f.map fldIn), .slice false (x.names.map strAV)]

end Go.Proofs
end

import Derived.Test.YtoeghipbkmaccaaProg
import Derived.Test.YtoeghipbkmaccaaWl5
import Derived.Test.YtoeghipbkmaccaaCl9
import Derived.Test.YtoeghipbkmaccaaDk8
namespace Go.Proofs
open Go Go.Aw
set_option maxRecDepth 100000


structure Dn3 where
  tok : Str
  op : Int
  id : Int
instance : Inhabited Dn3 := ⟨⟨[], 0, 0⟩⟩
def dn3AV (x : Dn3) : AV := .agg [.str x.tok, .int .i64 x.op, .int .i64 x.id]
def toksR (l : List (Str × Dn)) : List Dn3 := l.map fun p => ⟨p.1, p.2.op, p.2.id⟩
/-- The document's cloud, told by the program's. -/
def rcObj (e : Nat) (av : AV) (c : ClSt) (F : List Int) : AObj := .cells [.ptr ⟨e, 0, none⟩, av, .slice true ((toksR c.tokens).map dn3AV), .int .i64 c.next, .int .i64 c.quota, .int .i64 c.calls, .slice true (F.map intAV)]
def placeF : List Thg → Int → Int → Int
  | [], _, _ => -1
  | t :: r, id, i => if t.id = id then i else placeF r id (i + 1)
def placeR (l : List Thg) (id : Int) : Int := placeF l id 0
def vals (c : ClSt) : List Thg := c.things.map Prod.snd
theorem gI_takeK {α : Type} [Inhabited α] (l : List α) {k : Nat} {i : Int} (h0 : 0 ≤ i) (h : i < k) : gI (l.take k) i = gI l i := by
  unfold gI
  simp only [List.getD_eq_getElem?_getD]
  rw [List.getElem?_take_of_lt (by omega)]
theorem placeF_step {l : List Thg} {id i : Int} (h0 : 0 ≤ i) (hi : i < l.length) : placeF (l.drop i.toNat) id i = if (gI l i).id = id then i else placeF (l.drop (i + 1).toNat) id (i + 1) := by
  rw [drop_gI h0 hi, placeF]
theorem placeF_idx (id : Int) : ∀ (L : List (Int × Thg)) (i : Int), (∀ p ∈ L, p.2.id = p.1) → placeF (L.map Prod.snd) id i = match midx L id with | none => -1 | some j => i + (j : Int)
  | [], _, _ => rfl
  | (a, t) :: r, i, h => by
    have ht := h (a, t) (List.mem_cons_self ..)
    simp only at ht
    rw [List.map_cons, placeF, midx]
    by_cases e : a = id
    · rw [if_pos (by rw [ht]; exact e), if_pos e]; simp
    · rw [if_neg (by rw [ht]; exact e), if_neg e, placeF_idx id r (i + 1) fun p hp => h p (List.mem_cons_of_mem _ hp)]
      cases midx r id with
      | none => rfl
      | some j => show i + 1 + (j : Int) = i + ((j + 1 : Nat) : Int); omega
/-- Where a thing stands. -/
theorem place_at {c : ClSt} (h : ∀ p ∈ c.things, p.2.id = p.1) (id : Int) : (placeR (vals c) id = -1 ∧ mget c.things id = none) ∨ (0 ≤ placeR (vals c) id ∧ placeR (vals c) id < (vals c).length ∧ mget c.things id = some (gI (vals c) (placeR (vals c) id)) ∧ ∀ t, (mput c.things id t).map Prod.snd = (vals c).set (placeR (vals c) id).toNat t) := by
  have e := placeF_idx id c.things 0 h
  rw [show placeF (c.things.map Prod.snd) id 0 = placeR (vals c) id from rfl] at e
  cases hm : midx c.things id with
  | none => rw [hm] at e; exact .inl ⟨e, (midx_none hm).1⟩
  | some j =>
    rw [hm] at e
    obtain ⟨b, h1, h2, _, h4⟩ := midx_some hm
    have hj := (List.getElem?_eq_some_iff.1 h1).1
    replace e : placeR (vals c) id = (j : Int) := by rw [e]; simp
    refine .inr ⟨by omega, by rw [e]; unfold vals; rw [List.length_map]; omega, ?_, fun t => ?_⟩
    · rw [h2, e]; unfold gI vals
      simp [List.getD_eq_getElem?_getD, h1]
    · rw [h4, e]; unfold vals
      rw [List.map_set]; rfl
theorem u_place_nil (r e : Nat) (c : ClSt) (F : List Int) (id : Int)  (m : AMem)  (K : AV → AMem → Prop) (hK : K (.int .i64 (-1)) (AMem.wth m [(r, rcObj e .nils c F)])) : ACalls Try.prog 85 [.ptr ⟨r, 0, none⟩, .int .i64 id] (AMem.wth m [(r, rcObj e .nils c F)]) K := by
 refine acalls_enter Try.func85 rfl (by decide) (Nat.le_of_ble_eq_true rfl) ?_
 show AWP _ _ _ _ [(0, .ptr ⟨r, 0, none⟩), (1, .int .i64 id)] (AMem.wth m [(r, rcObj e .nils c F)])
 refine awp_reg2_seq [] [0, 1] (by decide) ?_
 intro K1 hK1
 refine ⟨trivial, ?_⟩
 show K1 [(0, .ptr ⟨r, 0, none⟩), (1, .int .i64 id)] (AMem.wth m [(r, rcObj e .nils c F)])
 refine hK1 _ _ ?_; clear hK1 K1
 refine awp_seq_k ?_; intro K2 hK2
 refine awp_reg2_seq [] [0, 1, 5] (by decide) ?_
 intro K1 hK1
 refine ⟨trivial, ?_⟩
 show K1 [(0, .ptr ⟨r, 0, none⟩), (1, .int .i64 id), (5, .int .i64 0)] (AMem.wth m [(r, rcObj e .nils c F)])
 refine hK1 _ _ ?_; clear hK1 K1
 refine awp_block ?_
 refine awp_keep [0, 1, 5] (by decide) ?_
 refine awp_loop_st (σ := Int) (fun i => [(0, .ptr ⟨r, 0, none⟩), (1, .int .i64 id), (5, .int .i64 i)]) (fun _ => (AMem.wth m [(r, rcObj e .nils c F)])) (fun i => i = 0) (fun i => 1) (0) rfl rfl ?_ ?_
 ·
  show ((0 : Int)) = 0
  rfl
 rintro i hI
 replace hI : i = 0 := hI
 show AWP _ _ _ _ [(0, .ptr ⟨r, 0, none⟩), (1, .int .i64 id), (5, .int .i64 i)] (AMem.wth m [(r, rcObj e .nils c F)])
 refine awp_seq_k ?_; intro K3 hK3
 refine awp_reg2_seq [] [0, 1, 5, 12] (by decide) ?_
 intro K1 hK1
 refine ⟨trivial, trivial, trivial, ⟨rfl, by decide⟩, ?_⟩
 refine ar_loadp rfl (v := .nils) rfl (wth_get 0 (nodup_1 r) rfl) rfl (apartOk_one rfl rfl (Nat.le_of_ble_eq_true rfl)) rfl ?_
 refine ⟨trivial, trivial, ?_⟩
 show K1 [(0, .ptr ⟨r, 0, none⟩), (1, .int .i64 id), (5, .int .i64 i), (12, .bool (decide (i < 0)))] (AMem.wth m [(r, rcObj e .nils c F)])
 refine hK1 _ _ ?_; clear hK1 K1
 refine awp_cond rfl rfl (fun h1 => ?_) (fun h1 => ?_)
 ·
  replace h1 : i < 0 := (of_decide_eq_true h1)
  omega
 replace h1 : 0 ≤ i := (Int.not_lt.1 (of_decide_eq_false h1))
 refine awp_exit ?_
 refine hK2 _ _ ?_; clear hK2
 refine awp_reg2_seq [] [4] (by decide) ?_
 intro K1 hK1
 refine ⟨trivial, ?_⟩
 show K1 [(4, .int .i64 (-1))] (AMem.wth m [(r, rcObj e .nils c F)])
 refine hK1 _ _ ?_; clear hK1 K1
 refine awp_ret ?_
 refine ⟨trivial, (AMem.wth m [(r, rcObj e .nils c F)]), fun _ _ h => h, ?_⟩
 show K (.int .i64 (-1)) (AMem.wth m [(r, rcObj e .nils c F)])

 exact hK

set_option maxHeartbeats 2000000 in
theorem u_place_ms (r e b k : Nat) (zs : List Thg) (c : ClSt) (F : List Int) (id : Int) (hN : [r, b].Nodup) (hk : k ≤ zs.length) (hkb : k ≤ 1000000) (m : AMem)  (K : AV → AMem → Prop) (hK : K (.int .i64 (placeR (zs.take k) id)) (AMem.wth m [(r, rcObj e (.ms ⟨b, 0, none⟩ k zs.length) c F), (b, .cells (flatK thgAV zs))])) : ACalls Try.prog 85 [.ptr ⟨r, 0, none⟩, .int .i64 id] (AMem.wth m [(r, rcObj e (.ms ⟨b, 0, none⟩ k zs.length) c F), (b, .cells (flatK thgAV zs))]) K := by
 refine acalls_enter Try.func85 rfl (by decide) (Nat.le_of_ble_eq_true rfl) ?_
 show AWP _ _ _ _ [(0, .ptr ⟨r, 0, none⟩), (1, .int .i64 id)] (AMem.wth m [(r, rcObj e (.ms ⟨b, 0, none⟩ k zs.length) c F), (b, .cells (flatK thgAV zs))])
 refine awp_reg2_seq [] [0, 1] (by decide) ?_
 intro K1 hK1
 refine ⟨trivial, ?_⟩
 show K1 [(0, .ptr ⟨r, 0, none⟩), (1, .int .i64 id)] (AMem.wth m [(r, rcObj e (.ms ⟨b, 0, none⟩ k zs.length) c F), (b, .cells (flatK thgAV zs))])
 refine hK1 _ _ ?_; clear hK1 K1
 refine awp_seq_k ?_; intro K2 hK2
 refine awp_reg2_seq [] [0, 1, 5] (by decide) ?_
 intro K1 hK1
 refine ⟨trivial, ?_⟩
 show K1 [(0, .ptr ⟨r, 0, none⟩), (1, .int .i64 id), (5, .int .i64 0)] (AMem.wth m [(r, rcObj e (.ms ⟨b, 0, none⟩ k zs.length) c F), (b, .cells (flatK thgAV zs))])
 refine hK1 _ _ ?_; clear hK1 K1
 refine awp_block ?_
 refine awp_keep [0, 1, 5] (by decide) ?_
 refine awp_loop_st (σ := Int) (fun i => [(0, .ptr ⟨r, 0, none⟩), (1, .int .i64 id), (5, .int .i64 i)]) (fun _ => (AMem.wth m [(r, rcObj e (.ms ⟨b, 0, none⟩ k zs.length) c F), (b, .cells (flatK thgAV zs))])) (fun i => 0 ≤ i ∧ i ≤ k ∧ placeR (zs.take k) id = placeF ((zs.take k).drop i.toNat) id i) (fun i => k - i.toNat) (0) rfl rfl ?_ ?_
 ·
  show 0 ≤ ((0 : Int)) ∧ ((0 : Int)) ≤ k ∧ placeR (zs.take k) id = placeF ((zs.take k).drop ((0 : Int)).toNat) id ((0 : Int))
  exact ⟨by omega, by omega, rfl⟩
 rintro i hI
 replace hI : 0 ≤ i ∧ i ≤ k ∧ placeR (zs.take k) id = placeF ((zs.take k).drop i.toNat) id i := hI
 have hlk : ((zs.take k).length : Int) = k := by rw [List.length_take, Nat.min_eq_left hk]
 show AWP _ _ _ _ [(0, .ptr ⟨r, 0, none⟩), (1, .int .i64 id), (5, .int .i64 i)] (AMem.wth m [(r, rcObj e (.ms ⟨b, 0, none⟩ k zs.length) c F), (b, .cells (flatK thgAV zs))])
 refine awp_seq_k ?_; intro K3 hK3
 refine awp_reg2_seq [] [0, 1, 5, 12] (by decide) ?_
 intro K1 hK1
 refine ⟨trivial, trivial, trivial, ⟨rfl, by decide⟩, ?_⟩
 refine ar_loadp rfl (v := .ms ⟨b, 0, none⟩ k zs.length) rfl (wth_get 0 hN rfl) rfl (apartOk_one rfl rfl (Nat.le_of_ble_eq_true rfl)) rfl ?_
 refine ⟨(by omega), trivial, ?_⟩
 show K1 [(0, .ptr ⟨r, 0, none⟩), (1, .int .i64 id), (5, .int .i64 i), (12, .bool (decide (i < ((k : Nat) : Int))))] (AMem.wth m [(r, rcObj e (.ms ⟨b, 0, none⟩ k zs.length) c F), (b, .cells (flatK thgAV zs))])
 refine hK1 _ _ ?_; clear hK1 K1
 refine awp_cond rfl rfl (fun h1 => ?_) (fun h1 => ?_)
 ·
  replace h1 : i < ((k : Nat) : Int) := (of_decide_eq_true h1)
  refine awp_skip ?_
  refine hK3 _ _ ?_; clear hK3
  refine awp_seq_k ?_; intro K4 hK4
  refine awp_block ?_
  refine awp_reg2_seq [] [0, 1, 5, 24] (by decide) ?_
  intro K1 hK1
  refine ⟨trivial, trivial, ⟨rfl, by decide⟩, ?_⟩
  refine ar_loadp rfl (v := .ms ⟨b, 0, none⟩ k zs.length) rfl (wth_get 0 hN rfl) rfl (apartOk_one rfl rfl (Nat.le_of_ble_eq_true rfl)) rfl ?_
  refine ⟨trivial, ⟨rfl, (by omega), (by omega)⟩, ⟨rfl, by decide⟩, ?_⟩
  refine ar_loadk rfl (m := m) (L := [(r, rcObj e (.ms ⟨b, 0, none⟩ k zs.length) c F), (b, .cells (flatK thgAV zs))]) thgAV zs i 0 (v := .int .i64 ((gI zs i).id)) rfl (by show 0 + (i).toNat * 7 + 0 = (i).toNat * 7 + 0; omega) (wth_get 1 hN rfl) rfl (fun _ => rfl) rfl (Nat.le_of_ble_eq_true rfl) (Nat.le_of_ble_eq_true rfl) rfl (by omega) (by omega) ?_
  refine ⟨trivial, trivial, ?_⟩
  show K1 [(0, .ptr ⟨r, 0, none⟩), (1, .int .i64 id), (5, .int .i64 i), (24, .bool (((gI zs i).id) == id))] (AMem.wth m [(r, rcObj e (.ms ⟨b, 0, none⟩ k zs.length) c F), (b, .cells (flatK thgAV zs))])
  refine hK1 _ _ ?_; clear hK1 K1
  refine awp_cond rfl rfl (fun h2 => ?_) (fun h2 => ?_)
  ·
   replace h2 : (gI zs i).id = id := (eq_of_beq h2)
   refine awp_reg2_seq [] [4] (by decide) ?_
   intro K1 hK1
   refine ⟨trivial, trivial, ?_⟩
   show K1 [(4, .int .i64 i)] (AMem.wth m [(r, rcObj e (.ms ⟨b, 0, none⟩ k zs.length) c F), (b, .cells (flatK thgAV zs))])
   refine hK1 _ _ ?_; clear hK1 K1
   refine awp_ret ?_
   refine ⟨trivial, (AMem.wth m [(r, rcObj e (.ms ⟨b, 0, none⟩ k zs.length) c F), (b, .cells (flatK thgAV zs))]), fun _ _ h => h, ?_⟩
   show K (.int .i64 i) (AMem.wth m [(r, rcObj e (.ms ⟨b, 0, none⟩ k zs.length) c F), (b, .cells (flatK thgAV zs))])
  
   rw [hI.2.2, placeF_step hI.1 (by omega), gI_takeK _ hI.1 h1, if_pos (by assumption)] at hK; exact hK
  replace h2 : (gI zs i).id ≠ id := (ne_of_beq_false h2)
  refine awp_skip ?_
  refine hK4 _ _ ?_; clear hK4
  refine awp_reg2 [] [0, 1, 5] (by decide) ?_
  intro K1 hK1
  refine ⟨trivial, ?_⟩
  refine ar_add rfl (a := i) (b := 1) rfl rfl (by omega) (by omega) ?_
  refine ⟨trivial, ?_⟩
  show K1 [(0, .ptr ⟨r, 0, none⟩), (1, .int .i64 id), (5, .int .i64 (i + 1))] (AMem.wth m [(r, rcObj e (.ms ⟨b, 0, none⟩ k zs.length) c F), (b, .cells (flatK thgAV zs))])
  refine hK1 _ _ ?_; clear hK1 K1
  refine ⟨(i + 1), rfl, rfl, ?_, ?_⟩
  ·
   show 0 ≤ ((i + 1 : Int)) ∧ ((i + 1 : Int)) ≤ k ∧ placeR (zs.take k) id = placeF ((zs.take k).drop ((i + 1 : Int)).toNat) id ((i + 1 : Int))
   exact ⟨by omega, by omega, by rw [hI.2.2, placeF_step hI.1 (by omega), gI_takeK _ hI.1 h1, if_neg (by assumption)]⟩
  ·
   show k - ((i + 1 : Int)).toNat < k - i.toNat
   omega
 replace h1 : ((k : Nat) : Int) ≤ i := (Int.not_lt.1 (of_decide_eq_false h1))
 refine awp_exit ?_
 refine hK2 _ _ ?_; clear hK2
 refine awp_reg2_seq [] [4] (by decide) ?_
 intro K1 hK1
 refine ⟨trivial, ?_⟩
 show K1 [(4, .int .i64 (-1))] (AMem.wth m [(r, rcObj e (.ms ⟨b, 0, none⟩ k zs.length) c F), (b, .cells (flatK thgAV zs))])
 refine hK1 _ _ ?_; clear hK1 K1
 refine awp_ret ?_
 refine ⟨trivial, (AMem.wth m [(r, rcObj e (.ms ⟨b, 0, none⟩ k zs.length) c F), (b, .cells (flatK thgAV zs))]), fun _ _ h => h, ?_⟩
 show K (.int .i64 (-1)) (AMem.wth m [(r, rcObj e (.ms ⟨b, 0, none⟩ k zs.length) c F), (b, .cells (flatK thgAV zs))])

 rw [hI.2.2, List.drop_eq_nil_of_le (by omega)] at hK; exact hK


theorem u_place (r e : Nat) (c : ClSt) (F : List Int) (id : Int) {m : AMem} {H : List (Nat × AObj)} {av : AV} {l : List Thg} {ks : List Nat} (hT : HidR thgAV m ks H av l) (hr : r ∈ ks) (hl : l.length ≤ 1000000) (K : AV → AMem → Prop) (hK : K (.int .i64 (placeR l id)) ((m.wth H).wth [(r, rcObj e av c F)])) :
    ACalls Try.prog 85 [.ptr ⟨r, 0, none⟩, .int .i64 id] ((m.wth H).wth [(r, rcObj e av c F)]) K := by
  rcases hT.sh with ⟨rfl, rfl, rfl⟩ | ⟨b, zs, rfl, rfl, hle, htk⟩
  · exact u_place_nil r e c F id m K hK
  · have hne : r ≠ b := by have := hT.nin hr; simpa using this
    exact u_place_ms r e b l.length zs c F id (by simp [hne]) hle hl m K (by rw [htk]; exact hK)


theorem nil_vals {c : ClSt} {m : AMem} {ks : List Nat} (hz : c.things = []) : HidR thgAV m ks [] .nils (vals c) := by
  rw [show vals c = [] from by unfold vals; rw [hz]; rfl]; exact HidR.nil m ks
theorem hid_front {m : AMem} {b : Nat} {x : AObj} {L : List (Nat × AObj)} (hN : (((b, x) :: L).map Prod.fst).Nodup) : m.wth ((b, x) :: L) = (m.wth [(b, x)]).wth L := by
  rw [← wth_append]
  exact wth_perm hN (by simpa using (List.perm_append_singleton (b, x) L).symm)
theorem lose_vals {c : ClSt} (hi : ∀ p ∈ c.things, p.2.id = p.1) (hn : (c.things.map Prod.fst).Nodup) (id : Int) : (vals c).filter (fun t => !(t.id == id)) = (mdel c.things id).map Prod.snd := by
  unfold vals
  revert hi hn
  generalize c.things = l
  induction l with
  | nil => intro _ _; rfl
  | cons p r ih =>
    obtain ⟨a, t⟩ := p
    intro hi hn
    rw [List.map_cons, List.nodup_cons] at hn
    have ht : t.id = a := hi (a, t) (List.mem_cons_self ..)
    have ih := ih (fun p hp => hi p (List.mem_cons_of_mem _ hp)) hn.2
    rw [List.map_cons, List.filter_cons, mdel]
    by_cases e : a = id
    · subst e
      rw [if_neg (by simp [ht]), if_pos rfl, ih]
      rw [show mdel r a = r from by
        cases hm : midx r a with
        | none => exact (midx_none hm).2.1
        | some j =>
          obtain ⟨b, h1, _⟩ := midx_some hm
          exact absurd (List.mem_map.2 ⟨(a, b), List.mem_of_getElem? h1, rfl⟩) hn.1]
    · rw [if_pos (by simp [ht, e]), if_neg e, List.map_cons, ih]

set_option maxHeartbeats 2000000 in
theorem u_RRead_nil (r e : Nat) (q : RSt) (s : DSt) (c : ClSt) (F : List Int) (id : Int) (hN : [r, e].Nodup) (hz : c.things = []) (m : AMem)  (K : AV → AMem → Prop) (hK : K (.tuple [thgAV (readC c s id).1, .int .i64 (readC c s id).2]) (AMem.wth m [(r, rcObj e .nils c F), (e, rObj (rT q s))])) : ACalls Try.prog 53 [.ptr ⟨r, 0, none⟩, .int .i64 id] (AMem.wth m [(r, rcObj e .nils c F), (e, rObj (rT q s))]) K := by
 refine acalls_enter Try.func53 rfl (by decide) (Nat.le_of_ble_eq_true rfl) ?_
 show AWP _ _ _ _ [(0, .ptr ⟨r, 0, none⟩), (1, .int .i64 id)] (AMem.wth m [(r, rcObj e .nils c F), (e, rObj (rT q s))])
 refine awp_reg2_seq [] [0, 1, 4] (by decide) ?_
 intro K1 hK1
 refine ar_alloc rfl (z := .agg [.int .i64 0, .str ([]), .int .i64 0, .int .i64 0, .str ([]), .slice true [], .slice true []]) rfl rfl ?_
 intro b1 hb1
 have hFb1 : m b1 = none := wth_none hb1
 have hNb1 : ([b1, r, e] : List Nat).Nodup := wth_nodup hb1 hN
 refine ⟨trivial, ?_⟩
 show K1 [(0, .ptr ⟨r, 0, none⟩), (1, .int .i64 id), (4, .ptr ⟨b1, 0, none⟩)] (AMem.wth m [(b1, .cells [.int .i64 0, .str ([]), .int .i64 0, .int .i64 0, .str ([]), .slice true [], .slice true []]), (r, rcObj e .nils c F), (e, rObj (rT q s))])
 refine hK1 _ _ ?_; clear hK1 K1
 refine awp_seq_k ?_; intro K2 hK2
 refine awp_reg2_seq [] [0, 1, 4, 13] (by decide) ?_
 intro K1 hK1
 refine ⟨trivial, trivial, ⟨rfl, by decide⟩, ?_⟩
 refine ar_loadp rfl (v := .ptr ⟨e, 0, none⟩) rfl (wth_get 1 hNb1 rfl) rfl (apartOk_one rfl rfl (Nat.le_of_ble_eq_true rfl)) rfl ?_
 refine ⟨trivial, ⟨rfl, by decide⟩, ?_⟩
 refine ar_loadp rfl (v := .bool s.down) rfl (wth_get 2 hNb1 rfl) rfl (apartOk_one rfl rfl (Nat.le_of_ble_eq_true rfl)) rfl ?_
 show K1 [(0, .ptr ⟨r, 0, none⟩), (1, .int .i64 id), (4, .ptr ⟨b1, 0, none⟩), (13, .bool s.down)] (AMem.wth m [(b1, .cells [.int .i64 0, .str ([]), .int .i64 0, .int .i64 0, .str ([]), .slice true [], .slice true []]), (r, rcObj e .nils c F), (e, rObj (rT q s))])
 refine hK1 _ _ ?_; clear hK1 K1
 refine awp_cond rfl rfl (fun h1 => ?_) (fun h1 => ?_)
 ·
  replace h1 : s.down = true := h1
  refine awp_reg2_seq [] [4, 5] (by decide) ?_
  intro K1 hK1
  refine ⟨⟨rfl, by simp only [List.forall_mem_cons]; exact ⟨rfl, rfl, rfl, fun _ h => by cases h⟩, fun _ h => by cases h⟩, ?_⟩
  refine ar_storep rfl 0 (v := .agg [.int .i64 0, .str ([]), .int .i64 0, .int .i64 0, .str ([]), .slice true [], .slice true []]) (l' := [.int .i64 0, .str ([]), .int .i64 0, .int .i64 0, .str ([]), .slice true [], .slice true []]) rfl rfl hNb1 rfl rfl rfl rfl rfl (Nat.le_of_ble_eq_true rfl) rfl ?_
  refine ⟨trivial, ?_⟩
  show K1 [(4, .ptr ⟨b1, 0, none⟩), (5, .int .i64 10)] (AMem.wth m [(b1, .cells [.int .i64 0, .str ([]), .int .i64 0, .int .i64 0, .str ([]), .slice true [], .slice true []]), (r, rcObj e .nils c F), (e, rObj (rT q s))])
  refine hK1 _ _ ?_; clear hK1 K1
  refine awp_ret ?_
  refine resK_cell2 (fn := Try.f53) (a := 4) (t := 80) (s := 5) (b := b1) (off := 0) rfl rfl (wth_get  (m := m) (L := [(b1, .cells [.int .i64 0, .str ([]), .int .i64 0, .int .i64 0, .str ([]), .slice true [], .slice true []]), (r, rcObj e .nils c F), (e, rObj (rT q s))]) 0 hNb1 rfl) (apartOk_agg rfl rfl (Nat.le_of_ble_eq_true rfl)) (.agg [.int .i64 0, .str ([]), .int .i64 0, .int .i64 0, .str ([]), .slice false [], .slice false []]) (.int .i64 10) rfl rfl (.int .i64 10) rfl (AMem.wth m [(r, rcObj e .nils c F), (e, rObj (rT q s))]) ((wth_sub2 (m := m) [(b1, .cells [.int .i64 0, .str ([]), .int .i64 0, .int .i64 0, .str ([]), .slice true [], .slice true []])] [(r, rcObj e .nils c F), (e, rObj (rT q s))] hNb1 (by simp only [List.map_cons, List.map_nil, List.forall_mem_cons]; exact ⟨hFb1, fun _ h => by cases h⟩))) ?_
  show K (.tuple [.agg [.int .i64 0, .str ([]), .int .i64 0, .int .i64 0, .str ([]), .slice false [], .slice false []], .int .i64 10]) (AMem.wth m [(r, rcObj e .nils c F), (e, rObj (rT q s))])
 
  have e0 : readC c s id = (((⟨0, [], (⟨0, 0, [], [], []⟩ : Val)⟩ : Thg), 10) : Thg × Int) := by
   first | (rw [readC, if_pos (by assumption)]; done) | (rw [readC, if_pos (by assumption)]; rfl) | (rw [readC, if_neg (by simp_all), if_pos (by rw [hz]; rfl)]; done) | (rw [readC, if_neg (by simp_all), if_pos (by rw [hz]; rfl)]; rfl)
  rw [e0] at hK
  exact hK
 replace h1 : s.down = false := h1
 refine awp_skip ?_
 refine hK2 _ _ ?_; clear hK2
 refine awp_reg2_seq [] [0, 4, 6] (by decide) ?_
 intro K1 hK1
 refine ⟨trivial, trivial, ?_⟩
 refine ar_mem (wth_split hNb1 (pick_perm [1] _)) ?_
 refine u_place_nil r e c F id _ _ ?_
 show aopsR _ _ _ _ _ _ (AMem.wth (AMem.wth m [(b1, .cells [.int .i64 0, .str ([]), .int .i64 0, .int .i64 0, .str ([]), .slice true [], .slice true []]), (e, rObj (rT q s))]) [(r, rcObj e .nils c F)])
 refine ar_mem (wth_split (m := m) (L := [(b1, .cells [.int .i64 0, .str ([]), .int .i64 0, .int .i64 0, .str ([]), .slice true [], .slice true []]), (r, rcObj e .nils c F), (e, rObj (rT q s))]) hNb1 (pick_perm [1] _)).symm ?_
 refine ⟨trivial, ?_⟩
 show K1 [(0, .ptr ⟨r, 0, none⟩), (4, .ptr ⟨b1, 0, none⟩), (6, .int .i64 (-1))] (AMem.wth m [(b1, .cells [.int .i64 0, .str ([]), .int .i64 0, .int .i64 0, .str ([]), .slice true [], .slice true []]), (r, rcObj e .nils c F), (e, rObj (rT q s))])
 refine hK1 _ _ ?_; clear hK1 K1
 refine awp_seq_k ?_; intro K3 hK3
 refine awp_reg2_seq [] [0, 4, 6, 19] (by decide) ?_
 intro K1 hK1
 refine ⟨trivial, trivial, ?_⟩
 show K1 [(0, .ptr ⟨r, 0, none⟩), (4, .ptr ⟨b1, 0, none⟩), (6, .int .i64 (-1)), (19, .bool true)] (AMem.wth m [(b1, .cells [.int .i64 0, .str ([]), .int .i64 0, .int .i64 0, .str ([]), .slice true [], .slice true []]), (r, rcObj e .nils c F), (e, rObj (rT q s))])
 refine hK1 _ _ ?_; clear hK1 K1
 refine awp_cond rfl rfl (fun hcz => ?_) (fun hcz => ?_)
 rotate_left; · cases hcz
 clear hcz
 refine awp_reg2_seq [] [4, 5] (by decide) ?_
 intro K1 hK1
 refine ⟨⟨rfl, by simp only [List.forall_mem_cons]; exact ⟨rfl, rfl, rfl, fun _ h => by cases h⟩, fun _ h => by cases h⟩, ?_⟩
 refine ar_storep rfl 0 (v := .agg [.int .i64 0, .str ([]), .int .i64 0, .int .i64 0, .str ([]), .slice true [], .slice true []]) (l' := [.int .i64 0, .str ([]), .int .i64 0, .int .i64 0, .str ([]), .slice true [], .slice true []]) rfl rfl hNb1 rfl rfl rfl rfl rfl (Nat.le_of_ble_eq_true rfl) rfl ?_
 refine ⟨trivial, ?_⟩
 show K1 [(4, .ptr ⟨b1, 0, none⟩), (5, .int .i64 7)] (AMem.wth m [(b1, .cells [.int .i64 0, .str ([]), .int .i64 0, .int .i64 0, .str ([]), .slice true [], .slice true []]), (r, rcObj e .nils c F), (e, rObj (rT q s))])
 refine hK1 _ _ ?_; clear hK1 K1
 refine awp_ret ?_
 refine resK_cell2 (fn := Try.f53) (a := 4) (t := 80) (s := 5) (b := b1) (off := 0) rfl rfl (wth_get  (m := m) (L := [(b1, .cells [.int .i64 0, .str ([]), .int .i64 0, .int .i64 0, .str ([]), .slice true [], .slice true []]), (r, rcObj e .nils c F), (e, rObj (rT q s))]) 0 hNb1 rfl) (apartOk_agg rfl rfl (Nat.le_of_ble_eq_true rfl)) (.agg [.int .i64 0, .str ([]), .int .i64 0, .int .i64 0, .str ([]), .slice false [], .slice false []]) (.int .i64 7) rfl rfl (.int .i64 7) rfl (AMem.wth m [(r, rcObj e .nils c F), (e, rObj (rT q s))]) ((wth_sub2 (m := m) [(b1, .cells [.int .i64 0, .str ([]), .int .i64 0, .int .i64 0, .str ([]), .slice true [], .slice true []])] [(r, rcObj e .nils c F), (e, rObj (rT q s))] hNb1 (by simp only [List.map_cons, List.map_nil, List.forall_mem_cons]; exact ⟨hFb1, fun _ h => by cases h⟩))) ?_
 show K (.tuple [.agg [.int .i64 0, .str ([]), .int .i64 0, .int .i64 0, .str ([]), .slice false [], .slice false []], .int .i64 7]) (AMem.wth m [(r, rcObj e .nils c F), (e, rObj (rT q s))])

 have e0 : readC c s id = (((⟨0, [], (⟨0, 0, [], [], []⟩ : Val)⟩ : Thg), 7) : Thg × Int) := by
  first | (rw [readC, if_pos (by assumption)]; done) | (rw [readC, if_pos (by assumption)]; rfl) | (rw [readC, if_neg (by simp_all), if_pos (by rw [hz]; rfl)]; done) | (rw [readC, if_neg (by simp_all), if_pos (by rw [hz]; rfl)]; rfl)
 rw [e0] at hK
 exact hK

set_option maxHeartbeats 2000000 in
theorem u_RRead_ms (r e b k : Nat) (zs : List Thg) (q : RSt) (s : DSt) (c : ClSt) (F : List Int) (id : Int) (hN : [r, e, b].Nodup) (hk : k ≤ zs.length) (hkb : k ≤ 1000000) (hv : zs.take k = vals c) (hids : ∀ p ∈ c.things, p.2.id = p.1) (m : AMem) (hb : m b = none) (K : AV → AMem → Prop) (hK : K (.tuple [thgAV (readC c s id).1, .int .i64 (readC c s id).2]) (AMem.wth m [(r, rcObj e (.ms ⟨b, 0, none⟩ k zs.length) c F), (e, rObj (rT q s)), (b, .cells (flatK thgAV zs))])) : ACalls Try.prog 53 [.ptr ⟨r, 0, none⟩, .int .i64 id] (AMem.wth m [(r, rcObj e (.ms ⟨b, 0, none⟩ k zs.length) c F), (e, rObj (rT q s)), (b, .cells (flatK thgAV zs))]) K := by
 have hpa := place_at hids id
 rw [← hv] at hpa
 have hlk : (zs.take k).length = k := by rw [List.length_take, Nat.min_eq_left hk]
 rw [hlk] at hpa
 refine acalls_enter Try.func53 rfl (by decide) (Nat.le_of_ble_eq_true rfl) ?_
 show AWP _ _ _ _ [(0, .ptr ⟨r, 0, none⟩), (1, .int .i64 id)] (AMem.wth m [(r, rcObj e (.ms ⟨b, 0, none⟩ k zs.length) c F), (e, rObj (rT q s)), (b, .cells (flatK thgAV zs))])
 refine awp_reg2_seq [] [0, 1, 4] (by decide) ?_
 intro K1 hK1
 refine ar_alloc rfl (z := .agg [.int .i64 0, .str ([]), .int .i64 0, .int .i64 0, .str ([]), .slice true [], .slice true []]) rfl rfl ?_
 intro b1 hb1
 have hFb1 : m b1 = none := wth_none hb1
 have hNb1 : ([b1, r, e, b] : List Nat).Nodup := wth_nodup hb1 hN
 refine ⟨trivial, ?_⟩
 show K1 [(0, .ptr ⟨r, 0, none⟩), (1, .int .i64 id), (4, .ptr ⟨b1, 0, none⟩)] (AMem.wth m [(b1, .cells [.int .i64 0, .str ([]), .int .i64 0, .int .i64 0, .str ([]), .slice true [], .slice true []]), (r, rcObj e (.ms ⟨b, 0, none⟩ k zs.length) c F), (e, rObj (rT q s)), (b, .cells (flatK thgAV zs))])
 refine hK1 _ _ ?_; clear hK1 K1
 refine awp_seq_k ?_; intro K2 hK2
 refine awp_reg2_seq [] [0, 1, 4, 13] (by decide) ?_
 intro K1 hK1
 refine ⟨trivial, trivial, ⟨rfl, by decide⟩, ?_⟩
 refine ar_loadp rfl (v := .ptr ⟨e, 0, none⟩) rfl (wth_get 1 hNb1 rfl) rfl (apartOk_one rfl rfl (Nat.le_of_ble_eq_true rfl)) rfl ?_
 refine ⟨trivial, ⟨rfl, by decide⟩, ?_⟩
 refine ar_loadp rfl (v := .bool s.down) rfl (wth_get 2 hNb1 rfl) rfl (apartOk_one rfl rfl (Nat.le_of_ble_eq_true rfl)) rfl ?_
 show K1 [(0, .ptr ⟨r, 0, none⟩), (1, .int .i64 id), (4, .ptr ⟨b1, 0, none⟩), (13, .bool s.down)] (AMem.wth m [(b1, .cells [.int .i64 0, .str ([]), .int .i64 0, .int .i64 0, .str ([]), .slice true [], .slice true []]), (r, rcObj e (.ms ⟨b, 0, none⟩ k zs.length) c F), (e, rObj (rT q s)), (b, .cells (flatK thgAV zs))])
 refine hK1 _ _ ?_; clear hK1 K1
 refine awp_cond rfl rfl (fun h1 => ?_) (fun h1 => ?_)
 ·
  replace h1 : s.down = true := h1
  refine awp_reg2_seq [] [4, 5] (by decide) ?_
  intro K1 hK1
  refine ⟨⟨rfl, by simp only [List.forall_mem_cons]; exact ⟨rfl, rfl, rfl, fun _ h => by cases h⟩, fun _ h => by cases h⟩, ?_⟩
  refine ar_storep rfl 0 (v := .agg [.int .i64 0, .str ([]), .int .i64 0, .int .i64 0, .str ([]), .slice true [], .slice true []]) (l' := [.int .i64 0, .str ([]), .int .i64 0, .int .i64 0, .str ([]), .slice true [], .slice true []]) rfl rfl hNb1 rfl rfl rfl rfl rfl (Nat.le_of_ble_eq_true rfl) rfl ?_
  refine ⟨trivial, ?_⟩
  show K1 [(4, .ptr ⟨b1, 0, none⟩), (5, .int .i64 10)] (AMem.wth m [(b1, .cells [.int .i64 0, .str ([]), .int .i64 0, .int .i64 0, .str ([]), .slice true [], .slice true []]), (r, rcObj e (.ms ⟨b, 0, none⟩ k zs.length) c F), (e, rObj (rT q s)), (b, .cells (flatK thgAV zs))])
  refine hK1 _ _ ?_; clear hK1 K1
  refine awp_ret ?_
  refine resK_cell2 (fn := Try.f53) (a := 4) (t := 80) (s := 5) (b := b1) (off := 0) rfl rfl (wth_get  (m := m) (L := [(b1, .cells [.int .i64 0, .str ([]), .int .i64 0, .int .i64 0, .str ([]), .slice true [], .slice true []]), (r, rcObj e (.ms ⟨b, 0, none⟩ k zs.length) c F), (e, rObj (rT q s)), (b, .cells (flatK thgAV zs))]) 0 hNb1 rfl) (apartOk_agg rfl rfl (Nat.le_of_ble_eq_true rfl)) (.agg [.int .i64 0, .str ([]), .int .i64 0, .int .i64 0, .str ([]), .slice false [], .slice false []]) (.int .i64 10) rfl rfl (.int .i64 10) rfl (AMem.wth m [(r, rcObj e (.ms ⟨b, 0, none⟩ k zs.length) c F), (e, rObj (rT q s)), (b, .cells (flatK thgAV zs))]) ((wth_keep (m := m) (L := [(b1, .cells [.int .i64 0, .str ([]), .int .i64 0, .int .i64 0, .str ([]), .slice true [], .slice true []]), (r, rcObj e (.ms ⟨b, 0, none⟩ k zs.length) c F), (e, rObj (rT q s)), (b, .cells (flatK thgAV zs))]) (L1 := [(r, rcObj e (.ms ⟨b, 0, none⟩ k zs.length) c F), (e, rObj (rT q s)), (b, .cells (flatK thgAV zs))]) (L2 := [(b1, .cells [.int .i64 0, .str ([]), .int .i64 0, .int .i64 0, .str ([]), .slice true [], .slice true []])]) hNb1 (pick_perm [1, 1, 1] _) (by simp only [List.map_cons, List.map_nil, List.forall_mem_cons]; exact ⟨hFb1, fun _ h => by cases h⟩))) ?_
  show K (.tuple [.agg [.int .i64 0, .str ([]), .int .i64 0, .int .i64 0, .str ([]), .slice false [], .slice false []], .int .i64 10]) (AMem.wth m [(r, rcObj e (.ms ⟨b, 0, none⟩ k zs.length) c F), (e, rObj (rT q s)), (b, .cells (flatK thgAV zs))])
 
  have e0 : readC c s id = (((⟨0, [], (⟨0, 0, [], [], []⟩ : Val)⟩ : Thg), 10) : Thg × Int) := by
   first | (rw [readC, if_pos (by assumption)]; done) | (rw [readC, if_pos (by assumption)]; rfl) | (rw [readC, if_neg (by simp_all), if_neg (by rw [hpb.2.2.1]; simp), hpb.2.2.1, gI_takeK _ hpb.1 hpb.2.1]; rfl) | (rw [readC, if_neg (by simp_all), if_pos (by rw [hpa.elim (fun z => z.2) (fun z => absurd z.1 (by omega))]; rfl)]; first | done | rfl)
  rw [e0] at hK
  exact hK
 replace h1 : s.down = false := h1
 refine awp_skip ?_
 refine hK2 _ _ ?_; clear hK2
 refine awp_reg2_seq [] [0, 4, 6] (by decide) ?_
 intro K1 hK1
 refine ⟨trivial, trivial, ?_⟩
 refine ar_mem (wth_split hNb1 (pick_perm [1, 2] _)) ?_
 refine u_place_ms r e b k zs c F id (by simp at hN ⊢; omega) hk hkb _ _ ?_
 show aopsR _ _ _ _ _ _ (AMem.wth (AMem.wth m [(b1, .cells [.int .i64 0, .str ([]), .int .i64 0, .int .i64 0, .str ([]), .slice true [], .slice true []]), (e, rObj (rT q s))]) [(r, rcObj e (.ms ⟨b, 0, none⟩ k zs.length) c F), (b, .cells (flatK thgAV zs))])
 refine ar_mem (wth_split (m := m) (L := [(b1, .cells [.int .i64 0, .str ([]), .int .i64 0, .int .i64 0, .str ([]), .slice true [], .slice true []]), (r, rcObj e (.ms ⟨b, 0, none⟩ k zs.length) c F), (e, rObj (rT q s)), (b, .cells (flatK thgAV zs))]) hNb1 (pick_perm [1, 2] _)).symm ?_
 refine ⟨trivial, ?_⟩
 show K1 [(0, .ptr ⟨r, 0, none⟩), (4, .ptr ⟨b1, 0, none⟩), (6, .int .i64 (placeR (zs.take k) id))] (AMem.wth m [(b1, .cells [.int .i64 0, .str ([]), .int .i64 0, .int .i64 0, .str ([]), .slice true [], .slice true []]), (r, rcObj e (.ms ⟨b, 0, none⟩ k zs.length) c F), (e, rObj (rT q s)), (b, .cells (flatK thgAV zs))])
 refine hK1 _ _ ?_; clear hK1 K1
 refine awp_seq_k ?_; intro K3 hK3
 refine awp_reg2_seq [] [0, 4, 6, 19] (by decide) ?_
 intro K1 hK1
 refine ⟨trivial, trivial, ?_⟩
 show K1 [(0, .ptr ⟨r, 0, none⟩), (4, .ptr ⟨b1, 0, none⟩), (6, .int .i64 (placeR (zs.take k) id)), (19, .bool (decide (placeR (zs.take k) id < 0)))] (AMem.wth m [(b1, .cells [.int .i64 0, .str ([]), .int .i64 0, .int .i64 0, .str ([]), .slice true [], .slice true []]), (r, rcObj e (.ms ⟨b, 0, none⟩ k zs.length) c F), (e, rObj (rT q s)), (b, .cells (flatK thgAV zs))])
 refine hK1 _ _ ?_; clear hK1 K1
 refine awp_cond rfl rfl (fun h2 => ?_) (fun h2 => ?_)
 ·
  replace h2 : placeR (zs.take k) id < 0 := (of_decide_eq_true h2)
  refine awp_reg2_seq [] [4, 5] (by decide) ?_
  intro K1 hK1
  refine ⟨⟨rfl, by simp only [List.forall_mem_cons]; exact ⟨rfl, rfl, rfl, fun _ h => by cases h⟩, fun _ h => by cases h⟩, ?_⟩
  refine ar_storep rfl 0 (v := .agg [.int .i64 0, .str ([]), .int .i64 0, .int .i64 0, .str ([]), .slice true [], .slice true []]) (l' := [.int .i64 0, .str ([]), .int .i64 0, .int .i64 0, .str ([]), .slice true [], .slice true []]) rfl rfl hNb1 rfl rfl rfl rfl rfl (Nat.le_of_ble_eq_true rfl) rfl ?_
  refine ⟨trivial, ?_⟩
  show K1 [(4, .ptr ⟨b1, 0, none⟩), (5, .int .i64 7)] (AMem.wth m [(b1, .cells [.int .i64 0, .str ([]), .int .i64 0, .int .i64 0, .str ([]), .slice true [], .slice true []]), (r, rcObj e (.ms ⟨b, 0, none⟩ k zs.length) c F), (e, rObj (rT q s)), (b, .cells (flatK thgAV zs))])
  refine hK1 _ _ ?_; clear hK1 K1
  refine awp_ret ?_
  refine resK_cell2 (fn := Try.f53) (a := 4) (t := 80) (s := 5) (b := b1) (off := 0) rfl rfl (wth_get  (m := m) (L := [(b1, .cells [.int .i64 0, .str ([]), .int .i64 0, .int .i64 0, .str ([]), .slice true [], .slice true []]), (r, rcObj e (.ms ⟨b, 0, none⟩ k zs.length) c F), (e, rObj (rT q s)), (b, .cells (flatK thgAV zs))]) 0 hNb1 rfl) (apartOk_agg rfl rfl (Nat.le_of_ble_eq_true rfl)) (.agg [.int .i64 0, .str ([]), .int .i64 0, .int .i64 0, .str ([]), .slice false [], .slice false []]) (.int .i64 7) rfl rfl (.int .i64 7) rfl (AMem.wth m [(r, rcObj e (.ms ⟨b, 0, none⟩ k zs.length) c F), (e, rObj (rT q s)), (b, .cells (flatK thgAV zs))]) ((wth_keep (m := m) (L := [(b1, .cells [.int .i64 0, .str ([]), .int .i64 0, .int .i64 0, .str ([]), .slice true [], .slice true []]), (r, rcObj e (.ms ⟨b, 0, none⟩ k zs.length) c F), (e, rObj (rT q s)), (b, .cells (flatK thgAV zs))]) (L1 := [(r, rcObj e (.ms ⟨b, 0, none⟩ k zs.length) c F), (e, rObj (rT q s)), (b, .cells (flatK thgAV zs))]) (L2 := [(b1, .cells [.int .i64 0, .str ([]), .int .i64 0, .int .i64 0, .str ([]), .slice true [], .slice true []])]) hNb1 (pick_perm [1, 1, 1] _) (by simp only [List.map_cons, List.map_nil, List.forall_mem_cons]; exact ⟨hFb1, fun _ h => by cases h⟩))) ?_
  show K (.tuple [.agg [.int .i64 0, .str ([]), .int .i64 0, .int .i64 0, .str ([]), .slice false [], .slice false []], .int .i64 7]) (AMem.wth m [(r, rcObj e (.ms ⟨b, 0, none⟩ k zs.length) c F), (e, rObj (rT q s)), (b, .cells (flatK thgAV zs))])
 
  have e0 : readC c s id = (((⟨0, [], (⟨0, 0, [], [], []⟩ : Val)⟩ : Thg), 7) : Thg × Int) := by
   first | (rw [readC, if_pos (by assumption)]; done) | (rw [readC, if_pos (by assumption)]; rfl) | (rw [readC, if_neg (by simp_all), if_neg (by rw [hpb.2.2.1]; simp), hpb.2.2.1, gI_takeK _ hpb.1 hpb.2.1]; rfl) | (rw [readC, if_neg (by simp_all), if_pos (by rw [hpa.elim (fun z => z.2) (fun z => absurd z.1 (by omega))]; rfl)]; first | done | rfl)
  rw [e0] at hK
  exact hK
 replace h2 : 0 ≤ placeR (zs.take k) id := (Int.not_lt.1 (of_decide_eq_false h2))
 refine awp_skip ?_
 refine hK3 _ _ ?_; clear hK3
 have hpb := hpa.resolve_left (fun z => by omega)
 refine awp_reg2_seq [] [4, 5] (by decide) ?_
 intro K1 hK1
 refine ⟨trivial, trivial, ⟨rfl, by decide⟩, ?_⟩
 refine ar_loadp rfl (v := .ms ⟨b, 0, none⟩ k zs.length) rfl (wth_get 1 hNb1 rfl) rfl (apartOk_one rfl rfl (Nat.le_of_ble_eq_true rfl)) rfl ?_
 refine ⟨trivial, ⟨rfl, (by omega), (by omega)⟩, ?_⟩
 refine ar_loadk rfl (m := m) (L := [(b1, .cells [.int .i64 0, .str ([]), .int .i64 0, .int .i64 0, .str ([]), .slice true [], .slice true []]), (r, rcObj e (.ms ⟨b, 0, none⟩ k zs.length) c F), (e, rObj (rT q s)), (b, .cells (flatK thgAV zs))]) thgAV zs (placeR (zs.take k) id) 0 (v := thgAV (gI zs (placeR (zs.take k) id))) rfl (by show 0 + (placeR (zs.take k) id).toNat * 7 = (placeR (zs.take k) id).toNat * 7 + 0; omega) (wth_get 3 hNb1 rfl) rfl (fun _ => rfl) rfl (Nat.le_of_ble_eq_true rfl) (Nat.le_of_ble_eq_true rfl) rfl (by omega) (by omega) ?_
 refine ar_storep rfl 0 (v := thgAV (gI zs (placeR (zs.take k) id))) (l' := [.int .i64 ((gI zs (placeR (zs.take k) id)).id), .str ((gI zs (placeR (zs.take k) id)).kind), .int .i64 (((gI zs (placeR (zs.take k) id)).v).kind), .int .i64 (((gI zs (placeR (zs.take k) id)).v).n), .str (((gI zs (placeR (zs.take k) id)).v).s), .slice false ((((gI zs (placeR (zs.take k) id)).v).l).map valIn), .slice false ((((gI zs (placeR (zs.take k) id)).v).f).map fldIn)]) rfl (by rfl) hNb1 rfl rfl rfl rfl rfl (Nat.le_of_ble_eq_true rfl) rfl ?_
 refine ⟨trivial, ?_⟩
 show K1 [(4, .ptr ⟨b1, 0, none⟩), (5, .int .i64 0)] (AMem.wth m [(b1, .cells [.int .i64 ((gI zs (placeR (zs.take k) id)).id), .str ((gI zs (placeR (zs.take k) id)).kind), .int .i64 (((gI zs (placeR (zs.take k) id)).v).kind), .int .i64 (((gI zs (placeR (zs.take k) id)).v).n), .str (((gI zs (placeR (zs.take k) id)).v).s), .slice false ((((gI zs (placeR (zs.take k) id)).v).l).map valIn), .slice false ((((gI zs (placeR (zs.take k) id)).v).f).map fldIn)]), (r, rcObj e (.ms ⟨b, 0, none⟩ k zs.length) c F), (e, rObj (rT q s)), (b, .cells (flatK thgAV zs))])
 refine hK1 _ _ ?_; clear hK1 K1
 refine awp_ret ?_
 refine resK_cell2 (fn := Try.f53) (a := 4) (t := 80) (s := 5) (b := b1) (off := 0) rfl rfl (wth_get  (m := m) (L := [(b1, .cells [.int .i64 ((gI zs (placeR (zs.take k) id)).id), .str ((gI zs (placeR (zs.take k) id)).kind), .int .i64 (((gI zs (placeR (zs.take k) id)).v).kind), .int .i64 (((gI zs (placeR (zs.take k) id)).v).n), .str (((gI zs (placeR (zs.take k) id)).v).s), .slice false ((((gI zs (placeR (zs.take k) id)).v).l).map valIn), .slice false ((((gI zs (placeR (zs.take k) id)).v).f).map fldIn)]), (r, rcObj e (.ms ⟨b, 0, none⟩ k zs.length) c F), (e, rObj (rT q s)), (b, .cells (flatK thgAV zs))]) 0 hNb1 rfl) (apartOk_agg rfl rfl (Nat.le_of_ble_eq_true rfl)) (.agg [.int .i64 ((gI zs (placeR (zs.take k) id)).id), .str ((gI zs (placeR (zs.take k) id)).kind), .int .i64 (((gI zs (placeR (zs.take k) id)).v).kind), .int .i64 (((gI zs (placeR (zs.take k) id)).v).n), .str (((gI zs (placeR (zs.take k) id)).v).s), .slice false ((((gI zs (placeR (zs.take k) id)).v).l).map valIn), .slice false ((((gI zs (placeR (zs.take k) id)).v).f).map fldIn)]) (.int .i64 0) rfl rfl (.int .i64 0) rfl (AMem.wth m [(r, rcObj e (.ms ⟨b, 0, none⟩ k zs.length) c F), (e, rObj (rT q s)), (b, .cells (flatK thgAV zs))]) ((wth_keep (m := m) (L := [(b1, .cells [.int .i64 ((gI zs (placeR (zs.take k) id)).id), .str ((gI zs (placeR (zs.take k) id)).kind), .int .i64 (((gI zs (placeR (zs.take k) id)).v).kind), .int .i64 (((gI zs (placeR (zs.take k) id)).v).n), .str (((gI zs (placeR (zs.take k) id)).v).s), .slice false ((((gI zs (placeR (zs.take k) id)).v).l).map valIn), .slice false ((((gI zs (placeR (zs.take k) id)).v).f).map fldIn)]), (r, rcObj e (.ms ⟨b, 0, none⟩ k zs.length) c F), (e, rObj (rT q s)), (b, .cells (flatK thgAV zs))]) (L1 := [(r, rcObj e (.ms ⟨b, 0, none⟩ k zs.length) c F), (e, rObj (rT q s)), (b, .cells (flatK thgAV zs))]) (L2 := [(b1, .cells [.int .i64 ((gI zs (placeR (zs.take k) id)).id), .str ((gI zs (placeR (zs.take k) id)).kind), .int .i64 (((gI zs (placeR (zs.take k) id)).v).kind), .int .i64 (((gI zs (placeR (zs.take k) id)).v).n), .str (((gI zs (placeR (zs.take k) id)).v).s), .slice false ((((gI zs (placeR (zs.take k) id)).v).l).map valIn), .slice false ((((gI zs (placeR (zs.take k) id)).v).f).map fldIn)])]) hNb1 (pick_perm [1, 1, 1] _) (by simp only [List.map_cons, List.map_nil, List.forall_mem_cons]; exact ⟨hFb1, fun _ h => by cases h⟩))) ?_
 show K (.tuple [.agg [.int .i64 ((gI zs (placeR (zs.take k) id)).id), .str ((gI zs (placeR (zs.take k) id)).kind), .int .i64 (((gI zs (placeR (zs.take k) id)).v).kind), .int .i64 (((gI zs (placeR (zs.take k) id)).v).n), .str (((gI zs (placeR (zs.take k) id)).v).s), .slice false ((((gI zs (placeR (zs.take k) id)).v).l).map valIn), .slice false ((((gI zs (placeR (zs.take k) id)).v).f).map fldIn)], .int .i64 0]) (AMem.wth m [(r, rcObj e (.ms ⟨b, 0, none⟩ k zs.length) c F), (e, rObj (rT q s)), (b, .cells (flatK thgAV zs))])

 have e0 : readC c s id = (((gI zs (placeR (zs.take k) id)), 0) : Thg × Int) := by
  first | (rw [readC, if_pos (by assumption)]; done) | (rw [readC, if_pos (by assumption)]; rfl) | (rw [readC, if_neg (by simp_all), if_neg (by rw [hpb.2.2.1]; simp), hpb.2.2.1, gI_takeK _ hpb.1 hpb.2.1]; rfl) | (rw [readC, if_neg (by simp_all), if_pos (by rw [hpa.elim (fun z => z.2) (fun z => absurd z.1 (by omega))]; rfl)]; first | done | rfl)
 rw [e0] at hK
 exact hK


theorem u_RRead (r e : Nat) (q : RSt) (s : DSt) (c : ClSt) (F : List Int) (id : Int) {m : AMem} {H : List (Nat × AObj)} {av : AV} {ks : List Nat} (hT : HidR thgAV m ks H av (vals c)) (hr : r ∈ ks) (he : e ∈ ks) (hN : [r, e].Nodup) (hl : c.things.length ≤ 1000000) (hids : ∀ p ∈ c.things, p.2.id = p.1) (K : AV → AMem → Prop) (hK : K (.tuple [thgAV (readC c s id).1, .int .i64 (readC c s id).2]) ((m.wth H).wth [(r, rcObj e av c F), (e, rObj (rT q s))])) :
    ACalls Try.prog 53 [.ptr ⟨r, 0, none⟩, .int .i64 id] ((m.wth H).wth [(r, rcObj e av c F), (e, rObj (rT q s))]) K := by
  rcases hT.sh with ⟨rfl, rfl, hz⟩ | ⟨b, zs, rfl, rfl, hle, htk⟩
  · exact u_RRead_nil r e q s c F id hN (by simpa [vals] using hz) m K hK
  · have hne : r ≠ b := by have := hT.nin hr; simpa using this
    have hne2 : e ≠ b := by have := hT.nin he; simpa using this
    exact u_RRead_ms r e b (vals c).length zs q s c F id (by simp at hN ⊢; omega) hle (by unfold vals; rw [List.length_map]; exact hl) htk hids m (hT.out b (by simp)) K hK

set_option maxHeartbeats 2000000 in
theorem u_RSpoil_nil (r e : Nat) (c : ClSt) (F : List Int) (id : Int) (v : Val) (hB : depV v ≤ 1000000000000) (m : AMem)  (K : AV → AMem → Prop) (hK : K (.tuple []) (AMem.wth m [(r, rcObj e .nils c F)])) : ACalls Try.prog 58 [.ptr ⟨r, 0, none⟩, .int .i64 id, valTop v] (AMem.wth m [(r, rcObj e .nils c F)]) K := by
 refine acalls_enter Try.func58 rfl (by decide) (Nat.le_of_ble_eq_true rfl) ?_
 show AWP _ _ _ _ [(0, .ptr ⟨r, 0, none⟩), (1, .int .i64 id), (2, valTop v)] (AMem.wth m [(r, rcObj e .nils c F)])
 refine awp_reg2_seq [] [0, 1, 5] (by decide) ?_
 intro K1 hK1
 refine ar_box rfl (m := m) (L := [(r, rcObj e .nils c F)]) (v := valTop v) (by rfl) rfl ?_
 intro b1 hb1
 have hFb1 : m b1 = none := wth_none hb1
 have hNb1 : ([b1, r] : List Nat).Nodup := wth_nodup hb1 (nodup_1 r)
 show K1 [(0, .ptr ⟨r, 0, none⟩), (1, .int .i64 id), (5, .ptr ⟨b1, 0, none⟩)] (AMem.wth m [(b1, .cells [.int .i64 v.kind, .int .i64 v.n, .str v.s, .slice false (v.l.map valIn), .slice false (v.f.map fldIn)]), (r, rcObj e .nils c F)])
 refine hK1 _ _ ?_; clear hK1 K1
 refine awp_reg2_seq [] [0, 5, 6] (by decide) ?_
 intro K1 hK1
 refine ⟨trivial, trivial, ?_⟩
 refine ar_mem (wth_split hNb1 (pick_perm [1] _)) ?_
 refine u_place_nil r e c F id _ _ ?_
 show aopsR _ _ _ _ _ _ (AMem.wth (AMem.wth m [(b1, .cells [.int .i64 v.kind, .int .i64 v.n, .str v.s, .slice false (v.l.map valIn), .slice false (v.f.map fldIn)])]) [(r, rcObj e .nils c F)])
 refine ar_mem (wth_split (m := m) (L := [(b1, .cells [.int .i64 v.kind, .int .i64 v.n, .str v.s, .slice false (v.l.map valIn), .slice false (v.f.map fldIn)]), (r, rcObj e .nils c F)]) hNb1 (pick_perm [1] _)).symm ?_
 refine ⟨trivial, ?_⟩
 show K1 [(0, .ptr ⟨r, 0, none⟩), (5, .ptr ⟨b1, 0, none⟩), (6, .int .i64 (-1))] (AMem.wth m [(b1, .cells [.int .i64 v.kind, .int .i64 v.n, .str v.s, .slice false (v.l.map valIn), .slice false (v.f.map fldIn)]), (r, rcObj e .nils c F)])
 refine hK1 _ _ ?_; clear hK1 K1
 refine awp_reg2_seq [] [0, 5, 6, 16] (by decide) ?_
 intro K1 hK1
 suffices key : K1 [(0, .ptr ⟨r, 0, none⟩), (5, .ptr ⟨b1, 0, none⟩), (6, .int .i64 (-1)), (16, .bool false)] (AMem.wth m [(b1, .cells [.int .i64 v.kind, .int .i64 v.n, .str v.s, .slice false (v.l.map valIn), .slice false (v.f.map fldIn)]), (r, rcObj e .nils c F)]) by
  refine ⟨trivial, trivial, trivial, ?_⟩
  refine ar_off rfl (ar_off rfl (ar_off rfl ?_))
  exact key
 refine hK1 _ _ ?_; clear hK1 K1
 refine awp_cond rfl rfl (fun hcz => ?_) (fun hcz => ?_)
 ·
  cases hcz
 clear hcz
 refine awp_skip ?_
 refine ⟨(AMem.wth m [(r, rcObj e .nils c F)]), (wth_sub2 (m := m) [(b1, .cells [.int .i64 v.kind, .int .i64 v.n, .str v.s, .slice false (v.l.map valIn), .slice false (v.f.map fldIn)])] [(r, rcObj e .nils c F)] hNb1 (by simp only [List.map_cons, List.map_nil, List.forall_mem_cons]; exact ⟨hFb1, fun _ h => by cases h⟩)), ?_⟩
 show K (.tuple []) (AMem.wth m [(r, rcObj e .nils c F)])

 exact hK

set_option maxHeartbeats 4000000 in
theorem u_RSpoil_ms (r e b k : Nat) (zs : List Thg) (c : ClSt) (F : List Int) (id : Int) (v : Val) (hN : [r, b].Nodup) (hk : k ≤ zs.length) (hkb : k ≤ 1000000) (hv : zs.take k = vals c) (hids : ∀ p ∈ c.things, p.2.id = p.1) (hB : depV v ≤ 1000000000000) (m : AMem) (hb : m b = none) (K : AV → AMem → Prop) (hK : ∀ zs2 : List Thg, zs2.length = zs.length → zs2.take k = vals (spoilC c id v) → K (.tuple []) (AMem.wth m [(r, rcObj e (.ms ⟨b, 0, none⟩ k zs.length) c F), (b, .cells (flatK thgAV zs2))])) : ACalls Try.prog 58 [.ptr ⟨r, 0, none⟩, .int .i64 id, valTop v] (AMem.wth m [(r, rcObj e (.ms ⟨b, 0, none⟩ k zs.length) c F), (b, .cells (flatK thgAV zs))]) K := by
 have hpa := place_at hids id
 rw [← hv] at hpa
 have hlk : (zs.take k).length = k := by rw [List.length_take, Nat.min_eq_left hk]
 rw [hlk] at hpa
 refine acalls_enter Try.func58 rfl (by decide) (Nat.le_of_ble_eq_true rfl) ?_
 show AWP _ _ _ _ [(0, .ptr ⟨r, 0, none⟩), (1, .int .i64 id), (2, valTop v)] (AMem.wth m [(r, rcObj e (.ms ⟨b, 0, none⟩ k zs.length) c F), (b, .cells (flatK thgAV zs))])
 refine awp_reg2_seq [] [0, 1, 5] (by decide) ?_
 intro K1 hK1
 refine ar_box rfl (m := m) (L := [(r, rcObj e (.ms ⟨b, 0, none⟩ k zs.length) c F), (b, .cells (flatK thgAV zs))]) (v := valTop v) (by rfl) rfl ?_
 intro b1 hb1
 have hFb1 : m b1 = none := wth_none hb1
 have hNb1 : ([b1, r, b] : List Nat).Nodup := wth_nodup hb1 hN
 show K1 [(0, .ptr ⟨r, 0, none⟩), (1, .int .i64 id), (5, .ptr ⟨b1, 0, none⟩)] (AMem.wth m [(b1, .cells [.int .i64 v.kind, .int .i64 v.n, .str v.s, .slice false (v.l.map valIn), .slice false (v.f.map fldIn)]), (r, rcObj e (.ms ⟨b, 0, none⟩ k zs.length) c F), (b, .cells (flatK thgAV zs))])
 refine hK1 _ _ ?_; clear hK1 K1
 refine awp_reg2_seq [] [0, 5, 6] (by decide) ?_
 intro K1 hK1
 refine ⟨trivial, trivial, ?_⟩
 refine ar_mem (wth_split hNb1 (pick_perm [1, 1] _)) ?_
 refine u_place_ms r e b k zs c F id (by simp at hN ⊢; omega) hk hkb _ _ ?_
 show aopsR _ _ _ _ _ _ (AMem.wth (AMem.wth m [(b1, .cells [.int .i64 v.kind, .int .i64 v.n, .str v.s, .slice false (v.l.map valIn), .slice false (v.f.map fldIn)])]) [(r, rcObj e (.ms ⟨b, 0, none⟩ k zs.length) c F), (b, .cells (flatK thgAV zs))])
 refine ar_mem (wth_split (m := m) (L := [(b1, .cells [.int .i64 v.kind, .int .i64 v.n, .str v.s, .slice false (v.l.map valIn), .slice false (v.f.map fldIn)]), (r, rcObj e (.ms ⟨b, 0, none⟩ k zs.length) c F), (b, .cells (flatK thgAV zs))]) hNb1 (pick_perm [1, 1] _)).symm ?_
 refine ⟨trivial, ?_⟩
 show K1 [(0, .ptr ⟨r, 0, none⟩), (5, .ptr ⟨b1, 0, none⟩), (6, .int .i64 (placeR (zs.take k) id))] (AMem.wth m [(b1, .cells [.int .i64 v.kind, .int .i64 v.n, .str v.s, .slice false (v.l.map valIn), .slice false (v.f.map fldIn)]), (r, rcObj e (.ms ⟨b, 0, none⟩ k zs.length) c F), (b, .cells (flatK thgAV zs))])
 refine hK1 _ _ ?_; clear hK1 K1
 refine awp_reg2_seq [] [0, 5, 6, 16] (by decide) ?_
 intro K1 hK1
 suffices key : K1 [(0, .ptr ⟨r, 0, none⟩), (5, .ptr ⟨b1, 0, none⟩), (6, .int .i64 (placeR (zs.take k) id)), (16, .bool ((decide (0 ≤ placeR (zs.take k) id)) && ((attrE v) == 0)))] (AMem.wth m [(b1, .cells [.int .i64 v.kind, .int .i64 v.n, .str v.s, .slice false (v.l.map valIn), .slice false (v.f.map fldIn)]), (r, rcObj e (.ms ⟨b, 0, none⟩ k zs.length) c F), (b, .cells (flatK thgAV zs))]) by
  refine ⟨trivial, trivial, trivial, ?_⟩
  show aopsR _ _ _ _ _ [(12, .bool (decide (0 ≤ placeR (zs.take k) id))), (11, .bool (decide (0 ≤ placeR (zs.take k) id))), (10, .int .i64 (placeR (zs.take k) id)), (0, .ptr ⟨r, 0, none⟩), (5, .ptr ⟨b1, 0, none⟩), (6, .int .i64 (placeR (zs.take k) id))] _
  revert key
  cases h1 : (decide (0 ≤ placeR (zs.take k) id))
  ·
   replace h1 : placeR (zs.take k) id < 0 := (Int.not_le.1 (of_decide_eq_false h1))
   intro key
   refine ar_off rfl (ar_off rfl (ar_off rfl ?_))
   exact key
  ·
   replace h1 : 0 ≤ placeR (zs.take k) id := (of_decide_eq_true h1)
   intro key
   refine ar_loadp rfl (v := .agg [.int .i64 v.kind, .int .i64 v.n, .str v.s, .slice false (v.l.map valIn), .slice false (v.f.map fldIn)]) rfl (wth_get 0 hNb1 rfl) rfl (apartOk_agg rfl rfl (Nat.le_of_ble_eq_true rfl)) rfl ?_
   refine u_attrsFault v hB _ _ ?_
   refine ⟨trivial, ?_⟩
   exact key
 refine hK1 _ _ ?_; clear hK1 K1
 refine awp_cond rfl rfl (fun h2 => ?_) (fun h2 => ?_)
 ·
  replace h2 : (0 ≤ placeR (zs.take k) id) ∧ (attrE v = 0) := ⟨(of_decide_eq_true (bandL h2)), (eq_of_beq (bandR h2))⟩
  have hpb := hpa.resolve_left (fun z => by omega)
  refine awp_draw_tail2 Try.mixed 8 [] [] [] [] (by decide) (by decide) ?_
  intro K1 hK1
  refine ⟨trivial, trivial, ⟨rfl, by decide⟩, ?_⟩
  refine pq_loadp rfl (v := .ms ⟨b, 0, none⟩ k zs.length) rfl (wth_get 1 hNb1 rfl) (apartOk_one rfl rfl (Nat.le_of_ble_eq_true rfl)) rfl ?_
  refine ⟨trivial, ?_⟩
  refine pq_loadp rfl (v := .agg [.int .i64 v.kind, .int .i64 v.n, .str v.s, .slice false (v.l.map valIn), .slice false (v.f.map fldIn)]) rfl (wth_get 0 hNb1 rfl) (apartOk_agg rfl rfl (Nat.le_of_ble_eq_true rfl)) rfl ?_
  refine ⟨⟨rfl, (by omega), (by omega)⟩, ⟨rfl, by decide⟩, ?_⟩
  show aopsR _ _ _ _ _ [(24, .ptr ⟨b, 0 + (placeR (zs.take k) id).toNat * Try.prog.cellsOf 80 + 2, none⟩), (23, .ptr ⟨b, 0 + (placeR (zs.take k) id).toNat * Try.prog.cellsOf 80, none⟩), (22, .agg [.int .i64 v.kind, .int .i64 v.n, .str v.s, .slice false (v.l.map valIn), .slice false (v.f.map fldIn)]), (21, .int .i64 (placeR (zs.take k) id)), (20, .ms ⟨b, 0, none⟩ k zs.length), (19, .ptr ⟨r, 1, none⟩), (18, .ptr ⟨r, 0, none⟩), (17, .ptr ⟨r, 0, none⟩), (0, .ptr ⟨r, 0, none⟩), (5, .ptr ⟨b1, 0, none⟩), (6, .int .i64 (placeR (zs.take k) id)), (16, .bool ((decide (0 ≤ placeR (zs.take k) id)) && ((attrE v) == 0)))] _
  refine ar_storek rfl 2 (m := m) (L := [(b1, .cells [.int .i64 v.kind, .int .i64 v.n, .str v.s, .slice false (v.l.map valIn), .slice false (v.f.map fldIn)]), (r, rcObj e (.ms ⟨b, 0, none⟩ k zs.length) c F), (b, .cells (flatK thgAV zs))]) thgAV zs (⟨(gI zs (placeR (zs.take k) id)).id, (gI zs (placeR (zs.take k) id)).kind, v⟩ : Thg) (placeR (zs.take k) id) 2 (v := .agg [.int .i64 v.kind, .int .i64 v.n, .str v.s, .slice false (v.l.map valIn), .slice false (v.f.map fldIn)]) rfl (by show 0 + (placeR (zs.take k) id).toNat * 7 + 2 = (placeR (zs.take k) id).toNat * 7 + 2; omega) rfl hNb1 rfl (fun _ => rfl) rfl rfl rfl rfl (Nat.le_of_ble_eq_true rfl) rfl (by omega) (by omega) ?_
  show K1 [] (AMem.wth m [(b1, .cells [.int .i64 v.kind, .int .i64 v.n, .str v.s, .slice false (v.l.map valIn), .slice false (v.f.map fldIn)]), (r, rcObj e (.ms ⟨b, 0, none⟩ k zs.length) c F), (b, .cells (flatK thgAV (zs.set (placeR (zs.take k) id).toNat (⟨(gI zs (placeR (zs.take k) id)).id, (gI zs (placeR (zs.take k) id)).kind, v⟩ : Thg))))])
  refine hK1 _ _ ?_; clear hK1 K1
  refine ⟨(AMem.wth m [(r, rcObj e (.ms ⟨b, 0, none⟩ k zs.length) c F), (b, .cells (flatK thgAV (zs.set (placeR (zs.take k) id).toNat (⟨(gI zs (placeR (zs.take k) id)).id, (gI zs (placeR (zs.take k) id)).kind, v⟩ : Thg))))]), (wth_keep (m := m) (L := [(b1, .cells [.int .i64 v.kind, .int .i64 v.n, .str v.s, .slice false (v.l.map valIn), .slice false (v.f.map fldIn)]), (r, rcObj e (.ms ⟨b, 0, none⟩ k zs.length) c F), (b, .cells (flatK thgAV (zs.set (placeR (zs.take k) id).toNat (⟨(gI zs (placeR (zs.take k) id)).id, (gI zs (placeR (zs.take k) id)).kind, v⟩ : Thg))))]) (L1 := [(r, rcObj e (.ms ⟨b, 0, none⟩ k zs.length) c F), (b, .cells (flatK thgAV (zs.set (placeR (zs.take k) id).toNat (⟨(gI zs (placeR (zs.take k) id)).id, (gI zs (placeR (zs.take k) id)).kind, v⟩ : Thg))))]) (L2 := [(b1, .cells [.int .i64 v.kind, .int .i64 v.n, .str v.s, .slice false (v.l.map valIn), .slice false (v.f.map fldIn)])]) hNb1 (pick_perm [1, 1] _) (by simp only [List.map_cons, List.map_nil, List.forall_mem_cons]; exact ⟨hFb1, fun _ h => by cases h⟩)), ?_⟩
  show K (.tuple []) (AMem.wth m [(r, rcObj e (.ms ⟨b, 0, none⟩ k zs.length) c F), (b, .cells (flatK thgAV (zs.set (placeR (zs.take k) id).toNat (⟨(gI zs (placeR (zs.take k) id)).id, (gI zs (placeR (zs.take k) id)).kind, v⟩ : Thg))))])
 
  first | (have hpb := hpa.resolve_left (fun z => (by omega)); refine hK _ (by simp) ?_; rw [spoilC, if_pos ⟨(by rw [hpb.2.2.1]; rfl), (by first | exact (by assumption : _ ∧ _).2 | simp_all)⟩]; unfold vals; show _ = (mput c.things id _).map Prod.snd; rw [hpb.2.2.2, List.take_set, hpb.2.2.1, gI_takeK _ hpb.1 hpb.2.1]; rfl) | (refine hK _ rfl ?_; rw [spoilC, if_neg (fun zz => hpa.elim (fun z => by (have z1 := zz.1; rw [z.2] at z1; cases z1)) (fun z => by first | omega | exact absurd zz.2 (by assumption) | exact h2.elim (fun q => absurd q (by omega)) (fun q => q zz.2))), hv])
 replace h2 : (placeR (zs.take k) id < 0) ∨ (attrE v ≠ 0) := ((bandF h2).imp (fun q => (Int.not_le.1 (of_decide_eq_false q))) (fun q => (ne_of_beq_false q)))
 refine awp_skip ?_
 refine ⟨(AMem.wth m [(r, rcObj e (.ms ⟨b, 0, none⟩ k zs.length) c F), (b, .cells (flatK thgAV zs))]), (wth_keep (m := m) (L := [(b1, .cells [.int .i64 v.kind, .int .i64 v.n, .str v.s, .slice false (v.l.map valIn), .slice false (v.f.map fldIn)]), (r, rcObj e (.ms ⟨b, 0, none⟩ k zs.length) c F), (b, .cells (flatK thgAV zs))]) (L1 := [(r, rcObj e (.ms ⟨b, 0, none⟩ k zs.length) c F), (b, .cells (flatK thgAV zs))]) (L2 := [(b1, .cells [.int .i64 v.kind, .int .i64 v.n, .str v.s, .slice false (v.l.map valIn), .slice false (v.f.map fldIn)])]) hNb1 (pick_perm [1, 1] _) (by simp only [List.map_cons, List.map_nil, List.forall_mem_cons]; exact ⟨hFb1, fun _ h => by cases h⟩)), ?_⟩
 show K (.tuple []) (AMem.wth m [(r, rcObj e (.ms ⟨b, 0, none⟩ k zs.length) c F), (b, .cells (flatK thgAV zs))])

 first | (have hpb := hpa.resolve_left (fun z => (by omega)); refine hK _ (by simp) ?_; rw [spoilC, if_pos ⟨(by rw [hpb.2.2.1]; rfl), (by first | exact (by assumption : _ ∧ _).2 | simp_all)⟩]; unfold vals; show _ = (mput c.things id _).map Prod.snd; rw [hpb.2.2.2, List.take_set, hpb.2.2.1, gI_takeK _ hpb.1 hpb.2.1]; rfl) | (refine hK _ rfl ?_; rw [spoilC, if_neg (fun zz => hpa.elim (fun z => by (have z1 := zz.1; rw [z.2] at z1; cases z1)) (fun z => by first | omega | exact absurd zz.2 (by assumption) | exact h2.elim (fun q => absurd q (by omega)) (fun q => q zz.2))), hv])


theorem rcObj_spoil (e : Nat) (av : AV) (c : ClSt) (F : List Int) (id : Int) (v : Val) : rcObj e av (spoilC c id v) F = rcObj e av c F := by
  unfold spoilC; split <;> rfl
theorem spoil_nil {c : ClSt} (hz : c.things = []) (id : Int) (v : Val) : spoilC c id v = c := by
  rw [spoilC, if_neg (by rw [hz]; simp [mget])]
theorem hid_drop_row {m : AMem} {b k : Nat} {zs zs2 l : List Thg} {ks : List Nat} {av : AV} {L : List Thg} (hT : HidR thgAV m ks [(b, .cells (flatK thgAV zs))] av L) (hle : k ≤ zs.length) (h1 : zs2.length = zs.length) (h2 : zs2.take k = l) : HidR thgAV m ks [(b, .cells (flatK thgAV zs2))] (.ms ⟨b, 0, none⟩ k zs.length) l := by
  rw [← h1]
  refine HidR.row (hT.out b (by simp)) (fun h => ?_) (by omega) h2
  exact hT.nin h (by simp)
theorem u_RSpoil (r e : Nat) (c : ClSt) (F : List Int) (id : Int) (v : Val) {m : AMem} {H : List (Nat × AObj)} {av : AV} {ks : List Nat} (hT : HidR thgAV m ks H av (vals c)) (hr : r ∈ ks) (hl : c.things.length ≤ 1000000) (hids : ∀ p ∈ c.things, p.2.id = p.1) (hB : depV v ≤ 1000000000000) (K : AV → AMem → Prop)
    (hK : ∀ H' av', HidR thgAV m ks H' av' (vals (spoilC c id v)) → K (.tuple []) ((m.wth H').wth [(r, rcObj e av' (spoilC c id v) F)])) :
    ACalls Try.prog 58 [.ptr ⟨r, 0, none⟩, .int .i64 id, valTop v] ((m.wth H).wth [(r, rcObj e av c F)]) K := by
  simp only [rcObj_spoil] at hK
  rcases hT.sh with ⟨rfl, rfl, hz⟩ | ⟨b, zs, rfl, rfl, hle, htk⟩
  · have hz2 : c.things = [] := by simpa [vals] using hz
    exact u_RSpoil_nil r e c F id v hB m K (hK [] .nils (by rw [spoil_nil hz2]; exact hT))
  · have hne : r ≠ b := by have := hT.nin hr; simpa using this
    exact u_RSpoil_ms r e b (vals c).length zs c F id v (by simp [hne]) hle (by unfold vals; rw [List.length_map]; exact hl) htk hids hB m (hT.out b (by simp)) K (fun zs2 h1 h2 => hK _ _ (hid_drop_row hT hle h1 h2))


theorem fil_step {zs : List Thg} {k : Nat} {i : Int} {p : Thg → Bool} (hk : k ≤ zs.length) (h0 : 0 ≤ i) (hi : i < (k : Int)) : ((zs.take k).take (i + 1).toNat).filter p = ((zs.take k).take i.toNat).filter p ++ (if p (gI zs i) = true then [gI zs i] else []) := by
  rw [take_succ_gI h0 (by rw [List.length_take, Nat.min_eq_left hk]; exact hi), gI_takeK _ h0 hi, List.filter_append, List.filter_cons, List.filter_nil]
theorem fil_no {t : Thg} {id : Int} (h : t.id = id) : (if (!(t.id == id)) = true then [t] else []) = ([] : List Thg) := by simp [h]
theorem fil_yes {t : Thg} {id : Int} (h : t.id ≠ id) : (if (!(t.id == id)) = true then [t] else []) = [t] := by simp [h]

set_option maxHeartbeats 2000000 in
theorem u_RLose_nil (r e : Nat) (c : ClSt) (F : List Int) (id : Int) (hz : c.things = []) (m : AMem)  (K : AV → AMem → Prop) (hK : ∀ H' av', HidR thgAV m [r] H' av' (vals ({ c with things := mdel c.things id } : ClSt)) → K (.tuple []) ((m.wth H').wth [(r, rcObj e av' ({ c with things := mdel c.things id } : ClSt) F)])) : ACalls Try.prog 56 [.ptr ⟨r, 0, none⟩, .int .i64 id] (AMem.wth m [(r, rcObj e .nils c F)]) K := by
 refine acalls_enter Try.func56 rfl (by decide) (Nat.le_of_ble_eq_true rfl) ?_
 show AWP _ _ _ _ [(0, .ptr ⟨r, 0, none⟩), (1, .int .i64 id)] (AMem.wth m [(r, rcObj e .nils c F)])
 refine awp_reg2_seq [] [0, 1, 4] (by decide) ?_
 intro K1 hK1
 refine ⟨trivial, ?_⟩
 show K1 [(0, .ptr ⟨r, 0, none⟩), (1, .int .i64 id), (4, .slice true [])] (AMem.wth m [(r, rcObj e .nils c F)])
 refine hK1 _ _ ?_; clear hK1 K1
 refine awp_seq_k ?_; intro K2 hK2
 refine awp_reg2_seq [] [0, 1, 4, 5] (by decide) ?_
 intro K1 hK1
 refine ⟨trivial, ?_⟩
 show K1 [(0, .ptr ⟨r, 0, none⟩), (1, .int .i64 id), (4, .slice true []), (5, .int .i64 0)] (AMem.wth m [(r, rcObj e .nils c F)])
 refine hK1 _ _ ?_; clear hK1 K1
 refine awp_block ?_
 refine awp_keep [0, 1, 4, 5] (by decide) ?_
 refine awp_loop_st (σ := (List Thg) × Int) (fun ⟨l2, i⟩ => [(0, .ptr ⟨r, 0, none⟩), (1, .int .i64 id), (4, .slice true (l2.map thgAV)), (5, .int .i64 i)]) (fun _ => (AMem.wth m [(r, rcObj e .nils c F)])) (fun ⟨l2, i⟩ => i = 0 ∧ l2 = []) (fun ⟨l2, i⟩ => 1) ([], 0) rfl rfl ?_ ?_
 ·
  show ((0 : Int)) = 0 ∧ (([] : (List Thg))) = []
  exact ⟨rfl, rfl⟩
 rintro ⟨l2, i⟩ hI
 replace hI : i = 0 ∧ l2 = [] := hI
 show AWP _ _ _ _ [(0, .ptr ⟨r, 0, none⟩), (1, .int .i64 id), (4, .slice true (l2.map thgAV)), (5, .int .i64 i)] (AMem.wth m [(r, rcObj e .nils c F)])
 refine awp_seq_k ?_; intro K3 hK3
 refine awp_reg2_seq [] [0, 1, 4, 5, 12] (by decide) ?_
 intro K1 hK1
 refine ⟨trivial, trivial, trivial, ⟨rfl, by decide⟩, ?_⟩
 refine ar_loadp rfl (v := .nils) rfl (wth_get 0 (nodup_1 r) rfl) rfl (apartOk_one rfl rfl (Nat.le_of_ble_eq_true rfl)) rfl ?_
 refine ⟨trivial, trivial, ?_⟩
 show K1 [(0, .ptr ⟨r, 0, none⟩), (1, .int .i64 id), (4, .slice true (l2.map thgAV)), (5, .int .i64 i), (12, .bool (decide (i < 0)))] (AMem.wth m [(r, rcObj e .nils c F)])
 refine hK1 _ _ ?_; clear hK1 K1
 refine awp_cond rfl rfl (fun h1 => ?_) (fun h1 => ?_)
 ·
  replace h1 : i < 0 := (of_decide_eq_true h1)
  omega
 replace h1 : 0 ≤ i := (Int.not_lt.1 (of_decide_eq_false h1))
 refine awp_exit ?_
 refine hK2 _ _ ?_; clear hK2
 obtain ⟨hi0, rfl⟩ := hI
 refine awp_conv1 4 (.slice true []) .nils rfl nils_of_own ?_
 show AWP _ _ _ _ [(0, .ptr ⟨r, 0, none⟩), (1, .int .i64 id), (4, .nils), (5, .int .i64 i), (12, .bool (decide (i < 0)))] (AMem.wth m [(r, rcObj e .nils c F)])
 refine awp_reg2 [] [] (by decide) ?_
 intro K1 hK1
 refine ⟨trivial, trivial, trivial, ⟨rfl, by decide⟩, ?_⟩
 refine ar_storep rfl 0 (v := .nils) (l' := [.ptr ⟨e, 0, none⟩, .nils, .slice true ((toksR c.tokens).map dn3AV), .int .i64 c.next, .int .i64 c.quota, .int .i64 c.calls, .slice true (F.map intAV)]) rfl rfl (nodup_1 r) rfl rfl rfl rfl rfl (Nat.le_of_ble_eq_true rfl) rfl ?_
 show K1 [] (AMem.wth m [(r, rcObj e .nils c F)])
 refine hK1 _ _ ?_; clear hK1 K1
 refine ⟨(AMem.wth m [(r, rcObj e .nils c F)]), fun _ _ h => h, ?_⟩
 show K (.tuple []) (AMem.wth m [(r, rcObj e .nils c F)])

 exact hK [] .nils (nil_vals (by rw [hz]; rfl))

set_option maxHeartbeats 4000000 in
theorem u_RLose_ms (r e b k : Nat) (zs : List Thg) (c : ClSt) (F : List Int) (id : Int) (hN : [r, b].Nodup) (hk : k ≤ zs.length) (hkb : k ≤ 1000000) (hv : zs.take k = vals c) (hids : ∀ p ∈ c.things, p.2.id = p.1) (hn : (c.things.map Prod.fst).Nodup) (hrk : r ≠ b) (m : AMem) (hb : m b = none) (K : AV → AMem → Prop) (hK : ∀ H' av', HidR thgAV m [r] H' av' (vals ({ c with things := mdel c.things id } : ClSt)) → K (.tuple []) ((m.wth H').wth [(r, rcObj e av' ({ c with things := mdel c.things id } : ClSt) F)])) : ACalls Try.prog 56 [.ptr ⟨r, 0, none⟩, .int .i64 id] (AMem.wth m [(r, rcObj e (.ms ⟨b, 0, none⟩ k zs.length) c F), (b, .cells (flatK thgAV zs))]) K := by
 have hlk : (zs.take k).length = k := by rw [List.length_take, Nat.min_eq_left hk]
 have hlv : (zs.take k).filter (fun t => !(t.id == id)) = vals ({ c with things := mdel c.things id } : ClSt) := by rw [hv]; exact lose_vals hids hn id
 refine acalls_enter Try.func56 rfl (by decide) (Nat.le_of_ble_eq_true rfl) ?_
 show AWP _ _ _ _ [(0, .ptr ⟨r, 0, none⟩), (1, .int .i64 id)] (AMem.wth m [(r, rcObj e (.ms ⟨b, 0, none⟩ k zs.length) c F), (b, .cells (flatK thgAV zs))])
 refine awp_reg2_seq [] [0, 1, 4] (by decide) ?_
 intro K1 hK1
 refine ⟨trivial, ?_⟩
 show K1 [(0, .ptr ⟨r, 0, none⟩), (1, .int .i64 id), (4, .slice true [])] (AMem.wth m [(r, rcObj e (.ms ⟨b, 0, none⟩ k zs.length) c F), (b, .cells (flatK thgAV zs))])
 refine hK1 _ _ ?_; clear hK1 K1
 refine awp_seq_k ?_; intro K2 hK2
 refine awp_reg2_seq [] [0, 1, 4, 5] (by decide) ?_
 intro K1 hK1
 refine ⟨trivial, ?_⟩
 show K1 [(0, .ptr ⟨r, 0, none⟩), (1, .int .i64 id), (4, .slice true []), (5, .int .i64 0)] (AMem.wth m [(r, rcObj e (.ms ⟨b, 0, none⟩ k zs.length) c F), (b, .cells (flatK thgAV zs))])
 refine hK1 _ _ ?_; clear hK1 K1
 refine awp_block ?_
 refine awp_conv1 4 (.slice true []) .nils rfl nils_of_own ?_
 refine awp_keep [0, 1, 4, 5] (by decide) ?_
 refine awp_loop_st (σ := (Int) ⊕ (Int × Nat × Nat × List Thg)) (Sum.elim (fun i => [(0, .ptr ⟨r, 0, none⟩), (1, .int .i64 id), (4, .nils), (5, .int .i64 i)]) (fun ⟨i, bq, nq, z2⟩ => [(0, .ptr ⟨r, 0, none⟩), (1, .int .i64 id), (4, .ms ⟨bq, 0, none⟩ nq z2.length), (5, .int .i64 i)])) (Sum.elim (fun i => (AMem.wth m [(r, rcObj e (.ms ⟨b, 0, none⟩ k zs.length) c F), (b, .cells (flatK thgAV zs))])) (fun ⟨i, bq, nq, z2⟩ => (AMem.wth m [(bq, .cells (flatK thgAV z2)), (r, rcObj e (.ms ⟨b, 0, none⟩ k zs.length) c F), (b, .cells (flatK thgAV zs))]))) (Sum.elim (fun i => 0 ≤ i ∧ i ≤ k ∧ ((zs.take k).take (i).toNat).filter (fun t : Thg => !(t.id == id)) = []) (fun ⟨i, bq, nq, z2⟩ => ([bq, r, b] : List Nat).Nodup ∧ m bq = none ∧ 0 ≤ i ∧ i ≤ k ∧ (nq : Nat) ≤ (i).toNat ∧ nq ≤ (z2).length ∧ (z2).take nq = ((zs.take k).take (i).toNat).filter (fun t : Thg => !(t.id == id)))) (Sum.elim (fun i => k - (i).toNat) (fun ⟨i, bq, nq, z2⟩ => k - (i).toNat)) (.inl ((0 : Int))) rfl rfl ?_ ?_
 ·
  show 0 ≤ (0 : Int) ∧ (0 : Int) ≤ k ∧ ((zs.take k).take ((0 : Int)).toNat).filter (fun t : Thg => !(t.id == id)) = []
  exact ⟨by omega, by omega, rfl⟩
 ·
  rintro (i | ⟨i, bq, nq, z2⟩) hI
  ·
   replace hI : 0 ≤ i ∧ i ≤ k ∧ ((zs.take k).take (i).toNat).filter (fun t : Thg => !(t.id == id)) = [] := hI
   show AWP _ _ _ _ [(0, .ptr ⟨r, 0, none⟩), (1, .int .i64 id), (4, .nils), (5, .int .i64 i)] (AMem.wth m [(r, rcObj e (.ms ⟨b, 0, none⟩ k zs.length) c F), (b, .cells (flatK thgAV zs))])
   refine awp_seq_k ?_; intro K3 hK3
   refine awp_reg2_seq [] [0, 1, 4, 5, 12] (by decide) ?_
   intro K1 hK1
   refine ⟨trivial, trivial, trivial, ⟨rfl, by decide⟩, ?_⟩
   refine ar_loadp rfl (v := .ms ⟨b, 0, none⟩ k zs.length) rfl (wth_get 0 hN rfl) rfl (apartOk_one rfl rfl (Nat.le_of_ble_eq_true rfl)) rfl ?_
   refine ⟨(by omega), trivial, ?_⟩
   show K1 [(0, .ptr ⟨r, 0, none⟩), (1, .int .i64 id), (4, .nils), (5, .int .i64 i), (12, .bool (decide (i < ((k : Nat) : Int))))] (AMem.wth m [(r, rcObj e (.ms ⟨b, 0, none⟩ k zs.length) c F), (b, .cells (flatK thgAV zs))])
   refine hK1 _ _ ?_; clear hK1 K1
   refine awp_cond rfl rfl (fun h1 => ?_) (fun h1 => ?_)
   ·
    replace h1 : i < ((k : Nat) : Int) := (of_decide_eq_true h1)
    refine awp_skip ?_
    refine hK3 _ _ ?_; clear hK3
    refine awp_seq_k ?_; intro K4 hK4
    refine awp_block ?_
    refine awp_reg2_seq [] [0, 1, 4, 5, 24] (by decide) ?_
    intro K1 hK1
    refine ⟨trivial, trivial, ⟨rfl, by decide⟩, ?_⟩
    refine ar_loadp rfl (v := .ms ⟨b, 0, none⟩ k zs.length) rfl (wth_get 0 hN rfl) rfl (apartOk_one rfl rfl (Nat.le_of_ble_eq_true rfl)) rfl ?_
    refine ⟨trivial, ⟨rfl, (by omega), (by omega)⟩, ⟨rfl, by decide⟩, ?_⟩
    refine ar_loadk rfl (m := m) (L := [(r, rcObj e (.ms ⟨b, 0, none⟩ k zs.length) c F), (b, .cells (flatK thgAV zs))]) thgAV zs i 0 (v := .int .i64 ((gI zs i).id)) rfl (by show 0 + (i).toNat * 7 + 0 = (i).toNat * 7 + 0; omega) (wth_get 1 hN rfl) rfl (fun _ => rfl) rfl (Nat.le_of_ble_eq_true rfl) (Nat.le_of_ble_eq_true rfl) rfl (by omega) (by omega) ?_
    refine ⟨trivial, trivial, ?_⟩
    show K1 [(0, .ptr ⟨r, 0, none⟩), (1, .int .i64 id), (4, .nils), (5, .int .i64 i), (24, .bool (!(((gI zs i).id) == id)))] (AMem.wth m [(r, rcObj e (.ms ⟨b, 0, none⟩ k zs.length) c F), (b, .cells (flatK thgAV zs))])
    refine hK1 _ _ ?_; clear hK1 K1
    refine awp_cond rfl rfl (fun h2 => ?_) (fun h2 => ?_)
    ·
     replace h2 : (gI zs i).id ≠ id := (ne_of_beq_false (bnT h2))
     refine awp_reg2 [25] [0, 1, 4, 5] (by decide) ?_
     intro K1 hK1
     refine ⟨trivial, trivial, trivial, ⟨rfl, by decide⟩, ?_⟩
     refine ar_loadp rfl (v := .ms ⟨b, 0, none⟩ k zs.length) rfl (wth_get 0 hN rfl) rfl (apartOk_one rfl rfl (Nat.le_of_ble_eq_true rfl)) rfl ?_
     refine ⟨trivial, ⟨rfl, (by omega), (by omega)⟩, ?_⟩
     refine ar_loadk rfl (m := m) (L := [(r, rcObj e (.ms ⟨b, 0, none⟩ k zs.length) c F), (b, .cells (flatK thgAV zs))]) thgAV zs i 0 (v := thgAV (gI zs i)) rfl (by show 0 + (i).toNat * 7 = (i).toNat * 7 + 0; omega) (wth_get 1 hN rfl) rfl (fun _ => rfl) rfl (Nat.le_of_ble_eq_true rfl) (Nat.le_of_ble_eq_true rfl) rfl (by omega) (by omega) ?_
     refine ⟨⟨rfl, Nat.le_of_ble_eq_true rfl, rfl, Nat.le_of_ble_eq_true rfl, rfl, by simp only [List.forall_mem_cons]; exact ⟨⟨rfl, rfl⟩, fun _ h => by cases h⟩⟩, ?_⟩
     refine ar_append0MsK rfl thgAV 7 ([gI zs i] : List Thg) zT rfl rfl rfl rfl rfl rfl rfl rfl (by decide) hN (fun _ => rfl) (fun _ => rfl) (fun _ => rfl) rfl (by simp) (by (simp only [show Try.prog.bytesOf 80 = 104 from rfl, List.length_cons, List.length_nil]; omega)) (by simp) ?_
     intro b1 zs1 hFb1 hNb1 htb1 hlb1
     replace hNb1 : ([b1, r, b] : List Nat).Nodup := hNb1
     refine ⟨trivial, ?_⟩
     show K1 [(0, .ptr ⟨r, 0, none⟩), (1, .int .i64 id), (4, .ms ⟨b1, 0, none⟩ (([gI zs i] : List Thg).length) zs1.length), (5, .int .i64 i)] (AMem.wth m [(b1, .cells (flatK thgAV zs1)), (r, rcObj e (.ms ⟨b, 0, none⟩ k zs.length) c F), (b, .cells (flatK thgAV zs))])
     refine hK1 _ _ ?_; clear hK1 K1
     refine hK4 _ _ ?_; clear hK4
     refine awp_reg2 [] [0, 1, 4, 5] (by decide) ?_
     intro K1 hK1
     refine ⟨trivial, ?_⟩
     refine ar_add rfl (a := i) (b := 1) rfl rfl (by omega) (by omega) ?_
     refine ⟨trivial, ?_⟩
     show K1 [(0, .ptr ⟨r, 0, none⟩), (1, .int .i64 id), (4, .ms ⟨b1, 0, none⟩ (([gI zs i] : List Thg).length) zs1.length), (5, .int .i64 (i + 1))] (AMem.wth m [(b1, .cells (flatK thgAV zs1)), (r, rcObj e (.ms ⟨b, 0, none⟩ k zs.length) c F), (b, .cells (flatK thgAV zs))])
     refine hK1 _ _ ?_; clear hK1 K1
     refine ⟨.inr (i + 1, b1, ([gI zs i] : List Thg).length, zs1), rfl, rfl, ?_, ?_⟩
     ·
      show ([b1, r, b] : List Nat).Nodup ∧ m b1 = none ∧ 0 ≤ i + 1 ∧ i + 1 ≤ k ∧ (([gI zs i] : List Thg).length : Nat) ≤ (i + 1).toNat ∧ (([gI zs i] : List Thg).length) ≤ (zs1).length ∧ (zs1).take (([gI zs i] : List Thg).length) = ((zs.take k).take (i + 1).toNat).filter (fun t : Thg => !(t.id == id))
      exact ⟨hNb1, hFb1, by omega, by omega, by simp; omega, hlb1, by rw [fil_step hk hI.1 (by omega), fil_yes (by assumption), hI.2.2]; exact htb1⟩
     ·
      show k - (i + 1).toNat < k - (i).toNat
      omega
    replace h2 : (gI zs i).id = id := (eq_of_beq (bnF h2))
    refine awp_skip ?_
    refine hK4 _ _ ?_; clear hK4
    refine awp_reg2 [] [0, 1, 4, 5] (by decide) ?_
    intro K1 hK1
    refine ⟨trivial, ?_⟩
    refine ar_add rfl (a := i) (b := 1) rfl rfl (by omega) (by omega) ?_
    refine ⟨trivial, ?_⟩
    show K1 [(0, .ptr ⟨r, 0, none⟩), (1, .int .i64 id), (4, .nils), (5, .int .i64 (i + 1))] (AMem.wth m [(r, rcObj e (.ms ⟨b, 0, none⟩ k zs.length) c F), (b, .cells (flatK thgAV zs))])
    refine hK1 _ _ ?_; clear hK1 K1
    refine ⟨.inl (i + 1), rfl, rfl, ?_, ?_⟩
    ·
     show 0 ≤ i + 1 ∧ i + 1 ≤ k ∧ ((zs.take k).take (i + 1).toNat).filter (fun t : Thg => !(t.id == id)) = []
     exact ⟨by omega, by omega, by rw [fil_step hk hI.1 (by omega), fil_no (by assumption), hI.2.2]; rfl⟩
    ·
     show k - (i + 1).toNat < k - (i).toNat
     omega
   replace h1 : ((k : Nat) : Int) ≤ i := (Int.not_lt.1 (of_decide_eq_false h1))
   refine awp_exit ?_
   refine hK2 _ _ ?_; clear hK2
   refine awp_reg2 [] [] (by decide) ?_
   intro K1 hK1
   refine ⟨trivial, trivial, trivial, ⟨rfl, by decide⟩, ?_⟩
   refine ar_storep rfl 0 (v := .nils) (l' := [.ptr ⟨e, 0, none⟩, .nils, .slice true ((toksR c.tokens).map dn3AV), .int .i64 c.next, .int .i64 c.quota, .int .i64 c.calls, .slice true (F.map intAV)]) rfl rfl hN rfl rfl rfl rfl rfl (Nat.le_of_ble_eq_true rfl) rfl ?_
   show K1 [] (AMem.wth m [(r, rcObj e .nils c F), (b, .cells (flatK thgAV zs))])
   refine hK1 _ _ ?_; clear hK1 K1
   refine ⟨(AMem.wth m [(r, rcObj e .nils c F)]), (wth_keep (m := m) (L := [(r, rcObj e .nils c F), (b, .cells (flatK thgAV zs))]) (L1 := [(r, rcObj e .nils c F)]) (L2 := [(b, .cells (flatK thgAV zs))]) hN (pick_perm [0] _) (by simp only [List.map_cons, List.map_nil, List.forall_mem_cons]; exact ⟨hb, fun _ h => by cases h⟩)), ?_⟩
   show K (.tuple []) (AMem.wth m [(r, rcObj e .nils c F)])
  
   first | (have hf : (zs.take k).take i.toNat = zs.take k := List.take_of_length_le (by omega); rw [hf, hlv] at hI; refine hK [] .nils ?_; rw [hI.2.2]; exact HidR.nil m _) | (have hf : (zs.take k).take i.toNat = zs.take k := List.take_of_length_le (by omega); rw [hf, hlv] at hs5; have hrb : r ≠ bq := (by simp at hN2; omega); rw [hid_two (m := m) (Ne.symm hrb)]; exact hK _ _ (HidR.row hF2 (by simp; exact Ne.symm hrb) hs4 hs5))
  ·
   replace hI : ([bq, r, b] : List Nat).Nodup ∧ m bq = none ∧ 0 ≤ i ∧ i ≤ k ∧ (nq : Nat) ≤ (i).toNat ∧ nq ≤ (z2).length ∧ (z2).take nq = ((zs.take k).take (i).toNat).filter (fun t : Thg => !(t.id == id)) := hI
   obtain ⟨hN2, hF2, hs1, hs2, hs3, hs4, hs5⟩ := hI
   show AWP _ _ _ _ [(0, .ptr ⟨r, 0, none⟩), (1, .int .i64 id), (4, .ms ⟨bq, 0, none⟩ nq z2.length), (5, .int .i64 i)] (AMem.wth m [(bq, .cells (flatK thgAV z2)), (r, rcObj e (.ms ⟨b, 0, none⟩ k zs.length) c F), (b, .cells (flatK thgAV zs))])
   refine awp_seq_k ?_; intro K5 hK5
   refine awp_reg2_seq [] [0, 1, 4, 5, 12] (by decide) ?_
   intro K1 hK1
   refine ⟨trivial, trivial, trivial, ⟨rfl, by decide⟩, ?_⟩
   refine ar_loadp rfl (v := .ms ⟨b, 0, none⟩ k zs.length) rfl (wth_get 1 hN2 rfl) rfl (apartOk_one rfl rfl (Nat.le_of_ble_eq_true rfl)) rfl ?_
   refine ⟨(by omega), trivial, ?_⟩
   show K1 [(0, .ptr ⟨r, 0, none⟩), (1, .int .i64 id), (4, .ms ⟨bq, 0, none⟩ nq z2.length), (5, .int .i64 i), (12, .bool (decide (i < ((k : Nat) : Int))))] (AMem.wth m [(bq, .cells (flatK thgAV z2)), (r, rcObj e (.ms ⟨b, 0, none⟩ k zs.length) c F), (b, .cells (flatK thgAV zs))])
   refine hK1 _ _ ?_; clear hK1 K1
   refine awp_cond rfl rfl (fun h3 => ?_) (fun h3 => ?_)
   ·
    replace h3 : i < ((k : Nat) : Int) := (of_decide_eq_true h3)
    refine awp_skip ?_
    refine hK5 _ _ ?_; clear hK5
    refine awp_seq_k ?_; intro K6 hK6
    refine awp_block ?_
    refine awp_reg2_seq [] [0, 1, 4, 5, 24] (by decide) ?_
    intro K1 hK1
    refine ⟨trivial, trivial, ⟨rfl, by decide⟩, ?_⟩
    refine ar_loadp rfl (v := .ms ⟨b, 0, none⟩ k zs.length) rfl (wth_get 1 hN2 rfl) rfl (apartOk_one rfl rfl (Nat.le_of_ble_eq_true rfl)) rfl ?_
    refine ⟨trivial, ⟨rfl, (by omega), (by omega)⟩, ⟨rfl, by decide⟩, ?_⟩
    refine ar_loadk rfl (m := m) (L := [(bq, .cells (flatK thgAV z2)), (r, rcObj e (.ms ⟨b, 0, none⟩ k zs.length) c F), (b, .cells (flatK thgAV zs))]) thgAV zs i 0 (v := .int .i64 ((gI zs i).id)) rfl (by show 0 + (i).toNat * 7 + 0 = (i).toNat * 7 + 0; omega) (wth_get 2 hN2 rfl) rfl (fun _ => rfl) rfl (Nat.le_of_ble_eq_true rfl) (Nat.le_of_ble_eq_true rfl) rfl (by omega) (by omega) ?_
    refine ⟨trivial, trivial, ?_⟩
    show K1 [(0, .ptr ⟨r, 0, none⟩), (1, .int .i64 id), (4, .ms ⟨bq, 0, none⟩ nq z2.length), (5, .int .i64 i), (24, .bool (!(((gI zs i).id) == id)))] (AMem.wth m [(bq, .cells (flatK thgAV z2)), (r, rcObj e (.ms ⟨b, 0, none⟩ k zs.length) c F), (b, .cells (flatK thgAV zs))])
    refine hK1 _ _ ?_; clear hK1 K1
    refine awp_cond rfl rfl (fun h4 => ?_) (fun h4 => ?_)
    ·
     replace h4 : (gI zs i).id ≠ id := (ne_of_beq_false (bnT h4))
     refine awp_reg2 [25] [0, 1, 4, 5] (by decide) ?_
     intro K1 hK1
     refine ⟨trivial, trivial, trivial, ⟨rfl, by decide⟩, ?_⟩
     refine ar_loadp rfl (v := .ms ⟨b, 0, none⟩ k zs.length) rfl (wth_get 1 hN2 rfl) rfl (apartOk_one rfl rfl (Nat.le_of_ble_eq_true rfl)) rfl ?_
     refine ⟨trivial, ⟨rfl, (by omega), (by omega)⟩, ?_⟩
     refine ar_loadk rfl (m := m) (L := [(bq, .cells (flatK thgAV z2)), (r, rcObj e (.ms ⟨b, 0, none⟩ k zs.length) c F), (b, .cells (flatK thgAV zs))]) thgAV zs i 0 (v := thgAV (gI zs i)) rfl (by show 0 + (i).toNat * 7 = (i).toNat * 7 + 0; omega) (wth_get 2 hN2 rfl) rfl (fun _ => rfl) rfl (Nat.le_of_ble_eq_true rfl) (Nat.le_of_ble_eq_true rfl) rfl (by omega) (by omega) ?_
     refine ⟨⟨rfl, Nat.le_of_ble_eq_true rfl, rfl, Nat.le_of_ble_eq_true rfl, rfl, by simp only [List.forall_mem_cons]; exact ⟨⟨rfl, rfl⟩, fun _ h => by cases h⟩⟩, ?_⟩
     refine ar_appendMsK rfl 0 thgAV 7 z2 ([gI zs i] : List Thg) zT nq rfl rfl rfl rfl rfl rfl rfl rfl (by decide) rfl hN2 hF2 (fun _ => rfl) (fun _ => rfl) (fun _ => rfl) rfl (by (first | omega | (simp only [List.length_append, List.length_cons, List.length_nil]; omega))) (by (simp only [show Try.prog.bytesOf 80 = 104 from rfl, List.length_append, List.length_cons, List.length_nil]; omega)) (by (first | omega | (simp only [List.length_append, List.length_cons, List.length_nil]; omega))) ?_
     intro b2 zs2 hFb2 hNb2 htb2 hlb2
     replace htb2 : zs2.take (nq + ([gI zs i] : List Thg).length) = z2.take nq ++ ([gI zs i] : List Thg) := htb2
     replace hlb2 : nq + ([gI zs i] : List Thg).length ≤ zs2.length := hlb2
     refine ⟨trivial, ?_⟩
     show K1 [(0, .ptr ⟨r, 0, none⟩), (1, .int .i64 id), (4, .ms ⟨b2, 0, none⟩ (nq + ([gI zs i] : List Thg).length) zs2.length), (5, .int .i64 i)] (AMem.wth m [(b2, .cells (flatK thgAV zs2)), (r, rcObj e (.ms ⟨b, 0, none⟩ k zs.length) c F), (b, .cells (flatK thgAV zs))])
     refine hK1 _ _ ?_; clear hK1 K1
     refine hK6 _ _ ?_; clear hK6
     refine awp_reg2 [] [0, 1, 4, 5] (by decide) ?_
     intro K1 hK1
     refine ⟨trivial, ?_⟩
     refine ar_add rfl (a := i) (b := 1) rfl rfl (by omega) (by omega) ?_
     refine ⟨trivial, ?_⟩
     show K1 [(0, .ptr ⟨r, 0, none⟩), (1, .int .i64 id), (4, .ms ⟨b2, 0, none⟩ (nq + ([gI zs i] : List Thg).length) zs2.length), (5, .int .i64 (i + 1))] (AMem.wth m [(b2, .cells (flatK thgAV zs2)), (r, rcObj e (.ms ⟨b, 0, none⟩ k zs.length) c F), (b, .cells (flatK thgAV zs))])
     refine hK1 _ _ ?_; clear hK1 K1
     refine ⟨.inr (i + 1, b2, nq + ([gI zs i] : List Thg).length, zs2), rfl, rfl, ?_, ?_⟩
     ·
      show ([b2, r, b] : List Nat).Nodup ∧ m b2 = none ∧ 0 ≤ i + 1 ∧ i + 1 ≤ k ∧ (nq + ([gI zs i] : List Thg).length : Nat) ≤ (i + 1).toNat ∧ (nq + ([gI zs i] : List Thg).length) ≤ (zs2).length ∧ (zs2).take (nq + ([gI zs i] : List Thg).length) = ((zs.take k).take (i + 1).toNat).filter (fun t : Thg => !(t.id == id))
      exact ⟨hNb2, hFb2, by omega, by omega, by simp; omega, hlb2, by rw [fil_step hk hs1 (by omega), fil_yes (by assumption), htb2, hs5]⟩
     ·
      show k - (i + 1).toNat < k - (i).toNat
      omega
    replace h4 : (gI zs i).id = id := (eq_of_beq (bnF h4))
    refine awp_skip ?_
    refine hK6 _ _ ?_; clear hK6
    refine awp_reg2 [] [0, 1, 4, 5] (by decide) ?_
    intro K1 hK1
    refine ⟨trivial, ?_⟩
    refine ar_add rfl (a := i) (b := 1) rfl rfl (by omega) (by omega) ?_
    refine ⟨trivial, ?_⟩
    show K1 [(0, .ptr ⟨r, 0, none⟩), (1, .int .i64 id), (4, .ms ⟨bq, 0, none⟩ nq z2.length), (5, .int .i64 (i + 1))] (AMem.wth m [(bq, .cells (flatK thgAV z2)), (r, rcObj e (.ms ⟨b, 0, none⟩ k zs.length) c F), (b, .cells (flatK thgAV zs))])
    refine hK1 _ _ ?_; clear hK1 K1
    refine ⟨.inr (i + 1, bq, nq, z2), rfl, rfl, ?_, ?_⟩
    ·
     show ([bq, r, b] : List Nat).Nodup ∧ m bq = none ∧ 0 ≤ i + 1 ∧ i + 1 ≤ k ∧ (nq : Nat) ≤ (i + 1).toNat ∧ nq ≤ (z2).length ∧ (z2).take nq = ((zs.take k).take (i + 1).toNat).filter (fun t : Thg => !(t.id == id))
     exact ⟨hN2, hF2, by omega, by omega, by omega, hs4, by rw [fil_step hk hs1 (by omega), fil_no (by assumption), List.append_nil]; exact hs5⟩
    ·
     show k - (i + 1).toNat < k - (i).toNat
     omega
   replace h3 : ((k : Nat) : Int) ≤ i := (Int.not_lt.1 (of_decide_eq_false h3))
   refine awp_exit ?_
   refine hK2 _ _ ?_; clear hK2
   refine awp_reg2 [] [] (by decide) ?_
   intro K1 hK1
   refine ⟨trivial, trivial, trivial, ⟨rfl, by decide⟩, ?_⟩
   refine ar_storep rfl 1 (v := .ms ⟨bq, 0, none⟩ nq z2.length) (l' := [.ptr ⟨e, 0, none⟩, .ms ⟨bq, 0, none⟩ nq z2.length, .slice true ((toksR c.tokens).map dn3AV), .int .i64 c.next, .int .i64 c.quota, .int .i64 c.calls, .slice true (F.map intAV)]) rfl rfl hN2 rfl rfl rfl rfl rfl (Nat.le_of_ble_eq_true rfl) rfl ?_
   show K1 [] (AMem.wth m [(bq, .cells (flatK thgAV z2)), (r, rcObj e (.ms ⟨bq, 0, none⟩ nq z2.length) c F), (b, .cells (flatK thgAV zs))])
   refine hK1 _ _ ?_; clear hK1 K1
   refine ⟨(AMem.wth m [(bq, .cells (flatK thgAV z2)), (r, rcObj e (.ms ⟨bq, 0, none⟩ nq z2.length) c F)]), (wth_keep (m := m) (L := [(bq, .cells (flatK thgAV z2)), (r, rcObj e (.ms ⟨bq, 0, none⟩ nq z2.length) c F), (b, .cells (flatK thgAV zs))]) (L1 := [(bq, .cells (flatK thgAV z2)), (r, rcObj e (.ms ⟨bq, 0, none⟩ nq z2.length) c F)]) (L2 := [(b, .cells (flatK thgAV zs))]) hN2 (pick_perm [0, 0] _) (by simp only [List.map_cons, List.map_nil, List.forall_mem_cons]; exact ⟨hb, fun _ h => by cases h⟩)), ?_⟩
   show K (.tuple []) (AMem.wth m [(bq, .cells (flatK thgAV z2)), (r, rcObj e (.ms ⟨bq, 0, none⟩ nq z2.length) c F)])
  
   first | (have hf : (zs.take k).take i.toNat = zs.take k := List.take_of_length_le (by omega); rw [hf, hlv] at hI; refine hK [] .nils ?_; rw [hI.2.2]; exact HidR.nil m _) | (have hf : (zs.take k).take i.toNat = zs.take k := List.take_of_length_le (by omega); rw [hf, hlv] at hs5; have hrb : r ≠ bq := (by simp at hN2; omega); rw [hid_two (m := m) (Ne.symm hrb)]; exact hK _ _ (HidR.row hF2 (by simp; exact Ne.symm hrb) hs4 hs5))


theorem u_RLose (r e : Nat) (c : ClSt) (F : List Int) (id : Int) {m : AMem} {H : List (Nat × AObj)} {av : AV} (hT : HidR thgAV m [r] H av (vals c)) (hl : c.things.length ≤ 1000000) (hids : ∀ p ∈ c.things, p.2.id = p.1) (hn : (c.things.map Prod.fst).Nodup) (K : AV → AMem → Prop)
    (hK : ∀ H' av', HidR thgAV m [r] H' av' (vals ({ c with things := mdel c.things id } : ClSt)) → K (.tuple []) ((m.wth H').wth [(r, rcObj e av' ({ c with things := mdel c.things id } : ClSt) F)])) :
    ACalls Try.prog 56 [.ptr ⟨r, 0, none⟩, .int .i64 id] ((m.wth H).wth [(r, rcObj e av c F)]) K := by
  rcases hT.sh with ⟨rfl, rfl, hz⟩ | ⟨b, zs, rfl, rfl, hle, htk⟩
  · exact u_RLose_nil r e c F id (by simpa [vals] using hz) m K hK
  · have hne : r ≠ b := by have := hT.nin (c := r) (by simp); simpa using this
    exact u_RLose_ms r e b (vals c).length zs c F id (by simp [hne]) hle (by unfold vals; rw [List.length_map]; exact hl) htk hids hn hne m (hT.out b (by simp)) K hK

end Go.Proofs

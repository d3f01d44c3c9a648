import Derived.Test.YtoeghipbkmaccaaProg
import Derived.Test.YtoeghipbkmaccaaWl8
import Derived.Test.YtoeghipbkmaccaaCl10
section
namespace Go.Proofs
open Go Go.Aw
set_option maxRecDepth 100000

section
variable {c : ClSt} {s : DSt} {token kind : Str} {v : Val} {id : Int}
theorem createD_3 (ha : attrE v = 0) (hkk : nameV kind = true) (h : (stepF s).2 ≠ 0) : createR c s token kind v = ((c, (stepF s).1), (0, (stepF s).2)) := (createR_3 ha hkk (.inl (by rw [callT, callR_1 h]; exact h))).trans (by first | (rw [callT, ccalls, callR_1 h]; done) | (rw [callT, ccalls, callR_1 h]; rfl))
theorem createD_4 (ha : attrE v = 0) (hkk : nameV kind = true) (h : (stepF s).2 = 0) (hb : (mget c.fails c.calls).getD false = true) : createR c s token kind v = ((({ c with calls := c.calls + 1 } : ClSt), (stepF s).1), (0, 12)) := (createR_3 ha hkk (.inl (by rw [callT, callR_2 h hb]; show (12 : Int) ≠ 0; decide))).trans (by first | (rw [callT, ccalls, callR_2 h hb]; done) | (rw [callT, ccalls, callR_2 h hb]; rfl))
theorem createD_5 (ha : attrE v = 0) (hkk : nameV kind = true) (h : (stepF s).2 = 0) (hb : (mget c.fails c.calls).getD false = false) {d : Dn} (ht : mget c.tokens token = some d) (ho : d.op ≠ 1) : createR c s token kind v = ((({ c with calls := c.calls + 1 } : ClSt), (stepF s).1), (0, 15)) := (createR_3 ha hkk (.inl (by rw [callT, callR_3 h hb (by rw [ht]; exact ⟨rfl, ho⟩)]; show (15 : Int) ≠ 0; decide))).trans (by first | (rw [callT, ccalls, callR_3 h hb (by rw [ht]; exact ⟨rfl, ho⟩)]; done) | (rw [callT, ccalls, callR_3 h hb (by rw [ht]; exact ⟨rfl, ho⟩)]; rfl))
theorem createD_6 (ha : attrE v = 0) (hkk : nameV kind = true) (h : (stepF s).2 = 0) (hb : (mget c.fails c.calls).getD false = false) {d : Dn} (ht : mget c.tokens token = some d) (ho : d.op = 1) : createR c s token kind v = ((({ c with calls := c.calls + 1 } : ClSt), (stepF s).1), (d.id, 0)) := (createR_3 ha hkk (.inr (by rw [callT, callR_4 h hb (.inr (by rw [ht]; exact ho)), ht]; rfl))).trans (by first | (rw [callT, ccalls, callR_4 h hb (.inr (by rw [ht]; exact ho)), ht]; done) | (rw [callT, ccalls, callR_4 h hb (.inr (by rw [ht]; exact ho)), ht]; rfl))
theorem createD_7 (ha : attrE v = 0) (hkk : nameV kind = true) (h : (stepF s).2 = 0) (hb : (mget c.fails c.calls).getD false = false) (ht : mget c.tokens token = none) (hq : c.quota ≤ c.things.length) : createR c s token kind v = ((({ c with calls := c.calls + 1 } : ClSt), (stepF s).1), (0, 13)) := (createR_4 ha hkk ⟨by rw [callT, callR_4 h hb (.inl (by rw [ht]; rfl))], by rw [callT, callR_4 h hb (.inl (by rw [ht]; rfl)), ht]; rfl⟩ hq).trans (by first | (rw [ccalls, callR_4 h hb (.inl (by rw [ht]; rfl))]; done) | (rw [ccalls, callR_4 h hb (.inl (by rw [ht]; rfl))]; rfl))
theorem createD_8 (ha : attrE v = 0) (hkk : nameV kind = true) (h : (stepF s).2 = 0) (hb : (mget c.fails c.calls).getD false = false) (ht : mget c.tokens token = none) (hq : (c.things.length : Int) < c.quota) : createR c s token kind v = (({ c with calls := c.calls + 1, next := c.next + 1, things := mput c.things c.next ⟨c.next, kind, v⟩, tokens := mput c.tokens token ⟨1, c.next⟩ }, (stepF s).1), (c.next, 0)) := (createR_5 ha hkk ⟨by rw [callT, callR_4 h hb (.inl (by rw [ht]; rfl))], by rw [callT, callR_4 h hb (.inl (by rw [ht]; rfl)), ht]; rfl⟩ hq).trans (by first | (rw [ccalls, callR_4 h hb (.inl (by rw [ht]; rfl))]; done) | (rw [ccalls, callR_4 h hb (.inl (by rw [ht]; rfl))]; rfl))
theorem updateD_3 (ha : attrE v = 0) (h : (stepF s).2 ≠ 0) : updateR c s token id v = ((c, (stepF s).1), (stepF s).2) := (updateR_2 ha (.inl (by rw [callT, callR_1 h]; exact h))).trans (by first | (rw [callT, ccalls, callR_1 h]; done) | (rw [callT, ccalls, callR_1 h]; rfl))
theorem updateD_4 (ha : attrE v = 0) (h : (stepF s).2 = 0) (hb : (mget c.fails c.calls).getD false = true) : updateR c s token id v = ((({ c with calls := c.calls + 1 } : ClSt), (stepF s).1), 12) := (updateR_2 ha (.inl (by rw [callT, callR_2 h hb]; show (12 : Int) ≠ 0; decide))).trans (by first | (rw [callT, ccalls, callR_2 h hb]; done) | (rw [callT, ccalls, callR_2 h hb]; rfl))
theorem updateD_5 (ha : attrE v = 0) (h : (stepF s).2 = 0) (hb : (mget c.fails c.calls).getD false = false) {d : Dn} (ht : mget c.tokens token = some d) (ho : d.op ≠ 2) : updateR c s token id v = ((({ c with calls := c.calls + 1 } : ClSt), (stepF s).1), 15) := (updateR_2 ha (.inl (by rw [callT, callR_3 h hb (by rw [ht]; exact ⟨rfl, ho⟩)]; show (15 : Int) ≠ 0; decide))).trans (by first | (rw [callT, ccalls, callR_3 h hb (by rw [ht]; exact ⟨rfl, ho⟩)]; done) | (rw [callT, ccalls, callR_3 h hb (by rw [ht]; exact ⟨rfl, ho⟩)]; rfl))
theorem updateD_6 (ha : attrE v = 0) (h : (stepF s).2 = 0) (hb : (mget c.fails c.calls).getD false = false) {d : Dn} (ht : mget c.tokens token = some d) (ho : d.op = 2) : updateR c s token id v = ((({ c with calls := c.calls + 1 } : ClSt), (stepF s).1), 0) := (updateR_2 ha (.inr (by rw [callT, callR_4 h hb (.inr (by rw [ht]; exact ho)), ht]; rfl))).trans (by first | (rw [callT, ccalls, callR_4 h hb (.inr (by rw [ht]; exact ho)), ht]; done) | (rw [callT, ccalls, callR_4 h hb (.inr (by rw [ht]; exact ho)), ht]; rfl))
theorem updateD_7 (ha : attrE v = 0) (h : (stepF s).2 = 0) (hb : (mget c.fails c.calls).getD false = false) (ht : mget c.tokens token = none) (hq : (mget c.things id).isSome = false) : updateR c s token id v = ((({ c with calls := c.calls + 1 } : ClSt), (stepF s).1), 7) := (updateR_3 ha ⟨by rw [callT, callR_4 h hb (.inl (by rw [ht]; rfl))], by rw [callT, callR_4 h hb (.inl (by rw [ht]; rfl)), ht]; rfl⟩ hq).trans (by first | (rw [ccalls, callR_4 h hb (.inl (by rw [ht]; rfl))]; done) | (rw [ccalls, callR_4 h hb (.inl (by rw [ht]; rfl))]; rfl))
theorem updateD_8 (ha : attrE v = 0) (h : (stepF s).2 = 0) (hb : (mget c.fails c.calls).getD false = false) (ht : mget c.tokens token = none) (hq : (mget c.things id).isSome = true) : updateR c s token id v = (({ c with calls := c.calls + 1, things := mput c.things id ⟨((mget c.things id).getD zT).id, ((mget c.things id).getD zT).kind, v⟩, tokens := mput c.tokens token ⟨2, id⟩ }, (stepF s).1), 0) := (updateR_4 ha ⟨by rw [callT, callR_4 h hb (.inl (by rw [ht]; rfl))], by rw [callT, callR_4 h hb (.inl (by rw [ht]; rfl)), ht]; rfl⟩ hq).trans (by first | (rw [ccalls, callR_4 h hb (.inl (by rw [ht]; rfl))]; done) | (rw [ccalls, callR_4 h hb (.inl (by rw [ht]; rfl))]; rfl))
theorem deleteD_3  (h : (stepF s).2 ≠ 0) : deleteR c s token id = ((c, (stepF s).1), (stepF s).2) := (deleteR_2 (.inl (by rw [callT, callR_1 h]; exact h))).trans (by first | (rw [callT, ccalls, callR_1 h]; done) | (rw [callT, ccalls, callR_1 h]; rfl))
theorem deleteD_4  (h : (stepF s).2 = 0) (hb : (mget c.fails c.calls).getD false = true) : deleteR c s token id = ((({ c with calls := c.calls + 1 } : ClSt), (stepF s).1), 12) := (deleteR_2 (.inl (by rw [callT, callR_2 h hb]; show (12 : Int) ≠ 0; decide))).trans (by first | (rw [callT, ccalls, callR_2 h hb]; done) | (rw [callT, ccalls, callR_2 h hb]; rfl))
theorem deleteD_5  (h : (stepF s).2 = 0) (hb : (mget c.fails c.calls).getD false = false) {d : Dn} (ht : mget c.tokens token = some d) (ho : d.op ≠ 3) : deleteR c s token id = ((({ c with calls := c.calls + 1 } : ClSt), (stepF s).1), 15) := (deleteR_2 (.inl (by rw [callT, callR_3 h hb (by rw [ht]; exact ⟨rfl, ho⟩)]; show (15 : Int) ≠ 0; decide))).trans (by first | (rw [callT, ccalls, callR_3 h hb (by rw [ht]; exact ⟨rfl, ho⟩)]; done) | (rw [callT, ccalls, callR_3 h hb (by rw [ht]; exact ⟨rfl, ho⟩)]; rfl))
theorem deleteD_6  (h : (stepF s).2 = 0) (hb : (mget c.fails c.calls).getD false = false) {d : Dn} (ht : mget c.tokens token = some d) (ho : d.op = 3) : deleteR c s token id = ((({ c with calls := c.calls + 1 } : ClSt), (stepF s).1), 0) := (deleteR_2 (.inr (by rw [callT, callR_4 h hb (.inr (by rw [ht]; exact ho)), ht]; rfl))).trans (by first | (rw [callT, ccalls, callR_4 h hb (.inr (by rw [ht]; exact ho)), ht]; done) | (rw [callT, ccalls, callR_4 h hb (.inr (by rw [ht]; exact ho)), ht]; rfl))
theorem deleteD_7  (h : (stepF s).2 = 0) (hb : (mget c.fails c.calls).getD false = false) (ht : mget c.tokens token = none) (hq : (mget c.things id).isSome = false) : deleteR c s token id = ((({ c with calls := c.calls + 1 } : ClSt), (stepF s).1), 7) := (deleteR_3 ⟨by rw [callT, callR_4 h hb (.inl (by rw [ht]; rfl))], by rw [callT, callR_4 h hb (.inl (by rw [ht]; rfl)), ht]; rfl⟩ hq).trans (by first | (rw [ccalls, callR_4 h hb (.inl (by rw [ht]; rfl))]; done) | (rw [ccalls, callR_4 h hb (.inl (by rw [ht]; rfl))]; rfl))
theorem deleteD_8  (h : (stepF s).2 = 0) (hb : (mget c.fails c.calls).getD false = false) (ht : mget c.tokens token = none) (hq : (mget c.things id).isSome = true) : deleteR c s token id = (({ c with calls := c.calls + 1, things := mdel c.things id, tokens := mput c.tokens token ⟨3, id⟩ }, (stepF s).1), 0) := (deleteR_4 ⟨by rw [callT, callR_4 h hb (.inl (by rw [ht]; rfl))], by rw [callT, callR_4 h hb (.inl (by rw [ht]; rfl)), ht]; rfl⟩ hq).trans (by first | (rw [ccalls, callR_4 h hb (.inl (by rw [ht]; rfl))]; done) | (rw [ccalls, callR_4 h hb (.inl (by rw [ht]; rfl))]; rfl))
end

theorem u_QStepC (a : Nat) {s : DSt} {q : RSt} {N : Nat} (h : Two s q N) (hN : N ≤ 200) (m : AMem) (K : AV → AMem → Prop) (hK : K (.int .i64 (stepF s).2) (AMem.wth m [(a, rObj (rT q (stepF s).1))])) : ACalls Try.prog 36 [.ptr ⟨a, 0, none⟩] (AMem.wth m [(a, rObj (rT q s))]) K :=
  u_QStepZ a s h.fu0 h.fu1 h.st0 (by have := h.st1; omega) m K hK
theorem toksR_len (l : List (Str × Dn)) : (toksR l).length = l.length := by unfold toksR; rw [List.length_map]
theorem gI_toks {l : List (Str × Dn)} {i : Int} (h0 : 0 ≤ i) (hi : i < (toksR l).length) : gI (toksR l) i = ⟨(gI l i).1, (gI l i).2.op, (gI l i).2.id⟩ := by
  rw [toksR_len] at hi
  unfold gI toksR
  have h : i.toNat < l.length := by omega
  simp [List.getD_eq_getElem?_getD, h]
theorem mput_noneG {κ ν : Type} [DecidableEq κ] {l : List (κ × ν)} {k : κ} (h : mget l k = none) (v : ν) : mput l k v = l ++ [(k, v)] := by
  cases hm : midx l k with
  | none => exact (midx_none hm).2.2 v
  | some j => obtain ⟨b, _, h2, _⟩ := midx_some hm; rw [h] at h2; cases h2
theorem toksR_put {l : List (Str × Dn)} {k : Str} (h : mget l k = none) (o i : Int) : toksR (mput l k ⟨o, i⟩) = toksR l ++ [⟨k, o, i⟩] := by
  rw [mput_noneG h]; unfold toksR; rw [List.map_append]; rfl
theorem vals_len (c : ClSt) : (vals c).length = c.things.length := by unfold vals; rw [List.length_map]
theorem tok_hit {c : ClSt} {token : Str} {i : Int} (hI : 0 ≤ i ∧ i ≤ (toksR c.tokens).length ∧ mget c.tokens token = mget (c.tokens.drop i.toNat) token) (h : i < (toksR c.tokens).length) (he : (gI (toksR c.tokens) i).tok = token) : mget c.tokens token = some (gI c.tokens i).2 := by
  rw [gI_toks hI.1 h] at he
  rw [hI.2.2, mget_drop hI.1 (by rw [toksR_len] at h; exact h), if_pos he]
theorem tok_miss {c : ClSt} {token : Str} {i : Int} (hI : 0 ≤ i ∧ i ≤ (toksR c.tokens).length ∧ mget c.tokens token = mget (c.tokens.drop i.toNat) token) (h : i < (toksR c.tokens).length) (he : (gI (toksR c.tokens) i).tok ≠ token) : mget c.tokens token = mget (c.tokens.drop (i + 1).toNat) token := by
  rw [gI_toks hI.1 h] at he
  rw [hI.2.2, mget_drop hI.1 (by rw [toksR_len] at h; exact h), if_neg he]
theorem tok_end {c : ClSt} {token : Str} {i : Int} (hI : 0 ≤ i ∧ i ≤ (toksR c.tokens).length ∧ mget c.tokens token = mget (c.tokens.drop i.toNat) token) (h : (toksR c.tokens).length ≤ i) : mget c.tokens token = none := by
  rw [hI.2.2, List.drop_eq_nil_of_le (by rw [toksR_len] at h; omega)]; rfl
theorem nextKey {c : ClSt} (h : ∀ p ∈ c.things, p.1 < c.next) : mget c.things c.next = none := mget_noneG.2 fun hm => by
  obtain ⟨p, hp, e⟩ := List.mem_map.1 hm
  have := h p hp
  omega
theorem vals_put {c : ClSt} (h : ∀ p ∈ c.things, p.1 < c.next) (t : Thg) : (mput c.things c.next t).map Prod.snd = vals c ++ [t] := by
  rw [mput_noneG (nextKey h), List.map_append]; rfl


theorem attrE_nn (v : Val) : 0 ≤ attrE v := by
  unfold attrE; split
  · rw [chk_R]; split
    · decide
    · split <;> decide
  · decide
theorem rcObj_put {e : Nat} {av : AV} {c : ClSt} {F : List Int} {token : Str} {o i : Int} (h : mget c.tokens token = none) (n ca : Int) (t : List (Int × Thg)) : rcObj e av ({ c with calls := ca, next := n, things := t, tokens := mput c.tokens token ⟨o, i⟩ } : ClSt) F = .cells [.ptr ⟨e, 0, none⟩, av, .slice true ((toksR c.tokens ++ [(⟨token, o, i⟩ : Dn3)]).map dn3AV), .int .i64 n, .int .i64 c.quota, .int .i64 ca, .slice true (F.map intAV)] := by
  simp only [rcObj, toksR_put h]

def vObj (v : Val) : AObj := .cells [.int .i64 v.kind, .int .i64 v.n, .str v.s, .slice false (v.l.map valIn), .slice false (v.f.map fldIn)]
set_option maxHeartbeats 8000000 in
theorem u_Do1_nil (r e : Nat) (q : RSt) (s : DSt) (c : ClSt) (F : List Int) (token kind : Str) (id : Int) (v : Val) (N : Nat) (hN : [r, e].Nodup) (hz : c.things = []) (hcl : ∀ p ∈ c.things, p.1 < c.next) (hT : Two s q N) (hNN : N ≤ 200) (hB : depV v ≤ 1000000000000) (hfr : (mget c.fails c.calls).getD false = true ↔ c.calls ∈ F) (hca : 0 ≤ c.calls) (hca2 : c.calls ≤ 1000000) (hnx : 0 ≤ c.next) (hnx2 : c.next ≤ 1000000) (htl : c.things.length ≤ 1000000) (hol : c.tokens.length ≤ 1000000) (hFl : F.length ≤ 1000000) (m : AMem)  (K : AV → AMem → Prop) (hK : ∀ r0, createR c s token kind v = r0 → ∀ H' av', HidR thgAV m [r, e] H' av' (vals r0.1.1) → K (.tuple [.int .i64 r0.2.1, .int .i64 r0.2.2]) ((m.wth H').wth [(r, rcObj e av' r0.1.1 F), (e, rObj (rT q r0.1.2))])) : ACalls Try.prog 49 [.ptr ⟨r, 0, none⟩, .int .i64 1, .str token, .str kind, .int .i64 id, valTop v] (AMem.wth m [(r, rcObj e .nils c F), (e, zR s)]) K := by
 have hzl : c.things.length = 0 := by rw [hz]; rfl
 have hae := attrE_nn v
 have htkl : (toksR c.tokens).length ≤ 1000000 := by rw [toksR_len]; exact hol
 refine acalls_enter Try.func49 rfl (by decide) (Nat.le_of_ble_eq_true rfl) ?_
 show AWP _ _ _ _ [(0, .ptr ⟨r, 0, none⟩), (1, .int .i64 1), (2, .str token), (3, .str kind), (4, .int .i64 id), (5, valTop v)] (AMem.wth m [(r, rcObj e .nils c F), (e, zR s)])
 refine awp_reg2_seq [] [0, 1, 2, 3, 4, 11] (by decide) ?_
 intro K1 hK1
 refine ar_box rfl (m := m) (L := [(r, rcObj e .nils c F), (e, zR s)]) (v := valTop v) (by rfl) rfl ?_
 intro b1 hb1
 have hFb1 : m b1 = none := wth_none hb1
 have hNb1 : ([b1, r, e] : List Nat).Nodup := wth_nodup hb1 hN
 refine ⟨trivial, trivial, ?_⟩
 show K1 [(0, .ptr ⟨r, 0, none⟩), (1, .int .i64 1), (2, .str token), (3, .str kind), (4, .int .i64 id), (11, .ptr ⟨b1, 0, none⟩)] (AMem.wth m [(b1, vObj v), (r, rcObj e .nils c F), (e, zR s)])
 refine hK1 _ _ ?_; clear hK1 K1
 refine awp_seq_k ?_; intro K2 hK2
 refine awp_reg2_seq [] [0, 1, 2, 3, 4, 11, 22] (by decide) ?_
 intro K1 hK1
 refine ⟨trivial, trivial, ?_⟩
 show K1 [(0, .ptr ⟨r, 0, none⟩), (1, .int .i64 1), (2, .str token), (3, .str kind), (4, .int .i64 id), (11, .ptr ⟨b1, 0, none⟩), (22, .bool true)] _
 refine hK1 _ _ ?_; clear hK1 K1
 refine awp_cond rfl rfl (fun hcz => ?_) (fun hcz => ?_)
 rotate_left; · cases hcz
 clear hcz
 refine awp_reg2_seq [] [0, 1, 2, 3, 4, 11, 14] (by decide) ?_
 intro K1 hK1
 refine ar_loadp rfl (v := .agg [.int .i64 v.kind, .int .i64 v.n, .str v.s, .slice false (v.l.map valIn), .slice false (v.f.map fldIn)]) rfl (wth_get 0 hNb1 rfl) rfl (apartOk_agg rfl rfl (Nat.le_of_ble_eq_true rfl)) rfl ?_
 refine u_attrsFault v hB _ _ ?_
 refine ⟨trivial, ?_⟩
 show K1 [(0, .ptr ⟨r, 0, none⟩), (1, .int .i64 1), (2, .str token), (3, .str kind), (4, .int .i64 id), (11, .ptr ⟨b1, 0, none⟩), (14, .int .i64 (attrE v))] _
 refine hK1 _ _ ?_; clear hK1 K1
 refine awp_reg2_seq [] [0, 1, 2, 3, 4, 11, 14, 26] (by decide) ?_
 intro K1 hK1
 refine ⟨trivial, trivial, ?_⟩
 show K1 [(0, .ptr ⟨r, 0, none⟩), (1, .int .i64 1), (2, .str token), (3, .str kind), (4, .int .i64 id), (11, .ptr ⟨b1, 0, none⟩), (14, .int .i64 (attrE v)), (26, .bool (decide (0 < attrE v)))] _
 refine hK1 _ _ ?_; clear hK1 K1
 refine awp_cond rfl rfl (fun h1 => ?_) (fun h1 => ?_)
 ·
  replace h1 : 0 < attrE v := (of_decide_eq_true h1)
  refine awp_reg2_seq [] [12, 13] (by decide) ?_
  intro K1 hK1
  refine ⟨trivial, trivial, trivial, ?_⟩
  show K1 [(12, .int .i64 0), (13, .int .i64 (attrE v))] (AMem.wth m [(b1, vObj v), (r, rcObj e .nils c F), (e, zR s)])
  refine hK1 _ _ ?_; clear hK1 K1
  refine awp_ret ?_
  refine ⟨trivial, trivial, (AMem.wth m [(r, rcObj e .nils c F), (e, zR s)]), (wth_keep (m := m) (L := [(b1, vObj v), (r, rcObj e .nils c F), (e, zR s)]) (L1 := [(r, rcObj e .nils c F), (e, zR s)]) (L2 := [(b1, vObj v)]) hNb1 (pick_perm [1, 1] _) (by simp only [List.map_cons, List.map_nil, List.forall_mem_cons]; exact ⟨hFb1, fun _ h => by cases h⟩)), ?_⟩
  show K (.tuple [.int .i64 0, .int .i64 (attrE v)]) (AMem.wth m [(r, rcObj e .nils c F), (e, zR s)])
 
  exact hK _ (createR_1 (by omega)) [] .nils (nil_vals hz)
 replace h1 : attrE v ≤ 0 := (Int.not_lt.1 (of_decide_eq_false h1))
 refine awp_skip ?_
 refine hK2 _ _ ?_; clear hK2
 refine awp_reg2_seq [] [0, 1, 2, 3, 4, 11, 15] (by decide) ?_
 intro K1 hK1
 refine ⟨trivial, ?_⟩
 refine u_NameMay kind _ _ ?_
 refine ⟨trivial, ?_⟩
 show K1 [(0, .ptr ⟨r, 0, none⟩), (1, .int .i64 1), (2, .str token), (3, .str kind), (4, .int .i64 id), (11, .ptr ⟨b1, 0, none⟩), (15, .bool (nameV kind))] (AMem.wth m [(b1, vObj v), (r, rcObj e .nils c F), (e, zR s)])
 refine hK1 _ _ ?_; clear hK1 K1
 refine awp_seq_k ?_; intro K3 hK3
 refine awp_reg2_seq [] [0, 1, 2, 3, 4, 11, 35] (by decide) ?_
 intro K1 hK1
 suffices key : K1 [(0, .ptr ⟨r, 0, none⟩), (1, .int .i64 1), (2, .str token), (3, .str kind), (4, .int .i64 id), (11, .ptr ⟨b1, 0, none⟩), (35, .bool (!(nameV kind)))] (AMem.wth m [(b1, vObj v), (r, rcObj e .nils c F), (e, zR s)]) by
  refine ⟨trivial, trivial, trivial, trivial, trivial, ?_⟩
  exact key
 refine hK1 _ _ ?_; clear hK1 K1
 refine awp_cond rfl rfl (fun h2 => ?_) (fun h2 => ?_)
 ·
  replace h2 : nameV kind = false := (bnT h2)
  refine awp_reg2_seq [] [12, 13] (by decide) ?_
  intro K1 hK1
  refine ⟨trivial, trivial, ?_⟩
  show K1 [(12, .int .i64 0), (13, .int .i64 3)] (AMem.wth m [(b1, vObj v), (r, rcObj e .nils c F), (e, zR s)])
  refine hK1 _ _ ?_; clear hK1 K1
  refine awp_ret ?_
  refine ⟨trivial, trivial, (AMem.wth m [(r, rcObj e .nils c F), (e, zR s)]), (wth_keep (m := m) (L := [(b1, vObj v), (r, rcObj e .nils c F), (e, zR s)]) (L1 := [(r, rcObj e .nils c F), (e, zR s)]) (L2 := [(b1, vObj v)]) hNb1 (pick_perm [1, 1] _) (by simp only [List.map_cons, List.map_nil, List.forall_mem_cons]; exact ⟨hFb1, fun _ h => by cases h⟩)), ?_⟩
  show K (.tuple [.int .i64 0, .int .i64 3]) (AMem.wth m [(r, rcObj e .nils c F), (e, zR s)])
 
  exact hK _ (createR_2 (by omega) (by assumption)) [] .nils (nil_vals hz)
 replace h2 : nameV kind = true := (bnF h2)
 refine awp_skip ?_
 refine hK3 _ _ ?_; clear hK3
 refine awp_seq_k ?_; intro K4 hK4
 refine awp_reg2_seq [] [0, 1, 2, 3, 4, 11, 16] (by decide) ?_
 intro K1 hK1
 refine ⟨trivial, trivial, ⟨rfl, by decide⟩, ?_⟩
 refine ar_loadp rfl (v := .ptr ⟨e, 0, none⟩) rfl (wth_get 1 hNb1 rfl) rfl (apartOk_one rfl rfl (Nat.le_of_ble_eq_true rfl)) rfl ?_
 refine ar_mem (wth_split hNb1 (pick_perm [2] _)) ?_
 refine u_QStepC e hT hNN _ _ ?_
 show aopsR _ _ _ _ _ _ (AMem.wth (AMem.wth m [(b1, vObj v), (r, rcObj e .nils c F)]) [(e, zR ((stepF s).1))])
 refine ar_mem (wth_split (m := m) (L := [(b1, vObj v), (r, rcObj e .nils c F), (e, zR ((stepF s).1))]) hNb1 (pick_perm [2] _)).symm ?_
 refine ⟨trivial, ?_⟩
 show K1 [(0, .ptr ⟨r, 0, none⟩), (1, .int .i64 1), (2, .str token), (3, .str kind), (4, .int .i64 id), (11, .ptr ⟨b1, 0, none⟩), (16, .int .i64 ((stepF s).2))] (AMem.wth m [(b1, vObj v), (r, rcObj e .nils c F), (e, zR ((stepF s).1))])
 refine hK1 _ _ ?_; clear hK1 K1
 refine awp_reg2_seq [] [0, 1, 2, 3, 4, 11, 16, 42] (by decide) ?_
 intro K1 hK1
 refine ⟨trivial, trivial, ?_⟩
 show K1 [(0, .ptr ⟨r, 0, none⟩), (1, .int .i64 1), (2, .str token), (3, .str kind), (4, .int .i64 id), (11, .ptr ⟨b1, 0, none⟩), (16, .int .i64 ((stepF s).2)), (42, .bool (decide (0 < (stepF s).2)))] _
 refine hK1 _ _ ?_; clear hK1 K1
 refine awp_cond rfl rfl (fun h3 => ?_) (fun h3 => ?_)
 ·
  replace h3 : 0 < (stepF s).2 := (of_decide_eq_true h3)
  refine awp_reg2_seq [] [12, 13] (by decide) ?_
  intro K1 hK1
  refine ⟨trivial, trivial, trivial, ?_⟩
  show K1 [(12, .int .i64 0), (13, .int .i64 ((stepF s).2))] (AMem.wth m [(b1, vObj v), (r, rcObj e .nils c F), (e, zR ((stepF s).1))])
  refine hK1 _ _ ?_; clear hK1 K1
  refine awp_ret ?_
  refine ⟨trivial, trivial, (AMem.wth m [(r, rcObj e .nils c F), (e, zR ((stepF s).1))]), (wth_keep (m := m) (L := [(b1, vObj v), (r, rcObj e .nils c F), (e, zR ((stepF s).1))]) (L1 := [(r, rcObj e .nils c F), (e, zR ((stepF s).1))]) (L2 := [(b1, vObj v)]) hNb1 (pick_perm [1, 1] _) (by simp only [List.map_cons, List.map_nil, List.forall_mem_cons]; exact ⟨hFb1, fun _ h => by cases h⟩)), ?_⟩
  show K (.tuple [.int .i64 0, .int .i64 ((stepF s).2)]) (AMem.wth m [(r, rcObj e .nils c F), (e, zR ((stepF s).1))])
 
  exact hK _ (createD_3 (by omega) (by assumption) (by omega)) [] .nils (nil_vals hz)
 replace h3 : (stepF s).2 ≤ 0 := (Int.not_lt.1 (of_decide_eq_false h3))
 refine awp_skip ?_
 refine hK4 _ _ ?_; clear hK4
 have hs0 : (stepF s).2 = 0 := by have := (stepF_keep s).2.2.2; omega
 refine awp_reg2_seq [] [0, 1, 2, 3, 4, 11, 17] (by decide) ?_
 intro K1 hK1
 refine ⟨trivial, trivial, ⟨rfl, by decide⟩, ?_⟩
 refine ar_loadp rfl (v := .int .i64 c.calls) rfl (wth_get 1 hNb1 rfl) rfl (apartOk_one rfl rfl (Nat.le_of_ble_eq_true rfl)) rfl ?_
 refine ⟨trivial, ?_⟩
 show K1 [(0, .ptr ⟨r, 0, none⟩), (1, .int .i64 1), (2, .str token), (3, .str kind), (4, .int .i64 id), (11, .ptr ⟨b1, 0, none⟩), (17, .int .i64 c.calls)] (AMem.wth m [(b1, vObj v), (r, rcObj e .nils c F), (e, zR ((stepF s).1))])
 refine hK1 _ _ ?_; clear hK1 K1
 refine awp_reg2_seq [] [0, 1, 2, 3, 4, 11, 17] (by decide) ?_
 intro K1 hK1
 refine ⟨trivial, trivial, ⟨rfl, by decide⟩, ?_⟩
 refine ar_loadp rfl (v := .int .i64 c.calls) rfl (wth_get 1 hNb1 rfl) rfl (apartOk_one rfl rfl (Nat.le_of_ble_eq_true rfl)) rfl ?_
 refine ar_add rfl (a := c.calls) (b := 1) rfl rfl (by omega) (by omega) ?_
 refine ⟨trivial, ⟨rfl, by decide⟩, ?_⟩
 refine ar_storep rfl 1 (v := .int .i64 (c.calls + 1)) (l' := [.ptr ⟨e, 0, none⟩, .nils, .slice true ((toksR c.tokens).map dn3AV), .int .i64 c.next, .int .i64 c.quota, .int .i64 (c.calls + 1), .slice true (F.map intAV)]) rfl rfl hNb1 rfl rfl rfl rfl rfl (Nat.le_of_ble_eq_true rfl) rfl ?_
 show K1 [(0, .ptr ⟨r, 0, none⟩), (1, .int .i64 1), (2, .str token), (3, .str kind), (4, .int .i64 id), (11, .ptr ⟨b1, 0, none⟩), (17, .int .i64 c.calls)] (AMem.wth m [(b1, vObj v), (r, .cells [.ptr ⟨e, 0, none⟩, .nils, .slice true ((toksR c.tokens).map dn3AV), .int .i64 c.next, .int .i64 c.quota, .int .i64 (c.calls + 1), .slice true (F.map intAV)]), (e, zR ((stepF s).1))])
 refine hK1 _ _ ?_; clear hK1 K1
 refine awp_seq_k ?_; intro K5 hK5
 refine awp_reg2_seq [] [0, 1, 2, 3, 4, 11, 17, 18] (by decide) ?_
 intro K1 hK1
 refine ⟨trivial, ?_⟩
 show K1 [(0, .ptr ⟨r, 0, none⟩), (1, .int .i64 1), (2, .str token), (3, .str kind), (4, .int .i64 id), (11, .ptr ⟨b1, 0, none⟩), (17, .int .i64 c.calls), (18, .int .i64 0)] _
 refine hK1 _ _ ?_; clear hK1 K1
 refine awp_block ?_
 refine awp_keep [0, 1, 2, 3, 4, 11, 17, 18] (by decide) ?_
 refine awp_loop_st (σ := Int) (fun i => [(0, .ptr ⟨r, 0, none⟩), (1, .int .i64 1), (2, .str token), (3, .str kind), (4, .int .i64 id), (11, .ptr ⟨b1, 0, none⟩), (17, .int .i64 c.calls), (18, .int .i64 i)]) (fun _ => (AMem.wth m [(b1, vObj v), (r, .cells [.ptr ⟨e, 0, none⟩, .nils, .slice true ((toksR c.tokens).map dn3AV), .int .i64 c.next, .int .i64 c.quota, .int .i64 (c.calls + 1), .slice true (F.map intAV)]), (e, zR ((stepF s).1))])) (fun i => 0 ≤ i ∧ i ≤ F.length ∧ ∀ x ∈ F.take i.toNat, x ≠ c.calls) (fun i => F.length - i.toNat) (0) rfl rfl ?_ ?_
 ·
  show 0 ≤ ((0 : Int)) ∧ ((0 : Int)) ≤ F.length ∧ ∀ x ∈ F.take ((0 : Int)).toNat, x ≠ c.calls
  exact ⟨by omega, by omega, fun x hx => by simp at hx⟩
 rintro i hI
 replace hI : 0 ≤ i ∧ i ≤ F.length ∧ ∀ x ∈ F.take i.toNat, x ≠ c.calls := hI
 show AWP _ _ _ _ [(0, .ptr ⟨r, 0, none⟩), (1, .int .i64 1), (2, .str token), (3, .str kind), (4, .int .i64 id), (11, .ptr ⟨b1, 0, none⟩), (17, .int .i64 c.calls), (18, .int .i64 i)] (AMem.wth m [(b1, vObj v), (r, .cells [.ptr ⟨e, 0, none⟩, .nils, .slice true ((toksR c.tokens).map dn3AV), .int .i64 c.next, .int .i64 c.quota, .int .i64 (c.calls + 1), .slice true (F.map intAV)]), (e, zR ((stepF s).1))])
 refine awp_seq_k ?_; intro K6 hK6
 refine awp_reg2_seq [] [0, 1, 2, 3, 4, 11, 17, 18, 61] (by decide) ?_
 intro K1 hK1
 refine ⟨trivial, trivial, trivial, ⟨rfl, by decide⟩, ?_⟩
 refine ar_loadp rfl (v := .slice false (F.map intAV)) rfl (wth_get 1 hNb1 rfl) rfl (apartOk_one rfl rfl (Nat.le_of_ble_eq_true rfl)) rfl ?_
 refine ar_len rfl intAV F rfl rfl rfl ?_
 refine ⟨trivial, ?_⟩
 show K1 [(0, .ptr ⟨r, 0, none⟩), (1, .int .i64 1), (2, .str token), (3, .str kind), (4, .int .i64 id), (11, .ptr ⟨b1, 0, none⟩), (17, .int .i64 c.calls), (18, .int .i64 i), (61, .bool (decide (i < (F.length : Int))))] _
 refine hK1 _ _ ?_; clear hK1 K1
 refine awp_cond rfl rfl (fun h4 => ?_) (fun h4 => ?_)
 ·
  replace h4 : i < (F.length : Int) := (of_decide_eq_true h4)
  refine awp_skip ?_
  refine hK6 _ _ ?_; clear hK6
  refine awp_seq_k ?_; intro K7 hK7
  refine awp_block ?_
  refine awp_reg2_seq [] [0, 1, 2, 3, 4, 11, 17, 18, 72] (by decide) ?_
  intro K1 hK1
  refine ⟨trivial, trivial, ⟨rfl, by decide⟩, ?_⟩
  refine ar_loadp rfl (v := .slice false (F.map intAV)) rfl (wth_get 1 hNb1 rfl) rfl (apartOk_one rfl rfl (Nat.le_of_ble_eq_true rfl)) rfl ?_
  refine ⟨trivial, ?_⟩
  refine ar_index rfl intAV F i rfl rfl rfl rfl rfl (by decide) (fun _ => rfl) (by omega) (by omega) ?_
  refine ⟨(apartOk_one rfl rfl (Nat.le_of_ble_eq_true rfl)), trivial, trivial, ?_⟩
  show K1 [(0, .ptr ⟨r, 0, none⟩), (1, .int .i64 1), (2, .str token), (3, .str kind), (4, .int .i64 id), (11, .ptr ⟨b1, 0, none⟩), (17, .int .i64 c.calls), (18, .int .i64 i), (72, .bool ((gI F i) == c.calls))] (AMem.wth m [(b1, vObj v), (r, .cells [.ptr ⟨e, 0, none⟩, .nils, .slice true ((toksR c.tokens).map dn3AV), .int .i64 c.next, .int .i64 c.quota, .int .i64 (c.calls + 1), .slice true (F.map intAV)]), (e, zR ((stepF s).1))])
  refine hK1 _ _ ?_; clear hK1 K1
  refine awp_cond rfl rfl (fun h5 => ?_) (fun h5 => ?_)
  ·
   replace h5 : gI F i = c.calls := (eq_of_beq h5)
   refine awp_reg2_seq [] [12, 13] (by decide) ?_
   intro K1 hK1
   refine ⟨trivial, trivial, ?_⟩
   show K1 [(12, .int .i64 0), (13, .int .i64 12)] (AMem.wth m [(b1, vObj v), (r, .cells [.ptr ⟨e, 0, none⟩, .nils, .slice true ((toksR c.tokens).map dn3AV), .int .i64 c.next, .int .i64 c.quota, .int .i64 (c.calls + 1), .slice true (F.map intAV)]), (e, zR ((stepF s).1))])
   refine hK1 _ _ ?_; clear hK1 K1
   refine awp_ret ?_
   refine ⟨trivial, trivial, (AMem.wth m [(r, .cells [.ptr ⟨e, 0, none⟩, .nils, .slice true ((toksR c.tokens).map dn3AV), .int .i64 c.next, .int .i64 c.quota, .int .i64 (c.calls + 1), .slice true (F.map intAV)]), (e, zR ((stepF s).1))]), (wth_keep (m := m) (L := [(b1, vObj v), (r, .cells [.ptr ⟨e, 0, none⟩, .nils, .slice true ((toksR c.tokens).map dn3AV), .int .i64 c.next, .int .i64 c.quota, .int .i64 (c.calls + 1), .slice true (F.map intAV)]), (e, zR ((stepF s).1))]) (L1 := [(r, .cells [.ptr ⟨e, 0, none⟩, .nils, .slice true ((toksR c.tokens).map dn3AV), .int .i64 c.next, .int .i64 c.quota, .int .i64 (c.calls + 1), .slice true (F.map intAV)]), (e, zR ((stepF s).1))]) (L2 := [(b1, vObj v)]) hNb1 (pick_perm [1, 1] _) (by simp only [List.map_cons, List.map_nil, List.forall_mem_cons]; exact ⟨hFb1, fun _ h => by cases h⟩)), ?_⟩
   show K (.tuple [.int .i64 0, .int .i64 12]) (AMem.wth m [(r, .cells [.ptr ⟨e, 0, none⟩, .nils, .slice true ((toksR c.tokens).map dn3AV), .int .i64 c.next, .int .i64 c.quota, .int .i64 (c.calls + 1), .slice true (F.map intAV)]), (e, zR ((stepF s).1))])
  
   have z3 := gI_mem (l := F) hI.1 (by assumption)
   have z4 : gI F i = c.calls := by assumption
   rw [z4] at z3
   exact hK _ (createD_4 (by omega) (by assumption) hs0 (hfr.2 z3)) [] .nils (nil_vals hz)
  replace h5 : gI F i ≠ c.calls := (ne_of_beq_false h5)
  refine awp_skip ?_
  refine hK7 _ _ ?_; clear hK7
  refine awp_reg2 [] [0, 1, 2, 3, 4, 11, 17, 18] (by decide) ?_
  intro K1 hK1
  refine ⟨trivial, ?_⟩
  refine ar_add rfl (a := i) (b := 1) rfl rfl (by omega) (by omega) ?_
  refine ⟨trivial, ?_⟩
  show K1 [(0, .ptr ⟨r, 0, none⟩), (1, .int .i64 1), (2, .str token), (3, .str kind), (4, .int .i64 id), (11, .ptr ⟨b1, 0, none⟩), (17, .int .i64 c.calls), (18, .int .i64 (i + 1))] (AMem.wth m [(b1, vObj v), (r, .cells [.ptr ⟨e, 0, none⟩, .nils, .slice true ((toksR c.tokens).map dn3AV), .int .i64 c.next, .int .i64 c.quota, .int .i64 (c.calls + 1), .slice true (F.map intAV)]), (e, zR ((stepF s).1))])
  refine hK1 _ _ ?_; clear hK1 K1
  refine ⟨(i + 1), rfl, rfl, ?_, ?_⟩
  ·
   show 0 ≤ ((i + 1 : Int)) ∧ ((i + 1 : Int)) ≤ F.length ∧ ∀ x ∈ F.take ((i + 1 : Int)).toNat, x ≠ c.calls
   refine ⟨by omega, by omega, fun x hx => ?_⟩
   rw [take_succ_gI hI.1 (by assumption), List.mem_append] at hx
   rcases hx with hx | hx
   ·
    exact hI.2.2 x hx
   ·
    simp at hx; subst hx; assumption
  ·
   show F.length - ((i + 1 : Int)).toNat < F.length - i.toNat
   omega
 replace h4 : (F.length : Int) ≤ i := (Int.not_lt.1 (of_decide_eq_false h4))
 refine awp_exit ?_
 refine hK5 _ _ ?_; clear hK5
 refine awp_seq_k ?_; intro K8 hK8
 have hb0 : (mget c.fails c.calls).getD false = false := by
  rw [Bool.eq_false_iff]; intro z
  have z2 := hfr.1 z
  rw [take_full (by assumption)] at hI
  exact hI.2.2 _ z2 rfl
 refine awp_reg2_seq [] [0, 1, 2, 3, 4, 11, 19] (by decide) ?_
 intro K1 hK1
 refine ⟨trivial, ?_⟩
 show K1 [(0, .ptr ⟨r, 0, none⟩), (1, .int .i64 1), (2, .str token), (3, .str kind), (4, .int .i64 id), (11, .ptr ⟨b1, 0, none⟩), (19, .int .i64 0)] (AMem.wth m [(b1, vObj v), (r, .cells [.ptr ⟨e, 0, none⟩, .nils, .slice true ((toksR c.tokens).map dn3AV), .int .i64 c.next, .int .i64 c.quota, .int .i64 (c.calls + 1), .slice true (F.map intAV)]), (e, zR ((stepF s).1))])
 refine hK1 _ _ ?_; clear hK1 K1
 refine awp_block ?_
 refine awp_keep [0, 1, 2, 3, 4, 11, 19] (by decide) ?_
 refine awp_loop_st (σ := Int) (fun i2 => [(0, .ptr ⟨r, 0, none⟩), (1, .int .i64 1), (2, .str token), (3, .str kind), (4, .int .i64 id), (11, .ptr ⟨b1, 0, none⟩), (19, .int .i64 i2)]) (fun _ => (AMem.wth m [(b1, vObj v), (r, .cells [.ptr ⟨e, 0, none⟩, .nils, .slice true ((toksR c.tokens).map dn3AV), .int .i64 c.next, .int .i64 c.quota, .int .i64 (c.calls + 1), .slice true (F.map intAV)]), (e, zR ((stepF s).1))])) (fun i2 => 0 ≤ i2 ∧ i2 ≤ (toksR c.tokens).length ∧ mget c.tokens token = mget (c.tokens.drop i2.toNat) token) (fun i2 => (toksR c.tokens).length - i2.toNat) (0) rfl rfl ?_ ?_
 ·
  show 0 ≤ ((0 : Int)) ∧ ((0 : Int)) ≤ (toksR c.tokens).length ∧ mget c.tokens token = mget (c.tokens.drop ((0 : Int)).toNat) token
  exact ⟨by omega, by omega, rfl⟩
 rintro i2 hI2
 replace hI2 : 0 ≤ i2 ∧ i2 ≤ (toksR c.tokens).length ∧ mget c.tokens token = mget (c.tokens.drop i2.toNat) token := hI2
 show AWP _ _ _ _ [(0, .ptr ⟨r, 0, none⟩), (1, .int .i64 1), (2, .str token), (3, .str kind), (4, .int .i64 id), (11, .ptr ⟨b1, 0, none⟩), (19, .int .i64 i2)] (AMem.wth m [(b1, vObj v), (r, .cells [.ptr ⟨e, 0, none⟩, .nils, .slice true ((toksR c.tokens).map dn3AV), .int .i64 c.next, .int .i64 c.quota, .int .i64 (c.calls + 1), .slice true (F.map intAV)]), (e, zR ((stepF s).1))])
 refine awp_seq_k ?_; intro K9 hK9
 refine awp_reg2_seq [] [0, 1, 2, 3, 4, 11, 19, 79] (by decide) ?_
 intro K1 hK1
 refine ⟨trivial, trivial, trivial, ⟨rfl, by decide⟩, ?_⟩
 refine ar_loadp rfl (v := .slice false ((toksR c.tokens).map dn3AV)) rfl (wth_get 1 hNb1 rfl) rfl (apartOk_one rfl rfl (Nat.le_of_ble_eq_true rfl)) rfl ?_
 refine ar_len rfl dn3AV (toksR c.tokens) rfl rfl rfl ?_
 refine ⟨trivial, ?_⟩
 show K1 [(0, .ptr ⟨r, 0, none⟩), (1, .int .i64 1), (2, .str token), (3, .str kind), (4, .int .i64 id), (11, .ptr ⟨b1, 0, none⟩), (19, .int .i64 i2), (79, .bool (decide (i2 < ((toksR c.tokens).length : Int))))] _
 refine hK1 _ _ ?_; clear hK1 K1
 refine awp_cond rfl rfl (fun h6 => ?_) (fun h6 => ?_)
 ·
  replace h6 : i2 < ((toksR c.tokens).length : Int) := (of_decide_eq_true h6)
  refine awp_skip ?_
  refine hK9 _ _ ?_; clear hK9
  refine awp_seq_k ?_; intro K10 hK10
  refine awp_block ?_
  refine awp_seq_k ?_; intro K11 hK11
  refine awp_reg2_seq [] [0, 1, 2, 3, 4, 11, 19, 91] (by decide) ?_
  intro K1 hK1
  refine ⟨trivial, trivial, ⟨rfl, by decide⟩, ?_⟩
  refine ar_loadp rfl (v := .slice false ((toksR c.tokens).map dn3AV)) rfl (wth_get 1 hNb1 rfl) rfl (apartOk_one rfl rfl (Nat.le_of_ble_eq_true rfl)) rfl ?_
  refine ⟨trivial, ?_⟩
  refine ar_index rfl dn3AV (toksR c.tokens) i2 rfl rfl rfl rfl rfl (by decide) (fun _ => rfl) (by omega) (by omega) ?_
  refine ⟨⟨rfl, by decide, (Nat.le_of_ble_eq_true rfl)⟩, (apartOk_one rfl rfl (Nat.le_of_ble_eq_true rfl)), trivial, trivial, ?_⟩
  show K1 [(0, .ptr ⟨r, 0, none⟩), (1, .int .i64 1), (2, .str token), (3, .str kind), (4, .int .i64 id), (11, .ptr ⟨b1, 0, none⟩), (19, .int .i64 i2), (91, .bool (!(((gI (toksR c.tokens) i2).tok) == token)))] (AMem.wth m [(b1, vObj v), (r, .cells [.ptr ⟨e, 0, none⟩, .nils, .slice true ((toksR c.tokens).map dn3AV), .int .i64 c.next, .int .i64 c.quota, .int .i64 (c.calls + 1), .slice true (F.map intAV)]), (e, zR ((stepF s).1))])
  refine hK1 _ _ ?_; clear hK1 K1
  refine awp_cond rfl rfl (fun h7 => ?_) (fun h7 => ?_)
  ·
   replace h7 : (gI (toksR c.tokens) i2).tok ≠ token := (ne_of_beq_false (bnT h7))
   refine awp_exit ?_
   refine hK10 _ _ ?_; clear hK10
   refine awp_reg2 [] [0, 1, 2, 3, 4, 11, 19] (by decide) ?_
   intro K1 hK1
   refine ⟨trivial, ?_⟩
   refine ar_add rfl (a := i2) (b := 1) rfl rfl (by omega) (by omega) ?_
   refine ⟨trivial, ?_⟩
   show K1 [(0, .ptr ⟨r, 0, none⟩), (1, .int .i64 1), (2, .str token), (3, .str kind), (4, .int .i64 id), (11, .ptr ⟨b1, 0, none⟩), (19, .int .i64 (i2 + 1))] (AMem.wth m [(b1, vObj v), (r, .cells [.ptr ⟨e, 0, none⟩, .nils, .slice true ((toksR c.tokens).map dn3AV), .int .i64 c.next, .int .i64 c.quota, .int .i64 (c.calls + 1), .slice true (F.map intAV)]), (e, zR ((stepF s).1))])
   refine hK1 _ _ ?_; clear hK1 K1
   refine ⟨(i2 + 1), rfl, rfl, ?_, ?_⟩
   ·
    show 0 ≤ ((i2 + 1 : Int)) ∧ ((i2 + 1 : Int)) ≤ (toksR c.tokens).length ∧ mget c.tokens token = mget (c.tokens.drop ((i2 + 1 : Int)).toNat) token
    exact ⟨by omega, by omega, tok_miss hI2 (by assumption) (by assumption)⟩
   ·
    show (toksR c.tokens).length - ((i2 + 1 : Int)).toNat < (toksR c.tokens).length - i2.toNat
    omega
  replace h7 : (gI (toksR c.tokens) i2).tok = token := (eq_of_beq (bnF h7))
  refine awp_skip ?_
  refine hK11 _ _ ?_; clear hK11
  refine awp_seq_k ?_; intro K12 hK12
  refine awp_reg2_seq [] [0, 19, 101] (by decide) ?_
  intro K1 hK1
  refine ⟨trivial, trivial, ⟨rfl, by decide⟩, ?_⟩
  refine ar_loadp rfl (v := .slice false ((toksR c.tokens).map dn3AV)) rfl (wth_get 1 hNb1 rfl) rfl (apartOk_one rfl rfl (Nat.le_of_ble_eq_true rfl)) rfl ?_
  refine ⟨trivial, ?_⟩
  refine ar_index rfl dn3AV (toksR c.tokens) i2 rfl rfl rfl rfl rfl (by decide) (fun _ => rfl) (by omega) (by omega) ?_
  refine ⟨⟨rfl, by decide, (Nat.le_of_ble_eq_true rfl)⟩, (apartOk_one rfl rfl (Nat.le_of_ble_eq_true rfl)), trivial, trivial, ?_⟩
  show K1 [(0, .ptr ⟨r, 0, none⟩), (19, .int .i64 i2), (101, .bool (!(((gI (toksR c.tokens) i2).op) == 1)))] (AMem.wth m [(b1, vObj v), (r, .cells [.ptr ⟨e, 0, none⟩, .nils, .slice true ((toksR c.tokens).map dn3AV), .int .i64 c.next, .int .i64 c.quota, .int .i64 (c.calls + 1), .slice true (F.map intAV)]), (e, zR ((stepF s).1))])
  refine hK1 _ _ ?_; clear hK1 K1
  refine awp_cond rfl rfl (fun h8 => ?_) (fun h8 => ?_)
  ·
   replace h8 : (gI (toksR c.tokens) i2).op ≠ 1 := (ne_of_beq_false (bnT h8))
   refine awp_reg2_seq [] [12, 13] (by decide) ?_
   intro K1 hK1
   refine ⟨trivial, trivial, ?_⟩
   show K1 [(12, .int .i64 0), (13, .int .i64 15)] (AMem.wth m [(b1, vObj v), (r, .cells [.ptr ⟨e, 0, none⟩, .nils, .slice true ((toksR c.tokens).map dn3AV), .int .i64 c.next, .int .i64 c.quota, .int .i64 (c.calls + 1), .slice true (F.map intAV)]), (e, zR ((stepF s).1))])
   refine hK1 _ _ ?_; clear hK1 K1
   refine awp_ret ?_
   refine ⟨trivial, trivial, (AMem.wth m [(r, .cells [.ptr ⟨e, 0, none⟩, .nils, .slice true ((toksR c.tokens).map dn3AV), .int .i64 c.next, .int .i64 c.quota, .int .i64 (c.calls + 1), .slice true (F.map intAV)]), (e, zR ((stepF s).1))]), (wth_keep (m := m) (L := [(b1, vObj v), (r, .cells [.ptr ⟨e, 0, none⟩, .nils, .slice true ((toksR c.tokens).map dn3AV), .int .i64 c.next, .int .i64 c.quota, .int .i64 (c.calls + 1), .slice true (F.map intAV)]), (e, zR ((stepF s).1))]) (L1 := [(r, .cells [.ptr ⟨e, 0, none⟩, .nils, .slice true ((toksR c.tokens).map dn3AV), .int .i64 c.next, .int .i64 c.quota, .int .i64 (c.calls + 1), .slice true (F.map intAV)]), (e, zR ((stepF s).1))]) (L2 := [(b1, vObj v)]) hNb1 (pick_perm [1, 1] _) (by simp only [List.map_cons, List.map_nil, List.forall_mem_cons]; exact ⟨hFb1, fun _ h => by cases h⟩)), ?_⟩
   show K (.tuple [.int .i64 0, .int .i64 15]) (AMem.wth m [(r, .cells [.ptr ⟨e, 0, none⟩, .nils, .slice true ((toksR c.tokens).map dn3AV), .int .i64 c.next, .int .i64 c.quota, .int .i64 (c.calls + 1), .slice true (F.map intAV)]), (e, zR ((stepF s).1))])
  
   have hm := tok_hit hI2 (by assumption) (by assumption)
   have hg := gI_toks hI2.1 (l := c.tokens) (by assumption)
   have hop : (gI c.tokens i2).2.op ≠ 1 := (by (have z : (gI (toksR c.tokens) i2).op ≠ 1 := by assumption); rw [hg] at z; exact z)
   exact hK _ (createD_5 (by omega) (by assumption) hs0 hb0 hm hop) [] .nils (nil_vals hz)
  replace h8 : (gI (toksR c.tokens) i2).op = 1 := (eq_of_beq (bnF h8))
  refine awp_skip ?_
  refine hK12 _ _ ?_; clear hK12
  refine awp_reg2_seq [] [12, 13] (by decide) ?_
  intro K1 hK1
  refine ⟨trivial, trivial, ⟨rfl, by decide⟩, ?_⟩
  refine ar_loadp rfl (v := .slice false ((toksR c.tokens).map dn3AV)) rfl (wth_get 1 hNb1 rfl) rfl (apartOk_one rfl rfl (Nat.le_of_ble_eq_true rfl)) rfl ?_
  refine ⟨trivial, ?_⟩
  refine ar_index rfl dn3AV (toksR c.tokens) i2 rfl rfl rfl rfl rfl (by decide) (fun _ => rfl) (by omega) (by omega) ?_
  refine ⟨⟨rfl, by decide, (Nat.le_of_ble_eq_true rfl)⟩, (apartOk_one rfl rfl (Nat.le_of_ble_eq_true rfl)), trivial, trivial, ?_⟩
  show K1 [(12, .int .i64 ((gI (toksR c.tokens) i2).id)), (13, .int .i64 0)] (AMem.wth m [(b1, vObj v), (r, .cells [.ptr ⟨e, 0, none⟩, .nils, .slice true ((toksR c.tokens).map dn3AV), .int .i64 c.next, .int .i64 c.quota, .int .i64 (c.calls + 1), .slice true (F.map intAV)]), (e, zR ((stepF s).1))])
  refine hK1 _ _ ?_; clear hK1 K1
  refine awp_ret ?_
  refine ⟨trivial, trivial, (AMem.wth m [(r, .cells [.ptr ⟨e, 0, none⟩, .nils, .slice true ((toksR c.tokens).map dn3AV), .int .i64 c.next, .int .i64 c.quota, .int .i64 (c.calls + 1), .slice true (F.map intAV)]), (e, zR ((stepF s).1))]), (wth_keep (m := m) (L := [(b1, vObj v), (r, .cells [.ptr ⟨e, 0, none⟩, .nils, .slice true ((toksR c.tokens).map dn3AV), .int .i64 c.next, .int .i64 c.quota, .int .i64 (c.calls + 1), .slice true (F.map intAV)]), (e, zR ((stepF s).1))]) (L1 := [(r, .cells [.ptr ⟨e, 0, none⟩, .nils, .slice true ((toksR c.tokens).map dn3AV), .int .i64 c.next, .int .i64 c.quota, .int .i64 (c.calls + 1), .slice true (F.map intAV)]), (e, zR ((stepF s).1))]) (L2 := [(b1, vObj v)]) hNb1 (pick_perm [1, 1] _) (by simp only [List.map_cons, List.map_nil, List.forall_mem_cons]; exact ⟨hFb1, fun _ h => by cases h⟩)), ?_⟩
  show K (.tuple [.int .i64 ((gI (toksR c.tokens) i2).id), .int .i64 0]) (AMem.wth m [(r, .cells [.ptr ⟨e, 0, none⟩, .nils, .slice true ((toksR c.tokens).map dn3AV), .int .i64 c.next, .int .i64 c.quota, .int .i64 (c.calls + 1), .slice true (F.map intAV)]), (e, zR ((stepF s).1))])
 
  have hm := tok_hit hI2 (by assumption) (by assumption)
  have hg := gI_toks hI2.1 (l := c.tokens) (by assumption)
  have hop : (gI c.tokens i2).2.op = 1 := (by (have z : (gI (toksR c.tokens) i2).op = 1 := by assumption); rw [hg] at z; exact z)
  rw [hg]
  exact hK _ (createD_6 (by omega) (by assumption) hs0 hb0 hm hop) [] .nils (nil_vals hz)
 replace h6 : ((toksR c.tokens).length : Int) ≤ i2 := (Int.not_lt.1 (of_decide_eq_false h6))
 refine awp_exit ?_
 refine hK8 _ _ ?_; clear hK8
 have htk0 : mget c.tokens token = none := tok_end hI2 (by assumption)
 refine awp_reg2_seq [] [0, 1, 2, 3, 4, 11, 20] (by decide) ?_
 intro K1 hK1
 refine ⟨trivial, trivial, ?_⟩
 refine ar_mem (wth_split hNb1 (pick_perm [1] _)) ?_
 refine u_place_nil r e ({ c with calls := c.calls + 1 } : ClSt) F id _ _ ?_
 show aopsR _ _ _ _ _ _ (AMem.wth (AMem.wth m [(b1, vObj v), (e, zR ((stepF s).1))]) [(r, .cells [.ptr ⟨e, 0, none⟩, .nils, .slice true ((toksR c.tokens).map dn3AV), .int .i64 c.next, .int .i64 c.quota, .int .i64 (c.calls + 1), .slice true (F.map intAV)])])
 refine ar_mem (wth_split (m := m) (L := [(b1, vObj v), (r, .cells [.ptr ⟨e, 0, none⟩, .nils, .slice true ((toksR c.tokens).map dn3AV), .int .i64 c.next, .int .i64 c.quota, .int .i64 (c.calls + 1), .slice true (F.map intAV)]), (e, zR ((stepF s).1))]) hNb1 (pick_perm [1] _)).symm ?_
 refine ⟨trivial, ?_⟩
 show K1 [(0, .ptr ⟨r, 0, none⟩), (1, .int .i64 1), (2, .str token), (3, .str kind), (4, .int .i64 id), (11, .ptr ⟨b1, 0, none⟩), (20, .int .i64 (-1))] (AMem.wth m [(b1, vObj v), (r, .cells [.ptr ⟨e, 0, none⟩, .nils, .slice true ((toksR c.tokens).map dn3AV), .int .i64 c.next, .int .i64 c.quota, .int .i64 (c.calls + 1), .slice true (F.map intAV)]), (e, zR ((stepF s).1))])
 refine hK1 _ _ ?_; clear hK1 K1
 refine awp_seq_k ?_; intro K13 hK13
 refine awp_reg2_seq [] [0, 1, 2, 3, 4, 11, 20, 113] (by decide) ?_
 intro K1 hK1
 refine ⟨trivial, ?_⟩
 show K1 [(0, .ptr ⟨r, 0, none⟩), (1, .int .i64 1), (2, .str token), (3, .str kind), (4, .int .i64 id), (11, .ptr ⟨b1, 0, none⟩), (20, .int .i64 (-1)), (113, .int .i64 1)] _
 refine hK1 _ _ ?_; clear hK1 K1
 refine awp_block ?_
 refine awp_reg2_seq [] [0, 1, 2, 3, 4, 11, 20, 113, 114] (by decide) ?_
 intro K1 hK1
 refine ⟨trivial, trivial, ?_⟩
 show K1 [(0, .ptr ⟨r, 0, none⟩), (1, .int .i64 1), (2, .str token), (3, .str kind), (4, .int .i64 id), (11, .ptr ⟨b1, 0, none⟩), (20, .int .i64 (-1)), (113, .int .i64 1), (114, .bool true)] _
 refine hK1 _ _ ?_; clear hK1 K1
 refine awp_cond rfl rfl (fun hcz => ?_) (fun hcz => ?_)
 rotate_left; · cases hcz
 clear hcz
 refine awp_seq_k ?_; intro K14 hK14
 refine awp_draw_seq Try.mixed [] [0, 1, 2, 3, 11, 125] (by decide) (by decide) ?_
 intro K1 hK1
 refine ⟨trivial, trivial, ⟨rfl, by decide⟩, ?_⟩
 refine pq_loadp rfl (v := .nils) rfl (wth_get 1 hNb1 rfl) (apartOk_one rfl rfl (Nat.le_of_ble_eq_true rfl)) rfl ?_
 refine ⟨trivial, trivial, trivial, ⟨rfl, by decide⟩, ?_⟩
 refine pq_loadp rfl (v := .int .i64 c.quota) rfl (wth_get 1 hNb1 rfl) (apartOk_one rfl rfl (Nat.le_of_ble_eq_true rfl)) rfl ?_
 refine ⟨trivial, ?_⟩
 show K1 [(0, .ptr ⟨r, 0, none⟩), (1, .int .i64 1), (2, .str token), (3, .str kind), (11, .ptr ⟨b1, 0, none⟩), (125, .bool (decide (c.quota ≤ 0)))] _
 refine hK1 _ _ ?_; clear hK1 K1
 refine awp_cond rfl rfl (fun h9 => ?_) (fun h9 => ?_)
 ·
  replace h9 : c.quota ≤ 0 := (of_decide_eq_true h9)
  refine awp_reg2_seq [] [12, 13] (by decide) ?_
  intro K1 hK1
  refine ⟨trivial, trivial, ?_⟩
  show K1 [(12, .int .i64 0), (13, .int .i64 13)] (AMem.wth m [(b1, vObj v), (r, .cells [.ptr ⟨e, 0, none⟩, .nils, .slice true ((toksR c.tokens).map dn3AV), .int .i64 c.next, .int .i64 c.quota, .int .i64 (c.calls + 1), .slice true (F.map intAV)]), (e, zR ((stepF s).1))])
  refine hK1 _ _ ?_; clear hK1 K1
  refine awp_ret ?_
  refine ⟨trivial, trivial, (AMem.wth m [(r, .cells [.ptr ⟨e, 0, none⟩, .nils, .slice true ((toksR c.tokens).map dn3AV), .int .i64 c.next, .int .i64 c.quota, .int .i64 (c.calls + 1), .slice true (F.map intAV)]), (e, zR ((stepF s).1))]), (wth_keep (m := m) (L := [(b1, vObj v), (r, .cells [.ptr ⟨e, 0, none⟩, .nils, .slice true ((toksR c.tokens).map dn3AV), .int .i64 c.next, .int .i64 c.quota, .int .i64 (c.calls + 1), .slice true (F.map intAV)]), (e, zR ((stepF s).1))]) (L1 := [(r, .cells [.ptr ⟨e, 0, none⟩, .nils, .slice true ((toksR c.tokens).map dn3AV), .int .i64 c.next, .int .i64 c.quota, .int .i64 (c.calls + 1), .slice true (F.map intAV)]), (e, zR ((stepF s).1))]) (L2 := [(b1, vObj v)]) hNb1 (pick_perm [1, 1] _) (by simp only [List.map_cons, List.map_nil, List.forall_mem_cons]; exact ⟨hFb1, fun _ h => by cases h⟩)), ?_⟩
  show K (.tuple [.int .i64 0, .int .i64 13]) (AMem.wth m [(r, .cells [.ptr ⟨e, 0, none⟩, .nils, .slice true ((toksR c.tokens).map dn3AV), .int .i64 c.next, .int .i64 c.quota, .int .i64 (c.calls + 1), .slice true (F.map intAV)]), (e, zR ((stepF s).1))])
 
  exact hK _ (createD_7 (by omega) (by assumption) hs0 hb0 htk0 (by rw [hz]; simp; omega)) [] .nils (nil_vals hz)
 replace h9 : 0 < c.quota := (Int.not_le.1 (of_decide_eq_false h9))
 refine awp_skip ?_
 refine hK14 _ _ ?_; clear hK14
 refine awp_reg2_seq [] [0, 1, 2, 3, 4, 11] (by decide) ?_
 intro K1 hK1
 refine ⟨trivial, trivial, ⟨rfl, by decide⟩, ?_⟩
 refine ar_loadp rfl (v := .int .i64 c.next) rfl (wth_get 1 hNb1 rfl) rfl (apartOk_one rfl rfl (Nat.le_of_ble_eq_true rfl)) rfl ?_
 refine ⟨trivial, ?_⟩
 show K1 [(0, .ptr ⟨r, 0, none⟩), (1, .int .i64 1), (2, .str token), (3, .str kind), (4, .int .i64 c.next), (11, .ptr ⟨b1, 0, none⟩)] (AMem.wth m [(b1, vObj v), (r, .cells [.ptr ⟨e, 0, none⟩, .nils, .slice true ((toksR c.tokens).map dn3AV), .int .i64 c.next, .int .i64 c.quota, .int .i64 (c.calls + 1), .slice true (F.map intAV)]), (e, zR ((stepF s).1))])
 refine hK1 _ _ ?_; clear hK1 K1
 refine awp_reg2_seq [] [0, 1, 2, 3, 4, 11] (by decide) ?_
 intro K1 hK1
 refine ⟨trivial, trivial, ⟨rfl, by decide⟩, ?_⟩
 refine ar_loadp rfl (v := .int .i64 c.next) rfl (wth_get 1 hNb1 rfl) rfl (apartOk_one rfl rfl (Nat.le_of_ble_eq_true rfl)) rfl ?_
 refine ar_add rfl (a := c.next) (b := 1) rfl rfl (by omega) (by omega) ?_
 refine ⟨trivial, ⟨rfl, by decide⟩, ?_⟩
 refine ar_storep rfl 1 (v := .int .i64 (c.next + 1)) (l' := [.ptr ⟨e, 0, none⟩, .nils, .slice true ((toksR c.tokens).map dn3AV), .int .i64 (c.next + 1), .int .i64 c.quota, .int .i64 (c.calls + 1), .slice true (F.map intAV)]) rfl rfl hNb1 rfl rfl rfl rfl rfl (Nat.le_of_ble_eq_true rfl) rfl ?_
 show K1 [(0, .ptr ⟨r, 0, none⟩), (1, .int .i64 1), (2, .str token), (3, .str kind), (4, .int .i64 c.next), (11, .ptr ⟨b1, 0, none⟩)] (AMem.wth m [(b1, vObj v), (r, .cells [.ptr ⟨e, 0, none⟩, .nils, .slice true ((toksR c.tokens).map dn3AV), .int .i64 (c.next + 1), .int .i64 c.quota, .int .i64 (c.calls + 1), .slice true (F.map intAV)]), (e, zR ((stepF s).1))])
 refine hK1 _ _ ?_; clear hK1 K1
 obtain ⟨c2, hc2⟩ : ∃ c2 : ClSt, c2 = ({ c with calls := c.calls + 1, next := c.next + 1 } : ClSt) := ⟨_, rfl⟩
 have hob : .cells [.ptr ⟨e, 0, none⟩, .nils, .slice true ((toksR c.tokens).map dn3AV), .int .i64 (c.next + 1), .int .i64 c.quota, .int .i64 (c.calls + 1), .slice true (F.map intAV)] = rcObj e .nils c2 F := by rw [hc2]; rfl
 rw [hob]
 have htk2 : (toksR c2.tokens).length ≤ 1000000 := by rw [hc2]; exact htkl
 refine awp_anyA Try.mixed [0, 1, 2, 4] (by decide) ?_
 intro K1 hK1
 intro A hA
 suffices key : ∀ (b42 : Nat) (hFb42 : m b42 = none) (hNv1 : ([b42, b1, r, e] : List Nat).Nodup) (zs42 : List Thg) (htb42 : zs42.take (([(⟨c.next, kind, v⟩ : Thg)] : List Thg)).length = ([(⟨c.next, kind, v⟩ : Thg)] : List Thg)) (hlb42 : (([(⟨c.next, kind, v⟩ : Thg)] : List Thg)).length ≤ zs42.length), K1 [(0, .ptr ⟨r, 0, none⟩), (1, .int .i64 1), (2, .str token), (4, .int .i64 c.next)] (AMem.wth m [(b42, .cells (flatK thgAV zs42)), (b1, vObj v), (r, rcObj e (.ms ⟨b42, 0, none⟩ (([(⟨c.next, kind, v⟩ : Thg)] : List Thg).length) zs42.length) c2 F), (e, zR ((stepF s).1))]) by
  let KK1 : Fr → AMem → Prop := (fun fr m => K1 (fr.keep [0, 1, 2, 4]) m)
  let f1_0 : Nat × AV := (0, .ptr ⟨r, 0, none⟩)
  let f1_1 : Nat × AV := (1, .int .i64 1)
  let f1_2 : Nat × AV := (2, .str token)
  let f1_3 : Nat × AV := (4, .int .i64 c.next)
  let M1_4 : Nat → List Thg → AMem := fun b42 zs42 => (AMem.wth m [(b42, .cells (flatK thgAV zs42)), (b1, vObj v), (r, rcObj e (.ms ⟨b42, 0, none⟩ (([(⟨c.next, kind, v⟩ : Thg)] : List Thg).length) zs42.length) c2 F), (e, zR ((stepF s).1))])
  let f1_5 : Nat → List Thg → Nat × AV := fun b42 zs42 => (147, .ms ⟨b42, 0, none⟩ (([(⟨c.next, kind, v⟩ : Thg)] : List Thg).length) zs42.length)
  let f1_6 : Nat × AV := (149, .ptr ⟨r, 1, none⟩)
  let M1_7 : Nat → List Thg → AMem := fun b42 zs42 => (AMem.wth m [(b42, .cells (flatK thgAV zs42)), (b1, vObj v), (r, rcObj e .nils c2 F), (e, zR ((stepF s).1))])
  let f1_8 : Nat × AV := (137, .ptr ⟨r, 0, none⟩)
  let f1_9 : Nat × AV := (146, .slice true [.agg [.int .i64 c.next, .str kind, .int .i64 v.kind, .int .i64 v.n, .str v.s, .slice false (v.l.map valIn), .slice false (v.f.map fldIn)]])
  let M1_10 : AMem := (AMem.wth m [(b1, vObj v), (r, rcObj e .nils c2 F), (e, zR ((stepF s).1))])
  let f1_11 : Nat × AV := (145, .agg [.int .i64 c.next, .str kind, .int .i64 v.kind, .int .i64 v.n, .str v.s, .slice false (v.l.map valIn), .slice false (v.f.map fldIn)])
  let f1_12 : Nat × AV := (140, .ptr ⟨r, 1, none⟩)
  let f1_13 : Nat × AV := (142, .int .i64 c.next)
  let f1_14 : Nat × AV := (143, .str kind)
  let f1_15 : Nat × AV := (144, .agg [.int .i64 v.kind, .int .i64 v.n, .str v.s, .slice false (v.l.map valIn), .slice false (v.f.map fldIn)])
  let f1_16 : Nat × AV := (11, .ptr ⟨b1, 0, none⟩)
  have s0 : ∀ (b42 : Nat) (hFb42 : m b42 = none) (hNv1 : ([b42, b1, r, e] : List Nat).Nodup) (zs42 : List Thg) (htb42 : zs42.take (([(⟨c.next, kind, v⟩ : Thg)] : List Thg)).length = ([(⟨c.next, kind, v⟩ : Thg)] : List Thg)) (hlb42 : (([(⟨c.next, kind, v⟩ : Thg)] : List Thg)).length ≤ zs42.length), A 0 #[true, true, true, true, true, true, true, true, true, true, true, true, true, true] KK1 [f1_0, f1_1, f1_2, f1_3] (M1_4 b42 zs42) := by
   intro b42 hFb42 hNv1 zs42 htb42 hlb42
   subst hA
   exact AAny.done (by decide +kernel) (key b42 hFb42 hNv1 zs42 htb42 hlb42)
  have s1 : ∀ (b42 : Nat) (hFb42 : m b42 = none) (hNv1 : ([b42, b1, r, e] : List Nat).Nodup) (zs42 : List Thg) (htb42 : zs42.take (([(⟨c.next, kind, v⟩ : Thg)] : List Thg)).length = ([(⟨c.next, kind, v⟩ : Thg)] : List Thg)) (hlb42 : (([(⟨c.next, kind, v⟩ : Thg)] : List Thg)).length ≤ zs42.length), A 1 #[true, true, true, true, true, true, true, true, true, true, true, true, true, false] KK1 [f1_0, f1_1, f1_2, f1_3, (f1_5 b42 zs42), f1_6] (M1_7 b42 zs42) := by
   intro b42 hFb42 hNv1 zs42 htb42 hlb42
   subst hA
   refine AAny.step [141] [13] (by decide +kernel) (by simp) (by decide) ⟨?_, trivial⟩
   ·
    show aopsR _ _ _ [_] _ _ _
    refine ar_storep rfl 2 (v := .ms ⟨b42, 0, none⟩ (([(⟨c.next, kind, v⟩ : Thg)] : List Thg).length) zs42.length) (l' := [.ptr ⟨e, 0, none⟩, .ms ⟨b42, 0, none⟩ (([(⟨c.next, kind, v⟩ : Thg)] : List Thg).length) zs42.length, .slice true ((toksR c2.tokens).map dn3AV), .int .i64 c2.next, .int .i64 c2.quota, .int .i64 c2.calls, .slice true (F.map intAV)]) rfl rfl hNv1 rfl rfl rfl rfl rfl (Nat.le_of_ble_eq_true rfl) rfl ?_
    refine AAny.keep [0, 1, 2, 4] (by decide) ?_
    exact s0 b42 hFb42 hNv1 zs42 htb42 hlb42
  clear s0
  have s2 : ∀ (_ : True), A 4 #[true, true, true, true, true, true, true, true, true, true, false, false, false, false] KK1 [f1_0, f1_1, f1_2, f1_3, f1_8, (141, .nils), f1_9] M1_10 := by
   intro _
   subst hA
   refine AAny.step [141] [10] (by decide +kernel) (by simp) (by decide) ⟨?_, trivial⟩
   ·
    show aopsR _ _ _ [_] _ _ _
    refine ar_append0MsK rfl thgAV 7 ([(⟨c.next, kind, v⟩ : Thg)] : List Thg) zT rfl rfl rfl rfl rfl rfl rfl rfl (by decide) hNb1 (fun _ => rfl) (fun _ => rfl) (fun _ => rfl) rfl (by simp) (by (simp only [show Try.prog.bytesOf 80 = 104 from rfl, List.length_cons, List.length_nil]; omega)) (by simp) ?_
    intro b42 zs42 hFb42 hNb42 htb42 hlb42
    replace hNb42 : ([b42, b1, r, e] : List Nat).Nodup := hNb42
    refine AAny.fNil (i := 11) rfl rfl rfl (by decide) rfl (by decide +kernel) rfl ?_
    refine AAny.fField (i := 12) rfl rfl rfl (by decide) rfl (by decide +kernel) rfl rfl ⟨rfl, by decide⟩ ?_
    refine AAny.keep [0, 1, 2, 4, 147, 149] (by decide) ?_
    exact s1 b42 hFb42 hNb42 zs42 htb42 hlb42
  clear s1
  have s3 : ∀ (_ : True), A 5 #[true, true, true, true, true, true, true, true, true, false, false, false, false, false] KK1 [f1_0, f1_1, f1_2, f1_3, f1_8, (141, .nils), f1_11] M1_10 := by
   intro _
   subst hA
   refine AAny.step [141] [9] (by decide +kernel) (by simp) (by decide) ⟨?_, trivial⟩
   ·
    show aopsR _ _ _ [_] _ _ _
    refine ⟨⟨rfl, Nat.le_of_ble_eq_true rfl, rfl, Nat.le_of_ble_eq_true rfl, rfl, by simp only [List.forall_mem_cons]; exact ⟨⟨rfl, rfl⟩, fun _ h => by cases h⟩⟩, ?_⟩
    refine AAny.keep [0, 1, 2, 4, 137, 141, 146] (by decide) ?_
    exact s2 trivial
  have s4 : ∀ (_ : True), A 5 #[true, true, true, true, false, true, true, true, true, true, false, false, false, false] KK1 [f1_0, f1_1, f1_2, f1_3, f1_8, f1_12, f1_9] M1_10 := by
   intro _
   subst hA
   refine AAny.step [141] [4] (by decide +kernel) (by simp) (by decide) ⟨?_, trivial⟩
   ·
    show aopsR _ _ _ [_] _ _ _
    refine ar_loads rfl (i := 1) rfl hNb1 rfl rfl rfl rfl (Nat.le_of_ble_eq_true rfl) ?_
    refine AAny.keep [0, 1, 2, 4, 137, 141, 146] (by decide) ?_
    exact s2 trivial
  clear s2
  have s5 : ∀ (_ : True), A 6 #[true, true, true, true, true, true, true, true, false, false, false, false, false, false] KK1 [f1_0, f1_1, f1_2, f1_3, f1_8, (141, .nils), f1_13, f1_14, f1_15] M1_10 := by
   intro _
   subst hA
   refine AAny.step [141] [8] (by decide +kernel) (by simp) (by decide) ⟨?_, trivial⟩
   ·
    show aopsR _ _ _ [_] _ _ _
    refine ⟨⟨rfl, by simp only [List.forall_mem_cons]; exact ⟨rfl, rfl, rfl, fun _ h => by cases h⟩, by simp only [List.forall_mem_cons]; exact ⟨rfl, rfl, rfl, fun _ h => by cases h⟩⟩, ?_⟩
    refine AAny.keep [0, 1, 2, 4, 137, 141, 145] (by decide) ?_
    exact s3 trivial
  have s6 : ∀ (_ : True), A 6 #[true, true, true, true, false, true, true, true, true, false, false, false, false, false] KK1 [f1_0, f1_1, f1_2, f1_3, f1_8, f1_12, f1_11] M1_10 := by
   intro _
   subst hA
   refine AAny.step [141] [4, 9] (by decide +kernel) (by simp) (by decide) ⟨?_, ?_, trivial⟩
   ·
    show aopsR _ _ _ [_] _ _ _
    refine ar_loads rfl (i := 1) rfl hNb1 rfl rfl rfl rfl (Nat.le_of_ble_eq_true rfl) ?_
    refine AAny.keep [0, 1, 2, 4, 137, 141, 145] (by decide) ?_
    exact s3 trivial
   ·
    show aopsR _ _ _ [_] _ _ _
    refine ⟨⟨rfl, Nat.le_of_ble_eq_true rfl, rfl, Nat.le_of_ble_eq_true rfl, rfl, by simp only [List.forall_mem_cons]; exact ⟨⟨rfl, rfl⟩, fun _ h => by cases h⟩⟩, ?_⟩
    refine AAny.keep [0, 1, 2, 4, 137, 140, 146] (by decide) ?_
    exact s4 trivial
  clear s3 s4
  have s7 : ∀ (_ : True), A 7 #[true, true, true, true, true, true, true, false, false, false, false, false, false, false] KK1 [f1_0, f1_1, f1_2, f1_3, f1_16, f1_8, (141, .nils), f1_13, f1_14] M1_10 := by
   intro _
   subst hA
   refine AAny.step [141] [7] (by decide +kernel) (by simp) (by decide) ⟨?_, trivial⟩
   ·
    show aopsR _ _ _ [_] _ _ _
    refine ar_loadp rfl (v := .agg [.int .i64 v.kind, .int .i64 v.n, .str v.s, .slice false (v.l.map valIn), .slice false (v.f.map fldIn)]) rfl (wth_get 0 hNb1 rfl) rfl (apartOk_agg rfl rfl (Nat.le_of_ble_eq_true rfl)) rfl ?_
    refine AAny.keep [0, 1, 2, 4, 137, 141, 142, 143, 144] (by decide) ?_
    exact s5 trivial
  have s8 : ∀ (_ : True), A 7 #[true, true, true, true, false, true, true, true, false, false, false, false, false, false] KK1 [f1_0, f1_1, f1_2, f1_3, f1_8, f1_12, f1_13, f1_14, f1_15] M1_10 := by
   intro _
   subst hA
   refine AAny.step [141] [4, 8] (by decide +kernel) (by simp) (by decide) ⟨?_, ?_, trivial⟩
   ·
    show aopsR _ _ _ [_] _ _ _
    refine ar_loads rfl (i := 1) rfl hNb1 rfl rfl rfl rfl (Nat.le_of_ble_eq_true rfl) ?_
    refine AAny.keep [0, 1, 2, 4, 137, 141, 142, 143, 144] (by decide) ?_
    exact s5 trivial
   ·
    show aopsR _ _ _ [_] _ _ _
    refine ⟨⟨rfl, by simp only [List.forall_mem_cons]; exact ⟨rfl, rfl, rfl, fun _ h => by cases h⟩, by simp only [List.forall_mem_cons]; exact ⟨rfl, rfl, rfl, fun _ h => by cases h⟩⟩, ?_⟩
    refine AAny.keep [0, 1, 2, 4, 137, 140, 145] (by decide) ?_
    exact s6 trivial
  clear s5 s6
  have s9 : ∀ (_ : True), A 8 #[true, true, true, true, false, true, true, false, false, false, false, false, false, false] KK1 [f1_0, f1_1, f1_2, f1_3, f1_16, f1_8, f1_12, f1_13, f1_14] M1_10 := by
   intro _
   subst hA
   refine AAny.step [141] [4, 7] (by decide +kernel) (by simp) (by decide) ⟨?_, ?_, trivial⟩
   ·
    show aopsR _ _ _ [_] _ _ _
    refine ar_loads rfl (i := 1) rfl hNb1 rfl rfl rfl rfl (Nat.le_of_ble_eq_true rfl) ?_
    refine AAny.keep [0, 1, 2, 4, 11, 137, 141, 142, 143] (by decide) ?_
    exact s7 trivial
   ·
    show aopsR _ _ _ [_] _ _ _
    refine ar_loadp rfl (v := .agg [.int .i64 v.kind, .int .i64 v.n, .str v.s, .slice false (v.l.map valIn), .slice false (v.f.map fldIn)]) rfl (wth_get 0 hNb1 rfl) rfl (apartOk_agg rfl rfl (Nat.le_of_ble_eq_true rfl)) rfl ?_
    refine AAny.keep [0, 1, 2, 4, 137, 140, 142, 143, 144] (by decide) ?_
    exact s8 trivial
  clear s7 s8
  subst hA
  refine AAny.fMove (i := 0) rfl rfl rfl (by decide) rfl (by decide +kernel) rfl ?_
  refine AAny.fMove (i := 1) rfl rfl rfl (by decide) rfl (by decide +kernel) rfl ?_
  refine AAny.fNil (i := 2) rfl rfl rfl (by decide) rfl (by decide +kernel) rfl ?_
  refine AAny.fField (i := 3) rfl rfl rfl (by decide) rfl (by decide +kernel) rfl rfl ⟨rfl, by decide⟩ ?_
  refine AAny.fMove (i := 5) rfl rfl rfl (by decide) rfl (by decide +kernel) rfl ?_
  refine AAny.fMove (i := 6) rfl rfl rfl (by decide) rfl (by decide +kernel) rfl ?_
  refine AAny.keep [0, 1, 2, 4, 11, 137, 140, 142, 143] (by decide) ?_
  exact s9 trivial
 intro b42 hFb42 hNv1 zs42 htb42 hlb42
 refine hK1 _ _ ?_; clear hK1 K1
 refine hK13 _ _ ?_; clear hK13
 refine awp_reg2_seq [173] [4] (by decide) ?_
 intro K1 hK1
 refine ⟨trivial, trivial, trivial, ⟨rfl, by decide⟩, ?_⟩
 refine ar_loads rfl (i := 2) rfl hNv1 rfl rfl rfl rfl (Nat.le_of_ble_eq_true rfl) ?_
 refine ⟨trivial, trivial, trivial, ⟨rfl, by simp only [List.forall_mem_cons]; exact ⟨rfl, rfl, rfl, fun _ h => by cases h⟩, by simp only [List.forall_mem_cons]; exact ⟨rfl, rfl, rfl, fun _ h => by cases h⟩⟩, ⟨rfl, Nat.le_of_ble_eq_true rfl, rfl, Nat.le_of_ble_eq_true rfl, rfl, by simp only [List.forall_mem_cons]; exact ⟨⟨rfl, rfl⟩, fun _ h => by cases h⟩⟩, ?_⟩
 refine ar_append rfl dn3AV (toksR c2.tokens) ([(⟨token, 1, c.next⟩ : Dn3)] : List Dn3) rfl rfl rfl rfl rfl rfl (Nat.le_of_ble_eq_true rfl) rfl (by (simp only [show Try.prog.bytesOf 140 = 32 from rfl, List.length_append, List.length_cons, List.length_nil]; omega)) (by (first | omega | (simp only [List.length_append, List.length_cons, List.length_nil]; omega))) (fun _ => ⟨rfl, rfl⟩) ?_
 refine ⟨trivial, ⟨rfl, by decide⟩, ?_⟩
 refine ar_storep rfl 2 (v := .slice true (((toksR c2.tokens) ++ ([(⟨token, 1, c.next⟩ : Dn3)] : List Dn3)).map dn3AV)) (l' := [.ptr ⟨e, 0, none⟩, .ms ⟨b42, 0, none⟩ (([(⟨c.next, kind, v⟩ : Thg)] : List Thg).length) zs42.length, .slice true (((toksR c2.tokens) ++ ([(⟨token, 1, c.next⟩ : Dn3)] : List Dn3)).map dn3AV), .int .i64 c2.next, .int .i64 c2.quota, .int .i64 c2.calls, .slice true (F.map intAV)]) rfl rfl hNv1 rfl rfl rfl rfl rfl (Nat.le_of_ble_eq_true rfl) rfl ?_
 show K1 [(4, .int .i64 c.next)] (AMem.wth m [(b42, .cells (flatK thgAV zs42)), (b1, vObj v), (r, .cells [.ptr ⟨e, 0, none⟩, .ms ⟨b42, 0, none⟩ (([(⟨c.next, kind, v⟩ : Thg)] : List Thg).length) zs42.length, .slice true (((toksR c2.tokens) ++ ([(⟨token, 1, c.next⟩ : Dn3)] : List Dn3)).map dn3AV), .int .i64 c2.next, .int .i64 c2.quota, .int .i64 c2.calls, .slice true (F.map intAV)]), (e, zR ((stepF s).1))])
 refine hK1 _ _ ?_; clear hK1 K1
 refine awp_reg2_seq [] [12, 13] (by decide) ?_
 intro K1 hK1
 refine ⟨trivial, trivial, trivial, ?_⟩
 show K1 [(12, .int .i64 c.next), (13, .int .i64 0)] _
 refine hK1 _ _ ?_; clear hK1 K1
 refine awp_ret ?_
 refine ⟨trivial, trivial, (AMem.wth m [(b42, .cells (flatK thgAV zs42)), (r, .cells [.ptr ⟨e, 0, none⟩, .ms ⟨b42, 0, none⟩ (([(⟨c.next, kind, v⟩ : Thg)] : List Thg).length) zs42.length, .slice true (((toksR c2.tokens) ++ ([(⟨token, 1, c.next⟩ : Dn3)] : List Dn3)).map dn3AV), .int .i64 c2.next, .int .i64 c2.quota, .int .i64 c2.calls, .slice true (F.map intAV)]), (e, zR ((stepF s).1))]), (wth_keep (m := m) (L := [(b42, .cells (flatK thgAV zs42)), (b1, vObj v), (r, .cells [.ptr ⟨e, 0, none⟩, .ms ⟨b42, 0, none⟩ (([(⟨c.next, kind, v⟩ : Thg)] : List Thg).length) zs42.length, .slice true (((toksR c2.tokens) ++ ([(⟨token, 1, c.next⟩ : Dn3)] : List Dn3)).map dn3AV), .int .i64 c2.next, .int .i64 c2.quota, .int .i64 c2.calls, .slice true (F.map intAV)]), (e, zR ((stepF s).1))]) (L1 := [(b42, .cells (flatK thgAV zs42)), (r, .cells [.ptr ⟨e, 0, none⟩, .ms ⟨b42, 0, none⟩ (([(⟨c.next, kind, v⟩ : Thg)] : List Thg).length) zs42.length, .slice true (((toksR c2.tokens) ++ ([(⟨token, 1, c.next⟩ : Dn3)] : List Dn3)).map dn3AV), .int .i64 c2.next, .int .i64 c2.quota, .int .i64 c2.calls, .slice true (F.map intAV)]), (e, zR ((stepF s).1))]) (L2 := [(b1, vObj v)]) hNv1 (pick_perm [0, 1, 1] _) (by simp only [List.map_cons, List.map_nil, List.forall_mem_cons]; exact ⟨hFb1, fun _ h => by cases h⟩)), ?_⟩
 show K (.tuple [.int .i64 c.next, .int .i64 0]) (AMem.wth m [(b42, .cells (flatK thgAV zs42)), (r, .cells [.ptr ⟨e, 0, none⟩, .ms ⟨b42, 0, none⟩ (([(⟨c.next, kind, v⟩ : Thg)] : List Thg).length) zs42.length, .slice true (((toksR c2.tokens) ++ ([(⟨token, 1, c.next⟩ : Dn3)] : List Dn3)).map dn3AV), .int .i64 c2.next, .int .i64 c2.quota, .int .i64 c2.calls, .slice true (F.map intAV)]), (e, zR ((stepF s).1))])

 have hnd : ([b42, r, e] : List Nat).Nodup := by simp at hNv1 ⊢; omega
 have hT8 : HidR thgAV m [r, e] [(b42, .cells (flatK thgAV zs42))] (.ms ⟨b42, 0, none⟩ 1 zs42.length) (vals c ++ [(⟨c.next, kind, v⟩ : Thg)]) := HidR.row hFb42 (by simp at hnd ⊢; omega) hlb42 (by rw [show vals c = [] from by unfold vals; rw [hz]; rfl]; exact htb42)
 rw [← vals_put hcl] at hT8
 subst hc2
 have h8 := hK _ (createD_8 (by omega) (by assumption) hs0 hb0 htk0 (by omega)) _ _ hT8
 rw [hid_front (m := m) (b := b42) (by simpa using hnd)]
 exact Eq.mp (congrArg (fun o => K (.tuple [.int .i64 c.next, .int .i64 0]) ((m.wth [(b42, .cells (flatK thgAV zs42))]).wth [(r, o), (e, rObj (rT q (stepF s).1))])) (rcObj_put htk0 _ _ _)) h8

end Go.Proofs
end
section
namespace Go.Proofs
open Go Go.Aw
set_option maxRecDepth 100000

set_option maxHeartbeats 8000000 in
theorem u_Do1_ms (r e b k : Nat) (zs : List Thg) (q : RSt) (s : DSt) (c : ClSt) (F : List Int) (token kind : Str) (id : Int) (v : Val) (N : Nat) (hN : [r, e, b].Nodup) (hk : k ≤ zs.length) (hkb : k ≤ 1000000) (hv : zs.take k = vals c) (hids : ∀ p ∈ c.things, p.2.id = p.1) (hcl : ∀ p ∈ c.things, p.1 < c.next) (hT : Two s q N) (hNN : N ≤ 200) (hB : depV v ≤ 1000000000000) (hfr : (mget c.fails c.calls).getD false = true ↔ c.calls ∈ F) (hca : 0 ≤ c.calls) (hca2 : c.calls ≤ 1000000) (hnx : 0 ≤ c.next) (hnx2 : c.next ≤ 1000000) (htl : c.things.length ≤ 1000000) (hol : c.tokens.length ≤ 1000000) (hFl : F.length ≤ 1000000) (m : AMem) (hb : m b = none) (K : AV → AMem → Prop) (hK : ∀ r0, createR c s token kind v = r0 → ∀ H' av', HidR thgAV m [r, e] H' av' (vals r0.1.1) → K (.tuple [.int .i64 r0.2.1, .int .i64 r0.2.2]) ((m.wth H').wth [(r, rcObj e av' r0.1.1 F), (e, rObj (rT q r0.1.2))])) : ACalls Try.prog 49 [.ptr ⟨r, 0, none⟩, .int .i64 1, .str token, .str kind, .int .i64 id, valTop v] (AMem.wth m [(r, rcObj e (.ms ⟨b, 0, none⟩ k zs.length) c F), (e, zR s), (b, .cells (flatK thgAV zs))]) K := by
 have hae := attrE_nn v
 have htkl : (toksR c.tokens).length ≤ 1000000 := by rw [toksR_len]; exact hol
 have hlk : c.things.length = k := by rw [← vals_len, ← hv, List.length_take, Nat.min_eq_left hk]
 refine acalls_enter Try.func49 rfl (by decide) (Nat.le_of_ble_eq_true rfl) ?_
 show AWP _ _ _ _ [(0, .ptr ⟨r, 0, none⟩), (1, .int .i64 1), (2, .str token), (3, .str kind), (4, .int .i64 id), (5, valTop v)] (AMem.wth m [(r, rcObj e (.ms ⟨b, 0, none⟩ k zs.length) c F), (e, zR s), (b, .cells (flatK thgAV zs))])
 refine awp_reg2_seq [] [0, 1, 2, 3, 4, 11] (by decide) ?_
 intro K1 hK1
 refine ar_box rfl (m := m) (L := [(r, rcObj e (.ms ⟨b, 0, none⟩ k zs.length) c F), (e, zR s), (b, .cells (flatK thgAV zs))]) (v := valTop v) (by rfl) rfl ?_
 intro b1 hb1
 have hFb1 : m b1 = none := wth_none hb1
 have hNb1 : ([b1, r, e, b] : List Nat).Nodup := wth_nodup hb1 hN
 refine ⟨trivial, trivial, ?_⟩
 show K1 [(0, .ptr ⟨r, 0, none⟩), (1, .int .i64 1), (2, .str token), (3, .str kind), (4, .int .i64 id), (11, .ptr ⟨b1, 0, none⟩)] (AMem.wth m [(b1, vObj v), (r, rcObj e (.ms ⟨b, 0, none⟩ k zs.length) c F), (e, zR s), (b, .cells (flatK thgAV zs))])
 refine hK1 _ _ ?_; clear hK1 K1
 refine awp_seq_k ?_; intro K2 hK2
 refine awp_reg2_seq [] [0, 1, 2, 3, 4, 11, 22] (by decide) ?_
 intro K1 hK1
 refine ⟨trivial, trivial, ?_⟩
 show K1 [(0, .ptr ⟨r, 0, none⟩), (1, .int .i64 1), (2, .str token), (3, .str kind), (4, .int .i64 id), (11, .ptr ⟨b1, 0, none⟩), (22, .bool true)] _
 refine hK1 _ _ ?_; clear hK1 K1
 refine awp_cond rfl rfl (fun hcz => ?_) (fun hcz => ?_)
 rotate_left; · cases hcz
 clear hcz
 refine awp_reg2_seq [] [0, 1, 2, 3, 4, 11, 14] (by decide) ?_
 intro K1 hK1
 refine ar_loadp rfl (v := .agg [.int .i64 v.kind, .int .i64 v.n, .str v.s, .slice false (v.l.map valIn), .slice false (v.f.map fldIn)]) rfl (wth_get 0 hNb1 rfl) rfl (apartOk_agg rfl rfl (Nat.le_of_ble_eq_true rfl)) rfl ?_
 refine u_attrsFault v hB _ _ ?_
 refine ⟨trivial, ?_⟩
 show K1 [(0, .ptr ⟨r, 0, none⟩), (1, .int .i64 1), (2, .str token), (3, .str kind), (4, .int .i64 id), (11, .ptr ⟨b1, 0, none⟩), (14, .int .i64 (attrE v))] _
 refine hK1 _ _ ?_; clear hK1 K1
 refine awp_reg2_seq [] [0, 1, 2, 3, 4, 11, 14, 26] (by decide) ?_
 intro K1 hK1
 refine ⟨trivial, trivial, ?_⟩
 show K1 [(0, .ptr ⟨r, 0, none⟩), (1, .int .i64 1), (2, .str token), (3, .str kind), (4, .int .i64 id), (11, .ptr ⟨b1, 0, none⟩), (14, .int .i64 (attrE v)), (26, .bool (decide (0 < attrE v)))] _
 refine hK1 _ _ ?_; clear hK1 K1
 refine awp_cond rfl rfl (fun h1 => ?_) (fun h1 => ?_)
 ·
  replace h1 : 0 < attrE v := (of_decide_eq_true h1)
  refine awp_reg2_seq [] [12, 13] (by decide) ?_
  intro K1 hK1
  refine ⟨trivial, trivial, trivial, ?_⟩
  show K1 [(12, .int .i64 0), (13, .int .i64 (attrE v))] (AMem.wth m [(b1, vObj v), (r, rcObj e (.ms ⟨b, 0, none⟩ k zs.length) c F), (e, zR s), (b, .cells (flatK thgAV zs))])
  refine hK1 _ _ ?_; clear hK1 K1
  refine awp_ret ?_
  refine ⟨trivial, trivial, (AMem.wth m [(r, rcObj e (.ms ⟨b, 0, none⟩ k zs.length) c F), (e, zR s), (b, .cells (flatK thgAV zs))]), (wth_keep (m := m) (L := [(b1, vObj v), (r, rcObj e (.ms ⟨b, 0, none⟩ k zs.length) c F), (e, zR s), (b, .cells (flatK thgAV zs))]) (L1 := [(r, rcObj e (.ms ⟨b, 0, none⟩ k zs.length) c F), (e, zR s), (b, .cells (flatK thgAV zs))]) (L2 := [(b1, vObj v)]) hNb1 (pick_perm [1, 1, 1] _) (by simp only [List.map_cons, List.map_nil, List.forall_mem_cons]; exact ⟨hFb1, fun _ h => by cases h⟩)), ?_⟩
  show K (.tuple [.int .i64 0, .int .i64 (attrE v)]) (AMem.wth m [(r, rcObj e (.ms ⟨b, 0, none⟩ k zs.length) c F), (e, zR s), (b, .cells (flatK thgAV zs))])
 
  exact hK _ (createR_1 (by omega)) [(b, .cells (flatK thgAV zs))] _ (HidR.row hb (by simp at hN ⊢; omega) hk hv)
 replace h1 : attrE v ≤ 0 := (Int.not_lt.1 (of_decide_eq_false h1))
 refine awp_skip ?_
 refine hK2 _ _ ?_; clear hK2
 refine awp_reg2_seq [] [0, 1, 2, 3, 4, 11, 15] (by decide) ?_
 intro K1 hK1
 refine ⟨trivial, ?_⟩
 refine u_NameMay kind _ _ ?_
 refine ⟨trivial, ?_⟩
 show K1 [(0, .ptr ⟨r, 0, none⟩), (1, .int .i64 1), (2, .str token), (3, .str kind), (4, .int .i64 id), (11, .ptr ⟨b1, 0, none⟩), (15, .bool (nameV kind))] (AMem.wth m [(b1, vObj v), (r, rcObj e (.ms ⟨b, 0, none⟩ k zs.length) c F), (e, zR s), (b, .cells (flatK thgAV zs))])
 refine hK1 _ _ ?_; clear hK1 K1
 refine awp_seq_k ?_; intro K3 hK3
 refine awp_reg2_seq [] [0, 1, 2, 3, 4, 11, 35] (by decide) ?_
 intro K1 hK1
 suffices key : K1 [(0, .ptr ⟨r, 0, none⟩), (1, .int .i64 1), (2, .str token), (3, .str kind), (4, .int .i64 id), (11, .ptr ⟨b1, 0, none⟩), (35, .bool (!(nameV kind)))] (AMem.wth m [(b1, vObj v), (r, rcObj e (.ms ⟨b, 0, none⟩ k zs.length) c F), (e, zR s), (b, .cells (flatK thgAV zs))]) by
  refine ⟨trivial, trivial, trivial, trivial, trivial, ?_⟩
  exact key
 refine hK1 _ _ ?_; clear hK1 K1
 refine awp_cond rfl rfl (fun h2 => ?_) (fun h2 => ?_)
 ·
  replace h2 : nameV kind = false := (bnT h2)
  refine awp_reg2_seq [] [12, 13] (by decide) ?_
  intro K1 hK1
  refine ⟨trivial, trivial, ?_⟩
  show K1 [(12, .int .i64 0), (13, .int .i64 3)] (AMem.wth m [(b1, vObj v), (r, rcObj e (.ms ⟨b, 0, none⟩ k zs.length) c F), (e, zR s), (b, .cells (flatK thgAV zs))])
  refine hK1 _ _ ?_; clear hK1 K1
  refine awp_ret ?_
  refine ⟨trivial, trivial, (AMem.wth m [(r, rcObj e (.ms ⟨b, 0, none⟩ k zs.length) c F), (e, zR s), (b, .cells (flatK thgAV zs))]), (wth_keep (m := m) (L := [(b1, vObj v), (r, rcObj e (.ms ⟨b, 0, none⟩ k zs.length) c F), (e, zR s), (b, .cells (flatK thgAV zs))]) (L1 := [(r, rcObj e (.ms ⟨b, 0, none⟩ k zs.length) c F), (e, zR s), (b, .cells (flatK thgAV zs))]) (L2 := [(b1, vObj v)]) hNb1 (pick_perm [1, 1, 1] _) (by simp only [List.map_cons, List.map_nil, List.forall_mem_cons]; exact ⟨hFb1, fun _ h => by cases h⟩)), ?_⟩
  show K (.tuple [.int .i64 0, .int .i64 3]) (AMem.wth m [(r, rcObj e (.ms ⟨b, 0, none⟩ k zs.length) c F), (e, zR s), (b, .cells (flatK thgAV zs))])
 
  exact hK _ (createR_2 (by omega) (by assumption)) [(b, .cells (flatK thgAV zs))] _ (HidR.row hb (by simp at hN ⊢; omega) hk hv)
 replace h2 : nameV kind = true := (bnF h2)
 refine awp_skip ?_
 refine hK3 _ _ ?_; clear hK3
 refine awp_seq_k ?_; intro K4 hK4
 refine awp_reg2_seq [] [0, 1, 2, 3, 4, 11, 16] (by decide) ?_
 intro K1 hK1
 refine ⟨trivial, trivial, ⟨rfl, by decide⟩, ?_⟩
 refine ar_loadp rfl (v := .ptr ⟨e, 0, none⟩) rfl (wth_get 1 hNb1 rfl) rfl (apartOk_one rfl rfl (Nat.le_of_ble_eq_true rfl)) rfl ?_
 refine ar_mem (wth_split hNb1 (pick_perm [2] _)) ?_
 refine u_QStepC e hT hNN _ _ ?_
 show aopsR _ _ _ _ _ _ (AMem.wth (AMem.wth m [(b1, vObj v), (r, rcObj e (.ms ⟨b, 0, none⟩ k zs.length) c F), (b, .cells (flatK thgAV zs))]) [(e, zR ((stepF s).1))])
 refine ar_mem (wth_split (m := m) (L := [(b1, vObj v), (r, rcObj e (.ms ⟨b, 0, none⟩ k zs.length) c F), (e, zR ((stepF s).1)), (b, .cells (flatK thgAV zs))]) hNb1 (pick_perm [2] _)).symm ?_
 refine ⟨trivial, ?_⟩
 show K1 [(0, .ptr ⟨r, 0, none⟩), (1, .int .i64 1), (2, .str token), (3, .str kind), (4, .int .i64 id), (11, .ptr ⟨b1, 0, none⟩), (16, .int .i64 ((stepF s).2))] (AMem.wth m [(b1, vObj v), (r, rcObj e (.ms ⟨b, 0, none⟩ k zs.length) c F), (e, zR ((stepF s).1)), (b, .cells (flatK thgAV zs))])
 refine hK1 _ _ ?_; clear hK1 K1
 refine awp_reg2_seq [] [0, 1, 2, 3, 4, 11, 16, 42] (by decide) ?_
 intro K1 hK1
 refine ⟨trivial, trivial, ?_⟩
 show K1 [(0, .ptr ⟨r, 0, none⟩), (1, .int .i64 1), (2, .str token), (3, .str kind), (4, .int .i64 id), (11, .ptr ⟨b1, 0, none⟩), (16, .int .i64 ((stepF s).2)), (42, .bool (decide (0 < (stepF s).2)))] _
 refine hK1 _ _ ?_; clear hK1 K1
 refine awp_cond rfl rfl (fun h3 => ?_) (fun h3 => ?_)
 ·
  replace h3 : 0 < (stepF s).2 := (of_decide_eq_true h3)
  refine awp_reg2_seq [] [12, 13] (by decide) ?_
  intro K1 hK1
  refine ⟨trivial, trivial, trivial, ?_⟩
  show K1 [(12, .int .i64 0), (13, .int .i64 ((stepF s).2))] (AMem.wth m [(b1, vObj v), (r, rcObj e (.ms ⟨b, 0, none⟩ k zs.length) c F), (e, zR ((stepF s).1)), (b, .cells (flatK thgAV zs))])
  refine hK1 _ _ ?_; clear hK1 K1
  refine awp_ret ?_
  refine ⟨trivial, trivial, (AMem.wth m [(r, rcObj e (.ms ⟨b, 0, none⟩ k zs.length) c F), (e, zR ((stepF s).1)), (b, .cells (flatK thgAV zs))]), (wth_keep (m := m) (L := [(b1, vObj v), (r, rcObj e (.ms ⟨b, 0, none⟩ k zs.length) c F), (e, zR ((stepF s).1)), (b, .cells (flatK thgAV zs))]) (L1 := [(r, rcObj e (.ms ⟨b, 0, none⟩ k zs.length) c F), (e, zR ((stepF s).1)), (b, .cells (flatK thgAV zs))]) (L2 := [(b1, vObj v)]) hNb1 (pick_perm [1, 1, 1] _) (by simp only [List.map_cons, List.map_nil, List.forall_mem_cons]; exact ⟨hFb1, fun _ h => by cases h⟩)), ?_⟩
  show K (.tuple [.int .i64 0, .int .i64 ((stepF s).2)]) (AMem.wth m [(r, rcObj e (.ms ⟨b, 0, none⟩ k zs.length) c F), (e, zR ((stepF s).1)), (b, .cells (flatK thgAV zs))])
 
  exact hK _ (createD_3 (by omega) (by assumption) (by omega)) [(b, .cells (flatK thgAV zs))] _ (HidR.row hb (by simp at hN ⊢; omega) hk hv)
 replace h3 : (stepF s).2 ≤ 0 := (Int.not_lt.1 (of_decide_eq_false h3))
 refine awp_skip ?_
 refine hK4 _ _ ?_; clear hK4
 have hs0 : (stepF s).2 = 0 := by have := (stepF_keep s).2.2.2; omega
 refine awp_reg2_seq [] [0, 1, 2, 3, 4, 11, 17] (by decide) ?_
 intro K1 hK1
 refine ⟨trivial, trivial, ⟨rfl, by decide⟩, ?_⟩
 refine ar_loadp rfl (v := .int .i64 c.calls) rfl (wth_get 1 hNb1 rfl) rfl (apartOk_one rfl rfl (Nat.le_of_ble_eq_true rfl)) rfl ?_
 refine ⟨trivial, ?_⟩
 show K1 [(0, .ptr ⟨r, 0, none⟩), (1, .int .i64 1), (2, .str token), (3, .str kind), (4, .int .i64 id), (11, .ptr ⟨b1, 0, none⟩), (17, .int .i64 c.calls)] (AMem.wth m [(b1, vObj v), (r, rcObj e (.ms ⟨b, 0, none⟩ k zs.length) c F), (e, zR ((stepF s).1)), (b, .cells (flatK thgAV zs))])
 refine hK1 _ _ ?_; clear hK1 K1
 refine awp_reg2_seq [] [0, 1, 2, 3, 4, 11, 17] (by decide) ?_
 intro K1 hK1
 refine ⟨trivial, trivial, ⟨rfl, by decide⟩, ?_⟩
 refine ar_loadp rfl (v := .int .i64 c.calls) rfl (wth_get 1 hNb1 rfl) rfl (apartOk_one rfl rfl (Nat.le_of_ble_eq_true rfl)) rfl ?_
 refine ar_add rfl (a := c.calls) (b := 1) rfl rfl (by omega) (by omega) ?_
 refine ⟨trivial, ⟨rfl, by decide⟩, ?_⟩
 refine ar_storep rfl 1 (v := .int .i64 (c.calls + 1)) (l' := [.ptr ⟨e, 0, none⟩, .ms ⟨b, 0, none⟩ k zs.length, .slice true ((toksR c.tokens).map dn3AV), .int .i64 c.next, .int .i64 c.quota, .int .i64 (c.calls + 1), .slice true (F.map intAV)]) rfl rfl hNb1 rfl rfl rfl rfl rfl (Nat.le_of_ble_eq_true rfl) rfl ?_
 show K1 [(0, .ptr ⟨r, 0, none⟩), (1, .int .i64 1), (2, .str token), (3, .str kind), (4, .int .i64 id), (11, .ptr ⟨b1, 0, none⟩), (17, .int .i64 c.calls)] (AMem.wth m [(b1, vObj v), (r, .cells [.ptr ⟨e, 0, none⟩, .ms ⟨b, 0, none⟩ k zs.length, .slice true ((toksR c.tokens).map dn3AV), .int .i64 c.next, .int .i64 c.quota, .int .i64 (c.calls + 1), .slice true (F.map intAV)]), (e, zR ((stepF s).1)), (b, .cells (flatK thgAV zs))])
 refine hK1 _ _ ?_; clear hK1 K1
 refine awp_seq_k ?_; intro K5 hK5
 refine awp_reg2_seq [] [0, 1, 2, 3, 4, 11, 17, 18] (by decide) ?_
 intro K1 hK1
 refine ⟨trivial, ?_⟩
 show K1 [(0, .ptr ⟨r, 0, none⟩), (1, .int .i64 1), (2, .str token), (3, .str kind), (4, .int .i64 id), (11, .ptr ⟨b1, 0, none⟩), (17, .int .i64 c.calls), (18, .int .i64 0)] _
 refine hK1 _ _ ?_; clear hK1 K1
 refine awp_block ?_
 refine awp_keep [0, 1, 2, 3, 4, 11, 17, 18] (by decide) ?_
 refine awp_loop_st (σ := Int) (fun i => [(0, .ptr ⟨r, 0, none⟩), (1, .int .i64 1), (2, .str token), (3, .str kind), (4, .int .i64 id), (11, .ptr ⟨b1, 0, none⟩), (17, .int .i64 c.calls), (18, .int .i64 i)]) (fun _ => (AMem.wth m [(b1, vObj v), (r, .cells [.ptr ⟨e, 0, none⟩, .ms ⟨b, 0, none⟩ k zs.length, .slice true ((toksR c.tokens).map dn3AV), .int .i64 c.next, .int .i64 c.quota, .int .i64 (c.calls + 1), .slice true (F.map intAV)]), (e, zR ((stepF s).1)), (b, .cells (flatK thgAV zs))])) (fun i => 0 ≤ i ∧ i ≤ F.length ∧ ∀ x ∈ F.take i.toNat, x ≠ c.calls) (fun i => F.length - i.toNat) (0) rfl rfl ?_ ?_
 ·
  show 0 ≤ ((0 : Int)) ∧ ((0 : Int)) ≤ F.length ∧ ∀ x ∈ F.take ((0 : Int)).toNat, x ≠ c.calls
  exact ⟨by omega, by omega, fun x hx => by simp at hx⟩
 rintro i hI
 replace hI : 0 ≤ i ∧ i ≤ F.length ∧ ∀ x ∈ F.take i.toNat, x ≠ c.calls := hI
 show AWP _ _ _ _ [(0, .ptr ⟨r, 0, none⟩), (1, .int .i64 1), (2, .str token), (3, .str kind), (4, .int .i64 id), (11, .ptr ⟨b1, 0, none⟩), (17, .int .i64 c.calls), (18, .int .i64 i)] (AMem.wth m [(b1, vObj v), (r, .cells [.ptr ⟨e, 0, none⟩, .ms ⟨b, 0, none⟩ k zs.length, .slice true ((toksR c.tokens).map dn3AV), .int .i64 c.next, .int .i64 c.quota, .int .i64 (c.calls + 1), .slice true (F.map intAV)]), (e, zR ((stepF s).1)), (b, .cells (flatK thgAV zs))])
 refine awp_seq_k ?_; intro K6 hK6
 refine awp_reg2_seq [] [0, 1, 2, 3, 4, 11, 17, 18, 61] (by decide) ?_
 intro K1 hK1
 refine ⟨trivial, trivial, trivial, ⟨rfl, by decide⟩, ?_⟩
 refine ar_loadp rfl (v := .slice false (F.map intAV)) rfl (wth_get 1 hNb1 rfl) rfl (apartOk_one rfl rfl (Nat.le_of_ble_eq_true rfl)) rfl ?_
 refine ar_len rfl intAV F rfl rfl rfl ?_
 refine ⟨trivial, ?_⟩
 show K1 [(0, .ptr ⟨r, 0, none⟩), (1, .int .i64 1), (2, .str token), (3, .str kind), (4, .int .i64 id), (11, .ptr ⟨b1, 0, none⟩), (17, .int .i64 c.calls), (18, .int .i64 i), (61, .bool (decide (i < (F.length : Int))))] _
 refine hK1 _ _ ?_; clear hK1 K1
 refine awp_cond rfl rfl (fun h4 => ?_) (fun h4 => ?_)
 ·
  replace h4 : i < (F.length : Int) := (of_decide_eq_true h4)
  refine awp_skip ?_
  refine hK6 _ _ ?_; clear hK6
  refine awp_seq_k ?_; intro K7 hK7
  refine awp_block ?_
  refine awp_reg2_seq [] [0, 1, 2, 3, 4, 11, 17, 18, 72] (by decide) ?_
  intro K1 hK1
  refine ⟨trivial, trivial, ⟨rfl, by decide⟩, ?_⟩
  refine ar_loadp rfl (v := .slice false (F.map intAV)) rfl (wth_get 1 hNb1 rfl) rfl (apartOk_one rfl rfl (Nat.le_of_ble_eq_true rfl)) rfl ?_
  refine ⟨trivial, ?_⟩
  refine ar_index rfl intAV F i rfl rfl rfl rfl rfl (by decide) (fun _ => rfl) (by omega) (by omega) ?_
  refine ⟨(apartOk_one rfl rfl (Nat.le_of_ble_eq_true rfl)), trivial, trivial, ?_⟩
  show K1 [(0, .ptr ⟨r, 0, none⟩), (1, .int .i64 1), (2, .str token), (3, .str kind), (4, .int .i64 id), (11, .ptr ⟨b1, 0, none⟩), (17, .int .i64 c.calls), (18, .int .i64 i), (72, .bool ((gI F i) == c.calls))] (AMem.wth m [(b1, vObj v), (r, .cells [.ptr ⟨e, 0, none⟩, .ms ⟨b, 0, none⟩ k zs.length, .slice true ((toksR c.tokens).map dn3AV), .int .i64 c.next, .int .i64 c.quota, .int .i64 (c.calls + 1), .slice true (F.map intAV)]), (e, zR ((stepF s).1)), (b, .cells (flatK thgAV zs))])
  refine hK1 _ _ ?_; clear hK1 K1
  refine awp_cond rfl rfl (fun h5 => ?_) (fun h5 => ?_)
  ·
   replace h5 : gI F i = c.calls := (eq_of_beq h5)
   refine awp_reg2_seq [] [12, 13] (by decide) ?_
   intro K1 hK1
   refine ⟨trivial, trivial, ?_⟩
   show K1 [(12, .int .i64 0), (13, .int .i64 12)] (AMem.wth m [(b1, vObj v), (r, .cells [.ptr ⟨e, 0, none⟩, .ms ⟨b, 0, none⟩ k zs.length, .slice true ((toksR c.tokens).map dn3AV), .int .i64 c.next, .int .i64 c.quota, .int .i64 (c.calls + 1), .slice true (F.map intAV)]), (e, zR ((stepF s).1)), (b, .cells (flatK thgAV zs))])
   refine hK1 _ _ ?_; clear hK1 K1
   refine awp_ret ?_
   refine ⟨trivial, trivial, (AMem.wth m [(r, .cells [.ptr ⟨e, 0, none⟩, .ms ⟨b, 0, none⟩ k zs.length, .slice true ((toksR c.tokens).map dn3AV), .int .i64 c.next, .int .i64 c.quota, .int .i64 (c.calls + 1), .slice true (F.map intAV)]), (e, zR ((stepF s).1)), (b, .cells (flatK thgAV zs))]), (wth_keep (m := m) (L := [(b1, vObj v), (r, .cells [.ptr ⟨e, 0, none⟩, .ms ⟨b, 0, none⟩ k zs.length, .slice true ((toksR c.tokens).map dn3AV), .int .i64 c.next, .int .i64 c.quota, .int .i64 (c.calls + 1), .slice true (F.map intAV)]), (e, zR ((stepF s).1)), (b, .cells (flatK thgAV zs))]) (L1 := [(r, .cells [.ptr ⟨e, 0, none⟩, .ms ⟨b, 0, none⟩ k zs.length, .slice true ((toksR c.tokens).map dn3AV), .int .i64 c.next, .int .i64 c.quota, .int .i64 (c.calls + 1), .slice true (F.map intAV)]), (e, zR ((stepF s).1)), (b, .cells (flatK thgAV zs))]) (L2 := [(b1, vObj v)]) hNb1 (pick_perm [1, 1, 1] _) (by simp only [List.map_cons, List.map_nil, List.forall_mem_cons]; exact ⟨hFb1, fun _ h => by cases h⟩)), ?_⟩
   show K (.tuple [.int .i64 0, .int .i64 12]) (AMem.wth m [(r, .cells [.ptr ⟨e, 0, none⟩, .ms ⟨b, 0, none⟩ k zs.length, .slice true ((toksR c.tokens).map dn3AV), .int .i64 c.next, .int .i64 c.quota, .int .i64 (c.calls + 1), .slice true (F.map intAV)]), (e, zR ((stepF s).1)), (b, .cells (flatK thgAV zs))])
  
   have z3 := gI_mem (l := F) hI.1 (by assumption)
   have z4 : gI F i = c.calls := by assumption
   rw [z4] at z3
   exact hK _ (createD_4 (by omega) (by assumption) hs0 (hfr.2 z3)) [(b, .cells (flatK thgAV zs))] _ (HidR.row hb (by simp at hN ⊢; omega) hk hv)
  replace h5 : gI F i ≠ c.calls := (ne_of_beq_false h5)
  refine awp_skip ?_
  refine hK7 _ _ ?_; clear hK7
  refine awp_reg2 [] [0, 1, 2, 3, 4, 11, 17, 18] (by decide) ?_
  intro K1 hK1
  refine ⟨trivial, ?_⟩
  refine ar_add rfl (a := i) (b := 1) rfl rfl (by omega) (by omega) ?_
  refine ⟨trivial, ?_⟩
  show K1 [(0, .ptr ⟨r, 0, none⟩), (1, .int .i64 1), (2, .str token), (3, .str kind), (4, .int .i64 id), (11, .ptr ⟨b1, 0, none⟩), (17, .int .i64 c.calls), (18, .int .i64 (i + 1))] (AMem.wth m [(b1, vObj v), (r, .cells [.ptr ⟨e, 0, none⟩, .ms ⟨b, 0, none⟩ k zs.length, .slice true ((toksR c.tokens).map dn3AV), .int .i64 c.next, .int .i64 c.quota, .int .i64 (c.calls + 1), .slice true (F.map intAV)]), (e, zR ((stepF s).1)), (b, .cells (flatK thgAV zs))])
  refine hK1 _ _ ?_; clear hK1 K1
  refine ⟨(i + 1), rfl, rfl, ?_, ?_⟩
  ·
   show 0 ≤ ((i + 1 : Int)) ∧ ((i + 1 : Int)) ≤ F.length ∧ ∀ x ∈ F.take ((i + 1 : Int)).toNat, x ≠ c.calls
   refine ⟨by omega, by omega, fun x hx => ?_⟩
   rw [take_succ_gI hI.1 (by assumption), List.mem_append] at hx
   rcases hx with hx | hx
   ·
    exact hI.2.2 x hx
   ·
    simp at hx; subst hx; assumption
  ·
   show F.length - ((i + 1 : Int)).toNat < F.length - i.toNat
   omega
 replace h4 : (F.length : Int) ≤ i := (Int.not_lt.1 (of_decide_eq_false h4))
 refine awp_exit ?_
 refine hK5 _ _ ?_; clear hK5
 refine awp_seq_k ?_; intro K8 hK8
 have hb0 : (mget c.fails c.calls).getD false = false := by
  rw [Bool.eq_false_iff]; intro z
  have z2 := hfr.1 z
  rw [take_full (by assumption)] at hI
  exact hI.2.2 _ z2 rfl
 refine awp_reg2_seq [] [0, 1, 2, 3, 4, 11, 19] (by decide) ?_
 intro K1 hK1
 refine ⟨trivial, ?_⟩
 show K1 [(0, .ptr ⟨r, 0, none⟩), (1, .int .i64 1), (2, .str token), (3, .str kind), (4, .int .i64 id), (11, .ptr ⟨b1, 0, none⟩), (19, .int .i64 0)] (AMem.wth m [(b1, vObj v), (r, .cells [.ptr ⟨e, 0, none⟩, .ms ⟨b, 0, none⟩ k zs.length, .slice true ((toksR c.tokens).map dn3AV), .int .i64 c.next, .int .i64 c.quota, .int .i64 (c.calls + 1), .slice true (F.map intAV)]), (e, zR ((stepF s).1)), (b, .cells (flatK thgAV zs))])
 refine hK1 _ _ ?_; clear hK1 K1
 refine awp_block ?_
 refine awp_keep [0, 1, 2, 3, 4, 11, 19] (by decide) ?_
 refine awp_loop_st (σ := Int) (fun i2 => [(0, .ptr ⟨r, 0, none⟩), (1, .int .i64 1), (2, .str token), (3, .str kind), (4, .int .i64 id), (11, .ptr ⟨b1, 0, none⟩), (19, .int .i64 i2)]) (fun _ => (AMem.wth m [(b1, vObj v), (r, .cells [.ptr ⟨e, 0, none⟩, .ms ⟨b, 0, none⟩ k zs.length, .slice true ((toksR c.tokens).map dn3AV), .int .i64 c.next, .int .i64 c.quota, .int .i64 (c.calls + 1), .slice true (F.map intAV)]), (e, zR ((stepF s).1)), (b, .cells (flatK thgAV zs))])) (fun i2 => 0 ≤ i2 ∧ i2 ≤ (toksR c.tokens).length ∧ mget c.tokens token = mget (c.tokens.drop i2.toNat) token) (fun i2 => (toksR c.tokens).length - i2.toNat) (0) rfl rfl ?_ ?_
 ·
  show 0 ≤ ((0 : Int)) ∧ ((0 : Int)) ≤ (toksR c.tokens).length ∧ mget c.tokens token = mget (c.tokens.drop ((0 : Int)).toNat) token
  exact ⟨by omega, by omega, rfl⟩
 rintro i2 hI2
 replace hI2 : 0 ≤ i2 ∧ i2 ≤ (toksR c.tokens).length ∧ mget c.tokens token = mget (c.tokens.drop i2.toNat) token := hI2
 show AWP _ _ _ _ [(0, .ptr ⟨r, 0, none⟩), (1, .int .i64 1), (2, .str token), (3, .str kind), (4, .int .i64 id), (11, .ptr ⟨b1, 0, none⟩), (19, .int .i64 i2)] (AMem.wth m [(b1, vObj v), (r, .cells [.ptr ⟨e, 0, none⟩, .ms ⟨b, 0, none⟩ k zs.length, .slice true ((toksR c.tokens).map dn3AV), .int .i64 c.next, .int .i64 c.quota, .int .i64 (c.calls + 1), .slice true (F.map intAV)]), (e, zR ((stepF s).1)), (b, .cells (flatK thgAV zs))])
 refine awp_seq_k ?_; intro K9 hK9
 refine awp_reg2_seq [] [0, 1, 2, 3, 4, 11, 19, 79] (by decide) ?_
 intro K1 hK1
 refine ⟨trivial, trivial, trivial, ⟨rfl, by decide⟩, ?_⟩
 refine ar_loadp rfl (v := .slice false ((toksR c.tokens).map dn3AV)) rfl (wth_get 1 hNb1 rfl) rfl (apartOk_one rfl rfl (Nat.le_of_ble_eq_true rfl)) rfl ?_
 refine ar_len rfl dn3AV (toksR c.tokens) rfl rfl rfl ?_
 refine ⟨trivial, ?_⟩
 show K1 [(0, .ptr ⟨r, 0, none⟩), (1, .int .i64 1), (2, .str token), (3, .str kind), (4, .int .i64 id), (11, .ptr ⟨b1, 0, none⟩), (19, .int .i64 i2), (79, .bool (decide (i2 < ((toksR c.tokens).length : Int))))] _
 refine hK1 _ _ ?_; clear hK1 K1
 refine awp_cond rfl rfl (fun h6 => ?_) (fun h6 => ?_)
 ·
  replace h6 : i2 < ((toksR c.tokens).length : Int) := (of_decide_eq_true h6)
  refine awp_skip ?_
  refine hK9 _ _ ?_; clear hK9
  refine awp_seq_k ?_; intro K10 hK10
  refine awp_block ?_
  refine awp_seq_k ?_; intro K11 hK11
  refine awp_reg2_seq [] [0, 1, 2, 3, 4, 11, 19, 91] (by decide) ?_
  intro K1 hK1
  refine ⟨trivial, trivial, ⟨rfl, by decide⟩, ?_⟩
  refine ar_loadp rfl (v := .slice false ((toksR c.tokens).map dn3AV)) rfl (wth_get 1 hNb1 rfl) rfl (apartOk_one rfl rfl (Nat.le_of_ble_eq_true rfl)) rfl ?_
  refine ⟨trivial, ?_⟩
  refine ar_index rfl dn3AV (toksR c.tokens) i2 rfl rfl rfl rfl rfl (by decide) (fun _ => rfl) (by omega) (by omega) ?_
  refine ⟨⟨rfl, by decide, (Nat.le_of_ble_eq_true rfl)⟩, (apartOk_one rfl rfl (Nat.le_of_ble_eq_true rfl)), trivial, trivial, ?_⟩
  show K1 [(0, .ptr ⟨r, 0, none⟩), (1, .int .i64 1), (2, .str token), (3, .str kind), (4, .int .i64 id), (11, .ptr ⟨b1, 0, none⟩), (19, .int .i64 i2), (91, .bool (!(((gI (toksR c.tokens) i2).tok) == token)))] (AMem.wth m [(b1, vObj v), (r, .cells [.ptr ⟨e, 0, none⟩, .ms ⟨b, 0, none⟩ k zs.length, .slice true ((toksR c.tokens).map dn3AV), .int .i64 c.next, .int .i64 c.quota, .int .i64 (c.calls + 1), .slice true (F.map intAV)]), (e, zR ((stepF s).1)), (b, .cells (flatK thgAV zs))])
  refine hK1 _ _ ?_; clear hK1 K1
  refine awp_cond rfl rfl (fun h7 => ?_) (fun h7 => ?_)
  ·
   replace h7 : (gI (toksR c.tokens) i2).tok ≠ token := (ne_of_beq_false (bnT h7))
   refine awp_exit ?_
   refine hK10 _ _ ?_; clear hK10
   refine awp_reg2 [] [0, 1, 2, 3, 4, 11, 19] (by decide) ?_
   intro K1 hK1
   refine ⟨trivial, ?_⟩
   refine ar_add rfl (a := i2) (b := 1) rfl rfl (by omega) (by omega) ?_
   refine ⟨trivial, ?_⟩
   show K1 [(0, .ptr ⟨r, 0, none⟩), (1, .int .i64 1), (2, .str token), (3, .str kind), (4, .int .i64 id), (11, .ptr ⟨b1, 0, none⟩), (19, .int .i64 (i2 + 1))] (AMem.wth m [(b1, vObj v), (r, .cells [.ptr ⟨e, 0, none⟩, .ms ⟨b, 0, none⟩ k zs.length, .slice true ((toksR c.tokens).map dn3AV), .int .i64 c.next, .int .i64 c.quota, .int .i64 (c.calls + 1), .slice true (F.map intAV)]), (e, zR ((stepF s).1)), (b, .cells (flatK thgAV zs))])
   refine hK1 _ _ ?_; clear hK1 K1
   refine ⟨(i2 + 1), rfl, rfl, ?_, ?_⟩
   ·
    show 0 ≤ ((i2 + 1 : Int)) ∧ ((i2 + 1 : Int)) ≤ (toksR c.tokens).length ∧ mget c.tokens token = mget (c.tokens.drop ((i2 + 1 : Int)).toNat) token
    exact ⟨by omega, by omega, tok_miss hI2 (by assumption) (by assumption)⟩
   ·
    show (toksR c.tokens).length - ((i2 + 1 : Int)).toNat < (toksR c.tokens).length - i2.toNat
    omega
  replace h7 : (gI (toksR c.tokens) i2).tok = token := (eq_of_beq (bnF h7))
  refine awp_skip ?_
  refine hK11 _ _ ?_; clear hK11
  refine awp_seq_k ?_; intro K12 hK12
  refine awp_reg2_seq [] [0, 19, 101] (by decide) ?_
  intro K1 hK1
  refine ⟨trivial, trivial, ⟨rfl, by decide⟩, ?_⟩
  refine ar_loadp rfl (v := .slice false ((toksR c.tokens).map dn3AV)) rfl (wth_get 1 hNb1 rfl) rfl (apartOk_one rfl rfl (Nat.le_of_ble_eq_true rfl)) rfl ?_
  refine ⟨trivial, ?_⟩
  refine ar_index rfl dn3AV (toksR c.tokens) i2 rfl rfl rfl rfl rfl (by decide) (fun _ => rfl) (by omega) (by omega) ?_
  refine ⟨⟨rfl, by decide, (Nat.le_of_ble_eq_true rfl)⟩, (apartOk_one rfl rfl (Nat.le_of_ble_eq_true rfl)), trivial, trivial, ?_⟩
  show K1 [(0, .ptr ⟨r, 0, none⟩), (19, .int .i64 i2), (101, .bool (!(((gI (toksR c.tokens) i2).op) == 1)))] (AMem.wth m [(b1, vObj v), (r, .cells [.ptr ⟨e, 0, none⟩, .ms ⟨b, 0, none⟩ k zs.length, .slice true ((toksR c.tokens).map dn3AV), .int .i64 c.next, .int .i64 c.quota, .int .i64 (c.calls + 1), .slice true (F.map intAV)]), (e, zR ((stepF s).1)), (b, .cells (flatK thgAV zs))])
  refine hK1 _ _ ?_; clear hK1 K1
  refine awp_cond rfl rfl (fun h8 => ?_) (fun h8 => ?_)
  ·
   replace h8 : (gI (toksR c.tokens) i2).op ≠ 1 := (ne_of_beq_false (bnT h8))
   refine awp_reg2_seq [] [12, 13] (by decide) ?_
   intro K1 hK1
   refine ⟨trivial, trivial, ?_⟩
   show K1 [(12, .int .i64 0), (13, .int .i64 15)] (AMem.wth m [(b1, vObj v), (r, .cells [.ptr ⟨e, 0, none⟩, .ms ⟨b, 0, none⟩ k zs.length, .slice true ((toksR c.tokens).map dn3AV), .int .i64 c.next, .int .i64 c.quota, .int .i64 (c.calls + 1), .slice true (F.map intAV)]), (e, zR ((stepF s).1)), (b, .cells (flatK thgAV zs))])
   refine hK1 _ _ ?_; clear hK1 K1
   refine awp_ret ?_
   refine ⟨trivial, trivial, (AMem.wth m [(r, .cells [.ptr ⟨e, 0, none⟩, .ms ⟨b, 0, none⟩ k zs.length, .slice true ((toksR c.tokens).map dn3AV), .int .i64 c.next, .int .i64 c.quota, .int .i64 (c.calls + 1), .slice true (F.map intAV)]), (e, zR ((stepF s).1)), (b, .cells (flatK thgAV zs))]), (wth_keep (m := m) (L := [(b1, vObj v), (r, .cells [.ptr ⟨e, 0, none⟩, .ms ⟨b, 0, none⟩ k zs.length, .slice true ((toksR c.tokens).map dn3AV), .int .i64 c.next, .int .i64 c.quota, .int .i64 (c.calls + 1), .slice true (F.map intAV)]), (e, zR ((stepF s).1)), (b, .cells (flatK thgAV zs))]) (L1 := [(r, .cells [.ptr ⟨e, 0, none⟩, .ms ⟨b, 0, none⟩ k zs.length, .slice true ((toksR c.tokens).map dn3AV), .int .i64 c.next, .int .i64 c.quota, .int .i64 (c.calls + 1), .slice true (F.map intAV)]), (e, zR ((stepF s).1)), (b, .cells (flatK thgAV zs))]) (L2 := [(b1, vObj v)]) hNb1 (pick_perm [1, 1, 1] _) (by simp only [List.map_cons, List.map_nil, List.forall_mem_cons]; exact ⟨hFb1, fun _ h => by cases h⟩)), ?_⟩
   show K (.tuple [.int .i64 0, .int .i64 15]) (AMem.wth m [(r, .cells [.ptr ⟨e, 0, none⟩, .ms ⟨b, 0, none⟩ k zs.length, .slice true ((toksR c.tokens).map dn3AV), .int .i64 c.next, .int .i64 c.quota, .int .i64 (c.calls + 1), .slice true (F.map intAV)]), (e, zR ((stepF s).1)), (b, .cells (flatK thgAV zs))])
  
   have hm := tok_hit hI2 (by assumption) (by assumption)
   have hg := gI_toks hI2.1 (l := c.tokens) (by assumption)
   have hop : (gI c.tokens i2).2.op ≠ 1 := (by (have z : (gI (toksR c.tokens) i2).op ≠ 1 := by assumption); rw [hg] at z; exact z)
   exact hK _ (createD_5 (by omega) (by assumption) hs0 hb0 hm hop) [(b, .cells (flatK thgAV zs))] _ (HidR.row hb (by simp at hN ⊢; omega) hk hv)
  replace h8 : (gI (toksR c.tokens) i2).op = 1 := (eq_of_beq (bnF h8))
  refine awp_skip ?_
  refine hK12 _ _ ?_; clear hK12
  refine awp_reg2_seq [] [12, 13] (by decide) ?_
  intro K1 hK1
  refine ⟨trivial, trivial, ⟨rfl, by decide⟩, ?_⟩
  refine ar_loadp rfl (v := .slice false ((toksR c.tokens).map dn3AV)) rfl (wth_get 1 hNb1 rfl) rfl (apartOk_one rfl rfl (Nat.le_of_ble_eq_true rfl)) rfl ?_
  refine ⟨trivial, ?_⟩
  refine ar_index rfl dn3AV (toksR c.tokens) i2 rfl rfl rfl rfl rfl (by decide) (fun _ => rfl) (by omega) (by omega) ?_
  refine ⟨⟨rfl, by decide, (Nat.le_of_ble_eq_true rfl)⟩, (apartOk_one rfl rfl (Nat.le_of_ble_eq_true rfl)), trivial, trivial, ?_⟩
  show K1 [(12, .int .i64 ((gI (toksR c.tokens) i2).id)), (13, .int .i64 0)] (AMem.wth m [(b1, vObj v), (r, .cells [.ptr ⟨e, 0, none⟩, .ms ⟨b, 0, none⟩ k zs.length, .slice true ((toksR c.tokens).map dn3AV), .int .i64 c.next, .int .i64 c.quota, .int .i64 (c.calls + 1), .slice true (F.map intAV)]), (e, zR ((stepF s).1)), (b, .cells (flatK thgAV zs))])
  refine hK1 _ _ ?_; clear hK1 K1
  refine awp_ret ?_
  refine ⟨trivial, trivial, (AMem.wth m [(r, .cells [.ptr ⟨e, 0, none⟩, .ms ⟨b, 0, none⟩ k zs.length, .slice true ((toksR c.tokens).map dn3AV), .int .i64 c.next, .int .i64 c.quota, .int .i64 (c.calls + 1), .slice true (F.map intAV)]), (e, zR ((stepF s).1)), (b, .cells (flatK thgAV zs))]), (wth_keep (m := m) (L := [(b1, vObj v), (r, .cells [.ptr ⟨e, 0, none⟩, .ms ⟨b, 0, none⟩ k zs.length, .slice true ((toksR c.tokens).map dn3AV), .int .i64 c.next, .int .i64 c.quota, .int .i64 (c.calls + 1), .slice true (F.map intAV)]), (e, zR ((stepF s).1)), (b, .cells (flatK thgAV zs))]) (L1 := [(r, .cells [.ptr ⟨e, 0, none⟩, .ms ⟨b, 0, none⟩ k zs.length, .slice true ((toksR c.tokens).map dn3AV), .int .i64 c.next, .int .i64 c.quota, .int .i64 (c.calls + 1), .slice true (F.map intAV)]), (e, zR ((stepF s).1)), (b, .cells (flatK thgAV zs))]) (L2 := [(b1, vObj v)]) hNb1 (pick_perm [1, 1, 1] _) (by simp only [List.map_cons, List.map_nil, List.forall_mem_cons]; exact ⟨hFb1, fun _ h => by cases h⟩)), ?_⟩
  show K (.tuple [.int .i64 ((gI (toksR c.tokens) i2).id), .int .i64 0]) (AMem.wth m [(r, .cells [.ptr ⟨e, 0, none⟩, .ms ⟨b, 0, none⟩ k zs.length, .slice true ((toksR c.tokens).map dn3AV), .int .i64 c.next, .int .i64 c.quota, .int .i64 (c.calls + 1), .slice true (F.map intAV)]), (e, zR ((stepF s).1)), (b, .cells (flatK thgAV zs))])
 
  have hm := tok_hit hI2 (by assumption) (by assumption)
  have hg := gI_toks hI2.1 (l := c.tokens) (by assumption)
  have hop : (gI c.tokens i2).2.op = 1 := (by (have z : (gI (toksR c.tokens) i2).op = 1 := by assumption); rw [hg] at z; exact z)
  rw [hg]
  exact hK _ (createD_6 (by omega) (by assumption) hs0 hb0 hm hop) [(b, .cells (flatK thgAV zs))] _ (HidR.row hb (by simp at hN ⊢; omega) hk hv)
 replace h6 : ((toksR c.tokens).length : Int) ≤ i2 := (Int.not_lt.1 (of_decide_eq_false h6))
 refine awp_exit ?_
 refine hK8 _ _ ?_; clear hK8
 have htk0 : mget c.tokens token = none := tok_end hI2 (by assumption)
 refine awp_reg2_seq [] [0, 1, 2, 3, 4, 11, 20] (by decide) ?_
 intro K1 hK1
 refine ⟨trivial, trivial, ?_⟩
 refine ar_mem (wth_split hNb1 (pick_perm [1, 2] _)) ?_
 refine u_place_ms r e b k zs ({ c with calls := c.calls + 1 } : ClSt) F id (by simp at hN ⊢; omega) hk hkb _ _ ?_
 show aopsR _ _ _ _ _ _ (AMem.wth (AMem.wth m [(b1, vObj v), (e, zR ((stepF s).1))]) [(r, .cells [.ptr ⟨e, 0, none⟩, .ms ⟨b, 0, none⟩ k zs.length, .slice true ((toksR c.tokens).map dn3AV), .int .i64 c.next, .int .i64 c.quota, .int .i64 (c.calls + 1), .slice true (F.map intAV)]), (b, .cells (flatK thgAV zs))])
 refine ar_mem (wth_split (m := m) (L := [(b1, vObj v), (r, .cells [.ptr ⟨e, 0, none⟩, .ms ⟨b, 0, none⟩ k zs.length, .slice true ((toksR c.tokens).map dn3AV), .int .i64 c.next, .int .i64 c.quota, .int .i64 (c.calls + 1), .slice true (F.map intAV)]), (e, zR ((stepF s).1)), (b, .cells (flatK thgAV zs))]) hNb1 (pick_perm [1, 2] _)).symm ?_
 refine ⟨trivial, ?_⟩
 show K1 [(0, .ptr ⟨r, 0, none⟩), (1, .int .i64 1), (2, .str token), (3, .str kind), (4, .int .i64 id), (11, .ptr ⟨b1, 0, none⟩), (20, .int .i64 (placeR (zs.take k) id))] (AMem.wth m [(b1, vObj v), (r, .cells [.ptr ⟨e, 0, none⟩, .ms ⟨b, 0, none⟩ k zs.length, .slice true ((toksR c.tokens).map dn3AV), .int .i64 c.next, .int .i64 c.quota, .int .i64 (c.calls + 1), .slice true (F.map intAV)]), (e, zR ((stepF s).1)), (b, .cells (flatK thgAV zs))])
 refine hK1 _ _ ?_; clear hK1 K1
 refine awp_seq_k ?_; intro K13 hK13
 refine awp_reg2_seq [] [0, 1, 2, 3, 4, 11, 20, 113] (by decide) ?_
 intro K1 hK1
 refine ⟨trivial, ?_⟩
 show K1 [(0, .ptr ⟨r, 0, none⟩), (1, .int .i64 1), (2, .str token), (3, .str kind), (4, .int .i64 id), (11, .ptr ⟨b1, 0, none⟩), (20, .int .i64 (placeR (zs.take k) id)), (113, .int .i64 1)] _
 refine hK1 _ _ ?_; clear hK1 K1
 refine awp_block ?_
 refine awp_reg2_seq [] [0, 1, 2, 3, 4, 11, 20, 113, 114] (by decide) ?_
 intro K1 hK1
 refine ⟨trivial, trivial, ?_⟩
 show K1 [(0, .ptr ⟨r, 0, none⟩), (1, .int .i64 1), (2, .str token), (3, .str kind), (4, .int .i64 id), (11, .ptr ⟨b1, 0, none⟩), (20, .int .i64 (placeR (zs.take k) id)), (113, .int .i64 1), (114, .bool true)] _
 refine hK1 _ _ ?_; clear hK1 K1
 refine awp_cond rfl rfl (fun hcz => ?_) (fun hcz => ?_)
 rotate_left; · cases hcz
 clear hcz
 refine awp_seq_k ?_; intro K14 hK14
 refine awp_draw_seq Try.mixed [] [0, 1, 2, 3, 11, 125] (by decide) (by decide) ?_
 intro K1 hK1
 refine ⟨trivial, trivial, ⟨rfl, by decide⟩, ?_⟩
 refine pq_loadp rfl (v := .ms ⟨b, 0, none⟩ k zs.length) rfl (wth_get 1 hNb1 rfl) (apartOk_one rfl rfl (Nat.le_of_ble_eq_true rfl)) rfl ?_
 refine ⟨(by omega), trivial, trivial, ⟨rfl, by decide⟩, ?_⟩
 refine pq_loadp rfl (v := .int .i64 c.quota) rfl (wth_get 1 hNb1 rfl) (apartOk_one rfl rfl (Nat.le_of_ble_eq_true rfl)) rfl ?_
 refine ⟨trivial, ?_⟩
 show K1 [(0, .ptr ⟨r, 0, none⟩), (1, .int .i64 1), (2, .str token), (3, .str kind), (11, .ptr ⟨b1, 0, none⟩), (125, .bool (decide (c.quota ≤ ((k : Nat) : Int))))] _
 refine hK1 _ _ ?_; clear hK1 K1
 refine awp_cond rfl rfl (fun h9 => ?_) (fun h9 => ?_)
 ·
  replace h9 : c.quota ≤ ((k : Nat) : Int) := (of_decide_eq_true h9)
  refine awp_reg2_seq [] [12, 13] (by decide) ?_
  intro K1 hK1
  refine ⟨trivial, trivial, ?_⟩
  show K1 [(12, .int .i64 0), (13, .int .i64 13)] (AMem.wth m [(b1, vObj v), (r, .cells [.ptr ⟨e, 0, none⟩, .ms ⟨b, 0, none⟩ k zs.length, .slice true ((toksR c.tokens).map dn3AV), .int .i64 c.next, .int .i64 c.quota, .int .i64 (c.calls + 1), .slice true (F.map intAV)]), (e, zR ((stepF s).1)), (b, .cells (flatK thgAV zs))])
  refine hK1 _ _ ?_; clear hK1 K1
  refine awp_ret ?_
  refine ⟨trivial, trivial, (AMem.wth m [(r, .cells [.ptr ⟨e, 0, none⟩, .ms ⟨b, 0, none⟩ k zs.length, .slice true ((toksR c.tokens).map dn3AV), .int .i64 c.next, .int .i64 c.quota, .int .i64 (c.calls + 1), .slice true (F.map intAV)]), (e, zR ((stepF s).1)), (b, .cells (flatK thgAV zs))]), (wth_keep (m := m) (L := [(b1, vObj v), (r, .cells [.ptr ⟨e, 0, none⟩, .ms ⟨b, 0, none⟩ k zs.length, .slice true ((toksR c.tokens).map dn3AV), .int .i64 c.next, .int .i64 c.quota, .int .i64 (c.calls + 1), .slice true (F.map intAV)]), (e, zR ((stepF s).1)), (b, .cells (flatK thgAV zs))]) (L1 := [(r, .cells [.ptr ⟨e, 0, none⟩, .ms ⟨b, 0, none⟩ k zs.length, .slice true ((toksR c.tokens).map dn3AV), .int .i64 c.next, .int .i64 c.quota, .int .i64 (c.calls + 1), .slice true (F.map intAV)]), (e, zR ((stepF s).1)), (b, .cells (flatK thgAV zs))]) (L2 := [(b1, vObj v)]) hNb1 (pick_perm [1, 1, 1] _) (by simp only [List.map_cons, List.map_nil, List.forall_mem_cons]; exact ⟨hFb1, fun _ h => by cases h⟩)), ?_⟩
  show K (.tuple [.int .i64 0, .int .i64 13]) (AMem.wth m [(r, .cells [.ptr ⟨e, 0, none⟩, .ms ⟨b, 0, none⟩ k zs.length, .slice true ((toksR c.tokens).map dn3AV), .int .i64 c.next, .int .i64 c.quota, .int .i64 (c.calls + 1), .slice true (F.map intAV)]), (e, zR ((stepF s).1)), (b, .cells (flatK thgAV zs))])
 
  exact hK _ (createD_7 (by omega) (by assumption) hs0 hb0 htk0 (by omega)) [(b, .cells (flatK thgAV zs))] _ (HidR.row hb (by simp at hN ⊢; omega) hk hv)
 replace h9 : ((k : Nat) : Int) < c.quota := (Int.not_le.1 (of_decide_eq_false h9))
 refine awp_skip ?_
 refine hK14 _ _ ?_; clear hK14
 refine awp_reg2_seq [] [0, 1, 2, 3, 4, 11] (by decide) ?_
 intro K1 hK1
 refine ⟨trivial, trivial, ⟨rfl, by decide⟩, ?_⟩
 refine ar_loadp rfl (v := .int .i64 c.next) rfl (wth_get 1 hNb1 rfl) rfl (apartOk_one rfl rfl (Nat.le_of_ble_eq_true rfl)) rfl ?_
 refine ⟨trivial, ?_⟩
 show K1 [(0, .ptr ⟨r, 0, none⟩), (1, .int .i64 1), (2, .str token), (3, .str kind), (4, .int .i64 c.next), (11, .ptr ⟨b1, 0, none⟩)] (AMem.wth m [(b1, vObj v), (r, .cells [.ptr ⟨e, 0, none⟩, .ms ⟨b, 0, none⟩ k zs.length, .slice true ((toksR c.tokens).map dn3AV), .int .i64 c.next, .int .i64 c.quota, .int .i64 (c.calls + 1), .slice true (F.map intAV)]), (e, zR ((stepF s).1)), (b, .cells (flatK thgAV zs))])
 refine hK1 _ _ ?_; clear hK1 K1
 refine awp_reg2_seq [] [0, 1, 2, 3, 4, 11] (by decide) ?_
 intro K1 hK1
 refine ⟨trivial, trivial, ⟨rfl, by decide⟩, ?_⟩
 refine ar_loadp rfl (v := .int .i64 c.next) rfl (wth_get 1 hNb1 rfl) rfl (apartOk_one rfl rfl (Nat.le_of_ble_eq_true rfl)) rfl ?_
 refine ar_add rfl (a := c.next) (b := 1) rfl rfl (by omega) (by omega) ?_
 refine ⟨trivial, ⟨rfl, by decide⟩, ?_⟩
 refine ar_storep rfl 1 (v := .int .i64 (c.next + 1)) (l' := [.ptr ⟨e, 0, none⟩, .ms ⟨b, 0, none⟩ k zs.length, .slice true ((toksR c.tokens).map dn3AV), .int .i64 (c.next + 1), .int .i64 c.quota, .int .i64 (c.calls + 1), .slice true (F.map intAV)]) rfl rfl hNb1 rfl rfl rfl rfl rfl (Nat.le_of_ble_eq_true rfl) rfl ?_
 show K1 [(0, .ptr ⟨r, 0, none⟩), (1, .int .i64 1), (2, .str token), (3, .str kind), (4, .int .i64 c.next), (11, .ptr ⟨b1, 0, none⟩)] (AMem.wth m [(b1, vObj v), (r, .cells [.ptr ⟨e, 0, none⟩, .ms ⟨b, 0, none⟩ k zs.length, .slice true ((toksR c.tokens).map dn3AV), .int .i64 (c.next + 1), .int .i64 c.quota, .int .i64 (c.calls + 1), .slice true (F.map intAV)]), (e, zR ((stepF s).1)), (b, .cells (flatK thgAV zs))])
 refine hK1 _ _ ?_; clear hK1 K1
 obtain ⟨c2, hc2⟩ : ∃ c2 : ClSt, c2 = ({ c with calls := c.calls + 1, next := c.next + 1 } : ClSt) := ⟨_, rfl⟩
 have hob : .cells [.ptr ⟨e, 0, none⟩, .ms ⟨b, 0, none⟩ k zs.length, .slice true ((toksR c.tokens).map dn3AV), .int .i64 (c.next + 1), .int .i64 c.quota, .int .i64 (c.calls + 1), .slice true (F.map intAV)] = rcObj e (.ms ⟨b, 0, none⟩ k zs.length) c2 F := by rw [hc2]; rfl
 rw [hob]
 have htk2 : (toksR c2.tokens).length ≤ 1000000 := by rw [hc2]; exact htkl
 refine awp_anyA Try.mixed [0, 1, 2, 4] (by decide) ?_
 intro K1 hK1
 intro A hA
 suffices key : ∀ (b42 : Nat) (hFb42 : m b42 = none) (hNv1 : ([b42, b1, r, e] : List Nat).Nodup) (zs42 : List Thg) (htb42 : zs42.take (k + (([(⟨c.next, kind, v⟩ : Thg)] : List Thg)).length) = zs.take k ++ ([(⟨c.next, kind, v⟩ : Thg)] : List Thg)) (hlb42 : k + (([(⟨c.next, kind, v⟩ : Thg)] : List Thg)).length ≤ zs42.length), K1 [(0, .ptr ⟨r, 0, none⟩), (1, .int .i64 1), (2, .str token), (4, .int .i64 c.next)] (AMem.wth m [(b42, .cells (flatK thgAV zs42)), (b1, vObj v), (r, rcObj e (.ms ⟨b42, 0, none⟩ (k + ([(⟨c.next, kind, v⟩ : Thg)] : List Thg).length) zs42.length) c2 F), (e, zR ((stepF s).1))]) by
  let KK1 : Fr → AMem → Prop := (fun fr m => K1 (fr.keep [0, 1, 2, 4]) m)
  let f1_0 : Nat × AV := (0, .ptr ⟨r, 0, none⟩)
  let f1_1 : Nat × AV := (1, .int .i64 1)
  let f1_2 : Nat × AV := (2, .str token)
  let f1_3 : Nat × AV := (4, .int .i64 c.next)
  let M1_4 : Nat → List Thg → AMem := fun b42 zs42 => (AMem.wth m [(b42, .cells (flatK thgAV zs42)), (b1, vObj v), (r, rcObj e (.ms ⟨b42, 0, none⟩ (k + ([(⟨c.next, kind, v⟩ : Thg)] : List Thg).length) zs42.length) c2 F), (e, zR ((stepF s).1))])
  let f1_5 : Nat → List Thg → Nat × AV := fun b42 zs42 => (147, .ms ⟨b42, 0, none⟩ (k + ([(⟨c.next, kind, v⟩ : Thg)] : List Thg).length) zs42.length)
  let f1_6 : Nat × AV := (149, .ptr ⟨r, 1, none⟩)
  let M1_7 : Nat → List Thg → AMem := fun b42 zs42 => (AMem.wth m [(b42, .cells (flatK thgAV zs42)), (b1, vObj v), (r, rcObj e (.ms ⟨b, 0, none⟩ k zs.length) c2 F), (e, zR ((stepF s).1))])
  let f1_8 : Nat × AV := (137, .ptr ⟨r, 0, none⟩)
  let f1_9 : Nat × AV := (141, .ms ⟨b, 0, none⟩ k zs.length)
  let f1_10 : Nat × AV := (146, .slice true [.agg [.int .i64 c.next, .str kind, .int .i64 v.kind, .int .i64 v.n, .str v.s, .slice false (v.l.map valIn), .slice false (v.f.map fldIn)]])
  let M1_11 : AMem := (AMem.wth m [(b1, vObj v), (r, rcObj e (.ms ⟨b, 0, none⟩ k zs.length) c2 F), (e, zR ((stepF s).1)), (b, .cells (flatK thgAV zs))])
  let f1_12 : Nat × AV := (145, .agg [.int .i64 c.next, .str kind, .int .i64 v.kind, .int .i64 v.n, .str v.s, .slice false (v.l.map valIn), .slice false (v.f.map fldIn)])
  let f1_13 : Nat × AV := (140, .ptr ⟨r, 1, none⟩)
  let f1_14 : Nat × AV := (142, .int .i64 c.next)
  let f1_15 : Nat × AV := (143, .str kind)
  let f1_16 : Nat × AV := (144, .agg [.int .i64 v.kind, .int .i64 v.n, .str v.s, .slice false (v.l.map valIn), .slice false (v.f.map fldIn)])
  let f1_17 : Nat × AV := (11, .ptr ⟨b1, 0, none⟩)
  have s0 : ∀ (b42 : Nat) (hFb42 : m b42 = none) (hNv1 : ([b42, b1, r, e] : List Nat).Nodup) (zs42 : List Thg) (htb42 : zs42.take (k + (([(⟨c.next, kind, v⟩ : Thg)] : List Thg)).length) = zs.take k ++ ([(⟨c.next, kind, v⟩ : Thg)] : List Thg)) (hlb42 : k + (([(⟨c.next, kind, v⟩ : Thg)] : List Thg)).length ≤ zs42.length), A 0 #[true, true, true, true, true, true, true, true, true, true, true, true, true, true] KK1 [f1_0, f1_1, f1_2, f1_3] (M1_4 b42 zs42) := by
   intro b42 hFb42 hNv1 zs42 htb42 hlb42
   subst hA
   exact AAny.done (by decide +kernel) (key b42 hFb42 hNv1 zs42 htb42 hlb42)
  have s1 : ∀ (b42 : Nat) (hFb42 : m b42 = none) (hNv1 : ([b42, b1, r, e] : List Nat).Nodup) (zs42 : List Thg) (htb42 : zs42.take (k + (([(⟨c.next, kind, v⟩ : Thg)] : List Thg)).length) = zs.take k ++ ([(⟨c.next, kind, v⟩ : Thg)] : List Thg)) (hlb42 : k + (([(⟨c.next, kind, v⟩ : Thg)] : List Thg)).length ≤ zs42.length), A 1 #[true, true, true, true, true, true, true, true, true, true, true, true, true, false] KK1 [f1_0, f1_1, f1_2, f1_3, (f1_5 b42 zs42), f1_6] (M1_7 b42 zs42) := by
   intro b42 hFb42 hNv1 zs42 htb42 hlb42
   subst hA
   refine AAny.step [141] [13] (by decide +kernel) (by simp) (by decide) ⟨?_, trivial⟩
   ·
    show aopsR _ _ _ [_] _ _ _
    refine ar_storep rfl 2 (v := .ms ⟨b42, 0, none⟩ (k + ([(⟨c.next, kind, v⟩ : Thg)] : List Thg).length) zs42.length) (l' := [.ptr ⟨e, 0, none⟩, .ms ⟨b42, 0, none⟩ (k + ([(⟨c.next, kind, v⟩ : Thg)] : List Thg).length) zs42.length, .slice true ((toksR c2.tokens).map dn3AV), .int .i64 c2.next, .int .i64 c2.quota, .int .i64 c2.calls, .slice true (F.map intAV)]) rfl rfl hNv1 rfl rfl rfl rfl rfl (Nat.le_of_ble_eq_true rfl) rfl ?_
    refine AAny.keep [0, 1, 2, 4] (by decide) ?_
    exact s0 b42 hFb42 hNv1 zs42 htb42 hlb42
  clear s0
  have s2 : ∀ (_ : True), A 4 #[true, true, true, true, true, true, true, true, true, true, false, false, false, false] KK1 [f1_0, f1_1, f1_2, f1_3, f1_8, f1_9, f1_10] M1_11 := by
   intro _
   subst hA
   refine AAny.step [141] [10] (by decide +kernel) (by simp) (by decide) ⟨?_, trivial⟩
   ·
    show aopsR _ _ _ [_] _ _ _
    refine ar_appendMsK rfl 3 thgAV 7 zs ([(⟨c.next, kind, v⟩ : Thg)] : List Thg) zT k rfl rfl rfl rfl rfl rfl rfl rfl (by decide) rfl hNb1 hb (fun _ => rfl) (fun _ => rfl) (fun _ => rfl) rfl (by (first | omega | (simp only [List.length_append, List.length_cons, List.length_nil]; omega))) (by (simp only [show Try.prog.bytesOf 80 = 104 from rfl, List.length_append, List.length_cons, List.length_nil]; omega)) (by (first | omega | (simp only [List.length_append, List.length_cons, List.length_nil]; omega))) ?_
    intro b42 zs42 hFb42 hNb42 htb42 hlb42
    replace htb42 : zs42.take (k + ([(⟨c.next, kind, v⟩ : Thg)] : List Thg).length) = zs.take k ++ ([(⟨c.next, kind, v⟩ : Thg)] : List Thg) := htb42
    replace hlb42 : k + ([(⟨c.next, kind, v⟩ : Thg)] : List Thg).length ≤ zs42.length := hlb42
    refine AAny.fNil (i := 11) rfl rfl rfl (by decide) rfl (by decide +kernel) rfl ?_
    refine AAny.fField (i := 12) rfl rfl rfl (by decide) rfl (by decide +kernel) rfl rfl ⟨rfl, by decide⟩ ?_
    refine AAny.keep [0, 1, 2, 4, 147, 149] (by decide) ?_
    exact s1 b42 hFb42 hNb42 zs42 htb42 hlb42
  clear s1
  have s3 : ∀ (_ : True), A 5 #[true, true, true, true, true, true, true, true, true, false, false, false, false, false] KK1 [f1_0, f1_1, f1_2, f1_3, f1_8, f1_9, f1_12] M1_11 := by
   intro _
   subst hA
   refine AAny.step [141] [9] (by decide +kernel) (by simp) (by decide) ⟨?_, trivial⟩
   ·
    show aopsR _ _ _ [_] _ _ _
    refine ⟨⟨rfl, Nat.le_of_ble_eq_true rfl, rfl, Nat.le_of_ble_eq_true rfl, rfl, by simp only [List.forall_mem_cons]; exact ⟨⟨rfl, rfl⟩, fun _ h => by cases h⟩⟩, ?_⟩
    refine AAny.keep [0, 1, 2, 4, 137, 141, 146] (by decide) ?_
    exact s2 trivial
  have s4 : ∀ (_ : True), A 5 #[true, true, true, true, false, true, true, true, true, true, false, false, false, false] KK1 [f1_0, f1_1, f1_2, f1_3, f1_8, f1_13, f1_10] M1_11 := by
   intro _
   subst hA
   refine AAny.step [141] [4] (by decide +kernel) (by simp) (by decide) ⟨?_, trivial⟩
   ·
    show aopsR _ _ _ [_] _ _ _
    refine ar_loads rfl (i := 1) rfl hNb1 rfl rfl rfl rfl (Nat.le_of_ble_eq_true rfl) ?_
    refine AAny.keep [0, 1, 2, 4, 137, 141, 146] (by decide) ?_
    exact s2 trivial
  clear s2
  have s5 : ∀ (_ : True), A 6 #[true, true, true, true, true, true, true, true, false, false, false, false, false, false] KK1 [f1_0, f1_1, f1_2, f1_3, f1_8, f1_9, f1_14, f1_15, f1_16] M1_11 := by
   intro _
   subst hA
   refine AAny.step [141] [8] (by decide +kernel) (by simp) (by decide) ⟨?_, trivial⟩
   ·
    show aopsR _ _ _ [_] _ _ _
    refine ⟨⟨rfl, by simp only [List.forall_mem_cons]; exact ⟨rfl, rfl, rfl, fun _ h => by cases h⟩, by simp only [List.forall_mem_cons]; exact ⟨rfl, rfl, rfl, fun _ h => by cases h⟩⟩, ?_⟩
    refine AAny.keep [0, 1, 2, 4, 137, 141, 145] (by decide) ?_
    exact s3 trivial
  have s6 : ∀ (_ : True), A 6 #[true, true, true, true, false, true, true, true, true, false, false, false, false, false] KK1 [f1_0, f1_1, f1_2, f1_3, f1_8, f1_13, f1_12] M1_11 := by
   intro _
   subst hA
   refine AAny.step [141] [4, 9] (by decide +kernel) (by simp) (by decide) ⟨?_, ?_, trivial⟩
   ·
    show aopsR _ _ _ [_] _ _ _
    refine ar_loads rfl (i := 1) rfl hNb1 rfl rfl rfl rfl (Nat.le_of_ble_eq_true rfl) ?_
    refine AAny.keep [0, 1, 2, 4, 137, 141, 145] (by decide) ?_
    exact s3 trivial
   ·
    show aopsR _ _ _ [_] _ _ _
    refine ⟨⟨rfl, Nat.le_of_ble_eq_true rfl, rfl, Nat.le_of_ble_eq_true rfl, rfl, by simp only [List.forall_mem_cons]; exact ⟨⟨rfl, rfl⟩, fun _ h => by cases h⟩⟩, ?_⟩
    refine AAny.keep [0, 1, 2, 4, 137, 140, 146] (by decide) ?_
    exact s4 trivial
  clear s3 s4
  have s7 : ∀ (_ : True), A 7 #[true, true, true, true, true, true, true, false, false, false, false, false, false, false] KK1 [f1_0, f1_1, f1_2, f1_3, f1_17, f1_8, f1_9, f1_14, f1_15] M1_11 := by
   intro _
   subst hA
   refine AAny.step [141] [7] (by decide +kernel) (by simp) (by decide) ⟨?_, trivial⟩
   ·
    show aopsR _ _ _ [_] _ _ _
    refine ar_loadp rfl (v := .agg [.int .i64 v.kind, .int .i64 v.n, .str v.s, .slice false (v.l.map valIn), .slice false (v.f.map fldIn)]) rfl (wth_get 0 hNb1 rfl) rfl (apartOk_agg rfl rfl (Nat.le_of_ble_eq_true rfl)) rfl ?_
    refine AAny.keep [0, 1, 2, 4, 137, 141, 142, 143, 144] (by decide) ?_
    exact s5 trivial
  have s8 : ∀ (_ : True), A 7 #[true, true, true, true, false, true, true, true, false, false, false, false, false, false] KK1 [f1_0, f1_1, f1_2, f1_3, f1_8, f1_13, f1_14, f1_15, f1_16] M1_11 := by
   intro _
   subst hA
   refine AAny.step [141] [4, 8] (by decide +kernel) (by simp) (by decide) ⟨?_, ?_, trivial⟩
   ·
    show aopsR _ _ _ [_] _ _ _
    refine ar_loads rfl (i := 1) rfl hNb1 rfl rfl rfl rfl (Nat.le_of_ble_eq_true rfl) ?_
    refine AAny.keep [0, 1, 2, 4, 137, 141, 142, 143, 144] (by decide) ?_
    exact s5 trivial
   ·
    show aopsR _ _ _ [_] _ _ _
    refine ⟨⟨rfl, by simp only [List.forall_mem_cons]; exact ⟨rfl, rfl, rfl, fun _ h => by cases h⟩, by simp only [List.forall_mem_cons]; exact ⟨rfl, rfl, rfl, fun _ h => by cases h⟩⟩, ?_⟩
    refine AAny.keep [0, 1, 2, 4, 137, 140, 145] (by decide) ?_
    exact s6 trivial
  clear s5 s6
  have s9 : ∀ (_ : True), A 8 #[true, true, true, true, false, true, true, false, false, false, false, false, false, false] KK1 [f1_0, f1_1, f1_2, f1_3, f1_17, f1_8, f1_13, f1_14, f1_15] M1_11 := by
   intro _
   subst hA
   refine AAny.step [141] [4, 7] (by decide +kernel) (by simp) (by decide) ⟨?_, ?_, trivial⟩
   ·
    show aopsR _ _ _ [_] _ _ _
    refine ar_loads rfl (i := 1) rfl hNb1 rfl rfl rfl rfl (Nat.le_of_ble_eq_true rfl) ?_
    refine AAny.keep [0, 1, 2, 4, 11, 137, 141, 142, 143] (by decide) ?_
    exact s7 trivial
   ·
    show aopsR _ _ _ [_] _ _ _
    refine ar_loadp rfl (v := .agg [.int .i64 v.kind, .int .i64 v.n, .str v.s, .slice false (v.l.map valIn), .slice false (v.f.map fldIn)]) rfl (wth_get 0 hNb1 rfl) rfl (apartOk_agg rfl rfl (Nat.le_of_ble_eq_true rfl)) rfl ?_
    refine AAny.keep [0, 1, 2, 4, 137, 140, 142, 143, 144] (by decide) ?_
    exact s8 trivial
  clear s7 s8
  subst hA
  refine AAny.fMove (i := 0) rfl rfl rfl (by decide) rfl (by decide +kernel) rfl ?_
  refine AAny.fMove (i := 1) rfl rfl rfl (by decide) rfl (by decide +kernel) rfl ?_
  refine AAny.fNil (i := 2) rfl rfl rfl (by decide) rfl (by decide +kernel) rfl ?_
  refine AAny.fField (i := 3) rfl rfl rfl (by decide) rfl (by decide +kernel) rfl rfl ⟨rfl, by decide⟩ ?_
  refine AAny.fMove (i := 5) rfl rfl rfl (by decide) rfl (by decide +kernel) rfl ?_
  refine AAny.fMove (i := 6) rfl rfl rfl (by decide) rfl (by decide +kernel) rfl ?_
  refine AAny.keep [0, 1, 2, 4, 11, 137, 140, 142, 143] (by decide) ?_
  exact s9 trivial
 intro b42 hFb42 hNv1 zs42 htb42 hlb42
 refine hK1 _ _ ?_; clear hK1 K1
 refine hK13 _ _ ?_; clear hK13
 refine awp_reg2_seq [173] [4] (by decide) ?_
 intro K1 hK1
 refine ⟨trivial, trivial, trivial, ⟨rfl, by decide⟩, ?_⟩
 refine ar_loads rfl (i := 2) rfl hNv1 rfl rfl rfl rfl (Nat.le_of_ble_eq_true rfl) ?_
 refine ⟨trivial, trivial, trivial, ⟨rfl, by simp only [List.forall_mem_cons]; exact ⟨rfl, rfl, rfl, fun _ h => by cases h⟩, by simp only [List.forall_mem_cons]; exact ⟨rfl, rfl, rfl, fun _ h => by cases h⟩⟩, ⟨rfl, Nat.le_of_ble_eq_true rfl, rfl, Nat.le_of_ble_eq_true rfl, rfl, by simp only [List.forall_mem_cons]; exact ⟨⟨rfl, rfl⟩, fun _ h => by cases h⟩⟩, ?_⟩
 refine ar_append rfl dn3AV (toksR c2.tokens) ([(⟨token, 1, c.next⟩ : Dn3)] : List Dn3) rfl rfl rfl rfl rfl rfl (Nat.le_of_ble_eq_true rfl) rfl (by (simp only [show Try.prog.bytesOf 140 = 32 from rfl, List.length_append, List.length_cons, List.length_nil]; omega)) (by (first | omega | (simp only [List.length_append, List.length_cons, List.length_nil]; omega))) (fun _ => ⟨rfl, rfl⟩) ?_
 refine ⟨trivial, ⟨rfl, by decide⟩, ?_⟩
 refine ar_storep rfl 2 (v := .slice true (((toksR c2.tokens) ++ ([(⟨token, 1, c.next⟩ : Dn3)] : List Dn3)).map dn3AV)) (l' := [.ptr ⟨e, 0, none⟩, .ms ⟨b42, 0, none⟩ (k + ([(⟨c.next, kind, v⟩ : Thg)] : List Thg).length) zs42.length, .slice true (((toksR c2.tokens) ++ ([(⟨token, 1, c.next⟩ : Dn3)] : List Dn3)).map dn3AV), .int .i64 c2.next, .int .i64 c2.quota, .int .i64 c2.calls, .slice true (F.map intAV)]) rfl rfl hNv1 rfl rfl rfl rfl rfl (Nat.le_of_ble_eq_true rfl) rfl ?_
 show K1 [(4, .int .i64 c.next)] (AMem.wth m [(b42, .cells (flatK thgAV zs42)), (b1, vObj v), (r, .cells [.ptr ⟨e, 0, none⟩, .ms ⟨b42, 0, none⟩ (k + ([(⟨c.next, kind, v⟩ : Thg)] : List Thg).length) zs42.length, .slice true (((toksR c2.tokens) ++ ([(⟨token, 1, c.next⟩ : Dn3)] : List Dn3)).map dn3AV), .int .i64 c2.next, .int .i64 c2.quota, .int .i64 c2.calls, .slice true (F.map intAV)]), (e, zR ((stepF s).1))])
 refine hK1 _ _ ?_; clear hK1 K1
 refine awp_reg2_seq [] [12, 13] (by decide) ?_
 intro K1 hK1
 refine ⟨trivial, trivial, trivial, ?_⟩
 show K1 [(12, .int .i64 c.next), (13, .int .i64 0)] _
 refine hK1 _ _ ?_; clear hK1 K1
 refine awp_ret ?_
 refine ⟨trivial, trivial, (AMem.wth m [(b42, .cells (flatK thgAV zs42)), (r, .cells [.ptr ⟨e, 0, none⟩, .ms ⟨b42, 0, none⟩ (k + ([(⟨c.next, kind, v⟩ : Thg)] : List Thg).length) zs42.length, .slice true (((toksR c2.tokens) ++ ([(⟨token, 1, c.next⟩ : Dn3)] : List Dn3)).map dn3AV), .int .i64 c2.next, .int .i64 c2.quota, .int .i64 c2.calls, .slice true (F.map intAV)]), (e, zR ((stepF s).1))]), (wth_keep (m := m) (L := [(b42, .cells (flatK thgAV zs42)), (b1, vObj v), (r, .cells [.ptr ⟨e, 0, none⟩, .ms ⟨b42, 0, none⟩ (k + ([(⟨c.next, kind, v⟩ : Thg)] : List Thg).length) zs42.length, .slice true (((toksR c2.tokens) ++ ([(⟨token, 1, c.next⟩ : Dn3)] : List Dn3)).map dn3AV), .int .i64 c2.next, .int .i64 c2.quota, .int .i64 c2.calls, .slice true (F.map intAV)]), (e, zR ((stepF s).1))]) (L1 := [(b42, .cells (flatK thgAV zs42)), (r, .cells [.ptr ⟨e, 0, none⟩, .ms ⟨b42, 0, none⟩ (k + ([(⟨c.next, kind, v⟩ : Thg)] : List Thg).length) zs42.length, .slice true (((toksR c2.tokens) ++ ([(⟨token, 1, c.next⟩ : Dn3)] : List Dn3)).map dn3AV), .int .i64 c2.next, .int .i64 c2.quota, .int .i64 c2.calls, .slice true (F.map intAV)]), (e, zR ((stepF s).1))]) (L2 := [(b1, vObj v)]) hNv1 (pick_perm [0, 1, 1] _) (by simp only [List.map_cons, List.map_nil, List.forall_mem_cons]; exact ⟨hFb1, fun _ h => by cases h⟩)), ?_⟩
 show K (.tuple [.int .i64 c.next, .int .i64 0]) (AMem.wth m [(b42, .cells (flatK thgAV zs42)), (r, .cells [.ptr ⟨e, 0, none⟩, .ms ⟨b42, 0, none⟩ (k + ([(⟨c.next, kind, v⟩ : Thg)] : List Thg).length) zs42.length, .slice true (((toksR c2.tokens) ++ ([(⟨token, 1, c.next⟩ : Dn3)] : List Dn3)).map dn3AV), .int .i64 c2.next, .int .i64 c2.quota, .int .i64 c2.calls, .slice true (F.map intAV)]), (e, zR ((stepF s).1))])

 have hnd : ([b42, r, e] : List Nat).Nodup := by simp at hNv1 ⊢; omega
 have hT8 : HidR thgAV m [r, e] [(b42, .cells (flatK thgAV zs42))] (.ms ⟨b42, 0, none⟩ (k + 1) zs42.length) (vals c ++ [(⟨c.next, kind, v⟩ : Thg)]) := HidR.row hFb42 (by simp at hnd ⊢; omega) hlb42 (by rw [← hv]; exact htb42)
 rw [← vals_put hcl] at hT8
 subst hc2
 have h8 := hK _ (createD_8 (by omega) (by assumption) hs0 hb0 htk0 (by omega)) _ _ hT8
 rw [hid_front (m := m) (b := b42) (by simpa using hnd)]
 exact Eq.mp (congrArg (fun o => K (.tuple [.int .i64 c.next, .int .i64 0]) ((m.wth [(b42, .cells (flatK thgAV zs42))]).wth [(r, o), (e, rObj (rT q (stepF s).1))])) (rcObj_put htk0 _ _ _)) h8

end Go.Proofs
end
